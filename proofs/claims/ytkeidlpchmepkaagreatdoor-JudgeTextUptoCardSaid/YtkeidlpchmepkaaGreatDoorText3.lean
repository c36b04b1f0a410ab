/-
  Part 3 of the proof of JudgeTextUptoCardSaid: a logic over the model, the forms of the functions that the law reaches, and what they compute.
-/
import Derived.IntWalk
import Derived.Test.YtkeidlpchmepkaaGreatDoorText2
set_option linter.unusedVariables false
set_option linter.unusedSimpArgs false
set_option linter.defProp false
set_option linter.unusedSectionVars false
namespace Go.Am
section
variable {P:Program} {d:Option Nat} {r:List AO} {K:St→Prop} {t:List V} {l:List (List V)} {σ:ae} {x y z:X} {Q:Exit→St→Prop} {st:St} {a b:AC}
theorem asx:vc P .skip Q st=Q .normal st:=rfl
theorem ast {o:List AO}:vc P (.aa o) Q st=bA P o (Q .normal) st:=rfl
theorem asy:vc P (.mQ a) Q st=ba st (vc P a Q):=rfl
theorem asp {o:List (AO × List Nat)}:vc P (.draw o) Q ⟨t,l,σ⟩=bL P o [(l,σ)] [] (Q .normal) ⟨t,l,σ⟩:=rfl
theorem asw:vc P (.seq a b) Q st=vc P a (AZ (vc P b Q) Q) st:=rfl
def AM (P:Program) (v:V) (a b:AC) (Q:Exit→St→Prop) (st:St):Prop:=match v with | .bool c=>(c=true→vc P a Q st)∧(c=false→vc P b Q st) | _=>False
theorem aso:vc P (.cond x a b) Q st=AM P (ev st x) a b Q st:=rfl
theorem asm:AM P (.bool true) a b Q st=vc P a Q st:=by simp[AM]
theorem asl:AM P (.bool false) a b Q st=vc P b Q st:=by simp[AM]
theorem fL {c:Bool} (h1:c=true→vc P a Q st) (U:c=false→vc P b Q st):AM P (.bool c) a b Q st:=⟨h1,U⟩
theorem ML {l:List AO} {x:X} {dI dN dM out nxt:Nat} {y:AC} (h:bA P l (fun lM=>∃s:List UInt8,ev lM x = .str s∧(∀c∈s,c.toNat<128)∧∃I:Nat→Nat→St→Prop,
      (∀b,ba (lM.put (some dI) (.raw (.pointer (some ⟨b,0,none⟩)))) (I b 0)) ∧
      (∀b i aq,I b i aq → aq.t.getD dI .any = .raw (.pointer (some ⟨b,0,none⟩))∧dN<aq.t.length∧dM<aq.t.length) ∧
      (∀b i c aq,s[i]?=some c→I b i aq → vc P y (pG nxt (uV out (I b (i+1)) Q)) ((aq.put (some dN) (.aX [.bool true,.int .i64 (i:Nat),.int .i32 (c.toNat:Nat)])).put (some dM) (.bool true))) ∧
      (∀b aq,I b s.length aq → Q .normal ((aq.put (some dN) (.aX [.bool false])).put (some dM) (.bool false)))) st):vc P (.As l x dI dN dM out nxt y) Q st:=h
theorem aps {out:Nat} {J:St→Prop}:uV out J Q .normal st=ba st J:=rfl
theorem apr {out id:Nat} {J:St→Prop}:uV out J Q (.exit id) st=if id=out then Q .normal st else Q (.exit id) st:=rfl
theorem apt {out:Nat} {J:St→Prop}:uV out J Q .ret st=Q .ret st:=rfl
theorem asv:vc P (.scope a) Q st=vc P a (yY Q) st:=rfl
theorem amI:yY Q .normal st=Q .normal st:=rfl
theorem amH {id:Nat}:yY Q (.exit id) st=Q (.exit id) st:=rfl
theorem amJ:yY Q .ret st=Q .ret st:=rfl
theorem asn {id:Nat}:vc P (.block id a) Q st=vc P a (pG id Q) st:=rfl
theorem asr {id:Nat}:vc P (.exit id) Q st=Q (.exit id) st:=rfl
theorem asu:vc P .ret Q st=Q .ret st:=rfl
theorem aar:AZ K Q .normal st=K st:=rfl
theorem aaq {id:Nat}:AZ K Q (.exit id) st=Q (.exit id) st:=rfl
theorem aas:AZ K Q .ret st=Q .ret st:=rfl
theorem aaS {id:Nat}:pG id Q .normal st=Q .normal st:=rfl
theorem aaT {id:Nat}:pG id Q .ret st=Q .ret st:=rfl
theorem aaR {id xW : Nat}:pG id Q (.exit xW) st=if xW = id then Q .normal st else Q (.exit xW) st:=rfl
theorem alW {ι:Type} {I:ι→St} {μ:ι→Nat} {n id:Nat}:wB I μ Q n (.exit id) st=Q (.exit id) st:=rfl
theorem alY {ι:Type} {I:ι→St} {μ:ι→Nat} {n:Nat}:wB I μ Q n .ret st=Q .ret st:=rfl
theorem alX {ι:Type} {I:ι→St} {μ:ι→Nat} {n:Nat}:wB I μ Q n .normal st=ba st fun aq => ∃j,aq = I j∧μ j<n:=rfl
theorem j6 {ι:Type} (I:ι→St) (μ:ι→Nat) (h0:ba st fun aq => ∃i,aq = I i) (h:∀i,vc P a (wB I μ Q (μ i)) (I i)):vc P (.loop a) Q st:=⟨ι,I,μ,h0,h⟩
theorem ap5 {rs:List RV} {R' : V→ae→Prop}:D3 rs R' .ret st=opt ((rj st rs).map qn) (nU R' st):=rfl
theorem ap4 {rs:List RV} {R' : V→ae→Prop}:D3 rs R' .normal st=opt ((rj st rs).map qn) (nU R' st):=rfl
theorem an3 {v:V} {K:V→Prop}:opt (some v) K=K v:=rfl
theorem aqC:rj st []=some []:=rfl
def R1 (v:Option V) (l:Option (List V)):Option (List V):=v.bind fun x=>l.map (x::·)
theorem ace {v:V} {l:List V}:R1 (some v) (some l)=some (v::l):=rfl
theorem aqB {y:RV} {rs:List RV}:rj st (y::rs)=R1 (rv st y) (rj st rs):=rfl
theorem aqA {n:Nat}:rv ⟨t,l,σ⟩ (.tmp n)=some (t.getD n .any):=rfl
theorem aqz {n m:Nat} {g:Bool}:rv ⟨t,l,σ⟩ (.cell n g m)=jV ⟨t,l,σ⟩ g m (t.getD n .any):=rfl
theorem anN {v:V}:qn [v]=v:=rfl
theorem anM:qn [] = .aX []:=rfl
theorem anL {u v:V} {l:List V}:qn (u::v::l) = .aX (u::v::l):=rfl
theorem amb {v:List V} {f:List V→V}:Option.map f (some v)=some (f v):=rfl
theorem aG {R' : V→ae→Prop} {v:V} (h1:v.cc=true) {σ' : ae} (U:σ'.sub σ) (h3:R' v.erase σ'):nU R' ⟨t,l,σ⟩ v:=⟨h1,σ',U,h3⟩
theorem az {w v:V} (h:v.erase=w) (h1:v.cc=true:=by rfl):nU (fun v σ' => v=w∧σ' = σ) ⟨t,l,σ⟩ v:=aG h1 (ae.aW _) ⟨h,rfl⟩
theorem aey {n:Nat}:ev ⟨t,l,σ⟩ (.s n)=t.getD n .any:=rfl
theorem aew {v:V}:ev st (.c v)=v:=rfl
theorem aeA:cr st []=[]:=rfl
theorem aez {xs:List X}:cr st (x::xs)=ev st x::cr st xs:=rfl
theorem aiu {v w:V}:(v::t).getD 0 w=v:=rfl
theorem ait {v w:V} {n:Nat}:(v::t).getD (n+1) w=t.getD n w:=rfl
theorem aq2 {v w:V}:(v::t).set 0 w=w::t:=rfl
theorem aq0 {v w:V} {n:Nat}:(v::t).set (n+1) w=v::t.set n w:=rfl
theorem apa {n:Nat} {v:V}:St.put ⟨t,l,σ⟩ (some n) v=⟨t.set n v,l,σ⟩:=rfl
theorem ao' {v:V}:St.put st none v=st:=rfl
theorem anz:bA P [] K st=K st:=rfl
def kL (P:Program) (d:Option Nat) (r:List AO) (K:St→Prop) (st:St) (v:V):Prop:=bA P r K (st.put d v)
theorem akB {v:V}:kL P d r K ⟨t,l,σ⟩ v=bA P r K (St.put ⟨t,l,σ⟩ d v):=rfl
def nD (o:Option V) (K:V→Prop):Prop:=match o with | some v=>K v | none=>False
theorem an0 {v:V} {K:V→Prop}:nD (some v) K=K v:=rfl
theorem anx:bA P (⟨d,.mv x,none⟩::r) K st=bA P r K (st.put d (ev st x)):=rfl
def ra (P:Program) (v a b:V) (d:Option Nat) (r:List AO) (K:St→Prop) (st:St):Prop:=match v with | .bool true=>bA P r K (st.put d a) | .bool false=>bA P r K (st.put d b) | _=>False
theorem anD:bA P (⟨d,.pick x y z,none⟩::r) K st=ra P (ev st x) (ev st y) (ev st z) d r K st:=by
  simp only[bA,ar.aM,ra];cases ev st x<;>first | rfl | (rename_i b;cases b<;>rfl)
theorem aoG {u v:V}:ra P (.bool true) u v d r K st=bA P r K (st.put d u):=rfl
theorem aoE {u v:V}:ra P (.bool false) u v d r K st=bA P r K (st.put d v):=rfl
theorem aoF {b c:Bool}:ra P (.bool b) (.bool c) (.bool false) d r K st=bA P r K (st.put d (.bool (b&&c))):=by cases b<;>simp[ra]
theorem aoH {b c:Bool}:ra P (.bool b) (.bool true) (.bool c) d r K st=bA P r K (st.put d (.bool (b||c))):=by cases b<;>simp[ra]
theorem am7 {c:List V}:bA P (⟨d,.alloc c,none⟩::r) K ⟨t,l,σ⟩=bA P r K (St.put ⟨t,l++[c],σ⟩ d (.ptr (.loc l.length) 0)):=rfl
theorem anc {n:Nat}:bA P (⟨d,.box n x,none⟩::r) K ⟨t,l,σ⟩=((ev ⟨t,l,σ⟩ x).wd=some n∧bA P r K (St.put ⟨t,l++[(ev ⟨t,l,σ⟩ x).cells],σ⟩ d (.ptr (.loc l.length) 0))):=rfl
def kO (P:Program) (d:Option Nat) (r:List AO) (K:St→Prop) (st:St) (cs:List V):Prop:=∀b,st.out.box b=none→bA P r K (St.put ⟨st.t,st.loc,st.out.set b cs⟩ d (.ptr (.out b) 0))
theorem am8 {c:List V}:bA P (⟨d,.mX c,none⟩::r) K st=(bm c=true∧kO P d r K st c):=rfl
theorem ane {n:Nat}:bA P (⟨d,.ff n x,none⟩::r) K st=((ev st x).wd=some n∧bm (ev st x).cells=true∧kO P d r K st (ev st x).cells):=rfl
theorem iw {c:List V} (h:∀b,σ.box b=none→bA P r K (St.put ⟨t,l,σ.set b c⟩ d (.ptr (.out b) 0))):kO P d r K ⟨t,l,σ⟩ c:=h
theorem ang {c:List V} {ps:List (Nat × Nat × X)}:bA P (⟨d,.build c ps,none⟩::r) K st=nD ((mw st c ps).map V.agg) (kL P d r K st):=rfl
def Lr (o:Option (List (List V))) (k:Nat) (K:V→Prop):Prop:=match o with | some v=>K (.sl .full k v) | none=>False
theorem an1 {v:List (List V)} {k:Nat} {K:V→Prop}:Lr (some v) k K=K (.sl .full k v):=rfl
theorem anf {k:Nat} {xs:List X}:bA P (⟨d,.cR k xs,none⟩::r) K st=Lr (j4 st k xs) k (kL P d r K st):=by
  simp only[bA,ar.aM];cases j4 st k xs<;>rfl
theorem o_load {g:Bool} {n:Nat}:bA P (⟨d,.load g n x,none⟩::r) K st=nD (jV st g n (ev st x)) (kL P d r K st):=rfl
def Ls (P:Program) (o:Option St) (d:Option Nat) (r:List AO) (K:St→Prop):Prop:=match o with | some st=>bA P r K (st.put d .any) | none=>False
theorem an2:Ls P (some st) d r K=bA P r K (st.put d .any):=rfl
theorem anG {n:Nat}:bA P (⟨d,.store n x y,none⟩::r) K st=Ls P (cJ st n (ev st y) (ev st x)) d r K:=by
  simp only[bA,ar.aM,Ls];cases cJ st n (ev st y) (ev st x)<;>rfl
def yl (v:V) (K:V→Prop):Prop:=match v with | .ptr p o=>K (.ptr p o) | .elt c o=>K (.elt c o) | .fn (.func f) a b=>K (.fn (.func f) a b) | _=>False
theorem anA:bA P (⟨d,.sI x,none⟩::r) K st=yl (ev st x) (kL P d r K st):=by
  simp only[bA,ar.aM,yl];cases ev st x<;>first | rfl | (rename_i f _ _;cases f<;>rfl)
theorem amE {p:Pl} {o:Nat} {K:V→Prop}:yl (.ptr p o) K=K (.ptr p o):=rfl
theorem amC {c:List V} {o:Nat} {K:V→Prop}:yl (.elt c o) K=K (.elt c o):=rfl
theorem amD {f:FuncId} {c e:List V} {K:V→Prop}:yl (.fn (.func f) c e) K=K (.fn (.func f) c e):=rfl
theorem ana {op:BinOp}:bA P (⟨d,.dA op x y,none⟩::r) K st=nD (rV op (ev st x) (ev st y)) (kL P d r K st):=rfl
theorem anb {op:BinOp}:bA P (⟨d,.iG op x y,none⟩::r) K st=nD (wP op (ev st x) (ev st y)) (kL P d r K st):=rfl
theorem am' {n:Bool}:bA P (⟨d,.tq n x y,none⟩::r) K st=nD (vb n (ev st x) (ev st y)) (kL P d r K st):=rfl
def En (u v:V) (K:V→Prop):Prop:=∃a b,u = .str a∧v = .str b∧a.length+b.length≤aF∧K (.str (a++b))
theorem anj:bA P (⟨d,.cat x y,none⟩::r) K st=En (ev st x) (ev st y) (kL P d r K st):=rfl
theorem abx {a b:List UInt8} {K:V→Prop}:En (.str a) (.str b) K=(a.length+b.length≤aF∧K (.str (a++b))):=by
  simp only[En,V.str.injEq,eq_iff_iff];constructor
  · rintro⟨a',b',rfl,rfl,h1,U⟩;exact⟨h1,U⟩
  · rintro⟨h1,U⟩;exact⟨a,b,rfl,rfl,h1,U⟩
theorem anm {n:Bool} {ks:List Nat}:bA P (⟨d,.kS n ks x y,none⟩::r) K st=nD (va n ks (ev st x) (ev st y)) (kL P d r K st):=rfl
def CR (v:V) (K:V→Prop):Prop:=match v with | .bool b=>K (.bool (!b)) | _=>False
theorem anB:bA P (⟨d,.not x,none⟩::r) K st=CR (ev st x) (kL P d r K st):=by
  simp only[bA,ar.aM,CR];cases ev st x<;>rfl
theorem am1 {b:Bool} {K:V→Prop}:CR (.bool b) K=K (.bool (!b)):=rfl
def yd (v:V) (K:V→Prop):Prop:=match v with | .sl _ _ l=>K (.int .i64 l.length) | .raw (.slice _ n _)=>K (.int .i64 n) | _=>False
theorem anu:bA P (⟨d,.sC x,none⟩::r) K st=yd (ev st x) (kL P d r K st):=by
  simp only[bA,ar.aM,yd];cases ev st x<;>rfl
theorem ale {τ:Tk} {k:Nat} {m:List (List V)} {K:V→Prop}:yd (.sl τ k m) K=K (.int .i64 m.length):=rfl
def CG (v:V) (K:V→Prop):Prop:=match v with | .str s=>K (.int .i64 s.length) | _=>False
theorem anv:bA P (⟨d,.sD x,none⟩::r) K st=CG (ev st x) (kL P d r K st):=by
  simp only[bA,ar.aM,CG];cases ev st x<;>rfl
theorem alf {s:List UInt8} {K:V→Prop}:CG (.str s) K=K (.int .i64 s.length):=rfl
def zr (off:Nat) (v:V) (K:V→Prop):Prop:=match v with | .ptr p o=>K (.ptr p (o+off)) | .elt c o=>K (.elt c (o+off)) | _=>False
theorem ano {n:Nat}:bA P (⟨d,.mB n x,none⟩::r) K st=zr n (ev st x) (kL P d r K st):=by
  simp only[bA,ar.aM,zr];cases ev st x<;>rfl
theorem afb {p:Pl} {o n:Nat} {K:V→Prop}:zr n (.ptr p o) K=K (.ptr p (o+n)):=rfl
theorem afa {c:List V} {o n:Nat} {K:V→Prop}:zr n (.elt c o) K=K (.elt c (o+n)):=rfl
def BI (g:Bool) (off n:Nat) (v:V) (K:V→Prop):Prop:=match v with | .agg cs=>nD (bf g n (cs.drop off)) K | _=>False
theorem anp {g:Bool} {n m:Nat}:bA P (⟨d,.pP g m n x,none⟩::r) K st=BI g m n (ev st x) (kL P d r K st):=by
  simp only[bA,ar.aM,BI];cases ev st x<;>rfl
theorem afc {g:Bool} {n m:Nat} {cs:List V} {K:V→Prop}:BI g m n (.agg cs) K=nD (bf g n (cs.drop m)) K:=rfl
def xX (k:Nat) (v i:V) (K:V→Prop):Prop:=match v with
  | .sl _ k' l=>k' = k∧Hx l i fun c=>K (.elt c 0)
  | .raw (.slice (some ⟨b,o,none⟩) n _)=>∃ik j,i = .int ik j∧0≤j∧j<n∧K (.ptr (.out b) (o+j.toNat*k))
  | _=>False
theorem anr {k:Nat}:bA P (⟨d,.kv k x y,none⟩::r) K st=xX k (ev st x) (ev st y) (kL P d r K st):=by
  simp only[bA,ar.aM,xX];cases ev st x<;>rfl
theorem bD {k:Nat} {τ:Tk} {m:List (List V)} {ik:IntKind} {n:Int} {c:List V} {K:V→Prop} (h0:0≤n) (h:m[n.toNat]?=some c) (hk:K (.elt c 0)):xX k (.sl τ k m) (.int ik n) K:=⟨rfl,ik,n,c,rfl,h0,h,hk⟩
def zZ (m k:Nat) (v i:V) (K:V→Prop):Prop:=match v with
  | .ptr p o=>∃kk n,i = .int kk n∧0≤n∧n<(m:Nat)∧K (.ptr p (o+n.toNat*k))
  | .elt c o=>∃kk n,i = .int kk n∧0≤n∧n<(m:Nat)∧K (.elt c (o+n.toNat*k))
  | _=>False
theorem ans {m k:Nat}:bA P (⟨d,.fk m k x y,none⟩::r) K st=zZ m k (ev st x) (ev st y) (kL P d r K st):=by
  simp only[bA,ar.aM,zZ];cases ev st x<;>rfl
theorem jx {m k o:Nat} {p:Pl} {ik:IntKind} {n:Int} {K:V→Prop} (h0:0≤n) (h:n<(m:Nat)) (hk:K (.ptr p (o+n.toNat*k))):zZ m k (.ptr p o) (.int ik n) K:=⟨ik,n,rfl,h0,h,hk⟩
theorem FJ {m k o:Nat} {c:List V} {ik:IntKind} {n:Int} {K:V→Prop} (h0:0≤n) (h:n<(m:Nat)) (hk:K (.elt c (o+n.toNat*k))):zZ m k (.elt c o) (.int ik n) K:=⟨ik,n,rfl,h0,h,hk⟩
def Cr (v i:V) (K:V→Prop):Prop:=match v with | .str s=>∃k n c,i = .int k n∧0≤n∧s[n.toNat]?=some c∧K (.int .u8 c.toNat) | _=>False
theorem ant:bA P (⟨d,.qP x y,none⟩::r) K st=Cr (ev st x) (ev st y) (kL P d r K st):=by
  simp only[bA,ar.aM,Cr];cases ev st x<;>rfl
theorem z_ {s:List UInt8} {ik:IntKind} {n:Int} {c:UInt8} {K:V→Prop} (h0:0≤n) (h:s[n.toNat]?=some c) (hk:K (.int .u8 c.toNat)):Cr (.str s) (.int ik n) K:=⟨ik,n,c,rfl,h0,h,hk⟩
def kC (P:Program) (d:Option Nat) (r:List AO) (K:St→Prop) (t:List V) (l:List (List V)) (v:V) (σ:ae):Prop:=bA P r K (St.put ⟨t,l,σ⟩ d v)
theorem akz {v:V}:kC P d r K t l v σ=bA P r K (St.put ⟨t,l,σ⟩ d v):=rfl
theorem anh {f:FuncId} {xs:List X}:bA P (⟨d,.call f xs,none⟩::r) K ⟨t,l,σ⟩=(bm (cr ⟨t,l,σ⟩ xs)=true∧al P f (cr ⟨t,l,σ⟩ xs) σ (kC P d r K t l)):=rfl
def Ic (P:Program) (v:V) (args:List V) (σ:ae) (K:V→ae→Prop):Prop:=match v with | .fn (.func f) a b=>bm (a++args++b)=true∧al P f (a++args++b) σ K | _=>False
theorem ani {xs:List X}:bA P (⟨d,.gC x xs,none⟩::r) K ⟨t,l,σ⟩=Ic P (ev ⟨t,l,σ⟩ x) (cr ⟨t,l,σ⟩ xs) σ (kC P d r K t l):=by
  simp only[bA,ar.aM,Ic];cases ev ⟨t,l,σ⟩ x<;>first | rfl | (rename_i f _ _;cases f<;>rfl)
theorem abt {f:FuncId} {u args v:List V} {K:V→ae→Prop}:Ic P (.fn (.func f) u v) args σ K=(bm (u++args++v)=true∧al P f (u++args++v) σ K):=rfl
theorem am9 {k:Nat}:bA P (⟨d,.app k x y,none⟩::r) K ⟨t,l,σ⟩=nN σ k (ev ⟨t,l,σ⟩ x) (ev ⟨t,l,σ⟩ y) (kC P d r K t l):=rfl
theorem am_:bA P (⟨d,.kc x y,none⟩::r) K ⟨t,l,σ⟩=(∃a,ev ⟨t,l,σ⟩ y = .str a∧nN σ 1 (ev ⟨t,l,σ⟩ x) (.sl .no 1 (cm a)) (kC P d r K t l)):=rfl
theorem ke {k:Nat} {τ:Nat} {u:Tk} {m n:List (List V)} {K:V→ae→Prop} (hb:m.length+n.length≤aF) (ht:σ.aC τ=some m.length) (hk:K (.sl (.tk τ) k (m++n)) (σ.aL τ (m.length+n.length))) :
    nN σ k (.sl (.tk τ) k m) (.sl u k n) K:=⟨_,m,n,rfl,⟨u,rfl⟩,hb,ht,hk⟩
theorem H5 {k:Nat} {u:Tk} {m n:List (List V)} {K:V→ae→Prop} (hb:m.length+n.length≤aF) (hk:∀τ,σ.aC τ=none→K (.sl (.tk τ) k (m++n)) (σ.aL τ (m.length+n.length))) :
    nN σ k (.sl .full k m) (.sl u k n) K:=⟨_,m,n,rfl,⟨u,rfl⟩,hb,.inl hk⟩
theorem H6 {k:Nat} {u:Tk} {m n:List (List V)} {K:V→ae→Prop} (hb:m.length+n.length≤aF) (hk:K (.sl .no k (m++n)) σ) :
    nN σ k (.sl .full k m) (.sl u k n) K:=⟨_,m,n,rfl,⟨u,rfl⟩,hb,.inr (.inl hk)⟩
def w7 (i:Nat) (v:V) (K:V→Prop):Prop:=match v with | .aX vs=>nD vs[i]? K | _=>False
theorem ann {i:Nat}:bA P (⟨d,.ext x i,none⟩::r) K st=w7 i (ev st x) (kL P d r K st):=by
  simp only[bA,ar.aM,w7];cases ev st x<;>rfl
theorem aeE {u:V} {us:List V} {K:V→Prop}:w7 0 (.aX (u::us)) K=K u:=rfl
theorem aeD {i:Nat} {u:V} {us:List V} {K:V→Prop}:w7 (i+1) (.aX (u::us)) K=w7 i (.aX us) K:=rfl
theorem anw {f:Fn} {as bs:List X}:bA P (⟨d,.ix f as bs,none⟩::r) K st=bA P r K (st.put d (.fn f (cr st as) (cr st bs))):=rfl
def Bt (k:IntKind) (v:V) (K:V→Prop):Prop:=match v with | .int _ n=>K (.int k (k.wrap n)) | _=>False
theorem anl {k:IntKind}:bA P (⟨d,.nZ k x,none⟩::r) K st=Bt k (ev st x) (kL P d r K st):=by
  simp only[bA,ar.aM,Bt];cases ev st x<;>rfl
theorem acK {k j:IntKind} {n:Int} {K:V→Prop}:Bt k (.int j n) K=K (.int k (k.wrap n)):=rfl
theorem ank:bA P (⟨d,.r6 x,none⟩::r) K st=(∃t s,ev st x = .sl t 1 (cm s)∧kL P d r K st (.str s)):=rfl
def gL (P:Program) (v:V) (w:Bool) (d:Option Nat) (op:ar) (r:List AO) (K:St→Prop) (st:St):Prop :=
  match v with
  | .bool b=>if b=w then bA P (⟨d,op,none⟩::r) K st else bA P r K (st.put d (.aX []))
  | .aX []=>bA P r K (st.put d (.aX []))
  | _=>False
theorem anq {g:Nat} {w:Bool} {op:ar}:bA P (⟨d,op,some (g,w)⟩::r) K ⟨t,l,σ⟩=gL P (t.getD g .any) w d op r K ⟨t,l,σ⟩:=by
  simp only[bA,gL,ev];generalize t.getD g .any=v;cases v<;>first | rfl | (rename_i m;cases m<;>rfl)
theorem aim {w:Bool} {op:ar}:gL P (.aX []) w d op r K st=bA P r K (st.put d (.aX [])):=rfl
theorem ail {op:ar}:gL P (.bool true) true d op r K st=bA P (⟨d,op,none⟩::r) K st:=rfl
theorem aii {op:ar}:gL P (.bool false) false d op r K st=bA P (⟨d,op,none⟩::r) K st:=rfl
theorem aik {op:ar}:gL P (.bool true) false d op r K st=bA P r K (st.put d (.aX [])):=rfl
theorem aij {op:ar}:gL P (.bool false) true d op r K st=bA P r K (st.put d (.aX [])):=rfl
def yb (c:Option (List V)) (g:Bool) (n o:Nat):Option V:=c.bind fun cs=>bf g n (cs.drop o)
theorem akZ {c:List V} {g:Bool} {n o:Nat}:yb (some c) g n o=bf g n (c.drop o):=rfl
theorem ak8 {g:Bool} {n i o:Nat}:jV ⟨t,l,σ⟩ g n (.ptr (.loc i) o)=yb l[i]? g n o:=rfl
theorem ak9 {g:Bool} {n i o:Nat}:jV ⟨t,l,σ⟩ g n (.ptr (.out i) o)=yb (σ.box i) g n o:=rfl
theorem ak7 {g:Bool} {n i o:Nat}:jV ⟨t,l,σ⟩ g n (.ptr (.jt i) o)=yb (σ.bR i) g n o:=rfl
theorem ak6 {g:Bool} {n o:Nat} {cs:List V}:jV st g n (.elt cs o)=bf g n (cs.drop o):=rfl
theorem yc {n:Nat} {cs:List V}:bf true n cs=(takeN n cs).map V.agg:=rfl
theorem ak0 {n:Nat} {c:V} {cs:List V}:bf false n (c::cs)=some c:=rfl
theorem arK {cs:List V}:takeN 0 cs=some []:=rfl
def VH (c:V):Option (List V)→Option (List V) | some l=>some (c::l) | none=>none
theorem MC {n:Nat} {c:V} {cs:List V}:takeN (n+1) (c::cs)=VH c (takeN n cs):=by
  simp only[takeN];cases takeN n cs<;>rfl
theorem ama {c:V} {cs:List V}:VH c (some cs)=some (c::cs):=rfl
theorem adw {cs:List V}:cs.drop 0=cs:=rfl
theorem adv {n:Nat} {c:V} {cs:List V}:(c::cs).drop (n+1)=cs.drop n:=rfl
def Yn (t:List V) (l:List (List V)) (σ:ae) (i o n:Nat) (x:V):Option (List V)→Option St
  | some cs=>if bI n (cs.drop o)=true∧x.wd=some n∧bE x.cells=true then some ⟨t,l.set i (setAt cs o x.cells),σ⟩ else none
  | none=>none
theorem arp {n i o:Nat} {v:V}:cJ ⟨t,l,σ⟩ n v (.ptr (.loc i) o)=Yn t l σ i o n v l[i]?:=by
  simp only[cJ];cases l[i]?<;>rfl
theorem arn {n i o:Nat} {v:V} {cs:List V}:Yn t l σ i o n v (some cs)=if bI n (cs.drop o)=true∧v.wd=some n∧bE v.cells=true then some ⟨t,l.set i (setAt cs o v.cells),σ⟩ else none:=rfl
def Yo (t:List V) (l:List (List V)) (σ:ae) (i o n:Nat) (x:V):Option (List V)→Option St
  | some cs=>if bI n (cs.drop o)=true∧x.wd=some n∧bE x.cells=true∧bm x.cells=true then some ⟨t,l,σ.set i (setAt cs o x.cells)⟩ else none
  | none=>none
theorem arq {n i o:Nat} {v:V}:cJ ⟨t,l,σ⟩ n v (.ptr (.out i) o)=Yo t l σ i o n v (σ.box i):=by
  simp only[cJ];cases σ.box i<;>rfl
theorem aro {n i o:Nat} {v:V} {cs:List V}:Yo t l σ i o n v (some cs)=if bI n (cs.drop o)=true∧v.wd=some n∧bE v.cells=true∧bm v.cells=true then some ⟨t,l,σ.set i (setAt cs o v.cells)⟩ else none:=rfl
theorem iM {b:Nat} {cs:List V}:(σ.set b cs).box b=some cs:=by simp[ae.set]
theorem rm {b c:Nat} {cs:List V} (h:c≠b):(σ.set b cs).box c=σ.box c:=by simp[ae.set,h]
theorem aqU {b τ n:Nat}:(σ.aL τ n).box b=σ.box b:=rfl
theorem aqX {b g:Nat} {cs:List V}:(σ.set b cs).bR g=σ.bR g:=rfl
theorem aqV {g τ n:Nat}:(σ.aL τ n).bR g=σ.bR g:=rfl
theorem aq1 {b τ:Nat} {cs:List V}:(σ.set b cs).aC τ=σ.aC τ:=rfl
theorem Ml {τ n:Nat}:(σ.aL τ n).aC τ=some n:=by simp[ae.aL]
theorem yz {τ υ n:Nat} (h:υ≠τ):(σ.aL τ n).aC υ=σ.aC υ:=by simp[ae.aL,h]
theorem aaW {c:List V}:mw st c []=some c:=rfl
def Rv (st:St) (c:List V) (off n:Nat) (v:V) (ps:List (Nat × Nat × X)):Option (List V):=if bI n (c.drop off)=true∧v.wd=some n then mw st (setAt c off v.cells) ps else none
theorem aaV {c:List V} {off n:Nat} {ps:List (Nat × Nat × X)}:mw st c ((off,n,x)::ps)=Rv st c off n (ev st x) ps:=rfl
theorem aaQ {c:List V} {off n:Nat} {v:V} {ps:List (Nat × Nat × X)}:Rv st c off n v ps=if bI n (c.drop off)=true∧v.wd=some n then mw st (setAt c off v.cells) ps else none:=rfl
theorem aql {k:Nat}:j4 st k []=some []:=rfl
def L2 (c:List V):Option (List (List V))→Option (List (List V)) | some l=>some (c::l) | none=>none
theorem aqc {c:List V} {m:List (List V)}:L2 c (some m)=some (c::m):=rfl
def L1 (st:St) (k:Nat) (v:V) (xs:List X):Option (List (List V)):=if v.wd=some k∧bm v.cells=true∧bE v.cells=true then L2 (a9 v.cells) (j4 st k xs) else none
theorem aqk {k:Nat} {xs:List X}:j4 st k (x::xs)=L1 st k (ev st x) xs:=by
  simp only[j4,L1];cases j4 st k xs<;>rfl
theorem ap_ {k:Nat} {v:V} {xs:List X}:L1 st k v xs=if v.wd=some k∧bm v.cells=true∧bE v.cells=true then L2 (a9 v.cells) (j4 st k xs) else none:=rfl
def cQ (v v' : V):Prop:=∀E u,R E v u→R E v' u
theorem cQ.rfl {v:V}:cQ v v:=fun _ _ h=>h
theorem cQ.any {v:V}:cQ v .any:=fun _ _ _=>by simp only[R]
theorem cQ.erase {v:V}:cQ v v.erase:=fun _ _ h=>R.erase v h
theorem cQ.no {τ:Tk} {k:Nat} {m:List (List V)}:cQ (.sl τ k m) (.sl .no k m):=fun _ _ h=>R.erase (.sl τ k m) h
theorem cQ.full {k:Nat}:cQ (.sl .full k []) (.sl .no k []):=cQ.no
def ck:List V→List V→Prop
  | [],[]=>True
  | v::l,v' :: l' => cQ v v' ∧ ck l l'
  | _,_=>False
theorem ck.rfl:∀{l:List V},ck l l
  | []=>trivial
  | _::_=>⟨cQ.rfl,ck.rfl⟩
theorem ck.mono:∀{l l' : List V} {E:Env} {us:List Value},ck l l' → RL E l us→RL E l' us
  | [],[],_,_,_,h=>h
  | [],_::_,_,_,h,_=>h.elim
  | _::_,[],_,_,h,_=>h.elim
  | v::l,v' :: l',_,[],_,h=>by simp[RL] at h
  | v :: l, v' :: l', _, u :: us, h, hr => by
    simp only[RL] at hr ⊢;exact⟨h.1 _ _ hr.1,ck.mono h.2 hr.2⟩
theorem ck.length:∀{l l' : List V},ck l l' → l.length=l'.length
  | [],[],_=>Eq.refl _
  | [],_::_,h=>h.elim
  | _::_,[],h=>h.elim
  | v::l,v' :: l',h=>by simp[ck.length h.2]
theorem ck.get:∀{l l' : List V},ck l l' → ∀(j:Nat) v',l'[j]?=some v' → ∃v,l[j]?=some v∧cQ v v'
  | [],[],_,j,v',h=>by simp at h
  | [],_::_,h,_,_,_=>h.elim
  | _::_,[],h,_,_,_=>h.elim
  | v :: l, w :: l', h, j, v', hj => by
    cases j with
    | zero=>simp at hj;subst hj;exact⟨v,by simp,h.1⟩
    | succ j=>simp at hj;obtain⟨u,h1,U⟩:=ck.get h.2 j v' hj;exact⟨u,by simpa using h1,U⟩
def cj:List (List V)→List (List V)→Prop
  | [],[]=>True
  | v::l,v' :: l' => ck v v' ∧ cj l l'
  | _,_=>False
theorem cj.rfl:∀{l:List (List V)},cj l l
  | []=>trivial
  | _::_=>⟨ck.rfl,cj.rfl⟩
theorem cj.length:∀{l l' : List (List V)},cj l l' → l.length=l'.length
  | [],[],_=>Eq.refl _
  | [],_::_,h=>h.elim
  | _::_,[],h=>h.elim
  | v::l,v' :: l',h=>by simp[cj.length h.2]
theorem cj.get:∀{l l' : List (List V)},cj l l' → ∀(j:Nat) v',l'[j]?=some v' → ∃v,l[j]?=some v∧ck v v'
  | [],[],_,j,v',h=>by simp at h
  | [],_::_,h,_,_,_=>h.elim
  | _::_,[],h,_,_,_=>h.elim
  | v :: l, w :: l', h, j, v', hj => by
    cases j with
    | zero=>simp at hj;subst hj;exact⟨v,by simp,h.1⟩
    | succ j=>simp at hj;obtain⟨u,h1,U⟩:=cj.get h.2 j v' hj;exact⟨u,by simpa using h1,U⟩
theorem ig.dK {E:Env} {b:Nat} {cs cs' : List V} (h:ck cs cs') (k:ig E b cs):ig E b cs' := by
  obtain⟨c,e,h1,U,h3⟩:=k;refine⟨c,e,h1,by rw[←h.length];exact U,fun j x hx=>?_⟩;obtain⟨v,hv,hle⟩:=h.get j x hx;obtain⟨u,k1,k2⟩:=h3 j v hv;exact⟨u,k1,hle _ _ k2⟩
structure bG (σ σ' : ae):Prop where
  box:∀b cs',σ'.box b=some cs' → ∃cs,σ.box b=some cs∧ck cs cs'
  aC:∀τ n,σ'.aC τ=some n→σ.aC τ=some n
  bR:∀b cs,σ'.bR b=some cs→σ.bR b=some cs
theorem bG.rfl {σ:ae}:bG σ σ:=⟨fun _ cs h=>⟨cs,h,ck.rfl⟩,fun _ _ h=>h,fun _ _ h=>h⟩
theorem ba.dK {t t' : List V} {l l' : List (List V)} {σ σ' : ae} (h:ck t t') (hl:cj l l') (ho:bG σ σ') (hk:K ⟨t',l',σ'⟩):ba ⟨t,l,σ⟩ K:=by
  intro E a hs;refine⟨E,_,rfl,Fr.refl E,⟨⟨fun b cs hcs=>?_,fun τ n hn=>hs.ok.aC τ n (ho.aC τ n hn),hs.ok.fresh,hs.ok.nt,fun b cs hc=>hs.ok.bR b cs (ho.bR b cs hc)⟩,⟨fun i cs hcs=>?_,fun i hi=>hs.cg.none i (by rw[hl.length];exact hi)⟩,hs.defers,h.mono hs.slot⟩,hk⟩
  · obtain⟨wV,h1,U⟩:=ho.box b cs hcs;obtain⟨k1,k2⟩:=hs.ok.box b wV h1;exact⟨k1,k2.dK U⟩
  · obtain⟨wV,h1,U⟩:=hl.get i cs hcs;obtain⟨b,k1,k2,k3⟩:=hs.cg.box i wV h1;exact⟨b,k1,k2,k3.dK U⟩
theorem ba.aJ {t t' : List V} {l:List (List V)} {σ:ae} (h:ck t t') (hk:K ⟨t',l,σ⟩):ba ⟨t,l,σ⟩ K:=ba.dK h cj.rfl bG.rfl hk
theorem al.dK {f:FuncId} {as as' : List V} {σ σ' : ae} {R' : V→ae→Prop} (h:al P f as' σ' R') (ha:ck as as') (ho:bG σ σ'):al P f as σ R' := by
  refine⟨h.1,fun E vs h1 U h3=>h.2 E vs h1 ?_ (ha.mono h3)⟩;refine⟨fun b cs hcs=>?_,fun τ n hn=>U.aC τ n (ho.aC τ n hn),U.fresh,U.nt,fun b cs hc=>U.bR b cs (ho.bR b cs hc)⟩;obtain⟨wV,k1,k2⟩:=ho.box b cs hcs;obtain⟨k3,k4⟩:=U.box b wV k1;exact⟨k3,k4.dK k2⟩
end
section
variable {P:Program} {d:Option Nat} {r:List (AO × List Nat)} {K:St→Prop} {t:List V} {l:List (List V)} {σ:ae} {x y z:X} {st:St} {SN:List cy} {L:List (V × Bool × Nat × V × List Nat)} {ms:List Nat}
theorem adh:bL P [] SN L K st=(nW SN L∧K st):=rfl
def kD (P:Program) (d:Option Nat) (r:List (AO × List Nat)) (SN:List cy) (L:List (V × Bool × Nat × V × List Nat)) (K:St→Prop) (st:St) (v:V):Prop:=bL P r SN L K (st.put d v)
theorem akA {v:V}:kD P d r SN L K ⟨t,l,σ⟩ v=bL P r SN L K (St.put ⟨t,l,σ⟩ d v):=rfl
theorem adg:bL P ((⟨d,.mv x,none⟩,ms)::r) SN L K st=bL P r SN L K (st.put d (ev st x)):=rfl
def vX (P:Program) (v a b:V) (d:Option Nat) (r:List (AO × List Nat)) (SN:List cy) (L:List (V × Bool × Nat × V × List Nat)) (K:St→Prop) (st:St):Prop:=match v with | .bool true=>bL P r SN L K (st.put d a) | .bool false=>bL P r SN L K (st.put d b) | _=>False
theorem adk:bL P ((⟨d,.pick x y z,none⟩,ms)::r) SN L K st=vX P (ev st x) (ev st y) (ev st z) d r SN L K st:=by
  show (match ev st x with | .bool true=>_ | .bool false=>_ | _=>False)=_;unfold vX;cases ev st x<;>first | rfl | (rename_i b;cases b<;>rfl)
theorem aoC {u v:V}:vX P (.bool true) u v d r SN L K st=bL P r SN L K (st.put d u):=rfl
theorem aoA {u v:V}:vX P (.bool false) u v d r SN L K st=bL P r SN L K (st.put d v):=rfl
theorem aoB {b c:Bool}:vX P (.bool b) (.bool c) (.bool false) d r SN L K st=bL P r SN L K (st.put d (.bool (b&&c))):=by cases b<;>simp[vX]
theorem aoD {b c:Bool}:vX P (.bool b) (.bool true) (.bool c) d r SN L K st=bL P r SN L K (st.put d (.bool (b||c))):=by cases b<;>simp[vX]
theorem acM {c:List V}:bL P ((⟨d,.alloc c,none⟩,ms)::r) SN L K ⟨t,l,σ⟩=bL P r (SN++[(l++[c],σ)]) L K (St.put ⟨t,l++[c],σ⟩ d (.ptr (.loc l.length) 0)):=rfl
theorem acR {n:Nat}:bL P ((⟨d,.box n x,none⟩,ms)::r) SN L K ⟨t,l,σ⟩=((ev ⟨t,l,σ⟩ x).wd=some n∧bL P r (SN++[(l++[(ev ⟨t,l,σ⟩ x).cells],σ)]) L K (St.put ⟨t,l++[(ev ⟨t,l,σ⟩ x).cells],σ⟩ d (.ptr (.loc l.length) 0))):=rfl
theorem acS {n:Nat}:bL P ((⟨d,.kf n x,none⟩,ms)::r) SN L K ⟨t,l,σ⟩=((ev ⟨t,l,σ⟩ x).wd=some n∧bE (ev ⟨t,l,σ⟩ x).cells=true∧bL P r (SN++[(l++[(ev ⟨t,l,σ⟩ x).cells],σ)]) L K (St.put ⟨t,l++[(ev ⟨t,l,σ⟩ x).cells],σ⟩ d (.ptr (.loc l.length) 0))):=rfl
theorem acU {c:List V} {ps:List (Nat × Nat × X)}:bL P ((⟨d,.build c ps,none⟩,ms)::r) SN L K st=nD ((mw st c ps).map V.agg) (kD P d r SN L K st):=rfl
theorem acT {k:Nat} {xs:List X}:bL P ((⟨d,.cR k xs,none⟩,ms)::r) SN L K st=Lr (j4 st k xs) k (kD P d r SN L K st):=by
  show opt ((j4 st k xs).map (V.sl .full k)) _=_;cases j4 st k xs<;>rfl
def U_ (P:Program) (a:V) (g:Bool) (n:Nat) (ms:List Nat) (d:Option Nat) (r:List (AO × List Nat)) (SN:List cy) (L:List (V × Bool × Nat × V × List Nat)) (K:St→Prop) (st:St):Option V→Prop
  | some v=>bL P r SN ((a,g,n,v,ms)::L) K (st.put d v)
  | none=>False
theorem ak1 {a v:V} {g:Bool} {n:Nat}:U_ P a g n ms d r SN L K st (some v)=bL P r SN ((a,g,n,v,ms)::L) K (st.put d v):=rfl
theorem ade {g:Bool} {n:Nat}:bL P ((⟨d,.load g n x,none⟩,ms)::r) SN L K st=U_ P (ev st x) g n ms d r SN L K st (jV st g n (ev st x)):=by
  show opt (jV st g n (ev st x)) _=_;cases jV st g n (ev st x)<;>rfl
def Ym (P:Program) (d:Option Nat) (r:List (AO × List Nat)) (SN:List cy) (L:List (V × Bool × Nat × V × List Nat)) (K:St→Prop):Option St→Prop
  | some st=>bL P r (SN++[(st.loc,st.out)]) L K (st.put d .any)
  | none=>False
theorem arl:Ym P d r SN L K (some ⟨t,l,σ⟩)=bL P r (SN++[(l,σ)]) L K (St.put ⟨t,l,σ⟩ d .any):=rfl
theorem adn {n:Nat}:bL P ((⟨d,.store n x y,none⟩,ms)::r) SN L K st=Ym P d r SN L K (cJ st n (ev st y) (ev st x)):=by
  show (match cJ st n (ev st y) (ev st x) with | some aq => _ | none=>False)=_;cases cJ st n (ev st y) (ev st x)<;>rfl
theorem adi:bL P ((⟨d,.sI x,none⟩,ms)::r) SN L K st=yl (ev st x) (kD P d r SN L K st):=by
  show (match ev st x with | .ptr p o=>_ | .elt c o=>_ | .fn (.func f) a b=>_ | _=>False)=_;unfold yl;cases ev st x<;>first | rfl | (rename_i f _ _;cases f<;>rfl)
theorem acP {op:BinOp}:bL P ((⟨d,.dA op x y,none⟩,ms)::r) SN L K st=nD (rV op (ev st x) (ev st y)) (kD P d r SN L K st):=rfl
theorem acQ {op:BinOp}:bL P ((⟨d,.iG op x y,none⟩,ms)::r) SN L K st=nD (wP op (ev st x) (ev st y)) (kD P d r SN L K st):=rfl
theorem acO {n:Bool}:bL P ((⟨d,.tq n x y,none⟩,ms)::r) SN L K st=nD (vb n (ev st x) (ev st y)) (kD P d r SN L K st):=rfl
theorem acX:bL P ((⟨d,.cat x y,none⟩,ms)::r) SN L K st=En (ev st x) (ev st y) (kD P d r SN L K st):=rfl
theorem ac0 {n:Bool} {ks:List Nat}:bL P ((⟨d,.kS n ks x y,none⟩,ms)::r) SN L K st=nD (va n ks (ev st x) (ev st y)) (kD P d r SN L K st):=rfl
theorem adj:bL P ((⟨d,.not x,none⟩,ms)::r) SN L K st=CR (ev st x) (kD P d r SN L K st):=by
  show (match ev st x with | .bool b=>_ | _=>False)=_;unfold CR;cases ev st x<;>rfl
theorem ada:bL P ((⟨d,.sC x,none⟩,ms)::r) SN L K st=yd (ev st x) (kD P d r SN L K st):=by
  show (match ev st x with | .sl _ _ l=>_ | .raw (.slice _ n _)=>_ | _=>False)=_;unfold yd;cases ev st x<;>rfl
theorem adb:bL P ((⟨d,.sD x,none⟩,ms)::r) SN L K st=CG (ev st x) (kD P d r SN L K st):=by
  show (match ev st x with | .str s=>_ | _=>False)=_;unfold CG;cases ev st x<;>rfl
theorem ac2 {n:Nat}:bL P ((⟨d,.mB n x,none⟩,ms)::r) SN L K st=zr n (ev st x) (kD P d r SN L K st):=by
  show (match ev st x with | .ptr p o=>_ | .elt c o=>_ | _=>False)=_;unfold zr;cases ev st x<;>rfl
theorem ac3 {g:Bool} {n m:Nat}:bL P ((⟨d,.pP g m n x,none⟩,ms)::r) SN L K st=BI g m n (ev st x) (kD P d r SN L K st):=by
  show (match ev st x with | .agg cs=>_ | _=>False)=_;unfold BI;cases ev st x<;>rfl
theorem ac6 {k:Nat}:bL P ((⟨d,.kv k x y,none⟩,ms)::r) SN L K st=xX k (ev st x) (ev st y) (kD P d r SN L K st):=by
  show (match ev st x with | .sl _ k' l=>_ | .raw (.slice (some ⟨b,o,none⟩) n _)=>_ | _=>False)=_;unfold xX;cases ev st x<;>rfl
theorem ac_ {m k:Nat}:bL P ((⟨d,.fk m k x y,none⟩,ms)::r) SN L K st=zZ m k (ev st x) (ev st y) (kD P d r SN L K st):=by
  show (match ev st x with | .ptr p o=>_ | .elt c o=>_ | _=>False)=_;unfold zZ;cases ev st x<;>rfl
theorem ac':bL P ((⟨d,.qP x y,none⟩,ms)::r) SN L K st=Cr (ev st x) (ev st y) (kD P d r SN L K st):=by
  show (match ev st x with | .str s=>_ | _=>False)=_;unfold Cr;cases ev st x<;>rfl
def FU (P:Program) (d:Option Nat) (r:List (AO × List Nat)) (SN:List cy) (L:List (V × Bool × Nat × V × List Nat)) (K:St→Prop) (t:List V) (l:List (List V)) (v:V) (σ:ae):Prop:=bL P r (SN++[(l,σ)]) L K (St.put ⟨t,l,σ⟩ d v)
theorem aky {v:V}:FU P d r SN L K t l v σ=bL P r (SN++[(l,σ)]) L K (St.put ⟨t,l,σ⟩ d v):=rfl
def br (P:Program) (f:FuncId) (as:List V) (σ:ae) (K:V→ae→Prop):Prop:=∃v σ',al P f as σ (fun v' wx => v' = v∧wx = σ')∧K v σ'
theorem br.intro {f:FuncId} {as:List V} {K:V→ae→Prop} {v:V} {σ' : ae} (h:al P f as σ fun v' wx => v' = v∧wx = σ') (k:K v σ'):br P f as σ K:=⟨v,σ',h,k⟩
theorem cl {f:FuncId} {as:List V} {K:V→ae→Prop} {v:V} {σ' : ae} (h:al P f as σ fun v' wx => v' = v∧wx = σ') (k:K v σ'):al P f as σ K:=h.mono fun _ _ e=>e.1▸e.2▸k
theorem acV {f:FuncId} {xs:List X}:bL P ((⟨d,.call f xs,none⟩,ms)::r) SN L K ⟨t,l,σ⟩=(bm (cr ⟨t,l,σ⟩ xs)=true∧br P f (cr ⟨t,l,σ⟩ xs) σ (FU P d r SN L K t l)):=rfl
def Ib (P:Program) (v:V) (args:List V) (σ:ae) (K:V→ae→Prop):Prop:=match v with | .fn (.func f) a b=>bm (a++args++b)=true∧br P f (a++args++b) σ K | _=>False
theorem acW {xs:List X}:bL P ((⟨d,.gC x xs,none⟩,ms)::r) SN L K ⟨t,l,σ⟩=Ib P (ev ⟨t,l,σ⟩ x) (cr ⟨t,l,σ⟩ xs) σ (FU P d r SN L K t l):=by
  show (match ev ⟨t,l,σ⟩ x with | .fn (.func f) a b=>_ | _=>False)=_;unfold Ib;cases ev ⟨t,l,σ⟩ x<;>first | rfl | (rename_i f _ _;cases f<;>rfl)
theorem abr {f:FuncId} {u args v:List V} {K:V→ae→Prop}:Ib P (.fn (.func f) u v) args σ K=(bm (u++args++v)=true∧br P f (u++args++v) σ K):=rfl
theorem acN {k:Nat}:bL P ((⟨d,.app k x y,none⟩,ms)::r) SN L K ⟨t,l,σ⟩=Dx σ k (ev ⟨t,l,σ⟩ x) (ev ⟨t,l,σ⟩ y) (FU P d r SN L K t l):=rfl
theorem Bj {k:Nat} {τ:Nat} {u:Tk} {m n:List (List V)} {K:V→ae→Prop} (hb:m.length+n.length≤aF) (ht:σ.aC τ=some m.length) (hk:K (.sl (.tk τ) k (m++n)) (σ.aL τ (m.length+n.length))) :
    Dx σ k (.sl (.tk τ) k m) (.sl u k n) K:=⟨_,m,n,rfl,⟨u,rfl⟩,hb,ht,hk⟩
theorem ac1 {i:Nat}:bL P ((⟨d,.ext x i,none⟩,ms)::r) SN L K st=w7 i (ev st x) (kD P d r SN L K st):=by
  show (match ev st x with | .aX vs=>_ | _=>False)=_;unfold w7;cases ev st x<;>rfl
theorem adf {f:Fn} {as bs:List X}:bL P ((⟨d,.ix f as bs,none⟩,ms)::r) SN L K st=bL P r SN L K (st.put d (.fn f (cr st as) (cr st bs))):=rfl
theorem acZ {k:IntKind}:bL P ((⟨d,.nZ k x,none⟩,ms)::r) SN L K st=Bt k (ev st x) (kD P d r SN L K st):=by
  show (match ev st x with | .int _ n=>_ | _=>False)=_;unfold Bt;cases ev st x<;>rfl
theorem acY:bL P ((⟨d,.r6 x,none⟩,ms)::r) SN L K st=(∃t s,ev st x = .sl t 1 (cm s)∧kD P d r SN L K st (.str s)):=rfl
def gD (P:Program) (v:V) (w:Bool) (d:Option Nat) (op:ar) (ms:List Nat) (r:List (AO × List Nat)) (SN:List cy) (L:List (V × Bool × Nat × V × List Nat)) (K:St→Prop) (st:St):Prop :=
  match v with
  | .bool b=>if b=w then bL P ((⟨d,op,none⟩,ms)::r) SN L K st else bL P r (if op.aT then SN++[(st.loc,st.out)] else SN) L K (st.put d (.aX []))
  | .aX []=>bL P r (if op.aT then SN++[(st.loc,st.out)] else SN) L K (st.put d (.aX []))
  | _=>False
theorem ac5 {g:Nat} {w:Bool} {op:ar}:bL P ((⟨d,op,some (g,w)⟩,ms)::r) SN L K ⟨t,l,σ⟩=gD P (t.getD g .any) w d op ms r SN L K ⟨t,l,σ⟩:=by
  simp only[bL,gD,ev];generalize t.getD g .any=v;cases v<;>first | rfl | (rename_i m;cases m<;>rfl)
theorem aih {w:Bool} {op:ar}:gD P (.aX []) w d op ms r SN L K ⟨t,l,σ⟩=bL P r (if op.aT=true then SN++[(l,σ)] else SN) L K (St.put ⟨t,l,σ⟩ d (.aX [])):=rfl
theorem aif {op:ar}:gD P (.bool true) true d op ms r SN L K st=bL P ((⟨d,op,none⟩,ms)::r) SN L K st:=rfl
theorem aic {op:ar}:gD P (.bool false) false d op ms r SN L K st=bL P ((⟨d,op,none⟩,ms)::r) SN L K st:=rfl
theorem aie {op:ar}:gD P (.bool true) false d op ms r SN L K ⟨t,l,σ⟩=bL P r (if op.aT=true then SN++[(l,σ)] else SN) L K (St.put ⟨t,l,σ⟩ d (.aX [])):=rfl
theorem aid {op:ar}:gD P (.bool false) true d op ms r SN L K ⟨t,l,σ⟩=bL P r (if op.aT=true then SN++[(l,σ)] else SN) L K (St.put ⟨t,l,σ⟩ d (.aX [])):=rfl
theorem abU:nW SN []=True:=rfl
theorem abT {g:Bool} {n:Nat} {a v:V}:nW SN ((a,g,n,v,ms)::L)=(wS SN g n a v ms∧nW SN L):=rfl
theorem abS {g:Bool} {n:Nat} {a v:V}:wS SN g n a v []=True:=rfl
theorem abR {g:Bool} {n m:Nat} {a v:V}:wS SN g n a v (m::ms)=(pr (SN.getD m AD) g n a=some v∧wS SN g n a v ms):=rfl
theorem aq3 {s u:cy}:(s::SN).getD 0 u=s:=rfl
theorem aq4 {s u:cy} {n:Nat}:(s::SN).getD (n+1) u=SN.getD n u:=rfl
theorem aqK {s:cy}:([]:List cy)++[s]=[s]:=rfl
theorem aqL {s u:cy}:(s::SN)++[u]=s::(SN++[u]):=rfl
theorem ak4 {g:Bool} {n i o:Nat}:pr (l,σ) g n (.ptr (.loc i) o)=yb l[i]? g n o:=rfl
theorem ak5 {g:Bool} {n i o:Nat}:pr (l,σ) g n (.ptr (.out i) o)=yb (σ.box i) g n o:=rfl
theorem ak3 {g:Bool} {n i o:Nat}:pr (l,σ) g n (.ptr (.jt i) o)=yb (σ.bR i) g n o:=rfl
theorem ak2 {g:Bool} {n o:Nat} {cs:List V} {s:cy}:pr s g n (.elt cs o)=bf g n (cs.drop o):=rfl
def Ew (P:Program) (l:List (List V)) (σ:ae) (o:List (AO × List Nat)) (K:St→Prop):Option (List V)→Prop
  | some t=>bL P o [(l,σ)] [] K ⟨t,l,σ⟩
  | none=>False
theorem asq {Q:Exit→St→Prop} {o:List (AO × List Nat)} {nv:List Nat}:vc P (.tu nv o) Q ⟨t,l,σ⟩=Ew P l σ o (Q .normal) (qy nv t):=by
  simp only[vc];cases qy nv t with
  | none=>simp[Ew]
  | some t' => simp[Ew]
theorem ads {K:St→Prop} {o:List (AO × List Nat)}:Ew P l σ o K (some t)=bL P o [(l,σ)] [] K ⟨t,l,σ⟩:=rfl
theorem ZP:qy [] t=some t:=rfl
def H2 (b:Bool) (x:Option (List V)):Option (List V):=if b then x else none
theorem ZO {d:Nat} {ds:List Nat}:qy (d::ds) t=H2 (decide (d<t.length)) (qy ds (t.set d .any)):=by
  simp only[qy,H2,bH]
theorem ZQ {y:Option (List V)}:H2 true y=y:=rfl
theorem ass {Q:Exit→St→Prop} {o:List (AO × List Nat)} {h:HI}:vc P (.hole o h) Q ⟨t,l,σ⟩=bL P o [(l,σ)] [] (DE h (Q .normal)) ⟨t,l,σ⟩:=rfl
theorem ajC {h:HI}:DE h K ⟨t,l,σ⟩=Hw h K ⟨oz h t,l,σ⟩:=rfl
theorem asY {k:Nat} {a b c e f:X} {d9 d10 dF:Nat}:oz ⟨k,a,b,c,e,f,none,d9,d10,dF⟩ t=(t.set d9 .any).set d10 .any:=rfl
theorem asZ {k off:Nat} {a b c e f:X} {d9 d10 dF:Nat}:oz ⟨k,a,b,c,e,f,some off,d9,d10,dF⟩ t=((t.set d9 .any).set d10 .any).set dF .any:=rfl
theorem Uh {h:HI} {τ:Nat} {m:List (List V)} {c:List V} {t' : Tk} {j:IntKind} {p:V} {aq : St} {cs:List V} (es:ev ⟨t,l,σ⟩ h.s = .sl (.tk τ) h.k m) (ez:ev ⟨t,l,σ⟩ h.z = .sl t' h.k [c])
    (el:ev ⟨t,l,σ⟩ h.len = .int j m.length) (hb:m.length+1≤aF) (ht:σ.aC τ=some m.length) (hx:(ev ⟨t,l,σ⟩ h.x).wd=some h.k∧bE (ev ⟨t,l,σ⟩ h.x).cells=true∧bm (ev ⟨t,l,σ⟩ h.x).cells=true)
    (hcs:a9 (ev ⟨t,l,σ⟩ h.x).cells=cs) (hd:h.d9<t.length∧h.d10<t.length∧(h.fo.isSome=true→h.dF<t.length)) (hp:BH h.fo (ev ⟨t,l,σ⟩ h.addr)=some p)
    (dH:cJ ⟨t,l,σ⟩ 1 (.sl (.tk τ) h.k (m++[cs])) p=some aq) (hk:K ⟨aq.t,aq.loc,aq.out.aL τ (m.length+1)⟩):Hw h K ⟨t,l,σ⟩ :=
  ⟨τ,m,c,t',j,es,ez,el,hb,ht,hx.1,hx.2.1,hx.2.2,hd.1,hd.2.1,hd.2.2,p,hp,aq,by rw[hcs];exact dH,hk⟩
end
section
variable {x y z:X} {n m:Nat} {c:List V} {g:Bool} {bo:BinOp} {ks:List Nat} {xs ys:List X} {ps:List (Nat × Nat × X)} {fn:Fn} {ik:IntKind}
theorem ad3:(ar.pick x y z).aT=false:=rfl
theorem adz:(ar.alloc c).aT=true:=rfl
theorem adG:(ar.kf n x).aT=true:=rfl
theorem adF:(ar.box n x).aT=true:=rfl
theorem adI:(ar.build c ps).aT=false:=rfl
theorem adH:(ar.cR n xs).aT=false:=rfl
theorem adX:(ar.load g n x).aT=false:=rfl
theorem ad4:(ar.store n x y).aT=true:=rfl
theorem ad0:(ar.sI x).aT=false:=rfl
theorem adD:(ar.dA bo x y).aT=false:=rfl
theorem adE:(ar.iG bo x y).aT=false:=rfl
theorem adC:(ar.tq g x y).aT=false:=rfl
theorem adL:(ar.cat x y).aT=false:=rfl
theorem adO:(ar.kS g ks x y).aT=false:=rfl
theorem ad1:(ar.not x).aT=false:=rfl
theorem adV:(ar.sC x).aT=false:=rfl
theorem adW:(ar.sD x).aT=false:=rfl
theorem adQ:(ar.mB n x).aT=false:=rfl
theorem adR:(ar.pP g n m x).aT=false:=rfl
theorem adS:(ar.kv n x y).aT=false:=rfl
theorem adT {m k:Nat}:(ar.fk m k x y).aT=false:=rfl
theorem adU:(ar.qP x y).aT=false:=rfl
theorem adJ:(ar.call n xs).aT=true:=rfl
theorem adK:(ar.gC x xs).aT=true:=rfl
theorem adA:(ar.app n x y).aT=true:=rfl
theorem adB:(ar.kc x y).aT=true:=rfl
theorem adP:(ar.ext x n).aT=false:=rfl
theorem adY:(ar.ix fn xs ys).aT=false:=rfl
theorem adN:(ar.nZ ik x).aT=false:=rfl
theorem adM:(ar.r6 x).aT=false:=rfl
theorem adZ:(ar.mv x).aT=false:=rfl
end
section
variable {k:IntKind} {a b:Int} {c e:List V} {n m:Nat} {x y:V} {u v:List UInt8} {p q:Bool} {l:List (List V)} {τ:Tk}
theorem FM:xZ k k=true:=by cases k<;>rfl
theorem aaO {op:BinOp}:rV op (.int k a) (.int k b)=gV k a b op:=by simp[rV,FM]
theorem ajU:gV k a b .add=some (.int k (k.wrap (a+b))):=rfl
theorem aj2:gV k a b .sub=some (.int k (k.wrap (a - b))):=rfl
theorem aj0:gV k a b .mul=some (.int k (k.wrap (a*b))):=rfl
theorem ajV:gV k a b .eql=some (.bool (decide (a=b))):=rfl
theorem aj1:gV k a b .neq=some (.bool (!decide (a=b))):=rfl
theorem ajZ:gV k a b .lss=some (.bool (decide (a<b))):=rfl
theorem ajY:gV k a b .leq=some (.bool (decide (a≤b))):=rfl
theorem ajX:gV k a b .gtr=some (.bool (decide (b<a))):=rfl
theorem ajW:gV k a b .geq=some (.bool (decide (b≤a))):=rfl
theorem aaP {op:BinOp}:wP op (.str u) (.str v)=uz u v op:=rfl
theorem arw:uz u v .eql=some (.bool (decide (u=v))):=rfl
theorem arB:uz u v .neq=some (.bool (!decide (u=v))):=rfl
theorem arA:uz u v .lss=some (.bool (Op.bytesLess u v)):=rfl
theorem arz:uz u v .leq=some (.bool (Op.bytesLess u v||decide (u=v))):=rfl
theorem ary:uz u v .gtr=some (.bool (!(Op.bytesLess u v||decide (u=v)))):=rfl
theorem arx:uz u v .geq=some (.bool (!Op.bytesLess u v)):=rfl
theorem aec:vb false (.bool p) (.bool q)=some (.bool (decide (p=q))):=rfl
theorem aed:vb true (.bool p) (.bool q)=some (.bool (!decide (p=q))):=rfl
def IH (neg:Bool):Option Bool→Option V | some b=>some (.bool (if neg then !b else b)) | none=>none
theorem aef:IH false (some p)=some (.bool p):=rfl
theorem aeg:IH true (some p)=some (.bool (!p)):=rfl
theorem aeb {neg:Bool} {ks:List Nat}:va neg ks (.agg c) (.agg e)=IH neg (eP ks c e):=by
  simp only[va];cases eP ks c e<;>rfl
def andM (b:Bool):Option Bool→Option Bool | some c=>some (b&&c) | none=>none
theorem tj:andM p (some q)=some (p&&q):=rfl
theorem Sw:eP [] [] []=some true:=rfl
theorem vd {ks:List Nat}:eP (1::ks) (.int k a::c) (.int k b::e)=andM (decide (a=b)) (eP ks c e):=by
  simp only[eP,FM,b7];cases eP ks c e<;>rfl
theorem Sx {ks:List Nat}:eP (2::ks) (.str u::c) (.str v::e)=andM (decide (u=v)) (eP ks c e):=by
  simp only[eP];cases eP ks c e<;>rfl
theorem aee {ks:List Nat}:eP (0::ks) (.bool p::c) (.bool q::e)=andM (decide (p=q)) (eP ks c e):=by
  simp only[eP];cases eP ks c e<;>rfl
theorem asL:(V.agg c).wd=some c.length:=rfl
theorem asP:(V.int k a).wd=some 1:=rfl
theorem asM:(V.bool p).wd=some 1:=rfl
theorem asT:(V.str u).wd=some 1:=rfl
theorem asS:(V.sl τ n l).wd=some 1:=rfl
theorem asR {o:Pl}:(V.ptr o n).wd=some 1:=rfl
theorem asN:(V.elt c n).wd=some 1:=rfl
theorem asO {f:Fn}:(V.fn f c e).wd=some 1:=rfl
theorem asQ:V.mb.wd=some 1:=rfl
theorem abF:(V.agg c).cells=c:=rfl
theorem abJ:(V.int k a).cells=[.int k a]:=rfl
theorem abG:(V.bool p).cells=[.bool p]:=rfl
theorem abP:(V.str u).cells=[.str u]:=rfl
theorem abO:(V.sl τ n l).cells=[.sl τ n l]:=rfl
theorem abN {o:Pl}:(V.ptr o n).cells=[.ptr o n]:=rfl
theorem abH:(V.elt c n).cells=[.elt c n]:=rfl
theorem abI {f:Fn}:(V.fn f c e).cells=[.fn f c e]:=rfl
theorem abK:V.mb.cells=[.mb]:=rfl
theorem anP:bE []=true:=rfl
theorem anO:bE (x::c)=(x.one&&bE c):=rfl
theorem Ln:(V.int k a).one=true:=rfl
theorem anQ:(V.bool p).one=true:=rfl
theorem V':(V.str u).one=true:=rfl
theorem anW:(V.sl τ n l).one=true:=rfl
theorem anV {o:Pl}:(V.ptr o n).one=true:=rfl
theorem anR:(V.elt c n).one=true:=rfl
theorem anT {f:Fn}:(V.fn f c e).one=true:=rfl
theorem anU:V.mb.one=true:=rfl
theorem amM:bm []=true:=rfl
theorem amL:bm (x::c)=(x.cc&&bm c):=rfl
theorem amT:(V.int k a).cc=true:=rfl
theorem amP:(V.bool p).cc=true:=rfl
theorem amY:(V.str u).cc=true:=rfl
theorem amX:(V.sl τ n l).cc=true:=rfl
theorem amO:V.any.cc=true:=rfl
theorem amV:(V.ptr (.out m) n).cc=true:=rfl
theorem amS:(V.ptr (.jt m) n).cc=true:=rfl
theorem amQ:(V.elt c n).cc=true:=rfl
theorem amU:V.mb.cc=true:=rfl
theorem amN:(V.agg c).cc=bm c:=rfl
theorem amZ:(V.aX c).cc=bm c:=rfl
theorem amR {f:Fn}:(V.fn f c e).cc=(bm c&&bm e):=rfl
theorem amW {w:Value}:(V.raw w).cc=true:=rfl
theorem aeo:(V.int k a).erase = .int k a:=rfl
theorem ael:(V.bool p).erase = .bool p:=rfl
theorem aes:(V.str u).erase = .str u:=rfl
theorem aer:(V.sl τ n l).erase = .sl .no n l:=rfl
theorem aek:V.any.erase = .any:=rfl
theorem aeq {o:Pl}:(V.ptr o n).erase = .ptr o n:=rfl
theorem aem:(V.elt c n).erase = .elt c n:=rfl
theorem aep:V.mb.erase = .mb:=rfl
theorem aej:(V.agg c).erase = .agg (a9 c):=rfl
theorem aet:(V.aX c).erase = .aX (a9 c):=rfl
theorem aen {f:Fn}:(V.fn f c e).erase = .fn f c e:=rfl
theorem aei:a9 []=[]:=rfl
theorem aeh:a9 (x::c)=x.erase::a9 c:=rfl
theorem aiY:bI 0 c=true:=by cases c<;>rfl
theorem aiX:bI (n+1) (x::c)=bI n c:=rfl
theorem me:over c []=c:=by cases c<;>rfl
theorem oh:over (x::c) (y::e)=y::over c e:=rfl
theorem lJ:setAt c 0 e=over c e:=by cases c<;>rfl
theorem jH:setAt (x::c) (n+1) e=x::setAt c n e:=rfl
theorem alh:([]:List V).length=0:=rfl
theorem alg:(x::c).length=c.length+1:=rfl
theorem ais:(c::l)[0]?=some c:=rfl
theorem aiv:(c::l)[n+1]?=l[n]?:=by simp
theorem alZ:(c::l).set 0 e=e::l:=rfl
theorem al0:(c::l).set (n+1) e=c::l.set n e:=rfl
theorem ZT : ([]:List (List V))++l=l:=rfl
theorem ZS : (c::l)++[e]=c::(l++[e]):=rfl
theorem asg:([]:List V)++c=c:=rfl
theorem asf:(x::c)++e=x::(c++e):=rfl
theorem alK:([]:List (List V)).length=0:=rfl
theorem alJ:(c::l).length=l.length+1:=rfl
theorem zo {a:Nat}:(a=a)=True:=by simp
theorem eqI {a:Int}:(a=a)=True:=by simp
theorem arj {α:Type} {x y:α}:(some x=some y)=(x=y):=by simp
theorem anS:(1=1)=True:=by simp
theorem true_eq:(true=true)=True:=by simp
theorem aeK : (false=true)=False:=by simp
theorem ar9:(true&&p)=p:=rfl
theorem aeR:(false&&p)=false:=rfl
theorem ZL:(p&&true)=p:=by simp
theorem ZK:(p&&false)=false:=by simp
theorem ar_:(true||p)=true:=rfl
theorem aeS:(false||p)=p:=rfl
theorem an4:(p||false)=p:=by simp
theorem am3:(!true)=false:=rfl
theorem am2:(!false)=true:=rfl
theorem aj5 {α:Type} {x y:α}:(if True then x else y)=x:=ak trivial
theorem aj4 {α:Type} {x y:α}:(if False then x else y)=y:=ah fun h=>h
theorem aj7 {x y:Prop}:(if True then x else y)=x:=ak trivial
theorem aj6 {x y:Prop}:(if False then x else y)=y:=ah fun h=>h
theorem arO {q:Prop}:(True∧q)=q:=by simp
theorem ZM {q:Prop}:(q∧True)=q:=by simp
theorem rlZ {x:V}:List.replicate 0 x=[]:=rfl
theorem rlS {x:V}:List.replicate (n+1) x=x::List.replicate n x:=rfl
theorem alB {v:V}:ck (v::c) (.any::e)=ck c e:=by simp[ck,cQ.any]
theorem alH {v:V}:ck (v::c) (v::e)=ck c e:=by simp[ck,cQ.rfl]
def E0:Env:=⟨default,fun _=>.const,fun _=>none,fun _=>none⟩
theorem asA:cQ (.int k a) (.int k b)=(a=b):=by
  refine propext ⟨fun h=>?_,fun h=>h▸cQ.rfl⟩
  have:=h E0 (.int k a) (by simp[R])
  simpa [R] using this
theorem asz:cQ (.bool p) (.bool q)=(p=q):=by
  refine propext ⟨fun h=>?_,fun h=>h▸cQ.rfl⟩
  have:=h E0 (.bool p) (by simp[R])
  simpa [R] using this
theorem asB:cQ (.str u) (.str v)=(u=v):=by
  refine propext ⟨fun h=>?_,fun h=>h▸cQ.rfl⟩
  have:=h E0 (.string ⟨u.toArray⟩) (by simp[R])
  simpa [R] using this
theorem alD:ck (.int k a::c) (.int k b::e)=(a=b∧ck c e):=by simp[ck,asA]
theorem alC:ck (.bool p::c) (.bool q::e)=(p=q∧ck c e):=by simp[ck,asz]
theorem alI:ck (.str u::c) (.str v::e)=(u=v∧ck c e):=by simp[ck,asB]
theorem alF:ck (.sl τ n l::c) (.sl .no n l::e)=ck c e:=by simp[ck,cQ.no]
theorem alM:cj [] []=True:=rfl
theorem alL {c e:List V} {l m:List (List V)}:cj (c::l) (e::m)=(ck c e∧cj l m):=rfl
theorem alN {l:List (List V)}:cj l l=True:=by simp[cj.rfl]
theorem anK {σ:ae}:bG σ σ=True:=by simp[bG.rfl]
theorem alE:ck [] []=True:=rfl
end
theorem ba.enter {ι:Type} {I:ι→St} {t:List V} {l:List (List V)} {σ:ae} (j:ι) (h:ck t (I j).t) (hl:cj l (I j).loc) (ho:bG σ (I j).out):ba ⟨t,l,σ⟩ fun aq => ∃i,aq = I i :=
  ba.dK h hl ho ⟨j,rfl⟩
theorem ba.again {ι:Type} {I:ι→St} {μ:ι→Nat} {n:Nat} {t:List V} {l:List (List V)} {σ:ae} (j:ι) (hm:μ j<n) (h:ck t (I j).t) (hl:cj l (I j).loc) (ho:bG σ (I j).out) :
    ba ⟨t,l,σ⟩ fun aq => ∃i,aq = I i∧μ i<n:=ba.dK h hl ho ⟨j,rfl,hm⟩
theorem wrap_i64 {x:Int} (h1 : -9223372036854775808≤x) (U:x≤9223372036854775807):IntKind.i64.wrap x=x:=IntWalk.i64_in x ⟨h1,U⟩
theorem ae.wa {σ:ae} {b:Nat} {cs:List V} (h:σ.box b=some cs):σ.set b cs=σ:=by
  cases σ;simp only[ae.set,ae.mk.injEq,fO];funext x;split
  · rename_i hx;rw[hx];exact h.symm
  · rfl
theorem ae.set_set {σ:ae} {b:Nat} {cs ds:List V}:(σ.set b cs).set b ds=σ.set b ds:=by
  simp only[ae.set,ae.mk.injEq,fO];funext x;split<;>rfl
theorem ae.set_comm {σ:ae} {b c:Nat} {cs ds:List V} (h:b≠c):(σ.set b cs).set c ds=(σ.set c ds).set b cs:=by
  simp only[ae.set,ae.mk.injEq,fO];funext x
  by_cases h1:x=c
  · subst h1;rw[ak rfl,ah (fun U=>h U.symm),ak rfl]
  · rw[ah h1,ah h1]
def iq (τ n:Nat) (v v' : V):Prop:=∀E E',E.le E' → E'.aC τ=some n→∀u,R E v u→R E' v' u
theorem iq.same {τ n:Nat} {v:V}:iq τ n v v:=fun _ _ h _ _ hr=>hr.mono _ h
theorem iq.le {τ n:Nat} {v v' : V} (h:cQ v v'):iq τ n v v' := fun _ _ hl _ _ hr=>(h _ _ hr).mono _ hl
theorem iq.tok {τ n k:Nat} {m:List (List V)} (h:m.length=n):iq τ n (.sl .full k m) (.sl (.tk τ) k m):=fun E E' hl ht u hr=>by
  have bN := hr.mono _ hl;simp only[R] at bN ⊢;obtain⟨a,cap,h1,U,h3,h4⟩:=bN;exact⟨a,cap,h1,U,h3,n,ht,by omega,fun _=>.inl h4⟩
def dy (τ n:Nat):List V→List V→Prop
  | [],[]=>True
  | v::l,v' :: l' => iq τ n v v' ∧ dy τ n l l'
  | _,_=>False
theorem dy.rfl {τ n:Nat}:∀{l:List V},dy τ n l l
  | []=>trivial
  | _::_=>⟨iq.same,dy.rfl⟩
theorem dy.mono {τ n:Nat} {E E' : Env} (hl:E.le E') (ht:E'.aC τ=some n):∀{l l' : List V} {us:List Value},dy τ n l l' → RL E l us→RL E' l' us
  | [],[],[],_,_=>by simp[RL]
  | [],[],_::_,_,h=>by simp[RL] at h
  | [],_::_,_,h,_=>h.elim
  | _::_,[],_,h,_=>h.elim
  | v::l,v' :: l',[],_,h=>by simp[RL] at h
  | v :: l, v' :: l', u :: us, h, hr => by
    simp only[RL] at hr ⊢;exact⟨h.1 _ _ hl ht _ hr.1,dy.mono hl ht h.2 hr.2⟩
theorem dy.length {τ n:Nat}:∀{l l' : List V},dy τ n l l' → l.length=l'.length
  | [],[],_=>Eq.refl _
  | [],_::_,h=>h.elim
  | _::_,[],h=>h.elim
  | v::l,v' :: l',h=>by simp[dy.length h.2]
theorem dy.get {τ n:Nat}:∀{l l' : List V},dy τ n l l' → ∀(j:Nat) v',l'[j]?=some v' → ∃v,l[j]?=some v∧iq τ n v v'
  | [],[],_,j,v',h=>by simp at h
  | [],_::_,h,_,_,_=>h.elim
  | _::_,[],h,_,_,_=>h.elim
  | v :: l, w :: l', h, j, v', hj => by
    cases j with
    | zero=>simp at hj;subst hj;exact⟨v,by simp,h.1⟩
    | succ j=>simp at hj;obtain⟨u,h1,U⟩:=dy.get h.2 j v' hj;exact⟨u,by simpa using h1,U⟩
theorem ig.tok {τ n:Nat} {E E' : Env} (hl:E.le E') (ht:E'.aC τ=some n) {b:Nat} {cs cs' : List V} (hw:E'.w=E.w) (h:dy τ n cs cs') (k:ig E b cs):ig E' b cs' := by
  obtain⟨c,e,h1,U,h3⟩:=k;refine⟨c,e,by rw[hw];exact h1,by rw[←h.length];exact U,fun j x hx=>?_⟩;obtain⟨v,hv,hle⟩:=h.get j x hx;obtain⟨u,k1,k2⟩:=h3 j v hv;exact⟨u,k1,hle _ _ hl ht _ k2⟩
structure oG (τ n:Nat) (σ σ' : ae):Prop where
  box:∀b cs',σ'.box b=some cs' → ∃cs,σ.box b=some cs∧dy τ n cs cs'
  aC:∀υ m,σ'.aC υ=some m→σ.aC υ=some m
  bR:∀b cs,σ'.bR b=some cs→σ.bR b=some cs
theorem oG.rfl {τ n:Nat} {σ:ae}:oG τ n σ σ:=⟨fun _ cs h=>⟨cs,h,dy.rfl⟩,fun _ _ h=>h,fun _ _ h=>h⟩
theorem oG.set {τ n b:Nat} {σ:ae} {cs cs' : List V} (h:σ.box b=some cs) (k:dy τ n cs cs'):oG τ n σ (σ.set b cs'):=by
  refine⟨fun c ds jP=>?_,fun _ _ h=>h,fun _ _ h=>h⟩;simp only[ae.set] at jP;split at jP
  · rename_i hc;subst hc;simp only[aH] at jP;subst jP;exact⟨cs,h,k⟩
  · exact⟨ds,jP,dy.rfl⟩
theorem ba.tok {t:List V} {l:List (List V)} {σ:ae} {K:St→Prop} (n:Nat) (h:∀τ,σ.aC τ=none→∃t' l' σ',dy τ n t t' ∧ l.length=l'.length∧(∀(i:Nat) c',l'[i]?=some c' → ∃c,l[i]?=some c∧dy τ n c c')∧oG τ n σ σ' ∧ K ⟨t',l',σ'.aL τ n⟩) :
    ba ⟨t,l,σ⟩ K:=by
  intro E a hs;obtain⟨N,hN⟩:=hs.ok.nt;have JL:σ.aC N=none:=by
    cases hq:σ.aC N with
    | none=>rfl
    | some m=>have:=hs.ok.aC N m hq;rw[hN N (bt _)] at this;simp at this
  obtain⟨t',l',σ',h1,U,h3,h4,h5⟩:=h N JL
  let E' : Env:={E with aC:=fun t=>if t=N then some n else E.aC t}
  have ht:E'.aC N=some n:=by simp[E']
  have aS:Fr E E' := vh (E' := E') hs.ok.fresh (Ext.refl _) (fun _ _=>rfl) (fun t m hm=>by
    simp only[E'];split
    · rename_i hq;subst hq;rw[hN t (bt _)] at hm;simp at hm
    · exact hm)
  have hle:E.le E' := aS.le fun _ _ h=>h
  refine⟨E',_,rfl,aS,⟨⟨fun b cs hcs=>?_,fun τ m hm=>?_,hs.ok.fresh,?_,fun b cs hc=>c7.mono _ aS.nl (hs.ok.bR b cs (h4.bR b cs hc))⟩,⟨fun i cs hcs=>?_,fun i hi=>hs.cg.none i (by rw[U];exact hi)⟩,hs.defers,h1.mono hle ht hs.slot⟩,h5⟩
  · obtain⟨wV,q1,q2⟩:=h4.box b cs hcs;obtain⟨k1,k2⟩:=hs.ok.box b wV q1;exact⟨k1,k2.tok aS.nl ht rfl q2⟩
  · simp only[ae.aL] at hm;simp only[E'];split at hm
    · rename_i hq;rw[ak hq];exact hm
    · rename_i hq;rw[ah hq];exact hs.ok.aC τ m (h4.aC τ m hm)
  · exact⟨N+1,fun t zT => by simp only[E'];rw[ah (by omega)];exact hN t (by omega)⟩
  · obtain⟨c,q1,q2⟩:=h3 i cs hcs;obtain⟨b,k1,k2,k3⟩:=hs.cg.box i c q1;exact⟨b,k1,k2,k3.tok hle ht rfl q2⟩
def am:=And.intro @ae.set_set <| And.intro @asq <| And.intro @ads <| And.intro @ZP <| And.intro @ZO <| And.intro @ZQ <| And.intro @acS <| And.intro @adG <| And.intro (And.intro (And.intro (And.intro (And.intro (And.intro (And.intro @adh @akA) (And.intro @adg (And.intro @adk @aoC))) (And.intro (And.intro @aoA @aoB) (And.intro @aoD (And.intro @acM @acR)))) (And.intro (And.intro (And.intro @acU @acT) (And.intro @ak1 (And.intro @ade @arl))) (And.intro (And.intro @adn (And.intro @adi @acP)) (And.intro @acQ (And.intro @acO @acX))))) (And.intro (And.intro (And.intro (And.intro @ac0 @adj) (And.intro @ada (And.intro @adb @ac2))) (And.intro (And.intro @ac3 (And.intro @ac6 @ac')) (And.intro @aky (And.intro @acV @acW)))) (And.intro (And.intro (And.intro @abr @acN) (And.intro @ac1 (And.intro @adf @acZ))) (And.intro (And.intro @ac5 (And.intro (And.intro @aih @aif) @aic)) (And.intro @aie (And.intro @aid @abU)))))) (And.intro (And.intro (And.intro (And.intro (And.intro @abT @abS) (And.intro @abR (And.intro @aq3 @aq4))) (And.intro (And.intro @aqK @aqL) (And.intro @ak4 (And.intro @ak5 (And.intro @ak3 @ak2))))) (And.intro (And.intro (And.intro @ass @ajC) (And.intro @asY (And.intro @asZ @ad3))) (And.intro (And.intro @adz (And.intro @adF @adI)) (And.intro @adH (And.intro @adX @ad4))))) (And.intro (And.intro (And.intro (And.intro @ad0 @adD) (And.intro @adE (And.intro @adC @adL))) (And.intro (And.intro @adO (And.intro @ad1 @adV)) (And.intro @adW (And.intro @adQ @adR)))) (And.intro (And.intro (And.intro @adS @adU) (And.intro @adJ (And.intro @adK @adA))) (And.intro (And.intro @adB (And.intro @adP @adY)) (And.intro @adN (And.intro @adM @adZ))))))) <| And.intro @alD <| And.intro @alC <| And.intro @alI <| And.intro @alF <| And.intro @alM <| And.intro @alL <| And.intro @alN <| And.intro @anK <| And.intro @alB <| And.intro @alH <| And.intro @alE <| And.intro @gQ <| And.intro @rL <| And.intro @zo <| And.intro @eqI <| And.intro @aj7 <| And.intro @aj6 <| (And.intro (And.intro (And.intro (And.intro (And.intro (And.intro (And.intro @asx (And.intro @ast @asy)) (And.intro (And.intro @asp @asw) (And.intro @aso @asm))) (And.intro (And.intro (And.intro @asl @asn) (And.intro @asr @asu)) (And.intro (And.intro @aar @aaq) (And.intro @aas @aaS)))) (And.intro (And.intro (And.intro @aaT (And.intro @aaR @alW)) (And.intro (And.intro @alY @alX) (And.intro @ap5 @ap4))) (And.intro (And.intro (And.intro @an3 @aqC) (And.intro @ace @aqB)) (And.intro (And.intro @aqA @aqz) (And.intro @anN @anM))))) (And.intro (And.intro (And.intro (And.intro @anL (And.intro @amb @aey)) (And.intro (And.intro @aew @aeA) (And.intro @aez @aiu))) (And.intro (And.intro (And.intro @ait @aq2) (And.intro @aq0 @apa)) (And.intro (And.intro @ao' @anz) (And.intro @akB @an0)))) (And.intro (And.intro (And.intro (And.intro @anx @anD) (And.intro @aoG @aoE)) (And.intro (And.intro @aoF @aoH) (And.intro @am7 @anc))) (And.intro (And.intro (And.intro @am8 @ane) (And.intro @ang @an1)) (And.intro (And.intro @anf @o_load) (And.intro @an2 @anG)))))) (And.intro (And.intro (And.intro (And.intro (And.intro @anA (And.intro @amE @amC)) (And.intro (And.intro @amD @ana) (And.intro @anb @am'))) (And.intro (And.intro (And.intro @anj @abx) (And.intro @anm @anB)) (And.intro (And.intro @am1 @anu) (And.intro @ale @anv)))) (And.intro (And.intro (And.intro @alf (And.intro @ano @afb)) (And.intro (And.intro @afa @anp) (And.intro @afc @anr))) (And.intro (And.intro (And.intro @ant @anh) (And.intro @akz @ani)) (And.intro (And.intro @abt @am9) (And.intro @ann @aeE))))) (And.intro (And.intro (And.intro (And.intro @aeD (And.intro @anw @anl)) (And.intro (And.intro @acK @anq) (And.intro (And.intro @aim @ail) @aii))) (And.intro (And.intro (And.intro @aik @aij) (And.intro @ak8 (And.intro @ak9 @ak7))) (And.intro (And.intro @ak6 @akZ) (And.intro @yc @ak0)))) (And.intro (And.intro (And.intro (And.intro @arK @MC) (And.intro @ama @adw)) (And.intro (And.intro @adv @arp) (And.intro @arn @arq))) (And.intro (And.intro (And.intro @aro @iM) (And.intro (And.intro (And.intro @aqX @aqV) @aqU) @aq1)) (And.intro (And.intro @Ml @aaW) (And.intro @aaV @aaQ))))))) (And.intro (And.intro (And.intro (And.intro (And.intro (And.intro @aql (And.intro @aqk @aqc)) (And.intro (And.intro @ap_ @aaO) (And.intro @ajU @aj2))) (And.intro (And.intro (And.intro @aj0 @ajV) (And.intro @aj1 @ajZ)) (And.intro (And.intro @ajY @ajX) (And.intro @ajW @aaP)))) (And.intro (And.intro (And.intro @arw (And.intro @arB @arA)) (And.intro (And.intro @arz @ary) (And.intro @arx @aec))) (And.intro (And.intro (And.intro @aed @aef) (And.intro @aeg @aeb)) (And.intro (And.intro @tj @Sw) (And.intro @vd @Sx))))) (And.intro (And.intro (And.intro (And.intro @aee (And.intro @asL @asP)) (And.intro (And.intro @asM @asT) (And.intro @asS @asR))) (And.intro (And.intro (And.intro @asN @asO) (And.intro @asQ @abF)) (And.intro (And.intro @abJ @abG) (And.intro @abP @abO)))) (And.intro (And.intro (And.intro (And.intro @abN @abH) (And.intro @abI @abK)) (And.intro (And.intro @anP @anO) (And.intro @Ln @anQ))) (And.intro (And.intro (And.intro @V' @anW) (And.intro @anV @anR)) (And.intro (And.intro @anT @anU) (And.intro @amM @amL)))))) (And.intro (And.intro (And.intro (And.intro (And.intro @amT (And.intro @amP @amY)) (And.intro (And.intro @amX @amO) (And.intro (And.intro @amV @amS) @amQ))) (And.intro (And.intro (And.intro @amU @amN) (And.intro @amZ @amR)) (And.intro (And.intro @amW @aeo) (And.intro @ael @aes)))) (And.intro (And.intro (And.intro (And.intro @aer @aek) (And.intro @aeq @aem)) (And.intro (And.intro @aep @aej) (And.intro @aet @aen))) (And.intro (And.intro (And.intro @aei @aeh) (And.intro @aiY @aiX)) (And.intro (And.intro @me @oh) (And.intro @lJ @jH))))) (And.intro (And.intro (And.intro (And.intro @alh (And.intro @alg @ais)) (And.intro (And.intro @aiv @alZ) (And.intro @al0 @ZT))) (And.intro (And.intro (And.intro @ZS @asg) (And.intro @asf @alK)) (And.intro (And.intro @alJ @arj) (And.intro @anS @true_eq)))) (And.intro (And.intro (And.intro (And.intro @aeK @ar9) (And.intro @aeR @ZL)) (And.intro (And.intro @ZK @ar_) (And.intro @aeS @an4))) (And.intro (And.intro (And.intro @am3 @am2) (And.intro @aj5 @aj4)) (And.intro (And.intro @arO @ZM) (And.intro @rlZ @rlS))))))))
section
variable {τ n k:Nat} {v v' : V} {c e t:List V} {l l' : List (List V)} {σ:ae}
theorem asC:iq τ n v .any=True:=by simp[iq.le cQ.any]
theorem asD:iq τ n v v=True:=by simp[iq.same]
theorem asE:iq τ 0 (.sl .full k []) (.sl (.tk τ) k [])=True:=by simp[iq.tok]
theorem al1:dy τ n (v::c) (v' :: e)=(iq τ n v v' ∧ dy τ n c e):=rfl
theorem al2:dy τ n [] []=True:=rfl
theorem al3:dy τ n c c=True:=by simp[dy.rfl]
def od:=And.intro @asC <| And.intro @asD <| And.intro @asE <| And.intro @al1 <| And.intro @al2 @al3
theorem ba.yI {ι:Type} {I:ι→St} (n:Nat) (h:∀τ,σ.aC τ=none→∃i,dy τ n t (I i).t∧l=(I i).loc∧(I i).out=σ.aL τ n):ba ⟨t,l,σ⟩ fun aq => ∃i,aq = I i :=
  ba.tok n fun τ bh=>by
    obtain⟨i,h1,U,h3⟩:=h τ bh;refine⟨(I i).t,(I i).loc,σ,h1,by rw[U],fun j c' hc=>⟨c',by rw[U];exact hc,dy.rfl⟩,oG.rfl,i,?_⟩;rw[←h3]
theorem j5 {τ m n:Nat}:(σ.aL τ m).aL τ n=σ.aL τ n:=by
  simp only[ae.aL,ae.mk.injEq,nL,fO];funext x;split<;>rfl
theorem rp {τ n:Nat} (h:σ.aC τ=none):σ.sub (σ.aL τ n):=by
  refine⟨fun _ _ h=>h,fun υ m hm=>?_,fun _ _ h=>h⟩
  have:υ≠τ:=by rintro rfl;rw[h] at hm;simp at hm
  simp only[ae.aL];rw[ah this];exact hm
theorem lK {τ n:Nat}:(σ.aL τ n).aC τ=some n:=by simp[ae.aL]
end
theorem Dg {α:Type} {l:List α} {i:Nat} {x:α} (h:l[i]?=some x):l.take (i+1)=l.take i++[x]:=by rw[List.take_add_one,h];simp
mutual
def V.lo (n:Nat):V→Bool
  | .ptr (.loc i) _=>decide (i<n)
  | .agg cs=>bx n cs
  | .aX cs=>bx n cs
  | .fn _ a b=>bx n a&&bx n b
  | _=>true
def bx (n:Nat):List V→Bool
  | []=>true
  | x::xs=>x.lo n&&bx n xs
end
def c8 (n:Nat):List (List V)→Bool
  | []=>true
  | x::xs=>bx n x&&c8 n xs
def Env.cut (E:Env) (n:Nat):Env:={E with loc:=fun i=>if i<n then E.loc i else none}
mutual
theorem R.cut {n:Nat}:∀(x:V) {E:Env} {v:Value},x.lo n=true→R E x v→R (E.cut n) x v
  | .any,_,_,_,_=>by simp only[R]
  | .bool _,_,_,_,h=>by simp only[R] at h ⊢;exact h
  | .int _ _,_,_,_,h=>by simp only[R] at h ⊢;exact h
  | .str _,_,_,_,h=>by simp only[R] at h ⊢;exact h
  | .mb,_,_,_,h=>by simp only[R] at h ⊢;exact h
  | .ptr (.loc i) off, E, _, hl, h => by
    simp only[V.lo,bH] at hl;simp only[R] at h ⊢;obtain⟨b,h1,U⟩:=h;exact⟨b,by simp[Env.cut,hl,h1],U⟩
  | .ptr (.out _) _,_,_,_,h=>by simp only[R] at h ⊢;exact h
  | .ptr (.jt _) _,_,_,_,h=>by simp only[R] at h ⊢;exact h
  | .elt _ _,_,_,_,h=>by simp only[R] at h ⊢;exact h
  | .sl _ _ _,_,_,_,h=>by simp only[R] at h ⊢;exact h
  | .agg cs, _, _, hl, h => by
    simp only[V.lo] at hl;simp only[R] at h ⊢;obtain⟨vs,h1,U⟩:=h;exact⟨vs,h1,RL.cut cs hl U⟩
  | .aX cs, _, _, hl, h => by
    simp only[V.lo] at hl;simp only[R] at h ⊢;obtain⟨vs,h1,U⟩:=h;exact⟨vs,h1,RL.cut cs hl U⟩
  | .fn _ a b, _, _, hl, h => by
    simp only[V.lo,a_] at hl;simp only[R] at h ⊢;obtain⟨fs,cs,h1,U,h3⟩:=h;exact⟨fs,cs,h1,RL.cut a hl.1 U,RL.cut b hl.2 h3⟩
  | .raw _,_,_,_,h=>by simp only[R] at h ⊢;exact h
theorem RL.cut {n:Nat}:∀(l:List V) {E:Env} {vs:List Value},bx n l=true→RL E l vs→RL (E.cut n) l vs
  | [],_,[],_,_=>by simp only[RL]
  | [],_,_::_,_,h=>by simp only[RL] at h
  | _::_,_,[],_,h=>by simp only[RL] at h
  | x :: xs, _, v :: vs, hl, h => by
    simp only[bx,a_] at hl;simp only[RL] at h ⊢;exact⟨R.cut x hl.1 h.1,RL.cut xs hl.2 h.2⟩
end
theorem Vz {n:Nat}:∀{l:List V} {j:Nat} {x:V},bx n l=true→l[j]?=some x→x.lo n=true
  | [],j,x,_,h=>by simp at h
  | y::ys,0,x,hl,h=>by simp only[bx,a_] at hl;simp at h;rw[←h];exact hl.1
  | y::ys,j+1,x,hl,h=>by simp only[bx,a_] at hl;exact Vz hl.2 (by simpa using h)
theorem Vy {n:Nat}:∀{l:List (List V)} {j:Nat} {x:List V},c8 n l=true→l[j]?=some x→bx n x=true
  | [],j,x,_,h=>by simp at h
  | y::ys,0,x,hl,h=>by simp only[c8,a_] at hl;simp at h;rw[←h];exact hl.1
  | y::ys,j+1,x,hl,h=>by simp only[c8,a_] at hl;exact Vy hl.2 (by simpa using h)
theorem ig.cut {E:Env} {n b:Nat} {cs:List V} (h:bx n cs=true) (k:ig E b cs):ig (E.cut n) b cs:=by
  obtain⟨c,e,h1,U,h3⟩:=k;exact⟨c,e,h1,U,fun j x hx=>by
    obtain⟨u,k1,k2⟩:=h3 j x hx;exact⟨u,k1,R.cut x (Vz h hx) k2⟩⟩
theorem Fr.cut (E:Env) (n:Nat):Fr E (E.cut n) :=
  ⟨rfl,rfl,rfl,bt _,fun _=>rfl,(Env.le.refl E).cell,(Env.le.refl E).tok,fun _ _ _=>⟨rfl,rfl⟩,fun _ _ h=>.inl h,fun _ _ c _ h=>⟨c,h⟩,fun _ i _ h=>⟨i,h⟩,fun _ c _ h=>⟨c,h,rfl⟩⟩
theorem ba.drop {t:List V} {l l2:List (List V)} {σ:ae} {K:St→Prop} (ht:bx l.length t=true) (hl:c8 l.length l=true) (hk:K ⟨t,l,σ⟩):ba ⟨t,l++l2,σ⟩ K:=by
  intro E a hs;refine⟨E.cut l.length,⟨t,l,σ⟩,rfl,Fr.cut E _,⟨⟨hs.ok.box,hs.ok.aC,hs.ok.fresh,hs.ok.nt,hs.ok.bR⟩,⟨fun i cs hcs=>?_,fun i hi=>?_⟩,hs.defers,RL.cut _ ht hs.slot⟩,hk⟩
  · have hi:i<l.length:=(dD.1 hcs).1;obtain⟨b,k1,k2,k3⟩:=hs.cg.box i cs (by rw[oC hi];exact hcs);exact⟨b,by simp[Env.cut,hi,k1],k2,k3.cut (Vy hl hcs)⟩
  · simp only[Env.cut];rw[ah (by simp only at hi;omega)]
theorem cj.app:∀{l l' m:List (List V)},cj (l.take l'.length) l' → cj l (l' ++ l.drop l'.length)
  | [],[],_,_=>trivial
  | [],_::_,_,h=>h.elim
  | v::l,[],m,_=>by simp[cj.rfl]
  | v :: l, w :: l', m, h => by
    simp only[cG,oE,cj] at h;simp only[cG,fN,A5,cj];exact⟨h.1,cj.app (m:=m) h.2⟩
theorem ba.zj {t t' : List V} {l l' : List (List V)} {σ σ' : ae} {K:St→Prop} (h:ck t t') (hl:cj (l.take l'.length) l') (ho:bG σ σ') (h1:bx l'.length t' = true) (U:c8 l'.length l' = true) (hk:K ⟨t',l',σ'⟩):ba ⟨t,l,σ⟩ K :=
  (ba.dK (K:=fun st=>st=⟨t',l' ++ l.drop l'.length,σ'⟩) h (cj.app (m:=[]) hl) ho rfl).bind fun _ e=>e▸ba.drop h1 U hk
theorem ba.rT {ι:Type} {I:ι→St} {μ:ι→Nat} {n:Nat} {t:List V} {l:List (List V)} {σ:ae} (j:ι) (hm:μ j<n) (h:ck t (I j).t) (hl:cj (l.take (I j).loc.length) (I j).loc) (ho:bG σ (I j).out) (h1:bx (I j).loc.length (I j).t=true) (U:c8 (I j).loc.length (I j).loc=true) :
    ba ⟨t,l,σ⟩ fun aq => ∃i,aq = I i∧μ i<n:=ba.zj h hl ho h1 U ⟨j,rfl,hm⟩
section
variable {P:Program} {d:Option Nat} {q:OQ} {xs:List X} {r:List AO} {K:St→Prop} {t:List V} {l:List (List V)} {σ:ae}
theorem anC:bA P (⟨d,.own q xs,none⟩::r) K ⟨t,l,σ⟩=q.aM σ (kC P d r K t l) (cr ⟨t,l,σ⟩ xs):=rfl
theorem aob {H:V→ae→Prop}:OQ.aM σ H .nil []=H (.raw (.slice none 0 0)) σ:=rfl
theorem alG {u:Value} {c e:List V}:ck (.raw u::c) (.raw u::e)=ck c e:=by simp[ck,cQ.rfl]
def mY:=And.intro @anC <| And.intro @aob @alG
def dz (σ:ae) (k:Nat) (v:V) (rows:List (List V)):Prop :=
  ∃a cap,v = .raw (.slice a rows.length cap)∧rows.length≤cap∧(∀r∈rows,r.length=k)∧(cap=0∨∃b cs,a=some ⟨b,0,none⟩∧σ.box b=some cs∧cs.length=cap*k∧cs.take (rows.length*k)=rows.flatten)
def nE:V→Option Nat
  | .raw (.slice (some ⟨b,_,_⟩) _ _)=>some b
  | _=>none
theorem dz.none {k:Nat}:dz σ k (.raw (.slice none 0 0)) []:=⟨_,0,rfl,by simp,by simp,.inl rfl⟩
theorem dz.len {k:Nat} {v:V} {rows:List (List V)} {H:V→ae→Prop} (h:dz σ k v rows) (hk:H (.int .i64 rows.length) σ):OQ.aM σ H .len [v]:=by
  obtain⟨a,cap,rfl,_⟩:=h;exact hk
theorem dz.frame {σ' : ae} {k:Nat} {v:V} {rows:List (List V)} (h:dz σ k v rows) (hb:∀b cs,nE v=some b→σ.box b=some cs→σ'.box b=some cs):dz σ' k v rows:=by
  obtain⟨a,cap,rfl,h1,U,h3⟩:=h;refine⟨a,cap,rfl,h1,U,?_⟩
  rcases h3 with h3 | ⟨b,cs,rfl,h4,h5⟩
  · exact .inl h3
  · exact .inr ⟨b,cs,rfl,hb b cs rfl h4,h5⟩
theorem EL {k:Nat}:∀{rows:List (List V)} {m:Nat},(∀r∈rows,r.length=k)→rows.flatten.take (m*k)=(rows.take m).flatten
  | [],m,_=>by simp
  | r::rows,0,_=>by simp
  | r :: rows, m + 1, h => by
    simp only[du] at h;rw[iC,oE,iC,gP,uT,List.take_append,h.1,yX (by omega),show m*k+k - k=m*k by omega,EL h.2]
theorem EK {k:Nat}:∀{rows:List (List V)} {m:Nat},(∀r∈rows,r.length=k)→rows.flatten.drop (m*k)=(rows.drop m).flatten
  | [],m,_=>by simp
  | r::rows,0,_=>by simp
  | r :: rows, m + 1, h => by
    simp only[du] at h;rw[iC,A5,gP,uT,List.drop_append,h.1,DG (by omega),show m*k+k - k=m*k by omega,gk,EK h.2]
theorem dz.idx {k:Nat} {v:V} {rows:List (List V)} {H:V→ae→Prop} {j:Int} {i:IntKind} {c:List V} (h:dz σ k v rows) (h0:0≤j) (hj:rows[j.toNat]?=some c)
    (hk:∀b cs rest,nE v=some b→σ.box b=some cs→cs.drop (j.toNat*k)=c++rest→H (.ptr (.out b) (j.toNat*k)) σ):OQ.aM σ H (.idx k) [v,.int i j]:=by
  obtain⟨a,cap,rfl,h1,U,h3⟩:=h;have aj:=(dD.1 hj).1
  rcases h3 with h3 | ⟨b,cs,rfl,h4,h5,h6⟩
  · omega
  · have e1:cs=rows.flatten++cs.drop (rows.length*k):=by rw[←h6];simp
    have e2:rows.drop j.toNat=c::rows.drop (j.toNat+1):=by
      rw[kN aj,(dD.1 hj).2]
    have km:=jr U;have e3:cs.drop (j.toNat*k)=c++((rows.drop (j.toNat+1)).flatten++cs.drop (rows.length*k)):=by
      have hle:j.toNat*k≤rows.length*k:=nT _ (by omega);rw[e1,Nr (by rw[km];exact hle),EK U,e2,iC,dt];congr 2;rw[List.drop_append,km];simp[DG,km]
    show 0≤j∧j<(rows.length:Nat)∧H (.ptr (.out b) (0+j.toNat*k)) σ;rw[gQ];exact⟨h0,by omega,hk b cs _ rfl h4 e3⟩
theorem dz.take {k m:Nat} {v:V} {rows:List (List V)} {H:V→ae→Prop} {i:IntKind} {j:Int} (h:dz σ k v rows) (h0:0≤j) (hj:j.toNat=m) (hm:m≤rows.length) (hk:∀v',dz σ k v' (rows.take m)→nE v' = nE v→H v' σ):OQ.aM σ H (.lg k false true false) [v,.int i j]:=by
  obtain⟨a,cap,rfl,h1,U,h3⟩:=h;show jM false 0 [.int i j] fun m vs=>jM true rows.length vs fun h vs=>jM false cap vs fun M vs=>vs=[]∧m≤h∧h≤M∧M≤cap∧H (.raw (.slice (if M=m then a else a.map (·.add (m*k))) (h - m) (M - m))) σ
  refine⟨h0,rfl,by omega,by omega,bt _,?_⟩;have ea:(if cap=0 then a else a.map (·.add (0*k)))=a:=by
    split
    · rfl
    · rcases h3 with h3 | ⟨b,cs,rfl,_⟩
      · omega
      · simp[kb]
  rw[ea,hj];refine hk _ ⟨a,cap,?_,?_,fun r hr=>U r (s8 hr),?_⟩ (by cases a with
    | none=>rfl
    | some ad=>cases ad;rfl)
  · rw[gZ,rN hm];rfl
  · rw[gZ];omega
  · rcases h3 with h3 | ⟨b,cs,rfl,h4,h5,h6⟩
    · exact .inl h3
    · refine .inr ⟨b,cs,rfl,h4,h5,?_⟩;rw[gZ,rN hm,←EL U,←h6,List.take_take,rN (nT _ hm)]
structure td (σ:ae) (v:V) (σ' : ae) (v' : V):Prop where
  kx:∀b cs,σ.box b=some cs→nE v≠some b→σ'.box b=some cs
  aC:σ'.aC=σ.aC
  new:∀b,nE v' = some b→nE v=some b∨σ.box b=none
  bR:σ'.bR=σ.bR
theorem Mi {k n:Nat}:∀{cs xs ys:List V},cs.take n=ys→n+xs.length≤cs.length→ys.length=n→(setAt cs n xs).take (n+xs.length)=ys++xs∧(setAt cs n xs).length=cs.length:=by
  intro cs xs ys h1 U h3;have ov:∀{cs xs:List V},xs.length≤cs.length→(over cs xs).take xs.length=xs∧(over cs xs).length=cs.length:=by
    intro cs;induction cs with
    | nil=>intro xs h;cases xs with | nil=>simp[over] | cons x xs=>simp at h
    | cons c cs ih =>
      intro xs h;cases xs with
      | nil=>simp[over]
      | cons x xs =>
        obtain⟨k1,k2⟩:=ih (xs:=xs) (by simpa using h);simp[over,k1,k2]
  induction n generalizing cs ys with
  | zero =>
    simp at h3;subst h3;obtain⟨k1,k2⟩:=ov (cs:=cs) (xs:=xs) (by omega);have e:setAt cs 0 xs=over cs xs:=by cases cs<;>rfl
    rw[e];simpa using ⟨k1,k2⟩
  | succ n ih =>
    cases cs with
    | nil=>simp at U
    | cons c cs =>
      cases ys with
      | nil=>simp at h3
      | cons y ys =>
        simp only[oE,fM] at h1;obtain⟨k1,k2⟩:=ih (cs:=cs) (ys:=ys) h1.2 (by simp at U;omega) (by simpa using h3);simp only[setAt];rw[show n+1+xs.length=(n+xs.length)+1 by omega];simp[k1,k2,h1.1]
theorem dz.app {k:Nat} {v:V} {rows m:List (List V)} {tk:Tk} {H:V→ae→Prop} (h:dz σ k v rows) (hm:∀r∈m,r.length=k) (hn:bm m.flatten=true) (hb:rows.length+m.length≤aF)
    (hk:∀v' σ',dz σ' k v' (rows++m)→td σ v σ' v' → H v' σ'):OQ.aM σ H (.app k) [v,.sl tk k m]:=by
  obtain⟨a,cap,rfl,h1,U,h3⟩:=h;have zJ:=jr hm;have aS:=jr U;refine⟨rfl,h1,hb,hn,fun e=>?_,fun e hle=>?_,fun aj=>?_⟩
  · subst e;refine hk _ _ ⟨a,cap,by simp,by simpa using h1,by simpa using U,by simpa using h3⟩ ⟨fun _ _ h _=>h,rfl,fun b hb=>.inl hb,rfl⟩
  · rcases h3 with h3 | ⟨b,cs,rfl,h4,h5,h6⟩
    · have:m.length=0:=by omega
      exact absurd (oB this) e
    · have mF:rows.length*k+m.length*k≤cs.length:=by rw[h5,←gP];exact nT _ hle
      refine⟨b,cs,rfl,h4,mF,hk _ _ ⟨some ⟨b,0,Option.none⟩,cap,by simp,by simpa using hle,fun r hr=>?_,.inr ⟨b,_,rfl,ae.cX _ _ _,?_,?_⟩⟩ ⟨fun b' cs' bz aI=>?_,rfl,fun b' bz => .inl bz,rfl⟩⟩
      · rcases il.1 hr with hr | hr
        · exact U r hr
        · exact hm r hr
      · rw[(Mi (k:=k) h6 (by rw[zJ];exact mF) aS).2];exact h5
      · have:=(Mi (k:=k) h6 (by rw[zJ];exact mF) aS).1
        rw[zJ] at this;rw[bw,gP,this,pH]
      · have:b' ≠ b:=by rintro rfl;exact aI rfl
        rw[ae.dc _ _ this];exact bz
  · have base:∀cs:List V,cs.take (rows.length*k)=rows.flatten→∀b' my,σ.box b' = Option.none→rows.length+m.length≤my → H (.raw (.slice (some ⟨b',0,Option.none⟩) (rows.length+m.length) my)) (σ.set b' (cs.take (rows.length*k)++m.flatten++List.replicate ((my - (rows.length+m.length))*k) .any)):=by
      intro cs h6 b' my bz hc;refine hk _ _ ⟨some ⟨b',0,Option.none⟩,my,by simp,by simpa using hc,fun r hr=>?_,.inr ⟨b',_,rfl,ae.cX _ _ _,?_,?_⟩⟩ ⟨fun Ro cs' n6 aI=>?_,rfl,fun Ro n6 => ?_,rfl⟩
      · rcases il.1 hr with hr | hr
        · exact U r hr
        · exact hm r hr
      · rw[h6];simp only[bw,aS,zJ,List.length_replicate];rw[←gP,←gP];congr 1;omega
      · rw[h6,bw,pH,HP (by simp only[bw,aS,zJ];rw[gP];omega),yX (by simp only[bw,aS,zJ];rw[gP];omega)]
      · have:Ro ≠ b' := by rintro rfl;rw[bz] at n6;simp at n6
        rw[ae.dc _ _ this];exact n6
      · simp only[nE,aH] at n6;subst n6;exact .inr bz
    rcases h3 with h3 | ⟨b,cs,rfl,h4,h5,h6⟩
    · have h0:rows=[]:=oB (by omega);subst h0;exact⟨[],.inl ⟨rfl,rfl⟩,base [] (by simp)⟩
    · refine⟨cs,.inr ⟨b,rfl,h4,?_⟩,base cs h6⟩;rw[h5];exact nT _ h1
theorem td.refl {v:V}:td σ v σ v:=⟨fun _ _ h _=>h,rfl,fun _ h=>.inl h,rfl⟩
structure y3 (cC σ:ae) (v:V):Prop where
  sub:cC.sub σ
  new:∀b,nE v=some b→cC.box b=none
theorem y3.step {cC σ' : ae} {v v' : V} (h:y3 cC σ v) (f:td σ v σ' v'):y3 cC σ' v' := by
  refine⟨⟨fun b cs hb=>?_,fun t n hn=>by rw[f.aC];exact h.sub.2.1 t n hn,fun b cs hc=>by rw[f.bR];exact h.sub.2.2 b cs hc⟩,fun b hb=>?_⟩
  · exact f.kx b cs (h.sub.1 b cs hb) (fun e=>by rw[h.new b e] at hb;simp at hb)
  · rcases f.new b hb with e | e
    · exact h.new b e
    · cases hq:cC.box b with
      | none=>rfl
      | some cs=>rw[h.sub.1 b cs hq] at e;simp at e
end
section
variable {P:Program} {d:Option Nat} {K:St→Prop} {st:St} {b w:Bool}
theorem jO {op:ar} {r:List AO} (h1:b=true→gL P (.bool true) w d op r K st) (U:b=false→gL P (.bool false) w d op r K st):gL P (.bool b) w d op r K st:=by cases b with
  | true=>exact h1 rfl
  | false=>exact U rfl
theorem j1 {x y:V} {r:List AO} (h1:b=true→ra P (.bool true) x y d r K st) (U:b=false→ra P (.bool false) x y d r K st):ra P (.bool b) x y d r K st:=by cases b with
  | true=>exact h1 rfl
  | false=>exact U rfl
end
section
variable {P:Program} {d:Option Nat} {K:St→Prop} {t:List V} {l:List (List V)} {σ:ae} {r:List AO}
def pN (st:St):Option X→Option V
  | none=>none
  | some x=>some (ev st x)
def Aa (n:Nat) (dflt:Nat):Option V→Prop
  | none=>n=dflt
  | some v=>∃j,v = .int j n
def Mp (v:V) (lo hi:Option V) (H:V→Prop):Prop:=∃s a b,v = .str s∧a≤b∧b≤s.length∧Aa a 0 lo∧Aa b s.length hi∧H (.str ((s.take b).drop a))
def C_ (k:Nat) (v:V) (lo hi mx:Option V) (H:V→Prop):Prop:=(∃τ l a b,v = .sl τ k l∧a≤b∧b≤l.length∧Aa a 0 lo∧Aa b l.length hi ∧
  match mx with
  | none=>H (.sl .no k ((l.take b).drop a))
  | some y=>(∃j,y = .int j b)∧H (.sl .full k ((l.take b).drop a))) ∨
  ∃a n cap m h,v = .raw (.slice a n cap)∧m≤h∧h≤cap∧Aa m 0 lo∧Aa h n hi∧mx.isNone=true∧H (.raw (.slice (if cap=m then a else a.map (·.add (m*k))) (h - m) (cap - m)))
theorem anE {x:X} {lo hi:Option X}:bA P (⟨d,.sR x lo hi,none⟩::r) K ⟨t,l,σ⟩=Mp (ev ⟨t,l,σ⟩ x) (pN ⟨t,l,σ⟩ lo) (pN ⟨t,l,σ⟩ hi) (kL P d r K ⟨t,l,σ⟩):=by
  cases lo<;>cases hi<;>rfl
theorem anF {k:Nat} {x:X} {lo hi mx:Option X}:bA P (⟨d,.lg k x lo hi mx,none⟩::r) K ⟨t,l,σ⟩=C_ k (ev ⟨t,l,σ⟩ x) (pN ⟨t,l,σ⟩ lo) (pN ⟨t,l,σ⟩ hi) (pN ⟨t,l,σ⟩ mx) (kL P d r K ⟨t,l,σ⟩):=by
  cases lo<;>cases hi<;>cases mx<;>rfl
theorem adl {x:X} {lo hi:Option X} {ms:List Nat} {r:List (AO × List Nat)} {SN:List cy} {L:List (V × Bool × Nat × V × List Nat)}:bL P ((⟨d,.sR x lo hi,none⟩,ms)::r) SN L K ⟨t,l,σ⟩=Mp (ev ⟨t,l,σ⟩ x) (pN ⟨t,l,σ⟩ lo) (pN ⟨t,l,σ⟩ hi) (kD P d r SN L K ⟨t,l,σ⟩):=by
  cases lo<;>cases hi<;>rfl
theorem adm {k:Nat} {x:X} {lo hi mx:Option X} {ms:List Nat} {r:List (AO × List Nat)} {SN:List cy} {L:List (V × Bool × Nat × V × List Nat)}:bL P ((⟨d,.lg k x lo hi mx,none⟩,ms)::r) SN L K ⟨t,l,σ⟩=C_ k (ev ⟨t,l,σ⟩ x) (pN ⟨t,l,σ⟩ lo) (pN ⟨t,l,σ⟩ hi) (pN ⟨t,l,σ⟩ mx) (kD P d r SN L K ⟨t,l,σ⟩):=by
  cases lo<;>cases hi<;>cases mx<;>rfl
theorem aeu {st:St}:pN st none=none:=rfl
theorem aev {st:St} {x:X}:pN st (some x)=some (ev st x):=rfl
theorem Mq {s:List UInt8} {j j' : IntKind} {a b:Nat} {H:V→Prop} (h1:a≤b) (U:b≤s.length) (h:H (.str ((s.take b).drop a))):Mp (.str s) (some (.int j a)) (some (.int j' b)) H:=⟨s,a,b,rfl,h1,U,⟨j,rfl⟩,⟨j',rfl⟩,h⟩
theorem arh {k:Nat} {τ:Tk} {m:List (List V)} {j:IntKind} {a:Nat} {H:V→Prop} (U:a≤m.length) (h:H (.sl .no k (m.drop a))):C_ k (.sl τ k m) (some (.int j a)) none none H:=.inl ⟨τ,m,a,m.length,rfl,U,bt _,⟨j,rfl⟩,rfl,by rw[dW];exact h⟩
theorem Yd {k:Nat} {τ:Tk} {m:List (List V)} {j:IntKind} {b:Nat} {H:V→Prop} (U:b≤m.length) (h:H (.sl .no k (m.take b))):C_ k (.sl τ k m) none (some (.int j b)) none H:=.inl ⟨τ,m,0,b,rfl,rO _,U,rfl,⟨j,rfl⟩,h⟩
def cf:=And.intro @ank <| And.intro @am_ <| And.intro @anE <| And.intro @anF <| And.intro @adl <| And.intro @adm <| And.intro @aeu <| And.intro @aev <| And.intro @ans <| And.intro @ac_ <| And.intro @acY <| And.intro @asv <| And.intro @amI <| And.intro @amH <| And.intro @amJ <| And.intro @aps <| And.intro @apr <| And.intro @apt @adT
end
theorem IE (a b:List UInt8):cm (a++b)=cm a++cm b:=by simp[cm]
theorem mA (a:List UInt8):(cm a).length=a.length:=by simp[cm]
abbrev aY:=BitVec 64
section
variable {a b c:aY} {n:Int} {m:Nat}
theorem wrap_u64 {x:Int} (h1:0≤x) (U:x<18446744073709551616):IntKind.u64.wrap x=x:=IntWalk.u64_in x (by omega)
theorem asH (a:aY):(a.toNat:Int)<18446744073709551616:=by have:=a.isLt;omega
theorem MP:BitVec.ofInt 64 (a.toNat:Nat)=a:=by simp
theorem MU:IntKind.u64.wrap (a.toNat:Nat)=(a.toNat:Nat):=wrap_u64 (by omega) (asH a)
theorem MT:IntKind.u64.wrap ((a.toNat:Nat) - (b.toNat:Nat))=((a - b).toNat:Nat):=by
  have:=a.isLt;have:=b.isLt
  rw[IntKind.wrap_u64,BitVec.toNat_sub];omega
theorem asI:IntKind.u64.wrap ((a.toNat:Nat)*(b.toNat:Nat))=((a*b).toNat:Nat):=by
  rw[IntKind.wrap_u64,BitVec.toNat_mul,←Int.natCast_mul];generalize a.toNat*b.toNat=x;omega
theorem uJ:gV .u64 (a.toNat:Nat) (b.toNat:Nat) .and=some (.int .u64 ((a&&&b).toNat:Nat)):=by
  (simp only[gV,IntKind.bits,MP,MU];rfl)
theorem AQ:gV .u64 (a.toNat:Nat) (b.toNat:Nat) .or=some (.int .u64 ((a|||b).toNat:Nat)):=by
  (simp only[gV,IntKind.bits,MP,MU];rfl)
theorem YM:gV .u64 (a.toNat:Nat) (b.toNat:Nat) .andNot=some (.int .u64 ((a&&&~~~b).toNat:Nat)):=by
  (simp only[gV,IntKind.bits,MP,MU];rfl)
theorem MR:gV .u64 (a.toNat:Nat) (m:Nat) .shl=some (.int .u64 ((a<<<m).toNat:Nat)):=by
  simp only[gV,IntKind.bits];rw[ah (by omega),IntKind.wrap_u64,Zg,Nat.shiftLeft_eq];simp only[iP,aH,V.int.injEq,nL]
  by_cases h:m≤64
  · rw[show m.min 64=m from rN h,show (2:Int)^m=((2^m:Nat):Int) by simp,←Int.natCast_mul];generalize a.toNat*2^m=x;omega
  · rw[show m.min 64=64 from NJ (by omega)];obtain⟨k,rfl⟩:∃k,m=64+k:=⟨m - 64,by omega⟩;rw[Nat.pow_add,←Nat.mul_assoc,Nat.mul_comm _ (2^64),Nat.mul_assoc,Nat.mul_mod_right];omega
theorem MS:gV .u64 (a.toNat:Nat) (m:Nat) .shr=some (.int .u64 ((a>>>m).toNat:Nat)):=by
  simp only[gV,IntKind.bits];rw[ah (by omega),BitVec.toNat_ushiftRight,Nat.shiftRight_eq_div_pow];simp only[iP,aH,V.int.injEq,nL];rw[Int.fdiv_eq_ediv_of_nonneg _ (Int.le_of_lt (Int.pow_pos (by decide)))]
  by_cases h:m≤64
  · rw[show m.min 64=m from rN h];norm_cast
  · rw[show m.min 64=64 from NJ (by omega)];have h1:a.toNat / 2^m=0:=Nat.div_eq_of_lt (rM a.isLt (Nat.pow_le_pow_right (by decide) (by omega)));rw[h1]
    have:=a.isLt
    omega
theorem AP:decide ((a.toNat:Int)=(b.toNat:Nat))=decide (a=b):=by
  apply oT.2;rw[←BitVec.toNat_inj];omega
theorem ry:V.int .u64 0 = .int .u64 ((0#64:aY).toNat:Nat):=rfl
theorem MQ:V.int .u64 1 = .int .u64 ((1#64:aY).toNat:Nat):=rfl
theorem asK:V.int .u64 18446744073709551615 = .int .u64 ((BitVec.allOnes 64:aY).toNat:Nat):=rfl
end
def hasB (s:aY) (i:Int):Bool:=decide (0≤i)&&s.getLsbD i.toNat
def oO (i:Nat):aY:=1#64<<<i
def jg (s:aY) (i:Int):aY:=if 0≤i∧i<64 then s|||oO i.toNat else s
def mM (l:List Int):aY:=l.foldl jg 0#64
def yD (a b:aY):Bool:=decide (a&&&~~~b=0#64)
def nf (n:Int):aY:=if n≤0 then 0#64 else if 64≤n then BitVec.allOnes 64 else oO n.toNat - 1#64
def eU (s:aY):List Nat:=(List.range 64).filter s.getLsbD
theorem zn {a b:aY} (h:∀k,k<64→a.getLsbD k=b.getLsbD k):a=b:=BitVec.eq_of_getLsbD_eq fun k hk=>h k hk
theorem Ru (i k:Nat):(oO i).getLsbD k=(decide (k<64)&&decide (k=i)):=by
  simp only[oO,BitVec.getLsbD_shiftLeft,BitVec.getLsbD_one]
  by_cases h:k<64<;>by_cases U:k=i<;>simp[h,U]<;>omega
theorem Hh (s:aY) (i:Int) (k:Nat):(jg s i).getLsbD k=(s.getLsbD k||(decide (k<64)&&decide ((k:Int)=i))):=by
  unfold jg
  split
  · rename_i h;rw[BitVec.getLsbD_or,Ru];congr 2;apply oT.2;omega
  · rename_i h
    have:(decide (k<64)&&decide ((k:Int)=i))=false:=by
      simp only[Dy,zi];omega
    rw[this,Bool.or_false]
theorem S3:∀(l:List Int) (s:aY) (k:Nat),(l.foldl jg s).getLsbD k=(s.getLsbD k||(decide (k<64)&&decide ((k:Int)∈l)))
  | [],s,k=>by simp
  | i :: l, s, k => by
    rw[wD,S3 l,Hh,Bool.or_assoc,←Bool.and_or_distrib_left,←Bool.decide_or];simp only[j_]
theorem V8 (l:List Int) (k:Nat):(mM l).getLsbD k=(decide (k<64)&&decide ((k:Int)∈l)):=by
  rw[mM,S3];simp
theorem anX (k:Nat):(BitVec.allOnes 64).getLsbD k=decide (k<64):=BitVec.getLsbD_allOnes
theorem aaG (n:Nat) (h:n≤64) (k:Nat):(oO n - 1#64).getLsbD k=(decide (k<64)&&decide (k<n)):=by
  by_cases hk:k<64
  · rw[BitVec.getLsbD,BitVec.toNat_sub,oO,Zg,Nat.shiftLeft_eq];have e1:(1#64).toNat=1:=rfl;rw[e1,uT]
    by_cases U:n=64
    · subst U
      have:(2^64 - 1+2^64 % 2^64) % 2^64=2^64 - 1:=by decide
      rw[this,Zs];simp[hk]
    · have hp:2^n<2^64:=Nat.pow_lt_pow_right (by decide) (by omega);have l7:0<2^n:=Nat.two_pow_pos n;rw[NK hp,show 2^64 - 1+2^n=(2^n - 1)+2^64 by omega,Nat.add_mod_right,NK (by omega),Zs];simp[hk]
  · rw[A1 _ _ (by omega)];simp[hk]
theorem Rs (n:Int) (k:Nat):(nf n).getLsbD k=(decide (k<64)&&decide ((k:Int)<n)):=by
  unfold nf;split
  · rw[aB (p:=(k:Int)<n) (by omega)];simp
  · split
    · rw[anX]
      by_cases h:k<64
      · rw[aD (p:=(k:Int)<n) (by omega)];simp
      · simp[h]
    · rw[aaG _ (by omega)];congr 1;apply oT.2;omega
theorem VK {s:aY} {k:Nat}:k∈eU s↔s.getLsbD k=true:=by
  simp only[eU,List.mem_filter,wH,and_iff_right_iff_imp];intro h;exact Nat.lt_of_not_le fun hc=>by rw[A1 _ _ hc] at h;simp at h
theorem alw {s:aY} {k:Nat} (h:k∈eU s):k<64:=by
  simp only[eU,List.mem_filter,wH] at h;exact h.1
theorem Gc (s:aY):(eU s).length≤64:=by
  have:=List.length_filter_le s.getLsbD (List.range 64);simpa [eU] using this
def mK (s:aY):Nat:=((List.range 64).find? s.getLsbD).getD 64
theorem CJ {s:aY} (h:s≠0#64):mK s<64∧s.getLsbD (mK s)=true∧∀k,k<mK s→s.getLsbD k=false:=by
  unfold mK;cases hf:(List.range 64).find? s.getLsbD with
  | none =>
    exfalso;apply h;apply zn;intro k hk
    have:=DJ.1 hf k (by simpa using hk)
    simpa using this
  | some i =>
    obtain⟨h1,as,bs,U,h3⟩:=DK.1 hf;have hi:i<64:=by
      have:i∈List.range 64:=by rw[U];simp
      simpa using this
    refine⟨hi,h1,fun k hk=>?_⟩;simp only[DW] at hk;have hl:as.length=i:=by
      have:=gm (fun l:List Nat=>l[as.length]?) U
      simp only[wE (bt _),HU,DL] at this;rw[HL] at this
      · simpa using this
      · have:=gm List.length U;simp at this;omega
    have iX : k∈as:=by
      have:=gm (fun l:List Nat=>l[k]?) U
      rw[oC (by omega),HL (by omega)] at this;exact pI this.symm
    have:=h3 k iX
    simpa using this
theorem amz {s:aY} (h:s≠0#64):s&&&-s=oO (mK s):=by
  obtain⟨h1,U,h3⟩:=CJ h;apply zn;intro i hi;rw[yS,BitVec.getLsbD_neg,Ru]
  rcases Bb i (mK s) with hc | hc | hc
  · rw[h3 i hc,aB (p:=i=mK s) (by omega)];simp
  · subst hc;rw[U,aB (p:=∃j,j<mK s∧s.getLsbD j=true) (by rintro⟨j,hj,hs⟩;rw[h3 j hj] at hs;simp at hs)];simp[hi]
  · rw[aD (p:=∃j,j<i∧s.getLsbD j=true) ⟨_,hc,U⟩,aB (p:=i=mK s) (by omega)];cases s.getLsbD i<;>simp[hi]
theorem Iy (s:aY) (i:Nat):(s&&&(s - 1#64)).getLsbD i=(s.getLsbD i&&decide (∃j,j<i∧s.getLsbD j=true)):=by
  by_cases hi:i<64
  · rw[yS,←BitVec.not_neg,BitVec.getLsbD_not,BitVec.getLsbD_neg];cases s.getLsbD i<;>simp[hi]
  · rw[A1 _ _ (by omega),A1 _ _ (by omega)];simp
theorem Vu {s:aY} (h:s≠0#64):eU s=mK s::eU (s&&&(s - 1#64)):=by
  obtain⟨h1,U,h3⟩:=CJ h;generalize mK s=k at h1 U h3;have hr:List.range 64=List.range k++k::List.range' (k+1) (64 - (k+1)):=by
    rw[rJ,rJ,←yW,show (64:Nat) - (k+1)+1=64 - k by omega]
    have:=NF (s:=0) (m:=k) (n:=64 - k) (step:=1)
    simp only[uT,gQ] at this;rw[this];congr 1;omega
  unfold eU;rw[hr,List.filter_append,List.filter_append,Nv,Nv,U,Iy s k];have e1:List.filter s.getLsbD (List.range k)=[]:=Zj.2 fun x hx=>by rw[h3 x (by simpa using hx)];simp
  have e2:List.filter (s&&&(s - 1#64)).getLsbD (List.range k)=[]:=Zj.2 fun x hx=>by rw[Iy,h3 x (by simpa using hx)];simp
  rw[e1,e2,
    aB (by rintro⟨j,hj,hs⟩;rw[h3 j hj] at hs;simp at hs)]
  simp only[Bool.and_false,cI,bP,b7,gk,fM,nL];refine List.filter_congr fun x hx=>?_
  have hx:k<x:=by simp only[List.mem_range'_1] at hx;omega
  rw[Iy,aD ⟨k,hx,U⟩,s4]
theorem aly:eU 0#64=[]:=by simp[eU]
theorem alx {s:aY} (h:eU s≠[]):s≠0#64:=by rintro rfl;exact h aly
theorem alz {s:aY} (h:eU s=[]):s=0#64:=by
  apply Classical.byContradiction;intro hc;rw[Vu hc] at h;simp at h
def Hc:List Int:=[0,1,56,2,57,49,28,3,61,58,42,50,38,29,17,4,62,47,59,36,45,43,51,22,53,39,33,30,24,18,12,5,63,55,48,27,60,41,37,16,46,35,44,21,52,32,23,11,54,26,40,15,34,20,31,10,25,14,19,9,13,8,7,6]
def uF:List V:=Hc.map fun n=>.int .u8 n
theorem asb (k:Nat) (h:k<64):((oO k*285870213051353865#64)>>>58).toNat<64∧Hc[((oO k*285870213051353865#64)>>>58).toNat]?=some (k:Int):=by
  revert k;decide +kernel
end Go.Am
namespace Go.Am
structure Tok where
  kind:Int
  text:List UInt8
  pos:Int
inductive Tree where
  | mk (tok:Tok) (kids:List Tree) (fin:Int)
def Tree.tok:Tree→Tok | .mk t _ _=>t
def Tree.kids:Tree→List Tree | .mk _ k _=>k
def Tree.fin:Tree→Int | .mk _ _ e=>e
mutual
def Tree.enc:Tree→List V
  | .mk t ks e=>[.int .u8 t.kind,.str t.text,.int .i64 t.pos,.sl .no 5 (cK ks),.int .i64 e]
def cK:List Tree→List (List V)
  | []=>[]
  | t::ts=>t.enc::cK ts
end
theorem qE:∀l,cK l=l.map Tree.enc
  | []=>rfl
  | t::ts=>by simp[cK,qE ts]
theorem jn (l:List Tree):(cK l).length=l.length:=by simp[qE]
theorem cD (t:Tree):t.enc=[.int .u8 t.tok.kind,.str t.tok.text,.int .i64 t.tok.pos,.sl .no 5 (cK t.kids),.int .i64 t.fin]:=by
  cases t;simp only[Tree.enc,Tree.tok,Tree.kids,Tree.fin]
mutual
def Tree.many:Tree→Nat
  | .mk _ ks _=>aP ks
def aP:List Tree→Nat
  | []=>0
  | t::ts=>1+t.many+aP ts
end
theorem K7 (t:Tree):t.many=aP t.kids:=by cases t;simp[Tree.many,Tree.kids]
theorem qk:∀a b,aP (a++b)=aP a+aP b
  | [],b=>by simp[aP]
  | t::ts,b=>by simp[aP,qk ts b];omega
theorem kB:∀l,l.length≤aP l
  | []=>by simp[aP]
  | t::ts=>by simp[aP];have:=kB ts;omega
theorem al_ {l:List Tree} {i:Nat} (h:i<l.length):aP l=aP (l.take i)+(1+aP l[i].kids)+aP (l.drop (i+1)):=by
  have:l=l.take i++l[i]::l.drop (i+1):=by simp
  have e:=gm aP this;rw[e,qk];simp only[aP,K7];omega
theorem al' {l:List Tree} {i:Nat} (h:i<l.length):aP l[i].kids+1≤aP l:=by
  have:=al_ h;omega
structure Word where
  text:List UInt8
  pos:Int
def Word.enc (w:Word):List V:=[.str w.text,.int .i64 w.pos]
inductive Nd where
  | mk (kind pos:Int) (text:List UInt8) (names:List Word) (kids:List Nd)
namespace Nd
def kind:Nd→Int | .mk k _ _ _ _=>k
def pos:Nd→Int | .mk _ p _ _ _=>p
def text:Nd→List UInt8 | .mk _ _ t _ _=>t
def names:Nd→List Word | .mk _ _ _ w _=>w
def kids:Nd→List Nd | .mk _ _ _ _ k=>k
end Nd
mutual
def Nd.enc:Nd→List V
  | .mk k p t ws ks=>[.int .i64 k,.int .i64 p,.str t,.sl .no 2 (ws.map Word.enc),.sl .no 5 (px ks)]
def px:List Nd→List (List V)
  | []=>[]
  | n::ns=>n.enc::px ns
end
theorem yk:∀l,px l=l.map Nd.enc
  | []=>rfl
  | t::ts=>by simp[px,yk ts]
theorem Nd.cD (n:Nd):n.enc=[.int .i64 n.kind,.int .i64 n.pos,.str n.text,.sl .no 2 (n.names.map Word.enc),.sl .no 5 (n.kids.map Nd.enc)]:=by
  cases n;simp only[Nd.enc,Nd.kind,Nd.pos,Nd.text,Nd.names,Nd.kids,yk]
structure ab where
  l:List Tree
  at_:Int
  fin:Int
  bad:Option Int
def cz (b:Option Int):Int:=match b with | some _=>2 | none=>0
def eN (b:Option Int):Int:=match b with | some a=>a | none=>0
def ab.enc (r:ab):List V:=[.sl .no 5 (cK r.l),.int .i64 r.at_,.int .i64 r.fin,.int .i64 (cz r.bad),.int .i64 (eN r.bad)]
def a8 (l:List Tree) (at_:Int) (k:Int):Bool:=decide (0≤at_)&&match l[at_.toNat]? with | some t=>decide (t.tok.kind=k) | none=>false
def ab.ok (r:ab):Bool:=r.bad.isNone
def ab.spot (r:ab):Int:=if 0≤r.at_ then (match r.l[r.at_.toNat]? with | some t=>t.tok.pos | none=>r.fin) else r.fin
def ab.fail (r:ab):ab:=match r.bad with | some _=>r | none=>{r with bad:=some r.spot}
def ab.sees (r:ab) (k:Int):Bool:=r.ok&&a8 r.l r.at_ k
def Tree.zero:Tree:=.mk ⟨0,[],0⟩ [] 0
def ab.take (r:ab) (k:Int):Tree × ab:=if r.sees k then (r.l.getD r.at_.toNat .zero,{r with at_:=r.at_+1}) else (.zero,r.fail)
def ab.word (r:ab):Word × ab:=(⟨(r.take 97).1.tok.text,(r.take 97).1.tok.pos⟩,(r.take 97).2)
theorem ab.ex1 {r:ab} {n:Nat}:r.enc.drop n=[V.sl .no 5 (cK r.l),.int .i64 r.at_,.int .i64 r.fin,.int .i64 (cz r.bad),.int .i64 (eN r.bad)].drop n:=rfl
theorem ab.ex2 {r:ab} {n:Nat} {x:List V}:setAt r.enc n x=setAt [V.sl .no 5 (cK r.l),.int .i64 r.at_,.int .i64 r.fin,.int .i64 (cz r.bad),.int .i64 (eN r.bad)] n x:=rfl
theorem ab.ex3 {r:ab} {n:Nat} {g:Bool}:bf g n r.enc=bf g n [V.sl .no 5 (cK r.l),.int .i64 r.at_,.int .i64 r.fin,.int .i64 (cz r.bad),.int .i64 (eN r.bad)]:=rfl
theorem ab.ex4 {r:ab} {n:Nat}:bI n r.enc=bI n [V.sl .no 5 (cK r.l),.int .i64 r.at_,.int .i64 r.fin,.int .i64 (cz r.bad),.int .i64 (eN r.bad)]:=rfl
theorem ab.ex:(∀{r:ab} {n:Nat},r.enc.drop n=[V.sl .no 5 (cK r.l),.int .i64 r.at_,.int .i64 r.fin,.int .i64 (cz r.bad),.int .i64 (eN r.bad)].drop n) ∧
    (∀{r:ab} {n:Nat} {x:List V},setAt r.enc n x=setAt [V.sl .no 5 (cK r.l),.int .i64 r.at_,.int .i64 r.fin,.int .i64 (cz r.bad),.int .i64 (eN r.bad)] n x) ∧
    (∀{r:ab} {n:Nat} {g:Bool},bf g n r.enc=bf g n [V.sl .no 5 (cK r.l),.int .i64 r.at_,.int .i64 r.fin,.int .i64 (cz r.bad),.int .i64 (eN r.bad)]) ∧
    (∀{r:ab} {n:Nat},bI n r.enc=bI n [V.sl .no 5 (cK r.l),.int .i64 r.at_,.int .i64 r.fin,.int .i64 (cz r.bad),.int .i64 (eN r.bad)]):=⟨ab.ex1,ab.ex2,ab.ex3,ab.ex4⟩
def gR {β:Type} (step:ab × List β→ab × List β):Nat→ab × List β→ab × List β
  | 0,a=>a
  | n+1,a=>if a.1.sees 44 then gR step n (step ((a.1.take 44).2,a.2)) else a
def da {β:Type} (step:ab × List β→ab × List β) (r:ab):ab × List β:=gR step r.l.length (step (r,[]))
def fu (a:ab × List Word):ab × List Word:=(a.1.word.2,a.2++[a.1.word.1])
theorem ab.eC (r:ab) (k:Int):(r.take k).2.l=r.l:=by
  unfold ab.take;split
  · rfl
  · unfold ab.fail;split<;>rfl
theorem ab.aeI (r:ab):r.fail.at_=r.at_:=by unfold ab.fail;split<;>rfl
theorem ab.EG (r:ab):r.fail.bad≠none:=by
  unfold ab.fail;split
  · rename_i h;rw[h];simp
  · simp
theorem ab.rr (r:ab) (k:Int):(r.sees k=true∧(r.take k).2.at_=r.at_+1∧(r.take k).2.bad=none∧0≤r.at_∧r.at_<r.l.length)∨(r.sees k=false∧(r.take k).2.at_=r.at_∧(r.take k).2.bad≠none):=by
  cases h:r.sees k
  · right;simp only[ab.take,h,cI,bP,nL];exact⟨r.aeI,r.EG⟩
  · left;have h' := h;simp only[ab.sees,ab.ok,a8,a_,bH,Bc] at h';obtain⟨h1,h0,hk⟩:=h';simp only[ab.take,h,b7,nL];refine⟨h1,h0,?_⟩;cases hq:r.l[r.at_.toNat]? with
    | none=>rw[hq] at hk;simp at hk
    | some t=>have:=(dD.1 hq).1;omega
theorem ab.sS (r:ab) (k:Int):aP (r.take k).1.kids≤aP r.l∧((r.take k).2.bad=none→aP (r.take k).1.kids+1≤aP r.l):=by
  rcases r.rr k with ⟨h,_,_,h1,U⟩ | ⟨h,_,h1⟩
  · have aj:r.at_.toNat<r.l.length:=by omega
    have:=al' aj
    simp only[ab.take,h,b7,List.getD,cw aj,DW];exact⟨by omega,fun _=>this⟩
  · refine⟨?_,fun hb=>absurd hb h1⟩;simp[ab.take,h,Tree.zero,Tree.kids,aP]
def Tree.inner (t:Tree):ab:=⟨t.kids,0,t.fin,none⟩
def ab.close (r:ab):ab:=if r.ok=true∧r.at_<r.l.length then r.fail else r
def ab.under (r i:ab):ab:={r with bad:=i.close.bad}
structure Reads {β:Type} (one:ab→β × ab):Prop where
  l:∀r,(one r).2.l=r.l
  go:∀r,0≤r.at_→r.at_≤r.l.length→r.at_≤(one r).2.at_∧(one r).2.at_≤r.l.length∧((one r).2.bad=none→r.at_+1≤(one r).2.at_)
def bJ {β:Type} (one:ab→β × ab) (a:ab × List β):ab × List β:=((one a.1).2,a.2++[(one a.1).1])
def ab.inside {β:Type} (step:ab × List β→ab × List β) (empty:Bool) (t:Tree):ab × List β:=if empty=true∧t.kids.length=0 then (t.inner,[]) else da step t.inner
def ab.bracket {β:Type} (step:ab × List β→ab × List β) (kind:Int) (empty:Bool) (r:ab):(List β × Int) × ab :=
  if (r.take kind).2.ok=true then (((ab.inside step empty (r.take kind).1).2,(r.take kind).1.tok.pos),(r.take kind).2.under (ab.inside step empty (r.take kind).1).1) else (([],0),(r.take kind).2)
def ab.nodes (one:ab→Nd × ab) (kind:Int) (empty:Bool) (r:ab):(List Nd × Int) × ab:=r.bracket (bJ one) kind empty
def ab.words (empty:Bool) (r:ab):(List Word × Int) × ab:=r.bracket fu 123 empty
end Go.Am
namespace Go.Am
def oo:List V:=.int .i64 0::List.replicate 64 (.int .u64 0)
def tC:List V:=.int .i64 0::.sl .full 1 []::oo
def LW:List Nat:=List.replicate 65 1
def eY (l:List aY):List V:=l.map fun w=>.int .u64 (w.toNat:Nat)
section
variable {l m:List aY} {i n:Nat} {w:aY}
theorem EC:(eY l).length=l.length:=by simp[eY]
theorem Sr:bE (eY l)=true:=by induction l with | nil=>rfl | cons a l ih=>simpa [eY,bE,V.one] using ih
theorem Sq:bm (eY l)=true:=by induction l with | nil=>rfl | cons a l ih=>simpa [eY,bm,V.cc] using ih
theorem Sm:a9 (eY l)=eY l:=by induction l with | nil=>rfl | cons a l ih=>simp only[eY,bC,a9,V.erase] at ih ⊢;rw[ih]
theorem Sp:bx n (eY l)=true:=by induction l with | nil=>rfl | cons a l ih=>simpa [eY,bx,V.lo] using ih
theorem So (h:i<l.length):bf false 1 ((eY l).drop i)=some (.int .u64 ((l.getD i 0#64).toNat:Nat)):=by
  have h' : i<(eY l).length:=by rwa [EC]
  rw[kN h'];simp only[bf];simp[eY,List.getD,h]
theorem Ss (h:i<l.length):setAt (eY l) i [.int .u64 (w.toNat:Nat)]=eY (l.set i w):=by
  induction l generalizing i with
  | nil=>simp at h
  | cons a l ih =>
    cases i with
    | zero=>simp only[eY,bC,List.set_cons_zero,lJ,oh,me]
    | succ i=>simp only[cG,Nat.add_lt_add_iff_right] at h;simp only[eY,bC,setAt,List.set_cons_succ] at ih ⊢;rw[ih h]
theorem Sn (h:i<l.length):bI 1 ((eY l).drop i)=true:=by
  have h' : i<(eY l).length:=by rwa [EC]
  rw[kN h'];rfl
theorem Sl (h:l.length=n) (h' : m.length=n):eP (List.replicate n 1) (eY l) (eY m)=some (decide (l=m)):=by
  induction n generalizing l m with
  | zero=>obtain rfl:=iD.1 h;obtain rfl:=iD.1 h';rfl
  | succ n ih =>
    cases l with
    | nil=>simp at h
    | cons a l =>
      cases m with
      | nil=>simp at h'
      | cons b m =>
        simp only[eY,bC,wI] at ih ⊢;rw[vd,ih (by simpa using h) (by simpa using h'),tj,AP,←uM];simp only[fM]
theorem wo:∀{c:List V},takeN c.length c=some c
  | []=>rfl
  | x::c=>by rw[cG,MC,wo];rfl
theorem MA {c e:List V} (h:c.length=n):takeN n (c++e)=some c:=by
  subst h;induction c with
  | nil=>rfl
  | cons x c ih=>rw[cG,fN,MC,ih];rfl
theorem vm:∀{c:List V},bI c.length c=true
  | []=>rfl
  | x::c=>by rw[cG,bI,vm]
theorem qZ:∀{c e:List V},c.length=e.length→over c e=e
  | [],[],_=>rfl
  | x::c,y::e,h=>by rw[over,qZ (by simpa using h)]
  | [],_::_,h=>by simp at h
  | _::_,[],h=>by simp at h
end
structure Rl where
  n:Int
  up:List aY
  len:up.length=64
theorem Rl.ext' {a b:Rl} (h:a.n=b.n) (k:a.up=b.up):a=b:=by cases a;cases b;simp only at h k;subst h;subst k;rfl
instance:DecidableEq Rl:=fun a b=>if h:a.n=b.n∧a.up=b.up then isTrue (Rl.ext' h.1 h.2) else isFalse fun e=>h ⟨e▸rfl,e▸rfl⟩
def Rl.zero:Rl:=⟨0,List.replicate 64 0#64,by simp⟩
def Rl.enc (r:Rl):List V:=.int .i64 r.n::eY r.up
def Rl.get (r:Rl) (i:Nat):aY:=r.up.getD i 0#64
def Rl.put (r:Rl) (i:Nat) (w:aY):Rl:=⟨r.n,r.up.set i w,by simp[r.len]⟩
def Rl.GY (r:Rl) (n:Int):Rl:=⟨n,r.up,r.len⟩
def Rl.of (n:Int) (f:Nat→aY):Rl:=⟨n,(List.range 64).map f,by simp⟩
section
variable {r s:Rl} {i n m:Nat} {w:aY} {z:Int}
theorem Rl.zw {j:Nat}:(r.put i w).get j=if i=j∧i<64 then w else r.get j:=by
  simp only[Rl.get,Rl.put,List.getD,List.getElem?_set,r.len]
  by_cases h:i=j
  · subst h
    by_cases U:i<64
    · simp[U]
    · simp[U,r.len]
  · simp[h]
theorem Rl.lp {f:Nat→aY} (h:i<64):(Rl.of z f).get i=f i:=by simp[Rl.get,Rl.of,List.getD,h]
theorem Rl.ext (h:r.n=s.n) (k:∀i,i<64→r.get i=s.get i):r=s:=by
  refine Rl.ext' h (HJ (by rw[r.len,s.len]) fun i h1 U=>?_)
  have:=k i (by rw[r.len] at h1;exact h1)
  simpa [Rl.get,List.getD,h1,U] using this
theorem Rl.b_:r.enc.length=65:=by simp[Rl.enc,EC,r.len]
theorem Rl.eW:bE r.enc=true:=by simp[Rl.enc,bE,V.one,Sr]
theorem Rl.cN:bm r.enc=true:=by simp[Rl.enc,bm,V.cc,Sq]
theorem Rl.cM:a9 r.enc=r.enc:=by simp[Rl.enc,a9,V.erase,Sm]
theorem Rl.bY:bx m r.enc=true:=by simp[Rl.enc,bx,V.lo,Sp]
theorem Rl.dU:takeN 65 r.enc=some r.enc:=by have:=wo (c:=r.enc);rwa [Rl.b_] at this
theorem Rl.fK:bf true 65 r.enc=some (.agg r.enc):=by rw[yc,Rl.dU];rfl
theorem Rl.fq:bI 65 r.enc=true:=by have:=vm (c:=r.enc);rwa [Rl.b_] at this
theorem Rl.eX:over s.enc r.enc=r.enc:=qZ (by rw[Rl.b_,Rl.b_])
theorem Rl.apI:setAt s.enc 0 r.enc=r.enc:=by rw[lJ,Rl.eX]
theorem Rl.rh:bf false 1 r.enc=some (.int .i64 r.n):=rfl
theorem Rl.apy:bI 1 r.enc=true:=rfl
theorem Rl.WZ:setAt r.enc 0 [.int .i64 z]=(r.GY z).enc:=by rw[Rl.enc,lJ,oh,me];rfl
theorem Rl.apC:over r.enc [.int .i64 z]=(r.GY z).enc:=by rw[←lJ,Rl.WZ]
theorem Rl.vZ:oo=Rl.zero.enc:=by rw[Rl.enc,eY,Rl.zero,List.map_replicate];rfl
theorem Rl.nJ:eP LW r.enc s.enc=some (decide (r=s)):=by
  show eP (1::List.replicate 64 1) (.int .i64 r.n::eY r.up) (.int .i64 s.n::eY s.up)=_;rw[vd,Sl r.len s.len,tj,←uM];congr 1;exact oT.2 ⟨fun h=>Rl.ext' h.1 h.2,fun h=>h▸⟨rfl,rfl⟩⟩
theorem Rl.Gn {f:Nat→aY}:(Rl.of z f).n=z:=rfl
theorem Rl.Zd:Rl.zero.GY z=Rl.of z fun _=>0#64:=by
  refine Rl.ext rfl fun i hi=>?_
  rw[Rl.lp hi];simp only[Rl.get,Rl.GY,Rl.zero,List.getD,Zk,hi,b7,DW]
theorem Rl.fill {f:Nat→aY}:(Rl.of z fun j=>if j<i then f j else 0#64).put i (f i)=Rl.of z fun j=>if j<i+1 then f j else 0#64:=by
  refine Rl.ext rfl fun k hk=>?_
  rw[Rl.zw,Rl.lp hk,Rl.lp hk]
  by_cases h:i=k
  · subst h;simp[hk]
  · rw[ah (by omega)]
    by_cases U:k<i
    · rw[ak U,ak (by omega)]
    · rw[ah U,ah (by omega)]
theorem Rl.uG (h:i<64):bf false 1 (r.enc.drop (1+i))=some (.int .u64 ((r.get i).toNat:Nat)):=by
  rw[Ba,Rl.enc,A5,So (by rw[r.len];exact h)];rfl
theorem Rl.AH (h:i<64):bI 1 (r.enc.drop (1+i))=true:=by
  rw[Ba,Rl.enc,A5,Sn (by rw[r.len];exact h)]
theorem Rl.AI (h:i<64):setAt r.enc (1+i) [.int .u64 (w.toNat:Nat)]=(r.put i w).enc:=by
  rw[Ba,Rl.enc,jH,Ss (by rw[r.len];exact h)];rfl
def Rl.af:=And.intro @Rl.b_ <| And.intro @Rl.eW <| And.intro @Rl.cN <| And.intro @Rl.cM <| And.intro @Rl.bY <| And.intro @Rl.dU <| And.intro @Rl.fK <| And.intro @Rl.fq <| And.intro @Rl.eX <| And.intro @Rl.rh <| And.intro @Rl.apy <| And.intro @Rl.apI <| And.intro @Rl.WZ <| And.intro @Rl.apC <| And.intro @Rl.vZ @Rl.nJ
end
def xm (d a:Nat):AO:=⟨some d,.mv (.s a),none⟩
def xi (d:Nat) (n:Int):AO:=⟨some d,.mv (.c (.int .i64 n)),none⟩
def xb (p:BinOp) (d a b:Nat):AO:=⟨some d,.dA p (.s a) (.s b),none⟩
def xB (p:BinOp) (d a:Nat) (n:Int):AO:=⟨some d,.dA p (.s a) (.c (.int .i64 n)),none⟩
def xu (p:BinOp) (d a:Nat) (n:Int):AO:=⟨some d,.dA p (.s a) (.c (.int .u8 n)),none⟩
def xl (n d a:Nat):AO:=⟨some d,.load true n (.s a),none⟩
def xo (d a:Nat):AO:=⟨some d,.load false 1 (.s a),none⟩
def xk (d a:Nat):AO:=⟨some d,.sI (.s a),none⟩
def xf (o d a:Nat):AO:=⟨some d,.mB o (.s a),none⟩
def xv (n o d a:Nat):AO:=⟨some d,.pP true o n (.s a),none⟩
def xw (o d a:Nat):AO:=⟨some d,.pP false o 1 (.s a),none⟩
def xL (d a:Nat):AO:=⟨some d,.sC (.s a),none⟩
def xT (d a:Nat):AO:=⟨some d,.sD (.s a),none⟩
def xA (k d a b:Nat):AO:=⟨some d,.kv k (.s a) (.s b),none⟩
def xS (d a b:Nat):AO:=⟨some d,.qP (.s a) (.s b),none⟩
def xs (n a b:Nat):AO:=⟨none,.store n (.s a) (.s b),none⟩
def xe (d a i:Nat):AO:=⟨some d,.ext (.s a) i,none⟩
def xc (f:FuncId) (d:Nat) (l:List X):AO:=⟨some d,.call f l,none⟩
def xp (d a b c:Nat):AO:=⟨some d,.pick (.s a) (.s b) (.s c),none⟩
def xa (k d a b:Nat):AO:=⟨some d,.app k (.s a) (.s b),none⟩
def xg (n:Nat) (o:AO):AO:=⟨o.dst,o.op,some (n,true)⟩
def xh (n:Nat) (o:AO):AO:=⟨o.dst,o.op,some (n,false)⟩
section
variable {d a b c n k i o:Nat} {z:Int} {p:BinOp} {f:FuncId} {l:List X} {g:Option Nat} {q:ar}
theorem xm_:xm d a=⟨some d,.mv (.s a),none⟩:=rfl
theorem xi_:xi d z=⟨some d,.mv (.c (.int .i64 z)),none⟩:=rfl
theorem xb_:xb p d a b=⟨some d,.dA p (.s a) (.s b),none⟩:=rfl
theorem xB_:xB p d a z=⟨some d,.dA p (.s a) (.c (.int .i64 z)),none⟩:=rfl
theorem xu_:xu p d a z=⟨some d,.dA p (.s a) (.c (.int .u8 z)),none⟩:=rfl
theorem xl_:xl n d a=⟨some d,.load true n (.s a),none⟩:=rfl
theorem xo_:xo d a=⟨some d,.load false 1 (.s a),none⟩:=rfl
theorem xk_:xk d a=⟨some d,.sI (.s a),none⟩:=rfl
theorem xf_:xf o d a=⟨some d,.mB o (.s a),none⟩:=rfl
theorem xv_:xv n o d a=⟨some d,.pP true o n (.s a),none⟩:=rfl
theorem xw_:xw o d a=⟨some d,.pP false o 1 (.s a),none⟩:=rfl
theorem xL_:xL d a=⟨some d,.sC (.s a),none⟩:=rfl
theorem xT_:xT d a=⟨some d,.sD (.s a),none⟩:=rfl
theorem xA_:xA k d a b=⟨some d,.kv k (.s a) (.s b),none⟩:=rfl
theorem xS_:xS d a b=⟨some d,.qP (.s a) (.s b),none⟩:=rfl
theorem xs_:xs n a b=⟨none,.store n (.s a) (.s b),none⟩:=rfl
theorem xe_:xe d a i=⟨some d,.ext (.s a) i,none⟩:=rfl
theorem xc_:xc f d l=⟨some d,.call f l,none⟩:=rfl
theorem xp_:xp d a b c=⟨some d,.pick (.s a) (.s b) (.s c),none⟩:=rfl
theorem xa_:xa k d a b=⟨some d,.app k (.s a) (.s b),none⟩:=rfl
theorem xg_:xg n ⟨g,q,none⟩=⟨g,q,some (n,true)⟩:=rfl
theorem xh_:xh n ⟨g,q,none⟩=⟨g,q,some (n,false)⟩:=rfl
end
def aR:=And.intro @xm_ <| And.intro @xi_ <| And.intro @xb_ <| And.intro @xB_ <| And.intro @xu_ <| And.intro @xl_ <| And.intro @xo_ <| And.intro @xk_ <| And.intro @xf_ <| And.intro @xv_ <| And.intro @xw_ <| And.intro @xL_ <| And.intro @xT_ <| And.intro @xA_ <| And.intro @xS_ <| And.intro @xs_ <| And.intro @xe_ <| And.intro @xc_ <| And.intro @xp_ <| And.intro @xa_ <| And.intro @xg_ @xh_
theorem ae.yE {a b c:ae} (h:a.sub b) (k:b.sub c):a.sub c:=⟨fun x cs hx=>k.1 x cs (h.1 x cs hx),fun x n hx=>k.2.1 x n (h.2.1 x n hx),fun x n hx=>k.2.2 x n (h.2.2 x n hx)⟩
theorem Env.ok.dK {E:Env} {σ σ' : ae} (h:E.ok σ) (ho:bG σ σ'):E.ok σ' := by
  refine⟨fun b cs hb=>?_,fun t n ht=>h.aC t n (ho.aC t n ht),h.fresh,h.nt,fun b cs hc=>h.bR b cs (ho.bR b cs hc)⟩;obtain⟨ds,h1,U⟩:=ho.box b cs hb;obtain⟨k1,k2⟩:=h.box b ds h1;exact⟨k1,k2.dK U⟩
theorem al.le {P:Program} {f:FuncId} {as:List V} {σ:ae} {v:V} {S S' : ae} (h:al P f as σ fun v' σ' => v' = v∧σ' = S) (ho:bG S S'):al P f as σ fun v' σ' => v' = v∧σ' = S' :=
  ⟨h.1,fun E vs h1 U h3=>(h.2 E vs h1 U h3).mono fun _ _ ⟨v',x,E',σ',a,b,c,d,e,f,g⟩=>⟨v',x,E',S',a,b,c,(g.2▸d).dK ho,e,f,g.1,rfl⟩⟩
theorem bG.set {σ:ae} {b:Nat} {A B:List V} (h:ck A B):bG (σ.set b A) (σ.set b B):=by
  refine⟨fun x cs' hx=>?_,fun _ _ h=>h,fun _ _ h=>h⟩;simp only[ae.set] at hx ⊢
  by_cases e:x=b
  · rw[ak e] at hx ⊢;simp only[aH] at hx;subst hx;exact⟨A,Eq.refl _,h⟩
  · rw[ah e] at hx ⊢;exact⟨cs',hx,ck.rfl⟩
section
variable {σ:ae}
theorem dz.kc {v:V} {rows:List (List V)} {s:List UInt8} {H:V→ae→Prop} (h:dz σ 1 v rows) (hb:rows.length+s.length≤aF)
    (hk:∀v' σ',dz σ' 1 v' (rows++cm s)→td σ v σ' v' → H v' σ'):OQ.aM σ H .kc [v,.str s]:=by
  have h' := h;obtain⟨a,cap,rfl,_⟩:=h;have hn:bm (cm s).flatten=true:=by
    rw[BC];clear hb hk h';induction s with
    | nil=>rfl
    | cons b s ih=>simp only[bC,bm,V.cc,mS];exact ih
  exact(dz.app (tk:=.no) (m:=cm s) h' (by intro r hr;simp only[cm,rI] at hr;obtain⟨_,_,rfl⟩:=hr;rfl) hn (by simpa [cm] using hb) hk).2
theorem dz.Bk {v:V} {rows:List (List V)} {a' : Option Addr} {n' c' : Nat} {s:List UInt8} {H:V→ae→Prop} (h:dz σ 1 v rows) (hr:C4 σ a' n' s) (hb:rows.length+s.length≤aF)
    (hk:∀v' σ',dz σ' 1 v' (rows++cm s)→td σ v σ' v' → H v' σ'):OQ.aM σ H .Bk [v,.raw (.slice a' n' c')]:=by
  have h' := h;obtain⟨a,cap,rfl,_⟩:=h;exact⟨s,hr,dz.kc h' hb hk⟩
theorem dz.Bu {v:V} {s:List UInt8} {H:V→ae→Prop} (h:dz σ 1 v (cm s)) (hk:H (.str s) σ):OQ.aM σ H .Bu [v]:=by
  obtain⟨a,cap,rfl,h1,_,h3⟩:=h;have hl:(cm s).length=s.length:=by simp[cm]
  rw[hl] at h1 h3;refine⟨s,⟨by rw[hl],?_⟩,hk⟩
  rcases h3 with h3 | ⟨b,cs,rfl,h4,_,h6⟩
  · left;rw[hl];omega
  · right;refine⟨b,0,cs,rfl,h4,?_⟩;rw[hl,DH];rw[pJ,BC] at h6;exact h6
theorem ami {a b:Int} {k:IntKind} {H:V→ae→Prop} (hk:H (.int k (if b<a then b else a)) σ):OQ.aM σ H .min [.int k a,.int k b]:=⟨FM,hk⟩
theorem amf {a b:Int} {k:IntKind} {H:V→ae→Prop} (hk:H (.int k (if a<b then b else a)) σ):OQ.aM σ H .max [.int k a,.int k b]:=⟨FM,hk⟩
theorem aqZ {b g:Nat} {cs ds:List V} (h:σ.box b=none) (hg:σ.box g=some ds):(σ.set b cs).box g=some ds:=by
  rw[ae.dc _ _ (by rintro rfl;rw[h] at hg;simp at hg)];exact hg
theorem fU {b:Nat} {cs:List V} (h:σ.box b=none):σ.sub (σ.set b cs) :=
  ⟨fun g ds hg=>aqZ h hg,fun _ _ h=>h,fun _ _ h=>h⟩
end
section
variable {P:Program} {a:AC} {Q:Exit→St→Prop} {st:St} {α:Type} {F:Nat→α→St} {J:Nat→α→Prop} {n:Nat}
def CI (n:Nat) (J:Nat→α→Prop):={p:Nat × α // p.1≤n∧J p.1 p.2}
def A2 (F:Nat→α→St) (J:Nat→α→Prop) (n:Nat) (Q:Exit→St→Prop) (i:Nat):Exit→St→Prop :=
  wB (ι:=CI n J) (fun p=>F p.1.1 p.1.2) (fun p=>n - p.1.1) Q (n - i)
def DA (F:Nat→α→St) (J:Nat→α→Prop) (st:St):Prop:=ba st fun aq => ∃x,J 0 x∧aq = F 0 x
theorem dC (n:Nat) (F:Nat→α→St) (J J' : Nat→α→Prop) (hJ:∀i x,J i x=J' i x) (h0:DA F J st)
    (hs:∀i x,i<n→J' i x→vc P a (A2 F J n Q i) (F i x)) (he:∀x,J' n x→vc P a (A2 F J n Q n) (F n x)):vc P (.loop a) Q st:=by
  refine j6 (ι:=CI n J) (fun p=>F p.1.1 p.1.2) (fun p=>n - p.1.1) (ba.mono h0 ?_) ?_
  · rintro aq ⟨x,hx,rfl⟩;exact⟨⟨(0,x),rO _,hx⟩,rfl⟩
  · rintro⟨⟨i,x⟩,hle,hx⟩
    rcases nS i n with h | h
    · exact hs i x h ((hJ i x)▸hx)
    · have e:i=n:=Nat.le_antisymm hle h;subst e;exact he x ((hJ i x)▸hx)
theorem acj {i id:Nat}:A2 F J n Q i (.exit id) st=Q (.exit id) st:=rfl
theorem acm {i:Nat}:A2 F J n Q i .ret st=Q .ret st:=rfl
def Ht (F:Nat→α→St) (J:Nat→α→Prop) (n i:Nat) (st:St):Prop:=ba st fun aq => ∃j:CI n J,aq = F j.1.1 j.1.2∧n - j.1.1<n - i
theorem ack {i:Nat}:A2 F J n Q i .normal st=Ht F J n i st:=rfl
def aO:=And.intro @acj <| And.intro @acm @ack
variable {t:List V} {l:List (List V)} {σ:ae}
theorem en (x:α) (hx:J 0 x) (h:ck t (F 0 x).t) (hl:cj l (F 0 x).loc) (ho:bG σ (F 0 x).out):DA F J ⟨t,l,σ⟩ :=
  ba.dK h hl ho ⟨x,hx,rfl⟩
theorem nxt {i:Nat} (x:α) (hi:i<n) (hx:J (i+1) x) (h:ck t (F (i+1) x).t) (hl:cj l (F (i+1) x).loc) (ho:bG σ (F (i+1) x).out):Ht F J n i ⟨t,l,σ⟩ :=
  ba.dK h hl ho ⟨⟨(i+1,x),hi,hx⟩,rfl,by simp only;omega⟩
theorem fm {i:Nat} (x:α) (hi:i<n) (hx:J (i+1) x) (h:ck t (F (i+1) x).t) (hl:cj (l.take (F (i+1) x).loc.length) (F (i+1) x).loc) (ho:bG σ (F (i+1) x).out) (h1:bx (F (i+1) x).loc.length (F (i+1) x).t=true) (U:c8 (F (i+1) x).loc.length (F (i+1) x).loc=true):Ht F J n i ⟨t,l,σ⟩ :=
  ba.zj h hl ho h1 U ⟨⟨(i+1,x),hi,hx⟩,rfl,by simp only;omega⟩
structure Gr (cC σ:ae) (tk:Tk) (n:Nat):Prop where
  sub:cC.sub σ
  tk:tk = .full∨∃τ,tk = .tk τ∧σ.aC τ=some n∧cC.aC τ=none
theorem Gr.nil {σ:ae}:Gr σ σ .full 0:=⟨ae.aW _,.inl rfl⟩
theorem Gr.app {cC σ:ae} {tk u:Tk} {k:Nat} {m e:List (List V)} {K:V→ae→Prop} (h:Gr cC σ tk m.length) (hb:m.length+e.length≤aF)
    (hk:∀jI σ',Gr cC σ' jI (m++e).length→σ'.box=σ.box→(∀τ n,σ.aC τ=some n→tk≠.tk τ→σ'.aC τ=some n)→K (.sl jI k (m++e)) σ'):nN σ k (.sl tk k m) (.sl u k e) K:=by
  have hl:(m++e).length=m.length+e.length:=bw
  rcases h.tk with rfl | ⟨τ,rfl,ht,h0⟩
  · refine H5 hb fun τ hn=>hk _ _ ⟨⟨fun b cs hc=>h.sub.1 b cs hc,fun υ n hu=>?_,h.sub.2.2⟩,.inr ⟨τ,rfl,by rw[hl];exact Ml,?_⟩⟩ rfl fun υ n hu _=>?_
    · have:=h.sub.2.1 υ n hu
      rw[yz];exact this;rintro rfl;rw[hn] at this;simp at this
    · cases hq:cC.aC τ with
      | none=>rfl
      | some n=>have:=h.sub.2.1 τ n hq;rw[hn] at this;simp at this
    · rw[yz];exact hu;rintro rfl;rw[hn] at hu;simp at hu
  · refine ke hb ht (hk _ _ ⟨⟨fun b cs hc=>h.sub.1 b cs hc,fun υ n hu=>?_,h.sub.2.2⟩,.inr ⟨τ,rfl,by rw[hl];exact Ml,h0⟩⟩ rfl fun υ n hu aI=>?_)
    · rw[yz];exact h.sub.2.1 υ n hu;rintro rfl;rw[h0] at hu;simp at hu
    · rw[yz];exact hu;rintro rfl;exact aI rfl
theorem bu {l:List V}:ck l l=True:=eq_true ck.rfl
theorem De {α:Type} {l:List α} {i:Nat} {p:α→Prop} (h:∀k∈l.take i,p k) (hi:i<l.length) (hk:p l[i]):∀k∈l.take (i+1),p k:=by
  rw[kP hi];intro k hm
  rcases il.1 hm with hm | hm
  · exact h k hm
  · rw[lS.1 hm];exact hk
theorem S5 {α β:Type} {f:β→α→β} {a:β} {l:List α} {i:Nat} (hi:i<l.length):(l.take (i+1)).foldl f a=f ((l.take i).foldl f a) l[i]:=by
  rw[kP hi,A7];rfl
theorem y8 {p:Nat→Prop} {j:Nat} (h:∀k,k<j→p k) (hj:p j):∀k,k<j+1→p k:=fun k hk=>by
  rcases Zr.1 hk with e | rfl
  · exact h k e
  · exact hj
theorem dB {i n:Nat} (h:i<n):decide ((i:Int)<(n:Nat))=true:=aD (by omega)
theorem dG {n:Nat}:decide ((n:Int)<(n:Nat))=false:=aB (by omega)
theorem cu {i n:Nat} (h:i<n) (hn:n≤9223372036854775807):IntKind.i64.wrap ((i:Int)+1)=((i+1:Nat):Int):=by
  rw[wrap_i64 (by omega) (by omega)];rfl
end
def hZ (n b:Nat):V→V
  | .ptr (.loc i) o=>if i=n then .ptr (.out b) o else if i<n then .ptr (.loc i) o else .any
  | v=>if v.lo n=true then v else .any
def Env.mO (E:Env) (n b:Nat):Env:={w:=E.w,role:=fun x=>if x=b then .nB else E.role x,loc:=fun i=>if i<n then E.loc i else none,aC:=E.aC}
section
variable {E:Env} {n b:Nat}
theorem LL (U:E.role b = .gK n):Fr E (E.mO n b):=by
  have jv:∀x,x≠b→(E.mO n b).role x=E.role x:=fun x hx=>by simp[Env.mO,hx]
  refine⟨rfl,rfl,rfl,bt _,fun _=>rfl,fun b' o c hc hv=>?_,fun t m h=>⟨m,h,bt _,fun _ b' c hr=>⟨?_,fun cs e hcs=>⟨cs,hcs,rfl⟩⟩⟩,fun b' _ hr=>⟨rfl,?_⟩,fun b' _ h=>?_,fun b' t c _ h=>?_,fun b' i _ h=>?_,fun _ c _ h=>⟨c,h,rfl⟩⟩
  · have aI:b' ≠ b:=fun e=>by rw[e,U] at hc;exact hc
    exact⟨by rw[jv _ aI];exact hc,hv⟩
  · have aI:b' ≠ b:=fun e=>by rw[e,U] at hr;simp at hr
    rw[jv _ aI];exact hr
  · have aI:b' ≠ b:=fun e=>by rw[e,U] at hr;simp at hr
    rw[jv _ aI]
  · by_cases e:b' = b
    · rw[e];exact .inr ⟨_,U⟩
    · rw[jv _ e] at h;exact .inl h
  · by_cases e:b' = b
    · rw[e] at h;simp[Env.mO] at h
    · rw[jv _ e] at h;exact⟨c,h⟩
  · by_cases e:b' = b
    · rw[e] at h;simp[Env.mO] at h
    · rw[jv _ e] at h;exact⟨i,h⟩
theorem WO (h1:E.loc n=some b) (U:E.role b = .gK n) {x:V} {v:Value} (h:R E x v):R (E.mO n b) (hZ n b x) v:=by
  have JB:∀{x:V},R E x v→R (E.mO n b) (if x.lo n=true then x else .any) v:=fun {x} h=>by
    split
    · rename_i hl;have hc:=R.cut x hl h;refine R.mono x (E:=E.cut n) ⟨(LL U).cell,fun i c hc=>?_,(LL U).tok⟩ hc;simp only[Env.cut] at hc;simp only[Env.mO];exact hc
    · simp only[R]
  unfold hZ;split
  · rename_i i o;simp only[R] at h;obtain⟨c,k1,k2⟩:=h;split
    · rename_i e;subst e;rw[h1] at k1;simp only[R];rw[k2];cases k1;rfl
    · split
      · rename_i aj;simp only[R,Env.mO];exact⟨c,by rw[ak aj];exact k1,k2⟩
      · simp only[R]
  · exact JB h
theorem WQ (h1:E.loc n=some b) (U:E.role b = .gK n):∀{l:List V} {vs:List Value},RL E l vs→RL (E.mO n b) (l.map (hZ n b)) vs
  | [],[],_=>by simp[RL]
  | [],_::_,h=>by simp[RL] at h
  | _::_,[],h=>by simp[RL] at h
  | x :: l, v :: vs, h => by
    simp only[RL,bC] at h ⊢;exact⟨WO h1 U h.1,WQ h1 U h.2⟩
end
theorem ba.ao8 {t:List V} {l:List (List V)} {cs:List V} {σ:ae} {K:St→Prop} (hn:bm cs=true)
    (hk:∀b,σ.box b=none→K ⟨t.map (hZ l.length b),l.map (List.map (hZ l.length b)),σ.set b cs⟩):ba ⟨t,l++[cs],σ⟩ K:=by
  intro E a hs;obtain⟨b,h1,U,h3⟩:=hs.cg.box l.length cs (by simp);have aS:=LL U;have jv:∀x,x≠b→(E.mO l.length b).role x=E.role x:=fun x hx=>by simp[Env.mO,hx]
  have B0:σ.box b=none:=by
    cases hq:σ.box b with
    | none=>rfl
    | some ds=>have:=(hs.ok.box b ds hq).1;rw[U] at this;simp at this
  have aj:b<E.w.heap.size:=by obtain⟨c,e,k,_⟩:=h3;exact jC (w:=E.w) k
  refine⟨E.mO l.length b,⟨t.map (hZ l.length b),l.map (List.map (hZ l.length b)),σ.set b cs⟩,rfl,aS,⟨⟨fun b' ds hd=>?_,hs.ok.aC,fun b' bz => ?_,hs.ok.nt,fun b cs hc=>c7.mono _ aS.nl (hs.ok.bR b cs hc)⟩,⟨fun i ds hd=>?_,fun i hi=>?_⟩,hs.defers,WQ h1 U hs.slot⟩,hk b B0⟩
  · by_cases e:b' = b
    · subst e;have hd:(σ.set b' cs).box b' = some ds:=hd;rw[iM] at hd;cases hd;refine⟨by simp[Env.mO],?_⟩;obtain⟨c,e,k1,k2,k3⟩:=h3;refine⟨c,e,k1,k2,fun j x hx=>?_⟩;obtain⟨v,q1,q2⟩:=k3 j x hx;refine⟨v,q1,R.nz (E:=E) x (by rw[Env.amF];exact aS.nl) ?_ q2⟩
      have:∀{l:List V} {j:Nat} {x:V},bm l=true→l[j]?=some x→x.cc=true:=by
        intro l;induction l with
        | nil=>intro j x _ h;simp at h
        | cons y ys ih =>
          intro j x hl h;simp only[bm,a_] at hl;cases j with
          | zero=>simp at h;rw[←h];exact hl.1
          | succ j=>exact ih hl.2 (by simpa using h)
      exact this hn hx
    · have hd:(σ.set b cs).box b' = some ds:=hd;rw[rm e] at hd;obtain⟨k1,k2⟩:=hs.ok.box b' ds hd;exact⟨by rw[jv _ e];exact k1,k2.mono aS.nl rfl⟩
  · have bz : E.w.heap.size≤b' := bz;rw[jv b' (by omega)];exact hs.ok.fresh b' bz
  · have hd:(l.map (List.map (hZ l.length b)))[i]?=some ds:=hd;simp only[s7,cx] at hd;obtain⟨Sf,Fc,rfl⟩:=hd;have hi:i<l.length:=(dD.1 Fc).1;obtain⟨bi,k1,k2,c,e,k3,k4,k5⟩:=hs.cg.box i Sf (by rw[oC hi];exact Fc);have aI:bi≠b:=fun e=>by rw[e,U] at k2;simp at k2;omega
    refine⟨bi,by simp[Env.mO,hi,k1],by rw[jv _ aI];exact k2,c,e,k3,by simpa using k4,fun j x hx=>?_⟩;simp only[s7,cx] at hx;obtain⟨x0,Cp,rfl⟩:=hx;obtain⟨v,q1,q2⟩:=k5 j x0 Cp;exact⟨v,q1,WO h1 U q2⟩
  · have hi:l.length≤i:=by simpa using hi
    simp only[Env.mO];rw[ah (by omega)]
section
variable {n b i o:Nat} {k:IntKind} {z:Int} {q:Bool} {s:List UInt8} {τ:Tk} {m:List (List V)} {c:List V}
theorem ao0:hZ n b .any = .any:=by simp[hZ]
theorem ao3:hZ n b (.int k z) = .int k z:=by simp[hZ,V.lo]
theorem ao1:hZ n b (.bool q) = .bool q:=by simp[hZ,V.lo]
theorem ao7:hZ n b (.str s) = .str s:=by simp[hZ,V.lo]
theorem ao6:hZ n b (.sl τ i m) = .sl τ i m:=by simp[hZ,V.lo]
theorem ao5:hZ n b (.ptr (.out i) o) = .ptr (.out i) o:=by simp[hZ,V.lo]
theorem ao2:hZ n b (.elt c o) = .elt c o:=by simp[hZ,V.lo]
theorem ao4:hZ n b (.ptr (.loc i) o)=if i=n then .ptr (.out b) o else if i<n then .ptr (.loc i) o else .any:=rfl
theorem aoZ:hZ n b (.agg c)=if bx n c=true then .agg c else .any:=rfl
theorem WR:∀{l:List V},bx n l=true→bm l=true→l.map (hZ n b)=l
  | [],_,_=>rfl
  | x :: l, h1, U => by
    simp only[bx,bm,a_] at h1 U;rw[bC,WR h1.2 U.2];congr 1;unfold hZ;split
    · simp[V.cc] at U
    · rw[ak h1.1]
def ZJ:=And.intro @ao0 <| And.intro @ao3 <| And.intro @ao1 <| And.intro @ao7 <| And.intro @ao6 <| And.intro @ao5 <| And.intro @ao2 <| And.intro @ao4 @aoZ
end
theorem dz.mk1 {σ:ae} {k:Nat} {c:List V} {H:V→ae→Prop} {v:V} (hv:vL k [v]=some [c]) (hl:c.length=k) (hn:bm c=true)
    (hk:∀v' σ',dz σ' k v' [c]→y3 σ σ' v' → H v' σ'):OQ.aM σ H (.new k) [v]:=by
  refine⟨[c],hv,by simpa using hn,fun b hb=>hk _ _ ⟨_,1,rfl,bt _,by simpa using hl,.inr ⟨b,c,rfl,by simp[iM],by simpa using hl,by simp[yX,hl]⟩⟩ ⟨?_,?_⟩⟩
  · simpa using fU (cs:=c) hb
  · intro b' bz;simp only[nE,aH] at bz;subst bz;exact hb
theorem aqR {xs ys:List V} {n:Nat} {c:List V} (h:n+c.length≤ys.length):setAt (xs++ys) (xs.length+n) c=xs++setAt ys n c:=by
  induction xs with
  | nil=>simp
  | cons x xs ih=>rw[fN,cG,show xs.length+1+n=(xs.length+n)+1 by omega,jH,ih];rfl
theorem Wd {xs ys c:List V} (h:c.length≤xs.length):over (xs++ys) c=over xs c++ys:=by
  induction xs generalizing c with
  | nil=>have:c=[]:=oB (by simpa using h);subst this;simp[me]
  | cons x xs ih =>
    cases c with
    | nil=>rw[me,me]
    | cons d c=>rw[fN,oh,oh,ih (by simpa using h)];rfl
theorem aqS {xs ys c:List V} {n:Nat} (h:n+c.length≤xs.length):setAt (xs++ys) n c=setAt xs n c++ys:=by
  induction xs generalizing n with
  | nil =>
    have h' : n+c.length≤0:=h;obtain rfl:c=[]:=oB (by omega);obtain rfl:n=0:=by omega
    rw[lJ,lJ,me,me]
  | cons x xs ih =>
    cases n with
    | zero=>rw[lJ,lJ,Wd (by simpa using h)]
    | succ n=>rw[fN,jH,jH,ih (by simp at h;omega)];rfl
theorem X5 {xs c:List V} {n:Nat} (h:n+c.length≤xs.length):(setAt xs n c).length=xs.length:=by
  induction xs generalizing n with
  | nil=>cases n<;>rfl
  | cons x xs ih =>
    cases n with
    | zero =>
      rw[lJ];clear ih
      have:∀{xs c:List V},c.length≤xs.length→(over xs c).length=xs.length:=by
        intro xs;induction xs with
        | nil=>intro c h;cases c with | nil=>rfl | cons d c=>simp at h
        | cons x xs ih=>intro c h;cases c with | nil=>rw[me] | cons d c=>rw[oh,cG,cG,ih (by simpa using h)]
      exact this (by simpa using h)
    | succ n=>rw[jH,cG,cG,ih (by simp at h;omega)]
theorem dz.put {σ:ae} {k:Nat} {v:V} {rows:List (List V)} {j off b:Nat} {c cs:List V} {x:List V} (h:dz σ k v rows) (hj:rows[j]?=some c) (hb:nE v=some b) (hc:σ.box b=some cs) (ho:off+x.length≤k) :
    dz (σ.set b (setAt cs (j*k+off) x)) k v (rows.set j (setAt c off x))∧td σ v (σ.set b (setAt cs (j*k+off) x)) v:=by
  obtain⟨a,cap,rfl,h1,U,h3⟩:=h;have aj:=(dD.1 hj).1;have fW:c.length=k:=U c (pI hj)
  rcases h3 with h3 | ⟨b',cs',rfl,h4,h5,h6⟩
  · omega
  · simp only[nE,aH] at hb;subst hb;rw[h4] at hc;cases hc;have km:=jr U;have e1:cs=rows.flatten++cs.drop (rows.length*k):=by rw[←h6];simp
    have e2:rows=rows.take j++c::rows.drop (j+1):=by
      rw[←(dD.1 hj).2,←kN aj,nR]
    have Fj:(rows.take j).flatten.length=j*k:=by
      have:=jr (l:=rows.take j) (k:=k) fun r hr=>U r (s8 hr)
      rw[this,gZ,rN (by omega)]
    have e3:rows.flatten=(rows.take j).flatten++(c++(rows.drop (j+1)).flatten):=by
      conv=>lhs;rw[e2]
      rw[pH,iC]
    have e4:setAt cs (j*k+off) x=(rows.set j (setAt c off x)).flatten++cs.drop (rows.length*k):=by
      have hs:rows.set j (setAt c off x)=rows.take j++setAt c off x::rows.drop (j+1):=by
        rw[List.set_eq_take_append_cons_drop,ak aj]
      conv=>lhs;rw[e1,e3]
      rw[dt,←Fj,aqR (by simp[fW];omega),dt,aqS (by omega),hs,pH,iC];simp only[dt]
    have dR:∀r∈rows.set j (setAt c off x),r.length=k:=fun r hr=>by
      rcases List.mem_or_eq_of_mem_set hr with hr | rfl
      · exact U r hr
      · rw[X5 (by omega),fW]
    have ajd:=jr dR;refine⟨⟨_,cap,by rw[List.length_set],by rw[List.length_set];exact h1,dR,.inr ⟨b',_,rfl,iM,?_,?_⟩⟩,fun c' ds hd aI=>?_,rfl,fun _ h=>.inl h,rfl⟩
    · have:(setAt cs (j*k+off) x).length=cs.length:=X5 (by
        rw[h5]
        have:(j+1)*k≤cap*k:=nT _ (by omega)
        rw[gP] at this;omega)
      rw[this,h5]
    · rw[e4,←ajd,List.take_left]
    · have:c' ≠ b' := fun e=>aI (by rw[e];rfl)
      rw[rm this];exact hd
def bp (r:Rl):Nat:=min r.n.toNat 64
def gw (r:Rl) (i:Nat):aY:=r.get i&&&nf (bp r:Nat)
def dh (r:Rl) (i j:Nat):Bool:=decide (i<bp r)&&(gw r i).getLsbD j
def k_ (r:Rl):Rl:=Rl.of (bp r:Nat) fun i=>if i<bp r then gw r i else 0#64
section
variable {r s:Rl} {i j k:Nat}
theorem lH:bp r≤64:=Nat.min_le_right _ _
theorem L3:(gw r i).getLsbD j=((r.get i).getLsbD j&&decide (j<bp r)):=by
  rw[gw,yS,Rs]
  by_cases h:j<64
  · simp only[h,bZ,mS];congr 1;apply oT.2;omega
  · rw[A1 _ _ (by omega)];simp
theorem FB:dh r i j=(decide (i<bp r)&&(decide (j<bp r)&&(r.get i).getLsbD j)):=by rw[dh,L3,Bool.and_comm (BitVec.getLsbD _ _)]
theorem vC (h:dh r i j=true):i<bp r∧j<bp r:=by
  rw[FB] at h;simp only[a_,bH] at h;exact⟨h.1,h.2.1⟩
theorem anI {n:Nat} {f:Nat→aY} (h:n≤64):bp (Rl.of (n:Nat) f)=n:=by simp only[bp,Rl.of];omega
theorem GB:bp (k_ r)=bp r:=anI lH
theorem CY (h:i<64):(k_ r).get i=if i<bp r then gw r i else 0#64:=Rl.lp h
theorem aoK (h:i<bp r):(k_ r).get i=gw r i:=by rw[CY (rM h lH),ak h]
theorem WC:dh (k_ r) i j=dh r i j:=by
  by_cases h:i<bp r
  · rw[FB,GB,aoK h,L3,FB];cases decide (i<bp r)<;>cases decide (j<bp r)<;>simp
  · rw[dh,dh,GB];simp[h]
theorem WD:k_ r=k_ s↔bp r=bp s∧∀i j,dh r i j=dh s i j:=by
  constructor
  · intro h;exact⟨by rw[←GB (r:=r),h,GB],fun i j=>by rw[←WC (r:=r),h,WC]⟩
  · rintro⟨h1,U⟩;refine Rl.ext (by simp only[k_,Rl.of,h1]) fun i hi=>?_
    rw[CY hi,CY hi,h1];split
    · rename_i h;apply zn;intro j _
      have:=U i j
      rwa [dh,dh,h1,aD h,mS,mS] at this
    · rfl
theorem Sk (h:bp r=0):k_ r=Rl.of 0 fun _=>0#64:=by
  refine Rl.ext (by simp[k_,Rl.of,h]) fun i hi=>?_
  rw[CY hi,h,ah (by omega),Rl.lp hi]
inductive jJ (r:Rl) (i:Nat):Nat→Prop
  | refl (h:i<bp r):jJ r i i
  | tail {j k:Nat} (h:jJ r i j) (hs:dh r j k=true):jJ r i k
theorem jJ.lt (h:jJ r i j):i<bp r∧j<bp r:=by
  induction h with
  | refl h=>exact⟨h,h⟩
  | tail _ hs ih=>exact⟨ih.1,(vC hs).2⟩
theorem jJ.trans (h:jJ r i j) (h' : jJ r j k):jJ r i k:=by
  induction h' with
  | refl _=>exact h
  | tail _ hs ih=>exact ih.tail hs
theorem jJ.one (h:dh r i j=true):jJ r i j:=(jJ.refl (vC h).1).tail h
def rY (r:Rl):Rl:=Rl.of (bp r:Nat) fun i=>if i<bp r then jg (gw r i) (i:Nat) else 0#64
def uy (k:Nat) (o:Rl) (i:Nat):Rl:=if hasB (o.get i) (k:Nat) then o.put i (o.get i|||o.get k) else o
def jU (n k:Nat) (o:Rl):Rl:=(List.range n).foldl (uy k) o
def pM (r:Rl):Rl:=(List.range (bp r)).foldl (fun o k=>jU (bp r) k o) (rY r)
theorem aiW {w:aY}:hasB w (k:Nat)=w.getLsbD k:=by simp[hasB]
theorem vg {α:Type} {f:α→Nat→α} {a:α} {n:Nat}:(List.range (n+1)).foldl f a=f ((List.range n).foldl f a) n:=by rw[rK,A7];rfl
theorem ao_ {w:aY}:(r.put i w).n=r.n:=rfl
theorem ajS {n:Nat} {o:Rl}:(jU n k o).n=o.n:=by
  unfold jU;induction n with
  | zero=>rfl
  | succ n ih=>rw[vg,uy];split<;>simp[ao_,ih]
theorem UN {o:Rl} {n:Nat} (h:n≤64):(jU n k o).get i=if i<n∧(o.get i).getLsbD k=true then o.get i|||o.get k else o.get i:=by
  induction n generalizing i with
  | zero=>simp[jU]
  | succ n Ks =>
    have ih:=fun i=>@Ks i (by omega)
    have hk:(jU n k o).get k=o.get k:=by rw[ih k];split<;>simp
    have e:jU (n+1) k o=uy k (jU n k o) n:=vg;rw[e,uy,aiW]
    by_cases hi:i=n
    · subst hi;have T9:(jU i k o).get i=o.get i:=by rw[ih i,ah (by omega)]
      rw[T9,hk];split
      · rename_i hb;rw[Rl.zw,ak ⟨rfl,by omega⟩,ak ⟨by omega,hb⟩]
      · rename_i hb;rw[T9,ah (fun hc=>hb hc.2)]
    · have aI:(if ((jU n k o).get n).getLsbD k=true then (jU n k o).put n ((jU n k o).get n|||(jU n k o).get k) else jU n k o).get i=(jU n k o).get i:=by
        split
        · rw[Rl.zw,ah (by omega)]
        · rfl
      rw[aI,ih i]
      by_cases aj:i<n
      · simp[aj,show i<n+1 by omega]
      · simp[aj,show ¬i<n+1 by omega]
def jF (r:Rl) (m:Nat):Rl:=(List.range m).foldl (fun o k=>jU (bp r) k o) (rY r)
theorem Gu {m:Nat}:jF r (m+1)=jU (bp r) m (jF r m):=vg
theorem Lu {m:Nat}:(jF r m).n=(bp r:Nat):=by
  induction m with
  | zero=>rfl
  | succ m ih=>rw[Gu,ajS,ih]
theorem CV {m:Nat} (hi:i<bp r):((jF r (m+1)).get i).getLsbD j=(((jF r m).get i).getLsbD j||(((jF r m).get i).getLsbD m&&((jF r m).get m).getLsbD j)):=by
  rw[Gu,UN lH];cases hq:((jF r m).get i).getLsbD m with
  | false=>simp
  | true=>simp[hi]
theorem RF (hi:i<bp r):((rY r).get i).getLsbD j=(dh r i j||decide (j=i)):=by
  have cT : i<64:=rM hi lH;rw[rY,Rl.lp cT,ak hi,Hh,dh,aD hi,mS];congr 1
  by_cases h:j=i
  · subst h;simp[cT]
  · simp[h];omega
theorem an7 {m:Nat} (h:bp r≤i) (hi:i<64):(jF r m).get i=0#64:=by
  induction m with
  | zero=>rw[jF];simp only[List.range_zero,List.foldl_nil,rY];rw[Rl.lp hi,ah (by omega)]
  | succ m ih=>rw[Gu,UN lH,ah (by omega),ih]
theorem an8 {m:Nat} (hm:m≤bp r) (hi:i<bp r):∀{j:Nat},((jF r m).get i).getLsbD j=true→jJ r i j:=by
  induction m generalizing i with
  | zero =>
    intro j h;have h:((rY r).get i).getLsbD j=true:=h;rw[RF hi,kK,bH] at h
    rcases h with h | rfl
    · exact jJ.one h
    · exact jJ.refl hi
  | succ m ih =>
    intro j h;rw[CV hi,kK,a_] at h
    rcases h with h | ⟨h1,U⟩
    · exact ih (by omega) hi h
    · exact(ih (by omega) hi h1).trans (ih (by omega) (by omega) U)
theorem Lt {m:Nat} (hi:i<bp r) (h:dh r i j=true∨j=i):((jF r m).get i).getLsbD j=true:=by
  induction m with
  | zero=>show ((rY r).get i).getLsbD j=true;rw[RF hi];simpa using h
  | succ m ih=>rw[CV hi,ih];rfl
theorem an9 {m:Nat} (hm:m≤bp r):∀{i k j:Nat},i<bp r→k<m→((jF r m).get i).getLsbD k=true→((jF r m).get k).getLsbD j=true→((jF r m).get i).getLsbD j=true:=by
  induction m with
  | zero=>intro i k j _ h;omega
  | succ m ih =>
    intro i k j hi hk h1 U;have ih:=@ih (by omega);have Fu:((jF r m).get m).getLsbD m=true:=Lt (by omega) (.inr rfl);rw[CV hi] at h1;rw[CV (by omega)] at U;rw[CV hi];simp only[kK,a_] at h1 U ⊢
    by_cases hkm:k=m
    · subst hkm;have a:((jF r k).get i).getLsbD k=true:=h1.elim id (·.1);have b:((jF r k).get k).getLsbD j=true:=U.elim id (·.2);exact .inr ⟨a,b⟩
    · have iX : k<m:=by omega
      rcases h1 with h1 | ⟨h1,tG⟩
      · rcases U with U | ⟨U,tI⟩
        · exact .inl (ih hi iX h1 U)
        · exact .inr ⟨ih hi iX h1 U,tI⟩
      · rcases U with U | ⟨_,tI⟩
        · exact .inr ⟨h1,ih (by omega) iX tG U⟩
        · exact .inr ⟨h1,tI⟩
theorem Ii (hi:i<bp r):((pM r).get i).getLsbD j=true↔jJ r i j:=by
  show ((jF r (bp r)).get i).getLsbD j=true↔_;constructor
  · exact an8 (bt _) hi
  · intro h;induction h with
    | refl h=>exact Lt h (.inr rfl)
    | tail h hs ih=>exact an9 (bt _) hi h.lt.2 ih (Lt h.lt.2 (.inl hs))
theorem Br:bp (pM r)=bp r:=by
  have:(pM r).n=(bp r:Nat):=Lu
  rw[bp,this];have:=@lH r;omega
theorem Ij:dh (pM r) i j=true↔jJ r i j:=by
  rw[FB,Br];constructor
  · intro h;simp only[a_,bH] at h;exact(Ii h.1).1 h.2.2
  · intro h
    have:=h.lt
    rw[aD this.1,aD this.2,(Ii this.1).2 h];rfl
theorem abZ:k_ (pM r)=pM r:=by
  refine Rl.ext ?_ fun i hi=>?_
  · show ((bp (pM r):Nat):Int)=_;rw[Br];exact Lu.symm
  · rw[CY hi,Br];split
    · rename_i aj;apply zn;intro j _;rw[L3,Br];cases hq:((pM r).get i).getLsbD j with
      | false=>rfl
      | true=>rw[aD ((Ii aj).1 hq).lt.2];rfl
    · exact(an7 (by omega) hi).symm
def rZ (r:Rl):Bool:=decide (k_ r=pM r)
theorem ab1:rZ r=true↔(∀i,i<bp r→dh r i i=true)∧∀i j k,dh r i j=true→dh r j k=true→dh r i k=true:=by
  rw[rZ,decide_eq_true_iff,←abZ,WD];constructor
  · rintro⟨_,h⟩;refine⟨fun i hi=>?_,fun i j k h1 U=>?_⟩
    · rw[h,Ij];exact jJ.refl hi
    · rw[h,Ij] at h1 U ⊢;exact h1.trans U
  · rintro⟨h1,U⟩;refine⟨Br.symm,fun i j=>?_⟩;rw[Dz,Ij];refine⟨jJ.one,fun h=>?_⟩;induction h with
    | refl h=>exact h1 _ h
    | tail _ hs ih=>exact U _ _ _ ih hs
def sV (r:Rl) (w:aY):aY:=(eU (w&&&nf (bp r:Nat))).foldl (fun o i=>o|||gw r i) 0#64
theorem S6 {f:Nat→aY}:∀{l:List Nat} {o:aY},(l.foldl (fun o i=>o|||f i) o).getLsbD j=(o.getLsbD j||l.any fun i=>(f i).getLsbD j)
  | [],o=>by simp
  | a::l,o=>by rw[wD,S6,BitVec.getLsbD_or,List.any_cons,Bool.or_assoc]
theorem YH {w:aY}:(sV r w).getLsbD j=true↔∃i,w.getLsbD i=true∧dh r i j=true:=by
  rw[sV,S6];simp only[BitVec.getLsbD_zero,yT,A4,VK,yS,a_,Rs,bH];constructor
  · rintro⟨i,⟨h1,_,U⟩,h3⟩;exact⟨i,h1,by rw[dh,h3,aD (by omega)];rfl⟩
  · rintro⟨i,h1,U⟩
    have:=(vC U).1;have:=@lH r
    rw[dh,a_] at U;exact⟨i,⟨h1,by omega,by omega⟩,U.2⟩
def u9 (r:Rl) (w:aY):aY:=(List.range (bp r)).foldl (fun o i=>if gw r i&&&w=0#64 then o else jg o (i:Nat)) 0#64
theorem amy {w:aY}:w≠0#64↔∃j,w.getLsbD j=true:=by
  constructor
  · intro h;exact⟨_,(CJ h).2.1⟩
  · rintro⟨j,h⟩ rfl;simp at h
theorem adp {w:aY} {n:Nat} (h:n≤64):((List.range n).foldl (fun o i=>if gw r i&&&w=0#64 then o else jg o (i:Nat)) 0#64).getLsbD i=true↔i<n∧gw r i&&&w≠0#64:=by
  induction n with
  | zero=>simp
  | succ n Ks =>
    have ih:=Ks (by omega);rw[vg]
    by_cases hi:i=n
    · subst hi;split
      · rename_i h0;rw[ih];constructor
        · intro hc;omega
        · intro hc;exact absurd h0 hc.2
      · rename_i h0;rw[Hh,aD (show i<64 by omega)];simp[h0]
    · split
      · rw[ih];constructor<;>rintro⟨a,b⟩<;>exact⟨by omega,b⟩
      · rw[Hh,aB (p:=(i:Int)=(n:Nat)) (by omega),Bool.and_false,Bool.or_false,ih];constructor<;>rintro⟨a,b⟩<;>exact⟨by omega,b⟩
theorem adq {w:aY}:(u9 r w).getLsbD i=true↔∃j,w.getLsbD j=true∧dh r i j=true:=by
  rw[u9,adp lH,amy];simp only[yS,a_,dh,bH];constructor
  · rintro⟨a,j,b,c⟩;exact⟨j,c,a,b⟩
  · rintro⟨j,c,a,b⟩;exact⟨a,j,b,c⟩
theorem Gm {i j:Nat} (h:i<64):(mM [(i:Int)]).getLsbD j=decide (j=i):=by
  rw[V8]
  by_cases e:j=i
  · subst e;simp[h]
  · simp[e];omega
theorem Lh:∀{n:Nat} {l:List Nat},l.Nodup→(∀x∈l,x<n)→l.length≤n
  | 0, l, _, h => by
    cases l with
    | nil=>simp
    | cons a l=>have:=h a (by simp);omega
  | n + 1, l, hd, h => by
    by_cases hn:n∈l
    · have:=Lh (n:=n) (hd.erase n) fun x hx=>by
        have:=h x (List.mem_of_mem_erase hx)
        have aI:x≠n:=fun e=>by subst e;exact(hd.not_mem_erase) hx
        omega
      rw[List.length_erase_of_mem hn] at this;omega
    · have:=Lh (n:=n) hd fun x hx=>by
        have:=h x hx
        have aI:x≠n:=fun e=>hn (e▸hx)
        omega
      omega
def vU (r:Rl) (i:Nat):aY:=sV r (mM [(i:Int)])&&&u9 r (mM [(i:Int)])
def wM (r:Rl):Bool:=(List.range (bp r)).all fun i=>(List.range i).all fun j=>!(dh r i j&&dh r j i)
def Ao (r:Rl):Bool:=rZ r&&wM r
theorem ZN:wM r=true↔∀i j,dh r i j=true→dh r j i=true→i=j:=by
  simp only[wM,jl,wH,rD,Dy];constructor
  · intro h i j h1 U
    have:=vC h1
    rcases Bb i j with hc | hc | hc
    · rcases h j this.2 i hc with e | e
      · rw[e] at U;simp at U
      · rw[e] at h1;simp at h1
    · exact hc
    · rcases h i this.1 j hc with e | e
      · rw[e] at h1;simp at h1
      · rw[e] at U;simp at U
  · intro h i hi j hj;cases h1:dh r i j with
    | false=>exact .inl rfl
    | true =>
      cases U:dh r j i with
      | false=>exact .inr rfl
      | true=>have:=h i j h1 U;omega
theorem VO (hi:i<64):(vU r i).getLsbD j=(dh r i j&&dh r j i):=by
  rw[vU,yS,Dz,a_,a_,YH,adq];simp only[Gm hi,bH];constructor
  · rintro⟨⟨a,rfl,h1⟩,⟨b,rfl,U⟩⟩;exact⟨h1,U⟩
  · rintro⟨h1,U⟩;exact⟨⟨_,rfl,h1⟩,⟨_,rfl,U⟩⟩
theorem VP (hc:rZ r=true) (hi:i<bp r):vU r i=mM [(i:Int)]↔∀j,dh r i j=true→dh r j i=true→j=i:=by
  have cT : i<64:=rM hi lH;have hr:=(ab1.1 hc).1 i hi;constructor
  · intro h j h1 U
    have:=gm (fun w:aY=>w.getLsbD j) h
    simp only[VO cT,h1,U,Gm cT,Hr] at this;simpa using this.symm
  · intro h;apply zn;intro j _;rw[VO cT,Gm cT]
    by_cases e:j=i
    · subst e;simp[hr]
    · rw[aB e];cases h1:dh r i j with
      | false=>rfl
      | true =>
        cases U:dh r j i with
        | false=>rfl
        | true=>exact absurd (h j h1 U) e
theorem Q8 (hc:rZ r=true):wM r=true↔∀i,i<bp r→vU r i=mM [(i:Int)]:=by
  rw[ZN];constructor
  · intro h i hi;exact(VP hc hi).2 fun j h1 U=>(h i j h1 U).symm
  · intro h i j h1 U;exact((VP hc (vC h1).1).1 (h i (vC h1).1) j h1 U).symm
end
section
variable {r:Rl} {w a b:aY} {i j k n o p x y:Nat}
theorem find_congr {α:Type} {p q:α→Bool}:∀{l:List α},(∀x∈l,p x=q x)→l.find? p=l.find? q
  | [],_=>rfl
  | a :: l, h => by
    have h1:=h a (by simp);have U:=find_congr (l:=l) fun x hx=>h x (by simp[hx])
    simp only[List.find?_cons,h1,U]
def ti (r:Rl) (i:Nat):aY:=sV r (mM [(i:Int)])
def tm (r:Rl) (i:Nat):aY:=if i<bp r then u9 r (mM [(i:Int)]) else 0#64
theorem ZB:(ti r i).getLsbD j=dh r i j:=by
  rw[Dz,ti,YH];constructor
  · rintro⟨k,h1,U⟩;rw[V8] at h1;simp only[lS,a_,bH] at h1;obtain rfl:k=i:=by omega
    exact U
  · intro h
    have:=(vC h).1;have:=@lH r
    exact⟨i,by rw[Gm (by omega)];simp,h⟩
def Gh (f:Nat→aY) (i j:Nat):Option Nat:=(eU (f i&&&f j)).find? fun u=>yD (f i&&&f j) (f u)
def uc (r:Rl) (i j:Nat):Option Nat:=Gh (ti r) i j
def vS (r:Rl) (i j:Nat):Option Nat:=Gh (tm r) i j
def po (r:Rl):Bool:=decide (1≤r.n)&&decide (r.n≤64)&&Ao r&&(List.range r.n.toNat).all fun i=>(List.range i).all fun j=>(uc r i j).isSome&&(vS r i j).isSome
def WH (r:Rl) (w:aY):Option Nat:=(List.range (bp r)).find? fun i=>decide (tm r i=w)
def apN (r:Rl) (a b:aY):aY :=
  match WH r a,WH r b with
  | some i,some j=>(match uc r i j with | some k=>tm r k | none=>a|||b)
  | _,_=>a|||b
def oY (r:Rl):Bool:=decide (1≤r.n)&&decide (r.n≤8)&&rZ r
theorem Tu (h:oY r=true):∃n:Nat,r.n=n∧bp r=n∧1≤n∧n≤8:=by
  simp only[oY,a_,bH] at h;exact⟨r.n.toNat,by omega,by rw[bp];omega,by omega,by omega⟩
def Gt (r:Rl) (w:aY) (o:Nat):aY:=(w>>>(8*o))&&&nf r.n
def Av (n:Nat) (f:Nat→aY):aY:=(List.range n).foldl (fun w o=>w|||(f o<<<(8*o))) 0#64
def Eo (r:Rl) (w:aY) (o:Nat):aY:=(eU (ti r o)).foldl (fun s p=>s|||u9 r (Gt r w p)) 0#64
def Ep (r:Rl) (w:aY):aY:=if oY r then Av r.n.toNat (Eo r w) else 0#64
def ue (r:Rl) (d:aY):aY:=nf r.n&&&~~~sV r d
def Aw (r:Rl) (o:Nat) (d:aY):aY:=if oY r&&decide ((o:Int)<r.n) then Ep r (Av r.n.toNat fun k=>if k=o then ue r d else 0#64) else 0#64
def yy (n k:Int):aY × Bool:=if 1≤n∧n≤64∧0≤k∧k<n then (nf k,true) else (0#64,false)
end
def ab.leaf (kind:Int) (r:ab):Nd × ab:=(.mk kind r.word.1.pos r.word.1.text [] [],r.word.2)
def ab.rule (r:ab):Nd × ab :=
  (.mk 6 r.word.1.pos r.word.1.text ((r.word.2.take 58).2.words true).1.1 [],((r.word.2.take 58).2.words true).2)
def ab.constant:Nat→ab→Nd × ab
  | 0,r=>r.leaf 2
  | n + 1, r =>
    if r.sees 123=true then (.mk 3 (r.words true).1.2 [] (r.words true).1.1 [],(r.words true).2)
    else if r.sees 40=true then (.mk 4 (r.nodes (ab.constant n) 40 false).1.2 [] [] (r.nodes (ab.constant n) 40 false).1.1,(r.nodes (ab.constant n) 40 false).2)
    else if r.sees 91=true then (.mk 5 (r.nodes ab.rule 91 true).1.2 [] [] (r.nodes ab.rule 91 true).1.1,(r.nodes ab.rule 91 true).2)
    else r.leaf 2
def ab.atom (n:Nat) (r:ab):Nd × ab :=
  if r.sees 35=true then (.mk 7 (r.take 35).1.tok.pos [] [] [(ab.constant n (r.take 35).2).1],(ab.constant n (r.take 35).2).2) else r.leaf 1
def ab.label:Nat→ab→Nd × ab
  | 0,r=>r.leaf 1
  | n + 1, r =>
    if r.sees 43=true then (.mk 8 (r.take 43).1.tok.pos [] [] ((r.take 43).2.nodes (ab.label n) 40 false).1.1,((r.take 43).2.nodes (ab.label n) 40 false).2)
    else if r.sees 38=true then (.mk 9 (r.take 38).1.tok.pos [] [] ((r.take 38).2.nodes (ab.label n) 40 false).1.1,((r.take 38).2.nodes (ab.label n) 40 false).2)
    else r.atom (n+1)
def ab.field (n:Nat) (r:ab):Nd × ab :=
  (.mk 11 r.word.1.pos r.word.1.text [] [((r.word.2.take 61).2.atom n).1],((r.word.2.take 61).2.atom n).2)
def j9 (r r' : ab):Prop:=r'.l=r.l∧(0≤r.at_→r.at_≤r.l.length→r.at_≤r'.at_∧r'.at_≤r.l.length∧(r'.bad=none→r.at_+1≤r'.at_))
theorem j9.trans {a b c:ab} (h:j9 a b) (k:j9 b c):j9 a c:=by
  refine⟨k.1.trans h.1,fun h1 U=>?_⟩;obtain⟨p1,p2,p3⟩:=h.2 h1 U;obtain⟨q1,q2,q3⟩:=k.2 (by omega) (by rw[h.1];exact p2);rw[h.1] at q2;exact⟨by omega,q2,fun hq=>by have:=q3 hq;omega⟩
theorem qF (r:ab) (k:Int):j9 r (r.take k).2:=by
  refine⟨r.eC k,fun h1 U=>?_⟩
  rcases r.rr k with ⟨_,e,_,h3,h4⟩ | ⟨_,e,hb⟩
  · rw[e];exact⟨by omega,by omega,fun _=>by omega⟩
  · rw[e];exact⟨by omega,U,fun hq=>absurd hq hb⟩
theorem vj (r:ab):j9 r r.word.2:=qF r 97
theorem BM (r:ab) (k:Int):j9 r (r.leaf k).2:=vj r
theorem Tn {β:Type} (step:ab × List β→ab × List β) (k:Int) (e:Bool) (r:ab):j9 r (r.bracket step k e).2:=by
  have h:=qF r k;unfold ab.bracket;split
  · rename_i bM;have hb:(r.take k).2.bad=none:=by simpa [ab.ok] using bM
    exact⟨h.1,fun h1 U=>by
      obtain⟨p1,p2,p3⟩:=h.2 h1 U;exact⟨p1,p2,fun _=>p3 hb⟩⟩
  · exact h
theorem I3 (r:ab) (e:Bool):j9 r (r.words e).2:=Tn _ _ _ _
theorem EV (r:ab) (one:ab→Nd × ab) (k:Int) (e:Bool):j9 r (r.nodes one k e).2:=Tn _ _ _ _
theorem Au {one:ab→Nd × ab} (h:∀r,j9 r (one r).2):Reads one:=⟨fun r=>(h r).1,fun r=>(h r).2⟩
theorem aiD (r:ab):j9 r r.rule.2:=((vj r).trans (qF _ _)).trans (I3 _ _)
theorem Tp:∀(n:Nat) (r:ab),j9 r (ab.constant n r).2
  | 0,r=>BM r 2
  | n + 1, r => by
    simp only[ab.constant];split
    · exact I3 r true
    · split
      · exact EV r _ 40 false
      · split
        · exact EV r _ 91 true
        · exact BM r 2
theorem Tm (n:Nat) (r:ab):j9 r (r.atom n).2:=by
  simp only[ab.atom];split
  · exact(qF r 35).trans (Tp n _)
  · exact BM r 1
theorem I2:∀(n:Nat) (r:ab),j9 r (ab.label n r).2
  | 0,r=>BM r 1
  | n + 1, r => by
    simp only[ab.label];split
    · exact(qF r 43).trans (EV _ _ 40 false)
    · split
      · exact(qF r 38).trans (EV _ _ 40 false)
      · exact Tm (n+1) r
theorem Tq (n:Nat) (r:ab):j9 r (r.field n).2:=((vj r).trans (qF _ _)).trans (Tm n _)
def ab.lI (n:Nat) (i:ab):(ab × List Nd) × List Word :=
  let a:=if i.sees 124=true then (i,[]) else da (bJ (ab.field n)) i
  if a.1.sees 124=true then (((a.1.take 124).2.word.2,a.2),[(a.1.take 124).2.word.1]) else (a,[])
def ab.rowOf (n:Nat) (t:Tree):(ab × List Nd) × List Word:=if t.kids.length=0 then ((t.inner,[]),[]) else t.inner.lI n
def ab.row (n:Nat) (r:ab):Nd × ab :=
  if r.sees 91=true then (.mk 10 (r.take 91).1.tok.pos [] (ab.rowOf n (r.take 91).1).2 (ab.rowOf n (r.take 91).1).1.2,(r.take 91).2.under (ab.rowOf n (r.take 91).1).1.1) else r.leaf 1
def Nd.zero:Nd:=.mk 0 0 [] [] []
def eh (one:ab→Nd × ab) (l:List Tree) (at_ fin:Int):Nd × Int × Option Int :=
  match (one ⟨l,at_,fin,none⟩).2.bad with
  | some b=>(.zero,0,some b)
  | none=>((one ⟨l,at_,fin,none⟩).1,(one ⟨l,at_,fin,none⟩).2.at_,none)
def ib (l:List Tree) (at_ fin:Int):List Word × Option Int :=
  match ((⟨l,at_,fin,none⟩:ab).words false).2.bad with
  | some b=>([],some b)
  | none=>(((⟨l,at_,fin,none⟩:ab).words false).1.1,none)
structure bK where
  node:Nd
  next:Int
  bad:Bool
  pos:Int
def bK.enc (g:bK):List V:=[.int .i64 g.node.kind,.int .i64 g.node.pos,.str g.node.text,.sl .no 2 (g.node.names.map Word.enc),.sl .no 5 (g.node.kids.map Nd.enc),.int .i64 g.next,.bool g.bad,.int .i64 g.pos]
def mj (l:List Tree) (at_ fin:Int):Int:=if 0≤at_ then (match l[at_.toNat]? with | some t=>t.tok.pos | none=>fin) else fin
def db (l:List Tree) (at_ fin:Int):bK:=⟨.zero,0,true,mj l at_ fin⟩
def eJ (l:List Tree) (at_:Int):Tok:=match l[at_.toNat]? with | some t=>t.tok | none=>⟨0,[],0⟩
def nameAt (l:List Tree) (at_ fin:Int):bK :=
  if a8 l at_ 97=true then ⟨.mk 0 (eJ l at_).pos (eJ l at_).text [] [],at_+1,false,0⟩ else db l at_ fin
def ft (one:Int→bK) (l:List Tree):Nat→Int→List Nd→List Nd × bK
  | 0,_,_=>([],⟨.zero,0,true,0⟩)
  | n + 1, at_, out =>
    if (one at_).bad=true then ([],one at_)
    else if a8 l (one at_).next 44=true then ft one l n ((one at_).next+1) (out++[(one at_).node])
    else (out++[(one at_).node],one at_)
def wholeAt (one:List Tree→Int→Int→bK) (t:Tree) (empty:Bool):List Nd × bK :=
  if empty=true∧t.kids.length=0 then ([],⟨.zero,0,false,0⟩)
  else
    let r:=ft (fun i=>one t.kids i t.fin) t.kids (t.kids.length+1) 0 []
    if r.2.bad=false∧r.2.next<t.kids.length then ([],db t.kids r.2.next t.fin) else r
def qv (l:List Nd):List Word:=l.map fun n=>⟨n.text,n.pos⟩
def bn (l:List Tree) (at_:Int):Tree:=match l[at_.toNat]? with | some t=>t | none=>.zero
def pz (l:List Tree) (at_ fin:Int):List Word × bK :=
  if a8 l at_ 123=true then (qv (wholeAt nameAt (bn l at_) false).1,(wholeAt nameAt (bn l at_) false).2) else ([],db l at_ fin)
theorem vK {l:List Tree} {i k:Int} (h:a8 l i k=true):∃j t,i=(j:Nat)∧l[j]?=some t∧t.tok.kind=k∧j<l.length:=by
  simp only[a8,a_,bH] at h;obtain⟨h0,hk⟩:=h;obtain⟨j,rfl⟩:=A3 h0;simp only[iP] at hk;cases hq:l[j]? with
  | none=>rw[hq] at hk;simp at hk
  | some t=>rw[hq] at hk;exact⟨j,t,rfl,hq,by simpa using hk,(dD.1 hq).1⟩
theorem ny {l:List Nd} {j:Nat} {t:Nd} (h:l[j]?=some t):(l.map Nd.enc)[((j:Nat):Int).toNat]?=some t.enc:=by simp[h]
theorem AR {l:List Word} {j:Nat} {t:Word} (h:l[j]?=some t):(l.map Word.enc)[((j:Nat):Int).toNat]?=some t.enc:=by simp[h]
theorem Tree.b_ {x:Tree}:x.enc.length=5:=by rw[cD];rfl
theorem Tree.eW {x:Tree}:bE x.enc=true:=by rw[cD];rfl
theorem Tree.cN {x:Tree}:bm x.enc=true:=by rw[cD];rfl
theorem Tree.cM {x:Tree}:a9 x.enc=x.enc:=by rw[cD];rfl
theorem Tree.dU {x:Tree}:takeN 5 x.enc=some x.enc:=by rw[cD];rfl
theorem Tree.fK {x:Tree}:bf true 5 x.enc=some (.agg x.enc):=by rw[cD];rfl
theorem Tree.fq {x:Tree}:bI 5 x.enc=true:=by rw[cD];rfl
theorem Tree.eX {x:Tree} {z0 z1 z2 z3 z4:V}:over [z0,z1,z2,z3,z4] x.enc=x.enc:=by rw[cD];rfl
theorem Tree.bY {x:Tree} {n:Nat}:bx n x.enc=true:=by rw[cD];rfl
def Tree.af:=And.intro @Tree.b_ <| And.intro @Tree.eW <| And.intro @Tree.cN <| And.intro @Tree.cM <| And.intro @Tree.dU <| And.intro @Tree.fK <| And.intro @Tree.fq <| And.intro @Tree.eX @Tree.bY
theorem Nd.b_ {x:Nd}:x.enc.length=5:=by rw[Nd.cD];rfl
theorem Nd.eW {x:Nd}:bE x.enc=true:=by rw[Nd.cD];rfl
theorem Nd.cN {x:Nd}:bm x.enc=true:=by rw[Nd.cD];rfl
theorem Nd.cM {x:Nd}:a9 x.enc=x.enc:=by rw[Nd.cD];rfl
theorem Nd.dU {x:Nd}:takeN 5 x.enc=some x.enc:=by rw[Nd.cD];rfl
theorem Nd.fK {x:Nd}:bf true 5 x.enc=some (.agg x.enc):=by rw[Nd.cD];rfl
theorem Nd.fq {x:Nd}:bI 5 x.enc=true:=by rw[Nd.cD];rfl
theorem Nd.eX {x:Nd} {z0 z1 z2 z3 z4:V}:over [z0,z1,z2,z3,z4] x.enc=x.enc:=by rw[Nd.cD];rfl
theorem Nd.bY {x:Nd} {n:Nat}:bx n x.enc=true:=by rw[Nd.cD];rfl
def Nd.af:=And.intro @Nd.b_ <| And.intro @Nd.eW <| And.intro @Nd.cN <| And.intro @Nd.cM <| And.intro @Nd.dU <| And.intro @Nd.fK <| And.intro @Nd.fq <| And.intro @Nd.eX @Nd.bY
theorem Word.b_ {x:Word}:x.enc.length=2:=by rw[Word.enc];rfl
theorem Word.eW {x:Word}:bE x.enc=true:=by rw[Word.enc];rfl
theorem Word.cN {x:Word}:bm x.enc=true:=by rw[Word.enc];rfl
theorem Word.cM {x:Word}:a9 x.enc=x.enc:=by rw[Word.enc];rfl
theorem Word.dU {x:Word}:takeN 2 x.enc=some x.enc:=by rw[Word.enc];rfl
theorem Word.fK {x:Word}:bf true 2 x.enc=some (.agg x.enc):=by rw[Word.enc];rfl
theorem Word.fq {x:Word}:bI 2 x.enc=true:=by rw[Word.enc];rfl
theorem Word.eX {x:Word} {z0 z1:V}:over [z0,z1] x.enc=x.enc:=by rw[Word.enc];rfl
theorem Word.bY {x:Word} {n:Nat}:bx n x.enc=true:=by rw[Word.enc];rfl
def Word.af:=And.intro @Word.b_ <| And.intro @Word.eW <| And.intro @Word.cN <| And.intro @Word.cM <| And.intro @Word.dU <| And.intro @Word.fK <| And.intro @Word.fq <| And.intro @Word.eX @Word.bY
theorem bK.b_ {x:bK}:x.enc.length=8:=by rw[bK.enc];rfl
theorem bK.eW {x:bK}:bE x.enc=true:=by rw[bK.enc];rfl
theorem bK.cN {x:bK}:bm x.enc=true:=by rw[bK.enc];rfl
theorem bK.cM {x:bK}:a9 x.enc=x.enc:=by rw[bK.enc];rfl
theorem bK.dU {x:bK}:takeN 8 x.enc=some x.enc:=by rw[bK.enc];rfl
theorem bK.fK {x:bK}:bf true 8 x.enc=some (.agg x.enc):=by rw[bK.enc];rfl
theorem bK.fq {x:bK}:bI 8 x.enc=true:=by rw[bK.enc];rfl
theorem bK.eX {x:bK} {z0 z1 z2 z3 z4 z5 z6 z7:V}:over [z0,z1,z2,z3,z4,z5,z6,z7] x.enc=x.enc:=by rw[bK.enc];rfl
theorem bK.bY {x:bK} {n:Nat}:bx n x.enc=true:=by rw[bK.enc];rfl
def bK.af:=And.intro @bK.b_ <| And.intro @bK.eW <| And.intro @bK.cN <| And.intro @bK.cM <| And.intro @bK.dU <| And.intro @bK.fK <| And.intro @bK.fq <| And.intro @bK.eX @bK.bY
theorem Nd.x1 {r:Nd}:r.enc.drop 1=[V.int .i64 r.pos,.str r.text,.sl .no 2 (r.names.map Word.enc),.sl .no 5 (r.kids.map Nd.enc)]:=by rw[Nd.cD];rfl
theorem Nd.x2 {r:Nd}:r.enc.drop 2=[V.str r.text,.sl .no 2 (r.names.map Word.enc),.sl .no 5 (r.kids.map Nd.enc)]:=by rw[Nd.cD];rfl
theorem Nd.x3 {r:Nd}:r.enc.drop 3=[V.sl .no 2 (r.names.map Word.enc),.sl .no 5 (r.kids.map Nd.enc)]:=by rw[Nd.cD];rfl
theorem Nd.x4 {r:Nd}:r.enc.drop 4=[V.sl .no 5 (r.kids.map Nd.enc)]:=by rw[Nd.cD];rfl
theorem Nd.x0 {r:Nd}:bf false 1 r.enc=some (.int .i64 r.kind):=by rw[Nd.cD];rfl
def Nd.fl:=And.intro @Nd.x0 <| And.intro @Nd.x1 <| And.intro @Nd.x2 <| And.intro @Nd.x3 @Nd.x4
theorem Tree.x1 {r:Tree}:r.enc.drop 1=[V.str r.tok.text,.int .i64 r.tok.pos,.sl .no 5 (cK r.kids),.int .i64 r.fin]:=by rw[cD];rfl
theorem Tree.x2 {r:Tree}:r.enc.drop 2=[V.int .i64 r.tok.pos,.sl .no 5 (cK r.kids),.int .i64 r.fin]:=by rw[cD];rfl
theorem Tree.x3 {r:Tree}:r.enc.drop 3=[V.sl .no 5 (cK r.kids),.int .i64 r.fin]:=by rw[cD];rfl
theorem Tree.x4 {r:Tree}:r.enc.drop 4=[V.int .i64 r.fin]:=by rw[cD];rfl
theorem Tree.x0 {r:Tree}:bf false 1 r.enc=some (.int .u8 r.tok.kind):=by rw[cD];rfl
theorem Tree.xt {r:Tree}:bf true 3 r.enc=some (.agg [.int .u8 r.tok.kind,.str r.tok.text,.int .i64 r.tok.pos]):=by rw[cD];rfl
def Tree.fl:=And.intro @Tree.x0 <| And.intro @Tree.xt <| And.intro @Tree.x1 <| And.intro @Tree.x2 <| And.intro @Tree.x3 @Tree.x4
def vO (c:Int):Bool:=decide (97≤c)&&decide (c≤122)
def sb (c:Int):Bool:=vO c||(decide (48≤c)&&decide (c≤57))||decide (c=95)
def Mo:List Int:=[35,43,38,40,41,123,125,91,93,44,58,61,124,60]
def lf (c:Int):Bool:=Mo.any fun s=>decide (s=c)
def closing (c:Int):Int:=if c=40 then 41 else if c=123∨c=91 then c+2 else 0
def jN (c:Int):Bool:=decide (c=41)||decide (c=125)||decide (c=93)
def fR (c:UInt8):Bool:=sb c.toNat
def sF (c:UInt8):Bool:=vO c.toNat
def cV (s:List UInt8):Bool:=decide (s.length≤16)&&(match s with | []=>false | c::r=>sF c&&r.all fR)
def Tok.enc (t:Tok):List V:=[.int .u8 t.kind,.str t.text,.int .i64 t.pos]
def ei (r:List UInt8):List UInt8:=r.takeWhile fR
def d_:Nat→Nat→List UInt8→List Tok→List Tok × Option Int
  | 0,_,_,acc=>(acc,none)
  | _,_,[],acc=>(acc,none)
  | n + 1, p, c :: r, acc =>
    if c.toNat=45∧(r.head?.map UInt8.toNat)=some 45 then (acc,none)
    else if 0<(ei (c::r)).length∧cV (ei (c::r))=true then d_ n (p+(ei (c::r)).length) ((c::r).drop (ei (c::r)).length) (acc++[⟨97,ei (c::r),p⟩])
    else if lf (c.toNat:Nat)=true then d_ n (p+1) r (acc++[⟨(c.toNat:Nat),[c],p⟩])
    else if c.toNat=32∨c.toNat=9 then d_ n (p+1) r acc
    else ([],some p)
def c_ (s:List UInt8):List Tok × Option Int:=d_ s.length 0 s []
def Bo (b:Option Int):V:=.agg [.int .i64 (match b with | some _=>1 | none=>0),.int .i64 (eN b)]
def dJ (l:List Tok) (i:Nat):Int:=match l[i]? with | some t=>t.kind | none=>0
def ng (l:List Tok):Nat→Nat→List Nat→Int
  | 0,_,open_=>match open_.getLast? with | some j=>(j:Nat) | none=>-1
  | n + 1, i, open_ =>
    if closing (dJ l i)≠0∧24≤open_.length then (i:Nat)
    else
      let o:=if closing (dJ l i)≠0 then open_++[i] else open_
      if jN (dJ l i)=true then
        match o.getLast? with
        | none=>(i:Nat)
        | some j=>if closing (dJ l j)=dJ l i then ng l n (i+1) o.dropLast else (i:Nat)
      else ng l n (i+1) o
def iy (l:List Tok) (at_:Nat):Nat→Nat→Int→Nat
  | 0,_,_=>at_
  | n + 1, i, deep =>
    let d:=(deep+(if closing (dJ l i)≠0 then 1 else 0)) - (if jN (dJ l i)=true then 1 else 0)
    if d=0 then i else iy l at_ n (i+1) d
def partner (l:List Tok) (at_:Nat):Nat:=iy l at_ (l.length - at_) at_ 0
def om (l:List Tok) (i:Nat):Int:=match l[i]? with | some t=>t.pos | none=>0
def ia (l:List Tok) (i:Nat):Tok:=match l[i]? with | some t=>t | none=>⟨0,[],0⟩
def mn (l:List Tok):Nat→Nat→Nat→List Tree
  | 0,_,_=>[]
  | n + 1, i, to =>
    if i<to then
      if closing (dJ l i)≠0 then .mk (ia l i) (mn l n (i+1) (partner l i)) (om l (partner l i))::mn l n (partner l i+1) to
      else .mk (ia l i) [] (om l i)::mn l n (i+1) to
    else []
def gf (l:List Tok):List Tree × Option Int :=
  if 0≤ng l l.length 0 [] then ([],some (om l (ng l l.length 0 []).toNat)) else (mn l l.length 0 l.length,none)
def gY:Option Int→List Tok→List UInt8
  | _,[]=>[]
  | k,t::ts=>(if k=some 97∧t.kind=97 then [32] else [])++t.text++gY (some t.kind) ts
def dV (l:List Tok):List UInt8:=gY none l
mutual
def Tree.flat:Tree→List Tok
  | .mk t ks e=>t::(if closing t.kind≠0 then aU ks++[⟨closing t.kind,[UInt8.ofNat (closing t.kind).toNat],e⟩] else [])
def aU:List Tree→List Tok
  | []=>[]
  | t::ts=>t.flat++aU ts
end
theorem L6 (r:List UInt8):(ei r).length≤r.length:=by
  unfold ei;exact List.Sublist.length_le (Zq _)
theorem aqu {s:List UInt8} {a:Nat}:(ei (s.drop a)).length≤s.length - a:=by
  have:=L6 (s.drop a)
  rwa [A_] at this
theorem Yx {α:Type} {f:α→Bool}:∀(r:List α),r.take (r.takeWhile f).length=r.takeWhile f
  | []=>rfl
  | c :: r => by
    simp only[List.takeWhile_cons];split
    · simp[Yx r]
    · simp
theorem R_ {s:List UInt8} {a:Nat}:(s.take (a+(ei (s.drop a)).length)).drop a=ei (s.drop a):=by
  rw[HG,NI];exact Yx _
theorem acJ {s:List UInt8} {a:Nat} (h:a<s.length):(s.take (a+1)).drop a=[s[a]]:=by
  rw[HG,NI,kN h];rfl
theorem Ws {l:List Tok} {at_:Nat}:∀(n i:Nat) (d:Int),at_≤i→i+n≤l.length→at_<l.length→at_≤iy l at_ n i d∧iy l at_ n i d<l.length
  | 0,i,d,_,_,h=>⟨bt _,h⟩
  | n + 1, i, d, h1, U, h3 => by
    simp only[iy];generalize (d+(if closing (dJ l i)≠0 then 1 else 0)) - (if jN (dJ l i)=true then 1 else 0)=e;split
    · exact⟨h1,by omega⟩
    · exact Ws n (i+1) _ (by omega) (by omega) h3
theorem Gy {l:List Tok} {i:Nat} (h:i<l.length):i≤partner l i∧partner l i<l.length:=Ws _ _ _ (bt _) (by omega) h
theorem F9:∀(n p:Nat) (r:List UInt8) (acc:List Tok),r.length≤n→(d_ n p r acc).1.length≤acc.length+r.length
  | 0,_,r,acc,_=>by cases r<;>simp[d_]
  | n+1,p,[],acc,_=>by simp[d_]
  | n + 1, p, c :: r, acc, h => by
    simp only[d_];have hr:=L6 (c::r);simp only[cG] at h hr ⊢;split
    · simp only;omega
    · split
      · rename_i h1
        have:=F9 n (p+(ei (c::r)).length) ((c::r).drop (ei (c::r)).length) (acc++[⟨97,ei (c::r),p⟩]) (by simp;omega)
        simp at this;omega
      · split
        · have:=F9 n (p+1) r (acc++[⟨(c.toNat:Nat),[c],p⟩]) (by omega)
          simp at this;omega
        · split
          · have:=F9 n (p+1) r acc (by omega);omega
          · simp
theorem Vj (s:List UInt8):(c_ s).1.length≤s.length:=by
  have:=F9 s.length 0 s [] (bt _)
  simpa [c_] using this
def bW:List (List UInt8)→List UInt8
  | []=>[]
  | x::xs=>x++xs.flatMap fun y=>44::y
theorem UX (l:List (List UInt8)) (y:List UInt8):bW (l++[y])=bW l++(if 0<l.length then [44] else [])++y:=by
  cases l with
  | nil=>simp[bW]
  | cons x xs=>simp[bW]
theorem UW:∀l:List (List UInt8),(bW l).length≤(l.map fun x=>x.length+1).sum
  | []=>by simp[bW]
  | x :: xs => by
    simp only[bW,bw,List.length_flatMap,bC,mr]
    have:(xs.map fun y=>(44::y).length)=xs.map fun x=>x.length+1:=by simp
    rw[this];omega
def gx (ws:List Word):List UInt8:=bW (ws.map Word.text)
def n7:List (List UInt8)→List UInt8
  | []=>[]
  | x::_=>x
mutual
def Nd.cE:Nd→List UInt8
  | .mk k _ t ws ks =>
    if k=1∨k=2 then t
    else if k=3 then [123]++gx ws++[125]
    else if k=4 then [40]++bW (cY ks)++[41]
    else if k=5 then [91]++bW (cY ks)++[93]
    else if k=6 then t++[58,123]++gx ws++[125]
    else if k=7 then [35]++n7 (cY ks)
    else if k=8 then [43,40]++bW (cY ks)++[41]
    else if k=9 then [38,40]++bW (cY ks)++[41]
    else if k=10 then ([91]++bW (cY ks))++(if 0<ws.length then [124]++gx ws else [])++[93]
    else if k=11 then t++[61]++n7 (cY ks)
    else []
def cY:List Nd→List (List UInt8)
  | []=>[]
  | n::ns=>n.cE::cY ns
end
theorem yL:∀l,cY l=l.map Nd.cE
  | []=>rfl
  | n::ns=>by simp[cY,yL ns]
def dL (ws:List Word):Nat:=(ws.map fun w=>w.text.length+1).sum
mutual
def Nd.wt:Nd→Nat
  | .mk _ _ t ws ks=>t.length+dL ws+eK ks+4
def eK:List Nd→Nat
  | []=>0
  | n::ns=>n.wt+1+eK ns
end
theorem Dv:∀l,eK l=(l.map fun n=>n.wt+1).sum
  | []=>rfl
  | n::ns=>by simp[eK,Dv ns]
theorem Du (ws:List Word):(gx ws).length≤dL ws:=by
  have:=UW (ws.map Word.text)
  simpa [gx,dL,A',s5] using this
theorem Hk {l:List Nd} {n:Nd} (h:n∈l):n.wt+1≤eK l:=by
  induction l with
  | nil=>simp at h
  | cons m ms ih =>
    rcases j_.1 h with rfl | h
    · simp only[eK];omega
    · have:=ih h;simp only[eK];omega
theorem FX:∀(l:List Nd),(∀n∈l,n.cE.length≤n.wt)→(bW (cY l)).length≤eK l:=fun l h=>by
  refine uS (UW _) ?_;rw[yL,Dv,A'];induction l with
  | nil=>simp
  | cons n ns ih =>
    simp only[bC,mr,Function.comp];have h1:=h n (by simp);have U:=ih fun m hm=>h m (by simp[hm])
    omega
theorem T0 (l:List Nd) (h:∀n∈l,n.cE.length≤n.wt):(n7 (cY l)).length≤eK l:=by
  cases l with
  | nil=>simp[cY,n7]
  | cons n ns=>have:=h n (by simp);simp only[cY,n7,eK];omega
mutual
theorem YG:∀(n:Nd),n.cE.length≤n.wt
  | .mk k p t ws ks => by
    have h1:=Du ws;have U:=FX ks (yK ks);have h3:=T0 ks (yK ks);simp only[Nd.cE,Nd.wt]
    repeat' split
    all_goals (try simp only[bw,cG,dv])
    all_goals omega
theorem yK:∀(l:List Nd),∀n∈l,n.cE.length≤n.wt
  | [],n,h=>by simp at h
  | m :: ms, n, h => by
    rcases j_.1 h with h | h
    · rw[h];exact YG m
    · exact yK ms n h
end
def zm:List V:=List.replicate 8 (.int .u64 0)
def vF:List V:=.int .i64 0::.int .i64 0::zm
def di (l:List (List UInt8)):List (List V):=l.map fun s=>[.str s]
theorem oX {α:Type} {l:List α} {i:Nat} {d:α} (h:i<l.length):l.getD i d=l[i]:=by simp[h]
theorem kG (l:List (List UInt8)):(di l).length=l.length:=by simp[di]
theorem GX {l:List (List UInt8)} {j:Nat} (h:j<l.length):(di l)[((j:Nat):Int).toNat]?=some [.str (l.getD j [])]:=by simp[di,h]
theorem XB {l:List (List UInt8)} {j:Nat}:(di l).take j=di (l.take j):=by simp[di,List.map_take]
def cF:Option Nat→Int
  | some k=>k
  | none=>-1
def gn (l:List (List UInt8)) (s:List UInt8):Option Nat:=(List.range l.length).find? fun i=>decide (l.getD i []=s)
def MG (l:List (List UInt8)):Option Nat:=(List.range l.length).find? fun i=>(gn (l.take i) (l.getD i [])).isSome
section
variable {l:List (List UInt8)} {s:List UInt8} {i:Nat}
theorem Lp {o:Option Nat}:decide (0≤cF o)=o.isSome:=by
  cases o with
  | none=>rfl
  | some k=>exact aD (by simp only[cF];omega)
theorem An {o:Option Nat}:decide (cF o<0)=o.isNone:=by
  cases o with
  | none=>rfl
  | some k=>exact aB (by simp only[cF];omega)
theorem EI {p:Nat→Bool} {n k:Nat} (h:(List.range n).find? p=some k):k<n∧p k=true∧∀j,j<k→p j=false:=by
  refine⟨by simpa using NC h,by simpa using List.find?_some h,fun j hj=>?_⟩;obtain⟨_,as,bs,U,h3⟩:=DK.1 h;have hl:as.length=k:=by
    have:=gm (fun l:List Nat=>l[as.length]?) U
    simp only[wE (bt _),HU,DL] at this;rw[HL] at this
    · simpa using this
    · have:=gm List.length U;simp at this;omega
  have fX : j∈as:=by
    have:=gm (fun l:List Nat=>l[j]?) U
    rw[oC (by omega),HL (by have:=gm List.length U;simp at this;omega)] at this;exact pI this.symm
  have:=h3 j fX
  simpa using this
end
def qW (l:List (List UInt8)):Bool:=decide (1≤l.length)&&decide (l.length≤64)&&(MG l).isNone&&l.all cV
structure aZ where
  kind:Int
  names:List (List UInt8)
  rel:Rl
def aZ.enc (f:aZ):List V:=.int .i64 f.kind::.sl .no 1 (di f.names)::f.rel.enc
def aZ.zero:aZ:=⟨0,[],.zero⟩
section
variable {f g:aZ} {m:Nat}
theorem aZ.b_:f.enc.length=67:=by simp[aZ.enc,Rl.b_]
theorem aZ.eW:bE f.enc=true:=by simp[aZ.enc,bE,V.one,Rl.eW]
theorem aZ.cN:bm f.enc=true:=by simp[aZ.enc,bm,V.cc,Rl.cN]
theorem aZ.cM:a9 f.enc=f.enc:=by simp[aZ.enc,a9,V.erase,Rl.cM]
theorem aZ.bY:bx m f.enc=true:=by simp[aZ.enc,bx,V.lo,Rl.bY]
theorem aZ.dU:takeN 67 f.enc=some f.enc:=by have:=wo (c:=f.enc);rwa [aZ.b_] at this
theorem aZ.fK:bf true 67 f.enc=some (.agg f.enc):=by rw[yc,aZ.dU];rfl
theorem aZ.fq:bI 67 f.enc=true:=by have:=vm (c:=f.enc);rwa [aZ.b_] at this
theorem aZ.eX:over g.enc f.enc=f.enc:=qZ (by rw[aZ.b_,aZ.b_])
theorem aZ.LS:bf false 1 f.enc=some (.int .i64 f.kind):=rfl
theorem aZ.r_s:bf false 1 (f.enc.drop 1)=some (.sl .no 1 (di f.names)):=rfl
theorem aZ.rh:bf false 1 (f.enc.drop 2)=some (.int .i64 f.rel.n):=rfl
theorem aZ.r_r:bf true 65 (f.enc.drop 2)=some (.agg f.rel.enc):=by
  show bf true 65 f.rel.enc=_;exact Rl.fK
theorem aZ.apG:takeN 65 (f.enc.drop 2)=some f.rel.enc:=by
  show takeN 65 f.rel.enc=_;exact Rl.dU
theorem aZ.zov:over tC f.enc=f.enc:=qZ (by rw[aZ.b_];rfl)
theorem aZ.atV:bI 67 tC=true:=rfl
theorem aZ.zlo:bx m tC=true:=by
  have:tC = .int .i64 0::.sl .full 1 []::Rl.zero.enc:=by rw[←Rl.vZ];rfl
  rw[this];simp[bx,V.lo,Rl.bY]
def aZ.af:=And.intro @aZ.b_ <| And.intro @aZ.eW <| And.intro @aZ.cN <| And.intro @aZ.cM <| And.intro @aZ.bY <| And.intro @aZ.dU <| And.intro @aZ.fK <| And.intro @aZ.fq <| And.intro @aZ.eX <| And.intro @aZ.LS <| And.intro @aZ.r_s <| And.intro @aZ.rh <| And.intro @aZ.r_r <| And.intro @aZ.apG <| And.intro @aZ.zov <| And.intro @aZ.atV @aZ.zlo
end
structure bg where
  tuple:Bool
  bd:List aZ
def bg.enc (s:bg):List V:=[.bool s.tuple,.sl .no 67 (s.bd.map aZ.enc)]
section
variable {s:bg} {g:Bool} {n:Nat} {a b:V}
theorem bg.b_:s.enc.length=2:=rfl
theorem bg.eW:bE s.enc=true:=rfl
theorem bg.cN:bm s.enc=true:=rfl
theorem bg.cM:a9 s.enc=s.enc:=rfl
theorem bg.bY:bx n s.enc=true:=rfl
theorem bg.dU:takeN 2 s.enc=some s.enc:=rfl
theorem bg.fK:bf true 2 s.enc=some (.agg s.enc):=rfl
theorem bg.fq:bI 2 s.enc=true:=rfl
theorem bg.eX:over [a,b] s.enc=s.enc:=rfl
theorem bg.LU:bf false 1 s.enc=some (.bool s.tuple):=rfl
theorem bg.C1:bf false 1 (s.enc.drop 1)=some (.sl .no 67 (s.bd.map aZ.enc)):=rfl
def bg.af:=And.intro @bg.b_ <| And.intro @bg.eW <| And.intro @bg.cN <| And.intro @bg.cM <| And.intro @bg.bY <| And.intro @bg.dU <| And.intro @bg.fK <| And.intro @bg.fq <| And.intro @bg.eX <| And.intro @bg.LU @bg.C1
end
def bg.ok (s:bg):Prop:=s.bd.length≤100000∧∀f∈s.bd,f.names.length≤100000
def n5 (f:aZ):Bool:=qW f.names &&
  (if f.kind=1∨f.kind=2 then decide (bp f.rel=0) else if f.kind=3 then decide (f.rel.n=f.names.length)&&oY f.rel else if f.kind=4 then decide (f.rel.n=f.names.length)&&po f.rel else false)
def lL (s:bg):Bool:=decide (1≤s.bd.length)&&decide (s.bd.length≤8)&&(s.tuple||decide (s.bd.length=1))&&s.bd.all n5
theorem WE {r:Rl}:decide (k_ r=k_ Rl.zero)=decide (bp r=0):=by
  apply oT.2;have hz:bp Rl.zero=0:=by simp[bp,Rl.zero]
  constructor
  · intro h;have:=(WD.1 h).1;rw[this,hz]
  · intro h;rw[Sk h,Sk hz]
structure aN where
  w:List aY
  len:w.length=8
theorem aN.ext' {a b:aN} (h:a.w=b.w):a=b:=by cases a;cases b;simp only at h;subst h;rfl
instance:DecidableEq aN:=fun a b=>if h:a.w=b.w then isTrue (aN.ext' h) else isFalse fun e=>h (e▸rfl)
def aN.enc (e:aN):List V:=eY e.w
def aN.zero:aN:=⟨List.replicate 8 0#64,by simp⟩
def aN.get (e:aN) (i:Nat):aY:=e.w.getD i 0#64
def aN.put (e:aN) (i:Nat) (w:aY):aN:=⟨e.w.set i w,by simp[e.len]⟩
def aN.of (f:Nat→aY):aN:=⟨(List.range 8).map f,by simp⟩
section
variable {e d:aN} {i m:Nat} {w:aY} {f:Nat→aY}
theorem aN.zw {j:Nat}:(e.put i w).get j=if i=j∧i<8 then w else e.get j:=by
  simp only[aN.get,aN.put,List.getD,List.getElem?_set,e.len]
  by_cases h:i=j
  · subst h
    by_cases U:i<8
    · simp[U]
    · simp[U,e.len]
  · simp[h]
theorem aN.lp (h:i<8):(aN.of f).get i=f i:=by simp[aN.get,aN.of,List.getD,h]
theorem aN.ext (k:∀i,i<8→e.get i=d.get i):e=d:=by
  refine aN.ext' (HJ (by rw[e.len,d.len]) fun i h1 U=>?_)
  have:=k i (by rw[e.len] at h1;exact h1)
  simpa [aN.get,List.getD,h1,U] using this
theorem aN.b_:e.enc.length=8:=by simp[aN.enc,EC,e.len]
theorem aN.eW:bE e.enc=true:=Sr
theorem aN.cN:bm e.enc=true:=Sq
theorem aN.cM:a9 e.enc=e.enc:=Sm
theorem aN.bY:bx m e.enc=true:=Sp
theorem aN.dU:takeN 8 e.enc=some e.enc:=by have:=wo (c:=e.enc);rwa [aN.b_] at this
theorem aN.fK:bf true 8 e.enc=some (.agg e.enc):=by rw[yc,aN.dU];rfl
theorem aN.fq:bI 8 e.enc=true:=by have:=vm (c:=e.enc);rwa [aN.b_] at this
theorem aN.eX:over d.enc e.enc=e.enc:=qZ (by rw[aN.b_,aN.b_])
theorem aN.vZ:zm=aN.zero.enc:=by rw[aN.enc,eY,aN.zero,List.map_replicate];rfl
theorem aN.nJ:eP [1,1,1,1,1,1,1,1] e.enc d.enc=some (decide (e=d)):=by
  show eP (List.replicate 8 1) (eY e.w) (eY d.w)=_;rw[Sl e.len d.len];congr 1;exact oT.2 ⟨aN.ext',fun h=>h▸rfl⟩
theorem aN.uG (h:i<8):bf false 1 (e.enc.drop i)=some (.int .u64 ((e.get i).toNat:Nat)):=So (by rw[e.len];exact h)
theorem aN.AH (h:i<8):bI 1 (e.enc.drop i)=true:=Sn (by rw[e.len];exact h)
theorem aN.AI (h:i<8):setAt e.enc i [.int .u64 (w.toNat:Nat)]=(e.put i w).enc:=Ss (by rw[e.len];exact h)
theorem aN.fill:(aN.of fun j=>if j<i then f j else 0#64).put i (f i)=aN.of fun j=>if j<i+1 then f j else 0#64:=by
  refine aN.ext fun k hk=>?_
  rw[aN.zw,aN.lp hk,aN.lp hk]
  by_cases h:i=k
  · subst h;simp[hk]
  · rw[ah (by omega)]
    by_cases U:k<i
    · rw[ak U,ak (by omega)]
    · rw[ah U,ah (by omega)]
theorem aN.atU:aN.zero=aN.of fun _=>0#64:=by
  refine aN.ext fun i hi=>?_
  rw[aN.lp hi];simp only[aN.get,aN.zero,List.getD,Zk,hi,b7,DW]
theorem aN.full {g:Nat→aY}:(aN.of fun j=>if j<8 then f j else g j)=aN.of f:=by
  refine aN.ext fun i hi=>?_
  rw[aN.lp hi,aN.lp hi,ak hi]
def aN.af:=And.intro @aN.b_ <| And.intro @aN.eW <| And.intro @aN.cN <| And.intro @aN.cM <| And.intro @aN.bY <| And.intro @aN.dU <| And.intro @aN.fK <| And.intro @aN.fq <| And.intro @aN.eX <| And.intro @aN.vZ @aN.nJ
end
def ake (s:bg) (a b:aN) (i:Nat):aY :=
  match s.bd[i]? with
  | some f=>if f.kind=4 then apN f.rel (a.get i) (b.get i) else a.get i|||b.get i
  | none=>a.get i|||b.get i
def akd (s:bg) (a b:aN):aN:=aN.of (ake s a b)
def amg (a b:aN):aN:=aN.of fun i=>a.get i&&&b.get i
def gv (ws:List Word):Bool:=ws.all fun w=>cV w.text
def Nd.jA (n:Nd):Bool:=cV n.text&&decide ((n.names.length:Int)+n.kids.length=0)
def Nd.jK (n:Nd):Bool:=decide (n.text=[])&&decide ((n.names.length:Int)=0)
def Nd.mP (n:Nd):Bool:=decide (n.kind=6)&&cV n.text&&gv n.names&&decide ((n.kids.length:Int)=0)
mutual
def Nd.gE:Nd→Bool
  | .mk k p t ws ks =>
    if k=2 then (Nd.mk k p t ws ks).jA
    else if k=3 then decide (t=[])&&gv ws&&decide ((ks.length:Int)=0)
    else if k=4 then (Nd.mk k p t ws ks).jK&&decide ((0:Int)<ks.length)&&Eu ks
    else if k=5 then (Nd.mk k p t ws ks).jK&&ks.all Nd.mP
    else false
def Eu:List Nd→Bool
  | []=>true
  | n::ns=>n.gE&&Eu ns
end
theorem R8:∀l,Eu l=l.all Nd.gE
  | []=>rfl
  | n::ns=>by simp[Eu,R8 ns]
theorem Nd.wU (n:Nd):n.gE=if n.kind=2 then n.jA else if n.kind=3 then decide (n.text=[])&&gv n.names&&decide ((n.kids.length:Int)=0)
    else if n.kind=4 then n.jK&&decide ((0:Int)<n.kids.length)&&n.kids.all Nd.gE else if n.kind=5 then n.jK&&n.kids.all Nd.mP else false:=by
  cases n;rw[←R8];rw[Nd.gE];rfl
def se (f:Nd→Bool):List Nd→Bool
  | []=>false
  | n::_=>f n
mutual
def Nd.dS:Nd→Bool
  | .mk k p t ws ks =>
    if k=1 then (Nd.mk k p t ws ks).jA
    else if k=7 then (Nd.mk k p t ws ks).jK&&decide ((ks.length:Int)=1)&&se Nd.gE ks
    else if k=8∨k=9 then (Nd.mk k p t ws ks).jK&&decide ((0:Int)<ks.length)&&F4 ks
    else false
def F4:List Nd→Bool
  | []=>true
  | n::ns=>n.dS&&F4 ns
end
theorem U6:∀l,F4 l=l.all Nd.dS
  | []=>rfl
  | n::ns=>by simp[F4,U6 ns]
theorem Nd.qS (n:Nd):n.dS=if n.kind=1 then n.jA else if n.kind=7 then n.jK&&decide ((n.kids.length:Int)=1)&&se Nd.gE n.kids
    else if n.kind=8∨n.kind=9 then n.jK&&decide ((0:Int)<n.kids.length)&&n.kids.all Nd.dS else false:=by
  cases n;rw[←U6];rw[Nd.dS];rfl
def Nd.mZ (n:Nd):Bool:=(decide (n.kind=1)||decide (n.kind=7))&&n.dS
def Nd.kh (n:Nd):Bool:=decide (n.kind=11)&&cV n.text&&decide ((n.names.length:Int)=0)&&decide ((n.kids.length:Int)=1)&&se Nd.mZ n.kids
def Nd.h_ (n:Nd):Bool :=
  if n.kind=10 then decide (n.text=[])&&decide ((n.names.length:Int)≤1)&&gv n.names&&n.kids.all Nd.kh else decide (n.kind=1)&&n.dS
def c9:List Word→List Word→Bool
  | [],[]=>true
  | w::ws,u::us=>decide (w.text=u.text)&&c9 ws us
  | _,_=>false
mutual
def Nd.b9:Nd→Nd→Bool
  | .mk k _ t ws ks,n=>decide (k=n.kind)&&decide (t=n.text)&&c9 ws n.names&&cH ks n.kids
def cH:List Nd→List Nd→Bool
  | [],[]=>true
  | n::ns,m::ms=>n.b9 m&&cH ns ms
  | _,_=>false
end
theorem Nd.Ax (n m:Nd):n.b9 m=(decide (n.kind=m.kind)&&decide (n.text=m.text)&&c9 n.names m.names&&cH n.kids m.kids):=by cases n;rw[Nd.b9];rfl
theorem XN:∀l,c9 l l=true
  | []=>rfl
  | w::ws=>by simp[c9,XN ws]
mutual
theorem Nd.XJ:∀n:Nd,n.b9 n=true
  | .mk k p t ws ks=>by simp[Nd.b9,Nd.kind,Nd.text,Nd.names,Nd.kids,XN,XU ks]
theorem XU:∀l:List Nd,cH l l=true
  | []=>by simp[cH]
  | n::ns=>by simp[cH,Nd.XJ n,XU ns]
end
theorem XL:∀{a b:List Word},c9 a b=true→a.length=b.length
  | [],[],_=>rfl
  | [],_::_,h=>by simp[c9] at h
  | _::_,[],h=>by simp[c9] at h
  | _::ws,_::us,h=>by simp only[c9,a_] at h;simp[XL h.2]
theorem XT:∀{a b:List Nd},cH a b=true→a.length=b.length
  | [],[],_=>rfl
  | [],_::_,h=>by simp[cH] at h
  | _::_,[],h=>by simp[cH] at h
  | _::ws,_::us,h=>by simp only[cH,a_] at h;simp[XT h.2]
theorem XK:∀{a b:List Word} {i:Nat} (ha:i<a.length) (hb:i<b.length),a.length=b.length→c9 (a.take i) (b.take i)=true→c9 (a.take (i+1)) (b.take (i+1))=decide (a[i].text=b[i].text)∧(decide (a[i].text=b[i].text)=false→c9 a b=false)
  | w::ws,u::us,0,_,_,_,_=>by simp[c9];intro h1 U;exact absurd U h1
  | w :: ws, u :: us, i + 1, ha, hb, hl, h => by
    simp only[oE,c9,a_] at h ⊢
    have:=XK (a:=ws) (b:=us) (i:=i) (by simpa using ha) (by simpa using hb) (by simpa using hl) h.2
    simp only[h.1,mS,A9];exact this
  | [],_,_,ha,_,_,_=>by simp at ha
  | _::_,[],_,_,hb,_,_=>by simp at hb
theorem XR:∀{a b:List Nd} {i:Nat} (ha:i<a.length) (hb:i<b.length),a.length=b.length→cH (a.take i) (b.take i)=true→cH (a.take (i+1)) (b.take (i+1))=a[i].b9 b[i]∧(a[i].b9 b[i]=false→cH a b=false)
  | w::ws,u::us,0,_,_,_,_=>by simp[cH];intro h1 U;rw[h1] at U;simp at U
  | w :: ws, u :: us, i + 1, ha, hb, hl, h => by
    simp only[oE,cH,a_] at h ⊢
    have:=XR (a:=ws) (b:=us) (i:=i) (by simpa using ha) (by simpa using hb) (by simpa using hl) h.2
    simp only[h.1,mS,A9];exact this
  | [],_,_,ha,_,_,_=>by simp at ha
  | _::_,[],_,_,hb,_,_=>by simp at hb
def m_ (o:Option Int):List V:=[.bool o.isSome,.int .i64 (o.getD 0)]
def r_ (o:Option Int):List V:=[.int .i64 (if o.isSome then 4 else 0),.int .i64 (o.getD 0)]
def f_ (l:List (List UInt8)) (s:aY):List Word→aY × Option Int
  | []=>(s,none)
  | w::ws=>match gn l w.text with | none=>(0#64,some w.pos) | some k=>f_ l (jg s (k:Nat)) ws
def sO (f:aZ) (s:aY):List Nd→aY × Option Int
  | []=>(s,none)
  | k :: ks => match gn f.names k.text with
    | none=>(0#64,some k.pos)
    | some o => match (f_ f.names 0#64 k.names).2 with
      | some p=>(0#64,some p)
      | none=>sO f (s|||Aw f.rel o (f_ f.names 0#64 k.names).1) ks
def nK (f:aZ) (s:aY) (bad:Option Int):List Nd→aY × Option Int
  | []=>(s,bad)
  | k :: ks => match gn f.names k.text with
    | none=>(0#64,bad.or (some k.pos))
    | some o=>nK f (s|||Aw f.rel o (f_ f.names 0#64 k.names).1) (bad.or (f_ f.names 0#64 k.names).2) ks
theorem L5 {f:aZ} {p:Int}:∀{ks:List Nd} {s:aY},(nK f s (some p) ks).2=some p
  | [],_=>rfl
  | k :: ks, s => by
    simp only[nK];split
    · rfl
    · exact L5
theorem Xn {f:aZ}:∀{ks:List Nd} {s:aY},(nK f s none ks).2=(sO f s ks).2∧((sO f s ks).2=none→(nK f s none ks).1=(sO f s ks).1)
  | [],_=>⟨rfl,fun _=>rfl⟩
  | k :: ks, s => by
    simp only[nK,sO];split
    · exact⟨rfl,fun h=>by simp at h⟩
    · split
      · rename_i o _ p hp;rw[hp];exact⟨L5,fun h=>by simp at h⟩
      · rename_i hp;rw[hp];exact Xn
def nI (f:aZ) (n:Nd):aY × Option Int :=
  match gn f.names n.text with
  | none=>(0#64,some n.pos)
  | some k=>(if f.kind=4 then tm f.rel k else (yy (f.names.length:Nat) (k:Nat)).1,none)
def ya (f:aZ):Int:=if f.kind=2 then 3 else if f.kind=3 then 5 else 2
def sY (f:aZ) (n:Nd):aY × Option Int :=
  if n.kind=ya f then (if f.kind=2 then f_ f.names 0#64 n.names else if f.kind=3 then sO f 0#64 n.kids else nI f n) else (0#64,some n.pos)
def lj (f:aZ) (n:Nd) (bad:Option Int):aY × Option Int :=
  if n.kind=ya f then (if f.kind=2 then ((f_ f.names 0#64 n.names).1,bad.or (f_ f.names 0#64 n.names).2) else if f.kind=3 then nK f 0#64 bad n.kids else ((nI f n).1,bad.or (nI f n).2)) else (0#64,bad.or (some n.pos))
theorem Y8 {f:aZ} {n:Nd} {p:Int}:(lj f n (some p)).2=some p:=by
  unfold lj;split
  · split
    · rfl
    · split
      · exact L5
      · rfl
  · rfl
theorem atC {f:aZ} {n:Nd}:(lj f n none).2=(sY f n).2∧((sY f n).2=none→(lj f n none).1=(sY f n).1):=by
  unfold lj sY;split
  · split
    · simp
    · split
      · exact Xn
      · simp
  · simp
def ja:Nd:=.mk 0 0 [] [] []
def jh (s:bg) (ks:List Nd) (i:Nat):aY × Option Int:=sY (s.bd.getD i .zero) (ks.getD i ja)
def tz (s:bg) (ks:List Nd):aN × Option Int :=
  match (List.range s.bd.length).find? fun i=>(jh s ks i).2.isSome with
  | some i=>(.zero,(jh s ks i).2)
  | none=>(aN.of fun j=>if j<s.bd.length then (jh s ks j).1 else 0#64,none)
def jb (s:bg) (n:Nd):List Nd:=if s.tuple then n.kids else [n]
def nG (s:bg) (n:Nd):Bool:=!s.tuple||(decide (n.kind=4)&&decide (n.kids.length=s.bd.length))
def gF (s:bg) (n:Nd):aN × Option Int:=if nG s n&&lL s&&n.gE then tz s (jb s n) else (.zero,some n.pos)
def BL (s:bg) (ks:List Nd) (i:Nat) (x:aN × Option Int):Prop :=
  (x.2=none∧(∀k,k<i→(jh s ks k).2=none)∧x.1=aN.of fun j=>if j<i then (jh s ks j).1 else 0#64) ∨
  (x.2.isSome=true∧∃k,k<i∧(jh s ks k).2=x.2∧∀j,j<k→(jh s ks j).2=none)
theorem aiz {s:bg} {ks:List Nd}:BL s ks 0 (.zero,none):=.inl ⟨rfl,fun k h=>by omega,aN.atU⟩
theorem aiy {s:bg} {ks:List Nd} {i:Nat} {e:aN} {o:Option Int} (h:BL s ks i (e,o)) :
    BL s ks (i+1) (e.put i (lj (s.bd.getD i .zero) (ks.getD i ja) o).1,(lj (s.bd.getD i .zero) (ks.getD i ja) o).2):=by
  rcases h with ⟨h1,U,h3⟩ | ⟨h1,k,U,h3,h4⟩
  · simp only at h1 h3;subst h1;subst h3;obtain⟨e1,e2⟩:=@atC (s.bd.getD i .zero) (ks.getD i ja);cases hb:(sY (s.bd.getD i .zero) (ks.getD i ja)).2 with
    | none =>
      left;refine⟨by simp only;rw[e1,hb],fun k hk=>?_,?_⟩
      · rcases Zr.1 hk with h | rfl
        · exact U k h
        · exact hb
      · simp only;rw[e2 hb];exact aN.fill (f:=fun j=>(jh s ks j).1)
    | some p =>
      right;refine⟨by simp only;rw[e1,hb];rfl,i,by omega,by simp only;rw[e1];rfl,U⟩
  · simp only at h1 h3;obtain⟨p,rfl⟩:=NM.1 h1;right;exact⟨by simp only;rw[Y8];rfl,k,by omega,by simp only;rw[Y8];exact h3,h4⟩
theorem aix {s:bg} {ks:List Nd} {x:aN × Option Int} (h:BL s ks s.bd.length x):tz s ks=if x.2.isSome then (.zero,x.2) else (x.1,none):=by
  rcases h with ⟨h1,U,h3⟩ | ⟨h1,k,U,h3,h4⟩
  · have e:(List.range s.bd.length).find? (fun i=>(jh s ks i).2.isSome)=none:=by
      rw[DJ];intro i hi;rw[U i (by simpa using hi)];simp
    rw[tz,e,h1,h3];rfl
  · have e:(List.range s.bd.length).find? (fun i=>(jh s ks i).2.isSome)=some k:=by
      rw[DK];refine⟨by rw[h3];exact h1,List.range k,List.range' (k+1) (s.bd.length - (k+1)),?_,fun a ha=>by rw[h4 a (by simpa using ha)];rfl⟩;rw[rJ,rJ,←yW]
      have:=NF (s:=0) (m:=k) (n:=s.bd.length - k) (step:=1)
      simp only[uT,gQ] at this;rw[show s.bd.length - (k+1)+1=s.bd.length - k by omega,this];congr 1;omega
    rw[tz,e,ak h1];simp only[h3]
mutual
def Nd.bS:Nd→Nat
  | .mk _ _ _ ws ks=>1+ws.length+fv ks
def fv:List Nd→Nat
  | []=>0
  | n::ns=>n.bS+fv ns
end
theorem RP:∀a b:List Nd,fv (a++b)=fv a+fv b
  | [],b=>by simp[fv]
  | x::xs,b=>by simp only[fN,fv,RP xs b];omega
theorem RS (l:List Nd) (i:Nat):fv (l.take i)≤fv l:=by
  have:=RP (l.take i) (l.drop i)
  rw[nR] at this;omega
theorem as1 (l:List Word):l.length≤dL l:=by
  unfold dL;induction l with
  | nil=>simp
  | cons w ws ih=>simp only[bC,mr,cG];omega
mutual
theorem Et:∀n:Nd,n.bS≤n.wt
  | .mk k p t ws ks => by
    have:=RU ks
    have:=as1 ws
    simp only[Nd.bS,Nd.wt];omega
theorem RU:∀l:List Nd,fv l≤eK l
  | []=>by simp[fv,eK]
  | n :: ns => by
    have:=Et n
    have:=RU ns
    simp only[fv,eK];omega
end
structure dX where
  name:List UInt8
  shape:bg
def dX.enc (l:dX):List V:=.str l.name::l.shape.enc
structure df where
  name:List UInt8
  kind:Int
  lat:Int
def df.enc (v:df):List V:=[.str v.name,.int .i64 v.kind,.int .i64 v.lat]
structure au where
  bj:List dX
  vars:List df
def au.enc (s:au):List V:=[.sl .no 3 (s.bj.map dX.enc),.sl .no 3 (s.vars.map df.enc)]
section
variable {l:dX} {v:df} {s:au} {n:Nat} {a b c:V}
theorem au.b_:s.enc.length=2:=rfl
theorem au.eW:bE s.enc=true:=rfl
theorem au.cN:bm s.enc=true:=rfl
theorem au.cM:a9 s.enc=s.enc:=rfl
theorem au.bY:bx n s.enc=true:=rfl
theorem au.dU:takeN 2 s.enc=some s.enc:=rfl
theorem au.fK:bf true 2 s.enc=some (.agg s.enc):=rfl
theorem au.fq:bI 2 s.enc=true:=rfl
theorem au.eX:over [a,b] s.enc=s.enc:=rfl
theorem au.C2:bf false 1 s.enc=some (.sl .no 3 (s.bj.map dX.enc)):=rfl
theorem au.C3:bf false 1 (s.enc.drop 1)=some (.sl .no 3 (s.vars.map df.enc)):=rfl
theorem df.rh:bf false 1 v.enc=some (.str v.name):=rfl
theorem df.LS:bf false 1 (v.enc.drop 1)=some (.int .i64 v.kind):=rfl
theorem df.C2:bf false 1 (v.enc.drop 2)=some (.int .i64 v.lat):=rfl
theorem dX.rh:bf false 1 l.enc=some (.str l.name):=rfl
theorem dX.apK:takeN 2 (l.enc.drop 1)=some l.shape.enc:=rfl
def au.af:=And.intro @au.b_ <| And.intro @au.eW <| And.intro @au.cN <| And.intro @au.cM <| And.intro @au.bY <| And.intro @au.dU <| And.intro @au.fK <| And.intro @au.fq <| And.intro @au.eX <| And.intro @au.C2 <| And.intro @au.C3 <| And.intro @df.rh <| And.intro @df.LS <| And.intro @df.C2 <| And.intro @dX.rh @dX.apK
end
structure a7 where
  op:Int
  n:Int
  c:aN
def a7.enc (i:a7):List V:=.int .i64 i.op::.int .i64 i.n::i.c.enc
def a7.zero:a7:=⟨0,0,.zero⟩
theorem a7.ext' {a b:a7} (h1:a.op=b.op) (U:a.n=b.n) (h3:a.c=b.c):a=b:=by cases a;cases b;simp only at h1 U h3;subst h1;subst U;subst h3;rfl
instance:DecidableEq a7:=fun a b=>if h:a.op=b.op∧a.n=b.n∧a.c=b.c then isTrue (a7.ext' h.1 h.2.1 h.2.2) else isFalse fun e=>h (e▸⟨rfl,rfl,rfl⟩)
section
variable {i j:a7} {n:Nat} {x y:Int} {e:aN}
theorem a7.b_:i.enc.length=10:=by simp[a7.enc,aN.b_]
theorem a7.eW:bE i.enc=true:=by simp[a7.enc,bE,V.one,aN.eW]
theorem a7.cN:bm i.enc=true:=by simp[a7.enc,bm,V.cc,aN.cN]
theorem a7.cM:a9 i.enc=i.enc:=by simp[a7.enc,a9,V.erase,aN.cM]
theorem a7.bY:bx n i.enc=true:=by simp[a7.enc,bx,V.lo,aN.bY]
theorem a7.dU:takeN 10 i.enc=some i.enc:=by have:=wo (c:=i.enc);rwa [a7.b_] at this
theorem a7.fK:bf true 10 i.enc=some (.agg i.enc):=by rw[yc,a7.dU];rfl
theorem a7.fq:bI 10 i.enc=true:=by have:=vm (c:=i.enc);rwa [a7.b_] at this
theorem a7.eX:over j.enc i.enc=i.enc:=qZ (by rw[a7.b_,a7.b_])
theorem a7.r_o:bf false 1 i.enc=some (.int .i64 i.op):=rfl
theorem a7.rh:bf false 1 (i.enc.drop 1)=some (.int .i64 i.n):=rfl
theorem a7.apv:takeN 8 (i.enc.drop 2)=some i.c.enc:=by show takeN 8 i.c.enc=_;exact aN.dU
theorem a7.vZ:vF=a7.zero.enc:=by
  show V.int .i64 0::V.int .i64 0::zm=_;rw[aN.vZ];rfl
theorem a7.b_o:over i.enc [.int .i64 x]=(a7.mk x i.n i.c).enc:=by rw[a7.enc,oh,me];rfl
theorem a7.Bl:bI 1 i.enc=true:=rfl
theorem a7.aax:bI 1 (i.enc.drop 1)=true:=rfl
theorem a7.H_:setAt i.enc 1 [.int .i64 x]=(a7.mk i.op x i.c).enc:=by rw[a7.enc,jH,lJ,oh,me];rfl
theorem a7.aay:bI 8 (i.enc.drop 2)=true:=by show bI 8 i.c.enc=true;exact aN.fq
theorem a7.H9:setAt i.enc 2 e.enc=(a7.mk i.op i.n e).enc:=by rw[a7.enc,jH,jH,lJ,aN.eX];rfl
theorem a7.nJ:eP [1,1,1,1,1,1,1,1,1,1] i.enc j.enc=some (decide (i=j)):=by
  rw[a7.enc,a7.enc,vd,vd,aN.nJ,tj,tj];congr 1;rw[←uM,←uM];exact oT.2 ⟨fun h=>a7.ext' h.1 h.2.1 h.2.2,fun h=>h▸⟨rfl,rfl,rfl⟩⟩
def a7.af:=And.intro @a7.b_ <| And.intro @a7.eW <| And.intro @a7.cN <| And.intro @a7.cM <| And.intro @a7.bY <| And.intro @a7.dU <| And.intro @a7.fK <| And.intro @a7.fq <| And.intro @a7.eX <| And.intro @a7.r_o <| And.intro @a7.rh <| And.intro @a7.apv <| And.intro @a7.vZ <| And.intro @a7.b_o <| And.intro @a7.Bl <| And.intro @a7.aax <| And.intro @a7.H_ <| And.intro @a7.aay <| And.intro @a7.H9 @a7.nJ
end
def La (l:List dX) (t:List UInt8) (i:Nat):Bool:=match l[i]? with | some x=>decide (x.name=t) | none=>false
def Lb (l:List df) (t:List UInt8) (i:Nat):Bool:=match l[i]? with | some x=>decide (x.name=t) | none=>false
def iI (l:List dX) (t:List UInt8):Option Nat:=(List.range l.length).find? (La l t)
def jq (l:List df) (t:List UInt8):Option Nat:=(List.range l.length).find? (Lb l t)
def uH (s:au) (lat:Nat) (t:List UInt8):Option a7 :=
  match jq s.vars t with
  | none=>none
  | some k => match s.vars[k]? with
    | some v=>if v.kind=1∧v.lat=(lat:Nat) then some ⟨1,k,.zero⟩ else none
    | none=>none
def sQ (s:au) (lat:Nat):bg:=match s.bj[lat]? with | some l=>l.shape | none=>⟨false,[]⟩
def l_ (s:au) (lat:Nat) (n:Nd):Option a7 :=
  if n.kind=1 then uH s lat n.text
  else match (gF (sQ s lat) (n.kids.getD 0 ja)).2 with | none=>some ⟨2,0,(gF (sQ s lat) (n.kids.getD 0 ja)).1⟩ | some _=>none
def qo (n:Nd):a7:=⟨if n.kind=9 then 4 else 3,n.kids.length,.zero⟩
mutual
def lV (s:au) (lat:Nat):Nd→Option (List a7)
  | .mk k p t ws ks=>if k=1∨k=7 then (l_ s lat (.mk k p t ws ks)).map fun i=>[i] else (nX s lat ks).map fun l=>l++[qo (.mk k p t ws ks)]
def nX (s:au) (lat:Nat):List Nd→Option (List a7)
  | []=>some []
  | n::ns=>match lV s lat n with | none=>none | some l=>(nX s lat ns).map fun m=>l++m
end
theorem Ir {s:au} {lat:Nat} (n:Nd):lV s lat n=if n.kind=1∨n.kind=7 then (l_ s lat n).map fun i=>[i] else (nX s lat n.kids).map fun l=>l++[qo n]:=by
  cases n;rw[lV];rfl
def ln (s:au) (lat:Int) (n:Nd):Option (List a7):=if 0≤lat∧lat<s.bj.length∧n.dS=true then lV s lat.toNat n else none
def yu (s:au) (lat:Nat) (f:Nd × Nat):Option (List a7) :=
  if f.1.kind=1∨f.1.kind=7 then (l_ s lat f.1).map fun i=>[i] else (nX s lat (f.1.kids.drop f.2)).map fun l=>l++[qo f.1]
theorem W8 {s:au} {lat:Nat} {n:Nd}:yu s lat (n,0)=lV s lat n:=by rw[yu,Ir];simp
def pO (s:au) (lat:Nat):List (Nd × Nat)→List a7→Option (List a7)
  | [],out=>some out
  | f::fs,out=>match yu s lat f with | none=>none | some l=>pO s lat fs (out++l)
theorem ap2 {s:au} {lat:Nat} {n:Nd} {d:Nat} {fs:List (Nd × Nat)} {out:List a7} (h:¬(n.kind=1∨n.kind=7)) (hd:d<n.kids.length) :
    pO s lat ((n,d)::fs) out=pO s lat ((n.kids[d],0)::(n,d+1)::fs) out:=by
  simp only[pO,W8];rw[yu,ah h,yu,ah h,kN hd,nX];cases lV s lat n.kids[d] with
  | none=>rfl
  | some l =>
    cases nX s lat (n.kids.drop (d+1)) with
    | none=>rfl
    | some m=>simp only[s_,dt]
theorem ap1 {s:au} {lat:Nat} {n:Nd} {d:Nat} {fs:List (Nd × Nat)} {out:List a7} (h:¬(n.kind=1∨n.kind=7)) (hd:n.kids.length≤d) :
    pO s lat ((n,d)::fs) out=pO s lat fs (out++[qo n]):=by
  simp only[pO];rw[yu,ah h,DG hd,nX];rfl
theorem ap3 {s:au} {lat:Nat} {n:Nd} {d:Nat} {fs:List (Nd × Nat)} {out:List a7} (h:n.kind=1∨n.kind=7) :
    pO s lat ((n,d)::fs) out=match l_ s lat n with | none=>none | some i=>pO s lat fs (out++[i]):=by
  simp only[pO];rw[yu,ak h];cases l_ s lat n<;>rfl
def nw:List (Nd × Nat)→Nat
  | []=>0
  | f::fs=>2*fv (f.1.kids.drop f.2)+1+nw fs
theorem Nd.qB (n:Nd):1+fv n.kids≤n.bS:=by cases n;simp only[Nd.bS,Nd.kids];omega
theorem VL {n:Nd} {d:Nat} {fs:List (Nd × Nat)} (hd:d<n.kids.length):nw ((n.kids[d],0)::(n,d+1)::fs)<nw ((n,d)::fs):=by
  simp only[nw,DH]
  have:=Nd.qB n.kids[d]
  rw[kN hd,fv];omega
mutual
theorem RY {s:au} {lat:Nat}:∀(n:Nd) {l:List a7},lV s lat n=some l→l.length≤n.bS
  | .mk k p t ws ks, l, h => by
    rw[lV] at h;split at h
    · simp only[cx] at h;obtain⟨i,_,rfl⟩:=h;simp only[Nd.bS,cG,dv];omega
    · simp only[cx] at h;obtain⟨m,hm,rfl⟩:=h
      have:=RZ ks hm
      simp only[Nd.bS,bw,cG,dv];omega
theorem RZ {s:au} {lat:Nat}:∀(ks:List Nd) {l:List a7},nX s lat ks=some l→l.length≤fv ks
  | [],l,h=>by rw[nX] at h;cases h;simp
  | n :: ns, l, h => by
    rw[nX] at h;cases hn:lV s lat n with
    | none=>rw[hn] at h;simp at h
    | some a =>
      rw[hn] at h;simp only[cx] at h;obtain⟨b,hb,rfl⟩:=h
      have:=RY n hn
      have:=RZ ns hb
      simp only[fv,bw];omega
end
theorem Bs (n:Nd):n.names.length≤n.bS:=by cases n;simp only[Nd.bS,Nd.names];omega
theorem RQ {m:Nd}:∀{l:List Nd},m∈l→m.bS≤fv l
  | [],h=>by simp at h
  | n :: l, h => by
    simp only[fv]
    rcases j_.1 h with rfl | h
    · omega
    · have:=RQ h;omega
theorem oQ {n m:Nd} (h:m∈n.kids):m.bS<n.bS:=by
  have:=RQ h
  have:=Nd.qB n;omega
theorem Ip:∀(l:List Nd),l.length≤fv l
  | []=>by simp
  | n :: l => by
    have:=Ip l
    have:=Nd.qB n
    simp only[fv,cG];omega
theorem wT (n:Nd):n.kids.length≤n.bS:=by
  have:=Ip n.kids
  have:=Nd.qB n;omega
def au.ok (s:au):Prop:=s.bj.length≤100000∧s.vars.length≤100000∧∀l∈s.bj,l.shape.ok
theorem U3 {n:Nd} (h:n.dS=true) (h1:¬(n.kind=1∨n.kind=7)):∀m∈n.kids,m.dS=true:=by
  rw[Nd.qS,ah (fun e=>h1 (.inl e)),ah (fun e=>h1 (.inr e))] at h;split at h
  · simp only[a_,jl] at h;exact h.2
  · simp at h
theorem Cz {n:Nd} (h:n.dS=true) (h1:n.kind=7):n.kids.length=1:=by
  rw[Nd.qS,ah (by rw[h1];decide),ak h1] at h;simp only[a_,bH] at h;omega
theorem acd (s:au) (lat:Int) (n:Nd):((ln s lat n).getD []).length≤n.bS:=by
  cases h:ln s lat n with
  | none=>simp
  | some l =>
    rw[ln] at h;split at h
    · exact RY n h
    · simp at h
def Db (s:bg) (op:Int) (a b:aN):aN:=if op=3 then akd s a b else amg a b
def u4 (s:bg):Bool:=decide (12<s.bd.length)||s.bd.any fun f=>decide (70<f.names.length)||f.names.any fun t=>decide (40<t.length)
def wO (s:au):Bool:=decide (20<s.bj.length)||decide (80<s.vars.length)||(s.bj.any fun l=>u4 l.shape||decide (40<l.name.length))||s.vars.any fun v=>decide (40<v.name.length)
theorem aaN {s:bg} (h:u4 s=false):s.ok:=by
  simp only[u4,yU,HD,zi,Ng] at h;refine⟨by omega,fun f hf=>?_⟩
  have:=(h.2 f hf).1;omega
theorem aaJ {s:au} (h:wO s=false):s.ok:=by
  simp only[wO,yU,HD,zi,Ng] at h;exact⟨by omega,by omega,fun l hl=>aaN (h.1.2 l hl).1⟩
structure aA where
  cls:Int
  loc:Int
def aA.zero:aA:=⟨0,0⟩
theorem aA.ext' {a b:aA} (h:a.cls=b.cls) (k:a.loc=b.loc):a=b:=by cases a;cases b;simp only at h k;subst h;subst k;rfl
instance:DecidableEq aA:=fun a b=>if h:a.cls=b.cls∧a.loc=b.loc then isTrue (aA.ext' h.1 h.2) else isFalse fun e=>h ⟨e▸rfl,e▸rfl⟩
def aA.enc (f:aA):List V:=[.int .i64 f.cls,.int .i64 f.loc]
section
variable {f g:aA} {n:Nat} {a b:V}
theorem aA.b_:f.enc.length=2:=rfl
theorem aA.eW:bE f.enc=true:=rfl
theorem aA.cN:bm f.enc=true:=rfl
theorem aA.cM:a9 f.enc=f.enc:=rfl
theorem aA.bY:bx n f.enc=true:=rfl
theorem aA.dU:takeN 2 f.enc=some f.enc:=rfl
theorem aA.fK:bf true 2 f.enc=some (.agg f.enc):=rfl
theorem aA.fq:bI 2 f.enc=true:=rfl
theorem aA.eX:over g.enc f.enc=f.enc:=rfl
theorem aA.apD:over [a,b] f.enc=f.enc:=rfl
theorem aA.LR:bf false 1 f.enc=some (.int .i64 f.cls):=rfl
theorem aA.r_p:bf false 1 (f.enc.drop 1)=some (.int .i64 f.loc):=rfl
theorem aA.nJ:eP [1,1] f.enc g.enc=some (decide (f=g)):=by
  rw[aA.enc,aA.enc,vd,vd,Sw,tj,tj];congr 1;rw[s4,←uM];exact oT.2 ⟨fun h=>aA.ext' h.1 h.2,fun h=>h▸⟨rfl,rfl⟩⟩
def aA.af:=And.intro @aA.b_ <| And.intro @aA.eW <| And.intro @aA.cN <| And.intro @aA.cM <| And.intro @aA.bY <| And.intro @aA.dU <| And.intro @aA.fK <| And.intro @aA.fq <| And.intro @aA.eX <| And.intro @aA.apD <| And.intro @aA.LR <| And.intro @aA.r_p @aA.nJ
end
def sE (u0 f:aA):Bool:=decide (u0.cls=0)||decide (f.cls<u0.cls)||(decide (f.cls=u0.cls)&&decide (f.loc<u0.loc))
def jL (u0 f:aA):aA:=if f.cls=0 then u0 else if sE u0 f then f else u0
def fz (l:List aA):aA:=l.foldl jL .zero
def qT (a b:aA):Prop:=a.cls<b.cls∨(a.cls=b.cls∧a.loc≤b.loc)
theorem F5 (a:aA):qT a a:=.inr ⟨rfl,Hy _⟩
theorem Vb {a b c:aA} (h:qT a b) (k:qT b c):qT a c:=by unfold qT at *;omega
theorem KP:∀(l:List aA) (o:aA),(l.foldl jL o=o∨(l.foldl jL o∈l∧(l.foldl jL o).cls≠0))∧(o.cls≠0→(l.foldl jL o).cls≠0∧qT (l.foldl jL o) o)∧∀f∈l,f.cls≠0→(l.foldl jL o).cls≠0∧qT (l.foldl jL o) f
  | [],o=>⟨.inl rfl,fun h=>⟨h,F5 o⟩,by simp⟩
  | f :: l, o => by
    obtain⟨h1,U,h3⟩:=KP l (jL o f);rw[wD];have hb:jL o f=o∨(jL o f=f∧f.cls≠0):=by
      unfold jL
      by_cases h:f.cls=0
      · rw[ak h];exact .inl rfl
      · rw[ah h];split
        · exact .inr ⟨rfl,h⟩
        · exact .inl rfl
    have ho:o.cls≠0→(jL o f).cls≠0∧qT (jL o f) o:=fun h=>by
      unfold jL
      by_cases hf:f.cls=0
      · rw[ak hf];exact⟨h,F5 o⟩
      · rw[ah hf];split
        · rename_i hl;refine⟨hf,?_⟩;simp only[sE,kK,a_,bH] at hl;unfold qT;omega
        · exact⟨h,F5 o⟩
    have hf:f.cls≠0→(jL o f).cls≠0∧qT (jL o f) f:=fun h=>by
      unfold jL;rw[ah h];split
      · exact⟨h,F5 f⟩
      · rename_i hl;simp only[sE,kK,a_,bH] at hl;unfold qT;exact⟨by omega,by omega⟩
    refine⟨?_,fun h=>?_,fun g hg hc=>?_⟩
    · rcases h1 with h1 | ⟨h1,tG⟩
      · rw[h1]
        rcases hb with hb | ⟨hb,bz⟩
        · exact .inl hb
        · rw[hb];exact .inr ⟨by simp,bz⟩
      · exact .inr ⟨by simp[h1],tG⟩
    · obtain⟨k1,k2⟩:=ho h;obtain⟨k3,k4⟩:=U k1;exact⟨k3,Vb k4 k2⟩
    · rcases j_.1 hg with rfl | hg
      · obtain⟨k1,k2⟩:=hf hc;obtain⟨k3,k4⟩:=U k1;exact⟨k3,Vb k4 k2⟩
      · exact h3 g hg hc
theorem Vf {a:List aA} (h:(fz a).cls=0):fz a = .zero∧∀f∈a,f.cls=0:=by
  obtain⟨a1,_,a3⟩:=KP a .zero;refine⟨?_,fun f hf=>Classical.byContradiction fun hc=>(a3 f hf hc).1 h⟩
  rcases a1 with e | ⟨_,e⟩
  · exact e
  · exact absurd h e
theorem Vg {a:List aA} (h:∀f∈a,f.cls=0):fz a = .zero:=by
  rcases (KP a .zero).1 with e | ⟨e,e'⟩
  · exact e
  · exact absurd (h _ e) e'
theorem ald {l:List aA} {i:Nat} (hi:i<l.length):fz (l.take (i+1))=jL (fz (l.take i)) l[i]:=by
  rw[fz,kP hi,A7];rfl
section
variable {k x:Int} {m m' : List (List V)}
end
theorem SK {l:List df} {t:List UInt8} {k:Nat} (h:jq l t=some k):k<l.length:=by
  unfold jq at h;simpa using NC h
section
variable {s:au} {lat:Nat}
variable {v:List aN}
end
section
variable {s:bg} {op:Int} {P:aN→Prop} (hc:∀a b,P a→P b→P (Db s op a b)) (ha:∀a b c,P a→P b→P c→Db s op (Db s op a b) c=Db s op a (Db s op b c))
include hc ha
end
section
variable {r:Rl}
end
section
variable {r:Rl} {a b c w:aY}
end
section
variable {f:aZ} {a b c:aY}
end
section
variable {s:bg} {a b c e:aN}
end
section
variable {s:au} {lat:Nat} {v:List aN}
end
structure gA where
  lat:Int
  v:List aN
  w:List aN
def gA.enc (x:gA):List V:=[.int .i64 x.lat,.sl .no 8 (x.v.map aN.enc),.sl .no 8 (x.w.map aN.enc)]
section
variable {x:gA} {n:Nat} {a b c:V}
theorem gA.b_:x.enc.length=3:=rfl
theorem gA.eW:bE x.enc=true:=rfl
theorem gA.cN:bm x.enc=true:=rfl
theorem gA.cM:a9 x.enc=x.enc:=rfl
theorem gA.bY:bx n x.enc=true:=rfl
theorem gA.dU:takeN 3 x.enc=some x.enc:=rfl
theorem gA.fK:bf true 3 x.enc=some (.agg x.enc):=rfl
theorem gA.fq:bI 3 x.enc=true:=rfl
theorem gA.eX:over [a,b,c] x.enc=x.enc:=rfl
theorem gA.C2:bf false 1 x.enc=some (.int .i64 x.lat):=rfl
theorem gA.C3:bf false 1 (x.enc.drop 1)=some (.sl .no 8 (x.v.map aN.enc)):=rfl
theorem gA.r_w:bf false 1 (x.enc.drop 2)=some (.sl .no 8 (x.w.map aN.enc)):=rfl
def gA.af:=And.intro @gA.b_ <| And.intro @gA.eW <| And.intro @gA.cN <| And.intro @gA.cM <| And.intro @gA.bY <| And.intro @gA.dU <| And.intro @gA.fK <| And.intro @gA.fq <| And.intro @gA.eX <| And.intro @gA.C2 <| And.intro @gA.C3 @gA.r_w
end
def rE (v r:V):List V→List V→Prop
  | [],[]=>True
  | x::xs,y::ys=>(y=x∨(x=v∧y=r)∨y = .any)∧rE v r xs ys
  | _,_=>False
theorem rE.RL {E E' : Env} {v r:V} (hle:E.le E') (h:∀u,R E v u→R E' r u):∀{t t' : List V} {vs:List Value},rE v r t t' → RL E t vs→RL E' t' vs
  | [],[],[],_,_=>by simp only[Go.Am.RL]
  | [],[],_::_,_,k=>by simp[Go.Am.RL] at k
  | [],_::_,_,k,_=>by simp[rE] at k
  | _::_,[],_,k,_=>by simp[rE] at k
  | _::_,_::_,[],_,k=>by simp[Go.Am.RL] at k
  | x :: xs, y :: ys, u :: us, k, k2 => by
    simp only[rE] at k;simp only[Go.Am.RL] at k2 ⊢;refine⟨?_,rE.RL hle h k.2 k2.2⟩
    rcases k.1 with rfl | ⟨rfl,rfl⟩ | rfl
    · exact R.mono _ hle k2.1
    · exact h _ k2.1
    · simp only[R]
theorem IF {α:Type} {F:Nat→α→St} {J:Nat→α→Prop} {t:List V} {l:List (List V)} {σ:ae} (n:Nat) (h:∀τ,σ.aC τ=none→∃x,J 0 x∧dy τ n t (F 0 x).t∧l=(F 0 x).loc∧(F 0 x).out=σ.aL τ n):DA F J ⟨t,l,σ⟩ :=
  (ba.yI (ι:={x // J 0 x}) (I:=fun x=>F 0 x.1) n fun τ bh=>by
    obtain⟨x,h1,U,h3,h4⟩:=h τ bh;exact⟨⟨x,h1⟩,U,h3,h4⟩).mono fun _ ⟨x,e⟩=>⟨x.1,x.2,e⟩
def uQ (τ n:Nat):List (List V)→List (List V)→Prop
  | [],[]=>True
  | c::l,c' :: l' => dy τ n c c' ∧ uQ τ n l l'
  | _,_=>False
theorem uQ.spec {τ n:Nat}:∀{l l' : List (List V)},uQ τ n l l' → l.length=l'.length∧∀(i:Nat) c',l'[i]?=some c' → ∃c,l[i]?=some c∧dy τ n c c'
  | [],[],_=>⟨rfl,fun i c' h=>by simp at h⟩
  | [],_::_,h=>h.elim
  | _::_,[],h=>h.elim
  | c :: l, c' :: l', h => by
    obtain⟨h1,U⟩:=uQ.spec h.2;refine⟨by simp[h1],fun i d hd=>?_⟩;cases i with
    | zero=>simp at hd;subst hd;exact⟨c,rfl,h.1⟩
    | succ i=>exact U i d (by simpa using hd)
theorem alP {τ n:Nat}:uQ τ n [] []=True:=rfl
theorem alO {τ n:Nat} {c c' : List V} {l l' : List (List V)}:uQ τ n (c::l) (c' :: l')=(dy τ n c c' ∧ uQ τ n l l'):=rfl
def Vx:=And.intro @alP @alO
theorem Su {α:Type} {F:Nat→α→St} {J:Nat→α→Prop} {t:List V} {l:List (List V)} {σ:ae} (n:Nat) (h:∀τ,σ.aC τ=none→∃x,J 0 x∧dy τ n t (F 0 x).t∧uQ τ n l (F 0 x).loc∧(F 0 x).out=σ.aL τ n):DA F J ⟨t,l,σ⟩ :=
  ba.tok n fun τ bh=>by
    obtain⟨x,h1,U,h3,h4⟩:=h τ bh;obtain⟨k1,k2⟩:=h3.spec;exact⟨_,_,σ,U,k1,k2,oG.rfl,x,h1,by rw[←h4]⟩
theorem NP {E:Env} {b:Nat} {cs:List V} (hc:∀(j:Nat) x,cs[j]?=some x→∃v,E.w.cell? ⟨b,j,none⟩=some v∧(E.role b).fP j∧R E x v) :
    ∀(xs:List V) (p:Nat),(∀(j:Nat) x,xs[j]?=some x→cs[p+j]?=some x)→bE xs=true→c7 E xs b p
  | [],_,_,_=>by simp[c7]
  | x :: xs, p, hp, ho => by
    simp only[bE,a_] at ho;simp only[c7];obtain⟨v,v1,v2,v3⟩:=hc p x (by have:=hp 0 x rfl;simpa using this);refine⟨⟨v,v1,v2,ui (E:=E) (xs:=[x]) (vs:=[v]) (by simp only[RL];exact⟨v3,trivial⟩) (by simp[bE,ho.1]) v (by simp),v3⟩,NP hc xs (p+1) (fun j y hy=>?_) ho.2⟩
    have:=hp (j+1) y (by simpa using hy)
    rwa [show p+1+j=p+(j+1) by omega]
theorem Gp:∀{a b:List V},bE (a++b)=(bE a&&bE b)
  | [],b=>by simp[bE]
  | x::a,b=>by simp[bE,Gp,Bool.and_assoc]
theorem NQ {E:Env} {b k:Nat} {cs:List V} (hc:∀(j:Nat) x,cs[j]?=some x→∃v,E.w.cell? ⟨b,j,none⟩=some v∧(E.role b).fP j∧R E x v) :
    ∀(rows:List (List V)) (p:Nat),(∀(j:Nat) x,rows.flatten[j]?=some x→cs[p+j]?=some x)→bE rows.flatten=true→(∀r∈rows,r.length=k)→ek E k rows b p
  | [],_,_,_,_=>by simp[ek]
  | r :: rows, p, hp, ho, hr => by
    rw[iC,Gp,a_] at ho;have hl:=hr r (by simp);simp only[ek];refine⟨hl,NP hc r p (fun j x hx=>?_) ho.1,NQ hc rows (p+k) (fun j x hx=>?_) ho.2 fun q hq=>hr q (by simp[hq])⟩
    · refine hp j x ?_;rw[iC,oC (dD.1 hx).1];exact hx
    · have:=hp (k+j) x (by rw[iC,wE (by omega),hl,NI];exact hx)
      rwa [show p+k+j=p+(k+j) by omega]
theorem ba.eZ {k:Nat} {v:V} {rows:List (List V)} {t t' : List V} {l:List (List V)} {σ:ae} {K:St→Prop} (h:dz σ k v rows) (h1:bE rows.flatten=true) (ht:rE v (.sl .no k rows) t t')
    (hk:∀σ',(∀cC,y3 cC σ v→cC.sub σ')→K ⟨t',l,σ'⟩):ba ⟨t,l,σ⟩ K:=by
  intro E a hs;obtain⟨ad,cap,rfl,hc,hr,hb⟩:=h
  rcases hb with h0 | ⟨b,cs,rfl,tO,hl,ph⟩
  · have e:rows=[]:=oB (by omega);subst e;refine⟨E,⟨t',l,σ⟩,rfl,Fr.refl E,⟨hs.ok,hs.cg,hs.defers,rE.RL (Env.le.refl E) (fun u hu=>?_) ht hs.slot⟩,hk σ fun cC h=>h.sub⟩;simp only[R] at hu ⊢;subst hu;exact⟨_,_,rfl,hc,.inl trivial,trivial⟩
  · obtain⟨hf,ct,pU⟩:=Ta hs tO;refine⟨E.eZ b,⟨t',l,σ.del b⟩,rfl,hf,⟨ct.ok,ct.cg,ct.defers,rE.RL (E:=E.eZ b) (Env.le.refl _) (fun u hu=>?_) ht ct.slot⟩,hk _ fun cC h=>⟨fun b' cs' bz => ?_,fun t n hn=>h.sub.2.1 t n hn,h.sub.2.2⟩⟩
    · simp only[R] at hu ⊢;subst hu;refine⟨_,_,rfl,hc,.inr ⟨b,0,rfl,NQ (cs:=cs) pU rows 0 (fun j x hx=>?_) h1 hr⟩,trivial⟩;rw[gQ];rw[←ph,DM] at hx;split at hx
      · exact hx
      · simp at hx
    · have aI:b' ≠ b:=by
        rintro rfl;rw[h.new b' rfl] at bz;simp at bz
      simp only[ae.del];rw[ah aI];exact h.sub.1 b' cs' bz
def Nh (σ:ae) (k:Nat) (v:V) (rows:List (List V)) (m:Nat) (v' : V):Prop :=
  ∃a cap,v' = .raw (.slice a (rows.length - m) cap)∧(rows.length - m=0∨∃b cs,nE v=some b∧a=some ⟨b,m*k,none⟩∧σ.box b=some cs∧rows.length*k≤cs.length∧cs.take (rows.length*k)=rows.flatten)
theorem dz.u5 {σ:ae} {k m1 m2:Nat} {v v1 v2:V} {rows:List (List V)} {H:V→ae→Prop} (h:dz σ k v rows) (c1:Nh σ k v rows m1 v1) (c2:Nh σ k v rows m2 v2) (hm:m2≤m1) (hm1:m1≤rows.length) (ho:bE rows.flatten=true)
    (hk:∀σ',dz σ' k v (rows.take m1++(rows.drop m2).take (rows.length - m1))→td σ v σ' v→H (.int .i64 (rows.length - m1:Nat)) σ'):OQ.aM σ H (.u5 k) [v1,v2]:=by
  obtain⟨a1,atX,rfl,d1⟩:=c1;obtain⟨a2,atY,rfl,d2⟩:=c2;show ∃xs,Hu σ a2 (Nat.min (rows.length - m2) (rows.length - m1)*k) xs∧wz σ k a1 (Nat.min (rows.length - m2) (rows.length - m1)) xs H;have ad9:Nat.min (rows.length - m2) (rows.length - m1)=rows.length - m1:=NJ (by omega);rw[ad9]
  by_cases hz:rows.length - m1=0
  · rw[hz];refine⟨[],.inl ⟨by simp,rfl⟩,fun _=>?_,fun e=>absurd rfl e⟩
    have:=hk σ (by rw[hz,yX (by omega),NH,dn];exact h) td.refl
    rw[hz] at this;exact this
  · obtain⟨a,cap,rfl,h1,U,h3⟩:=h
    rcases d1 with d1 | ⟨b,cs,e1,rfl,hb,hl,ph⟩
    · exact absurd d1 hz
    rcases d2 with d2 | ⟨b',cs',e2,rfl,bz,fH,aue⟩
    · exact absurd d2 (by omega)
    obtain rfl:b=b' := by rw[e1] at e2;exact mV e2
    obtain rfl:cs=cs' := by rw[hb] at bz;exact mV bz
    rcases h3 with h3 | ⟨b3,cs3,rfl,h4,h5,h6⟩
    · exact absurd h3 (by omega)
    obtain rfl:b3=b:=by simpa [nE] using e1
    obtain rfl:cs=cs3:=by rw[hb] at h4;exact mV h4
    have hmk:(rows.length - m1)*k+m1*k=rows.length*k:=by rw[←gP];congr 1;omega
    have auc:m2*k≤m1*k:=nT _ hm;have km:=jr U;have e3:cs=rows.flatten++cs.drop (rows.length*k):=by rw[←h6];simp
    have lA:(cs.drop (m2*k)).take ((rows.length - m1)*k)=((rows.drop m2).take (rows.length - m1)).flatten:=by
      have Ff:(rows.drop m2).flatten.length=(rows.length - m2)*k:=by rw[jr (k:=k) (fun r hr=>U r (DQ hr)),A_]
      have hle:(rows.length - m1)*k≤(rows.length - m2)*k:=nT _ (by omega);rw[e3,Nr (by rw[km];omega),EK U,HP (by rw[Ff];exact hle),EL (fun r hr=>U r (DQ hr))]
    have ey:bE ((rows.drop m2).take (rows.length - m1)).flatten=true:=by
      have hd:∀{q:List (List V)} {n:Nat},bE q.flatten=true→bE (q.take n).flatten=true∧bE (q.drop n).flatten=true:=fun {q n} hq=>by
        rw[←nR n q,pH,Gp,a_] at hq;exact hq
      exact(hd (hd ho).2).1
    have qg:((rows.drop m2).take (rows.length - m1)).flatten.length=(rows.length - m1)*k:=by
      rw[jr (k:=k) (fun r hr=>U r (DQ (s8 hr))),gZ,A_,rN (by omega)]
    refine⟨_,.inr ⟨b3,m2*k,cs,rfl,hb,by omega,rfl,by rw[lA];exact ey⟩,fun e=>absurd e hz,fun _=>⟨b3,m1*k,cs,rfl,hb,by omega,?_⟩⟩;rw[lA];have fS:=Mi (k:=k) (n:=m1*k) (cs:=cs) (xs:=((rows.drop m2).take (rows.length - m1)).flatten) (ys:=(rows.take m1).flatten)
      (by rw[e3,HP (by rw[km];omega),EL U]) (by rw[qg];omega) (by rw[jr (k:=k) (fun r hr=>U r (s8 hr)),gZ,rN hm1])
    have dR:(rows.take m1++(rows.drop m2).take (rows.length - m1)).length=rows.length:=by simp;omega
    refine hk _ ⟨some ⟨b3,0,Option.none⟩,cap,by rw[dR],by rw[dR];exact h1,fun r hr=>?_,.inr ⟨b3,_,rfl,ae.cX _ _ _,by rw[fS.2];exact h5,?_⟩⟩ ⟨fun b' cs' bz aI=>?_,rfl,fun b' bz => .inl bz,rfl⟩
    · rcases il.1 hr with hr | hr
      · exact U r (s8 hr)
      · exact U r (DQ (s8 hr))
    · have e5:=fS.1;rw[qg] at e5;rw[dR,←hmk,Ba,e5,pH]
    · have:b' ≠ b3:=by rintro rfl;exact aI rfl
      rw[ae.dc _ _ this];exact bz
theorem dz.yd {σ:ae} {k:Nat} {v:V} {rows:List (List V)} {K:V→Prop} (h:dz σ k v rows) (hk:K (.int .i64 rows.length)):yd v K:=by
  obtain⟨a,cap,rfl,_⟩:=h;exact hk
theorem dz.xX {σ:ae} {k:Nat} {v:V} {rows:List (List V)} {K:V→Prop} {ik:IntKind} {j:Nat} {c:List V} (h:dz σ k v rows) (hj:rows[j]?=some c)
    (hk:∀b cs rest,nE v=some b→σ.box b=some cs→cs.drop (j*k)=c++rest→K (.ptr (.out b) (j*k))):xX k v (.int ik (j:Nat)) K:=by
  have:=h.idx (H:=fun u _=>K u) (i:=ik) (j:=(j:Nat)) (by omega) (by simpa using hj) (fun b cs rest h1 U h3=>by
    have:=hk b cs rest h1 U (by simpa using h3)
    simpa using this)
  obtain⟨a,cap,rfl,h1,U,h3⟩:=h;have aj:=(dD.1 hj).1
  rcases h3 with h3 | ⟨b,cs,rfl,h4,h5,h6⟩
  · omega
  · exact⟨ik,j,rfl,this.1,this.2.1,this.2.2⟩
section
variable {r:Rl} {i j k:Nat}
end
section
variable {f:aZ} {a b a' b' : aY}
end
section
variable {s:bg} {a b a' b' : aN}
end
section
variable {s:au} {lat:Nat} {v w:List aN}
end
def delta (l:List Tok) (i:Nat):Int:=(if closing (dJ l i)≠0 then 1 else 0) - (if jN (dJ l i)=true then 1 else 0)
theorem q_ {l:List Tok} {x n i:Nat} {d:Int}:iy l x (n+1) i d=if d+delta l i=0 then i else iy l x n (i+1) (d+delta l i):=by
  simp only[iy,delta];have e:d+(if closing (dJ l i)≠0 then 1 else 0) - (if jN (dJ l i)=true then 1 else 0)=d+((if closing (dJ l i)≠0 then 1 else 0) - (if jN (dJ l i)=true then 1 else 0)):=by omega
  rw[e];rfl
theorem Sc (l:List Tok) (i:Nat) : -1≤delta l i:=by unfold delta;split<;>split<;>omega
theorem Bw {l:List Tok} {i:Nat} (h:closing (dJ l i)≠0):delta l i=1:=by
  unfold delta
  have:jN (dJ l i)=false:=by
    unfold closing at h;unfold jN;split at h
    · rename_i hk;rw[hk];decide
    · split at h
      · rename_i hk;rcases hk with hk | hk<;>rw[hk]<;>decide
      · exact absurd rfl h
  rw[this,ak h];simp
theorem Ly {l:List Tok} {x:Nat}:∀(n i:Nat) (d:Int),iy l x n i d=x∨i≤iy l x n i d
  | 0,_,_=>.inl rfl
  | n + 1, i, d => by
    rw[q_];split
    · exact .inr (bt _)
    · rcases Ly n (i+1) (d+delta l i) with h | h
      · exact .inl h
      · exact .inr (by omega)
theorem scan {l:List Tok} {x j:Nat}:∀(n i:Nat) (d:Int),i+n=l.length→1≤d→x<i→i≤j→j<iy l x n i d→∃d',1≤d' ∧ iy l x n i d=iy l x (l.length - j) j d'
  | 0,i,d,_,_,hx,hj,h=>by simp only[iy] at h;omega
  | n + 1, i, d, hl, hd, hx, hj, h => by
    by_cases o_:i=j
    · subst o_;exact⟨d,hd,by rw[show l.length - i=n+1 by omega]⟩
    rw[q_] at h ⊢;split at h
    · omega
    · rename_i he;rw[ah he]
      have:=Sc l i
      exact scan n (i+1) _ (by omega) (by omega) (by omega) (by omega) h
theorem less {l:List Tok} {x y:Nat}:∀(n p:Nat) (a b:Int),1≤a→a<b→y<p→x<p→p≤iy l x n p b→iy l y n p a<iy l x n p b
  | 0,p,a,b,_,_,_,hx,h=>by simp only[iy] at h;omega
  | n + 1, p, a, b, ha, hb, hy, hx, h => by
    have hd:=Sc l p;simp only[q_] at h ⊢;rw[ah (show ¬b+delta l p=0 by omega)] at h ⊢;have U:p+1≤iy l x n (p+1) (b+delta l p):=by rcases Ly (l:=l) (x:=x) n (p+1) (b+delta l p) with e | e<;>omega
    split
    · omega
    · exact less n (p+1) _ _ (by omega) (by omega) (by omega) (by omega) U
theorem nest {l:List Tok} {i j:Nat} (hi:closing (dJ l i)≠0) (hj:closing (dJ l j)≠0) (h1:i<j) (U:j<partner l i) (hl:i<l.length):partner l j<partner l i:=by
  have hp:=Gy hl;have e:partner l i=iy l i (l.length - i - 1) (i+1) 1:=by
    unfold partner;rw[show l.length - i=(l.length - i - 1)+1 by omega,q_,Bw hi];simp
  rw[e] at U;obtain⟨d,hd,e2⟩:=scan (l.length - i - 1) (i+1) 1 (by omega) (by omega) (by omega) (by omega) U;have e3:iy l i (l.length - j) j d=iy l i (l.length - j - 1) (j+1) (d+1):=by
    rw[show l.length - j=(l.length - j - 1)+1 by omega,q_,Bw hj,ah (by omega)];simp
  have e4:partner l j=iy l j (l.length - j - 1) (j+1) 1:=by
    unfold partner;rw[show l.length - j=(l.length - j - 1)+1 by omega,q_,Bw hj];simp
  rw[e,e2,e3,e4];rw[e2,e3] at U;exact less _ _ _ _ (by omega) (by omega) (by omega) (by omega) (by rcases Ly (l:=l) (x:=i) (l.length - j - 1) (j+1) (d+1) with e | e<;>omega)
def Zz (l:List Tok) (i to:Nat):Prop:=∀j,i≤j→j<to→closing (dJ l j)≠0→partner l j<to
theorem Ha {l:List Tok}:∀(n i to:Nat),to≤l.length→Zz l i to→aP (mn l n i to)≤to - i
  | 0,_,_,_,_=>by simp[mn,aP]
  | n + 1, i, to, hl, hw => by
    rw[mn];split
    · rename_i hi;split
      · rename_i hc;have hp:=Gy (l:=l) (i:=i) (by omega);have hq:=hw i (bt _) hi hc;have h1:=Ha n (i+1) (partner l i) (by omega) fun j a b c=>nest hc c (by omega) b (by omega)
        have U:=Ha n (partner l i+1) to hl fun j a b c=>hw j (by omega) b c
        simp only[aP,Tree.many];omega
      · have U:=Ha n (i+1) to hl fun j a b c=>hw j (by omega) b c
        simp only[aP,Tree.many];omega
    · simp[aP]
def rS (t:Tok):Prop:=(t.kind=97∧cV t.text=true)∨(t.kind≠97∧t.text=[UInt8.ofNat t.kind.toNat])
theorem Af:∀(n p:Nat) (r:List UInt8) (acc:List Tok),(∀t∈acc,rS t)→∀t∈(d_ n p r acc).1,rS t
  | 0,_,r,acc,h=>by cases r<;>simpa [d_] using h
  | n+1,p,[],acc,h=>by simpa [d_] using h
  | n + 1, p, c :: r, acc, h => by
    simp only[d_];split
    · exact h
    · split
      · rename_i hr;refine Af n _ _ _ fun t ht=>?_
        rcases il.1 ht with ht | ht
        · exact h t ht
        · rw[lS.1 ht];exact .inl ⟨rfl,hr.2⟩
      · split
        · rename_i hs;refine Af n _ _ _ fun t ht=>?_
          rcases il.1 ht with ht | ht
          · exact h t ht
          · rw[lS.1 ht];refine .inr ⟨fun e=>?_,?_⟩
            · simp only at e;rw[e] at hs;revert hs;decide
            · simp
        · split
          · exact Af n _ _ _ h
          · simp
mutual
def Tree.Good:Tree→Prop
  | .mk t ks _=>rS t∧(closing t.kind=0→ks=[])∧dr ks
def dr:List Tree→Prop
  | []=>True
  | t::ts=>t.Good∧dr ts
end
theorem I4:∀{a b:List Tree},dr (a++b)↔dr a∧dr b
  | [],b=>by simp[dr]
  | t::ts,b=>by simp only[fN,dr,I4 (a:=ts),H0]
theorem vk (t:Tree):t.Good↔rS t.tok∧(closing t.tok.kind=0→t.kids=[])∧dr t.kids:=by cases t;simp only[Tree.Good,Tree.tok,Tree.kids]
theorem G' {l:List Tok} (h:∀t∈l,rS t):∀(n i to:Nat),to≤l.length→dr (mn l n i to)
  | 0,_,_,_=>by simp[mn,dr]
  | n + 1, i, to, hl => by
    rw[mn];split
    · rename_i hi;have ht:rS (ia l i):=by
        have e:ia l i=l[i]:=by simp[ia,cw (show i<l.length by omega)]
        rw[e];exact h _ (fD _)
      have hk:(ia l i).kind=dJ l i:=by simp only[ia,dJ];split<;>rfl
      split
      · rename_i hc;have hp:=Gy (l:=l) (i:=i) (by omega);simp only[dr,Tree.Good];exact⟨⟨ht,fun e=>absurd (hk▸e) hc,G' h n _ _ (by omega)⟩,G' h n _ _ hl⟩
      · simp only[dr,Tree.Good];exact⟨⟨ht,fun _=>trivial,trivial⟩,G' h n _ _ hl⟩
    · exact trivial
theorem Vr (s:List UInt8):dr (gf (c_ s).1).1:=by
  unfold gf;split
  · exact trivial
  · exact G' (Af _ _ _ _ (by simp)) _ _ _ (bt _)
theorem Vs (s:List UInt8):aP (gf (c_ s).1).1≤s.length:=by
  have hl:=Vj s;unfold gf;split
  · simp[aP]
  · have:=Ha (l:=(c_ s).1) (c_ s).1.length 0 (c_ s).1.length (bt _) fun j _ hj _=>(Gy hj).2
    simp only;omega
theorem ar4 {t:Tok} (h:rS t):t.text.length≤16:=by
  rcases h with ⟨_,h⟩ | ⟨_,h⟩
  · unfold cV at h;simp only[a_,bH] at h;exact h.1
  · rw[h];simp
structure gy (r r' : ab) (seg:List Tree):Prop where
  ex:∃pre post,r.l=pre++seg++post∧r.at_=(pre.length:Nat)∧r'.at_=((pre++seg).length:Nat)
  l:r'.l=r.l
  b:r.bad=none
  b' : r'.bad=none
theorem gy.trans {r r' WY : ab} {a b:List Tree} (h:gy r r' a) (k:gy r' WY b):gy r WY (a++b):=by
  obtain⟨pre,post,e1,e2,e3⟩:=h.ex;obtain⟨LJ,WJ,f1,f2,f3⟩:=k.ex;refine⟨⟨pre,WJ,?_,e2,?_⟩,k.l.trans h.l,h.b,k.b'⟩
  · have hl:(pre++a).length=LJ.length:=by omega
    have:pre++a++post=LJ ++ (b++WJ):=by rw[←e1,←h.l,f1,dt]
    obtain⟨g1,g2⟩:=List.append_inj this hl;rw[e1,g2];simp
  · rw[f3];have hl:(pre++a).length=LJ.length:=by omega
    simp only[bw] at hl ⊢;omega
theorem gy.good {r r' : ab} {a:List Tree} (h:gy r r' a) (hg:dr r.l):dr a:=by
  obtain⟨pre,post,e1,_,_⟩:=h.ex;rw[e1,I4,I4] at hg;exact hg.1.2
theorem ml {r:ab} {k:Int} (h:(r.take k).2.bad=none):gy r (r.take k).2 [(r.take k).1]∧(r.take k).1.tok.kind=k:=by
  rcases r.rr k with ⟨hs,h1,U,h3,h4⟩ | ⟨_,_,h1⟩
  · have ct := hs;simp only[ab.sees,ab.ok,a8,a_,bH,Bc] at ct;have aj:r.at_.toNat<r.l.length:=by omega
    have e:(r.take k).1=r.l[r.at_.toNat]:=by simp[ab.take,hs,List.getD,cw aj]
    refine⟨⟨⟨r.l.take r.at_.toNat,r.l.drop (r.at_.toNat+1),?_,?_,?_⟩,r.eC k,ct.1,U⟩,?_⟩
    · rw[e,dt,lT,←kN aj,nR]
    · rw[gZ];omega
    · rw[h1,bw,gZ,iE];omega
    · rw[e]
      have:=ct.2.2
      rw[cw aj] at this;simpa using this
  · exact absurd h h1
def gX (l:List Tree):Nat:=26*aP l
theorem uA (a b:List Tree):gX (a++b)=gX a+gX b:=by simp only[gX,qk];omega
theorem rq (t:Tree):gX [t]=26+gX t.kids:=by simp only[gX,aP,K7];omega
theorem YA {t:Tok} (ht:t.kind≠97):∀(a:List Tok) (k:Option Int) (b:List Tok),gY k (a++t::b)=gY k a++t.text++gY none b
  | [], k, b => by
    simp only[gk,gY,ht,and_false,bP];cases b with
    | nil=>rfl
    | cons u us=>simp only[gY,aH,ht,BD,bP,reduceCtorEq]
  | x::xs,k,b=>by simp only[fN,gY,YA ht xs (some x.kind) b,dt]
theorem ME {t:Tok} (ht:t.kind≠97) (a b:List Tok):dV (a++t::b)=dV a++t.text++dV b:=YA ht a none b
theorem gp:∀a b:List Tree,aU (a++b)=aU a++aU b
  | [],b=>rfl
  | t::ts,b=>by simp only[fN,aU,gp ts b,dt]
theorem EJ (t:Tree):aU [t]=t.tok::(if closing t.tok.kind≠0 then aU t.kids++[⟨closing t.tok.kind,[UInt8.ofNat (closing t.tok.kind).toNat],t.fin⟩] else []):=by
  cases t;simp only[aU,Tree.flat,dn,Tree.tok,Tree.kids,Tree.fin];rfl
theorem uE {t:Tree} (hk:t.tok.kind≠97) (hc:closing t.tok.kind=0) (a b:List Tree):dV (aU (a++[t]++b))=dV (aU a)++t.tok.text++dV (aU b):=by
  rw[gp,gp,EJ,hc];simp only[ne_eq,Gl,bP,dt,lT];rw[←dt (dV (aU a))];exact ME hk _ _
theorem arV {t:Tree} (hk:t.tok.kind=97):dV (aU [t])=t.tok.text:=by
  rw[EJ,hk,show closing 97=0 from rfl];simp[dV,gY]
theorem AE {t:Tree} (hc:closing t.tok.kind≠0):dV (aU [t])=t.tok.text++dV (aU t.kids)++[UInt8.ofNat (closing t.tok.kind).toNat]:=by
  have hk:t.tok.kind≠97:=fun e=>hc (by rw[e];rfl)
  have pY:closing t.tok.kind≠97:=by unfold closing;split;omega;split;omega;omega
  rw[EJ,ak hc];have h1:=ME hk [] (aU t.kids++[⟨closing t.tok.kind,[UInt8.ofNat (closing t.tok.kind).toNat],t.fin⟩]);rw[gk] at h1;rw[h1,ME pY];simp[dV,gY]
def Sound {β:Type} (one:ab→β × ab) (T:β→List UInt8) (Q:β→Prop) (S:β→Nat):Prop :=
  ∀r,dr r.l→(one r).2.bad=none→∃seg,gy r (one r).2 seg∧dV (aU seg)=T (one r).1∧Q (one r).1∧S (one r).1≤gX seg
theorem Tg {β:Type} {step:ab × List β→ab × List β}:∀{n:Nat} {a:ab × List β},(gR step n a).1.bad=none→a.1.bad=none
  | 0,a,h=>h
  | n + 1, a, h => by
    rw[gR] at h;split at h
    · rename_i hs;simp only[ab.sees,ab.ok,a_,Bc] at hs;exact hs.1
    · exact h
section
variable {β:Type} {one:ab→β × ab} {T:β→List UInt8} {Q:β→Prop} {S:β→Nat}
structure Has (T:β→List UInt8) (Q:β→Prop) (S:β→Nat) (seg:List Tree) (xs:List β):Prop where
  t:dV (aU seg)=bW (xs.map T)
  q:∀x∈xs,Q x
  s:(xs.map S).sum≤gX seg
  n:0<xs.length
theorem Tj (hs:Sound one T Q S) {r:ab} (hg:dr r.l):∀{n:Nat} {a:ab × List β} {seg:List Tree},gy r a.1 seg→Has T Q S seg a.2→(gR (bJ one) n a).1.bad=none →
    ∃XZ,gy r (gR (bJ one) n a).1 XZ ∧ Has T Q S XZ (gR (bJ one) n a).2
  | 0,a,seg,h,k,_=>⟨seg,h,k⟩
  | n + 1, a, seg, h, k, hb => by
    rw[gR] at hb ⊢;split
    · rename_i ajH;rw[ak ajH] at hb;have fG:=Tg hb;have B6:dr (a.1.take 44).2.l:=by rw[ab.eC,h.l];exact hg
      obtain⟨sg,e1,e2,e3,e4⟩:=hs (a.1.take 44).2 B6 fG;obtain⟨t1,t2⟩:=ml e1.b;refine Tj hs hg (seg:=seg++[(a.1.take 44).1]++sg) ?_ ?_ hb
      · exact(h.trans t1).trans e1
      · have ko:dr [(a.1.take 44).1]:=t1.good (by rw[h.l];exact hg);have bM:=((vk _).1 ko.1).1;have xN:(a.1.take 44).1.tok.text=[44]:=by
          rcases bM with ⟨h1,_⟩ | ⟨_,h1⟩
          · omega
          · rw[h1,t2];rfl
        refine⟨?_,?_,?_,?_⟩
        · rw[uE (by rw[t2];decide) (by rw[t2];rfl),k.t,e2,xN];simp only[bJ,fE,bC,dp];rw[UX,ak (by simpa using k.n)]
        · intro x hx
          rcases il.1 hx with hx | hx
          · exact k.q x hx
          · rw[lS.1 hx];exact e3
        · have:=k.s
          simp only[bJ,fE,bC,dp,List.sum_append,mr,oD,uA];omega
        · simp[bJ]
    · exact⟨seg,h,k⟩
theorem Yh (hs:Sound one T Q S) {r:ab} (hg:dr r.l) (hb:(da (bJ one) r).1.bad=none):∃seg,gy r (da (bJ one) r).1 seg∧Has T Q S seg (da (bJ one) r).2:=by
  unfold da at hb ⊢;have fG:=Tg hb;obtain⟨sg,e1,e2,e3,e4⟩:=hs r hg fG;refine Tj hs hg e1 ?_ hb;refine⟨?_,?_,?_,?_⟩
  · simp only[bJ,gk,bC,dp,bW,List.flatMap_nil,dn];exact e2
  · intro x hx;simp only[bJ,gk,lS] at hx;rw[hx];exact e3
  · simp only[bJ,gk,bC,dp,mr,oD];omega
  · simp[bJ]
theorem Ik {i:ab} (h:i.close.bad=none):i.bad=none∧¬i.at_<i.l.length:=by
  unfold ab.close at h;split at h
  · exact absurd h i.EG
  · rename_i hc;refine⟨h,fun hl=>hc ⟨by simp[ab.ok,h],hl⟩⟩
theorem Q5 {t:Tree} {i:ab} {seg:List Tree} (h:gy t.inner i seg) (hc:i.close.bad=none):seg=t.kids:=by
  obtain⟨pre,post,e1,e2,e3⟩:=h.ex;obtain⟨_,U⟩:=Ik hc;have hp:pre=[]:=by
    have:t.inner.at_=0:=rfl
    rw[this] at e2;exact iD.1 (by omega)
  subst hp;have hq:post=[]:=by
    rw[h.l,e3,e1] at U;simp only[gk,bw] at U;exact iD.1 (by omega)
  subst hq;simpa [Tree.inner] using e1.symm
theorem Ia (hs:Sound one T Q S) {k:Int} {e:Bool} {r:ab} (hg:dr r.l) (hb:(r.bracket (bJ one) k e).2.bad=none) :
    ∃t,gy r (r.bracket (bJ one) k e).2 [t]∧t.tok.kind=k∧dV (aU t.kids)=bW ((r.bracket (bJ one) k e).1.1.map T)∧(∀x∈(r.bracket (bJ one) k e).1.1,Q x)∧((r.bracket (bJ one) k e).1.1.map S).sum≤gX t.kids ∧
      (e=false→0<(r.bracket (bJ one) k e).1.1.length):=by
  unfold ab.bracket at hb ⊢;split
  · rename_i bM;rw[ak bM] at hb;have fG:(r.take k).2.bad=none:=by simpa [ab.ok] using bM
    obtain⟨t1,t2⟩:=ml fG;have ko:(r.take k).1.Good:=(t1.good hg).1;have tS:dr (r.take k).1.kids:=((vk _).1 ko).2.2;have dg:(ab.inside (bJ one) e (r.take k).1).1.close.bad=none:=hb;refine⟨(r.take k).1,⟨t1.ex,t1.l,t1.b,hb⟩,t2,?_⟩;simp only;generalize (r.take k).1=t at *;unfold ab.inside at dg ⊢;split
    · rename_i he;have hk:t.kids=[]:=iD.1 he.2;rw[hk];refine⟨rfl,by simp,by simp,fun h=>?_⟩;rw[h] at he;simp at he
    · rename_i he;rw[ah he] at dg;obtain⟨seg,e1,e2⟩:=Yh hs (r:=t.inner) tS (Ik dg).1;have Kd:=Q5 e1 dg;subst Kd;exact⟨e2.t,e2.q,e2.s,fun _=>e2.n⟩
  · rename_i bM;rw[ah bM] at hb;exact absurd hb (by simpa [ab.ok] using bM)
end
end Go.Am
