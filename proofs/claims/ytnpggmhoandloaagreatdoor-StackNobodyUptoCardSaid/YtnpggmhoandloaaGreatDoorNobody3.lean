/-
  Part 3 of the proof of StackNobodyUptoCardSaid: a logic over the model, the forms of the functions that the law reaches, and what they compute.
-/
import Derived.IntWalk
import Derived.Test.YtnpggmhoandloaaGreatDoorNobody2
set_option linter.unusedVariables false
set_option linter.unusedSimpArgs false
set_option linter.defProp false
set_option linter.unusedSectionVars false
set_option maxRecDepth 4000
set_option maxHeartbeats 4000000
open Option renaming some->U,none->af
open Bool renaming true->aa,false->ak
open List renaming replicate->au,range->bU,getD->gU,zipWith->lq
open Eq renaming mpr->eQ
open Ne renaming symm->fi
namespace Go.Am
section
variable {P:Program} {d:Option Nat} {r:List AO} {K:St->Prop} {t:List V} {l:List (List V)} {Z:ag} {x y z:X} {Q:Exit->St->Prop} {st:St} {a b:AC}
theorem ar6:vc P .skip Q st=Q .normal st:=rfl
theorem ar2{o:List AO}:vc P (.Eg o) Q st=bV P o (Q .normal) st:=rfl
theorem ar7:vc P (.pf a) Q st=bq st (vc P a Q):=rfl
theorem arY{o:List (AO × List Nat)}:vc P (.draw o) Q ⟨t,l,Z⟩=ch P o [(l,Z)] [] (Q .normal) ⟨t,l,Z⟩:=rfl
theorem ar5:vc P (.seq a b) Q st=vc P a (Cf (vc P b Q) Q) st:=rfl
def B8(P:Program)(v:V)(a b:AC)(Q:Exit->St->Prop)(st:St):Prop:=match v with | .bool c=>(c=aa->vc P a Q st)/\(c=ak->vc P b Q st) | _=>False
theorem arW:vc P (.cond x a b) Q st=B8 P (ev st x) a b Q st:=rfl
def arU:B8 P (.bool aa) a b Q st=vc P a Q st:=by simp[B8]
def arT:B8 P (.bool ak) a b Q st=vc P b Q st:=by simp[B8]
def e9{c:Bool}(h1:c=aa->vc P a Q st)(h2:c=ak->vc P b Q st):B8 P (.bool c) a b Q st:=⟨h1,h2⟩
variable{out:Nat}
def N9{l:List AO}{x:X}{dI dN dM nxt:Nat}{y:AC}(h:bV P l (λmO=>∃s:List UInt8,ev mO x = .aF s/\(∀c∈s,c.toNat<128)/\∃I:Nat->Nat->St->Prop,
 (∀b,bq (mO.put (U dI) (.raw (.pointer (U ⟨b,0,af⟩)))) (I b 0)) /\
 (∀b i aJ,I b i aJ -> aJ.t.getD dI .any = .raw (.pointer (U ⟨b,0,af⟩))/\dN<aJ.t.length/\dM<aJ.t.length) /\
 (∀b i c aJ,s[i]?=U c->I b i aJ -> vc P y (rz nxt (xb out (I b (i+1)) Q)) ((aJ.put (U dN) (.bt [.bool aa,.int .i64 (i:Nat),.int .i32 (c.toNat:Nat)])).put (U dM) (.bool aa))) /\
 (∀b aJ,I b s.length aJ -> Q .normal ((aJ.put (U dN) (.bt [.bool ak])).put (U dM) (.bool ak)))) st):vc P (.BX l x dI dN dM out nxt y) Q st:=h
variable{J:St->Prop}
theorem ao6:xb out J Q .normal st=bq st J:=rfl
theorem ao5{id:Nat}:xb out J Q (.exit id) st=if id=out then Q .normal st else Q (.exit id) st:=rfl
theorem ao7:xb out J Q .ret st=Q .ret st:=rfl
theorem ar4:vc P (.scope a) Q st=vc P a (AT Q) st:=rfl
theorem al':AT Q .normal st=Q .normal st:=rfl
theorem al_{id:Nat}:AT Q (.exit id) st=Q (.exit id) st:=rfl
theorem ama:AT Q .ret st=Q .ret st:=rfl
theorem arV{id:Nat}:vc P (.block id a) Q st=vc P a (rz id Q) st:=rfl
theorem ar0{id:Nat}:vc P (.exit id) Q st=Q (.exit id) st:=rfl
theorem ar3:vc P .ret Q st=Q .ret st:=rfl
theorem Y':Cf K Q .normal st=K st:=rfl
theorem Y_{id:Nat}:Cf K Q (.exit id) st=Q (.exit id) st:=rfl
theorem Za:Cf K Q .ret st=Q .ret st:=rfl
theorem ZK{id:Nat}:rz id Q .normal st=Q .normal st:=rfl
theorem ZL{id:Nat}:rz id Q .ret st=Q .ret st:=rfl
theorem ZJ{id zL : Nat}:rz id Q (.exit zL) st=if zL = id then Q .normal st else Q (.exit zL) st:=rfl
variable{ι:Type}
theorem alh{I:ι->St}{μ:ι->Nat}{n id:Nat}:yJ I μ Q n (.exit id) st=Q (.exit id) st:=rfl
theorem alj{I:ι->St}{μ:ι->Nat}{n:Nat}:yJ I μ Q n .ret st=Q .ret st:=rfl
theorem ali{I:ι->St}{μ:ι->Nat}{n:Nat}:yJ I μ Q n .normal st=bq st λaJ => ∃j,aJ = I j/\μ j<n:=rfl
def iG(I:ι->St)(μ:ι->Nat)(h0:bq st λaJ => ∃i,aJ = I i)(h:∀i,vc P a (yJ I μ Q (μ i)) (I i)):vc P (.loop a) Q st:=⟨ι,I,μ,h0,h⟩
variable{R':V->ag->Prop}{rs:List RV}
theorem apt:Ff rs R' .ret st=opt ((tE st rs).map tq) (mV R' st):=rfl
theorem aps:Ff rs R' .normal st=opt ((tE st rs).map tq) (mV R' st):=rfl
variable{v:V}
theorem anE{K:V->Prop}:opt (U v) K=K v:=rfl
theorem ap4:tE st []=U []:=rfl
def Qp(v:Option V)(l:Option (List V)):Option (List V):=v.bind λx=>l.map (x::·)
theorem aa6{l:List V}:Qp (U v) (U l)=U (v::l):=rfl
theorem ap3{y:RV}:tE st (y::rs)=Qp (rv st y) (tE st rs):=rfl
theorem ap2{n:Nat}:rv ⟨t,l,Z⟩ (.tmp n)=U (t.getD n .any):=rfl
variable{g:Bool}
theorem ap1{n m:Nat}:rv ⟨t,l,Z⟩ (.cell n g m)=kW ⟨t,l,Z⟩ g m (t.getD n .any):=rfl
theorem ann:tq [v]=v:=rfl
theorem anm:tq [] = .bt []:=rfl
theorem anl{u v:V}{l:List V}:tq (u::v::l) = .bt (u::v::l):=rfl
theorem alG{v:List V}{f:List V->V}:Option.map f (U v)=U (f v):=rfl
variable{σ':ag}
def aP(h1:v.cI=aa)(h2:σ'.sub Z)(h3:R' v.erase σ'):mV R' ⟨t,l,Z⟩ v:=⟨h1,σ',_,h2,.inl rfl,h3⟩
def apr(h1:v.cI=aa)(h2:σ'.sub Z)(h3:R' v σ'):mV R' ⟨t,l,Z⟩ v:=⟨h1,σ',_,h2,.inr rfl,h3⟩
def aU{w:V}(h:v.erase=w)(h1:v.cI=true:=by rfl):mV (λv σ' => v=w/\σ' = Z) ⟨t,l,Z⟩ v:=aP h1 (ag.bc _) ⟨h,rfl⟩
theorem ado{n:Nat}:ev ⟨t,l,Z⟩ (.s n)=t.getD n .any:=rfl
theorem adm:ev st (.c v)=v:=rfl
theorem adq:cX st []=[]:=rfl
theorem adp{xs:List X}:cX st (x::xs)=ev st x::cX st xs:=rfl
theorem ahM{w:V}:(v::t).getD 0 w=v:=rfl
theorem ahL{w:V}{n:Nat}:(v::t).getD (n+1) w=t.getD n w:=rfl
theorem aqx{w:V}:(v::t).set 0 w=w::t:=rfl
theorem aqv{w:V}{n:Nat}:(v::t).set (n+1) w=v::t.set n w:=rfl
theorem aoP{n:Nat}:St.put ⟨t,l,Z⟩ (U n) v=⟨t.set n v,l,Z⟩:=rfl
theorem aoO:St.put st af v=st:=rfl
theorem am6:bV P [] K st=K st:=rfl
def kL(P:Program)(d:Option Nat)(r:List AO)(K:St->Prop)(st:St)(v:V):Prop:=bV P r K (st.put d v)
theorem ajT:kL P d r K ⟨t,l,Z⟩ v=bV P r K (St.put ⟨t,l,Z⟩ d v):=rfl
def pM(o:Option V)(K:V->Prop):Prop:=match o with | some v=>K v | none=>False
theorem anB{K:V->Prop}:pM (U v) K=K v:=rfl
theorem am5:bV P (⟨d,.mv x,af⟩::r) K st=bV P r K (st.put d (ev st x)):=rfl
def tA(P:Program)(v a b:V)(d:Option Nat)(r:List AO)(K:St->Prop)(st:St):Prop:=match v with | .bool aa=>bV P r K (st.put d a) | .bool ak=>bV P r K (st.put d b) | _=>False
def am_:bV P (⟨d,.pick x y z,af⟩::r) K st=tA P (ev st x) (ev st y) (ev st z) d r K st:=by
 simp only[bV,aI.ba,tA];cases ev st x<;>first | rfl | (rename_i b;cases b<;>rfl)
theorem aoj{u:V}:tA P (.bool aa) u v d r K st=bV P r K (st.put d u):=rfl
theorem aoh{u:V}:tA P (.bool ak) u v d r K st=bV P r K (st.put d v):=rfl
def aoi{b c:Bool}:tA P (.bool b) (.bool c) (.bool ak) d r K st=bV P r K (st.put d (.bool (b&&c))):=by cases b<;>simp[tA]
def aok{b c:Bool}:tA P (.bool b) (.bool aa) (.bool c) d r K st=bV P r K (st.put d (.bool (b||c))):=by cases b<;>simp[tA]
variable{c:List V}
theorem amC:bV P (⟨d,.alloc c,af⟩::r) K ⟨t,l,Z⟩=bV P r K (St.put ⟨t,l++[c],Z⟩ d (.ptr (.aD l.length) 0)):=rfl
theorem amJ{n:Nat}:bV P (⟨d,.box n x,af⟩::r) K ⟨t,l,Z⟩=((ev ⟨t,l,Z⟩ x).wd=U n/\bV P r K (St.put ⟨t,l++[(ev ⟨t,l,Z⟩ x).cells],Z⟩ d (.ptr (.aD l.length) 0))):=rfl
def kO(P:Program)(d:Option Nat)(r:List AO)(K:St->Prop)(st:St)(cs:List V):Prop:=∀b,st.out.box b=af->bV P r K (St.put ⟨st.t,st.aD,st.out.set b cs⟩ d (.ptr (.out b) 0))
theorem amD:bV P (⟨d,.nP c,af⟩::r) K st=(bK c=aa/\kO P d r K st c):=rfl
theorem amK{n:Nat}:bV P (⟨d,.gf n x,af⟩::r) K st=((ev st x).wd=U n/\bK (ev st x).cells=aa/\kO P d r K st (ev st x).cells):=rfl
def j1(h:∀b,Z.box b=af->bV P r K (St.put ⟨t,l,Z.set b c⟩ d (.ptr (.out b) 0))):kO P d r K ⟨t,l,Z⟩ c:=h
variable{ps:List (Nat × Nat × X)}
theorem amM:bV P (⟨d,.build c ps,af⟩::r) K st=pM ((nQ st c ps).map V.agg) (kL P d r K st):=rfl
def MJ(o:Option (List (List V)))(k:Nat)(K:V->Prop):Prop:=match o with | some v=>K (.sl .aV k v) | none=>False
variable{k:Nat}
theorem anC{v:List (List V)}{K:V->Prop}:MJ (U v) k K=K (.sl .aV k v):=rfl
def amL{xs:List X}:bV P (⟨d,.kf k xs,af⟩::r) K st=MJ (lb st k xs) k (kL P d r K st):=by
 simp only[bV,aI.ba];cases lb st k xs<;>rfl
theorem am3{n:Nat}:bV P (⟨d,.load g n x,af⟩::r) K st=pM (kW st g n (ev st x)) (kL P d r K st):=rfl
def MK(P:Program)(o:Option St)(d:Option Nat)(r:List AO)(K:St->Prop):Prop:=match o with | some st=>bV P r K (st.put d .any) | none=>False
theorem anD:MK P (U st) d r K=bV P r K (st.put d .any):=rfl
def anb{n:Nat}:bV P (⟨d,.store n x y,af⟩::r) K st=MK P (dq st n (ev st y) (ev st x)) d r K:=by
 simp only[bV,aI.ba,MK];cases dq st n (ev st y) (ev st x)<;>rfl
def Ab(v:V)(K:V->Prop):Prop:=match v with | .ptr p o=>K (.ptr p o) | .elt c o=>K (.elt c o) | .fn (.func f) a b=>K (.fn (.func f) a b) | _=>False
def am7:bV P (⟨d,.uX x,af⟩::r) K st=Ab (ev st x) (kL P d r K st):=by
 simp only[bV,aI.ba,Ab];cases ev st x<;>first | rfl | (rename_i f _ _;cases f<;>rfl)
variable{o:Nat}{p:Pl}
theorem al7{K:V->Prop}:Ab (.ptr p o) K=K (.ptr p o):=rfl
theorem al5{K:V->Prop}:Ab (.elt c o) K=K (.elt c o):=rfl
variable{e:List V}{f:FuncId}
theorem al6{K:V->Prop}:Ab (.fn (.func f) c e) K=K (.fn (.func f) c e):=rfl
theorem amH{op:BinOp}:bV P (⟨d,.ek op x y,af⟩::r) K st=pM (ug op (ev st x) (ev st y)) (kL P d r K st):=rfl
theorem amI{op:BinOp}:bV P (⟨d,.mW op x y,af⟩::r) K st=pM (yZ op (ev st x) (ev st y)) (kL P d r K st):=rfl
theorem amG{n:Bool}:bV P (⟨d,.uf n x y,af⟩::r) K st=pM (xq n (ev st x) (ev st y)) (kL P d r K st):=rfl
def FC(u v:V)(K:V->Prop):Prop:=∃a b,u = .aF a/\v = .aF b/\a.length+b.length<=aO/\K (.aF (a++b))
theorem amP:bV P (⟨d,.cat x y,af⟩::r) K st=FC (ev st x) (ev st y) (kL P d r K st):=rfl
def aao{a b:List UInt8}{K:V->Prop}:FC (.aF a) (.aF b) K=(a.length+b.length<=aO/\K (.aF (a++b))):=by
 simp only[FC,V.aF.injEq,eq_iff_iff];constructor
 .rintro⟨a',b',rfl,rfl,h1,h2⟩;exact⟨h1,h2⟩
 .rintro⟨h1,h2⟩;exact⟨a,b,rfl,rfl,h1,h2⟩
variable{ks:List Nat}
theorem amS{n:Bool}:bV P (⟨d,.ir n ks x y,af⟩::r) K st=pM (xp n ks (ev st x) (ev st y)) (kL P d r K st):=rfl
def D5(v:V)(K:V->Prop):Prop:=match v with | .bool b=>K (.bool (!b)) | _=>False
def am8:bV P (⟨d,.not x,af⟩::r) K st=D5 (ev st x) (kL P d r K st):=by
 simp only[bV,aI.ba,D5];cases ev st x<;>rfl
theorem amy{b:Bool}{K:V->Prop}:D5 (.bool b) K=K (.bool (!b)):=rfl
def DU(v:V)(K:V->Prop):Prop:=match v with | .sl _ _ l=>K (.int .i64 l.length) | .raw (.slice _ n _)=>K (.int .i64 n) | _=>False
def am1:bV P (⟨d,.uS x,af⟩::r) K st=DU (ev st x) (kL P d r K st):=by
 simp only[bV,aI.ba,DU];cases ev st x<;>rfl
variable{m:List (List V)}
theorem aky{Y:Tk}{K:V->Prop}:DU (.sl Y k m) K=K (.int .i64 m.length):=rfl
def DV(v:V)(K:V->Prop):Prop:=match v with | .aF s=>K (.int .i64 s.length) | _=>False
def am2:bV P (⟨d,.uT x,af⟩::r) K st=DV (ev st x) (kL P d r K st):=by
 simp only[bV,aI.ba,DV];cases ev st x<;>rfl
theorem akz{s:List UInt8}{K:V->Prop}:DV (.aF s) K=K (.int .i64 s.length):=rfl
def Bc(off:Nat)(v:V)(K:V->Prop):Prop:=match v with | .ptr p o=>K (.ptr p (o+off)) | .elt c o=>K (.elt c (o+off)) | _=>False
def amV{n:Nat}:bV P (⟨d,.nW n x,af⟩::r) K st=Bc n (ev st x) (kL P d r K st):=by
 simp only[bV,aI.ba,Bc];cases ev st x<;>rfl
theorem ad9{n:Nat}{K:V->Prop}:Bc n (.ptr p o) K=K (.ptr p (o+n)):=rfl
theorem ad8{n:Nat}{K:V->Prop}:Bc n (.elt c o) K=K (.elt c (o+n)):=rfl
def C1(g:Bool)(off n:Nat)(v:V)(K:V->Prop):Prop:=match v with | .agg cs=>pM (bF g n (cs.drop off)) K | _=>False
def amW{n m:Nat}:bV P (⟨d,.uz g m n x,af⟩::r) K st=C1 g m n (ev st x) (kL P d r K st):=by
 simp only[bV,aI.ba,C1];cases ev st x<;>rfl
variable{cs:List V}
theorem ad_{n m:Nat}{K:V->Prop}:C1 g m n (.agg cs) K=pM (bF g n (cs.drop m)) K:=rfl
def zM(k:Nat)(v i:V)(K:V->Prop):Prop:=match v with
 | .sl _ k' l=>k' = k/\IA l i λc=>K (.elt c 0)
 | .raw (.slice (U ⟨b,o,af⟩) n _)=>∃ik j,i = .int ik j/\0<=j/\j<n/\K (.ptr (.out b) (o+j.toNat*k))
 | _=>False
def amY:bV P (⟨d,.r6 k x y,af⟩::r) K st=zM k (ev st x) (ev st y) (kL P d r K st):=by
 simp only[bV,aI.ba,zM];cases ev st x<;>rfl
variable{ik:IntKind}
def qZ{Y:Tk}{n:Int}{K:V->Prop}(h0:0<=n)(h:m[n.toNat]?=U c)(hk:K (.elt c 0)):zM k (.sl Y k m) (.int ik n) K:=⟨rfl,ik,n,c,rfl,h0,h,hk⟩
def xT{Y:Tk}{n:Int}{K:V->Prop}(h:m[n.toNat]?=U c)(hk:K (.elt c 0))(h0:0<=n:=by omega):zM k (.sl Y k m) (.int ik n) K:=qZ h0 h hk
def xU(m k:Nat)(v i:V)(K:V->Prop):Prop:=match v with
 | .ptr p o=>∃kk n,i = .int kk n/\0<=n/\n<(m:Nat)/\K (.ptr p (o+n.toNat*k))
 | .elt c o=>∃kk n,i = .int kk n/\0<=n/\n<(m:Nat)/\K (.elt c (o+n.toNat*k))
 | _=>False
def amZ{m:Nat}:bV P (⟨d,.q_ m k x y,af⟩::r) K st=xU m k (ev st x) (ev st y) (kL P d r K st):=by
 simp only[bV,aI.ba,xU];cases ev st x<;>rfl
def ajc{m:Nat}{n:Int}{K:V->Prop}(h0:0<=n)(h:n<(m:Nat))(hk:K (.ptr p (o+n.toNat*k))):xU m k (.ptr p o) (.int ik n) K:=⟨ik,n,rfl,h0,h,hk⟩
def jD{m:Nat}{n:Int}{K:V->Prop}(hk:K (.ptr p (o+n.toNat*k)))(h0:0<=n:=by omega)(h:n<(m:Nat):=by omega):xU m k (.ptr p o) (.int ik n) K:=ajc h0 h hk
def ajb{m:Nat}{n:Int}{K:V->Prop}(h0:0<=n)(h:n<(m:Nat))(hk:K (.elt c (o+n.toNat*k))):xU m k (.elt c o) (.int ik n) K:=⟨ik,n,rfl,h0,h,hk⟩
def GS{m:Nat}{n:Int}{K:V->Prop}(hk:K (.elt c (o+n.toNat*k)))(h0:0<=n:=by omega)(h:n<(m:Nat):=by omega):xU m k (.elt c o) (.int ik n) K:=ajb h0 h hk
def BI(v i:V)(K:V->Prop):Prop:=match v with | .aF s=>∃k n c,i = .int k n/\0<=n/\s[n.toNat]?=U c/\K (.int .u8 c.toNat) | _=>False
def am0:bV P (⟨d,.sZ x y,af⟩::r) K st=BI (ev st x) (ev st y) (kL P d r K st):=by
 simp only[bV,aI.ba,BI];cases ev st x<;>rfl
variable{s:List UInt8}
def ajd{n:Int}{c:UInt8}{K:V->Prop}(h0:0<=n)(h:s[n.toNat]?=U c)(hk:K (.int .u8 c.toNat)):BI (.aF s) (.int ik n) K:=⟨ik,n,c,rfl,h0,h,hk⟩
def BJ{n:Int}{c:UInt8}{K:V->Prop}(h:s[n.toNat]?=U c)(hk:K (.int .u8 c.toNat))(h0:0<=n:=by omega):BI (.aF s) (.int ik n) K:=ajd h0 h hk
def kC(P:Program)(d:Option Nat)(r:List AO)(K:St->Prop)(t:List V)(l:List (List V))(v:V)(Z:ag):Prop:=bV P r K (St.put ⟨t,l,Z⟩ d v)
theorem ajR:kC P d r K t l v Z=bV P r K (St.put ⟨t,l,Z⟩ d v):=rfl
theorem amN{xs:List X}:bV P (⟨d,.call f xs,af⟩::r) K ⟨t,l,Z⟩=(bK (cX ⟨t,l,Z⟩ xs)=aa/\cg P f (cX ⟨t,l,Z⟩ xs) Z (kC P d r K t l)):=rfl
def Jd(P:Program)(v:V)(args:List V)(Z:ag)(K:V->ag->Prop):Prop:=match v with | .fn (.func f) a b=>bK (a++args++b)=aa/\cg P f (a++args++b) Z K | _=>False
def amO{xs:List X}:bV P (⟨d,.il x xs,af⟩::r) K ⟨t,l,Z⟩=Jd P (ev ⟨t,l,Z⟩ x) (cX ⟨t,l,Z⟩ xs) Z (kC P d r K t l):=by
 simp only[bV,aI.ba,Jd];cases ev ⟨t,l,Z⟩ x<;>first | rfl | (rename_i f _ _;cases f<;>rfl)
variable{args:List V}
theorem aal{u v:List V}{K:V->ag->Prop}:Jd P (.fn (.func f) u v) args Z K=(bK (u++args++v)=aa/\cg P f (u++args++v) Z K):=rfl
theorem amE:bV P (⟨d,.app k x y,af⟩::r) K ⟨t,l,Z⟩=pX Z k (ev ⟨t,l,Z⟩ x) (ev ⟨t,l,Z⟩ y) (kC P d r K t l):=rfl
theorem amF:bV P (⟨d,.mu x y,af⟩::r) K ⟨t,l,Z⟩=(∃a,ev ⟨t,l,Z⟩ y = .aF a/\pX Z 1 (ev ⟨t,l,Z⟩ x) (.sl .no 1 (de a)) (kC P d r K t l)):=rfl
variable{u:Tk}{Y:Nat}
def jP{n:List (List V)}{K:V->ag->Prop}(hb:m.length+n.length<=aO)(ht:Z.aK Y=U m.length)(hk:K (.sl (.tk Y) k (m++n)) (Z.aY Y (m.length+n.length))):
 pX Z k (.sl (.tk Y) k m) (.sl u k n) K:=⟨_,m,n,rfl,⟨u,rfl⟩,hb,ht,hk⟩
def Fm{n:List (List V)}{K:V->ag->Prop}(hb:m.length+n.length<=aO)(hk:∀Y,Z.aK Y=af->K (.sl (.tk Y) k (m++n)) (Z.aY Y (m.length+n.length))):
 pX Z k (.sl .aV k m) (.sl u k n) K:=⟨_,m,n,rfl,⟨u,rfl⟩,hb,.inl hk⟩
def xg{n:List (List V)}{K:V->ag->Prop}(hb:m.length+n.length<=aO)(hk:K (.sl .no k (m++n)) Z):
 pX Z k (.sl .aV k m) (.sl u k n) K:=⟨_,m,n,rfl,⟨u,rfl⟩,hb,.inr (.inl hk)⟩
def za(i:Nat)(v:V)(K:V->Prop):Prop:=match v with | .bt vs=>pM vs[i]? K | _=>False
variable{i:Nat}
def amU:bV P (⟨d,.ext x i,af⟩::r) K st=za i (ev st x) (kL P d r K st):=by
 simp only[bV,aI.ba,za];cases ev st x<;>rfl
theorem adx{u:V}{us:List V}{K:V->Prop}:za 0 (.bt (u::us)) K=K u:=rfl
theorem adw{i:Nat}{u:V}{us:List V}{K:V->Prop}:za (i+1) (.bt (u::us)) K=za i (.bt us) K:=rfl
theorem am4{f:Fn}{as bs:List X}:bV P (⟨d,.jG f as bs,af⟩::r) K st=bV P r K (st.put d (.fn f (cX st as) (cX st bs))):=rfl
def CP(k:IntKind)(v:V)(K:V->Prop):Prop:=match v with | .int _ n=>K (.int k (k.wrap n)) | _=>False
def amR{k:IntKind}:bV P (⟨d,.pr k x,af⟩::r) K st=CP k (ev st x) (kL P d r K st):=by
 simp only[bV,aI.ba,CP];cases ev st x<;>rfl
theorem abz{k j:IntKind}{n:Int}{K:V->Prop}:CP k (.int j n) K=K (.int k (k.wrap n)):=rfl
theorem amQ:bV P (⟨d,.sI x,af⟩::r) K st=(∃t s,ev st x = .sl t 1 (de s)/\kL P d r K st (.aF s)):=rfl
def gL(P:Program)(v:V)(w:Bool)(d:Option Nat)(op:aI)(r:List AO)(K:St->Prop)(st:St):Prop :=
 match v with
 | .bool b=>if b=w then bV P (⟨d,op,af⟩::r) K st else bV P r K (st.put d (.bt []))
 | .bt []=>bV P r K (st.put d (.bt []))
 | _=>False
def amX{g:Nat}{w:Bool}{op:aI}:bV P (⟨d,op,U (g,w)⟩::r) K ⟨t,l,Z⟩=gL P (t.getD g .any) w d op r K ⟨t,l,Z⟩:=by
 simp only[bV,gL,ev];generalize t.getD g .any=v;cases v<;>first | rfl | (rename_i m;cases m<;>rfl)
theorem ahE{w:Bool}{op:aI}:gL P (.bt []) w d op r K st=bV P r K (st.put d (.bt [])):=rfl
theorem ahD{op:aI}:gL P (.bool aa) aa d op r K st=bV P (⟨d,op,af⟩::r) K st:=rfl
theorem ahA{op:aI}:gL P (.bool ak) ak d op r K st=bV P (⟨d,op,af⟩::r) K st:=rfl
theorem ahC{op:aI}:gL P (.bool aa) ak d op r K st=bV P r K (st.put d (.bt [])):=rfl
theorem ahB{op:aI}:gL P (.bool ak) aa d op r K st=bV P r K (st.put d (.bt [])):=rfl
def zT(c:Option (List V))(g:Bool)(n o:Nat):Option V:=c.bind λcs=>bF g n (cs.drop o)
theorem akh{n:Nat}:zT (U c) g n o=bF g n (c.drop o):=rfl
theorem akq{g:Bool}{n i o:Nat}:kW ⟨t,l,Z⟩ g n (.ptr (.aD i) o)=zT l[i]? g n o:=rfl
theorem akr{n:Nat}:kW ⟨t,l,Z⟩ g n (.ptr (.out i) o)=zT (Z.box i) g n o:=rfl
theorem akp{n:Nat}:kW ⟨t,l,Z⟩ g n (.ptr (.jT i) o)=zT (Z.bY i) g n o:=rfl
theorem ako{n:Nat}:kW st g n (.elt cs o)=bF g n (cs.drop o):=rfl
theorem x9{n:Nat}:bF aa n cs=(takeN n cs).map V.agg:=rfl
theorem aki{n:Nat}{c:V}:bF ak n (c::cs)=U c:=rfl
theorem ark:takeN 0 cs=U []:=rfl
def Ub(c:V):Option (List V)->Option (List V) | some l=>U (c::l) | none=>af
def N2{n:Nat}{c:V}:takeN (n+1) (c::cs)=Ub c (takeN n cs):=by
 simp only[takeN];cases takeN n cs<;>rfl
theorem alF{c:V}:Ub c (U cs)=U (c::cs):=rfl
theorem ach:cs.drop 0=cs:=rfl
theorem acg{n:Nat}{c:V}:(c::cs).drop (n+1)=cs.drop n:=rfl
def WR(t:List V)(l:List (List V))(Z:ag)(i o n:Nat)(x:V):Option (List V)->Option St
 | some cs=>if bZ n (cs.drop o)=aa/\x.wd=U n/\cC x.cells=aa then U ⟨t,l.set i (setAt cs o x.cells),Z⟩ else af
 | none=>af
def aqV{n:Nat}:dq ⟨t,l,Z⟩ n v (.ptr (.aD i) o)=WR t l Z i o n v l[i]?:=by
 simp only[dq];cases l[i]?<;>rfl
theorem aqT{n:Nat}:WR t l Z i o n v (U cs)=if bZ n (cs.drop o)=aa/\v.wd=U n/\cC v.cells=aa then U ⟨t,l.set i (setAt cs o v.cells),Z⟩ else none:=rfl
def WS(t:List V)(l:List (List V))(Z:ag)(i o n:Nat)(x:V):Option (List V)->Option St
 | some cs=>if bZ n (cs.drop o)=aa/\x.wd=U n/\cC x.cells=aa/\bK x.cells=aa then U ⟨t,l,Z.set i (setAt cs o x.cells)⟩ else af
 | none=>af
def aqW{n:Nat}:dq ⟨t,l,Z⟩ n v (.ptr (.out i) o)=WS t l Z i o n v (Z.box i):=by
 simp only[dq];cases Z.box i<;>rfl
theorem aqU{n:Nat}:WS t l Z i o n v (U cs)=if bZ n (cs.drop o)=aa/\v.wd=U n/\cC v.cells=aa/\bK v.cells=aa then U ⟨t,l,Z.set i (setAt cs o v.cells)⟩ else none:=rfl
def gR{b:Nat}:(Z.set b cs).box b=U cs:=by simp[ag.set]
def mL{b c:Nat}(h:c≠b):(Z.set b cs).box c=Z.box c:=by simp[ag.set,h]
theorem aqp{b Y n:Nat}:(Z.aY Y n).box b=Z.box b:=rfl
theorem aqs{b g:Nat}:(Z.set b cs).bY g=Z.bY g:=rfl
theorem aqq{g n:Nat}:(Z.aY Y n).bY g=Z.bY g:=rfl
theorem aqw{b Y:Nat}:(Z.set b cs).aK Y=Z.aK Y:=rfl
def NL{n:Nat}:(Z.aY Y n).aK Y=U n:=by simp[ag.aY]
def pe{υ n:Nat}(h:υ≠Y):(Z.aY Y n).aK υ=Z.aK υ:=by simp[ag.aY,h]
theorem ZO:nQ st c []=U c:=rfl
def PV(st:St)(c:List V)(off n:Nat)(v:V)(ps:List (Nat × Nat × X)):Option (List V):=if bZ n (c.drop off)=aa/\v.wd=U n then nQ st (setAt c off v.cells) ps else af
variable{off:Nat}
theorem ZN{n:Nat}:nQ st c ((off,n,x)::ps)=PV st c off n (ev st x) ps:=rfl
theorem ZI{n:Nat}:PV st c off n v ps=if bZ n (c.drop off)=aa/\v.wd=U n then nQ st (setAt c off v.cells) ps else none:=rfl
theorem apM{k:Nat}:lb st k []=U []:=rfl
def Nn(c:List V):Option (List (List V))->Option (List (List V)) | some l=>U (c::l) | none=>af
theorem apD:Nn c (U m)=U (c::m):=rfl
def Nm(st:St)(k:Nat)(v:V)(xs:List X):Option (List (List V)):=if v.wd=U k/\bK v.cells=aa/\cC v.cells=aa then Nn (bx v.cells) (lb st k xs) else af
def apL{xs:List X}:lb st k (x::xs)=Nm st k (ev st x) xs:=by
 simp only[lb,Nm];cases lb st k xs<;>rfl
theorem apz{xs:List X}:Nm st k v xs=if v.wd=U k/\bK v.cells=aa/\cC v.cells=aa then Nn (bx v.cells) (lb st k xs) else none:=rfl
def da(v v' : V):Prop:=∀E u,R E v u->R E v' u
def da.rfl:da v v:=λ_ _ h=>h
def da.any:da v .any:=λ_ _ _=>by simp only[R]
def da.erase:da v v.erase:=λ_ _ h=>R.erase v h
def da.no{Y:Tk}:da (.sl Y k m) (.sl .no k m):=λ_ _ h=>R.erase (.sl Y k m) h
def cJ:List V->List V->Prop
 | [],[]=>True
 | v::l,v' :: l' => da v v' /\ cJ l l'
 | _,_=>False
def cJ.rfl:∀{l:List V},cJ l l
 | []=>trivial
 | _::_=>⟨da.rfl,cJ.rfl⟩
def cJ.mono:∀{l l' : List V} {E:Env} {us:List Value},cJ l l' -> RL E l us->RL E l' us
 | [],[],_,_,_,h=>h
 | [],_::_,_,_,h,_=>h.elim
 | _::_,[],_,_,h,_=>h.elim
 | v::l,v' :: l',_,[],_,h=>by simp[RL] at h
 | v :: l, v' :: l', _, u :: us, h, hr => by
  simp only[RL] at hr ⊢;exact⟨h.1 _ _ hr.1,cJ.mono h.2 hr.2⟩
def cJ.length:∀{l l' : List V},cJ l l' -> l.length=l'.length
 | [],[],_=>Eq.refl _
 | [],_::_,h=>h.elim
 | _::_,[],h=>h.elim
 | v::l,v' :: l',h=>by simp[cJ.length h.2]
def cJ.get:∀{l l' : List V},cJ l l' -> ∀(j:Nat) v',l'[j]?=U v' -> ∃v,l[j]?=U v/\da v v'
 | [],[],_,j,v',h=>by simp at h
 | [],_::_,h,_,_,_=>h.elim
 | _::_,[],h,_,_,_=>h.elim
 | v :: l, w :: l', h, j, v', hj => by
  cases j with
  | zero=>simp at hj;subst hj;exact⟨v,by simp,h.1⟩
  | succ j=>simp at hj;obtain⟨u,h1,h2⟩:=cJ.get h.2 j v' hj;exact⟨u,by simpa using h1,h2⟩
def cm:List (List V)->List (List V)->Prop
 | [],[]=>True
 | v::l,v' :: l' => cJ v v' /\ cm l l'
 | _,_=>False
def cm.rfl:∀{l:List (List V)},cm l l
 | []=>trivial
 | _::_=>⟨cJ.rfl,cm.rfl⟩
def cm.length:∀{l l' : List (List V)},cm l l' -> l.length=l'.length
 | [],[],_=>Eq.refl _
 | [],_::_,h=>h.elim
 | _::_,[],h=>h.elim
 | v::l,v' :: l',h=>by simp[cm.length h.2]
def cm.get:∀{l l' : List (List V)},cm l l' -> ∀(j:Nat) v',l'[j]?=U v' -> ∃v,l[j]?=U v/\cJ v v'
 | [],[],_,j,v',h=>by simp at h
 | [],_::_,h,_,_,_=>h.elim
 | _::_,[],h,_,_,_=>h.elim
 | v :: l, w :: l', h, j, v', hj => by
  cases j with
  | zero=>simp at hj;subst hj;exact⟨v,by simp,h.1⟩
  | succ j=>simp at hj;obtain⟨u,h1,h2⟩:=cm.get h.2 j v' hj;exact⟨u,by simpa using h1,h2⟩
variable{E:Env}{cs':List V}
def jc.eh{b:Nat}(h:cJ cs cs')(k:jc E b cs):jc E b cs' := by
 obtain⟨c,e,h1,h2,h3⟩:=k;refine⟨c,e,h1,by rw[<-h.length];exact h2,λj x hx=>?_⟩;obtain⟨v,hv,hle⟩:=h.get j x hx;obtain⟨u,k1,k2⟩:=h3 j v hv;exact⟨u,k1,hle _ _ k2⟩
structure bL(Z σ' : ag):Prop where
 box:∀b cs',σ'.box b=U cs' -> ∃cs,Z.box b=U cs/\cJ cs cs'
 aK:∀Y n,σ'.aK Y=U n->Z.aK Y=U n
 bY:∀b cs,σ'.bY b=U cs->Z.bY b=U cs
def bL.rfl{Z:ag}:bL Z Z:=⟨λ_ cs h=>⟨cs,h,cJ.rfl⟩,λ_ _ h=>h,λ_ _ h=>h⟩
def bL.ani{Z σ' : ag}(h:σ'.sub Z):bL Z σ' := ⟨λb cs k=>⟨cs,h.1 b cs k,cJ.rfl⟩,h.2.1,h.2.2⟩
def bq.eh{t t' : List V}{l l' : List (List V)}{Z σ' : ag}(h:cJ t t')(hl:cm l l')(ho:bL Z σ')(hk:K ⟨t',l',σ'⟩):bq ⟨t,l,Z⟩ K:=by
 intro E a hs;refine⟨E,_,rfl,Fr.refl E,⟨⟨λb cs bR=>?_,λY n hn=>hs.ok.aK Y n (ho.aK Y n hn),hs.ok.fresh,hs.ok.nt,λb cs hc=>hs.ok.bY b cs (ho.bY b cs hc)⟩,⟨λi cs bR=>?_,λi hi=>hs.cV.none i (by rw[hl.length];exact hi)⟩,hs.defers,h.mono hs.slot⟩,hk⟩
 .obtain⟨y6,h1,h2⟩:=ho.box b cs bR;obtain⟨k1,k2⟩:=hs.ok.box b y6 h1;exact⟨k1,k2.eh h2⟩
 .obtain⟨y6,h1,h2⟩:=hl.get i cs bR;obtain⟨b,k1,k2,k3⟩:=hs.cV.box i y6 h1;exact⟨b,k1,k2,k3.eh h2⟩
variable{as:List V}
def cg.eh{as':List V}{Z σ' : ag}(h:cg P f as' σ' R')(ha:cJ as as')(ho:bL Z σ'):cg P f as Z R' := by
 refine⟨h.1,λE vs h1 h2 h3=>h.2 E vs h1 ?_ (ha.mono h3)⟩;refine⟨λb cs bR=>?_,λY n hn=>h2.aK Y n (ho.aK Y n hn),h2.fresh,h2.nt,λb cs hc=>h2.bY b cs (ho.bY b cs hc)⟩;obtain⟨y6,k1,k2⟩:=ho.box b cs bR;obtain⟨k3,k4⟩:=h2.box b y6 k1;exact⟨k3,k4.eh k2⟩
end
section
variable {P:Program} {d:Option Nat} {r:List (AO × List Nat)} {K:St->Prop} {t:List V} {l:List (List V)} {Z:ag} {x y z:X} {st:St} {SN:List c8} {L:List (V × Bool × Nat × V × List Nat)} {ms:List Nat}
theorem ab2:ch P [] SN L K st=(p9 SN L/\K st):=rfl
def kD(P:Program)(d:Option Nat)(r:List (AO × List Nat))(SN:List c8)(L:List (V × Bool × Nat × V × List Nat))(K:St->Prop)(st:St)(v:V):Prop:=ch P r SN L K (st.put d v)
variable{v:V}
theorem ajS:kD P d r SN L K ⟨t,l,Z⟩ v=ch P r SN L K (St.put ⟨t,l,Z⟩ d v):=rfl
theorem ab1:ch P ((⟨d,.mv x,af⟩,ms)::r) SN L K st=ch P r SN L K (st.put d (ev st x)):=rfl
def yk(P:Program)(v a b:V)(d:Option Nat)(r:List (AO × List Nat))(SN:List c8)(L:List (V × Bool × Nat × V × List Nat))(K:St->Prop)(st:St):Prop:=match v with | .bool aa=>ch P r SN L K (st.put d a) | .bool ak=>ch P r SN L K (st.put d b) | _=>False
def ab5:ch P ((⟨d,.pick x y z,af⟩,ms)::r) SN L K st=yk P (ev st x) (ev st y) (ev st z) d r SN L K st:=by
 show(match ev st x with | .bool aa=>_ | .bool ak=>_ | _=>False)=_;unfold yk;cases ev st x<;>first | rfl | (rename_i b;cases b<;>rfl)
theorem aof{u:V}:yk P (.bool aa) u v d r SN L K st=ch P r SN L K (st.put d u):=rfl
theorem aod{u:V}:yk P (.bool ak) u v d r SN L K st=ch P r SN L K (st.put d v):=rfl
def aoe{b c:Bool}:yk P (.bool b) (.bool c) (.bool ak) d r SN L K st=ch P r SN L K (st.put d (.bool (b&&c))):=by cases b<;>simp[yk]
def aog{b c:Bool}:yk P (.bool b) (.bool aa) (.bool c) d r SN L K st=ch P r SN L K (st.put d (.bool (b||c))):=by cases b<;>simp[yk]
variable{c:List V}
theorem abB:ch P ((⟨d,.alloc c,af⟩,ms)::r) SN L K ⟨t,l,Z⟩=ch P r (SN++[(l++[c],Z)]) L K (St.put ⟨t,l++[c],Z⟩ d (.ptr (.aD l.length) 0)):=rfl
theorem abG{n:Nat}:ch P ((⟨d,.box n x,af⟩,ms)::r) SN L K ⟨t,l,Z⟩=((ev ⟨t,l,Z⟩ x).wd=U n/\ch P r (SN++[(l++[(ev ⟨t,l,Z⟩ x).cells],Z)]) L K (St.put ⟨t,l++[(ev ⟨t,l,Z⟩ x).cells],Z⟩ d (.ptr (.aD l.length) 0))):=rfl
theorem abH{n:Nat}:ch P ((⟨d,.uh n x,af⟩,ms)::r) SN L K ⟨t,l,Z⟩=((ev ⟨t,l,Z⟩ x).wd=U n/\cC (ev ⟨t,l,Z⟩ x).cells=aa/\ch P r (SN++[(l++[(ev ⟨t,l,Z⟩ x).cells],Z)]) L K (St.put ⟨t,l++[(ev ⟨t,l,Z⟩ x).cells],Z⟩ d (.ptr (.aD l.length) 0))):=rfl
variable{ps:List (Nat × Nat × X)}
theorem abJ:ch P ((⟨d,.build c ps,af⟩,ms)::r) SN L K st=pM ((nQ st c ps).map V.agg) (kD P d r SN L K st):=rfl
variable{k:Nat}
def abI{xs:List X}:ch P ((⟨d,.kf k xs,af⟩,ms)::r) SN L K st=MJ (lb st k xs) k (kD P d r SN L K st):=by
 show opt ((lb st k xs).map (V.sl .aV k)) _=_;cases lb st k xs<;>rfl
def Tw(P:Program)(a:V)(g:Bool)(n:Nat)(ms:List Nat)(d:Option Nat)(r:List (AO × List Nat))(SN:List c8)(L:List (V × Bool × Nat × V × List Nat))(K:St->Prop)(st:St):Option V->Prop
 | some v=>ch P r SN ((a,g,n,v,ms)::L) K (st.put d v)
 | none=>False
theorem akj{a v:V}{g:Bool}{n:Nat}:Tw P a g n ms d r SN L K st (U v)=ch P r SN ((a,g,n,v,ms)::L) K (st.put d v):=rfl
variable{g:Bool}
def abZ{n:Nat}:ch P ((⟨d,.load g n x,af⟩,ms)::r) SN L K st=Tw P (ev st x) g n ms d r SN L K st (kW st g n (ev st x)):=by
 show opt (kW st g n (ev st x)) _=_;cases kW st g n (ev st x)<;>rfl
def WQ(P:Program)(d:Option Nat)(r:List (AO × List Nat))(SN:List c8)(L:List (V × Bool × Nat × V × List Nat))(K:St->Prop):Option St->Prop
 | some st=>ch P r (SN++[(st.aD,st.out)]) L K (st.put d .any)
 | none=>False
theorem aqS:WQ P d r SN L K (U ⟨t,l,Z⟩)=ch P r (SN++[(l,Z)]) L K (St.put ⟨t,l,Z⟩ d .any):=rfl
def ab8{n:Nat}:ch P ((⟨d,.store n x y,af⟩,ms)::r) SN L K st=WQ P d r SN L K (dq st n (ev st y) (ev st x)):=by
 show(match dq st n (ev st y) (ev st x) with | some aJ => _ | none=>False)=_;cases dq st n (ev st y) (ev st x)<;>rfl
def ab3:ch P ((⟨d,.uX x,af⟩,ms)::r) SN L K st=Ab (ev st x) (kD P d r SN L K st):=by
 show(match ev st x with | .ptr p o=>_ | .elt c o=>_ | .fn (.func f) a b=>_ | _=>False)=_;unfold Ab;cases ev st x<;>first | rfl | (rename_i f _ _;cases f<;>rfl)
theorem abE{op:BinOp}:ch P ((⟨d,.ek op x y,af⟩,ms)::r) SN L K st=pM (ug op (ev st x) (ev st y)) (kD P d r SN L K st):=rfl
theorem abF{op:BinOp}:ch P ((⟨d,.mW op x y,af⟩,ms)::r) SN L K st=pM (yZ op (ev st x) (ev st y)) (kD P d r SN L K st):=rfl
theorem abD{n:Bool}:ch P ((⟨d,.uf n x y,af⟩,ms)::r) SN L K st=pM (xq n (ev st x) (ev st y)) (kD P d r SN L K st):=rfl
theorem abM:ch P ((⟨d,.cat x y,af⟩,ms)::r) SN L K st=FC (ev st x) (ev st y) (kD P d r SN L K st):=rfl
variable{ks:List Nat}
theorem abP{n:Bool}:ch P ((⟨d,.ir n ks x y,af⟩,ms)::r) SN L K st=pM (xp n ks (ev st x) (ev st y)) (kD P d r SN L K st):=rfl
def ab4:ch P ((⟨d,.not x,af⟩,ms)::r) SN L K st=D5 (ev st x) (kD P d r SN L K st):=by
 show(match ev st x with | .bool b=>_ | _=>False)=_;unfold D5;cases ev st x<;>rfl
def abX:ch P ((⟨d,.uS x,af⟩,ms)::r) SN L K st=DU (ev st x) (kD P d r SN L K st):=by
 show(match ev st x with | .sl _ _ l=>_ | .raw (.slice _ n _)=>_ | _=>False)=_;unfold DU;cases ev st x<;>rfl
def abY:ch P ((⟨d,.uT x,af⟩,ms)::r) SN L K st=DV (ev st x) (kD P d r SN L K st):=by
 show(match ev st x with | .aF s=>_ | _=>False)=_;unfold DV;cases ev st x<;>rfl
def abR{n:Nat}:ch P ((⟨d,.nW n x,af⟩,ms)::r) SN L K st=Bc n (ev st x) (kD P d r SN L K st):=by
 show(match ev st x with | .ptr p o=>_ | .elt c o=>_ | _=>False)=_;unfold Bc;cases ev st x<;>rfl
def abS{g:Bool}{n m:Nat}:ch P ((⟨d,.uz g m n x,af⟩,ms)::r) SN L K st=C1 g m n (ev st x) (kD P d r SN L K st):=by
 show(match ev st x with | .agg cs=>_ | _=>False)=_;unfold C1;cases ev st x<;>rfl
def abU:ch P ((⟨d,.r6 k x y,af⟩,ms)::r) SN L K st=zM k (ev st x) (ev st y) (kD P d r SN L K st):=by
 show(match ev st x with | .sl _ k' l=>_ | .raw (.slice (U ⟨b,o,af⟩) n _)=>_ | _=>False)=_;unfold zM;cases ev st x<;>rfl
def abV{m:Nat}:ch P ((⟨d,.q_ m k x y,af⟩,ms)::r) SN L K st=xU m k (ev st x) (ev st y) (kD P d r SN L K st):=by
 show(match ev st x with | .ptr p o=>_ | .elt c o=>_ | _=>False)=_;unfold xU;cases ev st x<;>rfl
def abW:ch P ((⟨d,.sZ x y,af⟩,ms)::r) SN L K st=BI (ev st x) (ev st y) (kD P d r SN L K st):=by
 show(match ev st x with | .aF s=>_ | _=>False)=_;unfold BI;cases ev st x<;>rfl
def G2(P:Program)(d:Option Nat)(r:List (AO × List Nat))(SN:List c8)(L:List (V × Bool × Nat × V × List Nat))(K:St->Prop)(t:List V)(l:List (List V))(v:V)(Z:ag):Prop:=ch P r (SN++[(l,Z)]) L K (St.put ⟨t,l,Z⟩ d v)
theorem ajQ{v:V}:G2 P d r SN L K t l v Z=ch P r (SN++[(l,Z)]) L K (St.put ⟨t,l,Z⟩ d v):=rfl
def bJ(P:Program)(f:FuncId)(as:List V)(Z:ag)(K:V->ag->Prop):Prop:=∃v σ',cg P f as Z (λv' rq => v' = v/\rq = σ')/\K v σ'
variable{as:List V}{f:FuncId}{σ':ag}
def bJ.intro{K:V->ag->Prop}(h:cg P f as Z λv' rq => v' = v/\rq = σ')(k:K v σ'):bJ P f as Z K:=⟨v,σ',h,k⟩
def cl{K:V->ag->Prop}(h:cg P f as Z λv' rq => v' = v/\rq = σ')(k:K v σ'):cg P f as Z K:=h.mono λ_ _ e=>e.1▸e.2▸k
theorem abK{xs:List X}:ch P ((⟨d,.call f xs,af⟩,ms)::r) SN L K ⟨t,l,Z⟩=(bK (cX ⟨t,l,Z⟩ xs)=aa/\bJ P f (cX ⟨t,l,Z⟩ xs) Z (G2 P d r SN L K t l)):=rfl
def Jc(P:Program)(v:V)(args:List V)(Z:ag)(K:V->ag->Prop):Prop:=match v with | .fn (.func f) a b=>bK (a++args++b)=aa/\bJ P f (a++args++b) Z K | _=>False
def abL{xs:List X}:ch P ((⟨d,.il x xs,af⟩,ms)::r) SN L K ⟨t,l,Z⟩=Jc P (ev ⟨t,l,Z⟩ x) (cX ⟨t,l,Z⟩ xs) Z (G2 P d r SN L K t l):=by
 show(match ev ⟨t,l,Z⟩ x with | .fn (.func f) a b=>_ | _=>False)=_;unfold Jc;cases ev ⟨t,l,Z⟩ x<;>first | rfl | (rename_i f _ _;cases f<;>rfl)
variable{args:List V}
theorem aak{u v:List V}{K:V->ag->Prop}:Jc P (.fn (.func f) u v) args Z K=(bK (u++args++v)=aa/\bJ P f (u++args++v) Z K):=rfl
theorem abC:ch P ((⟨d,.app k x y,af⟩,ms)::r) SN L K ⟨t,l,Z⟩=yE Z k (ev ⟨t,l,Z⟩ x) (ev ⟨t,l,Z⟩ y) (G2 P d r SN L K t l):=rfl
variable{m:List (List V)}{u:Tk}{Y:Nat}
def xf{n:List (List V)}{K:V->ag->Prop}(hb:m.length+n.length<=aO)(ht:Z.aK Y=U m.length)(hk:K (.sl (.tk Y) k (m++n)) (Z.aY Y (m.length+n.length))):
 yE Z k (.sl (.tk Y) k m) (.sl u k n) K:=⟨_,m,n,rfl,⟨u,rfl⟩,hb,ht,hk⟩
def Yv{n:List (List V)}{K:V->ag->Prop}(hb:m.length+n.length<=aO)(hk:K (.sl .no k (m++n)) Z):
 yE Z k (.sl .aV k m) (.sl u k n) K:=⟨_,m,n,rfl,⟨u,rfl⟩,hb,.inl hk⟩
def Yw{n:List (List V)}{K:V->ag->Prop}(hb:m.length+n.length<=aO)(ht:Z.aK Y=U m.length)(hk:K (.sl (.tk Y) k (m++n)) (Z.aY Y (m.length+n.length))):
 yE Z k (.sl .aV k m) (.sl u k n) K:=⟨_,m,n,rfl,⟨u,rfl⟩,hb,.inr ⟨Y,ht,hk⟩⟩
def abQ{i:Nat}:ch P ((⟨d,.ext x i,af⟩,ms)::r) SN L K st=za i (ev st x) (kD P d r SN L K st):=by
 show(match ev st x with | .bt vs=>_ | _=>False)=_;unfold za;cases ev st x<;>rfl
theorem ab0{f:Fn}{as bs:List X}:ch P ((⟨d,.jG f as bs,af⟩,ms)::r) SN L K st=ch P r SN L K (st.put d (.fn f (cX st as) (cX st bs))):=rfl
def abO{k:IntKind}:ch P ((⟨d,.pr k x,af⟩,ms)::r) SN L K st=CP k (ev st x) (kD P d r SN L K st):=by
 show(match ev st x with | .int _ n=>_ | _=>False)=_;unfold CP;cases ev st x<;>rfl
theorem abN:ch P ((⟨d,.sI x,af⟩,ms)::r) SN L K st=(∃t s,ev st x = .sl t 1 (de s)/\kD P d r SN L K st (.aF s)):=rfl
def gD(P:Program)(v:V)(w:Bool)(d:Option Nat)(op:aI)(ms:List Nat)(r:List (AO × List Nat))(SN:List c8)(L:List (V × Bool × Nat × V × List Nat))(K:St->Prop)(st:St):Prop :=
 match v with
 | .bool b=>if b=w then ch P ((⟨d,op,af⟩,ms)::r) SN L K st else ch P r (if op.bg then SN++[(st.aD,st.out)] else SN) L K (st.put d (.bt []))
 | .bt []=>ch P r (if op.bg then SN++[(st.aD,st.out)] else SN) L K (st.put d (.bt []))
 | _=>False
def abT{g:Nat}{w:Bool}{op:aI}:ch P ((⟨d,op,U (g,w)⟩,ms)::r) SN L K ⟨t,l,Z⟩=gD P (t.getD g .any) w d op ms r SN L K ⟨t,l,Z⟩:=by
 simp only[ch,gD,ev];generalize t.getD g .any=v;cases v<;>first | rfl | (rename_i m;cases m<;>rfl)
theorem ahz{w:Bool}{op:aI}:gD P (.bt []) w d op ms r SN L K ⟨t,l,Z⟩=ch P r (if op.bg=aa then SN++[(l,Z)] else SN) L K (St.put ⟨t,l,Z⟩ d (.bt [])):=rfl
theorem ahy{op:aI}:gD P (.bool aa) aa d op ms r SN L K st=ch P ((⟨d,op,af⟩,ms)::r) SN L K st:=rfl
theorem ahv{op:aI}:gD P (.bool ak) ak d op ms r SN L K st=ch P ((⟨d,op,af⟩,ms)::r) SN L K st:=rfl
theorem ahx{op:aI}:gD P (.bool aa) ak d op ms r SN L K ⟨t,l,Z⟩=ch P r (if op.bg=aa then SN++[(l,Z)] else SN) L K (St.put ⟨t,l,Z⟩ d (.bt [])):=rfl
theorem ahw{op:aI}:gD P (.bool ak) aa d op ms r SN L K ⟨t,l,Z⟩=ch P r (if op.bg=aa then SN++[(l,Z)] else SN) L K (St.put ⟨t,l,Z⟩ d (.bt [])):=rfl
theorem aaL:p9 SN []=True:=rfl
theorem aaK{n:Nat}{a:V}:p9 SN ((a,g,n,v,ms)::L)=(y3 SN g n a v ms/\p9 SN L):=rfl
theorem aaJ{n:Nat}{a:V}:y3 SN g n a v []=True:=rfl
theorem aaI{g:Bool}{n m:Nat}{a v:V}:y3 SN g n a v (m::ms)=(re (SN.getD m B3) g n a=U v/\y3 SN g n a v ms):=rfl
theorem aqy{s u:c8}:(s::SN).getD 0 u=s:=rfl
theorem aqz{s u:c8}{n:Nat}:(s::SN).getD (n+1) u=SN.getD n u:=rfl
theorem aqe{s:c8}:([]:List c8)++[s]=[s]:=rfl
theorem aqf{s u:c8}:(s::SN)++[u]=s::(SN++[u]):=rfl
theorem akm{g:Bool}{n i o:Nat}:re (l,Z) g n (.ptr (.aD i) o)=zT l[i]? g n o:=rfl
theorem akn{g:Bool}{n i o:Nat}:re (l,Z) g n (.ptr (.out i) o)=zT (Z.box i) g n o:=rfl
variable{i o:Nat}
theorem akl{n:Nat}:re (l,Z) g n (.ptr (.jT i) o)=zT (Z.bY i) g n o:=rfl
variable{cs:List V}
theorem akk{n:Nat}{s:c8}:re s g n (.elt cs o)=bF g n (cs.drop o):=rfl
def FM(P:Program)(l:List (List V))(Z:ag)(o:List (AO × List Nat))(K:St->Prop):Option (List V)->Prop
 | some t=>ch P o [(l,Z)] [] K ⟨t,l,Z⟩
 | none=>False
variable{Q:Exit->St->Prop}
def arZ{o:List (AO × List Nat)}{nv:List Nat}:vc P (.FL nv o) Q ⟨t,l,Z⟩=FM P l Z o (Q .normal) (sE nv t):=by
 simp only[vc];cases sE nv t with
 | none=>simp[FM]
 | some t' => simp[FM]
theorem ace{K:St->Prop}{o:List (AO × List Nat)}:FM P l Z o K (U t)=ch P o [(l,Z)] [] K ⟨t,l,Z⟩:=rfl
theorem Yt:sE [] t=U t:=rfl
def I3(b:Bool)(x:Option (List V)):Option (List V):=if b then x else af
def Ys{d:Nat}{ds:List Nat}:sE (d::ds) t=I3 (decide (d<t.length)) (sE ds (t.set d .any)):=by
 simp only[sE,I3,ca]
theorem Yu{y:Option (List V)}:I3 aa y=y:=rfl
theorem ar1{o:List (AO × List Nat)}{h:HI}:vc P (.hole o h) Q ⟨t,l,Z⟩=ch P o [(l,Z)] [] (EO h (Q .normal)) ⟨t,l,Z⟩:=rfl
theorem aiX{h:HI}:EO h K ⟨t,l,Z⟩=Iz h K ⟨qw h t,l,Z⟩:=rfl
theorem asC{k:Nat}{a b c e f:X}{d9 d10 dF:Nat}:qw ⟨k,a,b,c,e,f,af,d9,d10,dF⟩ t=(t.set d9 .any).set d10 .any:=rfl
variable{off:Nat}
theorem asD{a b c e f:X}{d9 d10 dF:Nat}:qw ⟨k,a,b,c,e,f,U off,d9,d10,dF⟩ t=((t.set d9 .any).set d10 .any).set dF .any:=rfl
def SD{h:HI}{t' : Tk}{j:IntKind}{p:V}{aJ : St}(es:ev ⟨t,l,Z⟩ h.s = .sl (.tk Y) h.k m)(ez:ev ⟨t,l,Z⟩ h.z = .sl t' h.k [c])
 (el:ev ⟨t,l,Z⟩ h.len = .int j m.length) (hb:m.length+1<=aO) (ht:Z.aK Y=U m.length) (hx:(ev ⟨t,l,Z⟩ h.x).wd=U h.k/\cC (ev ⟨t,l,Z⟩ h.x).cells=aa/\bK (ev ⟨t,l,Z⟩ h.x).cells=aa)
 (bR:bx (ev ⟨t,l,Z⟩ h.x).cells=cs) (hd:h.d9<t.length/\h.d10<t.length/\(h.fo.isSome=aa->h.dF<t.length)) (hp:C0 h.fo (ev ⟨t,l,Z⟩ h.addr)=U p)
 (ec:dq ⟨t,l,Z⟩ 1 (.sl (.tk Y) h.k (m++[cs])) p=U aJ) (hk:K ⟨aJ.t,aJ.aD,aJ.out.aY Y (m.length+1)⟩):Iz h K ⟨t,l,Z⟩ :=
 ⟨Y,m,c,t',j,es,ez,el,hb,ht,hx.1,hx.2.1,hx.2.2,hd.1,hd.2.1,hd.2.2,p,hp,aJ,by rw[bR];exact ec,hk⟩
end
section
variable {x y z:X} {n m:Nat} {c:List V} {g:Bool} {bo:BinOp} {ks:List Nat} {xs ys:List X} {ps:List (Nat × Nat × X)} {fn:Fn} {ik:IntKind}
theorem acQ:(aI.pick x y z).bg=false:=rfl
theorem ack:(aI.alloc c).bg=true:=rfl
theorem acs:(aI.uh n x).bg=true:=rfl
theorem acr:(aI.box n x).bg=true:=rfl
theorem acv:(aI.build c ps).bg=false:=rfl
theorem acu:(aI.kf n xs).bg=false:=rfl
theorem acK:(aI.load g n x).bg=false:=rfl
theorem acR:(aI.store n x y).bg=true:=rfl
theorem acN:(aI.uX x).bg=false:=rfl
theorem acp:(aI.ek bo x y).bg=false:=rfl
theorem acq:(aI.mW bo x y).bg=false:=rfl
theorem aco:(aI.uf g x y).bg=false:=rfl
theorem acy:(aI.cat x y).bg=false:=rfl
theorem acB:(aI.ir g ks x y).bg=false:=rfl
theorem acO:(aI.not x).bg=false:=rfl
theorem acI:(aI.uS x).bg=false:=rfl
theorem acJ:(aI.uT x).bg=false:=rfl
theorem acD:(aI.nW n x).bg=false:=rfl
theorem acE:(aI.uz g n m x).bg=false:=rfl
theorem acF:(aI.r6 n x y).bg=false:=rfl
theorem acG{m k:Nat}:(aI.q_ m k x y).bg=false:=rfl
theorem acH:(aI.sZ x y).bg=false:=rfl
theorem acw:(aI.call n xs).bg=true:=rfl
theorem acx:(aI.il x xs).bg=true:=rfl
theorem acm:(aI.app n x y).bg=true:=rfl
theorem acn:(aI.mu x y).bg=true:=rfl
theorem acC:(aI.ext x n).bg=false:=rfl
theorem acL:(aI.jG fn xs ys).bg=false:=rfl
theorem acA:(aI.pr ik x).bg=false:=rfl
theorem acz:(aI.sI x).bg=false:=rfl
theorem acM:(aI.mv x).bg=false:=rfl
end
section
variable {k:IntKind} {a b:Int} {c e:List V} {n m:Nat} {x y:V} {u v:List UInt8} {p q:Bool} {l:List (List V)} {Y:Tk}
def GW:zN k k=true:=by cases k<;>rfl
def ZG{op:BinOp}:ug op (.int k a) (.int k b)=hD k a b op:=by simp[ug,GW]
theorem ajg:hD k a b .add=U (.int k (k.wrap (a+b))):=rfl
theorem ajo:hD k a b .sub=U (.int k (k.wrap (a - b))):=rfl
theorem ajm:hD k a b .mul=U (.int k (k.wrap (a*b))):=rfl
theorem ajh:hD k a b .eql=U (.bool (decide (a=b))):=rfl
theorem ajn:hD k a b .neq=U (.bool (!decide (a=b))):=rfl
theorem ajl:hD k a b .lss=U (.bool (decide (a<b))):=rfl
theorem ajk:hD k a b .leq=U (.bool (decide (a<=b))):=rfl
theorem ajj:hD k a b .gtr=U (.bool (decide (b<a))):=rfl
theorem aji:hD k a b .geq=U (.bool (decide (b<=a))):=rfl
theorem ZH{op:BinOp}:yZ op (.aF u) (.aF v)=wH u v op:=rfl
theorem aq9:wH u v .eql=U (.bool (decide (u=v))):=rfl
theorem arc:wH u v .neq=U (.bool (!decide (u=v))):=rfl
theorem arb:wH u v .lss=U (.bool (Op.bytesLess u v)):=rfl
theorem ara:wH u v .leq=U (.bool (Op.bytesLess u v||decide (u=v))):=rfl
theorem aq':wH u v .gtr=U (.bool (!(Op.bytesLess u v||decide (u=v)))):=rfl
theorem aq_:wH u v .geq=U (.bool (!Op.bytesLess u v)):=rfl
theorem ac2:xq ak (.bool p) (.bool q)=U (.bool (decide (p=q))):=rfl
theorem ac3:xq aa (.bool p) (.bool q)=U (.bool (!decide (p=q))):=rfl
def JJ(neg:Bool):Option Bool->Option V | some b=>U (.bool (if neg then !b else b)) | none=>af
theorem ac5:JJ ak (U p)=U (.bool p):=rfl
theorem ac6:JJ aa (U p)=U (.bool (!p)):=rfl
variable{ks:List Nat}
def ac1{neg:Bool}:xp neg ks (.agg c) (.agg e)=JJ neg (fA ks c e):=by
 simp only[xp];cases fA ks c e<;>rfl
def andM(b:Bool):Option Bool->Option Bool | some c=>U (b&&c) | none=>af
theorem rD:andM p (U q)=U (p&&q):=rfl
theorem JH:fA [] [] []=U true:=rfl
def uu:fA (1::ks) (.int k a::c) (.int k b::e)=andM (decide (a=b)) (fA ks c e):=by
 simp only[fA,GW,cD];cases fA ks c e<;>rfl
def JI:fA (2::ks) (.aF u::c) (.aF v::e)=andM (decide (u=v)) (fA ks c e):=by
 simp only[fA];cases fA ks c e<;>rfl
def ac4{ks:List Nat}:fA (0::ks) (.bool p::c) (.bool q::e)=andM (decide (p=q)) (fA ks c e):=by
 simp only[fA];cases fA ks c e<;>rfl
theorem asp:(V.agg c).wd=U c.length:=rfl
theorem ast:(V.int k a).wd=U 1:=rfl
theorem asq:(V.bool p).wd=U 1:=rfl
theorem asx:(V.aF u).wd=U 1:=rfl
theorem asw:(V.sl Y n l).wd=U 1:=rfl
theorem asv{o:Pl}:(V.ptr o n).wd=U 1:=rfl
theorem asr:(V.elt c n).wd=U 1:=rfl
theorem ass{f:Fn}:(V.fn f c e).wd=U 1:=rfl
theorem asu:V.fV.wd=U 1:=rfl
theorem aaw:(V.agg c).cells=c:=rfl
theorem aaA:(V.int k a).cells=[.int k a]:=rfl
theorem aax:(V.bool p).cells=[.bool p]:=rfl
theorem aaG:(V.aF u).cells=[.aF u]:=rfl
theorem aaF:(V.sl Y n l).cells=[.sl Y n l]:=rfl
theorem aaE{o:Pl}:(V.ptr o n).cells=[.ptr o n]:=rfl
theorem aay:(V.elt c n).cells=[.elt c n]:=rfl
theorem aaz{f:Fn}:(V.fn f c e).cells=[.fn f c e]:=rfl
theorem aaB:V.fV.cells=[.fV]:=rfl
theorem anp:cC []=true:=rfl
theorem ano:cC (x::c)=(x.one&&cC c):=rfl
theorem ME:(V.int k a).one=true:=rfl
theorem anq:(V.bool p).one=true:=rfl
theorem UG:(V.aF u).one=true:=rfl
theorem anw:(V.sl Y n l).one=true:=rfl
theorem anv{o:Pl}:(V.ptr o n).one=true:=rfl
theorem anr:(V.elt c n).one=true:=rfl
theorem ant{f:Fn}:(V.fn f c e).one=true:=rfl
theorem anu:V.fV.one=true:=rfl
theorem amf:bK []=true:=rfl
theorem ame:bK (x::c)=(x.cI&&bK c):=rfl
theorem amq:(V.int k a).cI=true:=rfl
theorem ami:(V.bool p).cI=true:=rfl
theorem amw:(V.aF u).cI=true:=rfl
theorem amv:(V.sl Y n l).cI=true:=rfl
theorem amh:V.any.cI=true:=rfl
theorem amt:(V.ptr (.out m) n).cI=true:=rfl
theorem amm:(V.ptr (.jT m) n).cI=true:=rfl
theorem amj:(V.elt c n).cI=true:=rfl
theorem amr:V.fV.cI=true:=rfl
theorem amg:(V.agg c).cI=bK c:=rfl
theorem amx:(V.bt c).cI=bK c:=rfl
theorem amk{f:Fn}:(V.fn f c e).cI=(bK c&&bK e):=rfl
theorem amu{w:Value}:(V.raw w).cI=true:=rfl
theorem ade:(V.int k a).erase = .int k a:=rfl
theorem ac':(V.bool p).erase = .bool p:=rfl
theorem adi:(V.aF u).erase = .aF u:=rfl
theorem adh:(V.sl Y n l).erase = .sl .no n l:=rfl
theorem ac_:V.any.erase = .any:=rfl
theorem adg{o:Pl}:(V.ptr o n).erase = .ptr o n:=rfl
theorem ada:(V.elt c n).erase = .elt c n:=rfl
theorem adf:V.fV.erase = .fV:=rfl
theorem ac9:(V.agg c).erase = .agg (bx c):=rfl
theorem adj:(V.bt c).erase = .bt (bx c):=rfl
theorem adb{f:Fn}:(V.fn f c e).erase = .fn f c e:=rfl
theorem ac8:bx []=[]:=rfl
theorem ac7:bx (x::c)=x.erase::bx c:=rfl
def aie:bZ 0 c=true:=by cases c<;>rfl
theorem aid:bZ (n+1) (x::c)=bZ n c:=rfl
def me:over c []=c:=by cases c<;>rfl
theorem o8:over (x::c) (y::e)=y::over c e:=rfl
def lR:setAt c 0 e=over c e:=by cases c<;>rfl
theorem jo:setAt (x::c) (n+1) e=x::setAt c n e:=rfl
theorem akB:([]:List V).length=0:=rfl
theorem akA:(x::c).length=c.length+1:=rfl
theorem ahK:(c::l)[0]?=U c:=rfl
def ahN:(c::l)[n+1]?=l[n]?:=by simp
theorem alk:(c::l).set 0 e=e::l:=rfl
theorem alm:(c::l).set (n+1) e=c::l.set n e:=rfl
theorem Yz : ([]:List (List V))++l=l:=rfl
theorem Yx : (c::l)++[e]=c::(l++[e]):=rfl
theorem arP:([]:List V)++c=c:=rfl
theorem arO:(x::c)++e=x::(c++e):=rfl
theorem ak6:([]:List (List V)).length=0:=rfl
theorem ak5:(c::l).length=l.length+1:=rfl
def qK{a:Nat}:(a=a)=True:=by simp
def eqI{a:Int}:(a=a)=True:=by simp
variable{α:Type}
def aqP{x y:α}:(U x=U y)=(x=y):=by simp
def ans:(1=1)=True:=by simp
def true_eq:(aa=aa)=True:=by simp
def adD : (ak=aa)=False:=by simp
theorem arG:(aa&&p)=p:=rfl
theorem adO:(ak&&p)=false:=rfl
def Yp:(p&&aa)=p:=by simp
def Yo:(p&&ak)=false:=by simp
theorem arH:(aa||p)=true:=rfl
theorem adP:(ak||p)=p:=rfl
def anG:(p||false)=p:=by simp
theorem amA:(!aa)=false:=rfl
theorem amz:(!ak)=true:=rfl
def ajr{x y:α}:(if True then x else y)=x:=aE trivial
def ajq{x y:α}:(if False then x else y)=y:=aC λh=>h
def ajt{x y:Prop}:(if True then x else y)=x:=aE trivial
def ajs{x y:Prop}:(if False then x else y)=y:=aC λh=>h
def arq{q:Prop}:(True/\q)=q:=by simp
def Yq{q:Prop}:(q/\True)=q:=by simp
theorem rlZ{x:V}:au 0 x=[]:=rfl
theorem rlS{x:V}:au (n+1) x=x::au n x:=rfl
def akX{v:V}:cJ (v::c) (.any::e)=cJ c e:=by simp[cJ,da.any]
def ak3{v:V}:cJ (v::c) (v::e)=cJ c e:=by simp[cJ,da.rfl]
def E0:Env:=⟨default,λ_=>.const,λ_=>af,λ_=>af⟩
def ar9:da (.int k a) (.int k b)=(a=b):=by
 refine propext ⟨λh=>?_,λh=>h▸da.rfl⟩
 have:=h E0 (.int k a) (by simp[R])
 simpa [R] using this
def ar8:da (.bool p) (.bool q)=(p=q):=by
 refine propext ⟨λh=>?_,λh=>h▸da.rfl⟩
 have:=h E0 (.bool p) (by simp[R])
 simpa [R] using this
def ar_:da (.aF u) (.aF v)=(u=v):=by
 refine propext ⟨λh=>?_,λh=>h▸da.rfl⟩
 have:=h E0 (.string ⟨u.toArray⟩) (by simp[R])
 simpa [R] using this
def akZ:cJ (.int k a::c) (.int k b::e)=(a=b/\cJ c e):=by simp[cJ,ar9]
def akY:cJ (.bool p::c) (.bool q::e)=(p=q/\cJ c e):=by simp[cJ,ar8]
def ak4:cJ (.aF u::c) (.aF v::e)=(u=v/\cJ c e):=by simp[cJ,ar_]
def ak1:cJ (.sl Y n l::c) (.sl .no n l::e)=cJ c e:=by simp[cJ,da.no]
theorem ak8:cm [] []=True:=rfl
theorem ak7{c e:List V}{l m:List (List V)}:cm (c::l) (e::m)=(cJ c e/\cm l m):=rfl
def ak9{l:List (List V)}:cm l l=True:=by simp[cm.rfl]
variable{Z:ag}
def ank:bL Z Z=True:=by simp[bL.rfl]
theorem ak0:cJ [] []=True:=rfl
end
variable{l:List (List V)}{t:List V}{ι:Type}{Z:ag}
def bq.enter{I:ι->St}(j:ι)(h:cJ t (I j).t)(hl:cm l (I j).aD)(ho:bL Z (I j).out):bq ⟨t,l,Z⟩ λaJ => ∃i,aJ = I i :=
 bq.eh h hl ho ⟨j,rfl⟩
def bq.again{I:ι->St}{μ:ι->Nat}{n:Nat}(j:ι)(hm:μ j<n)(h:cJ t (I j).t)(hl:cm l (I j).aD)(ho:bL Z (I j).out):
 bq ⟨t,l,Z⟩ λaJ => ∃i,aJ = I i/\μ i<n:=bq.eh h hl ho ⟨j,rfl,hm⟩
def wrap_i64{x:Int}(h1 : -9223372036854775808<=x:=by omega)(h2:x<=9223372036854775807:=by omega):IntKind.i64.wrap x=x:=IntWalk.i64_in x ⟨h1,h2⟩
variable{b:Nat}{cs:List V}
def ag.yq(h:Z.box b=U cs):Z.set b cs=Z:=by
 cases Z;simp only[ag.set,ag.mk.injEq,ij];funext x;split
 .rename_i hx;rw[hx];exact h.symm
 .rfl
variable{ds:List V}
def ag.set_set:(Z.set b cs).set b ds=Z.set b ds:=by
 simp only[ag.set,ag.mk.injEq,ij];funext x;split<;>rfl
def ag.set_comm{c:Nat}(h:b≠c):(Z.set b cs).set c ds=(Z.set c ds).set b cs:=by
 simp only[ag.set,ag.mk.injEq,ij];funext x
 by_cases h1:x=c
 .subst h1;rw[aE rfl,aC (λh2=>h h2.symm),aE rfl]
 .rw[aC h1,aC h1]
def jg(Y n:Nat)(v v' : V):Prop:=∀E E',E.le E' -> E'.aK Y=U n->∀u,R E v u->R E' v' u
variable{v:V}{Y:Nat}
def jg.same{n:Nat}:jg Y n v v:=λ_ _ h _ _ hr=>hr.mono _ h
def jg.le{n:Nat}{v':V}(h:da v v'):jg Y n v v' := λ_ _ hl _ _ hr=>(h _ _ hr).mono _ hl
variable{k:Nat}{m:List (List V)}
def jg.tok{n:Nat}(h:m.length=n):jg Y n (.sl .aV k m) (.sl (.tk Y) k m):=λE E' hl ht u hr=>by
 have ck := hr.mono _ hl;simp only[R] at ck ⊢;obtain⟨a,cap,h1,h2,h3,h4⟩:=ck;exact⟨a,cap,h1,h2,h3,n,ht,by omega,λ_=>.inl h4⟩
def ey(Y n:Nat):List V->List V->Prop
 | [],[]=>True
 | v::l,v' :: l' => jg Y n v v' /\ ey Y n l l'
 | _,_=>False
def ey.rfl{n:Nat}:∀{l:List V},ey Y n l l
 | []=>trivial
 | _::_=>⟨jg.same,ey.rfl⟩
variable{E:Env}
def ey.mono{n:Nat}{E':Env}(hl:E.le E')(ht:E'.aK Y=U n):∀{l l' : List V} {us:List Value},ey Y n l l' -> RL E l us->RL E' l' us
 | [],[],[],_,_=>by simp[RL]
 | [],[],_::_,_,h=>by simp[RL] at h
 | [],_::_,_,h,_=>h.elim
 | _::_,[],_,h,_=>h.elim
 | v::l,v' :: l',[],_,h=>by simp[RL] at h
 | v :: l, v' :: l', u :: us, h, hr => by
  simp only[RL] at hr ⊢;exact⟨h.1 _ _ hl ht _ hr.1,ey.mono hl ht h.2 hr.2⟩
def ey.length{n:Nat}:∀{l l' : List V},ey Y n l l' -> l.length=l'.length
 | [],[],_=>Eq.refl _
 | [],_::_,h=>h.elim
 | _::_,[],h=>h.elim
 | v::l,v' :: l',h=>by simp[ey.length h.2]
def ey.get{n:Nat}:∀{l l' : List V},ey Y n l l' -> ∀(j:Nat) v',l'[j]?=U v' -> ∃v,l[j]?=U v/\jg Y n v v'
 | [],[],_,j,v',h=>by simp at h
 | [],_::_,h,_,_,_=>h.elim
 | _::_,[],h,_,_,_=>h.elim
 | v :: l, w :: l', h, j, v', hj => by
  cases j with
  | zero=>simp at hj;subst hj;exact⟨v,by simp,h.1⟩
  | succ j=>simp at hj;obtain⟨u,h1,h2⟩:=ey.get h.2 j v' hj;exact⟨u,by simpa using h1,h2⟩
variable{cs':List V}
def jc.tok{n:Nat}{E':Env}(hl:E.le E')(ht:E'.aK Y=U n)(hw:E'.w=E.w)(h:ey Y n cs cs')(k:jc E b cs):jc E' b cs' := by
 obtain⟨c,e,h1,h2,h3⟩:=k;refine⟨c,e,by rw[hw];exact h1,by rw[<-h.length];exact h2,λj x hx=>?_⟩;obtain⟨v,hv,hle⟩:=h.get j x hx;obtain⟨u,k1,k2⟩:=h3 j v hv;exact⟨u,k1,hle _ _ hl ht _ k2⟩
structure p8(Y n:Nat)(Z σ' : ag):Prop where
 box:∀b cs',σ'.box b=U cs' -> ∃cs,Z.box b=U cs/\ey Y n cs cs'
 aK:∀υ m,σ'.aK υ=U m->Z.aK υ=U m
 bY:∀b cs,σ'.bY b=U cs->Z.bY b=U cs
def p8.rfl{n:Nat}:p8 Y n Z Z:=⟨λ_ cs h=>⟨cs,h,ey.rfl⟩,λ_ _ h=>h,λ_ _ h=>h⟩
def p8.set{n:Nat}(h:Z.box b=U cs)(k:ey Y n cs cs'):p8 Y n Z (Z.set b cs'):=by
 refine⟨λc ds jW=>?_,λ_ _ h=>h,λ_ _ h=>h⟩;simp only[ag.set] at jW;split at jW
 .rename_i hc;subst hc;simp only[aZ] at jW;subst jW;exact⟨cs,h,k⟩
 .exact⟨ds,jW,ey.rfl⟩
variable{K:St->Prop}
def bq.tok(n:Nat)(h:∀Y,Z.aK Y=af->∃t' l' σ',ey Y n t t' /\ l.length=l'.length/\(∀(i:Nat) c',l'[i]?=U c' -> ∃c,l[i]?=U c/\ey Y n c c')/\p8 Y n Z σ' /\ K ⟨t',l',σ'.aY Y n⟩):
 bq ⟨t,l,Z⟩ K:=by
 intro E a hs;obtain⟨N,hN⟩:=hs.ok.nt;have KL:Z.aK N=none:=by
  cases hq:Z.aK N with
  | none=>rfl
  | some m=>have:=hs.ok.aK N m hq;rw[hN N (bP _)] at this;simp at this
 obtain⟨t',l',σ',h1,h2,h3,h4,h5⟩:=h N KL
 let E' : Env:={E with aK:=λt=>if t=N then U n else E.aK t}
 have ht:E'.aK N=U n:=by simp[E']
 have bf:Fr E E' := xw (E' := E') hs.ok.fresh (Ext.refl _) (λ_ _=>rfl) (λt m hm=>by
  simp only[E'];split
  .rename_i hq;subst hq;rw[hN t (bP _)] at hm;simp at hm
  .exact hm)
 have hle:E.le E' := bf.le λ_ _ h=>h
 refine⟨E',_,rfl,bf,⟨⟨λb cs bR=>?_,λY m hm=>?_,hs.ok.fresh,?_,λb cs hc=>dZ.mono _ bf.nl (hs.ok.bY b cs (h4.bY b cs hc))⟩,⟨λi cs bR=>?_,λi hi=>hs.cV.none i (by rw[h2];exact hi)⟩,hs.defers,h1.mono hle ht hs.slot⟩,h5⟩
 .obtain⟨y6,q1,q2⟩:=h4.box b cs bR;obtain⟨k1,k2⟩:=hs.ok.box b y6 q1;exact⟨k1,k2.tok bf.nl ht rfl q2⟩
 .simp only[ag.aY] at hm;simp only[E'];split at hm
  .rename_i hq;rw[aE hq];exact hm
  .rename_i hq;rw[aC hq];exact hs.ok.aK Y m (h4.aK Y m hm)
 .exact⟨N+1,λt qi => by simp only[E'];rw[aC (by omega)];exact hN t (by omega)⟩
 .obtain⟨c,q1,q2⟩:=h3 i cs bR;obtain⟨b,k1,k2,k3⟩:=hs.cV.box i c q1;exact⟨b,k1,k2,k3.tok hle ht rfl q2⟩
def am:=ae @ag.set_set <| ae @arZ <| ae @ace <| ae @Yt <| ae @Ys <| ae @Yu <| ae @abH <| ae @acs <| ae (ae (ae (ae (ae (ae (ae @ab2 @ajS) (ae @ab1 (ae @ab5 @aof))) (ae (ae @aod @aoe) (ae @aog (ae @abB @abG)))) (ae (ae (ae @abJ @abI) (ae @akj (ae @abZ @aqS))) (ae (ae @ab8 (ae @ab3 @abE)) (ae @abF (ae @abD @abM))))) (ae (ae (ae (ae @abP @ab4) (ae @abX (ae @abY @abR))) (ae (ae @abS (ae @abU @abW)) (ae @ajQ (ae @abK @abL)))) (ae (ae (ae @aak @abC) (ae @abQ (ae @ab0 @abO))) (ae (ae @abT (ae (ae @ahz @ahy) @ahv)) (ae @ahx (ae @ahw @aaL)))))) (ae (ae (ae (ae (ae @aaK @aaJ) (ae @aaI (ae @aqy @aqz))) (ae (ae @aqe @aqf) (ae @akm (ae @akn (ae @akl @akk))))) (ae (ae (ae @ar1 @aiX) (ae @asC (ae @asD @acQ))) (ae (ae @ack (ae @acr @acv)) (ae @acu (ae @acK @acR))))) (ae (ae (ae (ae @acN @acp) (ae @acq (ae @aco @acy))) (ae (ae @acB (ae @acO @acI)) (ae @acJ (ae @acD @acE)))) (ae (ae (ae @acF @acH) (ae @acw (ae @acx @acm))) (ae (ae @acn (ae @acC @acL)) (ae @acA (ae @acz @acM))))))) <| ae @akZ <| ae @akY <| ae @ak4 <| ae @ak1 <| ae @ak8 <| ae @ak7 <| ae @ak9 <| ae @ank <| ae @akX <| ae @ak3 <| ae @ak0 <| ae @jy <| ae @wZ <| ae @qK <| ae @eqI <| ae @ajt <| ae @ajs <| (ae (ae (ae (ae (ae (ae (ae @ar6 (ae @ar2 @ar7)) (ae (ae @arY @ar5) (ae @arW @arU))) (ae (ae (ae @arT @arV) (ae @ar0 @ar3)) (ae (ae @Y' @Y_) (ae @Za @ZK)))) (ae (ae (ae @ZL (ae @ZJ @alh)) (ae (ae @alj @ali) (ae @apt @aps))) (ae (ae (ae @anE @ap4) (ae @aa6 @ap3)) (ae (ae @ap2 @ap1) (ae @ann @anm))))) (ae (ae (ae (ae @anl (ae @alG @ado)) (ae (ae @adm @adq) (ae @adp @ahM))) (ae (ae (ae @ahL @aqx) (ae @aqv @aoP)) (ae (ae @aoO @am6) (ae @ajT @anB)))) (ae (ae (ae (ae @am5 @am_) (ae @aoj @aoh)) (ae (ae @aoi @aok) (ae @amC @amJ))) (ae (ae (ae @amD @amK) (ae @amM @anC)) (ae (ae @amL @am3) (ae @anD @anb)))))) (ae (ae (ae (ae (ae @am7 (ae @al7 @al5)) (ae (ae @al6 @amH) (ae @amI @amG))) (ae (ae (ae @amP @aao) (ae @amS @am8)) (ae (ae @amy @am1) (ae @aky @am2)))) (ae (ae (ae @akz (ae @amV @ad9)) (ae (ae @ad8 @amW) (ae @ad_ @amY))) (ae (ae (ae @am0 @amN) (ae @ajR @amO)) (ae (ae @aal @amE) (ae @amU @adx))))) (ae (ae (ae (ae @adw (ae @am4 @amR)) (ae (ae @abz @amX) (ae (ae @ahE @ahD) @ahA))) (ae (ae (ae @ahC @ahB) (ae @akq (ae @akr @akp))) (ae (ae @ako @akh) (ae @x9 @aki)))) (ae (ae (ae (ae @ark @N2) (ae @alF @ach)) (ae (ae @acg @aqV) (ae @aqT @aqW))) (ae (ae (ae @aqU @gR) (ae (ae (ae @aqs @aqq) @aqp) @aqw)) (ae (ae @NL @ZO) (ae @ZN @ZI))))))) (ae (ae (ae (ae (ae (ae @apM (ae @apL @apD)) (ae (ae @apz @ZG) (ae @ajg @ajo))) (ae (ae (ae @ajm @ajh) (ae @ajn @ajl)) (ae (ae @ajk @ajj) (ae @aji @ZH)))) (ae (ae (ae @aq9 (ae @arc @arb)) (ae (ae @ara @aq') (ae @aq_ @ac2))) (ae (ae (ae @ac3 @ac5) (ae @ac6 @ac1)) (ae (ae @rD @JH) (ae @uu @JI))))) (ae (ae (ae (ae @ac4 (ae @asp @ast)) (ae (ae @asq @asx) (ae @asw @asv))) (ae (ae (ae @asr @ass) (ae @asu @aaw)) (ae (ae @aaA @aax) (ae @aaG @aaF)))) (ae (ae (ae (ae @aaE @aay) (ae @aaz @aaB)) (ae (ae @anp @ano) (ae @ME @anq))) (ae (ae (ae @UG @anw) (ae @anv @anr)) (ae (ae @ant @anu) (ae @amf @ame)))))) (ae (ae (ae (ae (ae @amq (ae @ami @amw)) (ae (ae @amv @amh) (ae (ae @amt @amm) @amj))) (ae (ae (ae @amr @amg) (ae @amx @amk)) (ae (ae @amu @ade) (ae @ac' @adi)))) (ae (ae (ae (ae @adh @ac_) (ae @adg @ada)) (ae (ae @adf @ac9) (ae @adj @adb))) (ae (ae (ae @ac8 @ac7) (ae @aie @aid)) (ae (ae @me @o8) (ae @lR @jo))))) (ae (ae (ae (ae @akB (ae @akA @ahK)) (ae (ae @ahN @alk) (ae @alm @Yz))) (ae (ae (ae @Yx @arP) (ae @arO @ak6)) (ae (ae @ak5 @aqP) (ae @ans @true_eq)))) (ae (ae (ae (ae @adD @arG) (ae @adO @Yp)) (ae (ae @Yo @arH) (ae @adP @anG))) (ae (ae (ae @amA @amz) (ae @ajr @ajq)) (ae (ae @arq @Yq) (ae @rlZ @rlS))))))))
section
variable {Y n k:Nat} {v v' : V} {c e t:List V} {l l' : List (List V)} {Z:ag}
def asc:jg Y n v .any=True:=by simp[jg.le da.any]
def asd:jg Y n v v=True:=by simp[jg.same]
def ase:jg Y 0 (.sl .aV k []) (.sl (.tk Y) k [])=True:=by simp[jg.tok]
theorem als:ey Y n (v::c) (v' :: e)=(jg Y n v v' /\ ey Y n c e):=rfl
theorem alu:ey Y n [] []=True:=rfl
def alw:ey Y n c c=True:=by simp[ey.rfl]
def o5:=ae @asc <| ae @asd <| ae @ase <| ae @als <| ae @alu @alw
def bq.Ax{I:ι->St}(n:Nat)(h:∀Y,Z.aK Y=af->∃i,ey Y n t (I i).t/\l=(I i).aD/\(I i).out=Z.aY Y n):bq ⟨t,l,Z⟩ λaJ => ∃i,aJ = I i :=
 bq.tok n λY br=>by
  obtain⟨i,h1,h2,h3⟩:=h Y br;refine⟨(I i).t,(I i).aD,Z,h1,by rw[h2],λj c' hc=>⟨c',by rw[h2];exact hc,ey.rfl⟩,p8.rfl,i,?_⟩;rw[<-h3]
def jr{Y m n:Nat}:(Z.aY Y m).aY Y n=Z.aY Y n:=by
 simp only[ag.aY,ag.mk.injEq,pU,ij];funext x;split<;>rfl
def so{Y n:Nat}(h:Z.aK Y=af):Z.sub (Z.aY Y n):=by
 refine⟨λ_ _ h=>h,λυ m hm=>?_,λ_ _ h=>h⟩
 have:υ≠Y:=by rintro rfl;rw[h] at hm;simp at hm
 simp only[ag.aY];rw[aC this];exact hm
def iZ{Y n:Nat}:(Z.aY Y n).aK Y=U n:=by simp[ag.aY]
end
variable{i:Nat}{α:Type}
def Ew{l:List α}{x:α}(h:l[i]?=U x):l.take (i+1)=l.take i++[x]:=by rw[List.take_add_one,h];simp
mutual
def V.lo(n:Nat):V->Bool
 | .ptr (.aD i) _=>decide (i<n)
 | .agg cs=>bS n cs
 | .bt cs=>bS n cs
 | .fn _ a b=>bS n a&&bS n b
 | _=>aa
def bS(n:Nat):List V->Bool
 | []=>aa
 | x::xs=>x.lo n&&bS n xs
end
def dL(n:Nat):List (List V)->Bool
 | []=>aa
 | x::xs=>bS n x&&dL n xs
def Env.cut(E:Env)(n:Nat):Env:={E with aD:=λi=>if i<n then E.aD i else af}
mutual
def R.cut{n:Nat}:∀(x:V) {E:Env} {v:Value},x.lo n=aa->R E x v->R (E.cut n) x v
 | .any,_,_,_,_=>by simp only[R]
 | .bool _,_,_,_,h=>by simp only[R] at h ⊢;exact h
 | .int _ _,_,_,_,h=>by simp only[R] at h ⊢;exact h
 | .aF _,_,_,_,h=>by simp only[R] at h ⊢;exact h
 | .fV,_,_,_,h=>by simp only[R] at h ⊢;exact h
 | .ptr (.aD i) off, E, _, hl, h => by
  simp only[V.lo,ca] at hl;simp only[R] at h ⊢;obtain⟨b,h1,h2⟩:=h;exact⟨b,by simp[Env.cut,hl,h1],h2⟩
 | .ptr (.out _) _,_,_,_,h=>by simp only[R] at h ⊢;exact h
 | .ptr (.jT _) _,_,_,_,h=>by simp only[R] at h ⊢;exact h
 | .elt _ _,_,_,_,h=>by simp only[R] at h ⊢;exact h
 | .sl _ _ _,_,_,_,h=>by simp only[R] at h ⊢;exact h
 | .agg cs, _, _, hl, h => by
  simp only[V.lo] at hl;simp only[R] at h ⊢;obtain⟨vs,h1,h2⟩:=h;exact⟨vs,h1,RL.cut cs hl h2⟩
 | .bt cs, _, _, hl, h => by
  simp only[V.lo] at hl;simp only[R] at h ⊢;obtain⟨vs,h1,h2⟩:=h;exact⟨vs,h1,RL.cut cs hl h2⟩
 | .fn _ a b, _, _, hl, h => by
  simp only[V.lo,bC] at hl;simp only[R] at h ⊢;obtain⟨fs,cs,h1,h2,h3⟩:=h;exact⟨fs,cs,h1,RL.cut a hl.1 h2,RL.cut b hl.2 h3⟩
 | .raw _,_,_,_,h=>by simp only[R] at h ⊢;exact h
def RL.cut{n:Nat}:∀(l:List V) {E:Env} {vs:List Value},bS n l=aa->RL E l vs->RL (E.cut n) l vs
 | [],_,[],_,_=>by simp only[RL]
 | [],_,_::_,_,h=>by simp only[RL] at h
 | _::_,_,[],_,h=>by simp only[RL] at h
 | x :: xs, _, v :: vs, hl, h => by
  simp only[bS,bC] at hl;simp only[RL] at h ⊢;exact⟨R.cut x hl.1 h.1,RL.cut xs hl.2 h.2⟩
end
def T6{n:Nat}:∀{l:List V} {j:Nat} {x:V},bS n l=aa->l[j]?=U x->x.lo n=aa
 | [],j,x,_,h=>by simp at h
 | y::ys,0,x,hl,h=>by simp only[bS,bC] at hl;simp at h;rw[<-h];exact hl.1
 | y::ys,j+1,x,hl,h=>by simp only[bS,bC] at hl;exact T6 hl.2 (by simpa using h)
def T5{n:Nat}:∀{l:List (List V)} {j:Nat} {x:List V},dL n l=aa->l[j]?=U x->bS n x=aa
 | [],j,x,_,h=>by simp at h
 | y::ys,0,x,hl,h=>by simp only[dL,bC] at hl;simp at h;rw[<-h];exact hl.1
 | y::ys,j+1,x,hl,h=>by simp only[dL,bC] at hl;exact T5 hl.2 (by simpa using h)
def jc.cut{n:Nat}(h:bS n cs=aa)(k:jc E b cs):jc (E.cut n) b cs:=by
 obtain⟨c,e,h1,h2,h3⟩:=k;exact⟨c,e,h1,h2,λj x hx=>by
  obtain⟨u,k1,k2⟩:=h3 j x hx;exact⟨u,k1,R.cut x (T6 h hx) k2⟩⟩
def Fr.cut(E:Env)(n:Nat):Fr E (E.cut n) :=
 ⟨rfl,rfl,rfl,bP _,λ_=>rfl,(Env.le.refl E).cell,(Env.le.refl E).tok,λ_ _ _=>⟨rfl,rfl⟩,λ_ _ h=>.inl h,λ_ _ c _ h=>⟨c,h⟩,λ_ i _ h=>⟨i,h⟩,λ_ c _ h=>⟨c,h,rfl⟩⟩
def bq.drop{l2:List (List V)}(ht:bS l.length t=aa)(hl:dL l.length l=aa)(hk:K ⟨t,l,Z⟩):bq ⟨t,l++l2,Z⟩ K:=by
 intro E a hs;refine⟨E.cut l.length,⟨t,l,Z⟩,rfl,Fr.cut E _,⟨⟨hs.ok.box,hs.ok.aK,hs.ok.fresh,hs.ok.nt,hs.ok.bY⟩,⟨λi cs bR=>?_,λi hi=>?_⟩,hs.defers,RL.cut _ ht hs.slot⟩,hk⟩
 .have hi:i<l.length:=(fg.1 bR).1;obtain⟨b,k1,k2,k3⟩:=hs.cV.box i cs (by rw[sA hi];exact bR);exact⟨b,by simp[Env.cut,hi,k1],k2,k3.cut (T5 hl bR)⟩
 .simp only[Env.cut];rw[aC (by simp only at hi;omega)]
def cm.app:∀{l l' m:List (List V)},cm (l.take l'.length) l' -> cm l (l' ++ l.drop l'.length)
 | [],[],_,_=>trivial
 | [],_::_,_,h=>h.elim
 | v::l,[],m,_=>by simp[cm.rfl]
 | v :: l, w :: l', m, h => by
  simp only[dd,vu,cm] at h;simp only[dd,gI,Cp,cm];exact⟨h.1,cm.app (m:=m) h.2⟩
variable{l':List (List V)}{σ':ag}
def bq.A8{t':List V}(h:cJ t t')(hl:cm (l.take l'.length) l')(ho:bL Z σ')(h1:bS l'.length t' = aa)(h2:dL l'.length l' = aa)(hk:K ⟨t',l',σ'⟩):bq ⟨t,l,Z⟩ K :=
 (bq.eh (K:=λst=>st=⟨t',l' ++ l.drop l'.length,σ'⟩) h (cm.app (m:=[]) hl) ho rfl).bind λ_ e=>e▸bq.drop h1 h2 hk
def bq.ud{I:ι->St}{μ:ι->Nat}{n:Nat}(j:ι)(hm:μ j<n)(h:cJ t (I j).t)(hl:cm (l.take (I j).aD.length) (I j).aD)(ho:bL Z (I j).out)(h1:bS (I j).aD.length (I j).t=aa)(h2:dL (I j).aD.length (I j).aD=aa):
 bq ⟨t,l,Z⟩ λaJ => ∃i,aJ = I i/\μ i<n:=bq.A8 h hl ho h1 h2 ⟨j,rfl,hm⟩
section
variable {P:Program} {d:Option Nat} {q:OQ} {xs:List X} {r:List AO} {K:St->Prop} {t:List V} {l:List (List V)} {Z:ag}
theorem am9:bV P (⟨d,.own q xs,af⟩::r) K ⟨t,l,Z⟩=q.ba Z (kC P d r K t l) (cX ⟨t,l,Z⟩ xs):=rfl
variable{H:V->ag->Prop}
theorem anP:OQ.ba Z H .nil []=H (.raw (.slice af 0 0)) Z:=rfl
variable{c e:List V}
def ak2{u:Value}:cJ (.raw u::c) (.raw u::e)=cJ c e:=by simp[cJ,da.rfl]
def pn:=ae @am9 <| ae @anP @ak2
def jM(Z:ag)(k:Nat)(v:V)(rows:List (List V)):Prop :=
 ∃a cap,v = .raw (.slice a rows.length cap)/\rows.length<=cap/\(∀r∈rows,r.length=k)/\(cap=0\/∃b cs,a=U ⟨b,0,af⟩/\Z.box b=U cs/\cs.length=cap*k/\cs.take (rows.length*k)=rows.flatten)
def se:V->Option Nat
 | .raw (.slice (U ⟨b,_,_⟩) _ _)=>U b
 | _=>af
def jM.len{rows:List (List V)}(h:jM Z k v rows)(hk:H (.int .i64 rows.length) Z):OQ.ba Z H .len [v]:=by
 obtain⟨a,cap,rfl,_⟩:=h;exact hk
def jM.frame{rows:List (List V)}(h:jM Z k v rows)(hb:∀b cs,se v=U b->Z.box b=U cs->σ'.box b=U cs):jM σ' k v rows:=by
 obtain⟨a,cap,rfl,h1,h2,h3⟩:=h;refine⟨a,cap,rfl,h1,h2,?_⟩
 rcases h3 with h3 | ⟨b,cs,rfl,h4,h5⟩
 .exact .inl h3
 .exact .inr ⟨b,cs,rfl,hb b cs rfl h4,h5⟩
def Rc{k:Nat}:∀{rows:List (List V)} {m:Nat},(∀r∈rows,r.length=k)->rows.flatten.take (m*k)=(rows.take m).flatten
 | [],m,_=>by simp
 | r::rows,0,_=>by simp
 | r :: rows, m + 1, h => by
  simp only[eE] at h;rw[kH,vu,kH,je,w9,List.take_append,h.1,yQ (by omega),show m*k+k - k=m*k by omega,Rc h.2]
def JR{k:Nat}:∀{rows:List (List V)} {m:Nat},(∀r∈rows,r.length=k)->rows.flatten.drop (m*k)=(rows.drop m).flatten
 | [],m,_=>by simp
 | r::rows,0,_=>by simp
 | r :: rows, m + 1, h => by
  simp only[eE] at h;rw[kH,Cp,je,w9,List.drop_append,h.1,OR (by omega),show m*k+k - k=m*k by omega,gd,JR h.2]
def jM.idx{rows:List (List V)}{j:Int}{i:IntKind}(h:jM Z k v rows)(h0:0<=j)(hj:rows[j.toNat]?=U c)
 (hk:∀b cs rest,se v=U b->Z.box b=U cs->cs.drop (j.toNat*k)=c++rest->H (.ptr (.out b) (j.toNat*k)) Z):OQ.ba Z H (.idx k) [v,.int i j]:=by
 obtain⟨a,cap,rfl,h1,h2,h3⟩:=h;have aB:=(fg.1 hj).1
 rcases h3 with h3 | ⟨b,cs,rfl,h4,h5,h6⟩
 .omega
 .have e1:cs=rows.flatten++cs.drop (rows.length*k):=by rw[<-h6];simp
  have e2:rows.drop j.toNat=c::rows.drop (j.toNat+1):=by
   rw[mq aB,(fg.1 hj).2]
  have kQ:=my h2;have e3:cs.drop (j.toNat*k)=c++((rows.drop (j.toNat+1)).flatten++cs.drop (rows.length*k)):=by
   have hle:j.toNat*k<=rows.length*k:=rC _ (by omega);rw[e1,XW (by rw[kQ];exact hle),JR h2,e2,kH,eB];congr 2;rw[List.drop_append,kQ];simp[OR,kQ]
  show 0<=j/\j<(rows.length:Nat)/\H (.ptr (.out b) (0+j.toNat*k)) Z;rw[jy];exact⟨h0,by omega,hk b cs _ rfl h4 e3⟩
def jM.take{m:Nat}{rows:List (List V)}{i:IntKind}{j:Int}(h:jM Z k v rows)(h0:0<=j)(hj:j.toNat=m)(hm:m<=rows.length)(hk:∀v',jM Z k v' (rows.take m)->se v' = se v->H v' Z):OQ.ba Z H (.kF k ak aa ak) [v,.int i j]:=by
 obtain⟨a,cap,rfl,h1,h2,h3⟩:=h;show kM ak 0 [.int i j] λm vs=>kM aa rows.length vs λh vs=>kM ak cap vs λM vs=>vs=[]/\m<=h/\h<=M/\M<=cap/\H (.raw (.slice (if M=m then a else a.map (·.add (m*k))) (h - m) (M - m))) Z
 refine⟨h0,rfl,by omega,by omega,bP _,?_⟩;have ea:(if cap=0 then a else a.map (·.add (0*k)))=a:=by
  split
  .rfl
  .rcases h3 with h3 | ⟨b,cs,rfl,_⟩
   .omega
   .simp[mr]
 rw[ea,hj];refine hk _ ⟨a,cap,?_,?_,λr hr=>h2 r (AS hr),?_⟩ (by cases a with
  | none=>rfl
  | some ad=>cases ad;rfl)
 .rw[iR,w8 hm];rfl
 .rw[iR];omega
 .rcases h3 with h3 | ⟨b,cs,rfl,h4,h5,h6⟩
  .exact .inl h3
  .refine .inr ⟨b,cs,rfl,h4,h5,?_⟩;rw[iR,w8 hm,<-Rc h2,<-h6,List.take_take,w8 (rC _ hm)]
structure IY(Z:ag)(v:V)(σ' : ag)(v' : V):Prop where
 lI:∀b cs,Z.box b=U cs->se v≠U b->σ'.box b=U cs
 aK:σ'.aK=Z.aK
 new:∀b,se v' = U b->se v=U b\/Z.box b=af
 bY:σ'.bY=Z.bY
def Wv{k n:Nat}:∀{cs xs ys:List V},cs.take n=ys->n+xs.length<=cs.length->ys.length=n->(setAt cs n xs).take (n+xs.length)=ys++xs/\(setAt cs n xs).length=cs.length:=by
 intro cs xs ys h1 h2 h3;have ov:∀{cs xs:List V},xs.length<=cs.length->(over cs xs).take xs.length=xs/\(over cs xs).length=cs.length:=by
  intro cs;induction cs with
  | nil=>intro xs h;cases xs with | nil=>simp[over] | cons x xs=>simp at h
  | cons c cs ih =>
   intro xs h;cases xs with
   | nil=>simp[over]
   | cons x xs =>
    obtain⟨k1,k2⟩:=ih (xs:=xs) (by simpa using h);simp[over,k1,k2]
 induction n generalizing cs ys with
 | zero =>
  simp at h3;subst h3;obtain⟨k1,k2⟩:=ov (cs:=cs) (xs:=xs) (by omega);have e:setAt cs 0 xs=over cs xs:=by cases cs<;>rfl
  rw[e];simpa using ⟨k1,k2⟩
 | succ n ih =>
  cases cs with
  | nil=>simp at h2
  | cons c cs =>
   cases ys with
   | nil=>simp at h3
   | cons y ys =>
    simp only[vu,gz] at h1;obtain⟨k1,k2⟩:=ih (cs:=cs) (ys:=ys) h1.2 (by simp at h2;omega) (by simpa using h3);simp only[setAt];rw[show n+1+xs.length=(n+xs.length)+1 by omega];simp[k1,k2,h1.1]
def jM.app{rows:List (List V)}{tk:Tk}(h:jM Z k v rows)(hm:∀r∈m,r.length=k)(hn:bK m.flatten=aa)(hb:rows.length+m.length<=aO)
 (hk:∀v' σ',jM σ' k v' (rows++m)->IY Z v σ' v' -> H v' σ'):OQ.ba Z H (.app k) [v,.sl tk k m]:=by
 obtain⟨a,cap,rfl,h1,h2,h3⟩:=h;have Bq:=my hm;have bf:=my h2;refine⟨rfl,h1,hb,hn,λe=>?_,λe hle=>?_,λaB=>?_⟩
 .subst e;refine hk _ _ ⟨a,cap,by simp,by simpa using h1,by simpa using h2,by simpa using h3⟩ ⟨λ_ _ h _=>h,rfl,λb hb=>.inl hb,rfl⟩
 .rcases h3 with h3 | ⟨b,cs,rfl,h4,h5,h6⟩
  .have:m.length=0:=by omega
   exact absurd (sz this) e
  .have n6:rows.length*k+m.length*k<=cs.length:=by rw[h5,<-je];exact rC _ hle
   refine⟨b,cs,rfl,h4,n6,hk _ _ ⟨U ⟨b,0,Option.none⟩,cap,by simp,by simpa using hle,λr hr=>?_,.inr ⟨b,_,rfl,ag.d_ _ _ _,?_,?_⟩⟩ ⟨λb' cs' b9 aX=>?_,rfl,λb' b9 => .inl b9,rfl⟩⟩
   .rcases jw.1 hr with hr | hr
    .exact h2 r hr
    .exact hm r hr
   .rw[(Wv (k:=k) h6 (by rw[Bq];exact n6) bf).2];exact h5
   .have:=(Wv (k:=k) h6 (by rw[Bq];exact n6) bf).1
    rw[Bq] at this;rw[bN,je,this,tU]
   .have:b' ≠ b:=by rintro rfl;exact aX rfl
    rw[ag.eg _ _ this];exact b9
 .have base:∀cs:List V,cs.take (rows.length*k)=rows.flatten->∀b' nR,Z.box b' = Option.none->rows.length+m.length<=nR -> H (.raw (.slice (U ⟨b',0,Option.none⟩) (rows.length+m.length) nR)) (Z.set b' (cs.take (rows.length*k)++m.flatten++au ((nR - (rows.length+m.length))*k) .any)):=by
   intro cs h6 b' nR b9 hc;refine hk _ _ ⟨U ⟨b',0,Option.none⟩,nR,by simp,by simpa using hc,λr hr=>?_,.inr ⟨b',_,rfl,ag.d_ _ _ _,?_,?_⟩⟩ ⟨λPO cs' qc aX=>?_,rfl,λPO qc => ?_,rfl⟩
   .rcases jw.1 hr with hr | hr
    .exact h2 r hr
    .exact hm r hr
   .rw[h6];simp only[bN,bf,Bq,List.length_replicate];rw[<-je,<-je];congr 1;omega
   .rw[h6,bN,tU,X5 (by simp only[bN,bf,Bq];rw[je];omega),yQ (by simp only[bN,bf,Bq];rw[je];omega)]
   .have:PO ≠ b' := by rintro rfl;rw[b9] at qc;simp at qc
    rw[ag.eg _ _ this];exact qc
   .simp only[se,aZ] at qc;subst qc;exact .inr b9
  rcases h3 with h3 | ⟨b,cs,rfl,h4,h5,h6⟩
  .have h0:rows=[]:=sz (by omega);subst h0;exact⟨[],.inl ⟨rfl,rfl⟩,base [] (by simp)⟩
  .refine⟨cs,.inr ⟨b,rfl,h4,?_⟩,base cs h6⟩;rw[h5];exact rC _ h1
structure Cy(dr Z:ag)(v:V):Prop where
 sub:dr.sub Z
 new:∀b,se v=U b->dr.box b=af
def Cy.step{dr:ag}{v':V}(h:Cy dr Z v)(f:IY Z v σ' v'):Cy dr σ' v' := by
 refine⟨⟨λb cs hb=>?_,λt n hn=>by rw[f.aK];exact h.sub.2.1 t n hn,λb cs hc=>by rw[f.bY];exact h.sub.2.2 b cs hc⟩,λb hb=>?_⟩
 .exact f.lI b cs (h.sub.1 b cs hb) (λe=>by rw[h.new b e] at hb;simp at hb)
 .rcases f.new b hb with e | e
  .exact h.new b e
  .cases hq:dr.box b with
   | none=>rfl
   | some cs=>rw[h.sub.1 b cs hq] at e;simp at e
end
section
variable {P:Program} {d:Option Nat} {K:St->Prop} {st:St} {b w:Bool}
def kP{op:aI}{r:List AO}(h1:b=aa->gL P (.bool aa) w d op r K st)(h2:b=ak->gL P (.bool ak) w d op r K st):gL P (.bool b) w d op r K st:=by cases b with
 | true=>exact h1 rfl
 | false=>exact h2 rfl
def la{x y:V}{r:List AO}(h1:b=aa->tA P (.bool aa) x y d r K st)(h2:b=ak->tA P (.bool ak) x y d r K st):tA P (.bool b) x y d r K st:=by cases b with
 | true=>exact h1 rfl
 | false=>exact h2 rfl
end
section
variable {P:Program} {d:Option Nat} {K:St->Prop} {t:List V} {l:List (List V)} {Z:ag} {r:List AO}
def rI(st:St):Option X->Option V
 | none=>af
 | some x=>U (ev st x)
def BK(n:Nat)(ab9:Nat):Option V->Prop
 | none=>n=ab9
 | some v=>∃j,v = .int j n
def NP(v:V)(lo hi:Option V)(H:V->Prop):Prop:=∃s a b,v = .aF s/\a<=b/\b<=s.length/\BK a 0 lo/\BK b s.length hi/\H (.aF ((s.take b).drop a))
def Eo(k:Nat)(v:V)(lo hi mx:Option V)(H:V->Prop):Prop:=(∃Y l a b,v = .sl Y k l/\a<=b/\b<=l.length/\BK a 0 lo/\BK b l.length hi /\
 match mx with
 | none=>H (.sl .no k ((l.take b).drop a))
 | some y=>(∃j,y = .int j b)/\H (.sl .aV k ((l.take b).drop a))) \/
 ∃a n cap m h,v = .raw (.slice a n cap)/\m<=h/\h<=cap/\BK m 0 lo/\BK h n hi/\mx.isNone=aa/\H (.raw (.slice (if cap=m then a else a.map (·.add (m*k))) (h - m) (cap - m)))
variable{hi:Option X}
def am'{x:X}{lo:Option X}:bV P (⟨d,.yu x lo hi,af⟩::r) K ⟨t,l,Z⟩=NP (ev ⟨t,l,Z⟩ x) (rI ⟨t,l,Z⟩ lo) (rI ⟨t,l,Z⟩ hi) (kL P d r K ⟨t,l,Z⟩):=by
 cases lo<;>cases hi<;>rfl
variable{mx:Option X}
def ana{x:X}{lo:Option X}:bV P (⟨d,.kF k x lo hi mx,af⟩::r) K ⟨t,l,Z⟩=Eo k (ev ⟨t,l,Z⟩ x) (rI ⟨t,l,Z⟩ lo) (rI ⟨t,l,Z⟩ hi) (rI ⟨t,l,Z⟩ mx) (kL P d r K ⟨t,l,Z⟩):=by
 cases lo<;>cases hi<;>cases mx<;>rfl
variable{L:List (V × Bool × Nat × V × List Nat)}{ms:List Nat}
def ab6{x:X}{lo:Option X}{r:List (AO × List Nat)}{SN:List c8}:ch P ((⟨d,.yu x lo hi,af⟩,ms)::r) SN L K ⟨t,l,Z⟩=NP (ev ⟨t,l,Z⟩ x) (rI ⟨t,l,Z⟩ lo) (rI ⟨t,l,Z⟩ hi) (kD P d r SN L K ⟨t,l,Z⟩):=by
 cases lo<;>cases hi<;>rfl
def ab7{x:X}{lo:Option X}{r:List (AO × List Nat)}{SN:List c8}:ch P ((⟨d,.kF k x lo hi mx,af⟩,ms)::r) SN L K ⟨t,l,Z⟩=Eo k (ev ⟨t,l,Z⟩ x) (rI ⟨t,l,Z⟩ lo) (rI ⟨t,l,Z⟩ hi) (rI ⟨t,l,Z⟩ mx) (kD P d r SN L K ⟨t,l,Z⟩):=by
 cases lo<;>cases hi<;>cases mx<;>rfl
theorem adk{st:St}:rI st af=none:=rfl
theorem adl{st:St}{x:X}:rI st (U x)=U (ev st x):=rfl
variable{a:Nat}{s:List UInt8}
def NQ{j j' : IntKind}{H:V->Prop}(h1:a<=b)(h2:b<=s.length)(h:H (.aF ((s.take b).drop a))):NP (.aF s) (U (.int j a)) (U (.int j' b)) H:=⟨s,a,b,rfl,h1,h2,⟨j,rfl⟩,⟨j',rfl⟩,h⟩
def aqN{Y:Tk}{j:IntKind}{H:V->Prop}(h2:a<=m.length)(h:H (.sl .no k (m.drop a))):Eo k (.sl Y k m) (U (.int j a)) af af H:=.inl ⟨Y,m,a,m.length,rfl,h2,bP _,⟨j,rfl⟩,rfl,by rw[eN];exact h⟩
def WG{Y:Tk}{j:IntKind}{H:V->Prop}(h2:b<=m.length)(h:H (.sl .no k (m.take b))):Eo k (.sl Y k m) af (U (.int j b)) af H:=.inl ⟨Y,m,0,b,rfl,IW _,h2,rfl,⟨j,rfl⟩,h⟩
def cF:=ae @amQ <| ae @amF <| ae @am' <| ae @ana <| ae @ab6 <| ae @ab7 <| ae @adk <| ae @adl <| ae @amZ <| ae @abV <| ae @abN <| ae @ar4 <| ae @al' <| ae @al_ <| ae @ama <| ae @ao6 <| ae @ao5 <| ae @ao7 @acG
end
def CV(a b:List UInt8):de (a++b)=de a++de b:=by simp[de]
def iS(a:List UInt8):(de a).length=a.length:=by simp[de]
abbrev bB:=BitVec 64
section
variable {a b c:bB} {n:Int} {m:Nat}
def wrap_u64{x:Int}(h1:0<=x)(h2:x<18446744073709551616):IntKind.u64.wrap x=x:=IntWalk.u64_in x (by omega)
def asj(a:bB):(a.toNat:Int)<18446744073709551616:=by have:=a.isLt;omega
def Ob:BitVec.ofInt 64 (a.toNat:Nat)=a:=by simp
def Oe:IntKind.u64.wrap (a.toNat:Nat)=(a.toNat:Nat):=wrap_u64 (by omega) (asj a)
def asg:IntKind.u64.wrap ((a.toNat:Nat)+(b.toNat:Nat))=((a+b).toNat:Nat):=by
 rw[IntKind.wrap_u64,BitVec.toNat_add];omega
def Od:IntKind.u64.wrap ((a.toNat:Nat) - (b.toNat:Nat))=((a - b).toNat:Nat):=by
 have:=a.isLt;have:=b.isLt
 rw[IntKind.wrap_u64,BitVec.toNat_sub];omega
def asl:IntKind.u64.wrap ((a.toNat:Nat)*(b.toNat:Nat))=((a*b).toNat:Nat):=by
 rw[IntKind.wrap_u64,BitVec.toNat_mul,<-Int.natCast_mul];generalize a.toNat*b.toNat=x;omega
def wR:hD .u64 (a.toNat:Nat) (b.toNat:Nat) .and=U (.int .u64 ((a&&&b).toNat:Nat)):=by
 (simp only[hD,IntKind.bits,Ob,Oe];rfl)
def Ca:hD .u64 (a.toNat:Nat) (b.toNat:Nat) .or=U (.int .u64 ((a|||b).toNat:Nat)):=by
 (simp only[hD,IntKind.bits,Ob,Oe];rfl)
def Xj:hD .u64 (a.toNat:Nat) (b.toNat:Nat) .andNot=U (.int .u64 ((a&&&~~~b).toNat:Nat)):=by
 (simp only[hD,IntKind.bits,Ob,Oe];rfl)
def Oc:hD .u64 (a.toNat:Nat) (m:Nat) .shl=U (.int .u64 ((a<<<m).toNat:Nat)):=by
 simp only[hD,IntKind.bits];rw[aC (by omega),IntKind.wrap_u64,OG,O'];simp only[ju,aZ,V.int.injEq,pU]
 by_cases h:m<=64
 .rw[show m.min 64=m from w8 h,show(2:Int)^m=((2^m:Nat):Int) by simp,<-Int.natCast_mul];generalize a.toNat*2^m=x;omega
 .rw[show m.min 64=64 from Nat.min_eq_right (by omega)];obtain⟨k,rfl⟩:∃k,m=64+k:=⟨m - 64,by omega⟩;rw[Nat.pow_add,<-Nat.mul_assoc,Nat.mul_comm _ (2^64),Nat.mul_assoc,Nat.mul_mod_right];omega
def Il:hD .u64 (a.toNat:Nat) (m:Nat) .shr=U (.int .u64 ((a>>>m).toNat:Nat)):=by
 simp only[hD,IntKind.bits];rw[aC (by omega),BitVec.toNat_ushiftRight,Nat.shiftRight_eq_div_pow];simp only[ju,aZ,V.int.injEq,pU];rw[Int.fdiv_eq_ediv_of_nonneg _ (Int.le_of_lt (Int.pow_pos (by decide)))]
 by_cases h:m<=64
 .rw[show m.min 64=m from w8 h];norm_cast
 .rw[show m.min 64=64 from Nat.min_eq_right (by omega)];have h1:a.toNat / 2^m=0:=Nat.div_eq_of_lt (vv a.isLt (Nat.pow_le_pow_right (by decide) (by omega)));rw[h1]
  have:=a.isLt
  omega
def aso:hD .u64 (a.toNat:Nat) 2 .rem=U (.int .u64 ((a.getLsbD 0).toNat:Nat)):=by
 simp only[hD];rw[aC (by decide),Int.tmod_eq_emod_of_nonneg (by omega),BitVec.getLsbD,Nat.testBit_zero];simp only[aZ,V.int.injEq,pU]
 rcases Nat.mod_two_eq_zero_or_one a.toNat with h | h<;>simp[h]<;>omega
def ash{p:Bool}:decide (((p.toNat:Nat):Int)=((1#64:bB).toNat:Nat))=p:=by cases p<;>rfl
def Xk:IntKind.u64.wrap ((a.toNat:Nat)*2)=((a<<<1).toNat:Nat):=by
 rw[IntKind.wrap_u64,OG,O'];omega
def B':decide ((a.toNat:Int)=(b.toNat:Nat))=decide (a=b):=by
 apply rG.2;rw[<-BitVec.toNat_inj];omega
theorem tM:V.int .u64 0 = .int .u64 ((0#64:bB).toNat:Nat):=rfl
theorem Ik:V.int .u64 1 = .int .u64 ((1#64:bB).toNat:Nat):=rfl
theorem asn:V.int .u64 18446744073709551615 = .int .u64 ((BitVec.allOnes 64:bB).toNat:Nat):=rfl
end
def hasB(s:bB)(i:Int):Bool:=decide (0<=i)&&s.getLsbD i.toNat
def lu(i:Nat):bB:=1#64<<<i
def kb(s:bB)(i:Int):bB:=if 0<=i/\i<64 then s|||lu i.toNat else s
def iE(l:List Int):bB:=l.foldl kb 0#64
def Au(a b:bB):Bool:=decide (a&&&~~~b=0#64)
def jh(n:Int):bB:=if n<=0 then 0#64 else if 64<=n then BitVec.allOnes 64 else lu n.toNat - 1#64
def fN(s:bB):List Nat:=(bU 64).filter s.getLsbD
def rH{a b:bB}(h:∀k,k<64->a.getLsbD k=b.getLsbD k):a=b:=BitVec.eq_of_getLsbD_eq λk hk=>h k hk
def A3(i k:Nat):(lu i).getLsbD k=(decide (k<64)&&decide (k=i)):=by
 simp only[lu,XQ,BitVec.getLsbD_one]
 by_cases h:k<64<;>by_cases h2:k=i<;>simp[h,h2]<;>omega
def PU(i:Nat):lu i<<<1=lu (i+1):=by
 apply rH;intro k hk;rw[XQ,A3,A3];cases k with
 | zero=>simp
 | succ k=>simp only[hk,Nat.add_sub_cancel,bM,lj,Nat.add_right_cancel_iff];simp[show k<64 by omega]
def Im(s:bB)(i:Int)(k:Nat):(kb s i).getLsbD k=(s.getLsbD k||(decide (k<64)&&decide ((k:Int)=i))):=by
 unfold kb
 split
 .rename_i h;rw[OF,A3];congr 2;apply rG.2;omega
 .rename_i h
  have:(decide (k<64)&&decide ((k:Int)=i))=false:=by
   simp only[Ck,CR];omega
  rw[this,Bool.or_false]
def Rr:∀(l:List Int) (s:bB) (k:Nat),(l.foldl kb s).getLsbD k=(s.getLsbD k||(decide (k<64)&&decide ((k:Int)∈l)))
 | [],s,k=>by simp
 | i :: l, s, k => by
  rw[yL,Rr l,Im,Bool.or_assoc,<-Bool.and_or_distrib_left,<-Bool.decide_or];simp only[kI]
def D6(l:List Int)(k:Nat):(iE l).getLsbD k=(decide (k<64)&&decide ((k:Int)∈l)):=by
 rw[iE,Rr];simp
def anx(k:Nat):(BitVec.allOnes 64).getLsbD k=decide (k<64):=BitVec.getLsbD_allOnes
def ZF(n:Nat)(h:n<=64)(k:Nat):(lu n - 1#64).getLsbD k=(decide (k<64)&&decide (k<n)):=by
 by_cases hk:k<64
 .rw[BitVec.getLsbD,BitVec.toNat_sub,lu,OG,O'];have e1:(1#64).toNat=1:=rfl;rw[e1,w9]
  by_cases h2:n=64
  .subst h2
   have:(2^64 - 1+2^64 % 2^64) % 2^64=2^64 - 1:=by decide
   rw[this,X8];simp[hk]
  .have hp:2^n<2^64:=Nat.pow_lt_pow_right (by decide) (by omega);have m_:0<2^n:=Nat.two_pow_pos n;rw[O9 hp,show 2^64 - 1+2^n=(2^n - 1)+2^64 by omega,Nat.add_mod_right,O9 (by omega),X8];simp[hk]
 .rw[Cj _ _ (by omega)];simp[hk]
def A1(n:Int)(k:Nat):(jh n).getLsbD k=(decide (k<64)&&decide ((k:Int)<n)):=by
 unfold jh;split
 .rw[aM (p:=(k:Int)<n) (by omega)];simp
 .split
  .rw[anx]
   by_cases h:k<64
   .rw[aQ (p:=(k:Int)<n) (by omega)];simp
   .simp[h]
  .rw[ZF _ (by omega)];congr 1;apply rG.2;omega
def UC(l:List Int)(i:Nat)(hi:i<64):iE l&&&jh ((i+1:Nat):Int)=if (i:Int)∈l then(iE l&&&jh (i:Int))+lu i else iE l&&&jh (i:Int):=by
 split
 .rename_i h;rw[BitVec.add_eq_or_of_and_eq_zero]
  .apply rH;intro k hk;simp only[OF,tQ,A1,A3,hk,bM,lj,D6]
   rcases yR k i with h1 | h1 | h1
   .simp[show((k:Int)<(i:Nat)) by omega,show k≠i by omega];try omega
   .subst h1;simp[h];omega
   .simp[show ¬((k:Int)<((i+1:Nat):Int)) by omega,show ¬((k:Int)<(i:Nat)) by omega,show k≠i by omega];try omega
  .apply rH;intro k hk;simp only[tQ,A1,A3,hk,bM,lj]
   by_cases h1:k=i
   .subst h1;simp
   .simp[h1]
 .rename_i h;apply rH;intro k hk;simp only[tQ,A1,hk,bM,lj,D6]
  rcases yR k i with h1 | h1 | h1
  .simp[show((k:Int)<(i:Nat)) by omega];try omega
  .subst h1;simp[h]
  .simp[show ¬((k:Int)<((i+1:Nat):Int)) by omega,show ¬((k:Int)<(i:Nat)) by omega];try omega
def anc(l:List Int):iE l&&&jh 64=iE l:=by
 apply rH;intro k hk;rw[tQ,A1];simp only[hk,bM,lj];rw[aQ (by omega)];simp
def ane(l:List Int):iE l&&&jh 0=0#64:=by simp[jh]
def Ue{s:bB}:k∈fN s↔s.getLsbD k=true:=by
 simp only[fN,O2,yO,and_iff_right_iff_imp];intro h;exact Nat.lt_of_not_le λhc=>by rw[Cj _ _ hc] at h;simp at h
def akS{s:bB}(h:k∈fN s):k<64:=by
 simp only[fN,O2,yO] at h;exact h.1
def Hj(s:bB):(fN s).length<=64:=by
 have:=O0 s.getLsbD (bU 64);simpa [fN] using this
def oJ(s:bB):Nat:=((bU 64).find? s.getLsbD).getD 64
def DY{s:bB}(h:s≠0#64):oJ s<64/\s.getLsbD (oJ s)=aa/\∀k,k<oJ s->s.getLsbD k=false:=by
 unfold oJ;cases hf:(bU 64).find? s.getLsbD with
 | none =>
  exfalso;apply h;apply rH;intro k hk
  have:=IL.1 hf k (by simpa using hk)
  simpa using this
 | some i =>
  obtain⟨h1,as,bs,h2,h3⟩:=ET.1 hf;have hi:i<64:=by
   have:i∈bU 64:=by rw[h2];simp
   simpa using this
  refine⟨hi,h1,λk hk=>?_⟩;simp only[E8] at hk;have hl:as.length=i:=by
   have:=gX (λl:List Nat=>l[as.length]?) h2
   simp only[AR (bP _),Nat.sub_self,XY] at this;rw[IM] at this
   .simpa using this
   .have:=gX List.length h2;simp at this;omega
  have jY : k∈as:=by
   have:=gX (λl:List Nat=>l[k]?) h2
   rw[sA (by omega),IM (by omega)] at this;exact rA this.symm
  have:=h3 k jY
  simpa using this
def al0{s:bB}(h:s≠0#64):s&&&-s=lu (oJ s):=by
 obtain⟨h1,h2,h3⟩:=DY h;apply rH;intro i hi;rw[tQ,BitVec.getLsbD_neg,A3]
 rcases yR i (oJ s) with hc | hc | hc
 .rw[h3 i hc,aM (p:=i=oJ s) (by omega)];simp
 .subst hc;rw[h2,aM (p:=∃j,j<oJ s/\s.getLsbD j=aa) (by rintro⟨j,hj,hs⟩;rw[h3 j hj] at hs;simp at hs)];simp[hi]
 .rw[aQ (p:=∃j,j<i/\s.getLsbD j=aa) ⟨_,hc,h2⟩,aM (p:=i=oJ s) (by omega)];cases s.getLsbD i<;>simp[hi]
def Jw(s:bB)(i:Nat):(s&&&(s - 1#64)).getLsbD i=(s.getLsbD i&&decide (∃j,j<i/\s.getLsbD j=aa)):=by
 by_cases hi:i<64
 .rw[tQ,<-BitVec.not_neg,BitVec.getLsbD_not,BitVec.getLsbD_neg];cases s.getLsbD i<;>simp[hi]
 .rw[Cj _ _ (by omega),Cj _ _ (by omega)];simp
def TX{s:bB}(h:s≠0#64):fN s=oJ s::fN (s&&&(s - 1#64)):=by
 obtain⟨h1,h2,h3⟩:=DY h;generalize oJ s=k at h1 h2 h3;have hr:bU 64=bU k++k::List.range' (k+1) (64 - (k+1)):=by
  rw[tX,tX,<-Ct,show(64:Nat) - (k+1)+1=64 - k by omega]
  have:=O7 (s:=0) (m:=k) (n:=64 - k) (step:=1)
  simp only[w9,jy] at this;rw[this];congr 1;omega
 unfold fN;rw[hr,IK,IK,ES,ES,h2,Jw s k];have e1:List.filter s.getLsbD (bU k)=[]:=XX.2 λx hx=>by rw[h3 x (by simpa using hx)];simp
 have e2:List.filter (s&&&(s - 1#64)).getLsbD (bU k)=[]:=XX.2 λx hx=>by rw[Jw,h3 x (by simpa using hx)];simp
 rw[e1,e2,
  aM (by rintro⟨j,hj,hs⟩;rw[h3 j hj] at hs;simp at hs)]
 simp only[Bool.and_false,dm,cn,cD,gd,gz,pU];refine List.filter_congr λx hx=>?_
 have hx:k<x:=by simp only[List.mem_range'_1] at hx;omega
 rw[Jw,aQ ⟨k,hx,h2⟩,vp]
def akU:fN 0#64=[]:=by simp[fN]
def akT{s:bB}(h:fN s≠[]):s≠0#64:=by rintro rfl;exact h akU
def akV{s:bB}(h:fN s=[]):s=0#64:=by
 apply Classical.byContradiction;intro hc;rw[TX hc] at h;simp at h
def Ie:List Int:=[0,1,56,2,57,49,28,3,61,58,42,50,38,29,17,4,62,47,59,36,45,43,51,22,53,39,33,30,24,18,12,5,63,55,48,27,60,41,37,16,46,35,44,21,52,32,23,11,54,26,40,15,34,20,31,10,25,14,19,9,13,8,7,6]
def wN:List V:=Ie.map λn=>.int .u8 n
def arK(k:Nat)(h:k<64):((lu k*285870213051353865#64)>>>58).toNat<64/\Ie[((lu k*285870213051353865#64)>>>58).toNat]?=U (k:Int):=by
 revert k;decide +kernel
end Go.Am
namespace Go.Am
structure Tok where
 kind:Int
 an:List UInt8
 pos:Int
inductive ar where
 | mk (tok:Tok) (ah:List ar) (fin:Int)
def ar.tok:ar->Tok | .mk t _ _=>t
def ar.ah:ar->List ar | .mk _ k _=>k
def ar.fin:ar->Int | .mk _ _ e=>e
mutual
def ar.enc:ar->List V
 | .mk t ks e=>[.int .u8 t.kind,.aF t.an,.int .i64 t.pos,.sl .no 5 (dC ks),.int .i64 e]
def dC:List ar->List (List V)
 | []=>[]
 | t::ts=>t.enc::dC ts
end
def sL:∀l,dC l=l.map ar.enc
 | []=>rfl
 | t::ts=>by simp[dC,sL ts]
def kh(l:List ar):(dC l).length=l.length:=by simp[sL]
def df(t:ar):t.enc=[.int .u8 t.tok.kind,.aF t.tok.an,.int .i64 t.tok.pos,.sl .no 5 (dC t.ah),.int .i64 t.fin]:=by
 cases t;simp only[ar.enc,ar.tok,ar.ah,ar.fin]
mutual
def ar.many:ar->Nat
 | .mk _ ks _=>bd ks
def bd:List ar->Nat
 | []=>0
 | t::ts=>1+t.many+bd ts
end
def Mn(t:ar):t.many=bd t.ah:=by cases t;simp[ar.many,ar.ah]
def r_:∀a b,bd (a++b)=bd a+bd b
 | [],b=>by simp[bd]
 | t::ts,b=>by simp[bd,r_ ts b];omega
def lM:∀l,l.length<=bd l
 | []=>by simp[bd]
 | t::ts=>by simp[bd];have:=lM ts;omega
variable{i:Nat}
def alD{l:List ar}(h:i<l.length):bd l=bd (l.take i)+(1+bd l[i].ah)+bd (l.drop (i+1)):=by
 have:l=l.take i++l[i]::l.drop (i+1):=by simp
 have e:=gX bd this;rw[e,r_];simp only[bd,Mn];omega
def alE{l:List ar}(h:i<l.length):bd l[i].ah+1<=bd l:=by
 have:=alD h;omega
structure aA where
 an:List UInt8
 pos:Int
def aA.enc(w:aA):List V:=[.aF w.an,.int .i64 w.pos]
inductive Nd where
 | mk (kind pos:Int) (an:List UInt8) (aj:List aA) (ah:List Nd)
namespace Nd
def kind:Nd->Int | .mk k _ _ _ _=>k
def pos:Nd->Int | .mk _ p _ _ _=>p
def an:Nd->List UInt8 | .mk _ _ t _ _=>t
def aj:Nd->List aA | .mk _ _ _ w _=>w
def ah:Nd->List Nd | .mk _ _ _ _ k=>k
end Nd
mutual
def Nd.enc:Nd->List V
 | .mk k p t ws ks=>[.int .i64 k,.int .i64 p,.aF t,.sl .no 2 (ws.map aA.enc),.sl .no 5 (rf ks)]
def rf:List Nd->List (List V)
 | []=>[]
 | n::ns=>n.enc::rf ns
end
def Aa:∀l,rf l=l.map Nd.enc
 | []=>rfl
 | t::ts=>by simp[rf,Aa ts]
def Nd.df(n:Nd):n.enc=[.int .i64 n.kind,.int .i64 n.pos,.aF n.an,.sl .no 2 (n.aj.map aA.enc),.sl .no 5 (n.ah.map Nd.enc)]:=by
 cases n;simp only[Nd.enc,Nd.kind,Nd.pos,Nd.an,Nd.aj,Nd.ah,Aa]
structure ab where
 l:List ar
 at_:Int
 fin:Int
 aG:Option Int
def c9(b:Option Int):Int:=match b with | some _=>2 | none=>0
def fJ(b:Option Int):Int:=match b with | some a=>a | none=>0
def ab.enc(r:ab):List V:=[.sl .no 5 (dC r.l),.int .i64 r.at_,.int .i64 r.fin,.int .i64 (c9 r.aG),.int .i64 (fJ r.aG)]
def bz(l:List ar)(at_:Int)(k:Int):Bool:=decide (0<=at_)&&match l[at_.toNat]? with | some t=>decide (t.tok.kind=k) | none=>ak
def ab.ok(r:ab):Bool:=r.aG.isNone
def ab.spot(r:ab):Int:=if 0<=r.at_ then(match r.l[r.at_.toNat]? with | some t=>t.tok.pos | none=>r.fin) else r.fin
def ab.fail(r:ab):ab:=match r.aG with | some _=>r | none=>{r with aG:=U r.spot}
def ab.bT(r:ab)(k:Int):Bool:=r.ok&&bz r.l r.at_ k
def ar.zero:ar:=.mk ⟨0,[],0⟩ [] 0
def ab.take(r:ab)(k:Int):ar × ab:=if r.bT k then(r.l.getD r.at_.toNat .zero,{r with at_:=r.at_+1}) else(.zero,r.fail)
def ab.word(r:ab):aA × ab:=(⟨(r.take 97).1.tok.an,(r.take 97).1.tok.pos⟩,(r.take 97).2)
variable{r:ab}
theorem ab.ex1{n:Nat}:r.enc.drop n=[V.sl .no 5 (dC r.l),.int .i64 r.at_,.int .i64 r.fin,.int .i64 (c9 r.aG),.int .i64 (fJ r.aG)].drop n:=rfl
theorem ab.ex2{n:Nat}{x:List V}:setAt r.enc n x=setAt [V.sl .no 5 (dC r.l),.int .i64 r.at_,.int .i64 r.fin,.int .i64 (c9 r.aG),.int .i64 (fJ r.aG)] n x:=rfl
variable{g:Bool}
theorem ab.ex3{n:Nat}:bF g n r.enc=bF g n [V.sl .no 5 (dC r.l),.int .i64 r.at_,.int .i64 r.fin,.int .i64 (c9 r.aG),.int .i64 (fJ r.aG)]:=rfl
theorem ab.ex4{n:Nat}:bZ n r.enc=bZ n [V.sl .no 5 (dC r.l),.int .i64 r.at_,.int .i64 r.fin,.int .i64 (c9 r.aG),.int .i64 (fJ r.aG)]:=rfl
def ab.ex:(∀{r:ab} {n:Nat},r.enc.drop n=[V.sl .no 5 (dC r.l),.int .i64 r.at_,.int .i64 r.fin,.int .i64 (c9 r.aG),.int .i64 (fJ r.aG)].drop n) /\
 (∀{r:ab} {n:Nat} {x:List V},setAt r.enc n x=setAt [V.sl .no 5 (dC r.l),.int .i64 r.at_,.int .i64 r.fin,.int .i64 (c9 r.aG),.int .i64 (fJ r.aG)] n x) /\
 (∀{r:ab} {n:Nat} {g:Bool},bF g n r.enc=bF g n [V.sl .no 5 (dC r.l),.int .i64 r.at_,.int .i64 r.fin,.int .i64 (c9 r.aG),.int .i64 (fJ r.aG)]) /\
 (∀{r:ab} {n:Nat},bZ n r.enc=bZ n [V.sl .no 5 (dC r.l),.int .i64 r.at_,.int .i64 r.fin,.int .i64 (c9 r.aG),.int .i64 (fJ r.aG)]):=⟨ab.ex1,ab.ex2,ab.ex3,ab.ex4⟩
def iK{G:Type}(step:ab × List G->ab × List G):Nat->ab × List G->ab × List G
 | 0,a=>a
 | n+1,a=>if a.1.bT 44 then iK step n (step ((a.1.take 44).2,a.2)) else a
variable{G:Type}
def dS(step:ab × List G->ab × List G)(r:ab):ab × List G:=iK step r.l.length (step (r,[]))
def fZ(a:ab × List aA):ab × List aA:=(a.1.word.2,a.2++[a.1.word.1])
def ab.fy(r:ab)(k:Int):(r.take k).2.l=r.l:=by
 unfold ab.take;split
 .rfl
 .unfold ab.fail;split<;>rfl
def ab.adB(r:ab):r.fail.at_=r.at_:=by unfold ab.fail;split<;>rfl
def ab.FY(r:ab):r.fail.aG≠none:=by
 unfold ab.fail;split
 .rename_i h;rw[h];simp
 .simp
def ab.tK(r:ab)(k:Int):(r.bT k=aa/\(r.take k).2.at_=r.at_+1/\(r.take k).2.aG=af/\0<=r.at_/\r.at_<r.l.length)\/(r.bT k=ak/\(r.take k).2.at_=r.at_/\(r.take k).2.aG≠af):=by
 cases h:r.bT k
 .right;simp only[ab.take,h,dm,cn,pU];exact⟨r.adB,r.FY⟩
 .left;have h' := h;simp only[ab.bT,ab.ok,bz,bC,ca,Cv] at h';obtain⟨h1,h0,hk⟩:=h';simp only[ab.take,h,cD,pU];refine⟨h1,h0,?_⟩;cases hq:r.l[r.at_.toNat]? with
  | none=>rw[hq] at hk;simp at hk
  | some t=>have:=(fg.1 hq).1;omega
def ab.vg(r:ab)(k:Int):bd (r.take k).1.ah<=bd r.l/\((r.take k).2.aG=af->bd (r.take k).1.ah+1<=bd r.l):=by
 rcases r.tK k with ⟨h,_,_,h1,h2⟩ | ⟨h,_,h1⟩
 .have aB:r.at_.toNat<r.l.length:=by omega
  have:=alE aB
  simp only[ab.take,h,cD,gU,cL aB,E8];exact⟨by omega,λ_=>this⟩
 .refine⟨?_,λhb=>absurd hb h1⟩;simp[ab.take,h,ar.zero,ar.ah,bd]
def ar.inner(t:ar):ab:=⟨t.ah,0,t.fin,af⟩
def ab.close(r:ab):ab:=if r.ok=aa/\r.at_<r.l.length then r.fail else r
def ab.under(r i:ab):ab:={r with aG:=i.close.aG}
structure Reads{G:Type}(one:ab->G × ab):Prop where
 l:∀r,(one r).2.l=r.l
 go:∀r,0<=r.at_->r.at_<=r.l.length->r.at_<=(one r).2.at_/\(one r).2.at_<=r.l.length/\((one r).2.aG=af->r.at_+1<=(one r).2.at_)
def cc(one:ab->G × ab)(a:ab × List G):ab × List G:=((one a.1).2,a.2++[(one a.1).1])
def ab.inside(step:ab × List G->ab × List G)(empty:Bool)(t:ar):ab × List G:=if empty=aa/\t.ah.length=0 then(t.inner,[]) else dS step t.inner
def ab.bracket(step:ab × List G->ab × List G)(kind:Int)(empty:Bool)(r:ab):(List G × Int) × ab :=
 if (r.take kind).2.ok=aa then(((ab.inside step empty (r.take kind).1).2,(r.take kind).1.tok.pos),(r.take kind).2.under (ab.inside step empty (r.take kind).1).1) else(([],0),(r.take kind).2)
def ab.nodes(one:ab->Nd × ab)(kind:Int)(empty:Bool)(r:ab):(List Nd × Int) × ab:=r.bracket (cc one) kind empty
def ab.words(empty:Bool)(r:ab):(List aA × Int) × ab:=r.bracket fZ 123 empty
end Go.Am
namespace Go.Am
def nq:List V:=.int .i64 0::au 64 (.int .u64 0)
def qL:List V:=.int .i64 0::.sl .aV 1 []::nq
def HP:List Nat:=au 65 1
def gE(l:List bB):List V:=l.map λw=>.int .u64 (w.toNat:Nat)
section
variable {l m:List bB} {i n:Nat} {w:bB}
def FR:(gE l).length=l.length:=by simp[gE]
def QS:cC (gE l)=true:=by induction l with | nil=>rfl | cons a l ih=>simpa [gE,cC,V.one] using ih
def QR:bK (gE l)=true:=by induction l with | nil=>rfl | cons a l ih=>simpa [gE,bK,V.cI] using ih
def QN:bx (gE l)=gE l:=by induction l with | nil=>rfl | cons a l ih=>simp only[gE,b8,bx,V.erase] at ih ⊢;rw[ih]
def QP:bS n (gE l)=true:=by induction l with | nil=>rfl | cons a l ih=>simpa [gE,bS,V.lo] using ih
def acX(h:i<l.length):bF ak 1 ((gE l).drop i)=U (.int .u64 ((l.getD i 0#64).toNat:Nat)):=by
 have h' : i<(gE l).length:=by rwa [FR]
 rw[mq h'];simp only[bF];simp[gE,gU,h]
def QT(h:i<l.length):setAt (gE l) i [.int .u64 (w.toNat:Nat)]=gE (l.set i w):=by
 induction l generalizing i with
 | nil=>simp at h
 | cons a l ih =>
  cases i with
  | zero=>simp only[gE,b8,List.set_cons_zero,lR,o8,me]
  | succ i=>simp only[dd,Nat.add_lt_add_iff_right] at h;simp only[gE,b8,setAt,List.set_cons_succ] at ih ⊢;rw[ih h]
def QO(h:i<l.length):bZ 1 ((gE l).drop i)=true:=by
 have h' : i<(gE l).length:=by rwa [FR]
 rw[mq h'];rfl
def QM(h:l.length=n)(h' : m.length=n):fA (au n 1) (gE l) (gE m)=U (decide (l=m)):=by
 induction n generalizing l m with
 | zero=>obtain rfl:=jv.1 h;obtain rfl:=jv.1 h';rfl
 | succ n ih =>
  cases l with
  | nil=>simp at h
  | cons a l =>
   cases m with
   | nil=>simp at h'
   | cons b m =>
    simp only[gE,b8,yP] at ih ⊢;rw[uu,ih (by simpa using h) (by simpa using h'),rD,B',<-wV];simp only[gz]
def yB:∀{c:List V},takeN c.length c=U c
 | []=>rfl
 | x::c=>by rw[dd,N2,yB];rfl
variable{c e:List V}
def N0(h:c.length=n):takeN n (c++e)=U c:=by
 subst h;induction c with
 | nil=>rfl
 | cons x c ih=>rw[dd,gI,N2,ih];rfl
def xC:∀{c:List V},bZ c.length c=aa
 | []=>rfl
 | x::c=>by rw[dd,bZ,xC]
def tu:∀{c e:List V},c.length=e.length->over c e=e
 | [],[],_=>rfl
 | x::c,y::e,h=>by rw[over,tu (by simpa using h)]
 | [],_::_,h=>by simp at h
 | _::_,[],h=>by simp at h
end
structure Rl where
 n:Int
 up:List bB
 len:up.length=64
def Rl.ext'{a b:Rl}(h:a.n=b.n)(k:a.up=b.up):a=b:=by cases a;cases b;simp only at h k;subst h;subst k;rfl
instance:DecidableEq Rl:=λa b=>if h:a.n=b.n/\a.up=b.up then isTrue (Rl.ext' h.1 h.2) else isFalse λe=>h ⟨e▸rfl,e▸rfl⟩
def Rl.zero:Rl:=⟨0,au 64 0#64,by simp⟩
def Rl.enc(r:Rl):List V:=.int .i64 r.n::gE r.up
def Rl.get(r:Rl)(i:Nat):bB:=r.up.getD i 0#64
def Rl.put(r:Rl)(i:Nat)(w:bB):Rl:=⟨r.n,r.up.set i w,by simp[r.len]⟩
def Rl.HU(r:Rl)(n:Int):Rl:=⟨n,r.up,r.len⟩
def Rl.of(n:Int)(f:Nat->bB):Rl:=⟨n,(bU 64).map f,by simp⟩
section
variable {r s:Rl} {i n m:Nat} {w:bB} {z:Int}
variable{j:Nat}
def Rl.Bf:(r.put i w).get j=if i=j/\i<64 then w else r.get j:=by
 simp only[Rl.get,Rl.put,gU,List.getElem?_set,r.len]
 by_cases h:i=j
 .subst h
  by_cases h2:i<64
  .simp[h2]
  .simp[h2,r.len]
 .simp[h]
def Rl.nY{f:Nat->bB}(h:i<64):(Rl.of z f).get i=f i:=by simp[Rl.get,Rl.of,gU,h]
def Rl.ext(h:r.n=s.n)(k:∀i,i<64->r.get i=s.get i):r=s:=by
 refine Rl.ext' h (OT (by rw[r.len,s.len]) λi h1 h2=>?_)
 have:=k i (by rw[r.len] at h1;exact h1)
 simpa [Rl.get,gU,h1,h2] using this
def Rl.cP:r.enc.length=65:=by simp[Rl.enc,FR,r.len]
def Rl.fX:cC r.enc=true:=by simp[Rl.enc,cC,V.one,QS]
def Rl.dw:bK r.enc=true:=by simp[Rl.enc,bK,V.cI,QR]
def Rl.dk:bx r.enc=r.enc:=by simp[Rl.enc,bx,V.erase,QN]
def Rl.cH:bS m r.enc=true:=by simp[Rl.enc,bS,V.lo,QP]
def Rl.fm:takeN 65 r.enc=U r.enc:=by have:=yB (c:=r.enc);rwa [Rl.cP] at this
def Rl.gQ:bF aa 65 r.enc=U (.agg r.enc):=by rw[x9,Rl.fm];rfl
def Rl.gm:bZ 65 r.enc=true:=by have:=xC (c:=r.enc);rwa [Rl.cP] at this
def Rl.fR:over s.enc r.enc=r.enc:=tu (by rw[Rl.cP,Rl.cP])
def Rl.apb:setAt s.enc 0 r.enc=r.enc:=by rw[lR,Rl.fR]
theorem Rl.tC:bF ak 1 r.enc=U (.int .i64 r.n):=rfl
theorem Rl.ao9:bZ 1 r.enc=true:=rfl
def Rl.Vv:setAt r.enc 0 [.int .i64 z]=(r.HU z).enc:=by rw[Rl.enc,lR,o8,me];rfl
def Rl.ao_:over r.enc [.int .i64 z]=(r.HU z).enc:=by rw[<-lR,Rl.Vv]
def Rl.wE:nq=Rl.zero.enc:=by rw[Rl.enc,gE,Rl.zero,List.map_replicate];rfl
def Rl.pS:fA HP r.enc s.enc=U (decide (r=s)):=by
 show fA (1::au 64 1) (.int .i64 r.n::gE r.up) (.int .i64 s.n::gE s.up)=_;rw[uu,QM r.len s.len,rD,<-wV];congr 1;exact rG.2 ⟨λh=>Rl.ext' h.1 h.2,λh=>h▸⟨rfl,rfl⟩⟩
theorem Rl.Ad{f:Nat->bB}:(Rl.of z f).n=z:=rfl
def Rl.OB:Rl.zero.HU z=Rl.of z λ_=>0#64:=by
 refine Rl.ext rfl λi hi=>?_
 rw[Rl.nY hi];simp only[Rl.get,Rl.HU,Rl.zero,gU,XZ,hi,cD,E8]
def Rl.fill{f:Nat->bB}:(Rl.of z λj=>if j<i then f j else 0#64).put i (f i)=Rl.of z λj=>if j<i+1 then f j else 0#64:=by
 refine Rl.ext rfl λk hk=>?_
 rw[Rl.Bf,Rl.nY hk,Rl.nY hk]
 by_cases h:i=k
 .subst h;simp[hk]
 .rw[aC (by omega)]
  by_cases h2:k<i
  .rw[aE h2,aE (by omega)]
  .rw[aC h2,aC (by omega)]
def Rl.wO(h:i<64):bF ak 1 (r.enc.drop (1+i))=U (.int .u64 ((r.get i).toNat:Nat)):=by
 rw[Cu,Rl.enc,Cp,acX (by rw[r.len];exact h)];rfl
def Rl.AB(h:i<64):bZ 1 (r.enc.drop (1+i))=true:=by
 rw[Cu,Rl.enc,Cp,QO (by rw[r.len];exact h)]
def Rl.AD(h:i<64):setAt r.enc (1+i) [.int .u64 (w.toNat:Nat)]=(r.put i w).enc:=by
 rw[Cu,Rl.enc,jo,QT (by rw[r.len];exact h)];rfl
def Rl.al:=ae @Rl.cP <| ae @Rl.fX <| ae @Rl.dw <| ae @Rl.dk <| ae @Rl.cH <| ae @Rl.fm <| ae @Rl.gQ <| ae @Rl.gm <| ae @Rl.fR <| ae @Rl.tC <| ae @Rl.ao9 <| ae @Rl.apb <| ae @Rl.Vv <| ae @Rl.ao_ <| ae @Rl.wE @Rl.pS
end
abbrev IX:=Option (Nat × Bool)->List Nat->Nat->List (AO × List Nat)
abbrev b7:=IX->IX
def sl:List Nat->List X
 | []=>[]
 | a::l=>.s a::sl l
def zv:Nat->V
 | 0=>.int .i64 0
 | 1=>.aF []
 | 2=>.bool ak
 | 3=>.int .u8 0
 | 4=>.int .u64 0
 | n+5=>.sl .aV n []
def sf:List (Nat × Nat × Nat)->List (Nat × Nat × X)
 | []=>[]
 | (a,b,c)::l=>(a,b,.s c)::sf l
def zl:List Nat->List V
 | []=>[]
 | a::l=>zv a::zl l
def wd(p:aI):b7:=λk g m n=>(⟨U n,p,g⟩,m)::k g [] (n+1)
def wu(d:Option Nat)(p:aI):b7:=λk g m n=>(⟨d,p,g⟩,m)::k g [] n
def wn(f:Nat->aI):b7
 | _,_,_,0=>[]
 | k,g,m,n+1=>(⟨U (n+1),f n,g⟩,m)::k g [] (n+2)
def wp(d:Option Nat)(f:Nat->aI):b7
 | _,_,_,0=>[]
 | k,g,m,n+1=>(⟨d,f n,g⟩,m)::k g [] (n+1)
def om(a:Nat):b7:=wd (.mv (.s a))
def oi(z:Int):b7:=wd (.mv (.c (.int .i64 z)))
def oz(i:Nat):b7:=wd (.mv (.c (zv i)))
def ob(p:BinOp)(a b:Nat):b7:=wd (.ek p (.s a) (.s b))
def oB(p:BinOp)(a:Nat)(z:Int):b7:=wd (.ek p (.s a) (.c (.int .i64 z)))
def ou(p:BinOp)(a:Nat)(z:Int):b7:=wd (.ek p (.s a) (.c (.int .u8 z)))
def oE(p:BinOp)(a b:Nat):b7:=wd (.mW p (.s a) (.s b))
def ol(i a:Nat):b7:=wd (.load aa i (.s a))
def oo(a:Nat):b7:=wd (.load ak 1 (.s a))
def ok(a:Nat):b7:=wd (.uX (.s a))
def of(i a:Nat):b7:=wd (.nW i (.s a))
def ov(i j a:Nat):b7:=wd (.uz aa j i (.s a))
def ow(i a:Nat):b7:=wd (.uz ak i 1 (.s a))
def oL(a:Nat):b7:=wd (.uS (.s a))
def oT(a:Nat):b7:=wd (.uT (.s a))
def oA(i a b:Nat):b7:=wd (.r6 i (.s a) (.s b))
def oI(i a:Nat)(z:Int):b7:=wd (.r6 i (.s a) (.c (.int .i64 z)))
def oS(a b:Nat):b7:=wd (.sZ (.s a) (.s b))
def oe(a i:Nat):b7:=wd (.ext (.s a) i)
def oc(f:FuncId)(l:List X):b7:=wd (.call f l)
def oC(f:FuncId)(l:List Nat):b7:=wd (.call f (sl l))
def oO(q:OQ)(l:List Nat):b7:=wd (.own q (sl l))
def oK(a b c:Nat):b7:=wd (.yu (.s a) (U (.s b)) (U (.s c)))
def oW(z:List Nat)(l:List (Nat × Nat × Nat)):b7:=wd (.build (zl z) (sf l))
def oG(z:List Nat)(l:List (Nat × Nat × X)):b7:=wd (.build (zl z) l)
def oM(l:List Nat):b7:=wd (.alloc (zl l))
def oY(z:List V)(l:List (Nat × Nat × X)):b7:=wd (.build z l)
def op(a b c:Nat):b7:=wd (.pick (.s a) (.s b) (.s c))
def oa(i a b:Nat):b7:=wd (.app i (.s a) (.s b))
def oy(a b:Nat):b7:=wd (.pick (.s a) (.s b) (.c (.bool ak)))
def on(a:Nat):b7:=wd (.not (.s a))
def oq(q:aI):b7:=wd (q)
def oP(m i a b:Nat):b7:=wd (.q_ m i (.s a) (.s b))
def oQ(m i a:Nat)(z:Int):b7:=wd (.q_ m i (.s a) (.c (.int .i64 z)))
def nm:b7:=wn λn=>.mv (.s n)
def nB(p:BinOp)(z:Int):b7:=wn λn=>.ek p (.s n) (.c (.int .i64 z))
def nu(p:BinOp)(z:Int):b7:=wn λn=>.ek p (.s n) (.c (.int .u8 z))
def nb(p:BinOp)(a:Nat):b7:=wn λn=>.ek p (.s a) (.s n)
def nE(p:BinOp)(a:Nat):b7:=wn λn=>.mW p (.s a) (.s n)
def nl(i:Nat):b7:=wn λn=>.load aa i (.s n)
def no:b7:=wn λn=>.load ak 1 (.s n)
def nk:b7:=wn λn=>.uX (.s n)
def nf(i:Nat):b7:=wn λn=>.nW i (.s n)
def nL:b7:=wn λn=>.uS (.s n)
def nT:b7:=wn λn=>.uT (.s n)
def nA(i a:Nat):b7:=wn λn=>.r6 i (.s a) (.s n)
def nI(i:Nat)(z:Int):b7:=wn λn=>.r6 i (.s n) (.c (.int .i64 z))
def nS(a:Nat):b7:=wn λn=>.sZ (.s a) (.s n)
def nn:b7:=wn λn=>.not (.s n)
def nO(q:OQ):b7:=wn λn=>.own q [.s n]
def n1(i:Nat):b7:=wn λn=>.kf i [.s n]
def na(i a:Nat):b7:=wn λn=>.app i (.s a) (.s n)
def os(i a b:Nat):b7:=wu af (.store i (.s a) (.s b))
def ot(d a:Nat):b7:=wu (U d) (.mv (.s a))
def oj(d:Nat)(z:Int):b7:=wu (U d) (.mv (.c (.int .i64 z)))
def oV(d:Nat)(v:V):b7:=wu (U d) (.mv (.c v))
def oU(d i:Nat):b7:=wu (U d) (.mv (.c (zv i)))
def ox(d i a:Nat):b7:=wu (U d) (.box i (.s a))
def oX(d i a:Nat):b7:=wu (U d) (.uh i (.s a))
def oZ(d:Nat)(l:List Nat):b7:=wu (U d) (.alloc (zl l))
def oR(d:Nat)(l:List V):b7:=wu (U d) (.alloc l)
def od(d:Option Nat)(q:aI):b7:=wu d (q)
def oN:b7:=wu af (.mv (.c .any))
def o1(d:Nat):b7:=wp (U d) λn=>.mv (.s n)
def o2(i a:Nat):b7:=wp af λn=>.store i (.s a) (.s n)
def fo(i a:Nat):b7:=λk=>of i a (no k)
def nF(i:Nat):b7:=λk=>nf i (no k)
def mk(a:Nat):b7:=λk=>om a (nk k)
def ic(a:Nat):b7:=λk=>om a (nB .add 1 (o1 a k))
def mM(l:List Nat):b7:=λk g _ n=>k g l n
def gA:b7
 | _,_,_,0=>[]
 | k,_,m,n+1=>(⟨U (n+1),.mv (.s n),af⟩,m)::k (U (n+1,aa)) [] (n+2)
def gB:b7
 | _,_,_,0=>[]
 | k,_,m,n+1=>(⟨U (n+1),.mv (.s n),af⟩,m)::k (U (n+1,ak)) [] (n+2)
def gZ:b7
 | k,U (g,aa),m,n+1=>(⟨U (n+1),.pick (.s g) (.s n) (.c (.bool ak)),af⟩,m)::k af [] (n+2)
 | k,U (g,ak),m,n+1=>(⟨U (n+1),.pick (.s g) (.c (.bool aa)) (.s n),af⟩,m)::k af [] (n+2)
 | _,_,_,_=>[]
def og(g:Nat)(o:b7):b7:=λk h=>o (λ_=>k h) (U (g,aa))
def oh(g:Nat)(o:b7):b7:=λk h=>o (λ_=>k h) (U (g,ak))
def ru:List b7->IX
 | []=>λ_ _ _=>[]
 | o::l=>o (ru l)
def fs:List (AO × List Nat)->List AO
 | []=>[]
 | x::l=>x.1::fs l
def rg(n:Nat)(l:List b7):AC:=.Eg (fs (ru l af [] n))
def dg(n:Nat)(l:List b7):AC:=.draw (ru l af [] n)
def dA(n:Nat)(v:List Nat)(l:List b7):AC:=.FL v (ru l af [] n)
def rS(n:Nat)(l:List b7):List AO:=fs (ru l af [] n)
def dH(n:Nat)(h:HI)(l:List b7):AC:=.hole (ru l af [] n) h
def sq:List AC->AC
 | []=>.skip
 | [a]=>a
 | a::b::l=>.seq a (sq (b::l))
def cd(n:Nat)(a b:AC):AC:=.cond (.s n) a b
def ci(n:Nat)(a:AC):AC:=.cond (.s n) a .skip
def cx(n k:Nat):AC:=.cond (.s n) .skip (.exit k)
def bl(k:Nat)(a:AC):AC:=.block k (.loop a)
def cr(n m:Nat)(l:List b7):AC:=.cond (.s n) (.seq (.Eg (fs (ru l af [] m))) .ret) .skip
def lp(q k:Nat)(a:AC)(m:Nat):AC:=.block k (.loop (.seq (rg (q+2) [ob .lss (q+1) q]) (.seq (cx (q+2) k) (.seq (.block (k+1) a) (rg m [oB .add (q+1) 1,o1 (q+1)])))))
variable{f:FuncId}{rs:List RV}
def aW{P:Program}{x:AC}{n:Nat}{fn:Func}(h1:P.funcs[f]?=U fn)(h:Hint:={})(h2:(fn.name == "runtime.NumGoroutine",fn.body.bind (fO P h),zY P fn.results.toList,fn.ntmps)=(ak,U x,U rs,n):=by kernel_rfl):aT P f x rs n:=by
 simp only[nN] at h2;exact⟨fn,h,h1,h2.1,h2.2.1,h2.2.2.1,h2.2.2.2⟩
def a8:=ae @sl.eq_1 <| ae @sl.eq_2 <| ae @zv.eq_1 <| ae @zv.eq_2 <| ae @zv.eq_3 <| ae @zv.eq_4 <| ae @zv.eq_5 <| ae @zv.eq_6 <| ae @zl.eq_1 <| ae @zl.eq_2 <| ae @wd.eq_1 <| ae @wu.eq_1 <| ae @wn.eq_2 <| ae @wp.eq_2 <| ae @om.eq_1 <| ae @oi.eq_1 <| ae @oz.eq_1 <| ae @ob.eq_1 <| ae @oB.eq_1 <| ae @ou.eq_1 <| ae @oE.eq_1 <| ae @ol.eq_1 <| ae @oo.eq_1 <| ae @ok.eq_1 <| ae @of.eq_1 <| ae @ov.eq_1 <| ae @ow.eq_1 <| ae @oL.eq_1 <| ae @oT.eq_1 <| ae @oA.eq_1 <| ae @oI.eq_1 <| ae @oS.eq_1 <| ae @oe.eq_1 <| ae @oc.eq_1 <| ae @oC.eq_1 <| ae @oO.eq_1 <| ae @oK.eq_1 <| ae @oW.eq_1 <| ae @oG.eq_1 <| ae @oM.eq_1 <| ae @sf.eq_1 <| ae @sf.eq_2 <| ae @oY.eq_1 <| ae @op.eq_1 <| ae @oa.eq_1 <| ae @oy.eq_1 <| ae @on.eq_1 <| ae @oq.eq_1 <| ae @oP.eq_1 <| ae @oQ.eq_1 <| ae @nm.eq_1 <| ae @nB.eq_1 <| ae @nu.eq_1 <| ae @nb.eq_1 <| ae @nE.eq_1 <| ae @nl.eq_1 <| ae @no.eq_1 <| ae @nk.eq_1 <| ae @nf.eq_1 <| ae @nL.eq_1 <| ae @nT.eq_1 <| ae @nA.eq_1 <| ae @nI.eq_1 <| ae @nS.eq_1 <| ae @nn.eq_1 <| ae @nO.eq_1 <| ae @n1.eq_1 <| ae @na.eq_1 <| ae @os.eq_1 <| ae @ot.eq_1 <| ae @oj.eq_1 <| ae @oV.eq_1 <| ae @oU.eq_1 <| ae @ox.eq_1 <| ae @oX.eq_1 <| ae @oZ.eq_1 <| ae @oR.eq_1 <| ae @od.eq_1 <| ae @oN.eq_1 <| ae @o1.eq_1 <| ae @o2.eq_1 <| ae @fo.eq_1 <| ae @nF.eq_1 <| ae @mk.eq_1 <| ae @ic.eq_1 <| ae @mM.eq_1 <| ae @gA.eq_2 <| ae @gB.eq_2 <| ae @gZ.eq_1 <| ae @gZ.eq_2 <| ae @og.eq_1 <| ae @oh.eq_1 <| ae @ru.eq_1 <| ae @ru.eq_2 <| ae @fs.eq_1 <| ae @fs.eq_2 <| ae @rg.eq_1 <| ae @dg.eq_1 <| ae @dA.eq_1 <| ae @rS.eq_1 <| ae @dH.eq_1 <| ae @sq.eq_2 <| ae @sq.eq_3 <| ae @cd.eq_1 <| ae @ci.eq_1 <| ae @cx.eq_1 <| ae @bl.eq_1 <| ae @cr.eq_1 @lp.eq_1
variable{c:List V}{ik:IntKind}{k:Nat}{m:List (List V)}
def ix{Y:Tk}{n:Int}{K:V->Prop}(h:m[n.toNat]?=U c)(hk:K (.elt c 0))(h0:0<=n:=by omega):zM k (.sl Y k m) (.int ik n) K:=qZ h0 h hk
variable{l:List (List V)}{t:List V}{v:V}{Z:ag}
def rt{w:V}(h:v.erase=w:=by simp[V.erase,bx])(h1:v.cI=true:=by rfl):mV (λv σ' => v=w/\σ' = Z) ⟨t,l,Z⟩ v:=aU h h1
def ag.B4{a b c:ag}(h:a.sub b)(k:b.sub c):a.sub c:=⟨λx cs hx=>k.1 x cs (h.1 x cs hx),λx n hx=>k.2.1 x n (h.2.1 x n hx),λx n hx=>k.2.2 x n (h.2.2 x n hx)⟩
variable{E:Env}{σ':ag}
def Env.ok.eh(h:E.ok Z)(ho:bL Z σ'):E.ok σ' := by
 refine⟨λb cs hb=>?_,λt n ht=>h.aK t n (ho.aK t n ht),h.fresh,h.nt,λb cs hc=>h.bY b cs (ho.bY b cs hc)⟩;obtain⟨ds,h1,h2⟩:=ho.box b cs hb;obtain⟨k1,k2⟩:=h.box b ds h1;exact⟨k1,k2.eh h2⟩
variable{as:List V}
def cg.le{P:Program}{S S' : ag}(h:cg P f as Z λv' σ' => v' = v/\σ' = S)(ho:bL S S'):cg P f as Z λv' σ' => v' = v/\σ' = S' :=
 ⟨h.1,λE vs h1 h2 h3=>(h.2 E vs h1 h2 h3).mono λ_ _ ⟨v',x,E',σ',a,b,c,d,e,f,g⟩=>⟨v',x,E',S',a,b,c,(g.2▸d).eh ho,e,f,g.1,rfl⟩⟩
variable{b:Nat}
def bL.set{A B:List V}(h:cJ A B):bL (Z.set b A) (Z.set b B):=by
 refine⟨λx cs' hx=>?_,λ_ _ h=>h,λ_ _ h=>h⟩;simp only[ag.set] at hx ⊢
 by_cases e:x=b
 .rw[aE e] at hx ⊢;simp only[aZ] at hx;subst hx;exact⟨A,Eq.refl _,h⟩
 .rw[aC e] at hx ⊢;exact⟨cs',hx,cJ.rfl⟩
section
variable {Z:ag}
variable{H:V->ag->Prop}
def alM{a b:Int}{k:IntKind}(hk:H (.int k (if b<a then b else a)) Z):OQ.ba Z H .min [.int k a,.int k b]:=⟨GW,hk⟩
def alJ{a b:Int}{k:IntKind}(hk:H (.int k (if a<b then b else a)) Z):OQ.ba Z H .max [.int k a,.int k b]:=⟨GW,hk⟩
variable{cs ds:List V}
def aqu{g:Nat}(h:Z.box b=af)(hg:Z.box g=U ds):(Z.set b cs).box g=U ds:=by
 rw[ag.eg _ _ (by rintro rfl;rw[h] at hg;simp at hg)];exact hg
def h_(h:Z.box b=af):Z.sub (Z.set b cs) :=
 ⟨λg ds hg=>aqu h hg,λ_ _ h=>h,λ_ _ h=>h⟩
end
section
variable {P:Program} {a:AC} {Q:Exit->St->Prop} {st:St} {α:Type} {F:Nat->α->St} {J:Nat->α->Prop} {n:Nat}
def CI(n:Nat)(J:Nat->α->Prop):={p:Nat × α // p.1<=n/\J p.1 p.2}
def yF(F:Nat->α->St)(J:Nat->α->Prop)(n:Nat)(Q:Exit->St->Prop)(i:Nat):Exit->St->Prop :=
 yJ (ι:=CI n J) (λp=>F p.1.1 p.1.2) (λp=>n - p.1.1) Q (n - i)
def AM(F:Nat->α->St)(J:Nat->α->Prop)(st:St):Prop:=bq st λaJ => ∃x,J 0 x/\aJ = F 0 x
def arX(n:Nat)(F:Nat->α->St)(J J' : Nat->α->Prop)(hJ:∀i x,J i x=J' i x)(h0:AM F J st)
 (hs:∀i x,i<n->J' i x->vc P a (yF F J n Q i) (F i x)) (he:∀x,J' n x->vc P a (yF F J n Q n) (F n x)):vc P (.loop a) Q st:=by
 refine iG (ι:=CI n J) (λp=>F p.1.1 p.1.2) (λp=>n - p.1.1) (bq.mono h0 ?_) ?_
 .rintro aJ ⟨x,hx,rfl⟩;exact⟨⟨(0,x),IW _,hx⟩,rfl⟩
 .rintro⟨⟨i,x⟩,hle,hx⟩
  rcases vw i n with h | h
  .exact hs i x h ((hJ i x)▸hx)
  .have e:i=n:=Nat.le_antisymm hle h;subst e;exact he x ((hJ i x)▸hx)
variable{i:Nat}
theorem aba{id:Nat}:yF F J n Q i (.exit id) st=Q (.exit id) st:=rfl
theorem abc:yF F J n Q i .ret st=Q .ret st:=rfl
def EL(F:Nat->α->St)(J:Nat->α->Prop)(n i:Nat)(st:St):Prop:=bq st λaJ => ∃j:CI n J,aJ = F j.1.1 j.1.2/\n - j.1.1<n - i
theorem abb:yF F J n Q i .normal st=EL F J n i st:=rfl
def a9:=ae @aba <| ae @abc @abb
variable {t:List V} {l:List (List V)} {Z:ag}
def ent(x:α)(hx:J 0 x)(h:cJ t (F 0 x).t)(hl:cm l (F 0 x).aD)(ho:bL Z (F 0 x).out):AM F J ⟨t,l,Z⟩ :=
 bq.eh h hl ho ⟨x,hx,rfl⟩
def nxt(x:α)(hi:i<n)(hx:J (i+1) x)(h:cJ t (F (i+1) x).t)(hl:cm l (F (i+1) x).aD)(ho:bL Z (F (i+1) x).out):EL F J n i ⟨t,l,Z⟩ :=
 bq.eh h hl ho ⟨⟨(i+1,x),hi,hx⟩,rfl,by simp only;omega⟩
def dP(n:Nat)(F0:Nat->α->St)(J0:Nat->α->Prop)
 (k:∀F:Nat->α->St,(∀i x,F i x=F0 i x)->∀J:Nat->α->Prop,(∀i x,J i x=J0 i x)->AM F J st/\(∀i x,i<n->J0 i x->vc P a (yF F J n Q i) (F i x))/\∀x,J0 n x->vc P a (yF F J n Q n) (F n x)):vc P (.loop a) Q st:=by
 obtain⟨F,hF⟩:∃F:Nat->α->St,∀i x,F i x=F0 i x:=⟨_,λ_ _=>rfl⟩;obtain⟨J,hJ⟩:∃J:Nat->α->Prop,∀i x,J i x=J0 i x:=⟨_,λ_ _=>rfl⟩;obtain⟨a1,a2,a3⟩:=k F hF J hJ;exact arX n F J J0 hJ a1 a2 a3
def en{J' : Nat->α->Prop}(hJ:∀i x,J i x=J' i x)(x:α)(hx:J' 0 x)(h:cJ t (F 0 x).t:=by simp[hF,au,am,bQ])(hl:cm l (F 0 x).aD:=by simp[hF,au,am,bQ])(ho:bL Z (F 0 x).out:=by simp[hF,au,am,bQ]):AM F J ⟨t,l,Z⟩ :=
 ent x ((hJ _ _).symm▸hx) h hl ho
def nx{J' : Nat->α->Prop}(hJ:∀i x,J i x=J' i x)(x:α)(hi:i<n)(hx:J' (i+1) x)(h:cJ t (F (i+1) x).t:=by simp[hF,au,am,bQ])(hl:cm l (F (i+1) x).aD:=by simp[hF,au,am,bQ])(ho:bL Z (F (i+1) x).out:=by simp[hF,au,am,bQ]):EL F J n i ⟨t,l,Z⟩ :=
 nxt x hi ((hJ _ _).symm▸hx) h hl ho
def fQ(x:α)(hi:i<n)(hx:J (i+1) x)(h:cJ t (F (i+1) x).t)(hl:cm (l.take (F (i+1) x).aD.length) (F (i+1) x).aD)(ho:bL Z (F (i+1) x).out)(h1:bS (F (i+1) x).aD.length (F (i+1) x).t=aa)(h2:dL (F (i+1) x).aD.length (F (i+1) x).aD=aa):EL F J n i ⟨t,l,Z⟩ :=
 bq.A8 h hl ho h1 h2 ⟨⟨(i+1,x),hi,hx⟩,rfl,by simp only;omega⟩
structure Gr(dr Z:ag)(tk:Tk)(n:Nat):Prop where
 sub:dr.sub Z
 tk:tk = .aV\/∃Y,tk = .tk Y/\Z.aK Y=U n/\dr.aK Y=af
def Gr.nil{Z:ag}:Gr Z Z .aV 0:=⟨ag.bc _,.inl rfl⟩
variable{u:Tk}
def Gr.app{dr Z:ag}{tk:Tk}{e:List (List V)}{K:V->ag->Prop}(h:Gr dr Z tk m.length)(hb:m.length+e.length<=aO)
 (hk:∀jJ σ',Gr dr σ' jJ (m++e).length->σ'.box=Z.box->(∀Y n,Z.aK Y=U n->tk≠.tk Y->σ'.aK Y=U n)->K (.sl jJ k (m++e)) σ'):pX Z k (.sl tk k m) (.sl u k e) K:=by
 have hl:(m++e).length=m.length+e.length:=bN
 rcases h.tk with rfl | ⟨Y,rfl,ht,h0⟩
 .refine Fm hb λY hn=>hk _ _ ⟨⟨λb cs hc=>h.sub.1 b cs hc,λυ n hu=>?_,h.sub.2.2⟩,.inr ⟨Y,rfl,by rw[hl];exact NL,?_⟩⟩ rfl λυ n hu _=>?_
  .have:=h.sub.2.1 υ n hu
   rw[pe];exact this;rintro rfl;rw[hn] at this;simp at this
  .cases hq:dr.aK Y with
   | none=>rfl
   | some n=>have:=h.sub.2.1 Y n hq;rw[hn] at this;simp at this
  .rw[pe];exact hu;rintro rfl;rw[hn] at hu;simp at hu
 .refine jP hb ht (hk _ _ ⟨⟨λb cs hc=>h.sub.1 b cs hc,λυ n hu=>?_,h.sub.2.2⟩,.inr ⟨Y,rfl,by rw[hl];exact NL,h0⟩⟩ rfl λυ n hu aX=>?_)
  .rw[pe];exact h.sub.2.1 υ n hu;rintro rfl;rw[h0] at hu;simp at hu
  .rw[pe];exact hu;rintro rfl;exact aX rfl
def bQ{l:List V}:cJ l l=True:=eq_true cJ.rfl
def arl{α:Type}{l:List α}{p:α->Prop}(h:∀k∈l.take i,p k)(hi:i<l.length)(hk:p l[i]):∀k∈l.take (i+1),p k:=by
 rw[jx hi];intro k hm
 rcases jw.1 hm with hm | hm
 .exact h k hm
 .rw[pj.1 hm];exact hk
def Rt{α G:Type}{f:G->α->G}{a:G}{l:List α}(hi:i<l.length):(l.take (i+1)).foldl f a=f ((l.take i).foldl f a) l[i]:=by
 rw[jx hi,AQ];rfl
variable{j:Nat}
def AY{p:Nat->Prop}(h:∀k,k<j->p k)(hj:p j):∀k,k<j+1->p k:=λk hk=>by
 rcases X7.1 hk with e | rfl
 .exact h k e
 .exact hj
def dB{i n:Nat}(h:i<n):decide ((i:Int)<(n:Nat))=true:=aQ (by omega)
def dV{n:Nat}:decide ((n:Int)<(n:Nat))=false:=aM (by omega)
def cE{i n:Nat}(h:i<n)(hn:n<=9223372036854775807:=by omega):IntKind.i64.wrap ((i:Int)+1)=((i+1:Nat):Int):=by
 rw[wrap_i64 (by omega) (by omega)];rfl
end
def iW(n b:Nat):V->V
 | .ptr (.aD i) o=>if i=n then .ptr (.out b) o else if i<n then .ptr (.aD i) o else .any
 | v=>if v.lo n=aa then v else .any
def Env.o_(E:Env)(n b:Nat):Env:={w:=E.w,a7:=λx=>if x=b then .pJ else E.a7 x,aD:=λi=>if i<n then E.aD i else af,aK:=E.aK}
section
variable {E:Env} {n b:Nat}
def M0(h2:E.a7 b = .iB n):Fr E (E.o_ n b):=by
 have ko:∀x,x≠b->(E.o_ n b).a7 x=E.a7 x:=λx hx=>by simp[Env.o_,hx]
 refine⟨rfl,rfl,rfl,bP _,λ_=>rfl,λb' o c hc hv=>?_,λt m h=>⟨m,h,bP _,λ_ b' c hr=>⟨?_,λcs e bR=>⟨cs,bR,rfl⟩⟩⟩,λb' _ hr=>⟨rfl,?_⟩,λb' _ h=>?_,λb' t c _ h=>?_,λb' i _ h=>?_,λ_ c _ h=>⟨c,h,rfl⟩⟩
 .have aX:b' ≠ b:=λe=>by rw[e,h2] at hc;exact hc
  exact⟨by rw[ko _ aX];exact hc,hv⟩
 .have aX:b' ≠ b:=λe=>by rw[e,h2] at hr;simp at hr
  rw[ko _ aX];exact hr
 .have aX:b' ≠ b:=λe=>by rw[e,h2] at hr;simp at hr
  rw[ko _ aX]
 .by_cases e:b' = b
  .rw[e];exact .inr ⟨_,h2⟩
  .rw[ko _ e] at h;exact .inl h
 .by_cases e:b' = b
  .rw[e] at h;simp[Env.o_] at h
  .rw[ko _ e] at h;exact⟨c,h⟩
 .by_cases e:b' = b
  .rw[e] at h;simp[Env.o_] at h
  .rw[ko _ e] at h;exact⟨i,h⟩
def Vl(h1:E.aD n=U b)(h2:E.a7 b = .iB n){x:V}{v:Value}(h:R E x v):R (E.o_ n b) (iW n b x) v:=by
 have KC:∀{x:V},R E x v->R (E.o_ n b) (if x.lo n=aa then x else .any) v:=λ{x} h=>by
  split
  .rename_i hl;have hc:=R.cut x hl h;refine R.mono x (E:=E.cut n) ⟨(M0 h2).cell,λi c hc=>?_,(M0 h2).tok⟩ hc;simp only[Env.cut] at hc;simp only[Env.o_];exact hc
  .simp only[R]
 unfold iW;split
 .rename_i i o;simp only[R] at h;obtain⟨c,k1,k2⟩:=h;split
  .rename_i e;subst e;rw[h1] at k1;simp only[R];rw[k2];cases k1;rfl
  .split
   .rename_i aB;simp only[R,Env.o_];exact⟨c,by rw[aE aB];exact k1,k2⟩
   .simp only[R]
 .exact KC h
def Vm(h1:E.aD n=U b)(h2:E.a7 b = .iB n):∀{l:List V} {vs:List Value},RL E l vs->RL (E.o_ n b) (l.map (iW n b)) vs
 | [],[],_=>by simp[RL]
 | [],_::_,h=>by simp[RL] at h
 | _::_,[],h=>by simp[RL] at h
 | x :: l, v :: vs, h => by
  simp only[RL,b8] at h ⊢;exact⟨Vl h1 h2 h.1,Vm h1 h2 h.2⟩
end
variable{K:St->Prop}{cs:List V}
def bq.aoL(hn:bK cs=aa)
 (hk:∀b,Z.box b=af->K ⟨t.map (iW l.length b),l.map (List.map (iW l.length b)),Z.set b cs⟩):bq ⟨t,l++[cs],Z⟩ K:=by
 intro E a hs;obtain⟨b,h1,h2,h3⟩:=hs.cV.box l.length cs (by simp);have bf:=M0 h2;have ko:∀x,x≠b->(E.o_ l.length b).a7 x=E.a7 x:=λx hx=>by simp[Env.o_,hx]
 have Dd:Z.box b=none:=by
  cases hq:Z.box b with
  | none=>rfl
  | some ds=>have:=(hs.ok.box b ds hq).1;rw[h2] at this;simp at this
 have aB:b<E.w.heap.size:=by obtain⟨c,e,k,_⟩:=h3;exact kx (w:=E.w) k
 refine⟨E.o_ l.length b,⟨t.map (iW l.length b),l.map (List.map (iW l.length b)),Z.set b cs⟩,rfl,bf,⟨⟨λb' ds hd=>?_,hs.ok.aK,λb' b9 => ?_,hs.ok.nt,λb cs hc=>dZ.mono _ bf.nl (hs.ok.bY b cs hc)⟩,⟨λi ds hd=>?_,λi hi=>?_⟩,hs.defers,Vm h1 h2 hs.slot⟩,hk b Dd⟩
 .by_cases e:b' = b
  .subst e;have hd:(Z.set b' cs).box b' = U ds:=hd;rw[gR] at hd;cases hd;refine⟨by simp[Env.o_],?_⟩;obtain⟨c,e,k1,k2,k3⟩:=h3;refine⟨c,e,k1,k2,λj x hx=>?_⟩;obtain⟨v,q1,q2⟩:=k3 j x hx;refine⟨v,q1,R.o7 (E:=E) x (by rw[Env.al8];exact bf.nl) ?_ q2⟩
   have:∀{l:List V} {j:Nat} {x:V},bK l=aa->l[j]?=U x->x.cI=true:=by
    intro l;induction l with
    | nil=>intro j x _ h;simp at h
    | cons y ys ih =>
     intro j x hl h;simp only[bK,bC] at hl;cases j with
     | zero=>simp at h;rw[<-h];exact hl.1
     | succ j=>exact ih hl.2 (by simpa using h)
   exact this hn hx
  .have hd:(Z.set b cs).box b' = U ds:=hd;rw[mL e] at hd;obtain⟨k1,k2⟩:=hs.ok.box b' ds hd;exact⟨by rw[ko _ e];exact k1,k2.mono bf.nl rfl⟩
 .have b9 : E.w.heap.size<=b' := b9;rw[ko b' (by omega)];exact hs.ok.fresh b' b9
 .have hd:(l.map (List.map (iW l.length b)))[i]?=U ds:=hd;simp only[vt,c7] at hd;obtain⟨QG,Gq,rfl⟩:=hd;have hi:i<l.length:=(fg.1 Gq).1;obtain⟨bi,k1,k2,c,e,k3,k4,k5⟩:=hs.cV.box i QG (by rw[sA hi];exact Gq);have aX:bi≠b:=λe=>by rw[e,h2] at k2;simp at k2;omega
  refine⟨bi,by simp[Env.o_,hi,k1],by rw[ko _ aX];exact k2,c,e,k3,by simpa using k4,λj x hx=>?_⟩;simp only[vt,c7] at hx;obtain⟨x0,DF,rfl⟩:=hx;obtain⟨v,q1,q2⟩:=k5 j x0 DF;exact⟨v,q1,Vl h1 h2 q2⟩
 .have hi:l.length<=i:=by simpa using hi
  simp only[Env.o_];rw[aC (by omega)]
section
variable {n b i o:Nat} {k:IntKind} {z:Int} {q:Bool} {s:List UInt8} {Y:Tk} {m:List (List V)} {c:List V}
def aoD:iW n b .any = .any:=by simp[iW]
def aoG:iW n b (.int k z) = .int k z:=by simp[iW,V.lo]
def aoE:iW n b (.bool q) = .bool q:=by simp[iW,V.lo]
def aoK:iW n b (.aF s) = .aF s:=by simp[iW,V.lo]
def aoJ:iW n b (.sl Y i m) = .sl Y i m:=by simp[iW,V.lo]
def aoI:iW n b (.ptr (.out i) o) = .ptr (.out i) o:=by simp[iW,V.lo]
def aoF:iW n b (.elt c o) = .elt c o:=by simp[iW,V.lo]
theorem aoH:iW n b (.ptr (.aD i) o)=if i=n then .ptr (.out b) o else if i<n then .ptr (.aD i) o else .any:=rfl
theorem aoC:iW n b (.agg c)=if bS n c=aa then .agg c else .any:=rfl
def Vn:∀{l:List V},bS n l=aa->bK l=aa->l.map (iW n b)=l
 | [],_,_=>rfl
 | x :: l, h1, h2 => by
  simp only[bS,bK,bC] at h1 h2;rw[b8,Vn h1.2 h2.2];congr 1;unfold iW;split
  .simp[V.cI] at h2
  .rw[aE h1.1]
def Yn:=ae @aoD <| ae @aoG <| ae @aoE <| ae @aoK <| ae @aoJ <| ae @aoI <| ae @aoF <| ae @aoH @aoC
end
variable{H:V->ag->Prop}
def jM.mk1(hv:x7 k [v]=U [c])(hl:c.length=k)(hn:bK c=aa)
 (hk:∀v' σ',jM σ' k v' [c]->Cy Z σ' v' -> H v' σ'):OQ.ba Z H (.new k) [v]:=by
 refine⟨[c],hv,by simpa using hn,λb hb=>hk _ _ ⟨_,1,rfl,bP _,by simpa using hl,.inr ⟨b,c,rfl,by simp[gR],by simpa using hl,by simp[yQ,hl]⟩⟩ ⟨?_,?_⟩⟩
 .simpa using h_ (cs:=c) hb
 .intro b' b9;simp only[se,aZ] at b9;subst b9;exact hb
variable{ys:List V}
def aqm{xs:List V}{n:Nat}(h:n+c.length<=ys.length):setAt (xs++ys) (xs.length+n) c=xs++setAt ys n c:=by
 induction xs with
 | nil=>simp
 | cons x xs ih=>rw[gI,dd,show xs.length+1+n=(xs.length+n)+1 by omega,jo,ih];rfl
def UJ{xs:List V}(h:c.length<=xs.length):over (xs++ys) c=over xs c++ys:=by
 induction xs generalizing c with
 | nil=>have:c=[]:=sz (by simpa using h);subst this;simp[me]
 | cons x xs ih =>
  cases c with
  | nil=>rw[me,me]
  | cons d c=>rw[gI,o8,o8,ih (by simpa using h)];rfl
def aqn{xs:List V}{n:Nat}(h:n+c.length<=xs.length):setAt (xs++ys) n c=setAt xs n c++ys:=by
 induction xs generalizing n with
 | nil =>
  have h' : n+c.length<=0:=h;obtain rfl:c=[]:=sz (by omega);obtain rfl:n=0:=by omega
  rw[lR,lR,me,me]
 | cons x xs ih =>
  cases n with
  | zero=>rw[lR,lR,UJ (by simpa using h)]
  | succ n=>rw[gI,jo,jo,ih (by simp at h;omega)];rfl
def Ww{xs:List V}{n:Nat}(h:n+c.length<=xs.length):(setAt xs n c).length=xs.length:=by
 induction xs generalizing n with
 | nil=>cases n<;>rfl
 | cons x xs ih =>
  cases n with
  | zero =>
   rw[lR];clear ih
   have:∀{xs c:List V},c.length<=xs.length->(over xs c).length=xs.length:=by
    intro xs;induction xs with
    | nil=>intro c h;cases c with | nil=>rfl | cons d c=>simp at h
    | cons x xs ih=>intro c h;cases c with | nil=>rw[me] | cons d c=>rw[o8,dd,dd,ih (by simpa using h)]
   exact this (by simpa using h)
  | succ n=>rw[jo,dd,dd,ih (by simp at h;omega)]
variable{j off:Nat}
def jM.put{rows:List (List V)}{x:List V}(h:jM Z k v rows)(hj:rows[j]?=U c)(hb:se v=U b)(hc:Z.box b=U cs)(ho:off+x.length<=k):
 jM (Z.set b (setAt cs (j*k+off) x)) k v (rows.set j (setAt c off x))/\IY Z v (Z.set b (setAt cs (j*k+off) x)) v:=by
 obtain⟨a,cap,rfl,h1,h2,h3⟩:=h;have aB:=(fg.1 hj).1;have gK:c.length=k:=h2 c (rA hj)
 rcases h3 with h3 | ⟨b',cs',rfl,h4,h5,h6⟩
 .omega
 .simp only[se,aZ] at hb;subst hb;rw[h4] at hc;cases hc;have kQ:=my h2;have e1:cs=rows.flatten++cs.drop (rows.length*k):=by rw[<-h6];simp
  have e2:rows=rows.take j++c::rows.drop (j+1):=by
   rw[<-(fg.1 hj).2,<-mq aB,qA]
  have Gw:(rows.take j).flatten.length=j*k:=by
   have:=my (l:=rows.take j) (k:=k) λr hr=>h2 r (AS hr)
   rw[this,iR,w8 (by omega)]
  have e3:rows.flatten=(rows.take j).flatten++(c++(rows.drop (j+1)).flatten):=by
   conv=>lhs;rw[e2]
   rw[tU,kH]
  have e4:setAt cs (j*k+off) x=(rows.set j (setAt c off x)).flatten++cs.drop (rows.length*k):=by
   have hs:rows.set j (setAt c off x)=rows.take j++setAt c off x::rows.drop (j+1):=by
    rw[List.set_eq_take_append_cons_drop,aE aB]
   conv=>lhs;rw[e1,e3]
   rw[eB,<-Gw,aqm (by simp[gK];omega),eB,aqn (by omega),hs,tU,kH];simp only[eB]
  have fE:∀r∈rows.set j (setAt c off x),r.length=k:=λr hr=>by
   rcases List.mem_or_eq_of_mem_set hr with hr | rfl
   .exact h2 r hr
   .rw[Ww (by omega),gK]
  have aiw:=my fE;refine⟨⟨_,cap,by rw[List.length_set],by rw[List.length_set];exact h1,fE,.inr ⟨b',_,rfl,gR,?_,?_⟩⟩,λc' ds hd aX=>?_,rfl,λ_ h=>.inl h,rfl⟩
  .have:(setAt cs (j*k+off) x).length=cs.length:=Ww (by
    rw[h5]
    have:(j+1)*k<=cap*k:=rC _ (by omega)
    rw[je] at this;omega)
   rw[this,h5]
  .rw[e4,<-aiw,List.take_left]
  .have:c' ≠ b' := λe=>aX (by rw[e];rfl)
   rw[mL this];exact hd
def bD(r:Rl):Nat:=min r.n.toNat 64
def gy(r:Rl)(i:Nat):bB:=r.get i&&&jh (bD r:Nat)
def cY(r:Rl)(i j:Nat):Bool:=decide (i<bD r)&&(gy r i).getLsbD j
def j7(r:Rl):Rl:=Rl.of (bD r:Nat) λi=>if i<bD r then gy r i else 0#64
section
variable {r s:Rl} {i j k:Nat}
def mg:bD r<=64:=Nat.min_le_right _ _
def No:(gy r i).getLsbD j=((r.get i).getLsbD j&&decide (j<bD r)):=by
 rw[gy,tQ,A1]
 by_cases h:j<64
 .simp only[h,bM,lj];congr 1;apply rG.2;omega
 .rw[Cj _ _ (by omega)];simp
def zE:cY r i j=(decide (i<bD r)&&(decide (j<bD r)&&(r.get i).getLsbD j)):=by rw[cY,No,Bool.and_comm (BitVec.getLsbD _ _)]
def v_(h:cY r i j=aa):i<bD r/\j<bD r:=by
 rw[zE] at h;simp only[bC,ca] at h;exact⟨h.1,h.2.1⟩
def ang{n:Nat}{f:Nat->bB}(h:n<=64):bD (Rl.of (n:Nat) f)=n:=by simp only[bD,Rl.of];omega
def HH:bD (j7 r)=bD r:=ang mg
def Eb(h:i<64):(j7 r).get i=if i<bD r then gy r i else 0#64:=Rl.nY h
def aon(h:i<bD r):(j7 r).get i=gy r i:=by rw[Eb (vv h mg),aE h]
def U_:cY (j7 r) i j=cY r i j:=by
 by_cases h:i<bD r
 .rw[zE,HH,aon h,No,zE];cases decide (i<bD r)<;>cases decide (j<bD r)<;>simp
 .rw[cY,cY,HH];simp[h]
def U':j7 r=j7 s↔bD r=bD s/\∀i j,cY r i j=cY s i j:=by
 constructor
 .intro h;exact⟨by rw[<-HH (r:=r),h,HH],λi j=>by rw[<-U_ (r:=r),h,U_]⟩
 .rintro⟨h1,h2⟩;refine Rl.ext (by simp only[j7,Rl.of,h1]) λi hi=>?_
  rw[Eb hi,Eb hi,h1];split
  .rename_i h;apply rH;intro j _
   have:=h2 i j
   rwa [cY,cY,h1,aQ h,lj,lj] at this
  .rfl
def QK(h:bD r=0):j7 r=Rl.of 0 λ_=>0#64:=by
 refine Rl.ext (by simp[j7,Rl.of,h]) λi hi=>?_
 rw[Eb hi,h,aC (by omega),Rl.nY hi]
inductive lW(r:Rl)(i:Nat):Nat->Prop
 | refl (h:i<bD r):lW r i i
 | tail {j k:Nat} (h:lW r i j) (hs:cY r j k=aa):lW r i k
def lW.lt(h:lW r i j):i<bD r/\j<bD r:=by
 induction h with
 | refl h=>exact⟨h,h⟩
 | tail _ hs ih=>exact⟨ih.1,(v_ hs).2⟩
def lW.trans(h:lW r i j)(h' : lW r j k):lW r i k:=by
 induction h' with
 | refl _=>exact h
 | tail _ hs ih=>exact ih.tail hs
def lW.one(h:cY r i j=aa):lW r i j:=(lW.refl (v_ h).1).tail h
def uk(r:Rl):Rl:=Rl.of (bD r:Nat) λi=>if i<bD r then kb (gy r i) (i:Nat) else 0#64
def wG(k:Nat)(o:Rl)(i:Nat):Rl:=if hasB (o.get i) (k:Nat) then o.put i (o.get i|||o.get k) else o
def kV(n k:Nat)(o:Rl):Rl:=(bU n).foldl (wG k) o
def rF(r:Rl):Rl:=(bU (bD r)).foldl (λo k=>kV (bD r) k o) (uk r)
variable{w:bB}
def aic:hasB w (k:Nat)=w.getLsbD k:=by simp[hasB]
variable{α:Type}
def xu{f:α->Nat->α}{a:α}{n:Nat}:(bU (n+1)).foldl f a=f ((bU n).foldl f a) n:=by rw[qz,AQ];rfl
theorem aoN:(r.put i w).n=r.n:=rfl
def aje{n:Nat}{o:Rl}:(kV n k o).n=o.n:=by
 unfold kV;induction n with
 | zero=>rfl
 | succ n ih=>rw[xu,wG];split<;>simp[aoN,ih]
def Ta{o:Rl}{n:Nat}(h:n<=64):(kV n k o).get i=if i<n/\(o.get i).getLsbD k=aa then o.get i|||o.get k else o.get i:=by
 induction n generalizing i with
 | zero=>simp[kV]
 | succ n Ls =>
  have ih:=λi=>@Ls i (by omega)
  have hk:(kV n k o).get k=o.get k:=by rw[ih k];split<;>simp
  have e:kV (n+1) k o=wG k (kV n k o) n:=xu;rw[e,wG,aic]
  by_cases hi:i=n
  .subst hi;have Sv:(kV i k o).get i=o.get i:=by rw[ih i,aC (by omega)]
   rw[Sv,hk];split
   .rename_i hb;rw[Rl.Bf,aE ⟨rfl,by omega⟩,aE ⟨by omega,hb⟩]
   .rename_i hb;rw[Sv,aC (λhc=>hb hc.2)]
  .have aX:(if ((kV n k o).get n).getLsbD k=aa then(kV n k o).put n ((kV n k o).get n|||(kV n k o).get k) else kV n k o).get i=(kV n k o).get i:=by
    split
    .rw[Rl.Bf,aC (by omega)]
    .rfl
   rw[aX,ih i]
   by_cases aB:i<n
   .simp[aB,show i<n+1 by omega]
   .simp[aB,show ¬i<n+1 by omega]
def kA(r:Rl)(m:Nat):Rl:=(bU m).foldl (λo k=>kV (bD r) k o) (uk r)
def Hz{m:Nat}:kA r (m+1)=kV (bD r) m (kA r m):=xu
def MM{m:Nat}:(kA r m).n=(bD r:Nat):=by
 induction m with
 | zero=>rfl
 | succ m ih=>rw[Hz,aje,ih]
def D_{m:Nat}(hi:i<bD r):((kA r (m+1)).get i).getLsbD j=(((kA r m).get i).getLsbD j||(((kA r m).get i).getLsbD m&&((kA r m).get m).getLsbD j)):=by
 rw[Hz,Ta mg];cases hq:((kA r m).get i).getLsbD m with
 | false=>simp
 | true=>simp[hi]
def P7(hi:i<bD r):((uk r).get i).getLsbD j=(cY r i j||decide (j=i)):=by
 have db : i<64:=vv hi mg;rw[uk,Rl.nY db,aE hi,Im,cY,aQ hi,lj];congr 1
 by_cases h:j=i
 .subst h;simp[db]
 .simp[h];omega
def anJ{m:Nat}(h:bD r<=i)(hi:i<64):(kA r m).get i=0#64:=by
 induction m with
 | zero=>rw[kA];simp only[List.range_zero,List.foldl_nil,uk];rw[Rl.nY hi,aC (by omega)]
 | succ m ih=>rw[Hz,Ta mg,aC (by omega),ih]
def anK{m:Nat}(hm:m<=bD r)(hi:i<bD r):∀{j:Nat},((kA r m).get i).getLsbD j=aa->lW r i j:=by
 induction m generalizing i with
 | zero =>
  intro j h;have h:((uk r).get i).getLsbD j=true:=h;rw[P7 hi,mn,ca] at h
  rcases h with h | rfl
  .exact lW.one h
  .exact lW.refl hi
 | succ m ih =>
  intro j h;rw[D_ hi,mn,bC] at h
  rcases h with h | ⟨h1,h2⟩
  .exact ih (by omega) hi h
  .exact(ih (by omega) hi h1).trans (ih (by omega) (by omega) h2)
def ML{m:Nat}(hi:i<bD r)(h:cY r i j=aa\/j=i):((kA r m).get i).getLsbD j=true:=by
 induction m with
 | zero=>show((uk r).get i).getLsbD j=aa;rw[P7 hi];simpa using h
 | succ m ih=>rw[D_ hi,ih];rfl
def anL{m:Nat}(hm:m<=bD r):∀{i k j:Nat},i<bD r->k<m->((kA r m).get i).getLsbD k=aa->((kA r m).get k).getLsbD j=aa->((kA r m).get i).getLsbD j=true:=by
 induction m with
 | zero=>intro i k j _ h;omega
 | succ m ih =>
  intro i k j hi hk h1 h2;have ih:=@ih (by omega);have GG:((kA r m).get m).getLsbD m=true:=ML (by omega) (.inr rfl);rw[D_ hi] at h1;rw[D_ (by omega)] at h2;rw[D_ hi];simp only[mn,bC] at h1 h2 ⊢
  by_cases hkm:k=m
  .subst hkm;have a:((kA r k).get i).getLsbD k=true:=h1.elim id (·.1);have b:((kA r k).get k).getLsbD j=true:=h2.elim id (·.2);exact .inr ⟨a,b⟩
  .have jY : k<m:=by omega
   rcases h1 with h1 | ⟨h1,vO⟩
   .rcases h2 with h2 | ⟨h2,vP⟩
    .exact .inl (ih hi jY h1 h2)
    .exact .inr ⟨ih hi jY h1 h2,vP⟩
   .rcases h2 with h2 | ⟨_,vP⟩
    .exact .inr ⟨h1,ih (by omega) jY vO h2⟩
    .exact .inr ⟨h1,vP⟩
def Ji(hi:i<bD r):((rF r).get i).getLsbD j=aa↔lW r i j:=by
 show((kA r (bD r)).get i).getLsbD j=aa↔_;constructor
 .exact anK (bP _) hi
 .intro h;induction h with
  | refl h=>exact ML h (.inr rfl)
  | tail h hs ih=>exact anL (bP _) hi h.lt.2 ih (ML h.lt.2 (.inl hs))
def CN:bD (rF r)=bD r:=by
 have:(rF r).n=(bD r:Nat):=MM
 rw[bD,this];have:=@mg r;omega
def Jj:cY (rF r) i j=aa↔lW r i j:=by
 rw[zE,CN];constructor
 .intro h;simp only[bC,ca] at h;exact(Ji h.1).1 h.2.2
 .intro h
  have:=h.lt
  rw[aQ this.1,aQ this.2,(Ji this.1).2 h];rfl
def aaP:j7 (rF r)=rF r:=by
 refine Rl.ext ?_ λi hi=>?_
 .show((bD (rF r):Nat):Int)=_;rw[CN];exact MM.symm
 .rw[Eb hi,CN];split
  .rename_i aB;apply rH;intro j _;rw[No,CN];cases hq:((rF r).get i).getLsbD j with
   | false=>rfl
   | true=>rw[aQ ((Ji aB).1 hq).lt.2];rfl
  .exact(anJ (by omega) hi).symm
def um(r:Rl):Bool:=decide (j7 r=rF r)
def aaR:um r=aa↔(∀i,i<bD r->cY r i i=aa)/\∀i j k,cY r i j=aa->cY r j k=aa->cY r i k=true:=by
 rw[um,decide_eq_true_iff,<-aaP,U'];constructor
 .rintro⟨_,h⟩;refine⟨λi hi=>?_,λi j k h1 h2=>?_⟩
  .rw[h,Jj];exact lW.refl hi
  .rw[h,Jj] at h1 h2 ⊢;exact h1.trans h2
 .rintro⟨h1,h2⟩;refine⟨CN.symm,λi j=>?_⟩;rw[Cl,Jj];refine⟨lW.one,λh=>?_⟩;induction h with
  | refl h=>exact h1 _ h
  | tail _ hs ih=>exact h2 _ _ _ ih hs
def vk(r:Rl)(w:bB):bB:=(fN (w&&&jh (bD r:Nat))).foldl (λo i=>o|||gy r i) 0#64
def Ru{f:Nat->bB}:∀{l:List Nat} {o:bB},(l.foldl (λo i=>o|||f i) o).getLsbD j=(o.getLsbD j||l.any λi=>(f i).getLsbD j)
 | [],o=>by simp
 | a::l,o=>by rw[yL,Ru,OF,List.any_cons,Bool.or_assoc]
def Xc:(vk r w).getLsbD j=aa↔∃i,w.getLsbD i=aa/\cY r i j=true:=by
 rw[vk,Ru];simp only[BitVec.getLsbD_zero,EK,EP,Ue,tQ,bC,A1,ca];constructor
 .rintro⟨i,⟨h1,_,h2⟩,h3⟩;exact⟨i,h1,by rw[cY,h3,aQ (by omega)];rfl⟩
 .rintro⟨i,h1,h2⟩
  have:=(v_ h2).1;have:=@mg r
  rw[cY,bC] at h2;exact⟨i,⟨h1,by omega,by omega⟩,h2.2⟩
def xn(r:Rl)(w:bB):bB:=(bU (bD r)).foldl (λo i=>if gy r i&&&w=0#64 then o else kb o (i:Nat)) 0#64
def alZ:w≠0#64↔∃j,w.getLsbD j=true:=by
 constructor
 .intro h;exact⟨_,(DY h).2.1⟩
 .rintro⟨j,h⟩ rfl;simp at h
def aca{n:Nat}(h:n<=64):((bU n).foldl (λo i=>if gy r i&&&w=0#64 then o else kb o (i:Nat)) 0#64).getLsbD i=aa↔i<n/\gy r i&&&w≠0#64:=by
 induction n with
 | zero=>simp
 | succ n Ls =>
  have ih:=Ls (by omega);rw[xu]
  by_cases hi:i=n
  .subst hi;split
   .rename_i h0;rw[ih];constructor
    .intro hc;omega
    .intro hc;exact absurd h0 hc.2
   .rename_i h0;rw[Im,aQ (show i<64 by omega)];simp[h0]
  .split
   .rw[ih];constructor<;>rintro⟨a,b⟩<;>exact⟨by omega,b⟩
   .rw[Im,aM (p:=(i:Int)=(n:Nat)) (by omega),Bool.and_false,Bool.or_false,ih];constructor<;>rintro⟨a,b⟩<;>exact⟨by omega,b⟩
def acb:(xn r w).getLsbD i=aa↔∃j,w.getLsbD j=aa/\cY r i j=true:=by
 rw[xn,aca mg,alZ];simp only[tQ,bC,cY,ca];constructor
 .rintro⟨a,j,b,c⟩;exact⟨j,c,a,b⟩
 .rintro⟨j,c,a,b⟩;exact⟨a,j,b,c⟩
def Hv{i j:Nat}(h:i<64):(iE [(i:Int)]).getLsbD j=decide (j=i):=by
 rw[D6]
 by_cases e:j=i
 .subst e;simp[h]
 .simp[e];omega
def anh(h:i<bD r):iE (((bU (bD r)).filter (cY r i)).map Int.ofNat)=gy r i:=by
 apply rH;intro j hj;rw[D6,aQ hj,lj,Cl,decide_eq_true_iff];simp only[tW,O2,yO,IC];constructor
 .rintro⟨a,⟨h1,h2⟩,h3⟩;obtain rfl:a=j:=by omega
  rw[cY,bC] at h2;exact h2.2
 .intro h1
  have:cY r i j=true:=by rw[cY,h1,aQ h];rfl
  exact⟨j,⟨(v_ this).2,this⟩,rfl⟩
def yf(r:Rl)(i:Nat):bB:=vk r (iE [(i:Int)])&&&xn r (iE [(i:Int)])
def yW(r:Rl):Bool:=(bU (bD r)).all λi=>(bU i).all λj=>!(cY r i j&&cY r j i)
def BT(r:Rl):Bool:=um r&&yW r
def Yr:yW r=aa↔∀i j,cY r i j=aa->cY r j i=aa->i=j:=by
 simp only[yW,ln,yO,tR,Ck];constructor
 .intro h i j h1 h2
  have:=v_ h1
  rcases yR i j with hc | hc | hc
  .rcases h j this.2 i hc with e | e
   .rw[e] at h2;simp at h2
   .rw[e] at h1;simp at h1
  .exact hc
  .rcases h i this.1 j hc with e | e
   .rw[e] at h1;simp at h1
   .rw[e] at h2;simp at h2
 .intro h i hi j hj;cases h1:cY r i j with
  | false=>exact .inl rfl
  | true =>
   cases h2:cY r j i with
   | false=>exact .inr rfl
   | true=>have:=h i j h1 h2;omega
def Ui(hi:i<64):(yf r i).getLsbD j=(cY r i j&&cY r j i):=by
 rw[yf,tQ,Cl,bC,bC,Xc,acb];simp only[Hv hi,ca];constructor
 .rintro⟨⟨a,rfl,h1⟩,⟨b,rfl,h2⟩⟩;exact⟨h1,h2⟩
 .rintro⟨h1,h2⟩;exact⟨⟨_,rfl,h1⟩,⟨_,rfl,h2⟩⟩
def Uj(hc:um r=aa)(hi:i<bD r):yf r i=iE [(i:Int)]↔∀j,cY r i j=aa->cY r j i=aa->j=i:=by
 have db : i<64:=vv hi mg;have hr:=(aaR.1 hc).1 i hi;constructor
 .intro h j h1 h2
  have:=gX (λw:bB=>w.getLsbD j) h
  simp only[Ui db,h1,h2,Hv db,Iw] at this;simpa using this.symm
 .intro h;apply rH;intro j _;rw[Ui db,Hv db]
  by_cases e:j=i
  .subst e;simp[hr]
  .rw[aM e];cases h1:cY r i j with
   | false=>rfl
   | true =>
    cases h2:cY r j i with
    | false=>rfl
    | true=>exact absurd (h j h1 h2) e
def Pu(hc:um r=aa):yW r=aa↔∀i,i<bD r->yf r i=iE [(i:Int)]:=by
 rw[Yr];constructor
 .intro h i hi;exact(Uj hc hi).2 λj h1 h2=>(h i j h1 h2).symm
 .intro h i j h1 h2;exact((Uj hc (v_ h1).1).1 (h i (v_ h1).1) j h1 h2).symm
end
section
variable {r:Rl} {w a b:bB} {i j k n o p x y:Nat}
def find_congr{α:Type}{p q:α->Bool}:∀{l:List α},(∀x∈l,p x=q x)->l.find? p=l.find? q
 | [],_=>rfl
 | a :: l, h => by
  have h1:=h a (by simp);have h2:=find_congr (l:=l) λx hx=>h x (by simp[hx])
  simp only[List.find?_cons,h1,h2]
def vD(r:Rl)(i:Nat):bB:=vk r (iE [(i:Int)])
def vF(r:Rl)(i:Nat):bB:=if i<bD r then xn r (iE [(i:Int)]) else 0#64
def Ye:(vD r i).getLsbD j=cY r i j:=by
 rw[Cl,vD,Xc];constructor
 .rintro⟨k,h1,h2⟩;rw[D6] at h1;simp only[pj,bC,ca] at h1;obtain rfl:k=i:=by omega
  exact h2
 .intro h
  have:=(v_ h).1;have:=@mg r
  exact⟨i,by rw[Hv (by omega)];simp,h⟩
def Hq(f:Nat->bB)(i j:Nat):Option Nat:=(fN (f i&&&f j)).find? λu=>Au (f i&&&f j) (f u)
def wj(r:Rl)(i j:Nat):Option Nat:=Hq (vD r) i j
def yc(r:Rl)(i j:Nat):Option Nat:=Hq (vF r) i j
def rb(r:Rl):Bool:=decide (1<=r.n)&&decide (r.n<=64)&&BT r&&(bU r.n.toNat).all λi=>(bU i).all λj=>(wj r i j).isSome&&(yc r i j).isSome
def Vc(r:Rl)(w:bB):Option Nat:=(bU (bD r)).find? λi=>decide (vF r i=w)
def ape(r:Rl)(a b:bB):bB :=
 match Vc r a,Vc r b with
 | some i,U j=>(match wj r i j with | some k=>vF r k | none=>a|||b)
 | _,_=>a|||b
def qO(r:Rl):Bool:=decide (1<=r.n)&&decide (r.n<=8)&&um r
def RU(h:qO r=aa):∃n:Nat,r.n=n/\bD r=n/\1<=n/\n<=8:=by
 simp only[qO,bC,ca] at h;exact⟨r.n.toNat,by omega,by rw[bD];omega,by omega,by omega⟩
def Hy(r:Rl)(w:bB)(o:Nat):bB:=(w>>>(8*o))&&&jh r.n
def BZ(n:Nat)(f:Nat->bB):bB:=(bU n).foldl (λw o=>w|||(f o<<<(8*o))) 0#64
def FD(r:Rl)(w:bB)(o:Nat):bB:=(fN (vD r o)).foldl (λs p=>s|||xn r (Hy r w p)) 0#64
def FE(r:Rl)(w:bB):bB:=if qO r then BZ r.n.toNat (FD r w) else 0#64
def wm(r:Rl)(d:bB):bB:=jh r.n&&&~~~vk r d
def B0(r:Rl)(o:Nat)(d:bB):bB:=if qO r&&decide ((o:Int)<r.n) then FE r (BZ r.n.toNat λk=>if k=o then wm r d else 0#64) else 0#64
def Ao(n k:Int):bB × Bool:=if 1<=n/\n<=64/\0<=k/\k<n then(jh k,aa) else(0#64,ak)
end
def ab.leaf(kind:Int)(r:ab):Nd × ab:=(.mk kind r.word.1.pos r.word.1.an [] [],r.word.2)
def ab.nw(r:ab):Nd × ab :=
 (.mk 6 r.word.1.pos r.word.1.an ((r.word.2.take 58).2.words aa).1.1 [],((r.word.2.take 58).2.words aa).2)
def ab.constant:Nat->ab->Nd × ab
 | 0,r=>r.leaf 2
 | n + 1, r =>
  if r.bT 123=aa then(.mk 3 (r.words aa).1.2 [] (r.words aa).1.1 [],(r.words aa).2)
  else if r.bT 40=aa then(.mk 4 (r.nodes (ab.constant n) 40 ak).1.2 [] [] (r.nodes (ab.constant n) 40 ak).1.1,(r.nodes (ab.constant n) 40 ak).2)
  else if r.bT 91=aa then(.mk 5 (r.nodes ab.nw 91 aa).1.2 [] [] (r.nodes ab.nw 91 aa).1.1,(r.nodes ab.nw 91 aa).2)
  else r.leaf 2
def ab.atom(n:Nat)(r:ab):Nd × ab :=
 if r.bT 35=aa then(.mk 7 (r.take 35).1.tok.pos [] [] [(ab.constant n (r.take 35).2).1],(ab.constant n (r.take 35).2).2) else r.leaf 1
def ab.label:Nat->ab->Nd × ab
 | 0,r=>r.leaf 1
 | n + 1, r =>
  if r.bT 43=aa then(.mk 8 (r.take 43).1.tok.pos [] [] ((r.take 43).2.nodes (ab.label n) 40 ak).1.1,((r.take 43).2.nodes (ab.label n) 40 ak).2)
  else if r.bT 38=aa then(.mk 9 (r.take 38).1.tok.pos [] [] ((r.take 38).2.nodes (ab.label n) 40 ak).1.1,((r.take 38).2.nodes (ab.label n) 40 ak).2)
  else r.atom (n+1)
def ab.field(n:Nat)(r:ab):Nd × ab :=
 (.mk 11 r.word.1.pos r.word.1.an [] [((r.word.2.take 61).2.atom n).1],((r.word.2.take 61).2.atom n).2)
def lk(r r' : ab):Prop:=r'.l=r.l/\(0<=r.at_->r.at_<=r.l.length->r.at_<=r'.at_/\r'.at_<=r.l.length/\(r'.aG=af->r.at_+1<=r'.at_))
def lk.trans{a b c:ab}(h:lk a b)(k:lk b c):lk a c:=by
 refine⟨k.1.trans h.1,λh1 h2=>?_⟩;obtain⟨p1,p2,p3⟩:=h.2 h1 h2;obtain⟨q1,q2,q3⟩:=k.2 (by omega) (by rw[h.1];exact p2);rw[h.1] at q2;exact⟨by omega,q2,λhq=>by have:=q3 hq;omega⟩
def sM(r:ab)(k:Int):lk r (r.take k).2:=by
 refine⟨r.fy k,λh1 h2=>?_⟩
 rcases r.tK k with ⟨_,e,_,h3,h4⟩ | ⟨_,e,hb⟩
 .rw[e];exact⟨by omega,by omega,λ_=>by omega⟩
 .rw[e];exact⟨by omega,h2,λhq=>absurd hq hb⟩
def xx(r:ab):lk r r.word.2:=sM r 97
def C5(r:ab)(k:Int):lk r (r.leaf k).2:=xx r
variable{G:Type}
def RO(step:ab × List G->ab × List G)(k:Int)(e:Bool)(r:ab):lk r (r.bracket step k e).2:=by
 have h:=sM r k;unfold ab.bracket;split
 .rename_i b_;have hb:(r.take k).2.aG=none:=by simpa [ab.ok] using b_
  exact⟨h.1,λh1 h2=>by
   obtain⟨p1,p2,p3⟩:=h.2 h1 h2;exact⟨p1,p2,λ_=>p3 hb⟩⟩
 .exact h
def J3(r:ab)(e:Bool):lk r (r.words e).2:=RO _ _ _ _
def Gb(r:ab)(one:ab->Nd × ab)(k:Int)(e:Bool):lk r (r.nodes one k e).2:=RO _ _ _ _
def BY{one:ab->Nd × ab}(h:∀r,lk r (one r).2):Reads one:=⟨λr=>(h r).1,λr=>(h r).2⟩
def ahV(r:ab):lk r r.nw.2:=((xx r).trans (sM _ _)).trans (J3 _ _)
def RP:∀(n:Nat) (r:ab),lk r (ab.constant n r).2
 | 0,r=>C5 r 2
 | n + 1, r => by
  simp only[ab.constant];split
  .exact J3 r aa
  .split
   .exact Gb r _ 40 ak
   .split
    .exact Gb r _ 91 aa
    .exact C5 r 2
def RN(n:Nat)(r:ab):lk r (r.atom n).2:=by
 simp only[ab.atom];split
 .exact(sM r 35).trans (RP n _)
 .exact C5 r 1
def J2:∀(n:Nat) (r:ab),lk r (ab.label n r).2
 | 0,r=>C5 r 1
 | n + 1, r => by
  simp only[ab.label];split
  .exact(sM r 43).trans (Gb _ _ 40 ak)
  .split
   .exact(sM r 38).trans (Gb _ _ 40 ak)
   .exact RN (n+1) r
def RQ(n:Nat)(r:ab):lk r (r.field n).2:=((xx r).trans (sM _ _)).trans (RN n _)
def ab.mK(n:Nat)(i:ab):(ab × List Nd) × List aA :=
 let a:=if i.bT 124=aa then(i,[]) else dS (cc (ab.field n)) i
 if a.1.bT 124=aa then(((a.1.take 124).2.word.2,a.2),[(a.1.take 124).2.word.1]) else(a,[])
def ab.rowOf(n:Nat)(t:ar):(ab × List Nd) × List aA:=if t.ah.length=0 then((t.inner,[]),[]) else t.inner.mK n
def ab.row(n:Nat)(r:ab):Nd × ab :=
 if r.bT 91=aa then(.mk 10 (r.take 91).1.tok.pos [] (ab.rowOf n (r.take 91).1).2 (ab.rowOf n (r.take 91).1).1.2,(r.take 91).2.under (ab.rowOf n (r.take 91).1).1.1) else r.leaf 1
def Nd.zero:Nd:=.mk 0 0 [] [] []
def fp(one:ab->Nd × ab)(l:List ar)(at_ fin:Int):Nd × Int × Option Int :=
 match (one ⟨l,at_,fin,af⟩).2.aG with
 | some b=>(.zero,0,U b)
 | none=>((one ⟨l,at_,fin,af⟩).1,(one ⟨l,at_,fin,af⟩).2.at_,af)
def ja(l:List ar)(at_ fin:Int):List aA × Option Int :=
 match ((⟨l,at_,fin,af⟩:ab).words ak).2.aG with
 | some b=>([],U b)
 | none=>(((⟨l,at_,fin,af⟩:ab).words ak).1.1,af)
structure cf where
 node:Nd
 next:Int
 aG:Bool
 pos:Int
def cf.enc(g:cf):List V:=[.int .i64 g.node.kind,.int .i64 g.node.pos,.aF g.node.an,.sl .no 2 (g.node.aj.map aA.enc),.sl .no 5 (g.node.ah.map Nd.enc),.int .i64 g.next,.bool g.aG,.int .i64 g.pos]
def nC(l:List ar)(at_ fin:Int):Int:=if 0<=at_ then(match l[at_.toNat]? with | some t=>t.tok.pos | none=>fin) else fin
def dU(l:List ar)(at_ fin:Int):cf:=⟨.zero,0,aa,nC l at_ fin⟩
def fH(l:List ar)(at_:Int):Tok:=match l[at_.toNat]? with | some t=>t.tok | none=>⟨0,[],0⟩
def nameAt(l:List ar)(at_ fin:Int):cf :=
 if bz l at_ 97=aa then ⟨.mk 0 (fH l at_).pos (fH l at_).an [] [],at_+1,ak,0⟩ else dU l at_ fin
def fY(one:Int->cf)(l:List ar):Nat->Int->List Nd->List Nd × cf
 | 0,_,_=>([],⟨.zero,0,aa,0⟩)
 | n + 1, at_, out =>
  if (one at_).aG=aa then([],one at_)
  else if bz l (one at_).next 44=aa then fY one l n ((one at_).next+1) (out++[(one at_).node])
  else(out++[(one at_).node],one at_)
def wholeAt(one:List ar->Int->Int->cf)(t:ar)(empty:Bool):List Nd × cf :=
 if empty=aa/\t.ah.length=0 then([],⟨.zero,0,ak,0⟩)
 else
  let r:=fY (λi=>one t.ah i t.fin) t.ah (t.ah.length+1) 0 []
  if r.2.aG=ak/\r.2.next<t.ah.length then([],dU t.ah r.2.next t.fin) else r
def su(l:List Nd):List aA:=l.map λn=>⟨n.an,n.pos⟩
def bI(l:List ar)(at_:Int):ar:=match l[at_.toNat]? with | some t=>t | none=>.zero
def rj(l:List ar)(at_ fin:Int):List aA × cf :=
 if bz l at_ 123=aa then(su (wholeAt nameAt (bI l at_) ak).1,(wholeAt nameAt (bI l at_) ak).2) else([],dU l at_ fin)
def x6{l:List ar}{i k:Int}(h:bz l i k=aa):∃j t,i=(j:Nat)/\l[j]?=U t/\t.tok.kind=k/\j<l.length:=by
 simp only[bz,bC,ca] at h;obtain⟨h0,hk⟩:=h;obtain⟨j,rfl⟩:=Co h0;simp only[ju] at hk;cases hq:l[j]? with
 | none=>rw[hq] at hk;simp at hk
 | some t=>rw[hq] at hk;exact⟨j,t,rfl,hq,by simpa using hk,(fg.1 hq).1⟩
def mb{l:List Nd}{t:Nd}(h:l[j]?=U t):(l.map Nd.enc)[((j:Nat):Int).toNat]?=U t.enc:=by simp[h]
def qx{l:List aA}{t:aA}(h:l[j]?=U t):(l.map aA.enc)[((j:Nat):Int).toNat]?=U t.enc:=by simp[h]
variable{x:ar}
def ar.cP:x.enc.length=5:=by rw[df];rfl
def ar.fX{x:ar}:cC x.enc=true:=by rw[df];rfl
def ar.dw{x:ar}:bK x.enc=true:=by rw[df];rfl
def ar.dk{x:ar}:bx x.enc=x.enc:=by rw[df];rfl
def ar.fm:takeN 5 x.enc=U x.enc:=by rw[df];rfl
def ar.gQ:bF aa 5 x.enc=U (.agg x.enc):=by rw[df];rfl
def ar.gm:bZ 5 x.enc=true:=by rw[df];rfl
variable{z0 z1:V}
def ar.fR{z2 z3 z4:V}:over [z0,z1,z2,z3,z4] x.enc=x.enc:=by rw[df];rfl
def ar.cH{n:Nat}:bS n x.enc=true:=by rw[df];rfl
def ar.al:=ae @ar.cP <| ae @ar.fX <| ae @ar.dw <| ae @ar.dk <| ae @ar.fm <| ae @ar.gQ <| ae @ar.gm <| ae @ar.fR @ar.cH
def Nd.cP{x:Nd}:x.enc.length=5:=by rw[Nd.df];rfl
def Nd.fX{x:Nd}:cC x.enc=true:=by rw[Nd.df];rfl
def Nd.dw{x:Nd}:bK x.enc=true:=by rw[Nd.df];rfl
def Nd.dk{x:Nd}:bx x.enc=x.enc:=by rw[Nd.df];rfl
def Nd.fm{x:Nd}:takeN 5 x.enc=U x.enc:=by rw[Nd.df];rfl
def Nd.gQ{x:Nd}:bF aa 5 x.enc=U (.agg x.enc):=by rw[Nd.df];rfl
def Nd.gm{x:Nd}:bZ 5 x.enc=true:=by rw[Nd.df];rfl
def Nd.fR{x:Nd}{z2 z3 z4:V}:over [z0,z1,z2,z3,z4] x.enc=x.enc:=by rw[Nd.df];rfl
def Nd.cH{x:Nd}{n:Nat}:bS n x.enc=true:=by rw[Nd.df];rfl
def Nd.al:=ae @Nd.cP <| ae @Nd.fX <| ae @Nd.dw <| ae @Nd.dk <| ae @Nd.fm <| ae @Nd.gQ <| ae @Nd.gm <| ae @Nd.fR @Nd.cH
def aA.cP{x:aA}:x.enc.length=2:=by rw[aA.enc];rfl
def aA.fX{x:aA}:cC x.enc=true:=by rw[aA.enc];rfl
def aA.dw{x:aA}:bK x.enc=true:=by rw[aA.enc];rfl
def aA.dk{x:aA}:bx x.enc=x.enc:=by rw[aA.enc];rfl
def aA.fm{x:aA}:takeN 2 x.enc=U x.enc:=by rw[aA.enc];rfl
def aA.gQ{x:aA}:bF aa 2 x.enc=U (.agg x.enc):=by rw[aA.enc];rfl
def aA.gm{x:aA}:bZ 2 x.enc=true:=by rw[aA.enc];rfl
def aA.fR{x:aA}:over [z0,z1] x.enc=x.enc:=by rw[aA.enc];rfl
def aA.cH{x:aA}{n:Nat}:bS n x.enc=true:=by rw[aA.enc];rfl
def aA.al:=ae @aA.cP <| ae @aA.fX <| ae @aA.dw <| ae @aA.dk <| ae @aA.fm <| ae @aA.gQ <| ae @aA.gm <| ae @aA.fR @aA.cH
def cf.cP{x:cf}:x.enc.length=8:=by rw[cf.enc];rfl
def cf.fX{x:cf}:cC x.enc=true:=by rw[cf.enc];rfl
def cf.dw{x:cf}:bK x.enc=true:=by rw[cf.enc];rfl
def cf.dk{x:cf}:bx x.enc=x.enc:=by rw[cf.enc];rfl
def cf.fm{x:cf}:takeN 8 x.enc=U x.enc:=by rw[cf.enc];rfl
def cf.gQ{x:cf}:bF aa 8 x.enc=U (.agg x.enc):=by rw[cf.enc];rfl
def cf.gm{x:cf}:bZ 8 x.enc=true:=by rw[cf.enc];rfl
def cf.fR{x:cf}{z2 z3 z4 z5 z6 z7:V}:over [z0,z1,z2,z3,z4,z5,z6,z7] x.enc=x.enc:=by rw[cf.enc];rfl
def cf.cH{x:cf}{n:Nat}:bS n x.enc=true:=by rw[cf.enc];rfl
def cf.al:=ae @cf.cP <| ae @cf.fX <| ae @cf.dw <| ae @cf.dk <| ae @cf.fm <| ae @cf.gQ <| ae @cf.gm <| ae @cf.fR @cf.cH
def Nd.x1{r:Nd}:r.enc.drop 1=[V.int .i64 r.pos,.aF r.an,.sl .no 2 (r.aj.map aA.enc),.sl .no 5 (r.ah.map Nd.enc)]:=by rw[Nd.df];rfl
def Nd.x2{r:Nd}:r.enc.drop 2=[V.aF r.an,.sl .no 2 (r.aj.map aA.enc),.sl .no 5 (r.ah.map Nd.enc)]:=by rw[Nd.df];rfl
def Nd.x3{r:Nd}:r.enc.drop 3=[V.sl .no 2 (r.aj.map aA.enc),.sl .no 5 (r.ah.map Nd.enc)]:=by rw[Nd.df];rfl
def Nd.x4{r:Nd}:r.enc.drop 4=[V.sl .no 5 (r.ah.map Nd.enc)]:=by rw[Nd.df];rfl
def Nd.x0{r:Nd}:bF ak 1 r.enc=U (.int .i64 r.kind):=by rw[Nd.df];rfl
def Nd.fl:=ae @Nd.x0 <| ae @Nd.x1 <| ae @Nd.x2 <| ae @Nd.x3 @Nd.x4
def ar.x1{r:ar}:r.enc.drop 1=[V.aF r.tok.an,.int .i64 r.tok.pos,.sl .no 5 (dC r.ah),.int .i64 r.fin]:=by rw[df];rfl
def ar.x2{r:ar}:r.enc.drop 2=[V.int .i64 r.tok.pos,.sl .no 5 (dC r.ah),.int .i64 r.fin]:=by rw[df];rfl
def ar.x3{r:ar}:r.enc.drop 3=[V.sl .no 5 (dC r.ah),.int .i64 r.fin]:=by rw[df];rfl
def ar.x4{r:ar}:r.enc.drop 4=[V.int .i64 r.fin]:=by rw[df];rfl
def ar.x0{r:ar}:bF ak 1 r.enc=U (.int .u8 r.tok.kind):=by rw[df];rfl
def ar.xt{r:ar}:bF aa 3 r.enc=U (.agg [.int .u8 r.tok.kind,.aF r.tok.an,.int .i64 r.tok.pos]):=by rw[df];rfl
def ar.fl:=ae @ar.x0 <| ae @ar.xt <| ae @ar.x1 <| ae @ar.x2 <| ae @ar.x3 @ar.x4
def ya(c:Int):Bool:=decide (97<=c)&&decide (c<=122)
def uC(c:Int):Bool:=ya c||(decide (48<=c)&&decide (c<=57))||decide (c=95)
def NO:List Int:=[35,43,38,40,41,123,125,91,93,44,58,61,124,60]
def mj(c:Int):Bool:=NO.any λs=>decide (s=c)
def closing(c:Int):Int:=if c=40 then 41 else if c=123\/c=91 then c+2 else 0
def kN(c:Int):Bool:=decide (c=41)||decide (c=125)||decide (c=93)
def gF(c:UInt8):Bool:=uC c.toNat
def uV(c:UInt8):Bool:=ya c.toNat
def dG(s:List UInt8):Bool:=decide (s.length<=16)&&(match s with | []=>ak | c::r=>uV c&&r.all gF)
def Tok.enc(t:Tok):List V:=[.int .u8 t.kind,.aF t.an,.int .i64 t.pos]
def fq(r:List UInt8):List UInt8:=r.takeWhile gF
def fe:Nat->Nat->List UInt8->List Tok->List Tok × Option Int
 | 0,_,_,acc=>(acc,af)
 | _,_,[],acc=>(acc,af)
 | n + 1, p, c :: r, acc =>
  if c.toNat=45/\(r.head?.map UInt8.toNat)=U 45 then(acc,af)
  else if 0<(fq (c::r)).length/\dG (fq (c::r))=aa then fe n (p+(fq (c::r)).length) ((c::r).drop (fq (c::r)).length) (acc++[⟨97,fq (c::r),p⟩])
  else if mj (c.toNat:Nat)=aa then fe n (p+1) r (acc++[⟨(c.toNat:Nat),[c],p⟩])
  else if c.toNat=32\/c.toNat=9 then fe n (p+1) r acc
  else([],U p)
def dR(s:List UInt8):List Tok × Option Int:=fe s.length 0 s []
def CK(b:Option Int):V:=.agg [.int .i64 (match b with | some _=>1 | none=>0),.int .i64 (fJ b)]
def eP(l:List Tok)(i:Nat):Int:=match l[i]? with | some t=>t.kind | none=>0
def pw(l:List Tok):Nat->Nat->List Nat->Int
 | 0,_,open_=>match open_.getLast? with | some j=>(j:Nat) | none=>-1
 | n + 1, i, open_ =>
  if closing (eP l i)≠0/\24<=open_.length then(i:Nat)
  else
   let o:=if closing (eP l i)≠0 then open_++[i] else open_
   if kN (eP l i)=aa then
    match o.getLast? with
    | none=>(i:Nat)
    | some j=>if closing (eP l j)=eP l i then pw l n (i+1) o.dropLast else(i:Nat)
   else pw l n (i+1) o
def jn(l:List Tok)(at_:Nat):Nat->Nat->Int->Nat
 | 0,_,_=>at_
 | n + 1, i, deep =>
  let d:=(deep+(if closing (eP l i)≠0 then 1 else 0)) - (if kN (eP l i)=aa then 1 else 0)
  if d=0 then i else jn l at_ n (i+1) d
def partner(l:List Tok)(at_:Nat):Nat:=jn l at_ (l.length - at_) at_ 0
def qo(l:List Tok)(i:Nat):Int:=match l[i]? with | some t=>t.pos | none=>0
def i_(l:List Tok)(i:Nat):Tok:=match l[i]? with | some t=>t | none=>⟨0,[],0⟩
def nG(l:List Tok):Nat->Nat->Nat->List ar
 | 0,_,_=>[]
 | n + 1, i, to =>
  if i<to then
   if closing (eP l i)≠0 then .mk (i_ l i) (nG l n (i+1) (partner l i)) (qo l (partner l i))::nG l n (partner l i+1) to
   else .mk (i_ l i) [] (qo l i)::nG l n (i+1) to
  else []
def gS(l:List Tok):List ar × Option Int :=
 if 0<=pw l l.length 0 [] then([],U (qo l (pw l l.length 0 []).toNat)) else(nG l l.length 0 l.length,af)
def iQ:Option Int->List Tok->List UInt8
 | _,[]=>[]
 | k,t::ts=>(if k=U 97/\t.kind=97 then [32] else [])++t.an++iQ (U t.kind) ts
def eZ(l:List Tok):List UInt8:=iQ af l
mutual
def ar.flat:ar->List Tok
 | .mk t ks e=>t::(if closing t.kind≠0 then bn ks++[⟨closing t.kind,[UInt8.ofNat (closing t.kind).toNat],e⟩] else [])
def bn:List ar->List Tok
 | []=>[]
 | t::ts=>t.flat++bn ts
end
def Nr(r:List UInt8):(fq r).length<=r.length:=by
 unfold fq;exact List.Sublist.length_le (X4 _)
variable{a:Nat}{s:List UInt8}
def apW:(fq (s.drop a)).length<=s.length - a:=by
 have:=Nr (s.drop a)
 rwa [IQ] at this
def W1{α:Type}{f:α->Bool}:∀(r:List α),r.take (r.takeWhile f).length=r.takeWhile f
 | []=>rfl
 | c :: r => by
  simp only[List.takeWhile_cons];split
  .simp[W1 r]
  .simp
def Qy:(s.take (a+(fq (s.drop a)).length)).drop a=fq (s.drop a):=by
 rw[IH,X6];exact W1 _
def aby(h:a<s.length):(s.take (a+1)).drop a=[s[a]]:=by
 rw[IH,X6,mq h];rfl
def UZ{l:List Tok}{at_:Nat}:∀(n i:Nat) (d:Int),at_<=i->i+n<=l.length->at_<l.length->at_<=jn l at_ n i d/\jn l at_ n i d<l.length
 | 0,i,d,_,_,h=>⟨bP _,h⟩
 | n + 1, i, d, h1, h2, h3 => by
  simp only[jn];generalize (d+(if closing (eP l i)≠0 then 1 else 0)) - (if kN (eP l i)=aa then 1 else 0)=e;split
  .exact⟨h1,by omega⟩
  .exact UZ n (i+1) _ (by omega) (by omega) h3
variable{i:Nat}
def HD{l:List Tok}(h:i<l.length):i<=partner l i/\partner l i<l.length:=UZ _ _ _ (bP _) (by omega) h
def Hc:∀(n p:Nat) (r:List UInt8) (acc:List Tok),r.length<=n->(fe n p r acc).1.length<=acc.length+r.length
 | 0,_,r,acc,_=>by cases r<;>simp[fe]
 | n+1,p,[],acc,_=>by simp[fe]
 | n + 1, p, c :: r, acc, h => by
  simp only[fe];have hr:=Nr (c::r);simp only[dd] at h hr ⊢;split
  .simp only;omega
  .split
   .rename_i h1
    have:=Hc n (p+(fq (c::r)).length) ((c::r).drop (fq (c::r)).length) (acc++[⟨97,fq (c::r),p⟩]) (by simp;omega)
    simp at this;omega
   .split
    .have:=Hc n (p+1) r (acc++[⟨(c.toNat:Nat),[c],p⟩]) (by omega)
     simp at this;omega
    .split
     .have:=Hc n (p+1) r acc (by omega);omega
     .simp
def TH(s:List UInt8):(dR s).1.length<=s.length:=by
 have:=Hc s.length 0 s [] (bP _)
 simpa [dR] using this
def cB:List (List UInt8)->List UInt8
 | []=>[]
 | x::xs=>x++xs.flatMap λy=>44::y
def Th(l:List (List UInt8))(y:List UInt8):cB (l++[y])=cB l++(if 0<l.length then [44] else [])++y:=by
 cases l with
 | nil=>simp[cB]
 | cons x xs=>simp[cB]
def Tg:∀l:List (List UInt8),(cB l).length<=(l.map λx=>x.length+1).sum
 | []=>by simp[cB]
 | x :: xs => by
  simp only[cB,bN,List.length_flatMap,b8,nM]
  have:(xs.map λy=>(44::y).length)=xs.map λx=>x.length+1:=by simp
  rw[this];omega
def ia(ws:List aA):List UInt8:=cB (ws.map aA.an)
def qd:List (List UInt8)->List UInt8
 | []=>[]
 | x::_=>x
mutual
def Nd.dc:Nd->List UInt8
 | .mk k _ t ws ks =>
  if k=1\/k=2 then t
  else if k=3 then [123]++ia ws++[125]
  else if k=4 then [40]++cB (dO ks)++[41]
  else if k=5 then [91]++cB (dO ks)++[93]
  else if k=6 then t++[58,123]++ia ws++[125]
  else if k=7 then [35]++qd (dO ks)
  else if k=8 then [43,40]++cB (dO ks)++[41]
  else if k=9 then [38,40]++cB (dO ks)++[41]
  else if k=10 then([91]++cB (dO ks))++(if 0<ws.length then [124]++ia ws else [])++[93]
  else if k=11 then t++[61]++qd (dO ks)
  else []
def dO:List Nd->List (List UInt8)
 | []=>[]
 | n::ns=>n.dc::dO ns
end
def AA:∀l,dO l=l.map Nd.dc
 | []=>rfl
 | n::ns=>by simp[dO,AA ns]
def eK(ws:List aA):Nat:=(ws.map λw=>w.an.length+1).sum
mutual
def Nd.wt:Nd->Nat
 | .mk _ _ t ws ks=>t.length+eK ws+ft ks+4
def ft:List Nd->Nat
 | []=>0
 | n::ns=>n.wt+1+ft ns
end
def EJ:∀l,ft l=(l.map λn=>n.wt+1).sum
 | []=>rfl
 | n::ns=>by simp[ft,EJ ns]
def EI(ws:List aA):(ia ws).length<=eK ws:=by
 have:=Tg (ws.map aA.an)
 simpa [ia,eK,Cs,vq] using this
def Iq{l:List Nd}{n:Nd}(h:n∈l):n.wt+1<=ft l:=by
 induction l with
 | nil=>simp at h
 | cons m ms ih =>
  rcases kI.1 h with rfl | h
  .simp only[ft];omega
  .have:=ih h;simp only[ft];omega
def G5:∀(l:List Nd),(∀n∈l,n.dc.length<=n.wt)->(cB (dO l)).length<=ft l:=λl h=>by
 refine w7 (Tg _) ?_;rw[AA,EJ,Cs];induction l with
 | nil=>simp
 | cons n ns ih =>
  simp only[b8,nM,Function.comp];have h1:=h n (by simp);have h2:=ih λm hm=>h m (by simp[hm])
  omega
def Sq(l:List Nd)(h:∀n∈l,n.dc.length<=n.wt):(qd (dO l)).length<=ft l:=by
 cases l with
 | nil=>simp[dO,qd]
 | cons n ns=>have:=h n (by simp);simp only[dO,qd,ft];omega
mutual
def Xb:∀(n:Nd),n.dc.length<=n.wt
 | .mk k p t ws ks => by
  have h1:=EI ws;have h2:=G5 ks (Az ks);have h3:=Sq ks (Az ks);simp only[Nd.dc,Nd.wt]
  repeat' split
  all_goals (try simp only[bN,dd,eM])
  all_goals omega
def Az:∀(l:List Nd),∀n∈l,n.dc.length<=n.wt
 | [],n,h=>by simp at h
 | m :: ms, n, h => by
  rcases kI.1 h with h | h
  .rw[h];exact Xb m
  .exact Az ms n h
end
def A_:List V:=au 8 (.int .u64 0)
def xV:List V:=.int .i64 0::.int .i64 0::A_
def cU(l:List (List UInt8)):List (List V):=l.map λs=>[.aF s]
variable{α:Type}
def qN{l:List α}{d:α}(h:i<l.length):l.getD i d=l[i]:=by simp[h]
def iY(l:List (List UInt8)):(cU l).length=l.length:=by simp[cU]
def Nw{l:List (List UInt8)}(h:j<l.length):(cU l)[((j:Nat):Int).toNat]?=U [.aF (l.getD j [])]:=by simp[cU,h]
def V8{l:List (List UInt8)}:(cU l).take j=cU (l.take j):=by simp[cU,List.map_take]
def dh:Option Nat->Int
 | some k=>k
 | none=>-1
def gY(l:List (List UInt8))(s:List UInt8):Option Nat:=(bU l.length).find? λi=>decide (l.getD i []=s)
def N6(l:List (List UInt8)):Option Nat:=(bU l.length).find? λi=>(gY (l.take i) (l.getD i [])).isSome
section
variable {l:List (List UInt8)} {s:List UInt8} {i:Nat}
def MH{o:Option Nat}:decide (0<=dh o)=o.isSome:=by
 cases o with
 | none=>rfl
 | some k=>exact aQ (by simp only[dh];omega)
def BS{o:Option Nat}:decide (dh o<0)=o.isNone:=by
 cases o with
 | none=>rfl
 | some k=>exact aM (by simp only[dh];omega)
def F1{p:Nat->Bool}{n:Nat}(h:(bU n).find? p=U k):k<n/\p k=aa/\∀j,j<k->p j=false:=by
 refine⟨by simpa using O5 h,by simpa using List.find?_some h,λj hj=>?_⟩;obtain⟨_,as,bs,h2,h3⟩:=ET.1 h;have hl:as.length=k:=by
  have:=gX (λl:List Nat=>l[as.length]?) h2
  simp only[AR (bP _),Nat.sub_self,XY] at this;rw[IM] at this
  .simpa using this
  .have:=gX List.length h2;simp at this;omega
 have gM : j∈as:=by
  have:=gX (λl:List Nat=>l[j]?) h2
  rw[sA (by omega),IM (by have:=gX List.length h2;simp at this;omega)] at this;exact rA this.symm
 have:=h3 j gM
 simpa using this
end
def tj(l:List (List UInt8)):Bool:=decide (1<=l.length)&&decide (l.length<=64)&&(N6 l).isNone&&l.all dG
structure bp where
 kind:Int
 aj:List (List UInt8)
 rel:Rl
def bp.enc(f:bp):List V:=.int .i64 f.kind::.sl .no 1 (cU f.aj)::f.rel.enc
def bp.zero:bp:=⟨0,[],.zero⟩
section
variable {f g:bp} {m:Nat}
def bp.cP:f.enc.length=67:=by simp[bp.enc,Rl.cP]
def bp.fX:cC f.enc=true:=by simp[bp.enc,cC,V.one,Rl.fX]
def bp.dw:bK f.enc=true:=by simp[bp.enc,bK,V.cI,Rl.dw]
def bp.dk:bx f.enc=f.enc:=by simp[bp.enc,bx,V.erase,Rl.dk]
def bp.cH:bS m f.enc=true:=by simp[bp.enc,bS,V.lo,Rl.cH]
def bp.fm:takeN 67 f.enc=U f.enc:=by have:=yB (c:=f.enc);rwa [bp.cP] at this
def bp.gQ:bF aa 67 f.enc=U (.agg f.enc):=by rw[x9,bp.fm];rfl
def bp.gm:bZ 67 f.enc=true:=by have:=xC (c:=f.enc);rwa [bp.cP] at this
def bp.fR:over g.enc f.enc=f.enc:=tu (by rw[bp.cP,bp.cP])
theorem bp.M':bF ak 1 f.enc=U (.int .i64 f.kind):=rfl
theorem bp.r_s:bF ak 1 (f.enc.drop 1)=U (.sl .no 1 (cU f.aj)):=rfl
theorem bp.tC:bF ak 1 (f.enc.drop 2)=U (.int .i64 f.rel.n):=rfl
def bp.r_r:bF aa 65 (f.enc.drop 2)=U (.agg f.rel.enc):=by
 show bF aa 65 f.rel.enc=_;exact Rl.gQ
def bp.apa:takeN 65 (f.enc.drop 2)=U f.rel.enc:=by
 show takeN 65 f.rel.enc=_;exact Rl.fm
def bp.XN:over qL f.enc=f.enc:=tu (by rw[bp.cP];rfl)
theorem bp.atE:bZ 67 qL=true:=rfl
def bp.zlo:bS m qL=true:=by
 have:qL = .int .i64 0::.sl .aV 1 []::Rl.zero.enc:=by rw[<-Rl.wE];rfl
 rw[this];simp[bS,V.lo,Rl.cH]
def bp.al:=ae @bp.cP <| ae @bp.fX <| ae @bp.dw <| ae @bp.dk <| ae @bp.cH <| ae @bp.fm <| ae @bp.gQ <| ae @bp.gm <| ae @bp.fR <| ae @bp.M' <| ae @bp.r_s <| ae @bp.tC <| ae @bp.r_r <| ae @bp.apa <| ae @bp.XN <| ae @bp.atE @bp.zlo
end
structure bA where
 tuple:Bool
 bO:List bp
def bA.enc(s:bA):List V:=[.bool s.tuple,.sl .no 67 (s.bO.map bp.enc)]
section
variable {s:bA} {g:Bool} {n:Nat} {a b:V}
theorem bA.cP:s.enc.length=2:=rfl
theorem bA.fX:cC s.enc=true:=rfl
theorem bA.dw:bK s.enc=true:=rfl
theorem bA.dk:bx s.enc=s.enc:=rfl
theorem bA.cH:bS n s.enc=true:=rfl
theorem bA.fm:takeN 2 s.enc=U s.enc:=rfl
theorem bA.gQ:bF aa 2 s.enc=U (.agg s.enc):=rfl
theorem bA.gm:bZ 2 s.enc=true:=rfl
theorem bA.fR:over [a,b] s.enc=s.enc:=rfl
theorem bA.Nb:bF ak 1 s.enc=U (.bool s.tuple):=rfl
theorem bA.Ef:bF ak 1 (s.enc.drop 1)=U (.sl .no 67 (s.bO.map bp.enc)):=rfl
def bA.al:=ae @bA.cP <| ae @bA.fX <| ae @bA.dw <| ae @bA.dk <| ae @bA.cH <| ae @bA.fm <| ae @bA.gQ <| ae @bA.gm <| ae @bA.fR <| ae @bA.Nb @bA.Ef
end
def bA.ok(s:bA):Prop:=s.bO.length<=100000/\∀f∈s.bO,f.aj.length<=100000
def qb(f:bp):Bool:=tj f.aj &&
 (if f.kind=1\/f.kind=2 then decide (bD f.rel=0) else if f.kind=3 then decide (f.rel.n=f.aj.length)&&qO f.rel else if f.kind=4 then decide (f.rel.n=f.aj.length)&&rb f.rel else ak)
def mN(s:bA):Bool:=decide (1<=s.bO.length)&&decide (s.bO.length<=8)&&(s.tuple||decide (s.bO.length=1))&&s.bO.all qb
def Va{r:Rl}:decide (j7 r=j7 Rl.zero)=decide (bD r=0):=by
 apply rG.2;have hz:bD Rl.zero=0:=by simp[bD,Rl.zero]
 constructor
 .intro h;have:=(U'.1 h).1;rw[this,hz]
 .intro h;rw[QK h,QK hz]
structure bh where
 w:List bB
 len:w.length=8
def bh.ext'{a b:bh}(h:a.w=b.w):a=b:=by cases a;cases b;simp only at h;subst h;rfl
instance:DecidableEq bh:=λa b=>if h:a.w=b.w then isTrue (bh.ext' h) else isFalse λe=>h (e▸rfl)
def bh.enc(e:bh):List V:=gE e.w
def bh.zero:bh:=⟨au 8 0#64,by simp⟩
def bh.get(e:bh)(i:Nat):bB:=e.w.getD i 0#64
def bh.put(e:bh)(i:Nat)(w:bB):bh:=⟨e.w.set i w,by simp[e.len]⟩
def bh.of(f:Nat->bB):bh:=⟨(bU 8).map f,by simp⟩
section
variable {e d:bh} {i m:Nat} {w:bB} {f:Nat->bB}
def bh.Bf:(e.put i w).get j=if i=j/\i<8 then w else e.get j:=by
 simp only[bh.get,bh.put,gU,List.getElem?_set,e.len]
 by_cases h:i=j
 .subst h
  by_cases h2:i<8
  .simp[h2]
  .simp[h2,e.len]
 .simp[h]
def bh.nY(h:i<8):(bh.of f).get i=f i:=by simp[bh.get,bh.of,gU,h]
def bh.ext(k:∀i,i<8->e.get i=d.get i):e=d:=by
 refine bh.ext' (OT (by rw[e.len,d.len]) λi h1 h2=>?_)
 have:=k i (by rw[e.len] at h1;exact h1)
 simpa [bh.get,gU,h1,h2] using this
def bh.cP:e.enc.length=8:=by simp[bh.enc,FR,e.len]
def bh.fX:cC e.enc=true:=QS
def bh.dw:bK e.enc=true:=QR
def bh.dk:bx e.enc=e.enc:=QN
def bh.cH:bS m e.enc=true:=QP
def bh.fm:takeN 8 e.enc=U e.enc:=by have:=yB (c:=e.enc);rwa [bh.cP] at this
def bh.gQ:bF aa 8 e.enc=U (.agg e.enc):=by rw[x9,bh.fm];rfl
def bh.gm:bZ 8 e.enc=true:=by have:=xC (c:=e.enc);rwa [bh.cP] at this
def bh.fR:over d.enc e.enc=e.enc:=tu (by rw[bh.cP,bh.cP])
def bh.wE:A_=bh.zero.enc:=by rw[bh.enc,gE,bh.zero,List.map_replicate];rfl
def bh.pS:fA [1,1,1,1,1,1,1,1] e.enc d.enc=U (decide (e=d)):=by
 show fA (au 8 1) (gE e.w) (gE d.w)=_;rw[QM e.len d.len];congr 1;exact rG.2 ⟨bh.ext',λh=>h▸rfl⟩
def bh.AB(h:i<8):bZ 1 (e.enc.drop i)=true:=QO (by rw[e.len];exact h)
def bh.AD(h:i<8):setAt e.enc i [.int .u64 (w.toNat:Nat)]=(e.put i w).enc:=QT (by rw[e.len];exact h)
def bh.fill:(bh.of λj=>if j<i then f j else 0#64).put i (f i)=bh.of λj=>if j<i+1 then f j else 0#64:=by
 refine bh.ext λk hk=>?_
 rw[bh.Bf,bh.nY hk,bh.nY hk]
 by_cases h:i=k
 .subst h;simp[hk]
 .rw[aC (by omega)]
  by_cases h2:k<i
  .rw[aE h2,aE (by omega)]
  .rw[aC h2,aC (by omega)]
def bh.atD:bh.zero=bh.of λ_=>0#64:=by
 refine bh.ext λi hi=>?_
 rw[bh.nY hi];simp only[bh.get,bh.zero,gU,XZ,hi,cD,E8]
def bh.al:=ae @bh.cP <| ae @bh.fX <| ae @bh.dw <| ae @bh.dk <| ae @bh.cH <| ae @bh.fm <| ae @bh.gQ <| ae @bh.gm <| ae @bh.fR <| ae @bh.wE @bh.pS
end
def ajD(s:bA)(a b:bh)(i:Nat):bB :=
 match s.bO[i]? with
 | some f=>if f.kind=4 then ape f.rel (a.get i) (b.get i) else a.get i|||b.get i
 | none=>a.get i|||b.get i
def ajC(s:bA)(a b:bh):bh:=bh.of (ajD s a b)
def alK(a b:bh):bh:=bh.of λi=>a.get i&&&b.get i
def hZ(ws:List aA):Bool:=ws.all λw=>dG w.an
def Nd.kr(n:Nd):Bool:=dG n.an&&decide ((n.aj.length:Int)+n.ah.length=0)
def Nd.kJ(n:Nd):Bool:=decide (n.an=[])&&decide ((n.aj.length:Int)=0)
def Nd.pd(n:Nd):Bool:=decide (n.kind=6)&&dG n.an&&hZ n.aj&&decide ((n.ah.length:Int)=0)
mutual
def Nd.im:Nd->Bool
 | .mk k p t ws ks =>
  if k=2 then(Nd.mk k p t ws ks).kr
  else if k=3 then decide (t=[])&&hZ ws&&decide ((ks.length:Int)=0)
  else if k=4 then(Nd.mk k p t ws ks).kJ&&decide ((0:Int)<ks.length)&&FI ks
  else if k=5 then(Nd.mk k p t ws ks).kJ&&ks.all Nd.pd
  else ak
def FI:List Nd->Bool
 | []=>aa
 | n::ns=>n.im&&FI ns
end
def Qw:∀l,FI l=l.all Nd.im
 | []=>rfl
 | n::ns=>by simp[FI,Qw ns]
def Nd.y5(n:Nd):n.im=if n.kind=2 then n.kr else if n.kind=3 then decide (n.an=[])&&hZ n.aj&&decide ((n.ah.length:Int)=0)
 else if n.kind=4 then n.kJ&&decide ((0:Int)<n.ah.length)&&n.ah.all Nd.im else if n.kind=5 then n.kJ&&n.ah.all Nd.pd else false:=by
 cases n;rw[<-Qw];rw[Nd.im];rfl
def uF(f:Nd->Bool):List Nd->Bool
 | []=>ak
 | n::_=>f n
mutual
def Nd.eY:Nd->Bool
 | .mk k p t ws ks =>
  if k=1 then(Nd.mk k p t ws ks).kr
  else if k=7 then(Nd.mk k p t ws ks).kJ&&decide ((ks.length:Int)=1)&&uF Nd.im ks
  else if k=8\/k=9 then(Nd.mk k p t ws ks).kJ&&decide ((0:Int)<ks.length)&&G9 ks
  else ak
def G9:List Nd->Bool
 | []=>aa
 | n::ns=>n.eY&&G9 ns
end
def Tt:∀l,G9 l=l.all Nd.eY
 | []=>rfl
 | n::ns=>by simp[G9,Tt ns]
def Nd.s_(n:Nd):n.eY=if n.kind=1 then n.kr else if n.kind=7 then n.kJ&&decide ((n.ah.length:Int)=1)&&uF Nd.im n.ah
 else if n.kind=8\/n.kind=9 then n.kJ&&decide ((0:Int)<n.ah.length)&&n.ah.all Nd.eY else false:=by
 cases n;rw[<-Tt];rw[Nd.eY];rfl
def Nd.po(n:Nd):Bool:=(decide (n.kind=1)||decide (n.kind=7))&&n.eY
def Nd.ly(n:Nd):Bool:=decide (n.kind=11)&&dG n.an&&decide ((n.aj.length:Int)=0)&&decide ((n.ah.length:Int)=1)&&uF Nd.po n.ah
def Nd.iX(n:Nd):Bool :=
 if n.kind=10 then decide (n.an=[])&&decide ((n.aj.length:Int)<=1)&&hZ n.aj&&n.ah.all Nd.ly else decide (n.kind=1)&&n.eY
def dy:List aA->List aA->Bool
 | [],[]=>aa
 | w::ws,u::us=>decide (w.an=u.an)&&dy ws us
 | _,_=>ak
mutual
def Nd.cK:Nd->Nd->Bool
 | .mk k _ t ws ks,n=>decide (k=n.kind)&&decide (t=n.an)&&dy ws n.aj&&cZ ks n.ah
def cZ:List Nd->List Nd->Bool
 | [],[]=>aa
 | n::ns,m::ms=>n.cK m&&cZ ns ms
 | _,_=>ak
end
def Nd.Ap(n m:Nd):n.cK m=(decide (n.kind=m.kind)&&decide (n.an=m.an)&&dy n.aj m.aj&&cZ n.ah m.ah):=by cases n;rw[Nd.cK];rfl
def Wd:∀l,dy l l=aa
 | []=>rfl
 | w::ws=>by simp[dy,Wd ws]
mutual
def Nd.Ei:∀n:Nd,n.cK n=aa
 | .mk k p t ws ks=>by simp[Nd.cK,Nd.kind,Nd.an,Nd.aj,Nd.ah,Wd,Wh ks]
def Wh:∀l:List Nd,cZ l l=aa
 | []=>by simp[cZ]
 | n::ns=>by simp[cZ,Nd.Ei n,Wh ns]
end
def NC:∀{a b:List aA},dy a b=aa->a.length=b.length
 | [],[],_=>rfl
 | [],_::_,h=>by simp[dy] at h
 | _::_,[],h=>by simp[dy] at h
 | _::ws,_::us,h=>by simp only[dy,bC] at h;simp[NC h.2]
def NG:∀{a b:List Nd},cZ a b=aa->a.length=b.length
 | [],[],_=>rfl
 | [],_::_,h=>by simp[cZ] at h
 | _::_,[],h=>by simp[cZ] at h
 | _::ws,_::us,h=>by simp only[cZ,bC] at h;simp[NG h.2]
def NA:∀{a b:List aA} {i:Nat} (ha:i<a.length) (hb:i<b.length),a.length=b.length->dy (a.take i) (b.take i)=aa->dy (a.take (i+1)) (b.take (i+1))=decide (a[i].an=b[i].an)/\(decide (a[i].an=b[i].an)=ak->dy a b=ak)
 | w::ws,u::us,0,_,_,_,_=>by simp[dy];intro h1 h2;exact absurd h2 h1
 | w :: ws, u :: us, i + 1, ha, hb, hl, h => by
  simp only[vu,dy,bC] at h ⊢
  have:=NA (a:=ws) (b:=us) (i:=i) (by simpa using ha) (by simpa using hb) (by simpa using hl) h.2
  simp only[h.1,lj,EU];exact this
 | [],_,_,ha,_,_,_=>by simp at ha
 | _::_,[],_,_,hb,_,_=>by simp at hb
def NF:∀{a b:List Nd} {i:Nat} (ha:i<a.length) (hb:i<b.length),a.length=b.length->cZ (a.take i) (b.take i)=aa->cZ (a.take (i+1)) (b.take (i+1))=a[i].cK b[i]/\(a[i].cK b[i]=ak->cZ a b=ak)
 | w::ws,u::us,0,_,_,_,_=>by simp[cZ];intro h1 h2;rw[h1] at h2;simp at h2
 | w :: ws, u :: us, i + 1, ha, hb, hl, h => by
  simp only[vu,cZ,bC] at h ⊢
  have:=NF (a:=ws) (b:=us) (i:=i) (by simpa using ha) (by simpa using hb) (by simpa using hl) h.2
  simp only[h.1,lj,EU];exact this
 | [],_,_,ha,_,_,_=>by simp at ha
 | _::_,[],_,_,hb,_,_=>by simp at hb
def pq(o:Option Int):List V:=[.bool o.isSome,.int .i64 (o.getD 0)]
def uA(o:Option Int):List V:=[.int .i64 (if o.isSome then 4 else 0),.int .i64 (o.getD 0)]
def gO(l:List (List UInt8))(s:bB):List aA->bB × Option Int
 | []=>(s,af)
 | w::ws=>match gY l w.an with | none=>(0#64,U w.pos) | some k=>gO l (kb s (k:Nat)) ws
def va(f:bp)(s:bB):List Nd->bB × Option Int
 | []=>(s,af)
 | k :: ks => match gY f.aj k.an with
  | none=>(0#64,U k.pos)
  | some o => match (gO f.aj 0#64 k.aj).2 with
   | some p=>(0#64,U p)
   | none=>va f (s|||B0 f.rel o (gO f.aj 0#64 k.aj).1) ks
def pT(f:bp)(s:bB)(aG:Option Int):List Nd->bB × Option Int
 | []=>(s,aG)
 | k :: ks => match gY f.aj k.an with
  | none=>(0#64,aG.or (U k.pos))
  | some o=>pT f (s|||B0 f.rel o (gO f.aj 0#64 k.aj).1) (aG.or (gO f.aj 0#64 k.aj).2) ks
def Nq{f:bp}{p:Int}:∀{ks:List Nd} {s:bB},(pT f s (U p) ks).2=U p
 | [],_=>rfl
 | k :: ks, s => by
  simp only[pT];split
  .rfl
  .exact Nq
def VU{f:bp}:∀{ks:List Nd} {s:bB},(pT f s af ks).2=(va f s ks).2/\((va f s ks).2=af->(pT f s af ks).1=(va f s ks).1)
 | [],_=>⟨rfl,λ_=>rfl⟩
 | k :: ks, s => by
  simp only[pT,va];split
  .exact⟨rfl,λh=>by simp at h⟩
  .split
   .rename_i o _ p hp;rw[hp];exact⟨Nq,λh=>by simp at h⟩
   .rename_i hp;rw[hp];exact VU
def pR(f:bp)(n:Nd):bB × Option Int :=
 match gY f.aj n.an with
 | none=>(0#64,U n.pos)
 | some k=>(if f.kind=4 then vF f.rel k else(Ao (f.aj.length:Nat) (k:Nat)).1,af)
def zS(f:bp):Int:=if f.kind=2 then 3 else if f.kind=3 then 5 else 2
def vn(f:bp)(n:Nd):bB × Option Int :=
 if n.kind=zS f then(if f.kind=2 then gO f.aj 0#64 n.aj else if f.kind=3 then va f 0#64 n.ah else pR f n) else(0#64,U n.pos)
def mm(f:bp)(n:Nd)(aG:Option Int):bB × Option Int :=
 if n.kind=zS f then(if f.kind=2 then((gO f.aj 0#64 n.aj).1,aG.or (gO f.aj 0#64 n.aj).2) else if f.kind=3 then pT f 0#64 aG n.ah else((pR f n).1,aG.or (pR f n).2)) else(0#64,aG.or (U n.pos))
def XH{f:bp}{n:Nd}{p:Int}:(mm f n (U p)).2=U p:=by
 unfold mm;split
 .split
  .rfl
  .split
   .exact Nq
   .rfl
 .rfl
def ath{f:bp}{n:Nd}:(mm f n af).2=(vn f n).2/\((vn f n).2=af->(mm f n af).1=(vn f n).1):=by
 unfold mm vn;split
 .split
  .simp
  .split
   .exact VU
   .simp
 .simp
def j5:Nd:=.mk 0 0 [] [] []
def kc(s:bA)(ks:List Nd)(i:Nat):bB × Option Int:=vn (s.bO.getD i .zero) (ks.getD i j5)
def vH(s:bA)(ks:List Nd):bh × Option Int :=
 match (bU s.bO.length).find? λi=>(kc s ks i).2.isSome with
 | some i=>(.zero,(kc s ks i).2)
 | none=>(bh.of λj=>if j<s.bO.length then(kc s ks j).1 else 0#64,af)
def j6(s:bA)(n:Nd):List Nd:=if s.tuple then n.ah else [n]
def pO(s:bA)(n:Nd):Bool:=!s.tuple||(decide (n.kind=4)&&decide (n.ah.length=s.bO.length))
def iq(s:bA)(n:Nd):bh × Option Int:=if pO s n&&mN s&&n.im then vH s (j6 s n) else(.zero,U n.pos)
def C4(s:bA)(ks:List Nd)(i:Nat)(x:bh × Option Int):Prop :=
 (x.2=af/\(∀k,k<i->(kc s ks k).2=af)/\x.1=bh.of λj=>if j<i then(kc s ks j).1 else 0#64) \/
 (x.2.isSome=aa/\∃k,k<i/\(kc s ks k).2=x.2/\∀j,j<k->(kc s ks j).2=af)
def ahR{s:bA}{ks:List Nd}:C4 s ks 0 (.zero,af):=.inl ⟨rfl,λk h=>by omega,bh.atD⟩
def ahQ{s:bA}{ks:List Nd}{e:bh}{o:Option Int}(h:C4 s ks i (e,o)):
 C4 s ks (i+1) (e.put i (mm (s.bO.getD i .zero) (ks.getD i j5) o).1,(mm (s.bO.getD i .zero) (ks.getD i j5) o).2):=by
 rcases h with ⟨h1,h2,h3⟩ | ⟨h1,k,h2,h3,h4⟩
 .simp only at h1 h3;subst h1;subst h3;obtain⟨e1,e2⟩:=@ath (s.bO.getD i .zero) (ks.getD i j5);cases hb:(vn (s.bO.getD i .zero) (ks.getD i j5)).2 with
  | none =>
   left;refine⟨by simp only;rw[e1,hb],λk hk=>?_,?_⟩
   .rcases X7.1 hk with h | rfl
    .exact h2 k h
    .exact hb
   .simp only;rw[e2 hb];exact bh.fill (f:=λj=>(kc s ks j).1)
  | some p =>
   right;refine⟨by simp only;rw[e1,hb];rfl,i,by omega,by simp only;rw[e1];rfl,h2⟩
 .simp only at h1 h3;obtain⟨p,rfl⟩:=Pb.1 h1;right;exact⟨by simp only;rw[XH];rfl,k,by omega,by simp only;rw[XH];exact h3,h4⟩
def ahP{s:bA}{ks:List Nd}{x:bh × Option Int}(h:C4 s ks s.bO.length x):vH s ks=if x.2.isSome then(.zero,x.2) else(x.1,af):=by
 rcases h with ⟨h1,h2,h3⟩ | ⟨h1,k,h2,h3,h4⟩
 .have e:(bU s.bO.length).find? (λi=>(kc s ks i).2.isSome)=none:=by
   rw[IL];intro i hi;rw[h2 i (by simpa using hi)];simp
  rw[vH,e,h1,h3];rfl
 .have e:(bU s.bO.length).find? (λi=>(kc s ks i).2.isSome)=U k:=by
   rw[ET];refine⟨by rw[h3];exact h1,bU k,List.range' (k+1) (s.bO.length - (k+1)),?_,λa ha=>by rw[h4 a (by simpa using ha)];rfl⟩;rw[tX,tX,<-Ct]
   have:=O7 (s:=0) (m:=k) (n:=s.bO.length - k) (step:=1)
   simp only[w9,jy] at this;rw[show s.bO.length - (k+1)+1=s.bO.length - k by omega,this];congr 1;omega
  rw[vH,e,aE h1];simp only[h3]
mutual
def Nd.cy:Nd->Nat
 | .mk _ _ _ ws ks=>1+ws.length+gg ks
def gg:List Nd->Nat
 | []=>0
 | n::ns=>n.cy+gg ns
end
def Qe:∀a b:List Nd,gg (a++b)=gg a+gg b
 | [],b=>by simp[gg]
 | x::xs,b=>by simp only[gI,gg,Qe xs b];omega
def Qh(l:List Nd)(i:Nat):gg (l.take i)<=gg l:=by
 have:=Qe (l.take i) (l.drop i)
 rw[qA] at this;omega
def asF(l:List aA):l.length<=eK l:=by
 unfold eK;induction l with
 | nil=>simp
 | cons w ws ih=>simp only[b8,nM,dd];omega
mutual
def FH:∀n:Nd,n.cy<=n.wt
 | .mk k p t ws ks => by
  have:=Qj ks
  have:=asF ws
  simp only[Nd.cy,Nd.wt];omega
def Qj:∀l:List Nd,gg l<=ft l
 | []=>by simp[gg,ft]
 | n :: ns => by
  have:=FH n
  have:=Qj ns
  simp only[gg,ft];omega
end
structure dY where
 name:List UInt8
 shape:bA
def dY.enc(l:dY):List V:=.aF l.name::l.shape.enc
structure du where
 name:List UInt8
 kind:Int
 lat:Int
def du.enc(v:du):List V:=[.aF v.name,.int .i64 v.kind,.int .i64 v.lat]
structure aH where
 bu:List dY
 vars:List du
def aH.enc(s:aH):List V:=[.sl .no 3 (s.bu.map dY.enc),.sl .no 3 (s.vars.map du.enc)]
section
variable {l:dY} {v:du} {s:aH} {n:Nat} {a b c:V}
theorem aH.cP:s.enc.length=2:=rfl
theorem aH.fX:cC s.enc=true:=rfl
theorem aH.dw:bK s.enc=true:=rfl
theorem aH.dk:bx s.enc=s.enc:=rfl
theorem aH.cH:bS n s.enc=true:=rfl
theorem aH.fm:takeN 2 s.enc=U s.enc:=rfl
theorem aH.gQ:bF aa 2 s.enc=U (.agg s.enc):=rfl
theorem aH.gm:bZ 2 s.enc=true:=rfl
theorem aH.fR:over [a,b] s.enc=s.enc:=rfl
theorem aH.Na:bF ak 1 s.enc=U (.sl .no 3 (s.bu.map dY.enc)):=rfl
theorem aH.Nc:bF ak 1 (s.enc.drop 1)=U (.sl .no 3 (s.vars.map du.enc)):=rfl
theorem du.tC:bF ak 1 v.enc=U (.aF v.name):=rfl
theorem du.M':bF ak 1 (v.enc.drop 1)=U (.int .i64 v.kind):=rfl
theorem du.Na:bF ak 1 (v.enc.drop 2)=U (.int .i64 v.lat):=rfl
theorem dY.tC:bF ak 1 l.enc=U (.aF l.name):=rfl
theorem dY.apc:takeN 2 (l.enc.drop 1)=U l.shape.enc:=rfl
def aH.al:=ae @aH.cP <| ae @aH.fX <| ae @aH.dw <| ae @aH.dk <| ae @aH.cH <| ae @aH.fm <| ae @aH.gQ <| ae @aH.gm <| ae @aH.fR <| ae @aH.Na <| ae @aH.Nc <| ae @du.tC <| ae @du.M' <| ae @du.Na <| ae @dY.tC @dY.apc
end
structure bw where
 op:Int
 n:Int
 c:bh
def bw.enc(i:bw):List V:=.int .i64 i.op::.int .i64 i.n::i.c.enc
def bw.zero:bw:=⟨0,0,.zero⟩
def bw.ext'{a b:bw}(h1:a.op=b.op)(h2:a.n=b.n)(h3:a.c=b.c):a=b:=by cases a;cases b;simp only at h1 h2 h3;subst h1;subst h2;subst h3;rfl
instance:DecidableEq bw:=λa b=>if h:a.op=b.op/\a.n=b.n/\a.c=b.c then isTrue (bw.ext' h.1 h.2.1 h.2.2) else isFalse λe=>h (e▸⟨rfl,rfl,rfl⟩)
section
variable {i j:bw} {n:Nat} {x y:Int} {e:bh}
def bw.cP:i.enc.length=10:=by simp[bw.enc,bh.cP]
def bw.fX:cC i.enc=true:=by simp[bw.enc,cC,V.one,bh.fX]
def bw.dw:bK i.enc=true:=by simp[bw.enc,bK,V.cI,bh.dw]
def bw.dk:bx i.enc=i.enc:=by simp[bw.enc,bx,V.erase,bh.dk]
def bw.cH:bS n i.enc=true:=by simp[bw.enc,bS,V.lo,bh.cH]
def bw.fm:takeN 10 i.enc=U i.enc:=by have:=yB (c:=i.enc);rwa [bw.cP] at this
def bw.gQ:bF aa 10 i.enc=U (.agg i.enc):=by rw[x9,bw.fm];rfl
def bw.gm:bZ 10 i.enc=true:=by have:=xC (c:=i.enc);rwa [bw.cP] at this
def bw.fR:over j.enc i.enc=i.enc:=tu (by rw[bw.cP,bw.cP])
theorem bw.r_o:bF ak 1 i.enc=U (.int .i64 i.op):=rfl
theorem bw.tC:bF ak 1 (i.enc.drop 1)=U (.int .i64 i.n):=rfl
def bw.ao8:takeN 8 (i.enc.drop 2)=U i.c.enc:=by show takeN 8 i.c.enc=_;exact bh.fm
def bw.wE:xV=bw.zero.enc:=by
 show V.int .i64 0::V.int .i64 0::A_=_;rw[bh.wE];rfl
def bw.Zy:over i.enc [.int .i64 x]=(bw.mk x i.n i.c).enc:=by rw[bw.enc,o8,me];rfl
theorem bw.CG:bZ 1 i.enc=true:=rfl
theorem bw.Zu:bZ 1 (i.enc.drop 1)=true:=rfl
def bw.I':setAt i.enc 1 [.int .i64 x]=(bw.mk i.op x i.c).enc:=by rw[bw.enc,jo,lR,o8,me];rfl
def bw.Zv:bZ 8 (i.enc.drop 2)=true:=by show bZ 8 i.c.enc=aa;exact bh.gm
def bw.I_:setAt i.enc 2 e.enc=(bw.mk i.op i.n e).enc:=by rw[bw.enc,jo,jo,lR,bh.fR];rfl
def bw.pS:fA [1,1,1,1,1,1,1,1,1,1] i.enc j.enc=U (decide (i=j)):=by
 rw[bw.enc,bw.enc,uu,uu,bh.pS,rD,rD];congr 1;rw[<-wV,<-wV];exact rG.2 ⟨λh=>bw.ext' h.1 h.2.1 h.2.2,λh=>h▸⟨rfl,rfl,rfl⟩⟩
def bw.al:=ae @bw.cP <| ae @bw.fX <| ae @bw.dw <| ae @bw.dk <| ae @bw.cH <| ae @bw.fm <| ae @bw.gQ <| ae @bw.gm <| ae @bw.fR <| ae @bw.r_o <| ae @bw.tC <| ae @bw.ao8 <| ae @bw.wE <| ae @bw.Zy <| ae @bw.CG <| ae @bw.Zu <| ae @bw.I' <| ae @bw.Zv <| ae @bw.I_ @bw.pS
end
def Mr(l:List dY)(t:List UInt8)(i:Nat):Bool:=match l[i]? with | some x=>decide (x.name=t) | none=>ak
def Ms(l:List du)(t:List UInt8)(i:Nat):Bool:=match l[i]? with | some x=>decide (x.name=t) | none=>ak
def iu(l:List dY)(t:List UInt8):Option Nat:=(bU l.length).find? (Mr l t)
def kj(l:List du)(t:List UInt8):Option Nat:=(bU l.length).find? (Ms l t)
def wP(s:aH)(lat:Nat)(t:List UInt8):Option bw :=
 match kj s.vars t with
 | none=>af
 | some k => match s.vars[k]? with
  | some v=>if v.kind=1/\v.lat=(lat:Nat) then U ⟨1,k,.zero⟩ else af
  | none=>af
def vf(s:aH)(lat:Nat):bA:=match s.bu[lat]? with | some l=>l.shape | none=>⟨ak,[]⟩
def nh(s:aH)(lat:Nat)(n:Nd):Option bw :=
 if n.kind=1 then wP s lat n.an
 else match (iq (vf s lat) (n.ah.getD 0 j5)).2 with | none=>U ⟨2,0,(iq (vf s lat) (n.ah.getD 0 j5)).1⟩ | some _=>af
def sc(n:Nd):bw:=⟨if n.kind=9 then 4 else 3,n.ah.length,.zero⟩
mutual
def mX(s:aH)(lat:Nat):Nd->Option (List bw)
 | .mk k p t ws ks=>if k=1\/k=7 then(nh s lat (.mk k p t ws ks)).map λi=>[i] else(p_ s lat ks).map λl=>l++[sc (.mk k p t ws ks)]
def p_(s:aH)(lat:Nat):List Nd->Option (List bw)
 | []=>U []
 | n::ns=>match mX s lat n with | none=>af | some l=>(p_ s lat ns).map λm=>l++m
end
variable{lat:Nat}
def Jq{s:aH}(n:Nd):mX s lat n=if n.kind=1\/n.kind=7 then(nh s lat n).map λi=>[i] else(p_ s lat n.ah).map λl=>l++[sc n]:=by
 cases n;rw[mX];rfl
def mw(s:aH)(lat:Int)(n:Nd):Option (List bw):=if 0<=lat/\lat<s.bu.length/\n.eY=aa then mX s lat.toNat n else af
def Ak(s:aH)(lat:Nat)(f:Nd × Nat):Option (List bw) :=
 if f.1.kind=1\/f.1.kind=7 then(nh s lat f.1).map λi=>[i] else(p_ s lat (f.1.ah.drop f.2)).map λl=>l++[sc f.1]
def VC{s:aH}{n:Nd}:Ak s lat (n,0)=mX s lat n:=by rw[Ak,Jq];simp
def rJ(s:aH)(lat:Nat):List (Nd × Nat)->List bw->Option (List bw)
 | [],out=>U out
 | f::fs,out=>match Ak s lat f with | none=>af | some l=>rJ s lat fs (out++l)
variable{d:Nat}
def apo{s:aH}{n:Nd}{fs:List (Nd × Nat)}{out:List bw}(h:¬(n.kind=1\/n.kind=7))(hd:d<n.ah.length):
 rJ s lat ((n,d)::fs) out=rJ s lat ((n.ah[d],0)::(n,d+1)::fs) out:=by
 simp only[rJ,VC];rw[Ak,aC h,Ak,aC h,mq hd,p_];cases mX s lat n.ah[d] with
 | none=>rfl
 | some l =>
  cases p_ s lat (n.ah.drop (d+1)) with
  | none=>rfl
  | some m=>simp only[vB,eB]
def apn{s:aH}{n:Nd}{fs:List (Nd × Nat)}{out:List bw}(h:¬(n.kind=1\/n.kind=7))(hd:n.ah.length<=d):
 rJ s lat ((n,d)::fs) out=rJ s lat fs (out++[sc n]):=by
 simp only[rJ];rw[Ak,aC h,OR hd,p_];rfl
def apq{s:aH}{n:Nd}{fs:List (Nd × Nat)}{out:List bw}(h:n.kind=1\/n.kind=7):
 rJ s lat ((n,d)::fs) out=match nh s lat n with | none=>af | some i=>rJ s lat fs (out++[i]):=by
 simp only[rJ];rw[Ak,aE h];cases nh s lat n<;>rfl
def pI:List (Nd × Nat)->Nat
 | []=>0
 | f::fs=>2*gg (f.1.ah.drop f.2)+1+pI fs
def Nd.sH(n:Nd):1+gg n.ah<=n.cy:=by cases n;simp only[Nd.cy,Nd.ah];omega
def Uf{n:Nd}{fs:List (Nd × Nat)}(hd:d<n.ah.length):pI ((n.ah[d],0)::(n,d+1)::fs)<pI ((n,d)::fs):=by
 simp only[pI,II]
 have:=Nd.sH n.ah[d]
 rw[mq hd,gg];omega
mutual
def Qm{s:aH}{lat:Nat}:∀(n:Nd) {l:List bw},mX s lat n=U l->l.length<=n.cy
 | .mk k p t ws ks, l, h => by
  rw[mX] at h;split at h
  .simp only[c7] at h;obtain⟨i,_,rfl⟩:=h;simp only[Nd.cy,dd,eM];omega
  .simp only[c7] at h;obtain⟨m,hm,rfl⟩:=h
   have:=Qn ks hm
   simp only[Nd.cy,bN,dd,eM];omega
def Qn{s:aH}{lat:Nat}:∀(ks:List Nd) {l:List bw},p_ s lat ks=U l->l.length<=gg ks
 | [],l,h=>by rw[p_] at h;cases h;simp
 | n :: ns, l, h => by
  rw[p_] at h;cases hn:mX s lat n with
  | none=>rw[hn] at h;simp at h
  | some a =>
   rw[hn] at h;simp only[c7] at h;obtain⟨b,hb,rfl⟩:=h
   have:=Qm n hn
   have:=Qn ns hb
   simp only[gg,bN];omega
end
def CO(n:Nd):n.aj.length<=n.cy:=by cases n;simp only[Nd.cy,Nd.aj];omega
def Qf{m:Nd}:∀{l:List Nd},m∈l->m.cy<=gg l
 | [],h=>by simp at h
 | n :: l, h => by
  simp only[gg]
  rcases kI.1 h with rfl | h
  .omega
  .have:=Qf h;omega
def qG{n m:Nd}(h:m∈n.ah):m.cy<n.cy:=by
 have:=Qf h
 have:=Nd.sH n;omega
def Jo:∀(l:List Nd),l.length<=gg l
 | []=>by simp
 | n :: l => by
  have:=Jo l
  have:=Nd.sH n
  simp only[gg,dd];omega
def y4(n:Nd):n.ah.length<=n.cy:=by
 have:=Jo n.ah
 have:=Nd.sH n;omega
def aH.ok(s:aH):Prop:=s.bu.length<=100000/\s.vars.length<=100000/\∀l∈s.bu,l.shape.ok
def Tq{n:Nd}(h:n.eY=aa)(h1:¬(n.kind=1\/n.kind=7)):∀m∈n.ah,m.eY=true:=by
 rw[Nd.s_,aC (λe=>h1 (.inl e)),aC (λe=>h1 (.inr e))] at h;split at h
 .simp only[bC,ln] at h;exact h.2
 .simp at h
def DP{n:Nd}(h:n.eY=aa)(h1:n.kind=7):n.ah.length=1:=by
 rw[Nd.s_,aC (by rw[h1];decide),aE h1] at h;simp only[bC,ca] at h;omega
def aa5(s:aH)(lat:Int)(n:Nd):((mw s lat n).getD []).length<=n.cy:=by
 cases h:mw s lat n with
 | none=>simp
 | some l =>
  rw[mw] at h;split at h
  .exact Qm n h
  .simp at h
def atY(s:bA)(op:Int)(a b:bh):bh:=if op=3 then ajC s a b else alK a b
structure aL where
 cls:Int
 aD:Int
def aL.zero:aL:=⟨0,0⟩
def aL.ext'{a b:aL}(h:a.cls=b.cls)(k:a.aD=b.aD):a=b:=by cases a;cases b;simp only at h k;subst h;subst k;rfl
instance:DecidableEq aL:=λa b=>if h:a.cls=b.cls/\a.aD=b.aD then isTrue (aL.ext' h.1 h.2) else isFalse λe=>h ⟨e▸rfl,e▸rfl⟩
def aL.enc(f:aL):List V:=[.int .i64 f.cls,.int .i64 f.aD]
section
variable {f g:aL} {n:Nat} {a b:V}
theorem aL.cP:f.enc.length=2:=rfl
theorem aL.fX:cC f.enc=true:=rfl
theorem aL.dw:bK f.enc=true:=rfl
theorem aL.dk:bx f.enc=f.enc:=rfl
theorem aL.cH:bS n f.enc=true:=rfl
theorem aL.fm:takeN 2 f.enc=U f.enc:=rfl
theorem aL.gQ:bF aa 2 f.enc=U (.agg f.enc):=rfl
theorem aL.gm:bZ 2 f.enc=true:=rfl
theorem aL.fR:over g.enc f.enc=f.enc:=rfl
theorem aL.ao':over [a,b] f.enc=f.enc:=rfl
theorem aL.M_:bF ak 1 f.enc=U (.int .i64 f.cls):=rfl
theorem aL.r_p:bF ak 1 (f.enc.drop 1)=U (.int .i64 f.aD):=rfl
def aL.pS:fA [1,1] f.enc g.enc=U (decide (f=g)):=by
 rw[aL.enc,aL.enc,uu,uu,JH,rD,rD];congr 1;rw[vp,<-wV];exact rG.2 ⟨λh=>aL.ext' h.1 h.2,λh=>h▸⟨rfl,rfl⟩⟩
def aL.al:=ae @aL.cP <| ae @aL.fX <| ae @aL.dw <| ae @aL.dk <| ae @aL.cH <| ae @aL.fm <| ae @aL.gQ <| ae @aL.gm <| ae @aL.fR <| ae @aL.ao' <| ae @aL.M_ <| ae @aL.r_p @aL.pS
end
def uU(xk f:aL):Bool:=decide (xk.cls=0)||decide (f.cls<xk.cls)||(decide (f.cls=xk.cls)&&decide (f.aD<xk.aD))
def kK(xk f:aL):aL:=if f.cls=0 then xk else if uU xk f then f else xk
def fU(l:List aL):aL:=l.foldl kK .zero
def td(a b:aL):Prop:=a.cls<b.cls\/(a.cls=b.cls/\a.aD<=b.aD)
def G_(a:aL):td a a:=.inr ⟨rfl,IB _⟩
def Tz{a b c:aL}(h:td a b)(k:td b c):td a c:=by unfold td at *;omega
def L7:∀(l:List aL) (o:aL),(l.foldl kK o=o\/(l.foldl kK o∈l/\(l.foldl kK o).cls≠0))/\(o.cls≠0->(l.foldl kK o).cls≠0/\td (l.foldl kK o) o)/\∀f∈l,f.cls≠0->(l.foldl kK o).cls≠0/\td (l.foldl kK o) f
 | [],o=>⟨.inl rfl,λh=>⟨h,G_ o⟩,by simp⟩
 | f :: l, o => by
  obtain⟨h1,h2,h3⟩:=L7 l (kK o f);rw[yL];have hb:kK o f=o\/(kK o f=f/\f.cls≠0):=by
   unfold kK
   by_cases h:f.cls=0
   .rw[aE h];exact .inl rfl
   .rw[aC h];split
    .exact .inr ⟨rfl,h⟩
    .exact .inl rfl
  have ho:o.cls≠0->(kK o f).cls≠0/\td (kK o f) o:=λh=>by
   unfold kK
   by_cases hf:f.cls=0
   .rw[aE hf];exact⟨h,G_ o⟩
   .rw[aC hf];split
    .rename_i hl;refine⟨hf,?_⟩;simp only[uU,mn,bC,ca] at hl;unfold td;omega
    .exact⟨h,G_ o⟩
  have hf:f.cls≠0->(kK o f).cls≠0/\td (kK o f) f:=λh=>by
   unfold kK;rw[aC h];split
   .exact⟨h,G_ f⟩
   .rename_i hl;simp only[uU,mn,bC,ca] at hl;unfold td;exact⟨by omega,by omega⟩
  refine⟨?_,λh=>?_,λg hg hc=>?_⟩
  .rcases h1 with h1 | ⟨h1,vO⟩
   .rw[h1]
    rcases hb with hb | ⟨hb,b9⟩
    .exact .inl hb
    .rw[hb];exact .inr ⟨by simp,b9⟩
   .exact .inr ⟨by simp[h1],vO⟩
  .obtain⟨k1,k2⟩:=ho h;obtain⟨k3,k4⟩:=h2 k1;exact⟨k3,Tz k4 k2⟩
  .rcases kI.1 hg with rfl | hg
   .obtain⟨k1,k2⟩:=hf hc;obtain⟨k3,k4⟩:=h2 k1;exact⟨k3,Tz k4 k2⟩
   .exact h3 g hg hc
def L6{a:List aL}(h:(fU a).cls=0):fU a = .zero/\∀f∈a,f.cls=0:=by
 obtain⟨a1,_,a3⟩:=L7 a .zero;refine⟨?_,λf hf=>Classical.byContradiction λhc=>(a3 f hf hc).1 h⟩
 rcases a1 with e | ⟨_,e⟩
 .exact e
 .exact absurd h e
def TD{a:List aL}(h:∀f∈a,f.cls=0):fU a = .zero:=by
 rcases(L7 a .zero).1 with e | ⟨e,e'⟩
 .exact e
 .exact absurd (h _ e) e'
def akx{l:List aL}(hi:i<l.length):fU (l.take (i+1))=kK (fU (l.take i)) l[i]:=by
 rw[fU,jx hi,AQ];rfl
def Q8{l:List du}{t:List UInt8}(h:kj l t=U k):k<l.length:=by
 unfold kj at h;simpa using O5 h
structure Wht where
 lat:Int
 v:List bh
 w:List bh
def XT(v r:V):List V->List V->Prop
 | [],[]=>True
 | x::xs,y::ys=>(y=x\/(x=v/\y=r)\/y = .any)/\XT v r xs ys
 | _,_=>False
def FT{F:Nat->α->St}{J:Nat->α->Prop}(n:Nat)(h:∀Y,Z.aK Y=af->∃x,J 0 x/\ey Y n t (F 0 x).t/\l=(F 0 x).aD/\(F 0 x).out=Z.aY Y n):AM F J ⟨t,l,Z⟩ :=
 (bq.Ax (ι:={x // J 0 x}) (I:=λx=>F 0 x.1) n λY br=>by
   obtain⟨x,h1,h2,h3,h4⟩:=h Y br;exact⟨⟨x,h1⟩,h2,h3,h4⟩).mono λ_ ⟨x,e⟩=>⟨x.1,x.2,e⟩
def wX(Y n:Nat):List (List V)->List (List V)->Prop
 | [],[]=>True
 | c::l,c' :: l' => ey Y n c c' /\ wX Y n l l'
 | _,_=>False
variable{Y:Nat}
def wX.spec{n:Nat}:∀{l l' : List (List V)},wX Y n l l' -> l.length=l'.length/\∀(i:Nat) c',l'[i]?=U c' -> ∃c,l[i]?=U c/\ey Y n c c'
 | [],[],_=>⟨rfl,λi c' h=>by simp at h⟩
 | [],_::_,h=>h.elim
 | _::_,[],h=>h.elim
 | c :: l, c' :: l', h => by
  obtain⟨h1,h2⟩:=wX.spec h.2;refine⟨by simp[h1],λi d hd=>?_⟩;cases i with
  | zero=>simp at hd;subst hd;exact⟨c,rfl,h.1⟩
  | succ i=>exact h2 i d (by simpa using hd)
theorem ak'{n:Nat}:wX Y n [] []=True:=rfl
variable{l':List (List V)}
theorem ak_{n:Nat}{c':List V}:wX Y n (c::l) (c' :: l')=(ey Y n c c' /\ wX Y n l l'):=rfl
def Mc:=ae @ak' @ak_
def JE{F:Nat->α->St}{J:Nat->α->Prop}(n:Nat)(h:∀Y,Z.aK Y=af->∃x,J 0 x/\ey Y n t (F 0 x).t/\wX Y n l (F 0 x).aD/\(F 0 x).out=Z.aY Y n):AM F J ⟨t,l,Z⟩ :=
 bq.tok n λY br=>by
  obtain⟨x,h1,h2,h3,h4⟩:=h Y br;obtain⟨k1,k2⟩:=h3.spec;exact⟨_,_,Z,h2,k1,k2,p8.rfl,x,h1,by rw[<-h4]⟩
def UF:∀{a b:List V},cC (a++b)=(cC a&&cC b)
 | [],b=>by simp[cC]
 | x::a,b=>by simp[cC,UF,Bool.and_assoc]
def delta(l:List Tok)(i:Nat):Int:=(if closing (eP l i)≠0 then 1 else 0) - (if kN (eP l i)=aa then 1 else 0)
def tz{l:List Tok}{x n:Nat}{d:Int}:jn l x (n+1) i d=if d+delta l i=0 then i else jn l x n (i+1) (d+delta l i):=by
 simp only[jn,delta];have e:d+(if closing (eP l i)≠0 then 1 else 0) - (if kN (eP l i)=aa then 1 else 0)=d+((if closing (eP l i)≠0 then 1 else 0) - (if kN (eP l i)=aa then 1 else 0)):=by omega
 rw[e];rfl
def QB(l:List Tok)(i:Nat) : -1<=delta l i:=by unfold delta;split<;>split<;>omega
def CS{l:List Tok}(h:closing (eP l i)≠0):delta l i=1:=by
 unfold delta
 have:kN (eP l i)=false:=by
  unfold closing at h;unfold kN;split at h
  .rename_i hk;rw[hk];decide
  .split at h
   .rename_i hk;rcases hk with hk | hk<;>rw[hk]<;>decide
   .exact absurd rfl h
 rw[this,aE h];simp
def MP{l:List Tok}{x:Nat}:∀(n i:Nat) (d:Int),jn l x n i d=x\/i<=jn l x n i d
 | 0,_,_=>.inl rfl
 | n + 1, i, d => by
  rw[tz];split
  .exact .inr (bP _)
  .rcases MP n (i+1) (d+delta l i) with h | h
   .exact .inl h
   .exact .inr (by omega)
def scan{l:List Tok}{x j:Nat}:∀(n i:Nat) (d:Int),i+n=l.length->1<=d->x<i->i<=j->j<jn l x n i d->∃d',1<=d' /\ jn l x n i d=jn l x (l.length - j) j d'
 | 0,i,d,_,_,hx,hj,h=>by simp only[jn] at h;omega
 | n + 1, i, d, hl, hd, hx, hj, h => by
  by_cases KQ:i=j
  .subst KQ;exact⟨d,hd,by rw[show l.length - i=n+1 by omega]⟩
  rw[tz] at h ⊢;split at h
  .omega
  .rename_i he;rw[aC he]
   have:=QB l i
   exact scan n (i+1) _ (by omega) (by omega) (by omega) (by omega) h
def less{l:List Tok}{x y:Nat}:∀(n p:Nat) (a b:Int),1<=a->a<b->y<p->x<p->p<=jn l x n p b->jn l y n p a<jn l x n p b
 | 0,p,a,b,_,_,_,hx,h=>by simp only[jn] at h;omega
 | n + 1, p, a, b, ha, hb, hy, hx, h => by
  have hd:=QB l p;simp only[tz] at h ⊢;rw[aC (show ¬b+delta l p=0 by omega)] at h ⊢;have h2:p+1<=jn l x n (p+1) (b+delta l p):=by rcases MP (l:=l) (x:=x) n (p+1) (b+delta l p) with e | e<;>omega
  split
  .omega
  .exact less n (p+1) _ _ (by omega) (by omega) (by omega) (by omega) h2
def nest{l:List Tok}(hi:closing (eP l i)≠0)(hj:closing (eP l j)≠0)(h1:i<j)(h2:j<partner l i)(hl:i<l.length):partner l j<partner l i:=by
 have hp:=HD hl;have e:partner l i=jn l i (l.length - i - 1) (i+1) 1:=by
  unfold partner;rw[show l.length - i=(l.length - i - 1)+1 by omega,tz,CS hi];simp
 rw[e] at h2;obtain⟨d,hd,e2⟩:=scan (l.length - i - 1) (i+1) 1 (by omega) (by omega) (by omega) (by omega) h2;have e3:jn l i (l.length - j) j d=jn l i (l.length - j - 1) (j+1) (d+1):=by
  rw[show l.length - j=(l.length - j - 1)+1 by omega,tz,CS hj,aC (by omega)];simp
 have e4:partner l j=jn l j (l.length - j - 1) (j+1) 1:=by
  unfold partner;rw[show l.length - j=(l.length - j - 1)+1 by omega,tz,CS hj];simp
 rw[e,e2,e3,e4];rw[e2,e3] at h2;exact less _ _ _ _ (by omega) (by omega) (by omega) (by omega) (by rcases MP (l:=l) (x:=i) (l.length - j - 1) (j+1) (d+1) with e | e<;>omega)
def Yc(l:List Tok)(i to:Nat):Prop:=∀j,i<=j->j<to->closing (eP l j)≠0->partner l j<to
def Ib{l:List Tok}:∀(n i to:Nat),to<=l.length->Yc l i to->bd (nG l n i to)<=to - i
 | 0,_,_,_,_=>by simp[nG,bd]
 | n + 1, i, to, hl, hw => by
  rw[nG];split
  .rename_i hi;split
   .rename_i hc;have hp:=HD (l:=l) (i:=i) (by omega);have hq:=hw i (bP _) hi hc;have h1:=Ib n (i+1) (partner l i) (by omega) λj a b c=>nest hc c (by omega) b (by omega)
    have h2:=Ib n (partner l i+1) to hl λj a b c=>hw j (by omega) b c
    simp only[bd,ar.many];omega
   .have h2:=Ib n (i+1) to hl λj a b c=>hw j (by omega) b c
    simp only[bd,ar.many];omega
  .simp[bd]
def uc(t:Tok):Prop:=(t.kind=97/\dG t.an=aa)\/(t.kind≠97/\t.an=[UInt8.ofNat t.kind.toNat])
def BO:∀(n p:Nat) (r:List UInt8) (acc:List Tok),(∀t∈acc,uc t)->∀t∈(fe n p r acc).1,uc t
 | 0,_,r,acc,h=>by cases r<;>simpa [fe] using h
 | n+1,p,[],acc,h=>by simpa [fe] using h
 | n + 1, p, c :: r, acc, h => by
  simp only[fe];split
  .exact h
  .split
   .rename_i hr;refine BO n _ _ _ λt ht=>?_
    rcases jw.1 ht with ht | ht
    .exact h t ht
    .rw[pj.1 ht];exact .inl ⟨rfl,hr.2⟩
   .split
    .rename_i hs;refine BO n _ _ _ λt ht=>?_
     rcases jw.1 ht with ht | ht
     .exact h t ht
     .rw[pj.1 ht];refine .inr ⟨λe=>?_,?_⟩
      .simp only at e;rw[e] at hs;revert hs;decide
      .simp
    .split
     .exact BO n _ _ _ h
     .simp
mutual
def ar.Good:ar->Prop
 | .mk t ks _=>uc t/\(closing t.kind=0->ks=[])/\eC ks
def eC:List ar->Prop
 | []=>True
 | t::ts=>t.Good/\eC ts
end
def J4:∀{a b:List ar},eC (a++b)↔eC a/\eC b
 | [],b=>by simp[eC]
 | t::ts,b=>by simp only[gI,eC,J4 (a:=ts),I2]
def xy(t:ar):t.Good↔uc t.tok/\(closing t.tok.kind=0->t.ah=[])/\eC t.ah:=by cases t;simp only[ar.Good,ar.tok,ar.ah]
def Ia{l:List Tok}(h:∀t∈l,uc t):∀(n i to:Nat),to<=l.length->eC (nG l n i to)
 | 0,_,_,_=>by simp[nG,eC]
 | n + 1, i, to, hl => by
  rw[nG];split
  .rename_i hi;have ht:uc (i_ l i):=by
    have e:i_ l i=l[i]:=by simp[i_,cL (show i<l.length by omega)]
    rw[e];exact h _ (fh _)
   have hk:(i_ l i).kind=eP l i:=by simp only[i_,eP];split<;>rfl
   split
   .rename_i hc;have hp:=HD (l:=l) (i:=i) (by omega);simp only[eC,ar.Good];exact⟨⟨ht,λe=>absurd (hk▸e) hc,Ia h n _ _ (by omega)⟩,Ia h n _ _ hl⟩
   .simp only[eC,ar.Good];exact⟨⟨ht,λ_=>trivial,trivial⟩,Ia h n _ _ hl⟩
  .exact trivial
def TT(s:List UInt8):eC (gS (dR s).1).1:=by
 unfold gS;split
 .exact trivial
 .exact Ia (BO _ _ _ _ (by simp)) _ _ _ (bP _)
def TU(s:List UInt8):bd (gS (dR s).1).1<=s.length:=by
 have hl:=TH s;unfold gS;split
 .simp[bd]
 .have:=Ib (l:=(dR s).1) (dR s).1.length 0 (dR s).1.length (bP _) λj _ hj _=>(HD hj).2
  simp only;omega
def arB{t:Tok}(h:uc t):t.an.length<=16:=by
 rcases h with ⟨_,h⟩ | ⟨_,h⟩
 .unfold dG at h;simp only[bC,ca] at h;exact h.1
 .rw[h];simp
structure ib(r r' : ab)(seg:List ar):Prop where
 ex:∃pre post,r.l=pre++seg++post/\r.at_=(pre.length:Nat)/\r'.at_=((pre++seg).length:Nat)
 l:r'.l=r.l
 b:r.aG=af
 b' : r'.aG=af
variable{r:ab}
def ib.trans{r' Vu:ab}{a b:List ar}(h:ib r r' a)(k:ib r' Vu b):ib r Vu (a++b):=by
 obtain⟨pre,post,e1,e2,e3⟩:=h.ex;obtain⟨MY,Ve,f1,f2,f3⟩:=k.ex;refine⟨⟨pre,Ve,?_,e2,?_⟩,k.l.trans h.l,h.b,k.b'⟩
 .have hl:(pre++a).length=MY.length:=by omega
  have:pre++a++post=MY ++ (b++Ve):=by rw[<-e1,<-h.l,f1,eB]
  obtain⟨g1,g2⟩:=List.append_inj this hl;rw[e1,g2];simp
 .rw[f3];have hl:(pre++a).length=MY.length:=by omega
  simp only[bN] at hl ⊢;omega
def ib.kl{r':ab}{a:List ar}(h:ib r r' a)(hg:eC r.l):eC a:=by
 obtain⟨pre,post,e1,_,_⟩:=h.ex;rw[e1,J4,J4] at hg;exact hg.1.2
def nD{k:Int}(h:(r.take k).2.aG=af):ib r (r.take k).2 [(r.take k).1]/\(r.take k).1.tok.kind=k:=by
 rcases r.tK k with ⟨hs,h1,h2,h3,h4⟩ | ⟨_,_,h1⟩
 .have dj := hs;simp only[ab.bT,ab.ok,bz,bC,ca,Cv] at dj;have aB:r.at_.toNat<r.l.length:=by omega
  have e:(r.take k).1=r.l[r.at_.toNat]:=by simp[ab.take,hs,gU,cL aB]
  refine⟨⟨⟨r.l.take r.at_.toNat,r.l.drop (r.at_.toNat+1),?_,?_,?_⟩,r.fy k,dj.1,h2⟩,?_⟩
  .rw[e,eB,mU,<-mq aB,qA]
  .rw[iR];omega
  .rw[h1,bN,iR,gC];omega
  .rw[e]
   have:=dj.2.2
   rw[cL aB] at this;simpa using this
 .exact absurd h h1
def iP(l:List ar):Nat:=26*bd l
def wI(a b:List ar):iP (a++b)=iP a+iP b:=by simp only[iP,r_];omega
def tJ(t:ar):iP [t]=26+iP t.ah:=by simp only[iP,bd,Mn];omega
def W4{t:Tok}(ht:t.kind≠97):∀(a:List Tok) (k:Option Int) (b:List Tok),iQ k (a++t::b)=iQ k a++t.an++iQ af b
 | [], k, b => by
  simp only[gd,iQ,ht,and_false,cn];cases b with
  | nil=>rfl
  | cons u us=>simp only[iQ,aZ,ht,CW,cn,reduceCtorEq]
 | x::xs,k,b=>by simp only[gI,iQ,W4 ht xs (U x.kind) b,eB]
def N4{t:Tok}(ht:t.kind≠97)(a b:List Tok):eZ (a++t::b)=eZ a++t.an++eZ b:=W4 ht a af b
def g_:∀a b:List ar,bn (a++b)=bn a++bn b
 | [],b=>rfl
 | t::ts,b=>by simp only[gI,bn,g_ ts b,eB]
def F4(t:ar):bn [t]=t.tok::(if closing t.tok.kind≠0 then bn t.ah++[⟨closing t.tok.kind,[UInt8.ofNat (closing t.tok.kind).toNat],t.fin⟩] else []):=by
 cases t;simp only[bn,ar.flat,eD,ar.tok,ar.ah,ar.fin];rfl
def wM{t:ar}(hk:t.tok.kind≠97)(hc:closing t.tok.kind=0)(a b:List ar):eZ (bn (a++[t]++b))=eZ (bn a)++t.tok.an++eZ (bn b):=by
 rw[g_,g_,F4,hc];simp only[ne_eq,Hu,cn,eB,mU];rw[<-eB (eZ (bn a))];exact N4 hk _ _
def ary{t:ar}(hk:t.tok.kind=97):eZ (bn [t])=t.tok.an:=by
 rw[F4,hk,show closing 97=0 from rfl];simp[eZ,iQ]
def B5{t:ar}(hc:closing t.tok.kind≠0):eZ (bn [t])=t.tok.an++eZ (bn t.ah)++[UInt8.ofNat (closing t.tok.kind).toNat]:=by
 have hk:t.tok.kind≠97:=λe=>hc (by rw[e];rfl)
 have rO:closing t.tok.kind≠97:=by unfold closing;split;omega;split;omega;omega
 rw[F4,aE hc];have h1:=N4 hk [] (bn t.ah++[⟨closing t.tok.kind,[UInt8.ofNat (closing t.tok.kind).toNat],t.fin⟩]);rw[gd] at h1;rw[h1,N4 rO];simp[eZ,iQ]
def Sound(one:ab->G × ab)(T:G->List UInt8)(Q:G->Prop)(S:G->Nat):Prop :=
 ∀r,eC r.l->(one r).2.aG=af->∃seg,ib r (one r).2 seg/\eZ (bn seg)=T (one r).1/\Q (one r).1/\S (one r).1<=iP seg
def RI{step:ab × List G->ab × List G}:∀{n:Nat} {a:ab × List G},(iK step n a).1.aG=af->a.1.aG=af
 | 0,a,h=>h
 | n + 1, a, h => by
  rw[iK] at h;split at h
  .rename_i hs;simp only[ab.bT,ab.ok,bC,Cv] at hs;exact hs.1
  .exact h
section
variable {G:Type} {one:ab->G × ab} {T:G->List UInt8} {Q:G->Prop} {S:G->Nat}
structure Has(T:G->List UInt8)(Q:G->Prop)(S:G->Nat)(seg:List ar)(xs:List G):Prop where
 t:eZ (bn seg)=cB (xs.map T)
 q:∀x∈xs,Q x
 s:(xs.map S).sum<=iP seg
 n:0<xs.length
def RM(hs:Sound one T Q S){r:ab}(hg:eC r.l):∀{n:Nat} {a:ab × List G} {seg:List ar},ib r a.1 seg->Has T Q S seg a.2->(iK (cc one) n a).1.aG=af ->
 ∃Wo,ib r (iK (cc one) n a).1 Wo /\ Has T Q S Wo (iK (cc one) n a).2
 | 0,a,seg,h,k,_=>⟨seg,h,k⟩
 | n + 1, a, seg, h, k, hb => by
  rw[iK] at hb ⊢;split
  .rename_i ai2;rw[aE ai2] at hb;have fv:=RI hb;have Dj:eC (a.1.take 44).2.l:=by rw[ab.fy,h.l];exact hg
   obtain⟨sg,e1,e2,e3,e4⟩:=hs (a.1.take 44).2 Dj fv;obtain⟨t1,t2⟩:=nD e1.b;refine RM hs hg (seg:=seg++[(a.1.take 44).1]++sg) ?_ ?_ hb
   .exact(h.trans t1).trans e1
   .have lA:eC [(a.1.take 44).1]:=t1.kl (by rw[h.l];exact hg);have b_:=((xy _).1 lA.1).1;have xR:(a.1.take 44).1.tok.an=[44]:=by
     rcases b_ with ⟨h1,_⟩ | ⟨_,h1⟩
     .omega
     .rw[h1,t2];rfl
    refine⟨?_,?_,?_,?_⟩
    .rw[wM (by rw[t2];decide) (by rw[t2];rfl),k.t,e2,xR];simp only[cc,f_,b8,eR];rw[Th,aE (by simpa using k.n)]
    .intro x hx
     rcases jw.1 hx with hx | hx
     .exact k.q x hx
     .rw[pj.1 hx];exact e3
    .have:=k.s
     simp only[cc,f_,b8,eR,List.sum_append,nM,rB,wI];omega
    .simp[cc]
  .exact⟨seg,h,k⟩
def WK(hs:Sound one T Q S)(hg:eC r.l)(hb:(dS (cc one) r).1.aG=af):∃seg,ib r (dS (cc one) r).1 seg/\Has T Q S seg (dS (cc one) r).2:=by
 unfold dS at hb ⊢;have fv:=RI hb;obtain⟨sg,e1,e2,e3,e4⟩:=hs r hg fv;refine RM hs hg e1 ?_ hb;refine⟨?_,?_,?_,?_⟩
 .simp only[cc,gd,b8,eR,cB,OV,eD];exact e2
 .intro x hx;simp only[cc,gd,pj] at hx;rw[hx];exact e3
 .simp only[cc,gd,b8,eR,nM,rB];omega
 .simp[cc]
def Jk{i:ab}(h:i.close.aG=af):i.aG=af/\¬i.at_<i.l.length:=by
 unfold ab.close at h;split at h
 .exact absurd h i.FY
 .rename_i hc;refine⟨h,λhl=>hc ⟨by simp[ab.ok,h],hl⟩⟩
def Pr{t:ar}{i:ab}{seg:List ar}(h:ib t.inner i seg)(hc:i.close.aG=af):seg=t.ah:=by
 obtain⟨pre,post,e1,e2,e3⟩:=h.ex;obtain⟨_,h2⟩:=Jk hc;have hp:pre=[]:=by
  have:t.inner.at_=0:=rfl
  rw[this] at e2;exact jv.1 (by omega)
 subst hp;have hq:post=[]:=by
  rw[h.l,e3,e1] at h2;simp only[gd,bN] at h2;exact jv.1 (by omega)
 subst hq;simpa [ar.inner] using e1.symm
def Jb(hs:Sound one T Q S){k:Int}{e:Bool}(hg:eC r.l)(hb:(r.bracket (cc one) k e).2.aG=af):
 ∃t,ib r (r.bracket (cc one) k e).2 [t]/\t.tok.kind=k/\eZ (bn t.ah)=cB ((r.bracket (cc one) k e).1.1.map T)/\(∀x∈(r.bracket (cc one) k e).1.1,Q x)/\((r.bracket (cc one) k e).1.1.map S).sum<=iP t.ah /\
  (e=ak->0<(r.bracket (cc one) k e).1.1.length):=by
 unfold ab.bracket at hb ⊢;split
 .rename_i b_;rw[aE b_] at hb;have fv:(r.take k).2.aG=none:=by simpa [ab.ok] using b_
  obtain⟨t1,t2⟩:=nD fv;have lA:(r.take k).1.Good:=(t1.kl hg).1;have vZ:eC (r.take k).1.ah:=((xy _).1 lA).2.2;have dD:(ab.inside (cc one) e (r.take k).1).1.close.aG=none:=hb;refine⟨(r.take k).1,⟨t1.ex,t1.l,t1.b,hb⟩,t2,?_⟩;simp only;generalize (r.take k).1=t at *;unfold ab.inside at dD ⊢;split
  .rename_i he;have hk:t.ah=[]:=jv.1 he.2;rw[hk];refine⟨rfl,by simp,by simp,λh=>?_⟩;rw[h] at he;simp at he
  .rename_i he;rw[aC he] at dD;obtain⟨seg,e1,e2⟩:=WK hs (r:=t.inner) vZ (Jk dD).1;have Le:=Pr e1 dD;subst Le;exact⟨e2.t,e2.q,e2.s,λ_=>e2.n⟩
 .rename_i b_;rw[aC b_] at hb;exact absurd hb (by simpa [ab.ok] using b_)
end
end Go.Am
