/-
  Part 3 of the proof of StackDropsUptoCardSaid: a logic over the model, the forms of the functions that the law reaches, and what they compute.
-/
import Derived.IntWalk
import Derived.Test.YtnpggmhoandloaaGreatDoorDrops2
set_option linter.unusedVariables false
set_option linter.unusedSimpArgs false
set_option linter.defProp false
set_option linter.unusedSectionVars false
set_option maxRecDepth 4000
set_option maxHeartbeats 4000000
open Option renaming some->U,none->ae
open Bool renaming true->aa,false->ak
open List renaming replicate->aA,range->cc,getD->gU,zipWith->lg
open Eq renaming mpr->eN
open Ne renaming symm->fm
namespace Go.Am
section
variable {P:Program} {d:Option Nat} {r:List AO} {K:St->Prop} {t:List V} {l:List (List V)} {D:ag} {x y z:X} {Q:Exit->St->Prop} {st:St} {a b:AC}
theorem arK:vc P .skip Q st=Q .normal st:=rfl
theorem arG{o:List AO}:vc P (.Eh o) Q st=bT P o (Q .normal) st:=rfl
theorem arL:vc P (.o7 a) Q st=bm st (vc P a Q):=rfl
theorem arC{o:List (AO × List Nat)}:vc P (.draw o) Q ⟨t,l,D⟩=cf P o [(l,D)] [] (Q .normal) ⟨t,l,D⟩:=rfl
theorem arJ:vc P (.seq a b) Q st=vc P a (Ci (vc P b Q) Q) st:=rfl
def Ca(P:Program)(v:V)(a b:AC)(Q:Exit->St->Prop)(st:St):Prop:=match v with | .bool c=>(c=aa->vc P a Q st)/\(c=ak->vc P b Q st) | _=>False
theorem arA:vc P (.cond x a b) Q st=Ca P (ev st x) a b Q st:=rfl
def ary:Ca P (.bool aa) a b Q st=vc P a Q st:=by simp[Ca]
def arx:Ca P (.bool ak) a b Q st=vc P b Q st:=by simp[Ca]
def fc{c:Bool}(h1:c=aa->vc P a Q st)(h2:c=ak->vc P b Q st):Ca P (.bool c) a b Q st:=⟨h1,h2⟩
variable{out:Nat}
def N7{l:List AO}{x:X}{dI dN dM nxt:Nat}{y:AC}(h:bT P l (λmG=>∃s:List UInt8,ev mG x = .aF s/\(∀c∈s,c.toNat<128)/\∃I:Nat->Nat->St->Prop,
 (∀b,bm (mG.put (U dI) (.raw (.pointer (U ⟨b,0,ae⟩)))) (I b 0)) /\
 (∀b i aH,I b i aH -> aH.t.getD dI .any = .raw (.pointer (U ⟨b,0,ae⟩))/\dN<aH.t.length/\dM<aH.t.length) /\
 (∀b i c aH,s[i]?=U c->I b i aH -> vc P y (ry nxt (xb out (I b (i+1)) Q)) ((aH.put (U dN) (.bq [.bool aa,.int .i64 (i:Nat),.int .i32 (c.toNat:Nat)])).put (U dM) (.bool aa))) /\
 (∀b aH,I b s.length aH -> Q .normal ((aH.put (U dN) (.bq [.bool ak])).put (U dM) (.bool ak)))) st):vc P (.BZ l x dI dN dM out nxt y) Q st:=h
variable{J:St->Prop}
theorem aoG:xb out J Q .normal st=bm st J:=rfl
theorem aoF{id:Nat}:xb out J Q (.exit id) st=if id=out then Q .normal st else Q (.exit id) st:=rfl
theorem aoH:xb out J Q .ret st=Q .ret st:=rfl
theorem arI:vc P (.scope a) Q st=vc P a (AX Q) st:=rfl
theorem alS:AX Q .normal st=Q .normal st:=rfl
theorem alR{id:Nat}:AX Q (.exit id) st=Q (.exit id) st:=rfl
theorem alT:AX Q .ret st=Q .ret st:=rfl
theorem arz{id:Nat}:vc P (.block id a) Q st=vc P a (ry id Q) st:=rfl
theorem arE{id:Nat}:vc P (.exit id) Q st=Q (.exit id) st:=rfl
theorem arH:vc P .ret Q st=Q .ret st:=rfl
theorem YW:Ci K Q .normal st=K st:=rfl
theorem YV{id:Nat}:Ci K Q (.exit id) st=Q (.exit id) st:=rfl
theorem YX:Ci K Q .ret st=Q .ret st:=rfl
theorem Zx{id:Nat}:ry id Q .normal st=Q .normal st:=rfl
theorem Zy{id:Nat}:ry id Q .ret st=Q .ret st:=rfl
theorem Zw{id zN : Nat}:ry id Q (.exit zN) st=if zN = id then Q .normal st else Q (.exit zN) st:=rfl
variable{ι:Type}
theorem ak0{I:ι->St}{μ:ι->Nat}{n id:Nat}:yM I μ Q n (.exit id) st=Q (.exit id) st:=rfl
theorem ak2{I:ι->St}{μ:ι->Nat}{n:Nat}:yM I μ Q n .ret st=Q .ret st:=rfl
theorem ak1{I:ι->St}{μ:ι->Nat}{n:Nat}:yM I μ Q n .normal st=bm st λaH => ∃j,aH = I j/\μ j<n:=rfl
def iE(I:ι->St)(μ:ι->Nat)(h0:bm st λaH => ∃i,aH = I i)(h:∀i,vc P a (yM I μ Q (μ i)) (I i)):vc P (.loop a) Q st:=⟨ι,I,μ,h0,h⟩
variable{R':V->ag->Prop}{rs:List RV}
theorem ao7:Fg rs R' .ret st=opt ((tD st rs).map tm) (mP R' st):=rfl
theorem ao6:Fg rs R' .normal st=opt ((tD st rs).map tm) (mP R' st):=rfl
variable{v:V}
theorem anf{K:V->Prop}:opt (U v) K=K v:=rfl
theorem apF:tD st []=U []:=rfl
def Qh(v:Option V)(l:Option (List V)):Option (List V):=v.bind λx=>l.map (x::·)
theorem aaT{l:List V}:Qh (U v) (U l)=U (v::l):=rfl
theorem apE{y:RV}:tD st (y::rs)=Qh (rv st y) (tD st rs):=rfl
theorem apD{n:Nat}:rv ⟨t,l,D⟩ (.tmp n)=U (t.getD n .any):=rfl
variable{g:Bool}
theorem apC{n m:Nat}:rv ⟨t,l,D⟩ (.cell n g m)=kR ⟨t,l,D⟩ g m (t.getD n .any):=rfl
theorem am0:tm [v]=v:=rfl
theorem amZ:tm [] = .bq []:=rfl
theorem amY{u v:V}{l:List V}:tm (u::v::l) = .bq (u::v::l):=rfl
theorem alm{v:List V}{f:List V->V}:Option.map f (U v)=U (f v):=rfl
variable{σ':ag}
def aN(h1:v.cG=aa)(h2:σ'.sub D)(h3:R' v.erase σ'):mP R' ⟨t,l,D⟩ v:=⟨h1,σ',_,h2,.inl rfl,h3⟩
def ao5(h1:v.cG=aa)(h2:σ'.sub D)(h3:R' v σ'):mP R' ⟨t,l,D⟩ v:=⟨h1,σ',_,h2,.inr rfl,h3⟩
def aS{w:V}(h:v.erase=w)(h1:v.cG=true:=by rfl):mP (λv σ' => v=w/\σ' = D) ⟨t,l,D⟩ v:=aN h1 (ag.bd _) ⟨h,rfl⟩
theorem ac'{n:Nat}:ev ⟨t,l,D⟩ (.s n)=t.getD n .any:=rfl
theorem ac9:ev st (.c v)=v:=rfl
theorem adb:cW st []=[]:=rfl
theorem ada{xs:List X}:cW st (x::xs)=ev st x::cW st xs:=rfl
theorem ahu{w:V}:(v::t).getD 0 w=v:=rfl
theorem aht{w:V}{n:Nat}:(v::t).getD (n+1) w=t.getD n w:=rfl
theorem ap7{w:V}:(v::t).set 0 w=w::t:=rfl
theorem ap5{w:V}{n:Nat}:(v::t).set (n+1) w=v::t.set n w:=rfl
theorem aop{n:Nat}:St.put ⟨t,l,D⟩ (U n) v=⟨t.set n v,l,D⟩:=rfl
theorem aoo:St.put st ae v=st:=rfl
theorem amM:bT P [] K st=K st:=rfl
def kL(P:Program)(d:Option Nat)(r:List AO)(K:St->Prop)(st:St)(v:V):Prop:=bT P r K (st.put d v)
theorem ajB:kL P d r K ⟨t,l,D⟩ v=bT P r K (St.put ⟨t,l,D⟩ d v):=rfl
def pJ(o:Option V)(K:V->Prop):Prop:=match o with | some v=>K v | none=>False
theorem anb{K:V->Prop}:pJ (U v) K=K v:=rfl
theorem amL:bT P (⟨d,.mv x,ae⟩::r) K st=bT P r K (st.put d (ev st x)):=rfl
def tz(P:Program)(v a b:V)(d:Option Nat)(r:List AO)(K:St->Prop)(st:St):Prop:=match v with | .bool aa=>bT P r K (st.put d a) | .bool ak=>bT P r K (st.put d b) | _=>False
def amQ:bT P (⟨d,.pick x y z,ae⟩::r) K st=tz P (ev st x) (ev st y) (ev st z) d r K st:=by
 simp only[bT,aG.a7,tz];cases ev st x<;>first | rfl | (rename_i b;cases b<;>rfl)
theorem anX{u:V}:tz P (.bool aa) u v d r K st=bT P r K (st.put d u):=rfl
theorem anV{u:V}:tz P (.bool ak) u v d r K st=bT P r K (st.put d v):=rfl
def anW{b c:Bool}:tz P (.bool b) (.bool c) (.bool ak) d r K st=bT P r K (st.put d (.bool (b&&c))):=by cases b<;>simp[tz]
def anY{b c:Bool}:tz P (.bool b) (.bool aa) (.bool c) d r K st=bT P r K (st.put d (.bool (b||c))):=by cases b<;>simp[tz]
variable{c:List V}
theorem amd:bT P (⟨d,.alloc c,ae⟩::r) K ⟨t,l,D⟩=bT P r K (St.put ⟨t,l++[c],D⟩ d (.ptr (.aC l.length) 0)):=rfl
theorem amk{n:Nat}:bT P (⟨d,.box n x,ae⟩::r) K ⟨t,l,D⟩=((ev ⟨t,l,D⟩ x).wd=U n/\bT P r K (St.put ⟨t,l++[(ev ⟨t,l,D⟩ x).cells],D⟩ d (.ptr (.aC l.length) 0))):=rfl
def kO(P:Program)(d:Option Nat)(r:List AO)(K:St->Prop)(st:St)(cs:List V):Prop:=∀b,st.out.box b=ae->bT P r K (St.put ⟨st.t,st.aC,st.out.set b cs⟩ d (.ptr (.out b) 0))
theorem ame:bT P (⟨d,.pe c,ae⟩::r) K st=(bH c=aa/\kO P d r K st c):=rfl
theorem amm{n:Nat}:bT P (⟨d,.fZ n x,ae⟩::r) K st=((ev st x).wd=U n/\bH (ev st x).cells=aa/\kO P d r K st (ev st x).cells):=rfl
def jU(h:∀b,D.box b=ae->bT P r K (St.put ⟨t,l,D.set b c⟩ d (.ptr (.out b) 0))):kO P d r K ⟨t,l,D⟩ c:=h
variable{ps:List (Nat × Nat × X)}
theorem amr:bT P (⟨d,.build c ps,ae⟩::r) K st=pJ ((nG st c ps).map V.agg) (kL P d r K st):=rfl
def MG(o:Option (List (List V)))(k:Nat)(K:V->Prop):Prop:=match o with | some v=>K (.sl .aW k v) | none=>False
variable{k:Nat}
theorem anc{v:List (List V)}{K:V->Prop}:MG (U v) k K=K (.sl .aW k v):=rfl
def amq{xs:List X}:bT P (⟨d,.j9 k xs,ae⟩::r) K st=MG (kY st k xs) k (kL P d r K st):=by
 simp only[bT,aG.a7];cases kY st k xs<;>rfl
theorem amJ{n:Nat}:bT P (⟨d,.load g n x,ae⟩::r) K st=pJ (kR st g n (ev st x)) (kL P d r K st):=rfl
def MH(P:Program)(o:Option St)(d:Option Nat)(r:List AO)(K:St->Prop):Prop:=match o with | some st=>bT P r K (st.put d .any) | none=>False
theorem ane:MH P (U st) d r K=bT P r K (st.put d .any):=rfl
def amT{n:Nat}:bT P (⟨d,.store n x y,ae⟩::r) K st=MH P (dm st n (ev st y) (ev st x)) d r K:=by
 simp only[bT,aG.a7,MH];cases dm st n (ev st y) (ev st x)<;>rfl
def Ad(v:V)(K:V->Prop):Prop:=match v with | .ptr p o=>K (.ptr p o) | .elt c o=>K (.elt c o) | .fn (.func f) a b=>K (.fn (.func f) a b) | _=>False
def amN:bT P (⟨d,.uX x,ae⟩::r) K st=Ad (ev st x) (kL P d r K st):=by
 simp only[bT,aG.a7,Ad];cases ev st x<;>first | rfl | (rename_i f _ _;cases f<;>rfl)
variable{o:Nat}{p:Pl}
theorem alO{K:V->Prop}:Ad (.ptr p o) K=K (.ptr p o):=rfl
theorem alM{K:V->Prop}:Ad (.elt c o) K=K (.elt c o):=rfl
variable{e:List V}{f:FuncId}
theorem alN{K:V->Prop}:Ad (.fn (.func f) c e) K=K (.fn (.func f) c e):=rfl
theorem ami{op:BinOp}:bT P (⟨d,.eD op x y,ae⟩::r) K st=pJ (uf op (ev st x) (ev st y)) (kL P d r K st):=rfl
theorem amj{op:BinOp}:bT P (⟨d,.nD op x y,ae⟩::r) K st=pJ (y3 op (ev st x) (ev st y)) (kL P d r K st):=rfl
theorem amh{n:Bool}:bT P (⟨d,.vI n x y,ae⟩::r) K st=pJ (xq n (ev st x) (ev st y)) (kL P d r K st):=rfl
def FE(u v:V)(K:V->Prop):Prop:=∃a b,u = .aF a/\v = .aF b/\a.length+b.length<=aM/\K (.aF (a++b))
theorem amv:bT P (⟨d,.cat x y,ae⟩::r) K st=FE (ev st x) (ev st y) (kL P d r K st):=rfl
def aaa{a b:List UInt8}{K:V->Prop}:FE (.aF a) (.aF b) K=(a.length+b.length<=aM/\K (.aF (a++b))):=by
 simp only[FE,V.aF.injEq,eq_iff_iff];constructor
 .rintro⟨a',b',rfl,rfl,h1,h2⟩;exact⟨h1,h2⟩
 .rintro⟨h1,h2⟩;exact⟨a,b,rfl,rfl,h1,h2⟩
variable{ks:List Nat}
theorem amy{n:Bool}:bT P (⟨d,.jf n ks x y,ae⟩::r) K st=pJ (xp n ks (ev st x) (ev st y)) (kL P d r K st):=rfl
def D8(v:V)(K:V->Prop):Prop:=match v with | .bool b=>K (.bool (!b)) | _=>False
def amO:bT P (⟨d,.not x,ae⟩::r) K st=D8 (ev st x) (kL P d r K st):=by
 simp only[bT,aG.a7,D8];cases ev st x<;>rfl
theorem al_{b:Bool}{K:V->Prop}:D8 (.bool b) K=K (.bool (!b)):=rfl
def DW(v:V)(K:V->Prop):Prop:=match v with | .sl _ _ l=>K (.int .i64 l.length) | .raw (.slice _ n _)=>K (.int .i64 n) | _=>False
def amH:bT P (⟨d,.uS x,ae⟩::r) K st=DW (ev st x) (kL P d r K st):=by
 simp only[bT,aG.a7,DW];cases ev st x<;>rfl
variable{m:List (List V)}
theorem akf{Z:Tk}{K:V->Prop}:DW (.sl Z k m) K=K (.int .i64 m.length):=rfl
def DX(v:V)(K:V->Prop):Prop:=match v with | .aF s=>K (.int .i64 s.length) | _=>False
def amI:bT P (⟨d,.uT x,ae⟩::r) K st=DX (ev st x) (kL P d r K st):=by
 simp only[bT,aG.a7,DX];cases ev st x<;>rfl
theorem akg{s:List UInt8}{K:V->Prop}:DX (.aF s) K=K (.int .i64 s.length):=rfl
def Bg(off:Nat)(v:V)(K:V->Prop):Prop:=match v with | .ptr p o=>K (.ptr p (o+off)) | .elt c o=>K (.elt c (o+off)) | _=>False
def amB{n:Nat}:bT P (⟨d,.nM n x,ae⟩::r) K st=Bg n (ev st x) (kL P d r K st):=by
 simp only[bT,aG.a7,Bg];cases ev st x<;>rfl
theorem adX{n:Nat}{K:V->Prop}:Bg n (.ptr p o) K=K (.ptr p (o+n)):=rfl
theorem adW{n:Nat}{K:V->Prop}:Bg n (.elt c o) K=K (.elt c (o+n)):=rfl
def C1(g:Bool)(off n:Nat)(v:V)(K:V->Prop):Prop:=match v with | .agg cs=>pJ (bD g n (cs.drop off)) K | _=>False
def amC{n m:Nat}:bT P (⟨d,.uy g m n x,ae⟩::r) K st=C1 g m n (ev st x) (kL P d r K st):=by
 simp only[bT,aG.a7,C1];cases ev st x<;>rfl
variable{cs:List V}
theorem adY{n m:Nat}{K:V->Prop}:C1 g m n (.agg cs) K=pJ (bD g n (cs.drop m)) K:=rfl
def zO(k:Nat)(v i:V)(K:V->Prop):Prop:=match v with
 | .sl _ k' l=>k' = k/\Iy l i λc=>K (.elt c 0)
 | .raw (.slice (U ⟨b,o,ae⟩) n _)=>∃ik j,i = .int ik j/\0<=j/\j<n/\K (.ptr (.out b) (o+j.toNat*k))
 | _=>False
def amE:bT P (⟨d,.rZ k x y,ae⟩::r) K st=zO k (ev st x) (ev st y) (kL P d r K st):=by
 simp only[bT,aG.a7,zO];cases ev st x<;>rfl
variable{ik:IntKind}
def qY{Z:Tk}{n:Int}{K:V->Prop}(h0:0<=n)(h:m[n.toNat]?=U c)(hk:K (.elt c 0)):zO k (.sl Z k m) (.int ik n) K:=⟨rfl,ik,n,c,rfl,h0,h,hk⟩
def xW{Z:Tk}{n:Int}{K:V->Prop}(h:m[n.toNat]?=U c)(hk:K (.elt c 0))(h0:0<=n:=by omega):zO k (.sl Z k m) (.int ik n) K:=qY h0 h hk
def xX(m k:Nat)(v i:V)(K:V->Prop):Prop:=match v with
 | .ptr p o=>∃kk n,i = .int kk n/\0<=n/\n<(m:Nat)/\K (.ptr p (o+n.toNat*k))
 | .elt c o=>∃kk n,i = .int kk n/\0<=n/\n<(m:Nat)/\K (.elt c (o+n.toNat*k))
 | _=>False
def amF{m:Nat}:bT P (⟨d,.qZ m k x y,ae⟩::r) K st=xX m k (ev st x) (ev st y) (kL P d r K st):=by
 simp only[bT,aG.a7,xX];cases ev st x<;>rfl
def aiV{m:Nat}{n:Int}{K:V->Prop}(h0:0<=n)(h:n<(m:Nat))(hk:K (.ptr p (o+n.toNat*k))):xX m k (.ptr p o) (.int ik n) K:=⟨ik,n,rfl,h0,h,hk⟩
def kj{m:Nat}{n:Int}{K:V->Prop}(hk:K (.ptr p (o+n.toNat*k)))(h0:0<=n:=by omega)(h:n<(m:Nat):=by omega):xX m k (.ptr p o) (.int ik n) K:=aiV h0 h hk
def aiU{m:Nat}{n:Int}{K:V->Prop}(h0:0<=n)(h:n<(m:Nat))(hk:K (.elt c (o+n.toNat*k))):xX m k (.elt c o) (.int ik n) K:=⟨ik,n,rfl,h0,h,hk⟩
def GX{m:Nat}{n:Int}{K:V->Prop}(hk:K (.elt c (o+n.toNat*k)))(h0:0<=n:=by omega)(h:n<(m:Nat):=by omega):xX m k (.elt c o) (.int ik n) K:=aiU h0 h hk
def BK(v i:V)(K:V->Prop):Prop:=match v with | .aF s=>∃k n c,i = .int k n/\0<=n/\s[n.toNat]?=U c/\K (.int .u8 c.toNat) | _=>False
def amG:bT P (⟨d,.sV x y,ae⟩::r) K st=BK (ev st x) (ev st y) (kL P d r K st):=by
 simp only[bT,aG.a7,BK];cases ev st x<;>rfl
variable{s:List UInt8}
def aiW{n:Int}{c:UInt8}{K:V->Prop}(h0:0<=n)(h:s[n.toNat]?=U c)(hk:K (.int .u8 c.toNat)):BK (.aF s) (.int ik n) K:=⟨ik,n,c,rfl,h0,h,hk⟩
def BL{n:Int}{c:UInt8}{K:V->Prop}(h:s[n.toNat]?=U c)(hk:K (.int .u8 c.toNat))(h0:0<=n:=by omega):BK (.aF s) (.int ik n) K:=aiW h0 h hk
def kC(P:Program)(d:Option Nat)(r:List AO)(K:St->Prop)(t:List V)(l:List (List V))(v:V)(D:ag):Prop:=bT P r K (St.put ⟨t,l,D⟩ d v)
theorem ajz:kC P d r K t l v D=bT P r K (St.put ⟨t,l,D⟩ d v):=rfl
theorem amt{xs:List X}:bT P (⟨d,.call f xs,ae⟩::r) K ⟨t,l,D⟩=(bH (cW ⟨t,l,D⟩ xs)=aa/\cm P f (cW ⟨t,l,D⟩ xs) D (kC P d r K t l)):=rfl
def Je(P:Program)(v:V)(args:List V)(D:ag)(K:V->ag->Prop):Prop:=match v with | .fn (.func f) a b=>bH (a++args++b)=aa/\cm P f (a++args++b) D K | _=>False
def amu{xs:List X}:bT P (⟨d,.ij x xs,ae⟩::r) K ⟨t,l,D⟩=Je P (ev ⟨t,l,D⟩ x) (cW ⟨t,l,D⟩ xs) D (kC P d r K t l):=by
 simp only[bT,aG.a7,Je];cases ev ⟨t,l,D⟩ x<;>first | rfl | (rename_i f _ _;cases f<;>rfl)
variable{args:List V}
theorem Z9{u v:List V}{K:V->ag->Prop}:Je P (.fn (.func f) u v) args D K=(bH (u++args++v)=aa/\cm P f (u++args++v) D K):=rfl
theorem amf:bT P (⟨d,.app k x y,ae⟩::r) K ⟨t,l,D⟩=pT D k (ev ⟨t,l,D⟩ x) (ev ⟨t,l,D⟩ y) (kC P d r K t l):=rfl
theorem amg:bT P (⟨d,.mj x y,ae⟩::r) K ⟨t,l,D⟩=(∃a,ev ⟨t,l,D⟩ y = .aF a/\pT D 1 (ev ⟨t,l,D⟩ x) (.sl .no 1 (dc a)) (kC P d r K t l)):=rfl
variable{u:Tk}{Z:Nat}
def jI{n:List (List V)}{K:V->ag->Prop}(hb:m.length+n.length<=aM)(ht:D.aJ Z=U m.length)(hk:K (.sl (.tk Z) k (m++n)) (D.aR Z (m.length+n.length))):
 pT D k (.sl (.tk Z) k m) (.sl u k n) K:=⟨_,m,n,rfl,⟨u,rfl⟩,hb,ht,hk⟩
def Fp{n:List (List V)}{K:V->ag->Prop}(hb:m.length+n.length<=aM)(hk:∀Z,D.aJ Z=ae->K (.sl (.tk Z) k (m++n)) (D.aR Z (m.length+n.length))):
 pT D k (.sl .aW k m) (.sl u k n) K:=⟨_,m,n,rfl,⟨u,rfl⟩,hb,.inl hk⟩
def xg{n:List (List V)}{K:V->ag->Prop}(hb:m.length+n.length<=aM)(hk:K (.sl .no k (m++n)) D):
 pT D k (.sl .aW k m) (.sl u k n) K:=⟨_,m,n,rfl,⟨u,rfl⟩,hb,.inr (.inl hk)⟩
def zd(i:Nat)(v:V)(K:V->Prop):Prop:=match v with | .bq vs=>pJ vs[i]? K | _=>False
variable{i:Nat}
def amA:bT P (⟨d,.ext x i,ae⟩::r) K st=zd i (ev st x) (kL P d r K st):=by
 simp only[bT,aG.a7,zd];cases ev st x<;>rfl
theorem adk{u:V}{us:List V}{K:V->Prop}:zd 0 (.bq (u::us)) K=K u:=rfl
theorem adj{i:Nat}{u:V}{us:List V}{K:V->Prop}:zd (i+1) (.bq (u::us)) K=zd i (.bq us) K:=rfl
theorem amK{f:Fn}{as bs:List X}:bT P (⟨d,.jx f as bs,ae⟩::r) K st=bT P r K (st.put d (.fn f (cW st as) (cW st bs))):=rfl
def CP(k:IntKind)(v:V)(K:V->Prop):Prop:=match v with | .int _ n=>K (.int k (k.wrap n)) | _=>False
def amx{k:IntKind}:bT P (⟨d,.pn k x,ae⟩::r) K st=CP k (ev st x) (kL P d r K st):=by
 simp only[bT,aG.a7,CP];cases ev st x<;>rfl
theorem abl{k j:IntKind}{n:Int}{K:V->Prop}:CP k (.int j n) K=K (.int k (k.wrap n)):=rfl
theorem amw:bT P (⟨d,.sF x,ae⟩::r) K st=(∃t s,ev st x = .sl t 1 (dc s)/\kL P d r K st (.aF s)):=rfl
def gL(P:Program)(v:V)(w:Bool)(d:Option Nat)(op:aG)(r:List AO)(K:St->Prop)(st:St):Prop :=
 match v with
 | .bool b=>if b=w then bT P (⟨d,op,ae⟩::r) K st else bT P r K (st.put d (.bq []))
 | .bq []=>bT P r K (st.put d (.bq []))
 | _=>False
def amD{g:Nat}{w:Bool}{op:aG}:bT P (⟨d,op,U (g,w)⟩::r) K ⟨t,l,D⟩=gL P (t.getD g .any) w d op r K ⟨t,l,D⟩:=by
 simp only[bT,gL,ev];generalize t.getD g .any=v;cases v<;>first | rfl | (rename_i m;cases m<;>rfl)
theorem ahm{w:Bool}{op:aG}:gL P (.bq []) w d op r K st=bT P r K (st.put d (.bq [])):=rfl
theorem ahl{op:aG}:gL P (.bool aa) aa d op r K st=bT P (⟨d,op,ae⟩::r) K st:=rfl
theorem ahi{op:aG}:gL P (.bool ak) ak d op r K st=bT P (⟨d,op,ae⟩::r) K st:=rfl
theorem ahk{op:aG}:gL P (.bool aa) ak d op r K st=bT P r K (st.put d (.bq [])):=rfl
theorem ahj{op:aG}:gL P (.bool ak) aa d op r K st=bT P r K (st.put d (.bq [])):=rfl
def zV(c:Option (List V))(g:Bool)(n o:Nat):Option V:=c.bind λcs=>bD g n (cs.drop o)
theorem aj0{n:Nat}:zV (U c) g n o=bD g n (c.drop o):=rfl
theorem aj9{g:Bool}{n i o:Nat}:kR ⟨t,l,D⟩ g n (.ptr (.aC i) o)=zV l[i]? g n o:=rfl
theorem aj_{n:Nat}:kR ⟨t,l,D⟩ g n (.ptr (.out i) o)=zV (D.box i) g n o:=rfl
theorem aj8{n:Nat}:kR ⟨t,l,D⟩ g n (.ptr (.jM i) o)=zV (D.bO i) g n o:=rfl
theorem aj7{n:Nat}:kR st g n (.elt cs o)=bD g n (cs.drop o):=rfl
theorem yb{n:Nat}:bD aa n cs=(takeN n cs).map V.agg:=rfl
theorem aj1{n:Nat}{c:V}:bD ak n (c::cs)=U c:=rfl
theorem aqT:takeN 0 cs=U []:=rfl
def TW(c:V):Option (List V)->Option (List V) | some l=>U (c::l) | none=>ae
def N0{n:Nat}{c:V}:takeN (n+1) (c::cs)=TW c (takeN n cs):=by
 simp only[takeN];cases takeN n cs<;>rfl
theorem alk{c:V}:TW c (U cs)=U (c::cs):=rfl
theorem ab4:cs.drop 0=cs:=rfl
theorem ab3{n:Nat}{c:V}:(c::cs).drop (n+1)=cs.drop n:=rfl
def WD(t:List V)(l:List (List V))(D:ag)(i o n:Nat)(x:V):Option (List V)->Option St
 | some cs=>if bW n (cs.drop o)=aa/\x.wd=U n/\cB x.cells=aa then U ⟨t,l.set i (setAt cs o x.cells),D⟩ else ae
 | none=>ae
def aqs{n:Nat}:dm ⟨t,l,D⟩ n v (.ptr (.aC i) o)=WD t l D i o n v l[i]?:=by
 simp only[dm];cases l[i]?<;>rfl
theorem aqq{n:Nat}:WD t l D i o n v (U cs)=if bW n (cs.drop o)=aa/\v.wd=U n/\cB v.cells=aa then U ⟨t,l.set i (setAt cs o v.cells),D⟩ else none:=rfl
def WE(t:List V)(l:List (List V))(D:ag)(i o n:Nat)(x:V):Option (List V)->Option St
 | some cs=>if bW n (cs.drop o)=aa/\x.wd=U n/\cB x.cells=aa/\bH x.cells=aa then U ⟨t,l,D.set i (setAt cs o x.cells)⟩ else ae
 | none=>ae
def aqt{n:Nat}:dm ⟨t,l,D⟩ n v (.ptr (.out i) o)=WE t l D i o n v (D.box i):=by
 simp only[dm];cases D.box i<;>rfl
theorem aqr{n:Nat}:WE t l D i o n v (U cs)=if bW n (cs.drop o)=aa/\v.wd=U n/\cB v.cells=aa/\bH v.cells=aa then U ⟨t,l,D.set i (setAt cs o v.cells)⟩ else none:=rfl
def gP{b:Nat}:(D.set b cs).box b=U cs:=by simp[ag.set]
def mE{b c:Nat}(h:c≠b):(D.set b cs).box c=D.box c:=by simp[ag.set,h]
theorem apZ{b Z n:Nat}:(D.aR Z n).box b=D.box b:=rfl
theorem ap2{b g:Nat}:(D.set b cs).bO g=D.bO g:=rfl
theorem ap0{g n:Nat}:(D.aR Z n).bO g=D.bO g:=rfl
theorem ap6{b Z:Nat}:(D.set b cs).aJ Z=D.aJ Z:=rfl
def NJ{n:Nat}:(D.aR Z n).aJ Z=U n:=by simp[ag.aR]
def o6{υ n:Nat}(h:υ≠Z):(D.aR Z n).aJ υ=D.aJ υ:=by simp[ag.aR,h]
theorem ZB:nG st c []=U c:=rfl
def PO(st:St)(c:List V)(off n:Nat)(v:V)(ps:List (Nat × Nat × X)):Option (List V):=if bW n (c.drop off)=aa/\v.wd=U n then nG st (setAt c off v.cells) ps else ae
variable{off:Nat}
theorem ZA{n:Nat}:nG st c ((off,n,x)::ps)=PO st c off n (ev st x) ps:=rfl
theorem Zv{n:Nat}:PO st c off n v ps=if bW n (c.drop off)=aa/\v.wd=U n then nG st (setAt c off v.cells) ps else none:=rfl
theorem apn{k:Nat}:kY st k []=U []:=rfl
def Nl(c:List V):Option (List (List V))->Option (List (List V)) | some l=>U (c::l) | none=>ae
theorem ape:Nl c (U m)=U (c::m):=rfl
def Nk(st:St)(k:Nat)(v:V)(xs:List X):Option (List (List V)):=if v.wd=U k/\bH v.cells=aa/\cB v.cells=aa then Nl (bw v.cells) (kY st k xs) else ae
def apm{xs:List X}:kY st k (x::xs)=Nk st k (ev st x) xs:=by
 simp only[kY,Nk];cases kY st k xs<;>rfl
theorem apa{xs:List X}:Nk st k v xs=if v.wd=U k/\bH v.cells=aa/\cB v.cells=aa then Nl (bw v.cells) (kY st k xs) else none:=rfl
def dE(v v' : V):Prop:=∀E u,R E v u->R E v' u
def dE.rfl:dE v v:=λ_ _ h=>h
def dE.any:dE v .any:=λ_ _ _=>by simp only[R]
def dE.erase:dE v v.erase:=λ_ _ h=>R.erase v h
def dE.no{Z:Tk}:dE (.sl Z k m) (.sl .no k m):=λ_ _ h=>R.erase (.sl Z k m) h
def cK:List V->List V->Prop
 | [],[]=>True
 | v::l,v' :: l' => dE v v' /\ cK l l'
 | _,_=>False
def cK.rfl:∀{l:List V},cK l l
 | []=>trivial
 | _::_=>⟨dE.rfl,cK.rfl⟩
def cK.mono:∀{l l' : List V} {E:Env} {us:List Value},cK l l' -> RL E l us->RL E l' us
 | [],[],_,_,_,h=>h
 | [],_::_,_,_,h,_=>h.elim
 | _::_,[],_,_,h,_=>h.elim
 | v::l,v' :: l',_,[],_,h=>by simp[RL] at h
 | v :: l, v' :: l', _, u :: us, h, hr => by
  simp only[RL] at hr ⊢;exact⟨h.1 _ _ hr.1,cK.mono h.2 hr.2⟩
def cK.length:∀{l l' : List V},cK l l' -> l.length=l'.length
 | [],[],_=>Eq.refl _
 | [],_::_,h=>h.elim
 | _::_,[],h=>h.elim
 | v::l,v' :: l',h=>by simp[cK.length h.2]
def cK.get:∀{l l' : List V},cK l l' -> ∀(j:Nat) v',l'[j]?=U v' -> ∃v,l[j]?=U v/\dE v v'
 | [],[],_,j,v',h=>by simp at h
 | [],_::_,h,_,_,_=>h.elim
 | _::_,[],h,_,_,_=>h.elim
 | v :: l, w :: l', h, j, v', hj => by
  cases j with
  | zero=>simp at hj;subst hj;exact⟨v,by simp,h.1⟩
  | succ j=>simp at hj;obtain⟨u,h1,h2⟩:=cK.get h.2 j v' hj;exact⟨u,by simpa using h1,h2⟩
def ch:List (List V)->List (List V)->Prop
 | [],[]=>True
 | v::l,v' :: l' => cK v v' /\ ch l l'
 | _,_=>False
def ch.rfl:∀{l:List (List V)},ch l l
 | []=>trivial
 | _::_=>⟨cK.rfl,ch.rfl⟩
def ch.length:∀{l l' : List (List V)},ch l l' -> l.length=l'.length
 | [],[],_=>Eq.refl _
 | [],_::_,h=>h.elim
 | _::_,[],h=>h.elim
 | v::l,v' :: l',h=>by simp[ch.length h.2]
def ch.get:∀{l l' : List (List V)},ch l l' -> ∀(j:Nat) v',l'[j]?=U v' -> ∃v,l[j]?=U v/\cK v v'
 | [],[],_,j,v',h=>by simp at h
 | [],_::_,h,_,_,_=>h.elim
 | _::_,[],h,_,_,_=>h.elim
 | v :: l, w :: l', h, j, v', hj => by
  cases j with
  | zero=>simp at hj;subst hj;exact⟨v,by simp,h.1⟩
  | succ j=>simp at hj;obtain⟨u,h1,h2⟩:=ch.get h.2 j v' hj;exact⟨u,by simpa using h1,h2⟩
variable{E:Env}{cs':List V}
def ja.eM{b:Nat}(h:cK cs cs')(k:ja E b cs):ja E b cs' := by
 obtain⟨c,e,h1,h2,h3⟩:=k;refine⟨c,e,h1,by rw[<-h.length];exact h2,λj x hx=>?_⟩;obtain⟨v,hv,hle⟩:=h.get j x hx;obtain⟨u,k1,k2⟩:=h3 j v hv;exact⟨u,k1,hle _ _ k2⟩
structure bN(D σ' : ag):Prop where
 box:∀b cs',σ'.box b=U cs' -> ∃cs,D.box b=U cs/\cK cs cs'
 aJ:∀Z n,σ'.aJ Z=U n->D.aJ Z=U n
 bO:∀b cs,σ'.bO b=U cs->D.bO b=U cs
def bN.rfl{D:ag}:bN D D:=⟨λ_ cs h=>⟨cs,h,cK.rfl⟩,λ_ _ h=>h,λ_ _ h=>h⟩
def bm.eM{t t' : List V}{l l' : List (List V)}{D σ' : ag}(h:cK t t')(hl:ch l l')(ho:bN D σ')(hk:K ⟨t',l',σ'⟩):bm ⟨t,l,D⟩ K:=by
 intro E a hs;refine⟨E,_,rfl,Fr.refl E,⟨⟨λb cs bP=>?_,λZ n hn=>hs.ok.aJ Z n (ho.aJ Z n hn),hs.ok.fresh,hs.ok.nt,λb cs hc=>hs.ok.bO b cs (ho.bO b cs hc)⟩,⟨λi cs bP=>?_,λi hi=>hs.cU.none i (by rw[hl.length];exact hi)⟩,hs.defers,h.mono hs.slot⟩,hk⟩
 .obtain⟨y9,h1,h2⟩:=ho.box b cs bP;obtain⟨k1,k2⟩:=hs.ok.box b y9 h1;exact⟨k1,k2.eM h2⟩
 .obtain⟨y9,h1,h2⟩:=hl.get i cs bP;obtain⟨b,k1,k2,k3⟩:=hs.cU.box i y9 h1;exact⟨b,k1,k2,k3.eM h2⟩
variable{as:List V}
def cm.eM{as':List V}{D σ' : ag}(h:cm P f as' σ' R')(ha:cK as as')(ho:bN D σ'):cm P f as D R' := by
 refine⟨h.1,λE vs h1 h2 h3=>h.2 E vs h1 ?_ (ha.mono h3)⟩;refine⟨λb cs bP=>?_,λZ n hn=>h2.aJ Z n (ho.aJ Z n hn),h2.fresh,h2.nt,λb cs hc=>h2.bO b cs (ho.bO b cs hc)⟩;obtain⟨y9,k1,k2⟩:=ho.box b cs bP;obtain⟨k3,k4⟩:=h2.box b y9 k1;exact⟨k3,k4.eM k2⟩
end
section
variable {P:Program} {d:Option Nat} {r:List (AO × List Nat)} {K:St->Prop} {t:List V} {l:List (List V)} {D:ag} {x y z:X} {st:St} {SN:List c7} {L:List (V × Bool × Nat × V × List Nat)} {ms:List Nat}
theorem abP:cf P [] SN L K st=(p7 SN L/\K st):=rfl
def kD(P:Program)(d:Option Nat)(r:List (AO × List Nat))(SN:List c7)(L:List (V × Bool × Nat × V × List Nat))(K:St->Prop)(st:St)(v:V):Prop:=cf P r SN L K (st.put d v)
variable{v:V}
theorem ajA:kD P d r SN L K ⟨t,l,D⟩ v=cf P r SN L K (St.put ⟨t,l,D⟩ d v):=rfl
theorem abO:cf P ((⟨d,.mv x,ae⟩,ms)::r) SN L K st=cf P r SN L K (st.put d (ev st x)):=rfl
def yn(P:Program)(v a b:V)(d:Option Nat)(r:List (AO × List Nat))(SN:List c7)(L:List (V × Bool × Nat × V × List Nat))(K:St->Prop)(st:St):Prop:=match v with | .bool aa=>cf P r SN L K (st.put d a) | .bool ak=>cf P r SN L K (st.put d b) | _=>False
def abS:cf P ((⟨d,.pick x y z,ae⟩,ms)::r) SN L K st=yn P (ev st x) (ev st y) (ev st z) d r SN L K st:=by
 show(match ev st x with | .bool aa=>_ | .bool ak=>_ | _=>False)=_;unfold yn;cases ev st x<;>first | rfl | (rename_i b;cases b<;>rfl)
theorem anT{u:V}:yn P (.bool aa) u v d r SN L K st=cf P r SN L K (st.put d u):=rfl
theorem anR{u:V}:yn P (.bool ak) u v d r SN L K st=cf P r SN L K (st.put d v):=rfl
def anS{b c:Bool}:yn P (.bool b) (.bool c) (.bool ak) d r SN L K st=cf P r SN L K (st.put d (.bool (b&&c))):=by cases b<;>simp[yn]
def anU{b c:Bool}:yn P (.bool b) (.bool aa) (.bool c) d r SN L K st=cf P r SN L K (st.put d (.bool (b||c))):=by cases b<;>simp[yn]
variable{c:List V}
theorem abn:cf P ((⟨d,.alloc c,ae⟩,ms)::r) SN L K ⟨t,l,D⟩=cf P r (SN++[(l++[c],D)]) L K (St.put ⟨t,l++[c],D⟩ d (.ptr (.aC l.length) 0)):=rfl
theorem abt{n:Nat}:cf P ((⟨d,.box n x,ae⟩,ms)::r) SN L K ⟨t,l,D⟩=((ev ⟨t,l,D⟩ x).wd=U n/\cf P r (SN++[(l++[(ev ⟨t,l,D⟩ x).cells],D)]) L K (St.put ⟨t,l++[(ev ⟨t,l,D⟩ x).cells],D⟩ d (.ptr (.aC l.length) 0))):=rfl
theorem abu{n:Nat}:cf P ((⟨d,.ug n x,ae⟩,ms)::r) SN L K ⟨t,l,D⟩=((ev ⟨t,l,D⟩ x).wd=U n/\cB (ev ⟨t,l,D⟩ x).cells=aa/\cf P r (SN++[(l++[(ev ⟨t,l,D⟩ x).cells],D)]) L K (St.put ⟨t,l++[(ev ⟨t,l,D⟩ x).cells],D⟩ d (.ptr (.aC l.length) 0))):=rfl
variable{ps:List (Nat × Nat × X)}
theorem abw:cf P ((⟨d,.build c ps,ae⟩,ms)::r) SN L K st=pJ ((nG st c ps).map V.agg) (kD P d r SN L K st):=rfl
variable{k:Nat}
def abv{xs:List X}:cf P ((⟨d,.j9 k xs,ae⟩,ms)::r) SN L K st=MG (kY st k xs) k (kD P d r SN L K st):=by
 show opt ((kY st k xs).map (V.sl .aW k)) _=_;cases kY st k xs<;>rfl
def Tn(P:Program)(a:V)(g:Bool)(n:Nat)(ms:List Nat)(d:Option Nat)(r:List (AO × List Nat))(SN:List c7)(L:List (V × Bool × Nat × V × List Nat))(K:St->Prop)(st:St):Option V->Prop
 | some v=>cf P r SN ((a,g,n,v,ms)::L) K (st.put d v)
 | none=>False
theorem aj2{a v:V}{g:Bool}{n:Nat}:Tn P a g n ms d r SN L K st (U v)=cf P r SN ((a,g,n,v,ms)::L) K (st.put d v):=rfl
variable{g:Bool}
def abM{n:Nat}:cf P ((⟨d,.load g n x,ae⟩,ms)::r) SN L K st=Tn P (ev st x) g n ms d r SN L K st (kR st g n (ev st x)):=by
 show opt (kR st g n (ev st x)) _=_;cases kR st g n (ev st x)<;>rfl
def WC(P:Program)(d:Option Nat)(r:List (AO × List Nat))(SN:List c7)(L:List (V × Bool × Nat × V × List Nat))(K:St->Prop):Option St->Prop
 | some st=>cf P r (SN++[(st.aC,st.out)]) L K (st.put d .any)
 | none=>False
theorem aqp:WC P d r SN L K (U ⟨t,l,D⟩)=cf P r (SN++[(l,D)]) L K (St.put ⟨t,l,D⟩ d .any):=rfl
def abV{n:Nat}:cf P ((⟨d,.store n x y,ae⟩,ms)::r) SN L K st=WC P d r SN L K (dm st n (ev st y) (ev st x)):=by
 show(match dm st n (ev st y) (ev st x) with | some aH => _ | none=>False)=_;cases dm st n (ev st y) (ev st x)<;>rfl
def abQ:cf P ((⟨d,.uX x,ae⟩,ms)::r) SN L K st=Ad (ev st x) (kD P d r SN L K st):=by
 show(match ev st x with | .ptr p o=>_ | .elt c o=>_ | .fn (.func f) a b=>_ | _=>False)=_;unfold Ad;cases ev st x<;>first | rfl | (rename_i f _ _;cases f<;>rfl)
theorem abq{op:BinOp}:cf P ((⟨d,.eD op x y,ae⟩,ms)::r) SN L K st=pJ (uf op (ev st x) (ev st y)) (kD P d r SN L K st):=rfl
theorem abr{op:BinOp}:cf P ((⟨d,.nD op x y,ae⟩,ms)::r) SN L K st=pJ (y3 op (ev st x) (ev st y)) (kD P d r SN L K st):=rfl
theorem abp{n:Bool}:cf P ((⟨d,.vI n x y,ae⟩,ms)::r) SN L K st=pJ (xq n (ev st x) (ev st y)) (kD P d r SN L K st):=rfl
theorem abz:cf P ((⟨d,.cat x y,ae⟩,ms)::r) SN L K st=FE (ev st x) (ev st y) (kD P d r SN L K st):=rfl
variable{ks:List Nat}
theorem abC{n:Bool}:cf P ((⟨d,.jf n ks x y,ae⟩,ms)::r) SN L K st=pJ (xp n ks (ev st x) (ev st y)) (kD P d r SN L K st):=rfl
def abR:cf P ((⟨d,.not x,ae⟩,ms)::r) SN L K st=D8 (ev st x) (kD P d r SN L K st):=by
 show(match ev st x with | .bool b=>_ | _=>False)=_;unfold D8;cases ev st x<;>rfl
def abK:cf P ((⟨d,.uS x,ae⟩,ms)::r) SN L K st=DW (ev st x) (kD P d r SN L K st):=by
 show(match ev st x with | .sl _ _ l=>_ | .raw (.slice _ n _)=>_ | _=>False)=_;unfold DW;cases ev st x<;>rfl
def abL:cf P ((⟨d,.uT x,ae⟩,ms)::r) SN L K st=DX (ev st x) (kD P d r SN L K st):=by
 show(match ev st x with | .aF s=>_ | _=>False)=_;unfold DX;cases ev st x<;>rfl
def abE{n:Nat}:cf P ((⟨d,.nM n x,ae⟩,ms)::r) SN L K st=Bg n (ev st x) (kD P d r SN L K st):=by
 show(match ev st x with | .ptr p o=>_ | .elt c o=>_ | _=>False)=_;unfold Bg;cases ev st x<;>rfl
def abF{g:Bool}{n m:Nat}:cf P ((⟨d,.uy g m n x,ae⟩,ms)::r) SN L K st=C1 g m n (ev st x) (kD P d r SN L K st):=by
 show(match ev st x with | .agg cs=>_ | _=>False)=_;unfold C1;cases ev st x<;>rfl
def abH:cf P ((⟨d,.rZ k x y,ae⟩,ms)::r) SN L K st=zO k (ev st x) (ev st y) (kD P d r SN L K st):=by
 show(match ev st x with | .sl _ k' l=>_ | .raw (.slice (U ⟨b,o,ae⟩) n _)=>_ | _=>False)=_;unfold zO;cases ev st x<;>rfl
def abI{m:Nat}:cf P ((⟨d,.qZ m k x y,ae⟩,ms)::r) SN L K st=xX m k (ev st x) (ev st y) (kD P d r SN L K st):=by
 show(match ev st x with | .ptr p o=>_ | .elt c o=>_ | _=>False)=_;unfold xX;cases ev st x<;>rfl
def abJ:cf P ((⟨d,.sV x y,ae⟩,ms)::r) SN L K st=BK (ev st x) (ev st y) (kD P d r SN L K st):=by
 show(match ev st x with | .aF s=>_ | _=>False)=_;unfold BK;cases ev st x<;>rfl
def G6(P:Program)(d:Option Nat)(r:List (AO × List Nat))(SN:List c7)(L:List (V × Bool × Nat × V × List Nat))(K:St->Prop)(t:List V)(l:List (List V))(v:V)(D:ag):Prop:=cf P r (SN++[(l,D)]) L K (St.put ⟨t,l,D⟩ d v)
theorem ajy{v:V}:G6 P d r SN L K t l v D=cf P r (SN++[(l,D)]) L K (St.put ⟨t,l,D⟩ d v):=rfl
def bJ(P:Program)(f:FuncId)(as:List V)(D:ag)(K:V->ag->Prop):Prop:=∃v σ',cm P f as D (λv' rp => v' = v/\rp = σ')/\K v σ'
variable{as:List V}{f:FuncId}{σ':ag}
def bJ.intro{K:V->ag->Prop}(h:cm P f as D λv' rp => v' = v/\rp = σ')(k:K v σ'):bJ P f as D K:=⟨v,σ',h,k⟩
def cl{K:V->ag->Prop}(h:cm P f as D λv' rp => v' = v/\rp = σ')(k:K v σ'):cm P f as D K:=h.mono λ_ _ e=>e.1▸e.2▸k
theorem abx{xs:List X}:cf P ((⟨d,.call f xs,ae⟩,ms)::r) SN L K ⟨t,l,D⟩=(bH (cW ⟨t,l,D⟩ xs)=aa/\bJ P f (cW ⟨t,l,D⟩ xs) D (G6 P d r SN L K t l)):=rfl
def Jd(P:Program)(v:V)(args:List V)(D:ag)(K:V->ag->Prop):Prop:=match v with | .fn (.func f) a b=>bH (a++args++b)=aa/\bJ P f (a++args++b) D K | _=>False
def aby{xs:List X}:cf P ((⟨d,.ij x xs,ae⟩,ms)::r) SN L K ⟨t,l,D⟩=Jd P (ev ⟨t,l,D⟩ x) (cW ⟨t,l,D⟩ xs) D (G6 P d r SN L K t l):=by
 show(match ev ⟨t,l,D⟩ x with | .fn (.func f) a b=>_ | _=>False)=_;unfold Jd;cases ev ⟨t,l,D⟩ x<;>first | rfl | (rename_i f _ _;cases f<;>rfl)
variable{args:List V}
theorem Z8{u v:List V}{K:V->ag->Prop}:Jd P (.fn (.func f) u v) args D K=(bH (u++args++v)=aa/\bJ P f (u++args++v) D K):=rfl
theorem abo:cf P ((⟨d,.app k x y,ae⟩,ms)::r) SN L K ⟨t,l,D⟩=yI D k (ev ⟨t,l,D⟩ x) (ev ⟨t,l,D⟩ y) (G6 P d r SN L K t l):=rfl
variable{m:List (List V)}{u:Tk}{Z:Nat}
def xf{n:List (List V)}{K:V->ag->Prop}(hb:m.length+n.length<=aM)(ht:D.aJ Z=U m.length)(hk:K (.sl (.tk Z) k (m++n)) (D.aR Z (m.length+n.length))):
 yI D k (.sl (.tk Z) k m) (.sl u k n) K:=⟨_,m,n,rfl,⟨u,rfl⟩,hb,ht,hk⟩
def Yg{n:List (List V)}{K:V->ag->Prop}(hb:m.length+n.length<=aM)(hk:K (.sl .no k (m++n)) D):
 yI D k (.sl .aW k m) (.sl u k n) K:=⟨_,m,n,rfl,⟨u,rfl⟩,hb,.inl hk⟩
def Yh{n:List (List V)}{K:V->ag->Prop}(hb:m.length+n.length<=aM)(ht:D.aJ Z=U m.length)(hk:K (.sl (.tk Z) k (m++n)) (D.aR Z (m.length+n.length))):
 yI D k (.sl .aW k m) (.sl u k n) K:=⟨_,m,n,rfl,⟨u,rfl⟩,hb,.inr ⟨Z,ht,hk⟩⟩
def abD{i:Nat}:cf P ((⟨d,.ext x i,ae⟩,ms)::r) SN L K st=zd i (ev st x) (kD P d r SN L K st):=by
 show(match ev st x with | .bq vs=>_ | _=>False)=_;unfold zd;cases ev st x<;>rfl
theorem abN{f:Fn}{as bs:List X}:cf P ((⟨d,.jx f as bs,ae⟩,ms)::r) SN L K st=cf P r SN L K (st.put d (.fn f (cW st as) (cW st bs))):=rfl
def abB{k:IntKind}:cf P ((⟨d,.pn k x,ae⟩,ms)::r) SN L K st=CP k (ev st x) (kD P d r SN L K st):=by
 show(match ev st x with | .int _ n=>_ | _=>False)=_;unfold CP;cases ev st x<;>rfl
theorem abA:cf P ((⟨d,.sF x,ae⟩,ms)::r) SN L K st=(∃t s,ev st x = .sl t 1 (dc s)/\kD P d r SN L K st (.aF s)):=rfl
def gD(P:Program)(v:V)(w:Bool)(d:Option Nat)(op:aG)(ms:List Nat)(r:List (AO × List Nat))(SN:List c7)(L:List (V × Bool × Nat × V × List Nat))(K:St->Prop)(st:St):Prop :=
 match v with
 | .bool b=>if b=w then cf P ((⟨d,op,ae⟩,ms)::r) SN L K st else cf P r (if op.bf then SN++[(st.aC,st.out)] else SN) L K (st.put d (.bq []))
 | .bq []=>cf P r (if op.bf then SN++[(st.aC,st.out)] else SN) L K (st.put d (.bq []))
 | _=>False
def abG{g:Nat}{w:Bool}{op:aG}:cf P ((⟨d,op,U (g,w)⟩,ms)::r) SN L K ⟨t,l,D⟩=gD P (t.getD g .any) w d op ms r SN L K ⟨t,l,D⟩:=by
 simp only[cf,gD,ev];generalize t.getD g .any=v;cases v<;>first | rfl | (rename_i m;cases m<;>rfl)
theorem ahh{w:Bool}{op:aG}:gD P (.bq []) w d op ms r SN L K ⟨t,l,D⟩=cf P r (if op.bf=aa then SN++[(l,D)] else SN) L K (St.put ⟨t,l,D⟩ d (.bq [])):=rfl
theorem ahg{op:aG}:gD P (.bool aa) aa d op ms r SN L K st=cf P ((⟨d,op,ae⟩,ms)::r) SN L K st:=rfl
theorem ahd{op:aG}:gD P (.bool ak) ak d op ms r SN L K st=cf P ((⟨d,op,ae⟩,ms)::r) SN L K st:=rfl
theorem ahf{op:aG}:gD P (.bool aa) ak d op ms r SN L K ⟨t,l,D⟩=cf P r (if op.bf=aa then SN++[(l,D)] else SN) L K (St.put ⟨t,l,D⟩ d (.bq [])):=rfl
theorem ahe{op:aG}:gD P (.bool ak) aa d op ms r SN L K ⟨t,l,D⟩=cf P r (if op.bf=aa then SN++[(l,D)] else SN) L K (St.put ⟨t,l,D⟩ d (.bq [])):=rfl
theorem aax:p7 SN []=True:=rfl
theorem aaw{n:Nat}{a:V}:p7 SN ((a,g,n,v,ms)::L)=(y6 SN g n a v ms/\p7 SN L):=rfl
theorem aav{n:Nat}{a:V}:y6 SN g n a v []=True:=rfl
theorem aau{g:Bool}{n m:Nat}{a v:V}:y6 SN g n a v (m::ms)=(rb (SN.getD m B5) g n a=U v/\y6 SN g n a v ms):=rfl
theorem ap8{s u:c7}:(s::SN).getD 0 u=s:=rfl
theorem ap9{s u:c7}{n:Nat}:(s::SN).getD (n+1) u=SN.getD n u:=rfl
theorem apO{s:c7}:([]:List c7)++[s]=[s]:=rfl
theorem apP{s u:c7}:(s::SN)++[u]=s::(SN++[u]):=rfl
theorem aj5{g:Bool}{n i o:Nat}:rb (l,D) g n (.ptr (.aC i) o)=zV l[i]? g n o:=rfl
theorem aj6{g:Bool}{n i o:Nat}:rb (l,D) g n (.ptr (.out i) o)=zV (D.box i) g n o:=rfl
variable{i o:Nat}
theorem aj4{n:Nat}:rb (l,D) g n (.ptr (.jM i) o)=zV (D.bO i) g n o:=rfl
variable{cs:List V}
theorem aj3{n:Nat}{s:c7}:rb s g n (.elt cs o)=bD g n (cs.drop o):=rfl
def FN(P:Program)(l:List (List V))(D:ag)(o:List (AO × List Nat))(K:St->Prop):Option (List V)->Prop
 | some t=>cf P o [(l,D)] [] K ⟨t,l,D⟩
 | none=>False
variable{Q:Exit->St->Prop}
def arD{o:List (AO × List Nat)}{nv:List Nat}:vc P (.FM nv o) Q ⟨t,l,D⟩=FN P l D o (Q .normal) (sB nv t):=by
 simp only[vc];cases sB nv t with
 | none=>simp[FN]
 | some t' => simp[FN]
theorem ab1{K:St->Prop}{o:List (AO × List Nat)}:FN P l D o K (U t)=cf P o [(l,D)] [] K ⟨t,l,D⟩:=rfl
theorem Yd:sB [] t=U t:=rfl
def I3(b:Bool)(x:Option (List V)):Option (List V):=if b then x else ae
def Yc{d:Nat}{ds:List Nat}:sB (d::ds) t=I3 (decide (d<t.length)) (sB ds (t.set d .any)):=by
 simp only[sB,I3,b7]
theorem Ye{y:Option (List V)}:I3 aa y=y:=rfl
theorem arF{o:List (AO × List Nat)}{h:HI}:vc P (.hole o h) Q ⟨t,l,D⟩=cf P o [(l,D)] [] (ES h (Q .normal)) ⟨t,l,D⟩:=rfl
theorem aiE{h:HI}:ES h K ⟨t,l,D⟩=Ix h K ⟨qv h t,l,D⟩:=rfl
theorem asc{k:Nat}{a b c e f:X}{d9 d10 dF:Nat}:qv ⟨k,a,b,c,e,f,ae,d9,d10,dF⟩ t=(t.set d9 .any).set d10 .any:=rfl
variable{off:Nat}
theorem asd{a b c e f:X}{d9 d10 dF:Nat}:qv ⟨k,a,b,c,e,f,U off,d9,d10,dF⟩ t=((t.set d9 .any).set d10 .any).set dF .any:=rfl
def Sv{h:HI}{t' : Tk}{j:IntKind}{p:V}{aH : St}(es:ev ⟨t,l,D⟩ h.s = .sl (.tk Z) h.k m)(ez:ev ⟨t,l,D⟩ h.z = .sl t' h.k [c])
 (el:ev ⟨t,l,D⟩ h.len = .int j m.length) (hb:m.length+1<=aM) (ht:D.aJ Z=U m.length) (hx:(ev ⟨t,l,D⟩ h.x).wd=U h.k/\cB (ev ⟨t,l,D⟩ h.x).cells=aa/\bH (ev ⟨t,l,D⟩ h.x).cells=aa)
 (bP:bw (ev ⟨t,l,D⟩ h.x).cells=cs) (hd:h.d9<t.length/\h.d10<t.length/\(h.fo.isSome=aa->h.dF<t.length)) (hp:C0 h.fo (ev ⟨t,l,D⟩ h.addr)=U p)
 (dV:dm ⟨t,l,D⟩ 1 (.sl (.tk Z) h.k (m++[cs])) p=U aH) (hk:K ⟨aH.t,aH.aC,aH.out.aR Z (m.length+1)⟩):Ix h K ⟨t,l,D⟩ :=
 ⟨Z,m,c,t',j,es,ez,el,hb,ht,hx.1,hx.2.1,hx.2.2,hd.1,hd.2.1,hd.2.2,p,hp,aH,by rw[bP];exact dV,hk⟩
end
section
variable {x y z:X} {n m:Nat} {c:List V} {g:Bool} {bo:BinOp} {ks:List Nat} {xs ys:List X} {ps:List (Nat × Nat × X)} {fn:Fn} {ik:IntKind}
theorem acD:(aG.pick x y z).bf=false:=rfl
theorem ab8:(aG.alloc c).bf=true:=rfl
theorem ace:(aG.ug n x).bf=true:=rfl
theorem acd:(aG.box n x).bf=true:=rfl
theorem acg:(aG.build c ps).bf=false:=rfl
theorem acf:(aG.j9 n xs).bf=false:=rfl
theorem acx:(aG.load g n x).bf=false:=rfl
theorem acE:(aG.store n x y).bf=true:=rfl
theorem acA:(aG.uX x).bf=false:=rfl
theorem aca:(aG.eD bo x y).bf=false:=rfl
theorem acb:(aG.nD bo x y).bf=false:=rfl
theorem ab':(aG.vI g x y).bf=false:=rfl
theorem acj:(aG.cat x y).bf=false:=rfl
theorem acn:(aG.jf g ks x y).bf=false:=rfl
theorem acB:(aG.not x).bf=false:=rfl
theorem acv:(aG.uS x).bf=false:=rfl
theorem acw:(aG.uT x).bf=false:=rfl
theorem acp:(aG.nM n x).bf=false:=rfl
theorem acq:(aG.uy g n m x).bf=false:=rfl
theorem acr:(aG.rZ n x y).bf=false:=rfl
theorem acs{m k:Nat}:(aG.qZ m k x y).bf=false:=rfl
theorem acu:(aG.sV x y).bf=false:=rfl
theorem ach:(aG.call n xs).bf=true:=rfl
theorem aci:(aG.ij x xs).bf=true:=rfl
theorem ab9:(aG.app n x y).bf=true:=rfl
theorem ab_:(aG.mj x y).bf=true:=rfl
theorem aco:(aG.ext x n).bf=false:=rfl
theorem acy:(aG.jx fn xs ys).bf=false:=rfl
theorem acm:(aG.pn ik x).bf=false:=rfl
theorem ack:(aG.sF x).bf=false:=rfl
theorem acz:(aG.mv x).bf=false:=rfl
end
section
variable {k:IntKind} {a b:Int} {c e:List V} {n m:Nat} {x y:V} {u v:List UInt8} {p q:Bool} {l:List (List V)} {Z:Tk}
def G0:zP k k=true:=by cases k<;>rfl
def Zt{op:BinOp}:uf op (.int k a) (.int k b)=hC k a b op:=by simp[uf,G0]
theorem aiZ:hC k a b .add=U (.int k (k.wrap (a+b))):=rfl
theorem ai8:hC k a b .sub=U (.int k (k.wrap (a - b))):=rfl
theorem ai5:hC k a b .mul=U (.int k (k.wrap (a*b))):=rfl
theorem ai0:hC k a b .eql=U (.bool (decide (a=b))):=rfl
theorem ai6:hC k a b .neq=U (.bool (!decide (a=b))):=rfl
theorem ai4:hC k a b .lss=U (.bool (decide (a<b))):=rfl
theorem ai3:hC k a b .leq=U (.bool (decide (a<=b))):=rfl
theorem ai2:hC k a b .gtr=U (.bool (decide (b<a))):=rfl
theorem ai1:hC k a b .geq=U (.bool (decide (b<=a))):=rfl
theorem Zu{op:BinOp}:y3 op (.aF u) (.aF v)=wI u v op:=rfl
theorem aqH:wI u v .eql=U (.bool (decide (u=v))):=rfl
theorem aqM:wI u v .neq=U (.bool (!decide (u=v))):=rfl
theorem aqL:wI u v .lss=U (.bool (Op.bytesLess u v)):=rfl
theorem aqK:wI u v .leq=U (.bool (Op.bytesLess u v||decide (u=v))):=rfl
theorem aqJ:wI u v .gtr=U (.bool (!(Op.bytesLess u v||decide (u=v)))):=rfl
theorem aqI:wI u v .geq=U (.bool (!Op.bytesLess u v)):=rfl
theorem acP:xq ak (.bool p) (.bool q)=U (.bool (decide (p=q))):=rfl
theorem acQ:xq aa (.bool p) (.bool q)=U (.bool (!decide (p=q))):=rfl
def JH(neg:Bool):Option Bool->Option V | some b=>U (.bool (if neg then !b else b)) | none=>ae
theorem acS:JH ak (U p)=U (.bool p):=rfl
theorem acT:JH aa (U p)=U (.bool (!p)):=rfl
variable{ks:List Nat}
def acO{neg:Bool}:xp neg ks (.agg c) (.agg e)=JH neg (fE ks c e):=by
 simp only[xp];cases fE ks c e<;>rfl
def andM(b:Bool):Option Bool->Option Bool | some c=>U (b&&c) | none=>ae
theorem vF:andM p (U q)=U (p&&q):=rfl
theorem QM:fE [] [] []=U true:=rfl
def xr:fE (1::ks) (.int k a::c) (.int k b::e)=andM (decide (a=b)) (fE ks c e):=by
 simp only[fE,G0,cC];cases fE ks c e<;>rfl
def QN:fE (2::ks) (.aF u::c) (.aF v::e)=andM (decide (u=v)) (fE ks c e):=by
 simp only[fE];cases fE ks c e<;>rfl
def acR{ks:List Nat}:fE (0::ks) (.bool p::c) (.bool q::e)=andM (decide (p=q)) (fE ks c e):=by
 simp only[fE];cases fE ks c e<;>rfl
theorem ar1:(V.agg c).wd=U c.length:=rfl
theorem ar5:(V.int k a).wd=U 1:=rfl
theorem ar2:(V.bool p).wd=U 1:=rfl
theorem ar9:(V.aF u).wd=U 1:=rfl
theorem ar8:(V.sl Z n l).wd=U 1:=rfl
theorem ar7{o:Pl}:(V.ptr o n).wd=U 1:=rfl
theorem ar3:(V.elt c n).wd=U 1:=rfl
theorem ar4{f:Fn}:(V.fn f c e).wd=U 1:=rfl
theorem ar6:V.iL.wd=U 1:=rfl
theorem aai:(V.agg c).cells=c:=rfl
theorem aam:(V.int k a).cells=[.int k a]:=rfl
theorem aaj:(V.bool p).cells=[.bool p]:=rfl
theorem aas:(V.aF u).cells=[.aF u]:=rfl
theorem aar:(V.sl Z n l).cells=[.sl Z n l]:=rfl
theorem aaq{o:Pl}:(V.ptr o n).cells=[.ptr o n]:=rfl
theorem aak:(V.elt c n).cells=[.elt c n]:=rfl
theorem aal{f:Fn}:(V.fn f c e).cells=[.fn f c e]:=rfl
theorem aan:V.iL.cells=[.iL]:=rfl
theorem am2:cB []=true:=rfl
theorem am1:cB (x::c)=(x.one&&cB c):=rfl
theorem MB:(V.int k a).one=true:=rfl
theorem am3:(V.bool p).one=true:=rfl
theorem Uu:(V.aF u).one=true:=rfl
theorem am9:(V.sl Z n l).one=true:=rfl
theorem am8{o:Pl}:(V.ptr o n).one=true:=rfl
theorem am4:(V.elt c n).one=true:=rfl
theorem am6{f:Fn}:(V.fn f c e).one=true:=rfl
theorem am7:V.iL.one=true:=rfl
theorem alW:bH []=true:=rfl
theorem alV:bH (x::c)=(x.cG&&bH c):=rfl
theorem al3:(V.int k a).cG=true:=rfl
theorem alZ:(V.bool p).cG=true:=rfl
theorem al8:(V.aF u).cG=true:=rfl
theorem al7:(V.sl Z n l).cG=true:=rfl
theorem alY:V.any.cG=true:=rfl
theorem al5:(V.ptr (.out m) n).cG=true:=rfl
theorem al2:(V.ptr (.jM m) n).cG=true:=rfl
theorem al0:(V.elt c n).cG=true:=rfl
theorem al4:V.iL.cG=true:=rfl
theorem alX:(V.agg c).cG=bH c:=rfl
theorem al9:(V.bq c).cG=bH c:=rfl
theorem al1{f:Fn}:(V.fn f c e).cG=(bH c&&bH e):=rfl
theorem al6{w:Value}:(V.raw w).cG=true:=rfl
theorem ac1:(V.int k a).erase = .int k a:=rfl
theorem acY:(V.bool p).erase = .bool p:=rfl
theorem ac5:(V.aF u).erase = .aF u:=rfl
theorem ac4:(V.sl Z n l).erase = .sl .no n l:=rfl
theorem acX:V.any.erase = .any:=rfl
theorem ac3{o:Pl}:(V.ptr o n).erase = .ptr o n:=rfl
theorem acZ:(V.elt c n).erase = .elt c n:=rfl
theorem ac2:V.iL.erase = .iL:=rfl
theorem acW:(V.agg c).erase = .agg (bw c):=rfl
theorem ac6:(V.bq c).erase = .bq (bw c):=rfl
theorem ac0{f:Fn}:(V.fn f c e).erase = .fn f c e:=rfl
theorem acV:bw []=[]:=rfl
theorem acU:bw (x::c)=x.erase::bw c:=rfl
def ahY:bW 0 c=true:=by cases c<;>rfl
theorem ahX:bW (n+1) (x::c)=bW n c:=rfl
def l8:over c []=c:=by cases c<;>rfl
theorem oD:over (x::c) (y::e)=y::over c e:=rfl
def lM:setAt c 0 e=over c e:=by cases c<;>rfl
theorem jl:setAt (x::c) (n+1) e=x::setAt c n e:=rfl
theorem aki:([]:List V).length=0:=rfl
theorem akh:(x::c).length=c.length+1:=rfl
theorem ahs:(c::l)[0]?=U c:=rfl
def ahv:(c::l)[n+1]?=l[n]?:=by simp
theorem ak3:(c::l).set 0 e=e::l:=rfl
theorem ak4:(c::l).set (n+1) e=c::l.set n e:=rfl
theorem Yk : ([]:List (List V))++l=l:=rfl
theorem Yi : (c::l)++[e]=c::(l++[e]):=rfl
theorem art:([]:List V)++c=c:=rfl
theorem ars:(x::c)++e=x::(c++e):=rfl
theorem akN:([]:List (List V)).length=0:=rfl
theorem akM:(c::l).length=l.length+1:=rfl
def rF{a:Nat}:(a=a)=True:=by simp
def eqI{a:Int}:(a=a)=True:=by simp
variable{O:Type}
def aqn{x y:O}:(U x=U y)=(x=y):=by simp
def am5:(1=1)=True:=by simp
def true_eq:(aa=aa)=True:=by simp
def adq : (ak=aa)=False:=by simp
theorem are:(aa&&p)=p:=rfl
theorem adC:(ak&&p)=false:=rfl
def X':(p&&aa)=p:=by simp
def X_:(p&&ak)=false:=by simp
theorem arf:(aa||p)=true:=rfl
theorem adD:(ak||p)=p:=rfl
def anh:(p||false)=p:=by simp
theorem ama:(!aa)=false:=rfl
theorem al':(!ak)=true:=rfl
def ai'{x y:O}:(if True then x else y)=x:=aD trivial
def ai_{x y:O}:(if False then x else y)=y:=aB λh=>h
def ajb{x y:Prop}:(if True then x else y)=x:=aD trivial
def aja{x y:Prop}:(if False then x else y)=y:=aB λh=>h
def aqY{q:Prop}:(True/\q)=q:=by simp
def Ya{q:Prop}:(q/\True)=q:=by simp
theorem rlZ{x:V}:aA 0 x=[]:=rfl
theorem rlS{x:V}:aA (n+1) x=x::aA n x:=rfl
def akE{v:V}:cK (v::c) (.any::e)=cK c e:=by simp[cK,dE.any]
def akK{v:V}:cK (v::c) (v::e)=cK c e:=by simp[cK,dE.rfl]
def E0:Env:=⟨default,λ_=>.const,λ_=>ae,λ_=>ae⟩
def arO:dE (.int k a) (.int k b)=(a=b):=by
 refine propext ⟨λh=>?_,λh=>h▸dE.rfl⟩
 have:=h E0 (.int k a) (by simp[R])
 simpa [R] using this
def arN:dE (.bool p) (.bool q)=(p=q):=by
 refine propext ⟨λh=>?_,λh=>h▸dE.rfl⟩
 have:=h E0 (.bool p) (by simp[R])
 simpa [R] using this
def arP:dE (.aF u) (.aF v)=(u=v):=by
 refine propext ⟨λh=>?_,λh=>h▸dE.rfl⟩
 have:=h E0 (.string ⟨u.toArray⟩) (by simp[R])
 simpa [R] using this
def akG:cK (.int k a::c) (.int k b::e)=(a=b/\cK c e):=by simp[cK,arO]
def akF:cK (.bool p::c) (.bool q::e)=(p=q/\cK c e):=by simp[cK,arN]
def akL:cK (.aF u::c) (.aF v::e)=(u=v/\cK c e):=by simp[cK,arP]
def akI:cK (.sl Z n l::c) (.sl .no n l::e)=cK c e:=by simp[cK,dE.no]
theorem akP:ch [] []=True:=rfl
theorem akO{c e:List V}{l m:List (List V)}:ch (c::l) (e::m)=(cK c e/\ch l m):=rfl
def akQ{l:List (List V)}:ch l l=True:=by simp[ch.rfl]
variable{D:ag}
def amX:bN D D=True:=by simp[bN.rfl]
theorem akH:cK [] []=True:=rfl
end
variable{l:List (List V)}{t:List V}{ι:Type}{D:ag}
def bm.enter{I:ι->St}(j:ι)(h:cK t (I j).t)(hl:ch l (I j).aC)(ho:bN D (I j).out):bm ⟨t,l,D⟩ λaH => ∃i,aH = I i :=
 bm.eM h hl ho ⟨j,rfl⟩
def bm.again{I:ι->St}{μ:ι->Nat}{n:Nat}(j:ι)(hm:μ j<n)(h:cK t (I j).t)(hl:ch l (I j).aC)(ho:bN D (I j).out):
 bm ⟨t,l,D⟩ λaH => ∃i,aH = I i/\μ i<n:=bm.eM h hl ho ⟨j,rfl,hm⟩
def wrap_i64{x:Int}(h1 : -9223372036854775808<=x:=by omega)(h2:x<=9223372036854775807:=by omega):IntKind.i64.wrap x=x:=IntWalk.i64_in x ⟨h1,h2⟩
variable{b:Nat}{cs:List V}
def ag.yu(h:D.box b=U cs):D.set b cs=D:=by
 cases D;simp only[ag.set,ag.mk.injEq,gw];funext x;split
 .rename_i hx;rw[hx];exact h.symm
 .rfl
variable{ds:List V}
def ag.set_set:(D.set b cs).set b ds=D.set b ds:=by
 simp only[ag.set,ag.mk.injEq,gw];funext x;split<;>rfl
def ag.set_comm{c:Nat}(h:b≠c):(D.set b cs).set c ds=(D.set c ds).set b cs:=by
 simp only[ag.set,ag.mk.injEq,gw];funext x
 by_cases h1:x=c
 .subst h1;rw[aD rfl,aB (λh2=>h h2.symm),aD rfl]
 .rw[aB h1,aB h1]
def je(Z n:Nat)(v v' : V):Prop:=∀E E',E.le E' -> E'.aJ Z=U n->∀u,R E v u->R E' v' u
variable{v:V}{Z:Nat}
def je.same{n:Nat}:je Z n v v:=λ_ _ h _ _ hr=>hr.mono _ h
def je.le{n:Nat}{v':V}(h:dE v v'):je Z n v v' := λ_ _ hl _ _ hr=>(h _ _ hr).mono _ hl
variable{k:Nat}{m:List (List V)}
def je.tok{n:Nat}(h:m.length=n):je Z n (.sl .aW k m) (.sl (.tk Z) k m):=λE E' hl ht u hr=>by
 have cg := hr.mono _ hl;simp only[R] at cg ⊢;obtain⟨a,cap,h1,h2,h3,h4⟩:=cg;exact⟨a,cap,h1,h2,h3,n,ht,by omega,λ_=>.inl h4⟩
def dY(Z n:Nat):List V->List V->Prop
 | [],[]=>True
 | v::l,v' :: l' => je Z n v v' /\ dY Z n l l'
 | _,_=>False
def dY.rfl{n:Nat}:∀{l:List V},dY Z n l l
 | []=>trivial
 | _::_=>⟨je.same,dY.rfl⟩
variable{E:Env}
def dY.mono{n:Nat}{E':Env}(hl:E.le E')(ht:E'.aJ Z=U n):∀{l l' : List V} {us:List Value},dY Z n l l' -> RL E l us->RL E' l' us
 | [],[],[],_,_=>by simp[RL]
 | [],[],_::_,_,h=>by simp[RL] at h
 | [],_::_,_,h,_=>h.elim
 | _::_,[],_,h,_=>h.elim
 | v::l,v' :: l',[],_,h=>by simp[RL] at h
 | v :: l, v' :: l', u :: us, h, hr => by
  simp only[RL] at hr ⊢;exact⟨h.1 _ _ hl ht _ hr.1,dY.mono hl ht h.2 hr.2⟩
def dY.length{n:Nat}:∀{l l' : List V},dY Z n l l' -> l.length=l'.length
 | [],[],_=>Eq.refl _
 | [],_::_,h=>h.elim
 | _::_,[],h=>h.elim
 | v::l,v' :: l',h=>by simp[dY.length h.2]
def dY.get{n:Nat}:∀{l l' : List V},dY Z n l l' -> ∀(j:Nat) v',l'[j]?=U v' -> ∃v,l[j]?=U v/\je Z n v v'
 | [],[],_,j,v',h=>by simp at h
 | [],_::_,h,_,_,_=>h.elim
 | _::_,[],h,_,_,_=>h.elim
 | v :: l, w :: l', h, j, v', hj => by
  cases j with
  | zero=>simp at hj;subst hj;exact⟨v,by simp,h.1⟩
  | succ j=>simp at hj;obtain⟨u,h1,h2⟩:=dY.get h.2 j v' hj;exact⟨u,by simpa using h1,h2⟩
variable{cs':List V}
def ja.tok{n:Nat}{E':Env}(hl:E.le E')(ht:E'.aJ Z=U n)(hw:E'.w=E.w)(h:dY Z n cs cs')(k:ja E b cs):ja E' b cs' := by
 obtain⟨c,e,h1,h2,h3⟩:=k;refine⟨c,e,by rw[hw];exact h1,by rw[<-h.length];exact h2,λj x hx=>?_⟩;obtain⟨v,hv,hle⟩:=h.get j x hx;obtain⟨u,k1,k2⟩:=h3 j v hv;exact⟨u,k1,hle _ _ hl ht _ k2⟩
structure pZ(Z n:Nat)(D σ' : ag):Prop where
 box:∀b cs',σ'.box b=U cs' -> ∃cs,D.box b=U cs/\dY Z n cs cs'
 aJ:∀υ m,σ'.aJ υ=U m->D.aJ υ=U m
 bO:∀b cs,σ'.bO b=U cs->D.bO b=U cs
def pZ.rfl{n:Nat}:pZ Z n D D:=⟨λ_ cs h=>⟨cs,h,dY.rfl⟩,λ_ _ h=>h,λ_ _ h=>h⟩
def pZ.set{n:Nat}(h:D.box b=U cs)(k:dY Z n cs cs'):pZ Z n D (D.set b cs'):=by
 refine⟨λc ds jP=>?_,λ_ _ h=>h,λ_ _ h=>h⟩;simp only[ag.set] at jP;split at jP
 .rename_i hc;subst hc;simp only[aY] at jP;subst jP;exact⟨cs,h,k⟩
 .exact⟨ds,jP,dY.rfl⟩
variable{K:St->Prop}
def bm.tok(n:Nat)(h:∀Z,D.aJ Z=ae->∃t' l' σ',dY Z n t t' /\ l.length=l'.length/\(∀(i:Nat) c',l'[i]?=U c' -> ∃c,l[i]?=U c/\dY Z n c c')/\pZ Z n D σ' /\ K ⟨t',l',σ'.aR Z n⟩):
 bm ⟨t,l,D⟩ K:=by
 intro E a hs;obtain⟨N,hN⟩:=hs.ok.nt;have KH:D.aJ N=none:=by
  cases hq:D.aJ N with
  | none=>rfl
  | some m=>have:=hs.ok.aJ N m hq;rw[hN N (bL _)] at this;simp at this
 obtain⟨t',l',σ',h1,h2,h3,h4,h5⟩:=h N KH
 let E' : Env:={E with aJ:=λt=>if t=N then U n else E.aJ t}
 have ht:E'.aJ N=U n:=by simp[E']
 have ba:Fr E E' := xx (E' := E') hs.ok.fresh (Ext.refl _) (λ_ _=>rfl) (λt m hm=>by
  simp only[E'];split
  .rename_i hq;subst hq;rw[hN t (bL _)] at hm;simp at hm
  .exact hm)
 have hle:E.le E' := ba.le λ_ _ h=>h
 refine⟨E',_,rfl,ba,⟨⟨λb cs bP=>?_,λZ m hm=>?_,hs.ok.fresh,?_,λb cs hc=>dQ.mono _ ba.nl (hs.ok.bO b cs (h4.bO b cs hc))⟩,⟨λi cs bP=>?_,λi hi=>hs.cU.none i (by rw[h2];exact hi)⟩,hs.defers,h1.mono hle ht hs.slot⟩,h5⟩
 .obtain⟨y9,q1,q2⟩:=h4.box b cs bP;obtain⟨k1,k2⟩:=hs.ok.box b y9 q1;exact⟨k1,k2.tok ba.nl ht rfl q2⟩
 .simp only[ag.aR] at hm;simp only[E'];split at hm
  .rename_i hq;rw[aD hq];exact hm
  .rename_i hq;rw[aB hq];exact hs.ok.aJ Z m (h4.aJ Z m hm)
 .exact⟨N+1,λt pB => by simp only[E'];rw[aB (by omega)];exact hN t (by omega)⟩
 .obtain⟨c,q1,q2⟩:=h3 i cs bP;obtain⟨b,k1,k2,k3⟩:=hs.cU.box i c q1;exact⟨b,k1,k2,k3.tok hle ht rfl q2⟩
def am:=af @ag.set_set <| af @arD <| af @ab1 <| af @Yd <| af @Yc <| af @Ye <| af @abu <| af @ace <| af (af (af (af (af (af (af @abP @ajA) (af @abO (af @abS @anT))) (af (af @anR @anS) (af @anU (af @abn @abt)))) (af (af (af @abw @abv) (af @aj2 (af @abM @aqp))) (af (af @abV (af @abQ @abq)) (af @abr (af @abp @abz))))) (af (af (af (af @abC @abR) (af @abK (af @abL @abE))) (af (af @abF (af @abH @abJ)) (af @ajy (af @abx @aby)))) (af (af (af @Z8 @abo) (af @abD (af @abN @abB))) (af (af @abG (af (af @ahh @ahg) @ahd)) (af @ahf (af @ahe @aax)))))) (af (af (af (af (af @aaw @aav) (af @aau (af @ap8 @ap9))) (af (af @apO @apP) (af @aj5 (af @aj6 (af @aj4 @aj3))))) (af (af (af @arF @aiE) (af @asc (af @asd @acD))) (af (af @ab8 (af @acd @acg)) (af @acf (af @acx @acE))))) (af (af (af (af @acA @aca) (af @acb (af @ab' @acj))) (af (af @acn (af @acB @acv)) (af @acw (af @acp @acq)))) (af (af (af @acr @acu) (af @ach (af @aci @ab9))) (af (af @ab_ (af @aco @acy)) (af @acm (af @ack @acz))))))) <| af @akG <| af @akF <| af @akL <| af @akI <| af @akP <| af @akO <| af @akQ <| af @amX <| af @akE <| af @akK <| af @akH <| af @jc <| af @vz <| af @rF <| af @eqI <| af @ajb <| af @aja <| (af (af (af (af (af (af (af @arK (af @arG @arL)) (af (af @arC @arJ) (af @arA @ary))) (af (af (af @arx @arz) (af @arE @arH)) (af (af @YW @YV) (af @YX @Zx)))) (af (af (af @Zy (af @Zw @ak0)) (af (af @ak2 @ak1) (af @ao7 @ao6))) (af (af (af @anf @apF) (af @aaT @apE)) (af (af @apD @apC) (af @am0 @amZ))))) (af (af (af (af @amY (af @alm @ac')) (af (af @ac9 @adb) (af @ada @ahu))) (af (af (af @aht @ap7) (af @ap5 @aop)) (af (af @aoo @amM) (af @ajB @anb)))) (af (af (af (af @amL @amQ) (af @anX @anV)) (af (af @anW @anY) (af @amd @amk))) (af (af (af @ame @amm) (af @amr @anc)) (af (af @amq @amJ) (af @ane @amT)))))) (af (af (af (af (af @amN (af @alO @alM)) (af (af @alN @ami) (af @amj @amh))) (af (af (af @amv @aaa) (af @amy @amO)) (af (af @al_ @amH) (af @akf @amI)))) (af (af (af @akg (af @amB @adX)) (af (af @adW @amC) (af @adY @amE))) (af (af (af @amG @amt) (af @ajz @amu)) (af (af @Z9 @amf) (af @amA @adk))))) (af (af (af (af @adj (af @amK @amx)) (af (af @abl @amD) (af (af @ahm @ahl) @ahi))) (af (af (af @ahk @ahj) (af @aj9 (af @aj_ @aj8))) (af (af @aj7 @aj0) (af @yb @aj1)))) (af (af (af (af @aqT @N0) (af @alk @ab4)) (af (af @ab3 @aqs) (af @aqq @aqt))) (af (af (af @aqr @gP) (af (af (af @ap2 @ap0) @apZ) @ap6)) (af (af @NJ @ZB) (af @ZA @Zv))))))) (af (af (af (af (af (af @apn (af @apm @ape)) (af (af @apa @Zt) (af @aiZ @ai8))) (af (af (af @ai5 @ai0) (af @ai6 @ai4)) (af (af @ai3 @ai2) (af @ai1 @Zu)))) (af (af (af @aqH (af @aqM @aqL)) (af (af @aqK @aqJ) (af @aqI @acP))) (af (af (af @acQ @acS) (af @acT @acO)) (af (af @vF @QM) (af @xr @QN))))) (af (af (af (af @acR (af @ar1 @ar5)) (af (af @ar2 @ar9) (af @ar8 @ar7))) (af (af (af @ar3 @ar4) (af @ar6 @aai)) (af (af @aam @aaj) (af @aas @aar)))) (af (af (af (af @aaq @aak) (af @aal @aan)) (af (af @am2 @am1) (af @MB @am3))) (af (af (af @Uu @am9) (af @am8 @am4)) (af (af @am6 @am7) (af @alW @alV)))))) (af (af (af (af (af @al3 (af @alZ @al8)) (af (af @al7 @alY) (af (af @al5 @al2) @al0))) (af (af (af @al4 @alX) (af @al9 @al1)) (af (af @al6 @ac1) (af @acY @ac5)))) (af (af (af (af @ac4 @acX) (af @ac3 @acZ)) (af (af @ac2 @acW) (af @ac6 @ac0))) (af (af (af @acV @acU) (af @ahY @ahX)) (af (af @l8 @oD) (af @lM @jl))))) (af (af (af (af @aki (af @akh @ahs)) (af (af @ahv @ak3) (af @ak4 @Yk))) (af (af (af @Yi @art) (af @ars @akN)) (af (af @akM @aqn) (af @am5 @true_eq)))) (af (af (af (af @adq @are) (af @adC @X')) (af (af @X_ @arf) (af @adD @anh))) (af (af (af @ama @al') (af @ai' @ai_)) (af (af @aqY @Ya) (af @rlZ @rlS))))))))
section
variable {Z n k:Nat} {v v' : V} {c e t:List V} {l l' : List (List V)} {D:ag}
def arS:je Z n v .any=True:=by simp[je.le dE.any]
def arT:je Z n v v=True:=by simp[je.same]
def arU:je Z 0 (.sl .aW k []) (.sl (.tk Z) k [])=True:=by simp[je.tok]
theorem ak_:dY Z n (v::c) (v' :: e)=(je Z n v v' /\ dY Z n c e):=rfl
theorem ak':dY Z n [] []=True:=rfl
def ala:dY Z n c c=True:=by simp[dY.rfl]
def n7:=af @arS <| af @arT <| af @arU <| af @ak_ <| af @ak' @ala
def bm.Ay{I:ι->St}(n:Nat)(h:∀Z,D.aJ Z=ae->∃i,dY Z n t (I i).t/\l=(I i).aC/\(I i).out=D.aR Z n):bm ⟨t,l,D⟩ λaH => ∃i,aH = I i :=
 bm.tok n λZ bp=>by
  obtain⟨i,h1,h2,h3⟩:=h Z bp;refine⟨(I i).t,(I i).aC,D,h1,by rw[h2],λj c' hc=>⟨c',by rw[h2];exact hc,dY.rfl⟩,pZ.rfl,i,?_⟩;rw[<-h3]
def jn{Z m n:Nat}:(D.aR Z m).aR Z n=D.aR Z n:=by
 simp only[ag.aR,ag.mk.injEq,qt,gw];funext x;split<;>rfl
def sj{Z n:Nat}(h:D.aJ Z=ae):D.sub (D.aR Z n):=by
 refine⟨λ_ _ h=>h,λυ m hm=>?_,λ_ _ h=>h⟩
 have:υ≠Z:=by rintro rfl;rw[h] at hm;simp at hm
 simp only[ag.aR];rw[aB this];exact hm
def iX{Z n:Nat}:(D.aR Z n).aJ Z=U n:=by simp[ag.aR]
end
variable{i:Nat}{O:Type}
def Ex{l:List O}{x:O}(h:l[i]?=U x):l.take (i+1)=l.take i++[x]:=by rw[List.take_add_one,h];simp
mutual
def V.lo(n:Nat):V->Bool
 | .ptr (.aC i) _=>decide (i<n)
 | .agg cs=>bQ n cs
 | .bq cs=>bQ n cs
 | .fn _ a b=>bQ n a&&bQ n b
 | _=>aa
def bQ(n:Nat):List V->Bool
 | []=>aa
 | x::xs=>x.lo n&&bQ n xs
end
def dC(n:Nat):List (List V)->Bool
 | []=>aa
 | x::xs=>bQ n x&&dC n xs
def Env.cut(E:Env)(n:Nat):Env:={E with aC:=λi=>if i<n then E.aC i else ae}
mutual
def R.cut{n:Nat}:∀(x:V) {E:Env} {v:Value},x.lo n=aa->R E x v->R (E.cut n) x v
 | .any,_,_,_,_=>by simp only[R]
 | .bool _,_,_,_,h=>by simp only[R] at h ⊢;exact h
 | .int _ _,_,_,_,h=>by simp only[R] at h ⊢;exact h
 | .aF _,_,_,_,h=>by simp only[R] at h ⊢;exact h
 | .iL,_,_,_,h=>by simp only[R] at h ⊢;exact h
 | .ptr (.aC i) off, E, _, hl, h => by
  simp only[V.lo,b7] at hl;simp only[R] at h ⊢;obtain⟨b,h1,h2⟩:=h;exact⟨b,by simp[Env.cut,hl,h1],h2⟩
 | .ptr (.out _) _,_,_,_,h=>by simp only[R] at h ⊢;exact h
 | .ptr (.jM _) _,_,_,_,h=>by simp only[R] at h ⊢;exact h
 | .elt _ _,_,_,_,h=>by simp only[R] at h ⊢;exact h
 | .sl _ _ _,_,_,_,h=>by simp only[R] at h ⊢;exact h
 | .agg cs, _, _, hl, h => by
  simp only[V.lo] at hl;simp only[R] at h ⊢;obtain⟨vs,h1,h2⟩:=h;exact⟨vs,h1,RL.cut cs hl h2⟩
 | .bq cs, _, _, hl, h => by
  simp only[V.lo] at hl;simp only[R] at h ⊢;obtain⟨vs,h1,h2⟩:=h;exact⟨vs,h1,RL.cut cs hl h2⟩
 | .fn _ a b, _, _, hl, h => by
  simp only[V.lo,bA] at hl;simp only[R] at h ⊢;obtain⟨fs,cs,h1,h2,h3⟩:=h;exact⟨fs,cs,h1,RL.cut a hl.1 h2,RL.cut b hl.2 h3⟩
 | .raw _,_,_,_,h=>by simp only[R] at h ⊢;exact h
def RL.cut{n:Nat}:∀(l:List V) {E:Env} {vs:List Value},bQ n l=aa->RL E l vs->RL (E.cut n) l vs
 | [],_,[],_,_=>by simp only[RL]
 | [],_,_::_,_,h=>by simp only[RL] at h
 | _::_,_,[],_,h=>by simp only[RL] at h
 | x :: xs, _, v :: vs, hl, h => by
  simp only[bQ,bA] at hl;simp only[RL] at h ⊢;exact⟨R.cut x hl.1 h.1,RL.cut xs hl.2 h.2⟩
end
def TP{n:Nat}:∀{l:List V} {j:Nat} {x:V},bQ n l=aa->l[j]?=U x->x.lo n=aa
 | [],j,x,_,h=>by simp at h
 | y::ys,0,x,hl,h=>by simp only[bQ,bA] at hl;simp at h;rw[<-h];exact hl.1
 | y::ys,j+1,x,hl,h=>by simp only[bQ,bA] at hl;exact TP hl.2 (by simpa using h)
def TO{n:Nat}:∀{l:List (List V)} {j:Nat} {x:List V},dC n l=aa->l[j]?=U x->bQ n x=aa
 | [],j,x,_,h=>by simp at h
 | y::ys,0,x,hl,h=>by simp only[dC,bA] at hl;simp at h;rw[<-h];exact hl.1
 | y::ys,j+1,x,hl,h=>by simp only[dC,bA] at hl;exact TO hl.2 (by simpa using h)
def ja.cut{n:Nat}(h:bQ n cs=aa)(k:ja E b cs):ja (E.cut n) b cs:=by
 obtain⟨c,e,h1,h2,h3⟩:=k;exact⟨c,e,h1,h2,λj x hx=>by
  obtain⟨u,k1,k2⟩:=h3 j x hx;exact⟨u,k1,R.cut x (TP h hx) k2⟩⟩
def Fr.cut(E:Env)(n:Nat):Fr E (E.cut n) :=
 ⟨rfl,rfl,rfl,bL _,λ_=>rfl,(Env.le.refl E).cell,(Env.le.refl E).tok,λ_ _ _=>⟨rfl,rfl⟩,λ_ _ h=>.inl h,λ_ _ c _ h=>⟨c,h⟩,λ_ i _ h=>⟨i,h⟩,λ_ c _ h=>⟨c,h,rfl⟩⟩
def bm.drop{l2:List (List V)}(ht:bQ l.length t=aa)(hl:dC l.length l=aa)(hk:K ⟨t,l,D⟩):bm ⟨t,l++l2,D⟩ K:=by
 intro E a hs;refine⟨E.cut l.length,⟨t,l,D⟩,rfl,Fr.cut E _,⟨⟨hs.ok.box,hs.ok.aJ,hs.ok.fresh,hs.ok.nt,hs.ok.bO⟩,⟨λi cs bP=>?_,λi hi=>?_⟩,hs.defers,RL.cut _ ht hs.slot⟩,hk⟩
 .have hi:i<l.length:=(eX.1 bP).1;obtain⟨b,k1,k2,k3⟩:=hs.cU.box i cs (by rw[sv hi];exact bP);exact⟨b,by simp[Env.cut,hi,k1],k2,k3.cut (TO hl bP)⟩
 .simp only[Env.cut];rw[aB (by simp only at hi;omega)]
def ch.app:∀{l l' m:List (List V)},ch (l.take l'.length) l' -> ch l (l' ++ l.drop l'.length)
 | [],[],_,_=>trivial
 | [],_::_,_,h=>h.elim
 | v::l,[],m,_=>by simp[ch.rfl]
 | v :: l, w :: l', m, h => by
  simp only[db,vw,ch] at h;simp only[db,gE,Cq,ch];exact⟨h.1,ch.app (m:=m) h.2⟩
variable{l':List (List V)}{σ':ag}
def bm.Ba{t':List V}(h:cK t t')(hl:ch (l.take l'.length) l')(ho:bN D σ')(h1:bQ l'.length t' = aa)(h2:dC l'.length l' = aa)(hk:K ⟨t',l',σ'⟩):bm ⟨t,l,D⟩ K :=
 (bm.eM (K:=λst=>st=⟨t',l' ++ l.drop l'.length,σ'⟩) h (ch.app (m:=[]) hl) ho rfl).bind λ_ e=>e▸bm.drop h1 h2 hk
def bm.ud{I:ι->St}{μ:ι->Nat}{n:Nat}(j:ι)(hm:μ j<n)(h:cK t (I j).t)(hl:ch (l.take (I j).aC.length) (I j).aC)(ho:bN D (I j).out)(h1:bQ (I j).aC.length (I j).t=aa)(h2:dC (I j).aC.length (I j).aC=aa):
 bm ⟨t,l,D⟩ λaH => ∃i,aH = I i/\μ i<n:=bm.Ba h hl ho h1 h2 ⟨j,rfl,hm⟩
section
variable {P:Program} {d:Option Nat} {q:OQ} {xs:List X} {r:List AO} {K:St->Prop} {t:List V} {l:List (List V)} {D:ag}
theorem amP:bT P (⟨d,.own q xs,ae⟩::r) K ⟨t,l,D⟩=q.a7 D (kC P d r K t l) (cW ⟨t,l,D⟩ xs):=rfl
variable{H:V->ag->Prop}
theorem anq:OQ.a7 D H .nil []=H (.raw (.slice ae 0 0)) D:=rfl
variable{c e:List V}
def akJ{u:Value}:cK (.raw u::c) (.raw u::e)=cK c e:=by simp[cK,dE.rfl]
theorem ai7{k:IntKind}{a b:Int}:hC k a b .rem=if b=0 then ae else U (.int k (a.tmod b)):=rfl
def pf:=af @amP <| af @anq @akJ
def jF(D:ag)(k:Nat)(v:V)(rows:List (List V)):Prop :=
 ∃a cap,v = .raw (.slice a rows.length cap)/\rows.length<=cap/\(∀r∈rows,r.length=k)/\(cap=0\/∃b cs,a=U ⟨b,0,ae⟩/\D.box b=U cs/\cs.length=cap*k/\cs.take (rows.length*k)=rows.flatten)
def sb:V->Option Nat
 | .raw (.slice (U ⟨b,_,_⟩) _ _)=>U b
 | _=>ae
def jF.len{rows:List (List V)}(h:jF D k v rows)(hk:H (.int .i64 rows.length) D):OQ.a7 D H .len [v]:=by
 obtain⟨a,cap,rfl,_⟩:=h;exact hk
def jF.frame{rows:List (List V)}(h:jF D k v rows)(hb:∀b cs,sb v=U b->D.box b=U cs->σ'.box b=U cs):jF σ' k v rows:=by
 obtain⟨a,cap,rfl,h1,h2,h3⟩:=h;refine⟨a,cap,rfl,h1,h2,?_⟩
 rcases h3 with h3 | ⟨b,cs,rfl,h4,h5⟩
 .exact .inl h3
 .exact .inr ⟨b,cs,rfl,hb b cs rfl h4,h5⟩
def Q7{k:Nat}:∀{rows:List (List V)} {m:Nat},(∀r∈rows,r.length=k)->rows.flatten.take (m*k)=(rows.take m).flatten
 | [],m,_=>by simp
 | r::rows,0,_=>by simp
 | r :: rows, m + 1, h => by
  simp only[eh] at h;rw[kz,vw,kz,iQ,w9,List.take_append,h.1,yS (by omega),show m*k+k - k=m*k by omega,Q7 h.2]
def JO{k:Nat}:∀{rows:List (List V)} {m:Nat},(∀r∈rows,r.length=k)->rows.flatten.drop (m*k)=(rows.drop m).flatten
 | [],m,_=>by simp
 | r::rows,0,_=>by simp
 | r :: rows, m + 1, h => by
  simp only[eh] at h;rw[kz,Cq,iQ,w9,List.drop_append,h.1,OM (by omega),show m*k+k - k=m*k by omega,fY,JO h.2]
def jF.idx{rows:List (List V)}{j:Int}{i:IntKind}(h:jF D k v rows)(h0:0<=j)(hj:rows[j.toNat]?=U c)
 (hk:∀b cs rest,sb v=U b->D.box b=U cs->cs.drop (j.toNat*k)=c++rest->H (.ptr (.out b) (j.toNat*k)) D):OQ.a7 D H (.idx k) [v,.int i j]:=by
 obtain⟨a,cap,rfl,h1,h2,h3⟩:=h;have az:=(eX.1 hj).1
 rcases h3 with h3 | ⟨b,cs,rfl,h4,h5,h6⟩
 .omega
 .have e1:cs=rows.flatten++cs.drop (rows.length*k):=by rw[<-h6];simp
  have e2:rows.drop j.toNat=c::rows.drop (j.toNat+1):=by
   rw[mi az,(eX.1 hj).2]
  have kI:=mm h2;have e3:cs.drop (j.toNat*k)=c++((rows.drop (j.toNat+1)).flatten++cs.drop (rows.length*k)):=by
   have hle:j.toNat*k<=rows.length*k:=rB _ (by omega);rw[e1,XH (by rw[kI];exact hle),JO h2,e2,kz,dZ];congr 2;rw[List.drop_append,kI];simp[OM,kI]
  show 0<=j/\j<(rows.length:Nat)/\H (.ptr (.out b) (0+j.toNat*k)) D;rw[jc];exact⟨h0,by omega,hk b cs _ rfl h4 e3⟩
def jF.take{m:Nat}{rows:List (List V)}{i:IntKind}{j:Int}(h:jF D k v rows)(h0:0<=j)(hj:j.toNat=m)(hm:m<=rows.length)(hk:∀v',jF D k v' (rows.take m)->sb v' = sb v->H v' D):OQ.a7 D H (.kv k ak aa ak) [v,.int i j]:=by
 obtain⟨a,cap,rfl,h1,h2,h3⟩:=h;show kF ak 0 [.int i j] λm vs=>kF aa rows.length vs λh vs=>kF ak cap vs λM vs=>vs=[]/\m<=h/\h<=M/\M<=cap/\H (.raw (.slice (if M=m then a else a.map (·.add (m*k))) (h - m) (M - m))) D
 refine⟨h0,rfl,by omega,by omega,bL _,?_⟩;have ea:(if cap=0 then a else a.map (·.add (0*k)))=a:=by
  split
  .rfl
  .rcases h3 with h3 | ⟨b,cs,rfl,_⟩
   .omega
   .simp[lh]
 rw[ea,hj];refine hk _ ⟨a,cap,?_,?_,λr hr=>h2 r (AU hr),?_⟩ (by cases a with
  | none=>rfl
  | some ad=>cases ad;rfl)
 .rw[iP,w8 hm];rfl
 .rw[iP];omega
 .rcases h3 with h3 | ⟨b,cs,rfl,h4,h5,h6⟩
  .exact .inl h3
  .refine .inr ⟨b,cs,rfl,h4,h5,?_⟩;rw[iP,w8 hm,<-Q7 h2,<-h6,List.take_take,w8 (rB _ hm)]
structure IW(D:ag)(v:V)(σ' : ag)(v' : V):Prop where
 lE:∀b cs,D.box b=U cs->sb v≠U b->σ'.box b=U cs
 aJ:σ'.aJ=D.aJ
 new:∀b,sb v' = U b->sb v=U b\/D.box b=ae
 bO:σ'.bO=D.bO
def Wj{k n:Nat}:∀{cs xs ys:List V},cs.take n=ys->n+xs.length<=cs.length->ys.length=n->(setAt cs n xs).take (n+xs.length)=ys++xs/\(setAt cs n xs).length=cs.length:=by
 intro cs xs ys h1 h2 h3;have ov:∀{cs xs:List V},xs.length<=cs.length->(over cs xs).take xs.length=xs/\(over cs xs).length=cs.length:=by
  intro cs;induction cs with
  | nil=>intro xs h;cases xs with | nil=>simp[over] | cons x xs=>simp at h
  | cons c cs ih =>
   intro xs h;cases xs with
   | nil=>simp[over]
   | cons x xs =>
    obtain⟨k1,k2⟩:=ih (xs:=xs) (by simpa using h);simp[over,k1,k2]
 induction n generalizing cs ys with
 | zero =>
  simp at h3;subst h3;obtain⟨k1,k2⟩:=ov (cs:=cs) (xs:=xs) (by omega);have e:setAt cs 0 xs=over cs xs:=by cases cs<;>rfl
  rw[e];simpa using ⟨k1,k2⟩
 | succ n ih =>
  cases cs with
  | nil=>simp at h2
  | cons c cs =>
   cases ys with
   | nil=>simp at h3
   | cons y ys =>
    simp only[vw,gu] at h1;obtain⟨k1,k2⟩:=ih (cs:=cs) (ys:=ys) h1.2 (by simp at h2;omega) (by simpa using h3);simp only[setAt];rw[show n+1+xs.length=(n+xs.length)+1 by omega];simp[k1,k2,h1.1]
def jF.app{rows:List (List V)}{tk:Tk}(h:jF D k v rows)(hm:∀r∈m,r.length=k)(hn:bH m.flatten=aa)(hb:rows.length+m.length<=aM)
 (hk:∀v' σ',jF σ' k v' (rows++m)->IW D v σ' v' -> H v' σ'):OQ.a7 D H (.app k) [v,.sl tk k m]:=by
 obtain⟨a,cap,rfl,h1,h2,h3⟩:=h;have Bt:=mm hm;have ba:=mm h2;refine⟨rfl,h1,hb,hn,λe=>?_,λe hle=>?_,λaz=>?_⟩
 .subst e;refine hk _ _ ⟨a,cap,by simp,by simpa using h1,by simpa using h2,by simpa using h3⟩ ⟨λ_ _ h _=>h,rfl,λb hb=>.inl hb,rfl⟩
 .rcases h3 with h3 | ⟨b,cs,rfl,h4,h5,h6⟩
  .have:m.length=0:=by omega
   exact absurd (su this) e
  .have nU:rows.length*k+m.length*k<=cs.length:=by rw[h5,<-iQ];exact rB _ hle
   refine⟨b,cs,rfl,h4,nU,hk _ _ ⟨U ⟨b,0,Option.none⟩,cap,by simp,by simpa using hle,λr hr=>?_,.inr ⟨b,_,rfl,ag.dR _ _ _,?_,?_⟩⟩ ⟨λb' cs' b8 aQ=>?_,rfl,λb' b8 => .inl b8,rfl⟩⟩
   .rcases jE.1 hr with hr | hr
    .exact h2 r hr
    .exact hm r hr
   .rw[(Wj (k:=k) h6 (by rw[Bt];exact nU) ba).2];exact h5
   .have:=(Wj (k:=k) h6 (by rw[Bt];exact nU) ba).1
    rw[Bt] at this;rw[bI,iQ,this,tS]
   .have:b' ≠ b:=by rintro rfl;exact aQ rfl
    rw[ag.dW _ _ this];exact b8
 .have base:∀cs:List V,cs.take (rows.length*k)=rows.flatten->∀b' nH,D.box b' = Option.none->rows.length+m.length<=nH -> H (.raw (.slice (U ⟨b',0,Option.none⟩) (rows.length+m.length) nH)) (D.set b' (cs.take (rows.length*k)++m.flatten++aA ((nH - (rows.length+m.length))*k) .any)):=by
   intro cs h6 b' nH b8 hc;refine hk _ _ ⟨U ⟨b',0,Option.none⟩,nH,by simp,by simpa using hc,λr hr=>?_,.inr ⟨b',_,rfl,ag.dR _ _ _,?_,?_⟩⟩ ⟨λPH cs' qb aQ=>?_,rfl,λPH qb => ?_,rfl⟩
   .rcases jE.1 hr with hr | hr
    .exact h2 r hr
    .exact hm r hr
   .rw[h6];simp only[bI,ba,Bt,List.length_replicate];rw[<-iQ,<-iQ];congr 1;omega
   .rw[h6,bI,tS,XP (by simp only[bI,ba,Bt];rw[iQ];omega),yS (by simp only[bI,ba,Bt];rw[iQ];omega)]
   .have:PH ≠ b' := by rintro rfl;rw[b8] at qb;simp at qb
    rw[ag.dW _ _ this];exact qb
   .simp only[sb,aY] at qb;subst qb;exact .inr b8
  rcases h3 with h3 | ⟨b,cs,rfl,h4,h5,h6⟩
  .have h0:rows=[]:=su (by omega);subst h0;exact⟨[],.inl ⟨rfl,rfl⟩,base [] (by simp)⟩
  .refine⟨cs,.inr ⟨b,rfl,h4,?_⟩,base cs h6⟩;rw[h5];exact rB _ h1
structure CA(cY D:ag)(v:V):Prop where
 sub:cY.sub D
 new:∀b,sb v=U b->cY.box b=ae
def CA.step{cY:ag}{v':V}(h:CA cY D v)(f:IW D v σ' v'):CA cY σ' v' := by
 refine⟨⟨λb cs hb=>?_,λt n hn=>by rw[f.aJ];exact h.sub.2.1 t n hn,λb cs hc=>by rw[f.bO];exact h.sub.2.2 b cs hc⟩,λb hb=>?_⟩
 .exact f.lE b cs (h.sub.1 b cs hb) (λe=>by rw[h.new b e] at hb;simp at hb)
 .rcases f.new b hb with e | e
  .exact h.new b e
  .cases hq:cY.box b with
   | none=>rfl
   | some cs=>rw[h.sub.1 b cs hq] at e;simp at e
end
section
variable {P:Program} {d:Option Nat} {K:St->Prop} {st:St} {b w:Bool}
def kH{op:aG}{r:List AO}(h1:b=aa->gL P (.bool aa) w d op r K st)(h2:b=ak->gL P (.bool ak) w d op r K st):gL P (.bool b) w d op r K st:=by cases b with
 | true=>exact h1 rfl
 | false=>exact h2 rfl
def kX{x y:V}{r:List AO}(h1:b=aa->tz P (.bool aa) x y d r K st)(h2:b=ak->tz P (.bool ak) x y d r K st):tz P (.bool b) x y d r K st:=by cases b with
 | true=>exact h1 rfl
 | false=>exact h2 rfl
end
section
variable {P:Program} {d:Option Nat} {K:St->Prop} {t:List V} {l:List (List V)} {D:ag} {r:List AO}
def rG(st:St):Option X->Option V
 | none=>ae
 | some x=>U (ev st x)
def BM(n:Nat)(abW:Nat):Option V->Prop
 | none=>n=abW
 | some v=>∃j,v = .int j n
def NN(v:V)(lo hi:Option V)(H:V->Prop):Prop:=∃s a b,v = .aF s/\a<=b/\b<=s.length/\BM a 0 lo/\BM b s.length hi/\H (.aF ((s.take b).drop a))
def Ep(k:Nat)(v:V)(lo hi mx:Option V)(H:V->Prop):Prop:=(∃Z l a b,v = .sl Z k l/\a<=b/\b<=l.length/\BM a 0 lo/\BM b l.length hi /\
 match mx with
 | none=>H (.sl .no k ((l.take b).drop a))
 | some y=>(∃j,y = .int j b)/\H (.sl .aW k ((l.take b).drop a))) \/
 ∃a n cap m h,v = .raw (.slice a n cap)/\m<=h/\h<=cap/\BM m 0 lo/\BM h n hi/\mx.isNone=aa/\H (.raw (.slice (if cap=m then a else a.map (·.add (m*k))) (h - m) (cap - m)))
variable{hi:Option X}
def amR{x:X}{lo:Option X}:bT P (⟨d,.yy x lo hi,ae⟩::r) K ⟨t,l,D⟩=NN (ev ⟨t,l,D⟩ x) (rG ⟨t,l,D⟩ lo) (rG ⟨t,l,D⟩ hi) (kL P d r K ⟨t,l,D⟩):=by
 cases lo<;>cases hi<;>rfl
variable{mx:Option X}
def amS{x:X}{lo:Option X}:bT P (⟨d,.kv k x lo hi mx,ae⟩::r) K ⟨t,l,D⟩=Ep k (ev ⟨t,l,D⟩ x) (rG ⟨t,l,D⟩ lo) (rG ⟨t,l,D⟩ hi) (rG ⟨t,l,D⟩ mx) (kL P d r K ⟨t,l,D⟩):=by
 cases lo<;>cases hi<;>cases mx<;>rfl
variable{L:List (V × Bool × Nat × V × List Nat)}{ms:List Nat}
def abT{x:X}{lo:Option X}{r:List (AO × List Nat)}{SN:List c7}:cf P ((⟨d,.yy x lo hi,ae⟩,ms)::r) SN L K ⟨t,l,D⟩=NN (ev ⟨t,l,D⟩ x) (rG ⟨t,l,D⟩ lo) (rG ⟨t,l,D⟩ hi) (kD P d r SN L K ⟨t,l,D⟩):=by
 cases lo<;>cases hi<;>rfl
def abU{x:X}{lo:Option X}{r:List (AO × List Nat)}{SN:List c7}:cf P ((⟨d,.kv k x lo hi mx,ae⟩,ms)::r) SN L K ⟨t,l,D⟩=Ep k (ev ⟨t,l,D⟩ x) (rG ⟨t,l,D⟩ lo) (rG ⟨t,l,D⟩ hi) (rG ⟨t,l,D⟩ mx) (kD P d r SN L K ⟨t,l,D⟩):=by
 cases lo<;>cases hi<;>cases mx<;>rfl
theorem ac7{st:St}:rG st ae=none:=rfl
theorem ac8{st:St}{x:X}:rG st (U x)=U (ev st x):=rfl
variable{a:Nat}{s:List UInt8}
def NO{j j' : IntKind}{H:V->Prop}(h1:a<=b)(h2:b<=s.length)(h:H (.aF ((s.take b).drop a))):NN (.aF s) (U (.int j a)) (U (.int j' b)) H:=⟨s,a,b,rfl,h1,h2,⟨j,rfl⟩,⟨j',rfl⟩,h⟩
def aql{Z:Tk}{j:IntKind}{H:V->Prop}(h2:a<=m.length)(h:H (.sl .no k (m.drop a))):Ep k (.sl Z k m) (U (.int j a)) ae ae H:=.inl ⟨Z,m,a,m.length,rfl,h2,bL _,⟨j,rfl⟩,rfl,by rw[eH];exact h⟩
def Wt{Z:Tk}{j:IntKind}{H:V->Prop}(h2:b<=m.length)(h:H (.sl .no k (m.take b))):Ep k (.sl Z k m) ae (U (.int j b)) ae H:=.inl ⟨Z,m,0,b,rfl,IU _,h2,rfl,⟨j,rfl⟩,h⟩
def cF:=af @amw <| af @amg <| af @amR <| af @amS <| af @abT <| af @abU <| af @ac7 <| af @ac8 <| af @amF <| af @abI <| af @abA <| af @arI <| af @alS <| af @alR <| af @alT <| af @aoG <| af @aoF <| af @aoH @acs
end
def CV(a b:List UInt8):dc (a++b)=dc a++dc b:=by simp[dc]
def iR(a:List UInt8):(dc a).length=a.length:=by simp[dc]
abbrev bz:=BitVec 64
section
variable {a b c:bz} {n:Int} {m:Nat}
def wrap_u64{x:Int}(h1:0<=x)(h2:x<18446744073709551616):IntKind.u64.wrap x=x:=IntWalk.u64_in x (by omega)
def arX(a:bz):(a.toNat:Int)<18446744073709551616:=by have:=a.isLt;omega
def N_:BitVec.ofInt 64 (a.toNat:Nat)=a:=by simp
def Od:IntKind.u64.wrap (a.toNat:Nat)=(a.toNat:Nat):=wrap_u64 (by omega) (arX a)
def Oc:IntKind.u64.wrap ((a.toNat:Nat) - (b.toNat:Nat))=((a - b).toNat:Nat):=by
 have:=a.isLt;have:=b.isLt
 rw[IntKind.wrap_u64,BitVec.toNat_sub];omega
def arY:IntKind.u64.wrap ((a.toNat:Nat)*(b.toNat:Nat))=((a*b).toNat:Nat):=by
 rw[IntKind.wrap_u64,BitVec.toNat_mul,<-Int.natCast_mul];generalize a.toNat*b.toNat=x;omega
def wR:hC .u64 (a.toNat:Nat) (b.toNat:Nat) .and=U (.int .u64 ((a&&&b).toNat:Nat)):=by
 (simp only[hC,IntKind.bits,N_,Od];rfl)
def Ce:hC .u64 (a.toNat:Nat) (b.toNat:Nat) .or=U (.int .u64 ((a|||b).toNat:Nat)):=by
 (simp only[hC,IntKind.bits,N_,Od];rfl)
def W6:hC .u64 (a.toNat:Nat) (b.toNat:Nat) .andNot=U (.int .u64 ((a&&&~~~b).toNat:Nat)):=by
 (simp only[hC,IntKind.bits,N_,Od];rfl)
def Oa:hC .u64 (a.toNat:Nat) (m:Nat) .shl=U (.int .u64 ((a<<<m).toNat:Nat)):=by
 simp only[hC,IntKind.bits];rw[aB (by omega),IntKind.wrap_u64,XD,Nat.shiftLeft_eq];simp only[jC,aY,V.int.injEq,qt]
 by_cases h:m<=64
 .rw[show m.min 64=m from w8 h,show(2:Int)^m=((2^m:Nat):Int) by simp,<-Int.natCast_mul];generalize a.toNat*2^m=x;omega
 .rw[show m.min 64=64 from Nat.min_eq_right (by omega)];obtain⟨k,rfl⟩:∃k,m=64+k:=⟨m - 64,by omega⟩;rw[Nat.pow_add,<-Nat.mul_assoc,Nat.mul_comm _ (2^64),Nat.mul_assoc,Nat.mul_mod_right];omega
def Ob:hC .u64 (a.toNat:Nat) (m:Nat) .shr=U (.int .u64 ((a>>>m).toNat:Nat)):=by
 simp only[hC,IntKind.bits];rw[aB (by omega),BitVec.toNat_ushiftRight,Nat.shiftRight_eq_div_pow];simp only[jC,aY,V.int.injEq,qt];rw[Int.fdiv_eq_ediv_of_nonneg _ (Int.le_of_lt (Int.pow_pos (by decide)))]
 by_cases h:m<=64
 .rw[show m.min 64=m from w8 h];norm_cast
 .rw[show m.min 64=64 from Nat.min_eq_right (by omega)];have h1:a.toNat / 2^m=0:=Nat.div_eq_of_lt (tW a.isLt (Nat.pow_le_pow_right (by decide) (by omega)));rw[h1]
  have:=a.isLt
  omega
def Cd:decide ((a.toNat:Int)=(b.toNat:Nat))=decide (a=b):=by
 apply rE.2;rw[<-BitVec.toNat_inj];omega
theorem tL:V.int .u64 0 = .int .u64 ((0#64:bz).toNat:Nat):=rfl
theorem N':V.int .u64 1 = .int .u64 ((1#64:bz).toNat:Nat):=rfl
theorem ar0:V.int .u64 18446744073709551615 = .int .u64 ((BitVec.allOnes 64:bz).toNat:Nat):=rfl
end
def hasB(s:bz)(i:Int):Bool:=decide (0<=i)&&s.getLsbD i.toNat
def qE(i:Nat):bz:=1#64<<<i
def j6(s:bz)(i:Int):bz:=if 0<=i/\i<64 then s|||qE i.toNat else s
def n_(l:List Int):bz:=l.foldl j6 0#64
def Av(a b:bz):Bool:=decide (a&&&~~~b=0#64)
def pk(n:Int):bz:=if n<=0 then 0#64 else if 64<=n then BitVec.allOnes 64 else qE n.toNat - 1#64
def fI(s:bz):List Nat:=(cc 64).filter s.getLsbD
def Bd{a b:bz}(h:∀k,k<64->a.getLsbD k=b.getLsbD k):a=b:=BitVec.eq_of_getLsbD_eq λk hk=>h k hk
def PN(i k:Nat):(qE i).getLsbD k=(decide (k<64)&&decide (k=i)):=by
 simp only[qE,BitVec.getLsbD_shiftLeft,BitVec.getLsbD_one]
 by_cases h:k<64<;>by_cases h2:k=i<;>simp[h,h2]<;>omega
def Im(s:bz)(i:Int)(k:Nat):(j6 s i).getLsbD k=(s.getLsbD k||(decide (k<64)&&decide ((k:Int)=i))):=by
 unfold j6
 split
 .rename_i h;rw[BitVec.getLsbD_or,PN];congr 2;apply rE.2;omega
 .rename_i h
  have:(decide (k<64)&&decide ((k:Int)=i))=false:=by
   simp only[Cm,A'];omega
  rw[this,Bool.or_false]
def Rg:∀(l:List Int) (s:bz) (k:Nat),(l.foldl j6 s).getLsbD k=(s.getLsbD k||(decide (k<64)&&decide ((k:Int)∈l)))
 | [],s,k=>by simp
 | i :: l, s, k => by
  rw[yO,Rg l,Im,Bool.or_assoc,<-Bool.and_or_distrib_left,<-Bool.decide_or];simp only[kA]
def Uq(l:List Int)(k:Nat):(n_ l).getLsbD k=(decide (k<64)&&decide ((k:Int)∈l)):=by
 rw[n_,Rg];simp
def am_(k:Nat):(BitVec.allOnes 64).getLsbD k=decide (k<64):=BitVec.getLsbD_allOnes
def Zq(n:Nat)(h:n<=64)(k:Nat):(qE n - 1#64).getLsbD k=(decide (k<64)&&decide (k<n)):=by
 by_cases hk:k<64
 .rw[BitVec.getLsbD,BitVec.toNat_sub,qE,XD,Nat.shiftLeft_eq];have e1:(1#64).toNat=1:=rfl;rw[e1,w9]
  by_cases h2:n=64
  .subst h2
   have:(2^64 - 1+2^64 % 2^64) % 2^64=2^64 - 1:=by decide
   rw[this,XT];simp[hk]
  .have hp:2^n<2^64:=Nat.pow_lt_pow_right (by decide) (by omega);have mT:0<2^n:=Nat.two_pow_pos n;rw[O4 hp,show 2^64 - 1+2^n=(2^n - 1)+2^64 by omega,Nat.add_mod_right,O4 (by omega),XT];simp[hk]
 .rw[Cl _ _ (by omega)];simp[hk]
def PL(n:Int)(k:Nat):(pk n).getLsbD k=(decide (k<64)&&decide ((k:Int)<n)):=by
 unfold pk;split
 .rw[aK (p:=(k:Int)<n) (by omega)];simp
 .split
  .rw[am_]
   by_cases h:k<64
   .rw[aP (p:=(k:Int)<n) (by omega)];simp
   .simp[h]
  .rw[Zq _ (by omega)];congr 1;apply rE.2;omega
def T0{s:bz}:k∈fI s↔s.getLsbD k=true:=by
 simp only[fI,List.mem_filter,AV,and_iff_right_iff_imp];intro h;exact Nat.lt_of_not_le λhc=>by rw[Cl _ _ hc] at h;simp at h
def akz{s:bz}(h:k∈fI s):k<64:=by
 simp only[fI,List.mem_filter,AV] at h;exact h.1
def Hm(s:bz):(fI s).length<=64:=by
 have:=List.length_filter_le s.getLsbD (cc 64);simpa [fI] using this
def n6(s:bz):Nat:=((cc 64).find? s.getLsbD).getD 64
def D1{s:bz}(h:s≠0#64):n6 s<64/\s.getLsbD (n6 s)=aa/\∀k,k<n6 s->s.getLsbD k=false:=by
 unfold n6;cases hf:(cc 64).find? s.getLsbD with
 | none =>
  exfalso;apply h;apply Bd;intro k hk
  have:=IH.1 hf k (by simpa using hk)
  simpa using this
 | some i =>
  obtain⟨h1,as,bs,h2,h3⟩:=EV.1 hf;have hi:i<64:=by
   have:i∈cc 64:=by rw[h2];simp
   simpa using this
  refine⟨hi,h1,λk hk=>?_⟩;simp only[E9] at hk;have hl:as.length=i:=by
   have:=gX (λl:List Nat=>l[as.length]?) h2
   simp only[AT (bL _),Nat.sub_self,II] at this;rw[IJ] at this
   .simpa using this
   .have:=gX List.length h2;simp at this;omega
  have jR : k∈as:=by
   have:=gX (λl:List Nat=>l[k]?) h2
   rw[sv (by omega),IJ (by omega)] at this;exact rz this.symm
  have:=h3 k jR
  simpa using this
def alH{s:bz}(h:s≠0#64):s&&&-s=qE (n6 s):=by
 obtain⟨h1,h2,h3⟩:=D1 h;apply Bd;intro i hi;rw[AM,BitVec.getLsbD_neg,PN]
 rcases Cw i (n6 s) with hc | hc | hc
 .rw[h3 i hc,aK (p:=i=n6 s) (by omega)];simp
 .subst hc;rw[h2,aK (p:=∃j,j<n6 s/\s.getLsbD j=aa) (by rintro⟨j,hj,hs⟩;rw[h3 j hj] at hs;simp at hs)];simp[hi]
 .rw[aP (p:=∃j,j<i/\s.getLsbD j=aa) ⟨_,hc,h2⟩,aK (p:=i=n6 s) (by omega)];cases s.getLsbD i<;>simp[hi]
def Jx(s:bz)(i:Nat):(s&&&(s - 1#64)).getLsbD i=(s.getLsbD i&&decide (∃j,j<i/\s.getLsbD j=aa)):=by
 by_cases hi:i<64
 .rw[AM,<-BitVec.not_neg,BitVec.getLsbD_not,BitVec.getLsbD_neg];cases s.getLsbD i<;>simp[hi]
 .rw[Cl _ _ (by omega),Cl _ _ (by omega)];simp
def TK{s:bz}(h:s≠0#64):fI s=n6 s::fI (s&&&(s - 1#64)):=by
 obtain⟨h1,h2,h3⟩:=D1 h;generalize n6 s=k at h1 h2 h3;have hr:cc 64=cc k++k::List.range' (k+1) (64 - (k+1)):=by
  rw[tU,tU,<-Cu,show(64:Nat) - (k+1)+1=64 - k by omega]
  have:=O2 (s:=0) (m:=k) (n:=64 - k) (step:=1)
  simp only[w9,jc] at this;rw[this];congr 1;omega
 unfold fI;rw[hr,List.filter_append,List.filter_append,OR,OR,h2,Jx s k];have e1:List.filter s.getLsbD (cc k)=[]:=XI.2 λx hx=>by rw[h3 x (by simpa using hx)];simp
 have e2:List.filter (s&&&(s - 1#64)).getLsbD (cc k)=[]:=XI.2 λx hx=>by rw[Jx,h3 x (by simpa using hx)];simp
 rw[e1,e2,
  aK (by rintro⟨j,hj,hs⟩;rw[h3 j hj] at hs;simp at hs)]
 simp only[Bool.and_false,di,ck,cC,fY,gu,qt];refine List.filter_congr λx hx=>?_
 have hx:k<x:=by simp only[List.mem_range'_1] at hx;omega
 rw[Jx,aP ⟨k,hx,h2⟩,vp]
def akB:fI 0#64=[]:=by simp[fI]
def akA{s:bz}(h:fI s≠[]):s≠0#64:=by rintro rfl;exact h akB
def akC{s:bz}(h:fI s=[]):s=0#64:=by
 apply Classical.byContradiction;intro hc;rw[TK hc] at h;simp at h
def Ig:List Int:=[0,1,56,2,57,49,28,3,61,58,42,50,38,29,17,4,62,47,59,36,45,43,51,22,53,39,33,30,24,18,12,5,63,55,48,27,60,41,37,16,46,35,44,21,52,32,23,11,54,26,40,15,34,20,31,10,25,14,19,9,13,8,7,6]
def wO:List V:=Ig.map λn=>.int .u8 n
def ark(k:Nat)(h:k<64):((qE k*285870213051353865#64)>>>58).toNat<64/\Ig[((qE k*285870213051353865#64)>>>58).toNat]?=U (k:Int):=by
 revert k;decide +kernel
end Go.Am
namespace Go.Am
structure Tok where
 kind:Int
 al:List UInt8
 pos:Int
inductive ar where
 | mk (tok:Tok) (ah:List ar) (fin:Int)
def ar.tok:ar->Tok | .mk t _ _=>t
def ar.ah:ar->List ar | .mk _ k _=>k
def ar.fin:ar->Int | .mk _ _ e=>e
mutual
def ar.enc:ar->List V
 | .mk t ks e=>[.int .u8 t.kind,.aF t.al,.int .i64 t.pos,.sl .no 5 (dv ks),.int .i64 e]
def dv:List ar->List (List V)
 | []=>[]
 | t::ts=>t.enc::dv ts
end
def sH:∀l,dv l=l.map ar.enc
 | []=>rfl
 | t::ts=>by simp[dv,sH ts]
def ka(l:List ar):(dv l).length=l.length:=by simp[sH]
def dd(t:ar):t.enc=[.int .u8 t.tok.kind,.aF t.tok.al,.int .i64 t.tok.pos,.sl .no 5 (dv t.ah),.int .i64 t.fin]:=by
 cases t;simp only[ar.enc,ar.tok,ar.ah,ar.fin]
mutual
def ar.many:ar->Nat
 | .mk _ ks _=>a9 ks
def a9:List ar->Nat
 | []=>0
 | t::ts=>1+t.many+a9 ts
end
def Mj(t:ar):t.many=a9 t.ah:=by cases t;simp[ar.many,ar.ah]
def r7:∀a b,a9 (a++b)=a9 a+a9 b
 | [],b=>by simp[a9]
 | t::ts,b=>by simp[a9,r7 ts b];omega
def lI:∀l,l.length<=a9 l
 | []=>by simp[a9]
 | t::ts=>by simp[a9];have:=lI ts;omega
variable{i:Nat}
def ali{l:List ar}(h:i<l.length):a9 l=a9 (l.take i)+(1+a9 l[i].ah)+a9 (l.drop (i+1)):=by
 have:l=l.take i++l[i]::l.drop (i+1):=by simp
 have e:=gX a9 this;rw[e,r7];simp only[a9,Mj];omega
def alj{l:List ar}(h:i<l.length):a9 l[i].ah+1<=a9 l:=by
 have:=ali h;omega
structure au where
 al:List UInt8
 pos:Int
def au.enc(w:au):List V:=[.aF w.al,.int .i64 w.pos]
inductive Nd where
 | mk (kind pos:Int) (al:List UInt8) (aj:List au) (ah:List Nd)
namespace Nd
def kind:Nd->Int | .mk k _ _ _ _=>k
def pos:Nd->Int | .mk _ p _ _ _=>p
def al:Nd->List UInt8 | .mk _ _ t _ _=>t
def aj:Nd->List au | .mk _ _ _ w _=>w
def ah:Nd->List Nd | .mk _ _ _ _ k=>k
end Nd
mutual
def Nd.enc:Nd->List V
 | .mk k p t ws ks=>[.int .i64 k,.int .i64 p,.aF t,.sl .no 2 (ws.map au.enc),.sl .no 5 (re ks)]
def re:List Nd->List (List V)
 | []=>[]
 | n::ns=>n.enc::re ns
end
def Ac:∀l,re l=l.map Nd.enc
 | []=>rfl
 | t::ts=>by simp[re,Ac ts]
def Nd.dd(n:Nd):n.enc=[.int .i64 n.kind,.int .i64 n.pos,.aF n.al,.sl .no 2 (n.aj.map au.enc),.sl .no 5 (n.ah.map Nd.enc)]:=by
 cases n;simp only[Nd.enc,Nd.kind,Nd.pos,Nd.al,Nd.aj,Nd.ah,Ac]
structure ab where
 l:List ar
 at_:Int
 fin:Int
 aE:Option Int
def c8(b:Option Int):Int:=match b with | some _=>2 | none=>0
def fD(b:Option Int):Int:=match b with | some a=>a | none=>0
def ab.enc(r:ab):List V:=[.sl .no 5 (dv r.l),.int .i64 r.at_,.int .i64 r.fin,.int .i64 (c8 r.aE),.int .i64 (fD r.aE)]
def bx(l:List ar)(at_:Int)(k:Int):Bool:=decide (0<=at_)&&match l[at_.toNat]? with | some t=>decide (t.tok.kind=k) | none=>ak
def ab.ok(r:ab):Bool:=r.aE.isNone
def ab.spot(r:ab):Int:=if 0<=r.at_ then(match r.l[r.at_.toNat]? with | some t=>t.tok.pos | none=>r.fin) else r.fin
def ab.fail(r:ab):ab:=match r.aE with | some _=>r | none=>{r with aE:=U r.spot}
def ab.bR(r:ab)(k:Int):Bool:=r.ok&&bx r.l r.at_ k
def ar.zero:ar:=.mk ⟨0,[],0⟩ [] 0
def ab.take(r:ab)(k:Int):ar × ab:=if r.bR k then(r.l.getD r.at_.toNat .zero,{r with at_:=r.at_+1}) else(.zero,r.fail)
def ab.word(r:ab):au × ab:=(⟨(r.take 97).1.tok.al,(r.take 97).1.tok.pos⟩,(r.take 97).2)
variable{r:ab}
theorem ab.ex1{n:Nat}:r.enc.drop n=[V.sl .no 5 (dv r.l),.int .i64 r.at_,.int .i64 r.fin,.int .i64 (c8 r.aE),.int .i64 (fD r.aE)].drop n:=rfl
theorem ab.ex2{n:Nat}{x:List V}:setAt r.enc n x=setAt [V.sl .no 5 (dv r.l),.int .i64 r.at_,.int .i64 r.fin,.int .i64 (c8 r.aE),.int .i64 (fD r.aE)] n x:=rfl
variable{g:Bool}
theorem ab.ex3{n:Nat}:bD g n r.enc=bD g n [V.sl .no 5 (dv r.l),.int .i64 r.at_,.int .i64 r.fin,.int .i64 (c8 r.aE),.int .i64 (fD r.aE)]:=rfl
theorem ab.ex4{n:Nat}:bW n r.enc=bW n [V.sl .no 5 (dv r.l),.int .i64 r.at_,.int .i64 r.fin,.int .i64 (c8 r.aE),.int .i64 (fD r.aE)]:=rfl
def ab.ex:(∀{r:ab} {n:Nat},r.enc.drop n=[V.sl .no 5 (dv r.l),.int .i64 r.at_,.int .i64 r.fin,.int .i64 (c8 r.aE),.int .i64 (fD r.aE)].drop n) /\
 (∀{r:ab} {n:Nat} {x:List V},setAt r.enc n x=setAt [V.sl .no 5 (dv r.l),.int .i64 r.at_,.int .i64 r.fin,.int .i64 (c8 r.aE),.int .i64 (fD r.aE)] n x) /\
 (∀{r:ab} {n:Nat} {g:Bool},bD g n r.enc=bD g n [V.sl .no 5 (dv r.l),.int .i64 r.at_,.int .i64 r.fin,.int .i64 (c8 r.aE),.int .i64 (fD r.aE)]) /\
 (∀{r:ab} {n:Nat},bW n r.enc=bW n [V.sl .no 5 (dv r.l),.int .i64 r.at_,.int .i64 r.fin,.int .i64 (c8 r.aE),.int .i64 (fD r.aE)]):=⟨ab.ex1,ab.ex2,ab.ex3,ab.ex4⟩
def iG{G:Type}(step:ab × List G->ab × List G):Nat->ab × List G->ab × List G
 | 0,a=>a
 | n+1,a=>if a.1.bR 44 then iG step n (step ((a.1.take 44).2,a.2)) else a
variable{G:Type}
def dJ(step:ab × List G->ab × List G)(r:ab):ab × List G:=iG step r.l.length (step (r,[]))
def fW(a:ab × List au):ab × List au:=(a.1.word.2,a.2++[a.1.word.1])
def ab.ft(r:ab)(k:Int):(r.take k).2.l=r.l:=by
 unfold ab.take;split
 .rfl
 .unfold ab.fail;split<;>rfl
def ab.ado(r:ab):r.fail.at_=r.at_:=by unfold ab.fail;split<;>rfl
def ab.FZ(r:ab):r.fail.aE≠none:=by
 unfold ab.fail;split
 .rename_i h;rw[h];simp
 .simp
def ab.tJ(r:ab)(k:Int):(r.bR k=aa/\(r.take k).2.at_=r.at_+1/\(r.take k).2.aE=ae/\0<=r.at_/\r.at_<r.l.length)\/(r.bR k=ak/\(r.take k).2.at_=r.at_/\(r.take k).2.aE≠ae):=by
 cases h:r.bR k
 .right;simp only[ab.take,h,di,ck,qt];exact⟨r.ado,r.FZ⟩
 .left;have h' := h;simp only[ab.bR,ab.ok,bx,bA,b7,Cx] at h';obtain⟨h1,h0,hk⟩:=h';simp only[ab.take,h,cC,qt];refine⟨h1,h0,?_⟩;cases hq:r.l[r.at_.toNat]? with
  | none=>rw[hq] at hk;simp at hk
  | some t=>have:=(eX.1 hq).1;omega
def ab.vg(r:ab)(k:Int):a9 (r.take k).1.ah<=a9 r.l/\((r.take k).2.aE=ae->a9 (r.take k).1.ah+1<=a9 r.l):=by
 rcases r.tJ k with ⟨h,_,_,h1,h2⟩ | ⟨h,_,h1⟩
 .have az:r.at_.toNat<r.l.length:=by omega
  have:=alj az
  simp only[ab.take,h,cC,gU,cH az,E9];exact⟨by omega,λ_=>this⟩
 .refine⟨?_,λhb=>absurd hb h1⟩;simp[ab.take,h,ar.zero,ar.ah,a9]
def ar.inner(t:ar):ab:=⟨t.ah,0,t.fin,ae⟩
def ab.close(r:ab):ab:=if r.ok=aa/\r.at_<r.l.length then r.fail else r
def ab.under(r i:ab):ab:={r with aE:=i.close.aE}
structure Reads{G:Type}(one:ab->G × ab):Prop where
 l:∀r,(one r).2.l=r.l
 go:∀r,0<=r.at_->r.at_<=r.l.length->r.at_<=(one r).2.at_/\(one r).2.at_<=r.l.length/\((one r).2.aE=ae->r.at_+1<=(one r).2.at_)
def b_(one:ab->G × ab)(a:ab × List G):ab × List G:=((one a.1).2,a.2++[(one a.1).1])
def ab.inside(step:ab × List G->ab × List G)(empty:Bool)(t:ar):ab × List G:=if empty=aa/\t.ah.length=0 then(t.inner,[]) else dJ step t.inner
def ab.bracket(step:ab × List G->ab × List G)(kind:Int)(empty:Bool)(r:ab):(List G × Int) × ab :=
 if (r.take kind).2.ok=aa then(((ab.inside step empty (r.take kind).1).2,(r.take kind).1.tok.pos),(r.take kind).2.under (ab.inside step empty (r.take kind).1).1) else(([],0),(r.take kind).2)
def ab.nodes(one:ab->Nd × ab)(kind:Int)(empty:Bool)(r:ab):(List Nd × Int) × ab:=r.bracket (b_ one) kind empty
def ab.words(empty:Bool)(r:ab):(List au × Int) × ab:=r.bracket fW 123 empty
end Go.Am
namespace Go.Am
def qn:List V:=.int .i64 0::aA 64 (.int .u64 0)
def qK:List V:=.int .i64 0::.sl .aW 1 []::qn
def Nc:List Nat:=aA 65 1
def gx(l:List bz):List V:=l.map λw=>.int .u64 (w.toNat:Nat)
section
variable {l m:List bz} {i n:Nat} {w:bz}
def FT:(gx l).length=l.length:=by simp[gx]
def QJ:cB (gx l)=true:=by induction l with | nil=>rfl | cons a l ih=>simpa [gx,cB,V.one] using ih
def QI:bH (gx l)=true:=by induction l with | nil=>rfl | cons a l ih=>simpa [gx,bH,V.cG] using ih
def QF:bw (gx l)=gx l:=by induction l with | nil=>rfl | cons a l ih=>simp only[gx,bX,bw,V.erase] at ih ⊢;rw[ih]
def QH:bQ n (gx l)=true:=by induction l with | nil=>rfl | cons a l ih=>simpa [gx,bQ,V.lo] using ih
def acK(h:i<l.length):bD ak 1 ((gx l).drop i)=U (.int .u64 ((l.getD i 0#64).toNat:Nat)):=by
 have h' : i<(gx l).length:=by rwa [FT]
 rw[mi h'];simp only[bD];simp[gx,gU,h]
def QK(h:i<l.length):setAt (gx l) i [.int .u64 (w.toNat:Nat)]=gx (l.set i w):=by
 induction l generalizing i with
 | nil=>simp at h
 | cons a l ih =>
  cases i with
  | zero=>simp only[gx,bX,List.set_cons_zero,lM,oD,l8]
  | succ i=>simp only[db,Nat.add_lt_add_iff_right] at h;simp only[gx,bX,setAt,List.set_cons_succ] at ih ⊢;rw[ih h]
def QG(h:i<l.length):bW 1 ((gx l).drop i)=true:=by
 have h' : i<(gx l).length:=by rwa [FT]
 rw[mi h'];rfl
def QE(h:l.length=n)(h' : m.length=n):fE (aA n 1) (gx l) (gx m)=U (decide (l=m)):=by
 induction n generalizing l m with
 | zero=>obtain rfl:=jq.1 h;obtain rfl:=jq.1 h';rfl
 | succ n ih =>
  cases l with
  | nil=>simp at h
  | cons a l =>
   cases m with
   | nil=>simp at h'
   | cons b m =>
    simp only[gx,bX,yR] at ih ⊢;rw[xr,ih (by simpa using h) (by simpa using h'),vF,Cd,<-wW];simp only[gu]
def yE:∀{c:List V},takeN c.length c=U c
 | []=>rfl
 | x::c=>by rw[db,N0,yE];rfl
variable{c e:List V}
def NY(h:c.length=n):takeN n (c++e)=U c:=by
 subst h;induction c with
 | nil=>rfl
 | cons x c ih=>rw[db,gE,N0,ih];rfl
def xC:∀{c:List V},bW c.length c=aa
 | []=>rfl
 | x::c=>by rw[db,bW,xC]
def tt:∀{c e:List V},c.length=e.length->over c e=e
 | [],[],_=>rfl
 | x::c,y::e,h=>by rw[over,tt (by simpa using h)]
 | [],_::_,h=>by simp at h
 | _::_,[],h=>by simp at h
end
structure Rl where
 n:Int
 up:List bz
 len:up.length=64
def Rl.ext'{a b:Rl}(h:a.n=b.n)(k:a.up=b.up):a=b:=by cases a;cases b;simp only at h k;subst h;subst k;rfl
instance:DecidableEq Rl:=λa b=>if h:a.n=b.n/\a.up=b.up then isTrue (Rl.ext' h.1 h.2) else isFalse λe=>h ⟨e▸rfl,e▸rfl⟩
def Rl.zero:Rl:=⟨0,aA 64 0#64,by simp⟩
def Rl.enc(r:Rl):List V:=.int .i64 r.n::gx r.up
def Rl.get(r:Rl)(i:Nat):bz:=r.up.getD i 0#64
def Rl.put(r:Rl)(i:Nat)(w:bz):Rl:=⟨r.n,r.up.set i w,by simp[r.len]⟩
def Rl.HW(r:Rl)(n:Int):Rl:=⟨n,r.up,r.len⟩
def Rl.of(n:Int)(f:Nat->bz):Rl:=⟨n,(cc 64).map f,by simp⟩
section
variable {r s:Rl} {i n m:Nat} {w:bz} {z:Int}
variable{j:Nat}
def Rl.Bj:(r.put i w).get j=if i=j/\i<64 then w else r.get j:=by
 simp only[Rl.get,Rl.put,gU,List.getElem?_set,r.len]
 by_cases h:i=j
 .subst h
  by_cases h2:i<64
  .simp[h2]
  .simp[h2,r.len]
 .simp[h]
def Rl.nP{f:Nat->bz}(h:i<64):(Rl.of z f).get i=f i:=by simp[Rl.get,Rl.of,gU,h]
def Rl.ext(h:r.n=s.n)(k:∀i,i<64->r.get i=s.get i):r=s:=by
 refine Rl.ext' h (OO (by rw[r.len,s.len]) λi h1 h2=>?_)
 have:=k i (by rw[r.len] at h1;exact h1)
 simpa [Rl.get,gU,h1,h2] using this
def Rl.cN:r.enc.length=65:=by simp[Rl.enc,FT,r.len]
def Rl.fU:cB r.enc=true:=by simp[Rl.enc,cB,V.one,QJ]
def Rl.dq:bH r.enc=true:=by simp[Rl.enc,bH,V.cG,QI]
def Rl.dk:bw r.enc=r.enc:=by simp[Rl.enc,bw,V.erase,QF]
def Rl.cE:bQ m r.enc=true:=by simp[Rl.enc,bQ,V.lo,QH]
def Rl.fh:takeN 65 r.enc=U r.enc:=by have:=yE (c:=r.enc);rwa [Rl.cN] at this
def Rl.gN:bD aa 65 r.enc=U (.agg r.enc):=by rw[yb,Rl.fh];rfl
def Rl.gi:bW 65 r.enc=true:=by have:=xC (c:=r.enc);rwa [Rl.cN] at this
def Rl.fO:over s.enc r.enc=r.enc:=tt (by rw[Rl.cN,Rl.cN])
def Rl.aoO:setAt s.enc 0 r.enc=r.enc:=by rw[lM,Rl.fO]
theorem Rl.tB:bD ak 1 r.enc=U (.int .i64 r.n):=rfl
theorem Rl.aoJ:bW 1 r.enc=true:=rfl
def Rl.Vj:setAt r.enc 0 [.int .i64 z]=(r.HW z).enc:=by rw[Rl.enc,lM,oD,l8];rfl
def Rl.aoL:over r.enc [.int .i64 z]=(r.HW z).enc:=by rw[<-lM,Rl.Vj]
def Rl.wF:qn=Rl.zero.enc:=by rw[Rl.enc,gx,Rl.zero,List.map_replicate];rfl
def Rl.pQ:fE Nc r.enc s.enc=U (decide (r=s)):=by
 show fE (1::aA 64 1) (.int .i64 r.n::gx r.up) (.int .i64 s.n::gx s.up)=_;rw[xr,QE r.len s.len,vF,<-wW];congr 1;exact rE.2 ⟨λh=>Rl.ext' h.1 h.2,λh=>h▸⟨rfl,rfl⟩⟩
theorem Rl.Mz{f:Nat->bz}:(Rl.of z f).n=z:=rfl
def Rl.Xz:Rl.zero.HW z=Rl.of z λ_=>0#64:=by
 refine Rl.ext rfl λi hi=>?_
 rw[Rl.nP hi];simp only[Rl.get,Rl.HW,Rl.zero,gU,XJ,hi,cC,E9]
def Rl.fill{f:Nat->bz}:(Rl.of z λj=>if j<i then f j else 0#64).put i (f i)=Rl.of z λj=>if j<i+1 then f j else 0#64:=by
 refine Rl.ext rfl λk hk=>?_
 rw[Rl.Bj,Rl.nP hk,Rl.nP hk]
 by_cases h:i=k
 .subst h;simp[hk]
 .rw[aB (by omega)]
  by_cases h2:k<i
  .rw[aD h2,aD (by omega)]
  .rw[aB h2,aB (by omega)]
def Rl.yF(h:i<64):bD ak 1 (r.enc.drop (1+i))=U (.int .u64 ((r.get i).toNat:Nat)):=by
 rw[Cv,Rl.enc,Cq,acK (by rw[r.len];exact h)];rfl
def Rl.B9(h:i<64):bW 1 (r.enc.drop (1+i))=true:=by
 rw[Cv,Rl.enc,Cq,QG (by rw[r.len];exact h)]
def Rl.B_(h:i<64):setAt r.enc (1+i) [.int .u64 (w.toNat:Nat)]=(r.put i w).enc:=by
 rw[Cv,Rl.enc,jl,QK (by rw[r.len];exact h)];rfl
def Rl.an:=af @Rl.cN <| af @Rl.fU <| af @Rl.dq <| af @Rl.dk <| af @Rl.cE <| af @Rl.fh <| af @Rl.gN <| af @Rl.gi <| af @Rl.fO <| af @Rl.tB <| af @Rl.aoJ <| af @Rl.aoO <| af @Rl.Vj <| af @Rl.aoL <| af @Rl.wF @Rl.pQ
end
abbrev IV:=Option (Nat × Bool)->List Nat->Nat->List (AO × List Nat)
abbrev bY:=IV->IV
def sl:List Nat->List X
 | []=>[]
 | a::l=>.s a::sl l
def zv:Nat->V
 | 0=>.int .i64 0
 | 1=>.aF []
 | 2=>.bool ak
 | 3=>.int .u8 0
 | 4=>.int .u64 0
 | n+5=>.sl .aW n []
def sf:List (Nat × Nat × Nat)->List (Nat × Nat × X)
 | []=>[]
 | (a,b,c)::l=>(a,b,.s c)::sf l
def zl:List Nat->List V
 | []=>[]
 | a::l=>zv a::zl l
def wd(p:aG):bY:=λk g m n=>(⟨U n,p,g⟩,m)::k g [] (n+1)
def wu(d:Option Nat)(p:aG):bY:=λk g m n=>(⟨d,p,g⟩,m)::k g [] n
def wn(f:Nat->aG):bY
 | _,_,_,0=>[]
 | k,g,m,n+1=>(⟨U (n+1),f n,g⟩,m)::k g [] (n+2)
def wp(d:Option Nat)(f:Nat->aG):bY
 | _,_,_,0=>[]
 | k,g,m,n+1=>(⟨d,f n,g⟩,m)::k g [] (n+1)
def om(a:Nat):bY:=wd (.mv (.s a))
def oi(z:Int):bY:=wd (.mv (.c (.int .i64 z)))
def oz(i:Nat):bY:=wd (.mv (.c (zv i)))
def ob(p:BinOp)(a b:Nat):bY:=wd (.eD p (.s a) (.s b))
def oB(p:BinOp)(a:Nat)(z:Int):bY:=wd (.eD p (.s a) (.c (.int .i64 z)))
def ou(p:BinOp)(a:Nat)(z:Int):bY:=wd (.eD p (.s a) (.c (.int .u8 z)))
def oE(p:BinOp)(a b:Nat):bY:=wd (.nD p (.s a) (.s b))
def ol(i a:Nat):bY:=wd (.load aa i (.s a))
def oo(a:Nat):bY:=wd (.load ak 1 (.s a))
def ok(a:Nat):bY:=wd (.uX (.s a))
def of(i a:Nat):bY:=wd (.nM i (.s a))
def ov(i j a:Nat):bY:=wd (.uy aa j i (.s a))
def ow(i a:Nat):bY:=wd (.uy ak i 1 (.s a))
def oL(a:Nat):bY:=wd (.uS (.s a))
def oT(a:Nat):bY:=wd (.uT (.s a))
def oA(i a b:Nat):bY:=wd (.rZ i (.s a) (.s b))
def oI(i a:Nat)(z:Int):bY:=wd (.rZ i (.s a) (.c (.int .i64 z)))
def oS(a b:Nat):bY:=wd (.sV (.s a) (.s b))
def oe(a i:Nat):bY:=wd (.ext (.s a) i)
def oc(f:FuncId)(l:List X):bY:=wd (.call f l)
def oC(f:FuncId)(l:List Nat):bY:=wd (.call f (sl l))
def oO(q:OQ)(l:List Nat):bY:=wd (.own q (sl l))
def oK(a b c:Nat):bY:=wd (.yy (.s a) (U (.s b)) (U (.s c)))
def oW(z:List Nat)(l:List (Nat × Nat × Nat)):bY:=wd (.build (zl z) (sf l))
def oG(z:List Nat)(l:List (Nat × Nat × X)):bY:=wd (.build (zl z) l)
def oM(l:List Nat):bY:=wd (.alloc (zl l))
def oY(z:List V)(l:List (Nat × Nat × X)):bY:=wd (.build z l)
def op(a b c:Nat):bY:=wd (.pick (.s a) (.s b) (.s c))
def oa(i a b:Nat):bY:=wd (.app i (.s a) (.s b))
def oy(a b:Nat):bY:=wd (.pick (.s a) (.s b) (.c (.bool ak)))
def on(a:Nat):bY:=wd (.not (.s a))
def oq(q:aG):bY:=wd (q)
def oP(m i a b:Nat):bY:=wd (.qZ m i (.s a) (.s b))
def oQ(m i a:Nat)(z:Int):bY:=wd (.qZ m i (.s a) (.c (.int .i64 z)))
def nm:bY:=wn λn=>.mv (.s n)
def nB(p:BinOp)(z:Int):bY:=wn λn=>.eD p (.s n) (.c (.int .i64 z))
def nu(p:BinOp)(z:Int):bY:=wn λn=>.eD p (.s n) (.c (.int .u8 z))
def nb(p:BinOp)(a:Nat):bY:=wn λn=>.eD p (.s a) (.s n)
def nE(p:BinOp)(a:Nat):bY:=wn λn=>.nD p (.s a) (.s n)
def nl(i:Nat):bY:=wn λn=>.load aa i (.s n)
def no:bY:=wn λn=>.load ak 1 (.s n)
def nk:bY:=wn λn=>.uX (.s n)
def nf(i:Nat):bY:=wn λn=>.nM i (.s n)
def nL:bY:=wn λn=>.uS (.s n)
def nT:bY:=wn λn=>.uT (.s n)
def nA(i a:Nat):bY:=wn λn=>.rZ i (.s a) (.s n)
def nI(i:Nat)(z:Int):bY:=wn λn=>.rZ i (.s n) (.c (.int .i64 z))
def nS(a:Nat):bY:=wn λn=>.sV (.s a) (.s n)
def nn:bY:=wn λn=>.not (.s n)
def nO(q:OQ):bY:=wn λn=>.own q [.s n]
def n1(i:Nat):bY:=wn λn=>.j9 i [.s n]
def na(i a:Nat):bY:=wn λn=>.app i (.s a) (.s n)
def os(i a b:Nat):bY:=wu ae (.store i (.s a) (.s b))
def ot(d a:Nat):bY:=wu (U d) (.mv (.s a))
def oj(d:Nat)(z:Int):bY:=wu (U d) (.mv (.c (.int .i64 z)))
def oV(d:Nat)(v:V):bY:=wu (U d) (.mv (.c v))
def oU(d i:Nat):bY:=wu (U d) (.mv (.c (zv i)))
def ox(d i a:Nat):bY:=wu (U d) (.box i (.s a))
def oX(d i a:Nat):bY:=wu (U d) (.ug i (.s a))
def oZ(d:Nat)(l:List Nat):bY:=wu (U d) (.alloc (zl l))
def oR(d:Nat)(l:List V):bY:=wu (U d) (.alloc l)
def od(d:Option Nat)(q:aG):bY:=wu d (q)
def oN:bY:=wu ae (.mv (.c .any))
def o1(d:Nat):bY:=wp (U d) λn=>.mv (.s n)
def o2(i a:Nat):bY:=wp ae λn=>.store i (.s a) (.s n)
def fo(i a:Nat):bY:=λk=>of i a (no k)
def nF(i:Nat):bY:=λk=>nf i (no k)
def mk(a:Nat):bY:=λk=>om a (nk k)
def ic(a:Nat):bY:=λk=>om a (nB .add 1 (o1 a k))
def mM(l:List Nat):bY:=λk g _ n=>k g l n
def gA:bY
 | _,_,_,0=>[]
 | k,_,m,n+1=>(⟨U (n+1),.mv (.s n),ae⟩,m)::k (U (n+1,aa)) [] (n+2)
def gB:bY
 | _,_,_,0=>[]
 | k,_,m,n+1=>(⟨U (n+1),.mv (.s n),ae⟩,m)::k (U (n+1,ak)) [] (n+2)
def gZ:bY
 | k,U (g,aa),m,n+1=>(⟨U (n+1),.pick (.s g) (.s n) (.c (.bool ak)),ae⟩,m)::k ae [] (n+2)
 | k,U (g,ak),m,n+1=>(⟨U (n+1),.pick (.s g) (.c (.bool aa)) (.s n),ae⟩,m)::k ae [] (n+2)
 | _,_,_,_=>[]
def og(g:Nat)(o:bY):bY:=λk h=>o (λ_=>k h) (U (g,aa))
def oh(g:Nat)(o:bY):bY:=λk h=>o (λ_=>k h) (U (g,ak))
def ru:List bY->IV
 | []=>λ_ _ _=>[]
 | o::l=>o (ru l)
def fs:List (AO × List Nat)->List AO
 | []=>[]
 | x::l=>x.1::fs l
def rg(n:Nat)(l:List bY):AC:=.Eh (fs (ru l ae [] n))
def dg(n:Nat)(l:List bY):AC:=.draw (ru l ae [] n)
def dA(n:Nat)(v:List Nat)(l:List bY):AC:=.FM v (ru l ae [] n)
def rS(n:Nat)(l:List bY):List AO:=fs (ru l ae [] n)
def dH(n:Nat)(h:HI)(l:List bY):AC:=.hole (ru l ae [] n) h
def sq:List AC->AC
 | []=>.skip
 | [a]=>a
 | a::b::l=>.seq a (sq (b::l))
def cd(n:Nat)(a b:AC):AC:=.cond (.s n) a b
def ci(n:Nat)(a:AC):AC:=.cond (.s n) a .skip
def cx(n k:Nat):AC:=.cond (.s n) .skip (.exit k)
def bl(k:Nat)(a:AC):AC:=.block k (.loop a)
def cr(n m:Nat)(l:List bY):AC:=.cond (.s n) (.seq (.Eh (fs (ru l ae [] m))) .ret) .skip
def lp(q k:Nat)(a:AC)(m:Nat):AC:=.block k (.loop (.seq (rg (q+2) [ob .lss (q+1) q]) (.seq (cx (q+2) k) (.seq (.block (k+1) a) (rg m [oB .add (q+1) 1,o1 (q+1)])))))
variable{f:FuncId}{rs:List RV}
def aX{P:Program}{x:AC}{n:Nat}{fn:Func}(h1:P.funcs[f]?=U fn)(h:Hint:={})(h2:(fn.name == "runtime.NumGoroutine",fn.body.bind (fJ P h),z_ P fn.results.toList,fn.ntmps)=(ak,U x,U rs,n):=by kernel_rfl):aT P f x rs n:=by
 simp only[nC] at h2;exact⟨fn,h,h1,h2.1,h2.2.1,h2.2.2.1,h2.2.2.2⟩
def a8:=af @sl.eq_1 <| af @sl.eq_2 <| af @zv.eq_1 <| af @zv.eq_2 <| af @zv.eq_3 <| af @zv.eq_4 <| af @zv.eq_5 <| af @zv.eq_6 <| af @zl.eq_1 <| af @zl.eq_2 <| af @wd.eq_1 <| af @wu.eq_1 <| af @wn.eq_2 <| af @wp.eq_2 <| af @om.eq_1 <| af @oi.eq_1 <| af @oz.eq_1 <| af @ob.eq_1 <| af @oB.eq_1 <| af @ou.eq_1 <| af @oE.eq_1 <| af @ol.eq_1 <| af @oo.eq_1 <| af @ok.eq_1 <| af @of.eq_1 <| af @ov.eq_1 <| af @ow.eq_1 <| af @oL.eq_1 <| af @oT.eq_1 <| af @oA.eq_1 <| af @oI.eq_1 <| af @oS.eq_1 <| af @oe.eq_1 <| af @oc.eq_1 <| af @oC.eq_1 <| af @oO.eq_1 <| af @oK.eq_1 <| af @oW.eq_1 <| af @oG.eq_1 <| af @oM.eq_1 <| af @sf.eq_1 <| af @sf.eq_2 <| af @oY.eq_1 <| af @op.eq_1 <| af @oa.eq_1 <| af @oy.eq_1 <| af @on.eq_1 <| af @oq.eq_1 <| af @oP.eq_1 <| af @oQ.eq_1 <| af @nm.eq_1 <| af @nB.eq_1 <| af @nu.eq_1 <| af @nb.eq_1 <| af @nE.eq_1 <| af @nl.eq_1 <| af @no.eq_1 <| af @nk.eq_1 <| af @nf.eq_1 <| af @nL.eq_1 <| af @nT.eq_1 <| af @nA.eq_1 <| af @nI.eq_1 <| af @nS.eq_1 <| af @nn.eq_1 <| af @nO.eq_1 <| af @n1.eq_1 <| af @na.eq_1 <| af @os.eq_1 <| af @ot.eq_1 <| af @oj.eq_1 <| af @oV.eq_1 <| af @oU.eq_1 <| af @ox.eq_1 <| af @oX.eq_1 <| af @oZ.eq_1 <| af @oR.eq_1 <| af @od.eq_1 <| af @oN.eq_1 <| af @o1.eq_1 <| af @o2.eq_1 <| af @fo.eq_1 <| af @nF.eq_1 <| af @mk.eq_1 <| af @ic.eq_1 <| af @mM.eq_1 <| af @gA.eq_2 <| af @gB.eq_2 <| af @gZ.eq_1 <| af @gZ.eq_2 <| af @og.eq_1 <| af @oh.eq_1 <| af @ru.eq_1 <| af @ru.eq_2 <| af @fs.eq_1 <| af @fs.eq_2 <| af @rg.eq_1 <| af @dg.eq_1 <| af @dA.eq_1 <| af @rS.eq_1 <| af @dH.eq_1 <| af @sq.eq_2 <| af @sq.eq_3 <| af @cd.eq_1 <| af @ci.eq_1 <| af @cx.eq_1 <| af @bl.eq_1 <| af @cr.eq_1 @lp.eq_1
variable{c:List V}{ik:IntKind}{k:Nat}{m:List (List V)}
def ix{Z:Tk}{n:Int}{K:V->Prop}(h:m[n.toNat]?=U c)(hk:K (.elt c 0))(h0:0<=n:=by omega):zO k (.sl Z k m) (.int ik n) K:=qY h0 h hk
variable{l:List (List V)}{t:List V}{v:V}{D:ag}
def rt{w:V}(h:v.erase=w:=by simp[V.erase,bw])(h1:v.cG=true:=by rfl):mP (λv σ' => v=w/\σ' = D) ⟨t,l,D⟩ v:=aS h h1
def ag.B6{a b c:ag}(h:a.sub b)(k:b.sub c):a.sub c:=⟨λx cs hx=>k.1 x cs (h.1 x cs hx),λx n hx=>k.2.1 x n (h.2.1 x n hx),λx n hx=>k.2.2 x n (h.2.2 x n hx)⟩
variable{E:Env}{σ':ag}
def Env.ok.eM(h:E.ok D)(ho:bN D σ'):E.ok σ' := by
 refine⟨λb cs hb=>?_,λt n ht=>h.aJ t n (ho.aJ t n ht),h.fresh,h.nt,λb cs hc=>h.bO b cs (ho.bO b cs hc)⟩;obtain⟨ds,h1,h2⟩:=ho.box b cs hb;obtain⟨k1,k2⟩:=h.box b ds h1;exact⟨k1,k2.eM h2⟩
variable{as:List V}
def cm.le{P:Program}{S S' : ag}(h:cm P f as D λv' σ' => v' = v/\σ' = S)(ho:bN S S'):cm P f as D λv' σ' => v' = v/\σ' = S' :=
 ⟨h.1,λE vs h1 h2 h3=>(h.2 E vs h1 h2 h3).mono λ_ _ ⟨v',x,E',σ',a,b,c,d,e,f,g⟩=>⟨v',x,E',S',a,b,c,(g.2▸d).eM ho,e,f,g.1,rfl⟩⟩
variable{b:Nat}
def bN.set{A B:List V}(h:cK A B):bN (D.set b A) (D.set b B):=by
 refine⟨λx cs' hx=>?_,λ_ _ h=>h,λ_ _ h=>h⟩;simp only[ag.set] at hx ⊢
 by_cases e:x=b
 .rw[aD e] at hx ⊢;simp only[aY] at hx;subst hx;exact⟨A,Eq.refl _,h⟩
 .rw[aB e] at hx ⊢;exact⟨cs',hx,cK.rfl⟩
section
variable {D:ag}
variable{H:V->ag->Prop}
def als{a b:Int}{k:IntKind}(hk:H (.int k (if b<a then b else a)) D):OQ.a7 D H .min [.int k a,.int k b]:=⟨G0,hk⟩
def alp{a b:Int}{k:IntKind}(hk:H (.int k (if a<b then b else a)) D):OQ.a7 D H .max [.int k a,.int k b]:=⟨G0,hk⟩
variable{cs ds:List V}
def ap4{g:Nat}(h:D.box b=ae)(hg:D.box g=U ds):(D.set b cs).box g=U ds:=by
 rw[ag.dW _ _ (by rintro rfl;rw[h] at hg;simp at hg)];exact hg
def h_(h:D.box b=ae):D.sub (D.set b cs) :=
 ⟨λg ds hg=>ap4 h hg,λ_ _ h=>h,λ_ _ h=>h⟩
end
section
variable {P:Program} {a:AC} {Q:Exit->St->Prop} {st:St} {O:Type} {F:Nat->O->St} {J:Nat->O->Prop} {n:Nat}
def CI(n:Nat)(J:Nat->O->Prop):={p:Nat × O // p.1<=n/\J p.1 p.2}
def yJ(F:Nat->O->St)(J:Nat->O->Prop)(n:Nat)(Q:Exit->St->Prop)(i:Nat):Exit->St->Prop :=
 yM (ι:=CI n J) (λp=>F p.1.1 p.1.2) (λp=>n - p.1.1) Q (n - i)
def AP(F:Nat->O->St)(J:Nat->O->Prop)(st:St):Prop:=bm st λaH => ∃x,J 0 x/\aH = F 0 x
def arB(n:Nat)(F:Nat->O->St)(J J' : Nat->O->Prop)(hJ:∀i x,J i x=J' i x)(h0:AP F J st)
 (hs:∀i x,i<n->J' i x->vc P a (yJ F J n Q i) (F i x)) (he:∀x,J' n x->vc P a (yJ F J n Q n) (F n x)):vc P (.loop a) Q st:=by
 refine iE (ι:=CI n J) (λp=>F p.1.1 p.1.2) (λp=>n - p.1.1) (bm.mono h0 ?_) ?_
 .rintro aH ⟨x,hx,rfl⟩;exact⟨⟨(0,x),IU _,hx⟩,rfl⟩
 .rintro⟨⟨i,x⟩,hle,hx⟩
  rcases vA i n with h | h
  .exact hs i x h ((hJ i x)▸hx)
  .have e:i=n:=Nat.le_antisymm hle h;subst e;exact he x ((hJ i x)▸hx)
variable{i:Nat}
theorem aaZ{id:Nat}:yJ F J n Q i (.exit id) st=Q (.exit id) st:=rfl
theorem aa1:yJ F J n Q i .ret st=Q .ret st:=rfl
def EO(F:Nat->O->St)(J:Nat->O->Prop)(n i:Nat)(st:St):Prop:=bm st λaH => ∃j:CI n J,aH = F j.1.1 j.1.2/\n - j.1.1<n - i
theorem aa0:yJ F J n Q i .normal st=EO F J n i st:=rfl
def a_:=af @aaZ <| af @aa1 @aa0
variable {t:List V} {l:List (List V)} {D:ag}
def ent(x:O)(hx:J 0 x)(h:cK t (F 0 x).t)(hl:ch l (F 0 x).aC)(ho:bN D (F 0 x).out):AP F J ⟨t,l,D⟩ :=
 bm.eM h hl ho ⟨x,hx,rfl⟩
def nxt(x:O)(hi:i<n)(hx:J (i+1) x)(h:cK t (F (i+1) x).t)(hl:ch l (F (i+1) x).aC)(ho:bN D (F (i+1) x).out):EO F J n i ⟨t,l,D⟩ :=
 bm.eM h hl ho ⟨⟨(i+1,x),hi,hx⟩,rfl,by simp only;omega⟩
def eb(n:Nat)(F0:Nat->O->St)(J0:Nat->O->Prop)
 (k:∀F:Nat->O->St,(∀i x,F i x=F0 i x)->∀J:Nat->O->Prop,(∀i x,J i x=J0 i x)->AP F J st/\(∀i x,i<n->J0 i x->vc P a (yJ F J n Q i) (F i x))/\∀x,J0 n x->vc P a (yJ F J n Q n) (F n x)):vc P (.loop a) Q st:=by
 obtain⟨F,hF⟩:∃F:Nat->O->St,∀i x,F i x=F0 i x:=⟨_,λ_ _=>rfl⟩;obtain⟨J,hJ⟩:∃J:Nat->O->Prop,∀i x,J i x=J0 i x:=⟨_,λ_ _=>rfl⟩;obtain⟨a1,a2,a3⟩:=k F hF J hJ;exact arB n F J J0 hJ a1 a2 a3
def en{J' : Nat->O->Prop}(hJ:∀i x,J i x=J' i x)(x:O)(hx:J' 0 x)(h:cK t (F 0 x).t:=by simp[hF,aA,am,bZ])(hl:ch l (F 0 x).aC:=by simp[hF,aA,am,bZ])(ho:bN D (F 0 x).out:=by simp[hF,aA,am,bZ]):AP F J ⟨t,l,D⟩ :=
 ent x ((hJ _ _).symm▸hx) h hl ho
def nx{J' : Nat->O->Prop}(hJ:∀i x,J i x=J' i x)(x:O)(hi:i<n)(hx:J' (i+1) x)(h:cK t (F (i+1) x).t:=by simp[hF,aA,am,bZ])(hl:ch l (F (i+1) x).aC:=by simp[hF,aA,am,bZ])(ho:bN D (F (i+1) x).out:=by simp[hF,aA,am,bZ]):EO F J n i ⟨t,l,D⟩ :=
 nxt x hi ((hJ _ _).symm▸hx) h hl ho
def fN(x:O)(hi:i<n)(hx:J (i+1) x)(h:cK t (F (i+1) x).t)(hl:ch (l.take (F (i+1) x).aC.length) (F (i+1) x).aC)(ho:bN D (F (i+1) x).out)(h1:bQ (F (i+1) x).aC.length (F (i+1) x).t=aa)(h2:dC (F (i+1) x).aC.length (F (i+1) x).aC=aa):EO F J n i ⟨t,l,D⟩ :=
 bm.Ba h hl ho h1 h2 ⟨⟨(i+1,x),hi,hx⟩,rfl,by simp only;omega⟩
structure Gr(cY D:ag)(tk:Tk)(n:Nat):Prop where
 sub:cY.sub D
 tk:tk = .aW\/∃Z,tk = .tk Z/\D.aJ Z=U n/\cY.aJ Z=ae
variable{u:Tk}
def Gr.app{cY D:ag}{tk:Tk}{e:List (List V)}{K:V->ag->Prop}(h:Gr cY D tk m.length)(hb:m.length+e.length<=aM)
 (hk:∀kx σ',Gr cY σ' kx (m++e).length->σ'.box=D.box->(∀Z n,D.aJ Z=U n->tk≠.tk Z->σ'.aJ Z=U n)->K (.sl kx k (m++e)) σ'):pT D k (.sl tk k m) (.sl u k e) K:=by
 have hl:(m++e).length=m.length+e.length:=bI
 rcases h.tk with rfl | ⟨Z,rfl,ht,h0⟩
 .refine Fp hb λZ hn=>hk _ _ ⟨⟨λb cs hc=>h.sub.1 b cs hc,λυ n hu=>?_,h.sub.2.2⟩,.inr ⟨Z,rfl,by rw[hl];exact NJ,?_⟩⟩ rfl λυ n hu _=>?_
  .have:=h.sub.2.1 υ n hu
   rw[o6];exact this;rintro rfl;rw[hn] at this;simp at this
  .cases hq:cY.aJ Z with
   | none=>rfl
   | some n=>have:=h.sub.2.1 Z n hq;rw[hn] at this;simp at this
  .rw[o6];exact hu;rintro rfl;rw[hn] at hu;simp at hu
 .refine jI hb ht (hk _ _ ⟨⟨λb cs hc=>h.sub.1 b cs hc,λυ n hu=>?_,h.sub.2.2⟩,.inr ⟨Z,rfl,by rw[hl];exact NJ,h0⟩⟩ rfl λυ n hu aQ=>?_)
  .rw[o6];exact h.sub.2.1 υ n hu;rintro rfl;rw[h0] at hu;simp at hu
  .rw[o6];exact hu;rintro rfl;exact aQ rfl
def bZ{l:List V}:cK l l=True:=eq_true cK.rfl
def aqU{O:Type}{l:List O}{p:O->Prop}(h:∀k∈l.take i,p k)(hi:i<l.length)(hk:p l[i]):∀k∈l.take (i+1),p k:=by
 rw[jr hi];intro k hm
 rcases jE.1 hm with hm | hm
 .exact h k hm
 .rw[o_.1 hm];exact hk
def Ri{O G:Type}{f:G->O->G}{a:G}{l:List O}(hi:i<l.length):(l.take (i+1)).foldl f a=f ((l.take i).foldl f a) l[i]:=by
 rw[jr hi,AS];rfl
variable{j:Nat}
def A3{p:Nat->Prop}(h:∀k,k<j->p k)(hj:p j):∀k,k<j+1->p k:=λk hk=>by
 rcases XR.1 hk with e | rfl
 .exact h k e
 .exact hj
def eE{i n:Nat}(h:i<n):decide ((i:Int)<(n:Nat))=true:=aP (by omega)
def eJ{n:Nat}:decide ((n:Int)<(n:Nat))=false:=aK (by omega)
def cT{i n:Nat}(h:i<n)(hn:n<=9223372036854775807:=by omega):IntKind.i64.wrap ((i:Int)+1)=((i+1:Nat):Int):=by
 rw[wrap_i64 (by omega) (by omega)];rfl
end
def iV(n b:Nat):V->V
 | .ptr (.aC i) o=>if i=n then .ptr (.out b) o else if i<n then .ptr (.aC i) o else .any
 | v=>if v.lo n=aa then v else .any
def Env.oJ(E:Env)(n b:Nat):Env:={w:=E.w,aZ:=λx=>if x=b then .pH else E.aZ x,aC:=λi=>if i<n then E.aC i else ae,aJ:=E.aJ}
section
variable {E:Env} {n b:Nat}
def MX(h2:E.aZ b = .iB n):Fr E (E.oJ n b):=by
 have kf:∀x,x≠b->(E.oJ n b).aZ x=E.aZ x:=λx hx=>by simp[Env.oJ,hx]
 refine⟨rfl,rfl,rfl,bL _,λ_=>rfl,λb' o c hc hv=>?_,λt m h=>⟨m,h,bL _,λ_ b' c hr=>⟨?_,λcs e bP=>⟨cs,bP,rfl⟩⟩⟩,λb' _ hr=>⟨rfl,?_⟩,λb' _ h=>?_,λb' t c _ h=>?_,λb' i _ h=>?_,λ_ c _ h=>⟨c,h,rfl⟩⟩
 .have aQ:b' ≠ b:=λe=>by rw[e,h2] at hc;exact hc
  exact⟨by rw[kf _ aQ];exact hc,hv⟩
 .have aQ:b' ≠ b:=λe=>by rw[e,h2] at hr;simp at hr
  rw[kf _ aQ];exact hr
 .have aQ:b' ≠ b:=λe=>by rw[e,h2] at hr;simp at hr
  rw[kf _ aQ]
 .by_cases e:b' = b
  .rw[e];exact .inr ⟨_,h2⟩
  .rw[kf _ e] at h;exact .inl h
 .by_cases e:b' = b
  .rw[e] at h;simp[Env.oJ] at h
  .rw[kf _ e] at h;exact⟨c,h⟩
 .by_cases e:b' = b
  .rw[e] at h;simp[Env.oJ] at h
  .rw[kf _ e] at h;exact⟨i,h⟩
def U'(h1:E.aC n=U b)(h2:E.aZ b = .iB n){x:V}{v:Value}(h:R E x v):R (E.oJ n b) (iV n b x) v:=by
 have Kz:∀{x:V},R E x v->R (E.oJ n b) (if x.lo n=aa then x else .any) v:=λ{x} h=>by
  split
  .rename_i hl;have hc:=R.cut x hl h;refine R.mono x (E:=E.cut n) ⟨(MX h2).cell,λi c hc=>?_,(MX h2).tok⟩ hc;simp only[Env.cut] at hc;simp only[Env.oJ];exact hc
  .simp only[R]
 unfold iV;split
 .rename_i i o;simp only[R] at h;obtain⟨c,k1,k2⟩:=h;split
  .rename_i e;subst e;rw[h1] at k1;simp only[R];rw[k2];cases k1;rfl
  .split
   .rename_i az;simp only[R,Env.oJ];exact⟨c,by rw[aD az];exact k1,k2⟩
   .simp only[R]
 .exact Kz h
def Va(h1:E.aC n=U b)(h2:E.aZ b = .iB n):∀{l:List V} {vs:List Value},RL E l vs->RL (E.oJ n b) (l.map (iV n b)) vs
 | [],[],_=>by simp[RL]
 | [],_::_,h=>by simp[RL] at h
 | _::_,[],h=>by simp[RL] at h
 | x :: l, v :: vs, h => by
  simp only[RL,bX] at h ⊢;exact⟨U' h1 h2 h.1,Va h1 h2 h.2⟩
end
variable{K:St->Prop}{cs:List V}
def bm.aol(hn:bH cs=aa)
 (hk:∀b,D.box b=ae->K ⟨t.map (iV l.length b),l.map (List.map (iV l.length b)),D.set b cs⟩):bm ⟨t,l++[cs],D⟩ K:=by
 intro E a hs;obtain⟨b,h1,h2,h3⟩:=hs.cU.box l.length cs (by simp);have ba:=MX h2;have kf:∀x,x≠b->(E.oJ l.length b).aZ x=E.aZ x:=λx hx=>by simp[Env.oJ,hx]
 have De:D.box b=none:=by
  cases hq:D.box b with
  | none=>rfl
  | some ds=>have:=(hs.ok.box b ds hq).1;rw[h2] at this;simp at this
 have az:b<E.w.heap.size:=by obtain⟨c,e,k,_⟩:=h3;exact ko (w:=E.w) k
 refine⟨E.oJ l.length b,⟨t.map (iV l.length b),l.map (List.map (iV l.length b)),D.set b cs⟩,rfl,ba,⟨⟨λb' ds hd=>?_,hs.ok.aJ,λb' b8 => ?_,hs.ok.nt,λb cs hc=>dQ.mono _ ba.nl (hs.ok.bO b cs hc)⟩,⟨λi ds hd=>?_,λi hi=>?_⟩,hs.defers,Va h1 h2 hs.slot⟩,hk b De⟩
 .by_cases e:b' = b
  .subst e;have hd:(D.set b' cs).box b' = U ds:=hd;rw[gP] at hd;cases hd;refine⟨by simp[Env.oJ],?_⟩;obtain⟨c,e,k1,k2,k3⟩:=h3;refine⟨c,e,k1,k2,λj x hx=>?_⟩;obtain⟨v,q1,q2⟩:=k3 j x hx;refine⟨v,q1,R.n9 (E:=E) x (by rw[Env.alP];exact ba.nl) ?_ q2⟩
   have:∀{l:List V} {j:Nat} {x:V},bH l=aa->l[j]?=U x->x.cG=true:=by
    intro l;induction l with
    | nil=>intro j x _ h;simp at h
    | cons y ys ih =>
     intro j x hl h;simp only[bH,bA] at hl;cases j with
     | zero=>simp at h;rw[<-h];exact hl.1
     | succ j=>exact ih hl.2 (by simpa using h)
   exact this hn hx
  .have hd:(D.set b cs).box b' = U ds:=hd;rw[mE e] at hd;obtain⟨k1,k2⟩:=hs.ok.box b' ds hd;exact⟨by rw[kf _ e];exact k1,k2.mono ba.nl rfl⟩
 .have b8 : E.w.heap.size<=b' := b8;rw[kf b' (by omega)];exact hs.ok.fresh b' b8
 .have hd:(l.map (List.map (iV l.length b)))[i]?=U ds:=hd;simp only[vu,cZ] at hd;obtain⟨Qy,Gs,rfl⟩:=hd;have hi:i<l.length:=(eX.1 Gs).1;obtain⟨bi,k1,k2,c,e,k3,k4,k5⟩:=hs.cU.box i Qy (by rw[sv hi];exact Gs);have aQ:bi≠b:=λe=>by rw[e,h2] at k2;simp at k2;omega
  refine⟨bi,by simp[Env.oJ,hi,k1],by rw[kf _ aQ];exact k2,c,e,k3,by simpa using k4,λj x hx=>?_⟩;simp only[vu,cZ] at hx;obtain⟨x0,DG,rfl⟩:=hx;obtain⟨v,q1,q2⟩:=k5 j x0 DG;exact⟨v,q1,U' h1 h2 q2⟩
 .have hi:l.length<=i:=by simpa using hi
  simp only[Env.oJ];rw[aB (by omega)]
section
variable {n b i o:Nat} {k:IntKind} {z:Int} {q:Bool} {s:List UInt8} {Z:Tk} {m:List (List V)} {c:List V}
def aod:iV n b .any = .any:=by simp[iV]
def aog:iV n b (.int k z) = .int k z:=by simp[iV,V.lo]
def aoe:iV n b (.bool q) = .bool q:=by simp[iV,V.lo]
def aok:iV n b (.aF s) = .aF s:=by simp[iV,V.lo]
def aoj:iV n b (.sl Z i m) = .sl Z i m:=by simp[iV,V.lo]
def aoi:iV n b (.ptr (.out i) o) = .ptr (.out i) o:=by simp[iV,V.lo]
def aof:iV n b (.elt c o) = .elt c o:=by simp[iV,V.lo]
theorem aoh:iV n b (.ptr (.aC i) o)=if i=n then .ptr (.out b) o else if i<n then .ptr (.aC i) o else .any:=rfl
theorem aoc:iV n b (.agg c)=if bQ n c=aa then .agg c else .any:=rfl
def Vb:∀{l:List V},bQ n l=aa->bH l=aa->l.map (iV n b)=l
 | [],_,_=>rfl
 | x :: l, h1, h2 => by
  simp only[bQ,bH,bA] at h1 h2;rw[bX,Vb h1.2 h2.2];congr 1;unfold iV;split
  .simp[V.cG] at h2
  .rw[aD h1.1]
def X9:=af @aod <| af @aog <| af @aoe <| af @aok <| af @aoj <| af @aoi <| af @aof <| af @aoh @aoc
end
variable{H:V->ag->Prop}
def jF.mk1(hv:x_ k [v]=U [c])(hl:c.length=k)(hn:bH c=aa)
 (hk:∀v' σ',jF σ' k v' [c]->CA D σ' v' -> H v' σ'):OQ.a7 D H (.new k) [v]:=by
 refine⟨[c],hv,by simpa using hn,λb hb=>hk _ _ ⟨_,1,rfl,bL _,by simpa using hl,.inr ⟨b,c,rfl,by simp[gP],by simpa using hl,by simp[yS,hl]⟩⟩ ⟨?_,?_⟩⟩
 .simpa using h_ (cs:=c) hb
 .intro b' b8;simp only[sb,aY] at b8;subst b8;exact hb
variable{ys:List V}
def apW{xs:List V}{n:Nat}(h:n+c.length<=ys.length):setAt (xs++ys) (xs.length+n) c=xs++setAt ys n c:=by
 induction xs with
 | nil=>simp
 | cons x xs ih=>rw[gE,db,show xs.length+1+n=(xs.length+n)+1 by omega,jl,ih];rfl
def Ux{xs:List V}(h:c.length<=xs.length):over (xs++ys) c=over xs c++ys:=by
 induction xs generalizing c with
 | nil=>have:c=[]:=su (by simpa using h);subst this;simp[l8]
 | cons x xs ih =>
  cases c with
  | nil=>rw[l8,l8]
  | cons d c=>rw[gE,oD,oD,ih (by simpa using h)];rfl
def apX{xs:List V}{n:Nat}(h:n+c.length<=xs.length):setAt (xs++ys) n c=setAt xs n c++ys:=by
 induction xs generalizing n with
 | nil =>
  have h' : n+c.length<=0:=h;obtain rfl:c=[]:=su (by omega);obtain rfl:n=0:=by omega
  rw[lM,lM,l8,l8]
 | cons x xs ih =>
  cases n with
  | zero=>rw[lM,lM,Ux (by simpa using h)]
  | succ n=>rw[gE,jl,jl,ih (by simp at h;omega)];rfl
def Wk{xs:List V}{n:Nat}(h:n+c.length<=xs.length):(setAt xs n c).length=xs.length:=by
 induction xs generalizing n with
 | nil=>cases n<;>rfl
 | cons x xs ih =>
  cases n with
  | zero =>
   rw[lM];clear ih
   have:∀{xs c:List V},c.length<=xs.length->(over xs c).length=xs.length:=by
    intro xs;induction xs with
    | nil=>intro c h;cases c with | nil=>rfl | cons d c=>simp at h
    | cons x xs ih=>intro c h;cases c with | nil=>rw[l8] | cons d c=>rw[oD,db,db,ih (by simpa using h)]
   exact this (by simpa using h)
  | succ n=>rw[jl,db,db,ih (by simp at h;omega)]
variable{j off:Nat}
def jF.put{rows:List (List V)}{x:List V}(h:jF D k v rows)(hj:rows[j]?=U c)(hb:sb v=U b)(hc:D.box b=U cs)(ho:off+x.length<=k):
 jF (D.set b (setAt cs (j*k+off) x)) k v (rows.set j (setAt c off x))/\IW D v (D.set b (setAt cs (j*k+off) x)) v:=by
 obtain⟨a,cap,rfl,h1,h2,h3⟩:=h;have az:=(eX.1 hj).1;have gH:c.length=k:=h2 c (rz hj)
 rcases h3 with h3 | ⟨b',cs',rfl,h4,h5,h6⟩
 .omega
 .simp only[sb,aY] at hb;subst hb;rw[h4] at hc;cases hc;have kI:=mm h2;have e1:cs=rows.flatten++cs.drop (rows.length*k):=by rw[<-h6];simp
  have e2:rows=rows.take j++c::rows.drop (j+1):=by
   rw[<-(eX.1 hj).2,<-mi az,qy]
  have Gx:(rows.take j).flatten.length=j*k:=by
   have:=mm (l:=rows.take j) (k:=k) λr hr=>h2 r (AU hr)
   rw[this,iP,w8 (by omega)]
  have e3:rows.flatten=(rows.take j).flatten++(c++(rows.drop (j+1)).flatten):=by
   conv=>lhs;rw[e2]
   rw[tS,kz]
  have e4:setAt cs (j*k+off) x=(rows.set j (setAt c off x)).flatten++cs.drop (rows.length*k):=by
   have hs:rows.set j (setAt c off x)=rows.take j++setAt c off x::rows.drop (j+1):=by
    rw[List.set_eq_take_append_cons_drop,aD az]
   conv=>lhs;rw[e1,e3]
   rw[dZ,<-Gx,apW (by simp[gH];omega),dZ,apX (by omega),hs,tS,kz];simp only[dZ]
  have fy:∀r∈rows.set j (setAt c off x),r.length=k:=λr hr=>by
   rcases List.mem_or_eq_of_mem_set hr with hr | rfl
   .exact h2 r hr
   .rw[Wk (by omega),gH]
  have aid:=mm fy;refine⟨⟨_,cap,by rw[List.length_set],by rw[List.length_set];exact h1,fy,.inr ⟨b',_,rfl,gP,?_,?_⟩⟩,λc' ds hd aQ=>?_,rfl,λ_ h=>.inl h,rfl⟩
  .have:(setAt cs (j*k+off) x).length=cs.length:=Wk (by
    rw[h5]
    have:(j+1)*k<=cap*k:=rB _ (by omega)
    rw[iQ] at this;omega)
   rw[this,h5]
  .rw[e4,<-aid,List.take_left]
  .have:c' ≠ b' := λe=>aQ (by rw[e];rfl)
   rw[mE this];exact hd
def bK(r:Rl):Nat:=min r.n.toNat 64
def hZ(r:Rl)(i:Nat):bz:=r.get i&&&pk (bK r:Nat)
def d_(r:Rl)(i j:Nat):Bool:=decide (i<bK r)&&(hZ r i).getLsbD j
def l_(r:Rl):Rl:=Rl.of (bK r:Nat) λi=>if i<bK r then hZ r i else 0#64
section
variable {r s:Rl} {i j k:Nat}
def m_:bK r<=64:=Nat.min_le_right _ _
def Nm:(hZ r i).getLsbD j=((r.get i).getLsbD j&&decide (j<bK r)):=by
 rw[hZ,AM,PL]
 by_cases h:j<64
 .simp only[h,bS,pW];congr 1;apply rE.2;omega
 .rw[Cl _ _ (by omega)];simp
def GO:d_ r i j=(decide (i<bK r)&&(decide (j<bK r)&&(r.get i).getLsbD j)):=by rw[d_,Nm,Bool.and_comm (BitVec.getLsbD _ _)]
def xS(h:d_ r i j=aa):i<bK r/\j<bK r:=by
 rw[GO] at h;simp only[bA,b7] at h;exact⟨h.1,h.2.1⟩
def amV{n:Nat}{f:Nat->bz}(h:n<=64):bK (Rl.of (n:Nat) f)=n:=by simp only[bK,Rl.of];omega
def HL:bK (l_ r)=bK r:=amV m_
def Ed(h:i<64):(l_ r).get i=if i<bK r then hZ r i else 0#64:=Rl.nP h
def an1(h:i<bK r):(l_ r).get i=hZ r i:=by rw[Ed (tW h m_),aD h]
def UY:d_ (l_ r) i j=d_ r i j:=by
 by_cases h:i<bK r
 .rw[GO,HL,an1 h,Nm,GO];cases decide (i<bK r)<;>cases decide (j<bK r)<;>simp
 .rw[d_,d_,HL];simp[h]
def UZ:l_ r=l_ s↔bK r=bK s/\∀i j,d_ r i j=d_ s i j:=by
 constructor
 .intro h;exact⟨by rw[<-HL (r:=r),h,HL],λi j=>by rw[<-UY (r:=r),h,UY]⟩
 .rintro⟨h1,h2⟩;refine Rl.ext (by simp only[l_,Rl.of,h1]) λi hi=>?_
  rw[Ed hi,Ed hi,h1];split
  .rename_i h;apply Bd;intro j _
   have:=h2 i j
   rwa [d_,d_,h1,aP h,pW,pW] at this
  .rfl
def QC(h:bK r=0):l_ r=Rl.of 0 λ_=>0#64:=by
 refine Rl.ext (by simp[l_,Rl.of,h]) λi hi=>?_
 rw[Ed hi,h,aB (by omega),Rl.nP hi]
inductive lR(r:Rl)(i:Nat):Nat->Prop
 | refl (h:i<bK r):lR r i i
 | tail {j k:Nat} (h:lR r i j) (hs:d_ r j k=aa):lR r i k
def lR.lt(h:lR r i j):i<bK r/\j<bK r:=by
 induction h with
 | refl h=>exact⟨h,h⟩
 | tail _ hs ih=>exact⟨ih.1,(xS hs).2⟩
def lR.trans(h:lR r i j)(h' : lR r j k):lR r i k:=by
 induction h' with
 | refl _=>exact h
 | tail _ hs ih=>exact ih.tail hs
def lR.one(h:d_ r i j=aa):lR r i j:=(lR.refl (xS h).1).tail h
def uj(r:Rl):Rl:=Rl.of (bK r:Nat) λi=>if i<bK r then j6 (hZ r i) (i:Nat) else 0#64
def wH(k:Nat)(o:Rl)(i:Nat):Rl:=if hasB (o.get i) (k:Nat) then o.put i (o.get i|||o.get k) else o
def kQ(n k:Nat)(o:Rl):Rl:=(cc n).foldl (wH k) o
def rD(r:Rl):Rl:=(cc (bK r)).foldl (λo k=>kQ (bK r) k o) (uj r)
variable{w:bz}
def ahW:hasB w (k:Nat)=w.getLsbD k:=by simp[hasB]
variable{O:Type}
def xw{f:O->Nat->O}{a:O}{n:Nat}:(cc (n+1)).foldl f a=f ((cc n).foldl f a) n:=by rw[tV,AS];rfl
theorem aon:(r.put i w).n=r.n:=rfl
def aiX{n:Nat}{o:Rl}:(kQ n k o).n=o.n:=by
 unfold kQ;induction n with
 | zero=>rfl
 | succ n ih=>rw[xw,wH];split<;>simp[aon,ih]
def S3{o:Rl}{n:Nat}(h:n<=64):(kQ n k o).get i=if i<n/\(o.get i).getLsbD k=aa then o.get i|||o.get k else o.get i:=by
 induction n generalizing i with
 | zero=>simp[kQ]
 | succ n Ln =>
  have ih:=λi=>@Ln i (by omega)
  have hk:(kQ n k o).get k=o.get k:=by rw[ih k];split<;>simp
  have e:kQ (n+1) k o=wH k (kQ n k o) n:=xw;rw[e,wH,ahW]
  by_cases hi:i=n
  .subst hi;have Sm:(kQ i k o).get i=o.get i:=by rw[ih i,aB (by omega)]
   rw[Sm,hk];split
   .rename_i hb;rw[Rl.Bj,aD ⟨rfl,by omega⟩,aD ⟨by omega,hb⟩]
   .rename_i hb;rw[Sm,aB (λhc=>hb hc.2)]
  .have aQ:(if ((kQ n k o).get n).getLsbD k=aa then(kQ n k o).put n ((kQ n k o).get n|||(kQ n k o).get k) else kQ n k o).get i=(kQ n k o).get i:=by
    split
    .rw[Rl.Bj,aB (by omega)]
    .rfl
   rw[aQ,ih i]
   by_cases az:i<n
   .simp[az,show i<n+1 by omega]
   .simp[az,show ¬i<n+1 by omega]
def kr(r:Rl)(m:Nat):Rl:=(cc m).foldl (λo k=>kQ (bK r) k o) (uj r)
def HC{m:Nat}:kr r (m+1)=kQ (bK r) m (kr r m):=xw
def MJ{m:Nat}:(kr r m).n=(bK r:Nat):=by
 induction m with
 | zero=>rfl
 | succ m ih=>rw[HC,aiX,ih]
def Ea{m:Nat}(hi:i<bK r):((kr r (m+1)).get i).getLsbD j=(((kr r m).get i).getLsbD j||(((kr r m).get i).getLsbD m&&((kr r m).get m).getLsbD j)):=by
 rw[HC,S3 m_];cases hq:((kr r m).get i).getLsbD m with
 | false=>simp
 | true=>simp[hi]
def P0(hi:i<bK r):((uj r).get i).getLsbD j=(d_ r i j||decide (j=i)):=by
 have c_ : i<64:=tW hi m_;rw[uj,Rl.nP c_,aD hi,Im,d_,aP hi,pW];congr 1
 by_cases h:j=i
 .subst h;simp[c_]
 .simp[h];omega
def ank{m:Nat}(h:bK r<=i)(hi:i<64):(kr r m).get i=0#64:=by
 induction m with
 | zero=>rw[kr];simp only[List.range_zero,List.foldl_nil,uj];rw[Rl.nP hi,aB (by omega)]
 | succ m ih=>rw[HC,S3 m_,aB (by omega),ih]
def anl{m:Nat}(hm:m<=bK r)(hi:i<bK r):∀{j:Nat},((kr r m).get i).getLsbD j=aa->lR r i j:=by
 induction m generalizing i with
 | zero =>
  intro j h;have h:((uj r).get i).getLsbD j=true:=h;rw[P0 hi,mg,b7] at h
  rcases h with h | rfl
  .exact lR.one h
  .exact lR.refl hi
 | succ m ih =>
  intro j h;rw[Ea hi,mg,bA] at h
  rcases h with h | ⟨h1,h2⟩
  .exact ih (by omega) hi h
  .exact(ih (by omega) hi h1).trans (ih (by omega) (by omega) h2)
def MI{m:Nat}(hi:i<bK r)(h:d_ r i j=aa\/j=i):((kr r m).get i).getLsbD j=true:=by
 induction m with
 | zero=>show((uj r).get i).getLsbD j=aa;rw[P0 hi];simpa using h
 | succ m ih=>rw[Ea hi,ih];rfl
def anm{m:Nat}(hm:m<=bK r):∀{i k j:Nat},i<bK r->k<m->((kr r m).get i).getLsbD k=aa->((kr r m).get k).getLsbD j=aa->((kr r m).get i).getLsbD j=true:=by
 induction m with
 | zero=>intro i k j _ h;omega
 | succ m ih =>
  intro i k j hi hk h1 h2;have ih:=@ih (by omega);have GI:((kr r m).get m).getLsbD m=true:=MI (by omega) (.inr rfl);rw[Ea hi] at h1;rw[Ea (by omega)] at h2;rw[Ea hi];simp only[mg,bA] at h1 h2 ⊢
  by_cases hkm:k=m
  .subst hkm;have a:((kr r k).get i).getLsbD k=true:=h1.elim id (·.1);have b:((kr r k).get k).getLsbD j=true:=h2.elim id (·.2);exact .inr ⟨a,b⟩
  .have jR : k<m:=by omega
   rcases h1 with h1 | ⟨h1,vR⟩
   .rcases h2 with h2 | ⟨h2,vS⟩
    .exact .inl (ih hi jR h1 h2)
    .exact .inr ⟨ih hi jR h1 h2,vS⟩
   .rcases h2 with h2 | ⟨_,vS⟩
    .exact .inr ⟨h1,ih (by omega) jR vR h2⟩
    .exact .inr ⟨h1,vS⟩
def Jj(hi:i<bK r):((rD r).get i).getLsbD j=aa↔lR r i j:=by
 show((kr r (bK r)).get i).getLsbD j=aa↔_;constructor
 .exact anl (bL _) hi
 .intro h;induction h with
  | refl h=>exact MI h (.inr rfl)
  | tail h hs ih=>exact anm (bL _) hi h.lt.2 ih (MI h.lt.2 (.inl hs))
def CN:bK (rD r)=bK r:=by
 have:(rD r).n=(bK r:Nat):=MJ
 rw[bK,this];have:=@m_ r;omega
def Jk:d_ (rD r) i j=aa↔lR r i j:=by
 rw[GO,CN];constructor
 .intro h;simp only[bA,b7] at h;exact(Jj h.1).1 h.2.2
 .intro h
  have:=h.lt
  rw[aP this.1,aP this.2,(Jj this.1).2 h];rfl
def aaB:l_ (rD r)=rD r:=by
 refine Rl.ext ?_ λi hi=>?_
 .show((bK (rD r):Nat):Int)=_;rw[CN];exact MJ.symm
 .rw[Ed hi,CN];split
  .rename_i az;apply Bd;intro j _;rw[Nm,CN];cases hq:((rD r).get i).getLsbD j with
   | false=>rfl
   | true=>rw[aP ((Jj az).1 hq).lt.2];rfl
  .exact(ank (by omega) hi).symm
def uk(r:Rl):Bool:=decide (l_ r=rD r)
def aaD:uk r=aa↔(∀i,i<bK r->d_ r i i=aa)/\∀i j k,d_ r i j=aa->d_ r j k=aa->d_ r i k=true:=by
 rw[uk,decide_eq_true_iff,<-aaB,UZ];constructor
 .rintro⟨_,h⟩;refine⟨λi hi=>?_,λi j k h1 h2=>?_⟩
  .rw[h,Jk];exact lR.refl hi
  .rw[h,Jk] at h1 h2 ⊢;exact h1.trans h2
 .rintro⟨h1,h2⟩;refine⟨CN.symm,λi j=>?_⟩;rw[EM,Jk];refine⟨lR.one,λh=>?_⟩;induction h with
  | refl h=>exact h1 _ h
  | tail _ hs ih=>exact h2 _ _ _ ih hs
def vk(r:Rl)(w:bz):bz:=(fI (w&&&pk (bK r:Nat))).foldl (λo i=>o|||hZ r i) 0#64
def Rj{f:Nat->bz}:∀{l:List Nat} {o:bz},(l.foldl (λo i=>o|||f i) o).getLsbD j=(o.getLsbD j||l.any λi=>(f i).getLsbD j)
 | [],o=>by simp
 | a::l,o=>by rw[yO,Rj,BitVec.getLsbD_or,List.any_cons,Bool.or_assoc]
def W1:(vk r w).getLsbD j=aa↔∃i,w.getLsbD i=aa/\d_ r i j=true:=by
 rw[vk,Rj];simp only[BitVec.getLsbD_zero,EN,Cp,T0,AM,bA,PL,b7];constructor
 .rintro⟨i,⟨h1,_,h2⟩,h3⟩;exact⟨i,h1,by rw[d_,h3,aP (by omega)];rfl⟩
 .rintro⟨i,h1,h2⟩
  have:=(xS h2).1;have:=@m_ r
  rw[d_,bA] at h2;exact⟨i,⟨h1,by omega,by omega⟩,h2.2⟩
def xn(r:Rl)(w:bz):bz:=(cc (bK r)).foldl (λo i=>if hZ r i&&&w=0#64 then o else j6 o (i:Nat)) 0#64
def alG:w≠0#64↔∃j,w.getLsbD j=true:=by
 constructor
 .intro h;exact⟨_,(D1 h).2.1⟩
 .rintro⟨j,h⟩ rfl;simp at h
def abY{n:Nat}(h:n<=64):((cc n).foldl (λo i=>if hZ r i&&&w=0#64 then o else j6 o (i:Nat)) 0#64).getLsbD i=aa↔i<n/\hZ r i&&&w≠0#64:=by
 induction n with
 | zero=>simp
 | succ n Ln =>
  have ih:=Ln (by omega);rw[xw]
  by_cases hi:i=n
  .subst hi;split
   .rename_i h0;rw[ih];constructor
    .intro hc;omega
    .intro hc;exact absurd h0 hc.2
   .rename_i h0;rw[Im,aP (show i<64 by omega)];simp[h0]
  .split
   .rw[ih];constructor<;>rintro⟨a,b⟩<;>exact⟨by omega,b⟩
   .rw[Im,aK (p:=(i:Int)=(n:Nat)) (by omega),Bool.and_false,Bool.or_false,ih];constructor<;>rintro⟨a,b⟩<;>exact⟨by omega,b⟩
def abZ:(xn r w).getLsbD i=aa↔∃j,w.getLsbD j=aa/\d_ r i j=true:=by
 rw[xn,abY m_,alG];simp only[AM,bA,d_,b7];constructor
 .rintro⟨a,j,b,c⟩;exact⟨j,c,a,b⟩
 .rintro⟨j,c,a,b⟩;exact⟨a,j,b,c⟩
def Hy{i j:Nat}(h:i<64):(n_ [(i:Int)]).getLsbD j=decide (j=i):=by
 rw[Uq]
 by_cases e:j=i
 .subst e;simp[h]
 .simp[e];omega
def yi(r:Rl)(i:Nat):bz:=vk r (n_ [(i:Int)])&&&xn r (n_ [(i:Int)])
def yW(r:Rl):Bool:=(cc (bK r)).all λi=>(cc i).all λj=>!(d_ r i j&&d_ r j i)
def BV(r:Rl):Bool:=uk r&&yW r
def Yb:yW r=aa↔∀i j,d_ r i j=aa->d_ r j i=aa->i=j:=by
 simp only[yW,lf,AV,tP,Cm];constructor
 .intro h i j h1 h2
  have:=xS h1
  rcases Cw i j with hc | hc | hc
  .rcases h j this.2 i hc with e | e
   .rw[e] at h2;simp at h2
   .rw[e] at h1;simp at h1
  .exact hc
  .rcases h i this.1 j hc with e | e
   .rw[e] at h1;simp at h1
   .rw[e] at h2;simp at h2
 .intro h i hi j hj;cases h1:d_ r i j with
  | false=>exact .inl rfl
  | true =>
   cases h2:d_ r j i with
   | false=>exact .inr rfl
   | true=>have:=h i j h1 h2;omega
def T8(hi:i<64):(yi r i).getLsbD j=(d_ r i j&&d_ r j i):=by
 rw[yi,AM,EM,bA,bA,W1,abZ];simp only[Hy hi,b7];constructor
 .rintro⟨⟨a,rfl,h1⟩,⟨b,rfl,h2⟩⟩;exact⟨h1,h2⟩
 .rintro⟨h1,h2⟩;exact⟨⟨_,rfl,h1⟩,⟨_,rfl,h2⟩⟩
def T9(hc:uk r=aa)(hi:i<bK r):yi r i=n_ [(i:Int)]↔∀j,d_ r i j=aa->d_ r j i=aa->j=i:=by
 have c_ : i<64:=tW hi m_;have hr:=(aaD.1 hc).1 i hi;constructor
 .intro h j h1 h2
  have:=gX (λw:bz=>w.getLsbD j) h
  simp only[T8 c_,h1,h2,Hy c_,Iv] at this;simpa using this.symm
 .intro h;apply Bd;intro j _;rw[T8 c_,Hy c_]
  by_cases e:j=i
  .subst e;simp[hr]
  .rw[aK e];cases h1:d_ r i j with
   | false=>rfl
   | true =>
    cases h2:d_ r j i with
    | false=>rfl
    | true=>exact absurd (h j h1 h2) e
def Po(hc:uk r=aa):yW r=aa↔∀i,i<bK r->yi r i=n_ [(i:Int)]:=by
 rw[Yb];constructor
 .intro h i hi;exact(T9 hc hi).2 λj h1 h2=>(h i j h1 h2).symm
 .intro h i j h1 h2;exact((T9 hc (xS h1).1).1 (h i (xS h1).1) j h1 h2).symm
end
section
variable {r:Rl} {w a b:bz} {i j k n o p x y:Nat}
def find_congr{O:Type}{p q:O->Bool}:∀{l:List O},(∀x∈l,p x=q x)->l.find? p=l.find? q
 | [],_=>rfl
 | a :: l, h => by
  have h1:=h a (by simp);have h2:=find_congr (l:=l) λx hx=>h x (by simp[hx])
  simp only[List.find?_cons,h1,h2]
def vE(r:Rl)(i:Nat):bz:=vk r (n_ [(i:Int)])
def vH(r:Rl)(i:Nat):bz:=if i<bK r then xn r (n_ [(i:Int)]) else 0#64
def X1:(vE r i).getLsbD j=d_ r i j:=by
 rw[EM,vE,W1];constructor
 .rintro⟨k,h1,h2⟩;rw[Uq] at h1;simp only[o_,bA,b7] at h1;obtain rfl:k=i:=by omega
  exact h2
 .intro h
  have:=(xS h).1;have:=@m_ r
  exact⟨i,by rw[Hy (by omega)];simp,h⟩
def Ht(f:Nat->bz)(i j:Nat):Option Nat:=(fI (f i&&&f j)).find? λu=>Av (f i&&&f j) (f u)
def wm(r:Rl)(i j:Nat):Option Nat:=Ht (vE r) i j
def yg(r:Rl)(i j:Nat):Option Nat:=Ht (vH r) i j
def ra(r:Rl):Bool:=decide (1<=r.n)&&decide (r.n<=64)&&BV r&&(cc r.n.toNat).all λi=>(cc i).all λj=>(wm r i j).isSome&&(yg r i j).isSome
def U2(r:Rl)(w:bz):Option Nat:=(cc (bK r)).find? λi=>decide (vH r i=w)
def aoR(r:Rl)(a b:bz):bz :=
 match U2 r a,U2 r b with
 | some i,U j=>(match wm r i j with | some k=>vH r k | none=>a|||b)
 | _,_=>a|||b
def qN(r:Rl):Bool:=decide (1<=r.n)&&decide (r.n<=8)&&uk r
def RJ(h:qN r=aa):∃n:Nat,r.n=n/\bK r=n/\1<=n/\n<=8:=by
 simp only[qN,bA,b7] at h;exact⟨r.n.toNat,by omega,by rw[bK];omega,by omega,by omega⟩
def HB(r:Rl)(w:bz)(o:Nat):bz:=(w>>>(8*o))&&&pk r.n
def B1(n:Nat)(f:Nat->bz):bz:=(cc n).foldl (λw o=>w|||(f o<<<(8*o))) 0#64
def FF(r:Rl)(w:bz)(o:Nat):bz:=(fI (vE r o)).foldl (λs p=>s|||xn r (HB r w p)) 0#64
def FG(r:Rl)(w:bz):bz:=if qN r then B1 r.n.toNat (FF r w) else 0#64
def wq(r:Rl)(d:bz):bz:=pk r.n&&&~~~vk r d
def B2(r:Rl)(o:Nat)(d:bz):bz:=if qN r&&decide ((o:Int)<r.n) then FG r (B1 r.n.toNat λk=>if k=o then wq r d else 0#64) else 0#64
def Ap(n k:Int):bz × Bool:=if 1<=n/\n<=64/\0<=k/\k<n then(pk k,aa) else(0#64,ak)
end
def ab.leaf(kind:Int)(r:ab):Nd × ab:=(.mk kind r.word.1.pos r.word.1.al [] [],r.word.2)
def ab.ng(r:ab):Nd × ab :=
 (.mk 6 r.word.1.pos r.word.1.al ((r.word.2.take 58).2.words aa).1.1 [],((r.word.2.take 58).2.words aa).2)
def ab.constant:Nat->ab->Nd × ab
 | 0,r=>r.leaf 2
 | n + 1, r =>
  if r.bR 123=aa then(.mk 3 (r.words aa).1.2 [] (r.words aa).1.1 [],(r.words aa).2)
  else if r.bR 40=aa then(.mk 4 (r.nodes (ab.constant n) 40 ak).1.2 [] [] (r.nodes (ab.constant n) 40 ak).1.1,(r.nodes (ab.constant n) 40 ak).2)
  else if r.bR 91=aa then(.mk 5 (r.nodes ab.ng 91 aa).1.2 [] [] (r.nodes ab.ng 91 aa).1.1,(r.nodes ab.ng 91 aa).2)
  else r.leaf 2
def ab.atom(n:Nat)(r:ab):Nd × ab :=
 if r.bR 35=aa then(.mk 7 (r.take 35).1.tok.pos [] [] [(ab.constant n (r.take 35).2).1],(ab.constant n (r.take 35).2).2) else r.leaf 1
def ab.label:Nat->ab->Nd × ab
 | 0,r=>r.leaf 1
 | n + 1, r =>
  if r.bR 43=aa then(.mk 8 (r.take 43).1.tok.pos [] [] ((r.take 43).2.nodes (ab.label n) 40 ak).1.1,((r.take 43).2.nodes (ab.label n) 40 ak).2)
  else if r.bR 38=aa then(.mk 9 (r.take 38).1.tok.pos [] [] ((r.take 38).2.nodes (ab.label n) 40 ak).1.1,((r.take 38).2.nodes (ab.label n) 40 ak).2)
  else r.atom (n+1)
def ab.field(n:Nat)(r:ab):Nd × ab :=
 (.mk 11 r.word.1.pos r.word.1.al [] [((r.word.2.take 61).2.atom n).1],((r.word.2.take 61).2.atom n).2)
def lb(r r' : ab):Prop:=r'.l=r.l/\(0<=r.at_->r.at_<=r.l.length->r.at_<=r'.at_/\r'.at_<=r.l.length/\(r'.aE=ae->r.at_+1<=r'.at_))
def lb.trans{a b c:ab}(h:lb a b)(k:lb b c):lb a c:=by
 refine⟨k.1.trans h.1,λh1 h2=>?_⟩;obtain⟨p1,p2,p3⟩:=h.2 h1 h2;obtain⟨q1,q2,q3⟩:=k.2 (by omega) (by rw[h.1];exact p2);rw[h.1] at q2;exact⟨by omega,q2,λhq=>by have:=q3 hq;omega⟩
def sJ(r:ab)(k:Int):lb r (r.take k).2:=by
 refine⟨r.ft k,λh1 h2=>?_⟩
 rcases r.tJ k with ⟨_,e,_,h3,h4⟩ | ⟨_,e,hb⟩
 .rw[e];exact⟨by omega,by omega,λ_=>by omega⟩
 .rw[e];exact⟨by omega,h2,λhq=>absurd hq hb⟩
def xy(r:ab):lb r r.word.2:=sJ r 97
def C5(r:ab)(k:Int):lb r (r.leaf k).2:=xy r
variable{G:Type}
def RD(step:ab × List G->ab × List G)(k:Int)(e:Bool)(r:ab):lb r (r.bracket step k e).2:=by
 have h:=sJ r k;unfold ab.bracket;split
 .rename_i b9;have hb:(r.take k).2.aE=none:=by simpa [ab.ok] using b9
  exact⟨h.1,λh1 h2=>by
   obtain⟨p1,p2,p3⟩:=h.2 h1 h2;exact⟨p1,p2,λ_=>p3 hb⟩⟩
 .exact h
def JZ(r:ab)(e:Bool):lb r (r.words e).2:=RD _ _ _ _
def Gc(r:ab)(one:ab->Nd × ab)(k:Int)(e:Bool):lb r (r.nodes one k e).2:=RD _ _ _ _
def B0{one:ab->Nd × ab}(h:∀r,lb r (one r).2):Reads one:=⟨λr=>(h r).1,λr=>(h r).2⟩
def ahD(r:ab):lb r r.ng.2:=((xy r).trans (sJ _ _)).trans (JZ _ _)
def RE:∀(n:Nat) (r:ab),lb r (ab.constant n r).2
 | 0,r=>C5 r 2
 | n + 1, r => by
  simp only[ab.constant];split
  .exact JZ r aa
  .split
   .exact Gc r _ 40 ak
   .split
    .exact Gc r _ 91 aa
    .exact C5 r 2
def RC(n:Nat)(r:ab):lb r (r.atom n).2:=by
 simp only[ab.atom];split
 .exact(sJ r 35).trans (RE n _)
 .exact C5 r 1
def JY:∀(n:Nat) (r:ab),lb r (ab.label n r).2
 | 0,r=>C5 r 1
 | n + 1, r => by
  simp only[ab.label];split
  .exact(sJ r 43).trans (Gc _ _ 40 ak)
  .split
   .exact(sJ r 38).trans (Gc _ _ 40 ak)
   .exact RC (n+1) r
def RF(n:Nat)(r:ab):lb r (r.field n).2:=((xy r).trans (sJ _ _)).trans (RC n _)
def ab.mD(n:Nat)(i:ab):(ab × List Nd) × List au :=
 let a:=if i.bR 124=aa then(i,[]) else dJ (b_ (ab.field n)) i
 if a.1.bR 124=aa then(((a.1.take 124).2.word.2,a.2),[(a.1.take 124).2.word.1]) else(a,[])
def ab.rowOf(n:Nat)(t:ar):(ab × List Nd) × List au:=if t.ah.length=0 then((t.inner,[]),[]) else t.inner.mD n
def ab.row(n:Nat)(r:ab):Nd × ab :=
 if r.bR 91=aa then(.mk 10 (r.take 91).1.tok.pos [] (ab.rowOf n (r.take 91).1).2 (ab.rowOf n (r.take 91).1).1.2,(r.take 91).2.under (ab.rowOf n (r.take 91).1).1.1) else r.leaf 1
def Nd.zero:Nd:=.mk 0 0 [] [] []
def fi(one:ab->Nd × ab)(l:List ar)(at_ fin:Int):Nd × Int × Option Int :=
 match (one ⟨l,at_,fin,ae⟩).2.aE with
 | some b=>(.zero,0,U b)
 | none=>((one ⟨l,at_,fin,ae⟩).1,(one ⟨l,at_,fin,ae⟩).2.at_,ae)
def iZ(l:List ar)(at_ fin:Int):List au × Option Int :=
 match ((⟨l,at_,fin,ae⟩:ab).words ak).2.aE with
 | some b=>([],U b)
 | none=>(((⟨l,at_,fin,ae⟩:ab).words ak).1.1,ae)
structure ca where
 node:Nd
 next:Int
 aE:Bool
 pos:Int
def ca.enc(g:ca):List V:=[.int .i64 g.node.kind,.int .i64 g.node.pos,.aF g.node.al,.sl .no 2 (g.node.aj.map au.enc),.sl .no 5 (g.node.ah.map Nd.enc),.int .i64 g.next,.bool g.aE,.int .i64 g.pos]
def np(l:List ar)(at_ fin:Int):Int:=if 0<=at_ then(match l[at_.toNat]? with | some t=>t.tok.pos | none=>fin) else fin
def dL(l:List ar)(at_ fin:Int):ca:=⟨.zero,0,aa,np l at_ fin⟩
def fB(l:List ar)(at_:Int):Tok:=match l[at_.toNat]? with | some t=>t.tok | none=>⟨0,[],0⟩
def nameAt(l:List ar)(at_ fin:Int):ca :=
 if bx l at_ 97=aa then ⟨.mk 0 (fB l at_).pos (fB l at_).al [] [],at_+1,ak,0⟩ else dL l at_ fin
def fV(one:Int->ca)(l:List ar):Nat->Int->List Nd->List Nd × ca
 | 0,_,_=>([],⟨.zero,0,aa,0⟩)
 | n + 1, at_, out =>
  if (one at_).aE=aa then([],one at_)
  else if bx l (one at_).next 44=aa then fV one l n ((one at_).next+1) (out++[(one at_).node])
  else(out++[(one at_).node],one at_)
def wholeAt(one:List ar->Int->Int->ca)(t:ar)(empty:Bool):List Nd × ca :=
 if empty=aa/\t.ah.length=0 then([],⟨.zero,0,ak,0⟩)
 else
  let r:=fV (λi=>one t.ah i t.fin) t.ah (t.ah.length+1) 0 []
  if r.2.aE=ak/\r.2.next<t.ah.length then([],dL t.ah r.2.next t.fin) else r
def sn(l:List Nd):List au:=l.map λn=>⟨n.al,n.pos⟩
def bG(l:List ar)(at_:Int):ar:=match l[at_.toNat]? with | some t=>t | none=>.zero
def ri(l:List ar)(at_ fin:Int):List au × ca :=
 if bx l at_ 123=aa then(sn (wholeAt nameAt (bG l at_) ak).1,(wholeAt nameAt (bG l at_) ak).2) else([],dL l at_ fin)
def x9{l:List ar}{i k:Int}(h:bx l i k=aa):∃j t,i=(j:Nat)/\l[j]?=U t/\t.tok.kind=k/\j<l.length:=by
 simp only[bx,bA,b7] at h;obtain⟨h0,hk⟩:=h;obtain⟨j,rfl⟩:=Co h0;simp only[jC] at hk;cases hq:l[j]? with
 | none=>rw[hq] at hk;simp at hk
 | some t=>rw[hq] at hk;exact⟨j,t,rfl,hq,by simpa using hk,(eX.1 hq).1⟩
def l6{l:List Nd}{t:Nd}(h:l[j]?=U t):(l.map Nd.enc)[((j:Nat):Int).toNat]?=U t.enc:=by simp[h]
def qw{l:List au}{t:au}(h:l[j]?=U t):(l.map au.enc)[((j:Nat):Int).toNat]?=U t.enc:=by simp[h]
variable{x:ar}
def ar.cN:x.enc.length=5:=by rw[dd];rfl
def ar.fU{x:ar}:cB x.enc=true:=by rw[dd];rfl
def ar.dq{x:ar}:bH x.enc=true:=by rw[dd];rfl
def ar.dk{x:ar}:bw x.enc=x.enc:=by rw[dd];rfl
def ar.fh:takeN 5 x.enc=U x.enc:=by rw[dd];rfl
def ar.gN:bD aa 5 x.enc=U (.agg x.enc):=by rw[dd];rfl
def ar.gi:bW 5 x.enc=true:=by rw[dd];rfl
variable{z0 z1:V}
def ar.fO{z2 z3 z4:V}:over [z0,z1,z2,z3,z4] x.enc=x.enc:=by rw[dd];rfl
def ar.cE{n:Nat}:bQ n x.enc=true:=by rw[dd];rfl
def ar.an:=af @ar.cN <| af @ar.fU <| af @ar.dq <| af @ar.dk <| af @ar.fh <| af @ar.gN <| af @ar.gi <| af @ar.fO @ar.cE
def Nd.cN{x:Nd}:x.enc.length=5:=by rw[Nd.dd];rfl
def Nd.fU{x:Nd}:cB x.enc=true:=by rw[Nd.dd];rfl
def Nd.dq{x:Nd}:bH x.enc=true:=by rw[Nd.dd];rfl
def Nd.dk{x:Nd}:bw x.enc=x.enc:=by rw[Nd.dd];rfl
def Nd.fh{x:Nd}:takeN 5 x.enc=U x.enc:=by rw[Nd.dd];rfl
def Nd.gN{x:Nd}:bD aa 5 x.enc=U (.agg x.enc):=by rw[Nd.dd];rfl
def Nd.gi{x:Nd}:bW 5 x.enc=true:=by rw[Nd.dd];rfl
def Nd.fO{x:Nd}{z2 z3 z4:V}:over [z0,z1,z2,z3,z4] x.enc=x.enc:=by rw[Nd.dd];rfl
def Nd.cE{x:Nd}{n:Nat}:bQ n x.enc=true:=by rw[Nd.dd];rfl
def Nd.an:=af @Nd.cN <| af @Nd.fU <| af @Nd.dq <| af @Nd.dk <| af @Nd.fh <| af @Nd.gN <| af @Nd.gi <| af @Nd.fO @Nd.cE
def au.cN{x:au}:x.enc.length=2:=by rw[au.enc];rfl
def au.fU{x:au}:cB x.enc=true:=by rw[au.enc];rfl
def au.dq{x:au}:bH x.enc=true:=by rw[au.enc];rfl
def au.dk{x:au}:bw x.enc=x.enc:=by rw[au.enc];rfl
def au.fh{x:au}:takeN 2 x.enc=U x.enc:=by rw[au.enc];rfl
def au.gN{x:au}:bD aa 2 x.enc=U (.agg x.enc):=by rw[au.enc];rfl
def au.gi{x:au}:bW 2 x.enc=true:=by rw[au.enc];rfl
def au.fO{x:au}:over [z0,z1] x.enc=x.enc:=by rw[au.enc];rfl
def au.cE{x:au}{n:Nat}:bQ n x.enc=true:=by rw[au.enc];rfl
def au.an:=af @au.cN <| af @au.fU <| af @au.dq <| af @au.dk <| af @au.fh <| af @au.gN <| af @au.gi <| af @au.fO @au.cE
def ca.cN{x:ca}:x.enc.length=8:=by rw[ca.enc];rfl
def ca.fU{x:ca}:cB x.enc=true:=by rw[ca.enc];rfl
def ca.dq{x:ca}:bH x.enc=true:=by rw[ca.enc];rfl
def ca.dk{x:ca}:bw x.enc=x.enc:=by rw[ca.enc];rfl
def ca.fh{x:ca}:takeN 8 x.enc=U x.enc:=by rw[ca.enc];rfl
def ca.gN{x:ca}:bD aa 8 x.enc=U (.agg x.enc):=by rw[ca.enc];rfl
def ca.gi{x:ca}:bW 8 x.enc=true:=by rw[ca.enc];rfl
def ca.fO{x:ca}{z2 z3 z4 z5 z6 z7:V}:over [z0,z1,z2,z3,z4,z5,z6,z7] x.enc=x.enc:=by rw[ca.enc];rfl
def ca.cE{x:ca}{n:Nat}:bQ n x.enc=true:=by rw[ca.enc];rfl
def ca.an:=af @ca.cN <| af @ca.fU <| af @ca.dq <| af @ca.dk <| af @ca.fh <| af @ca.gN <| af @ca.gi <| af @ca.fO @ca.cE
def Nd.x1{r:Nd}:r.enc.drop 1=[V.int .i64 r.pos,.aF r.al,.sl .no 2 (r.aj.map au.enc),.sl .no 5 (r.ah.map Nd.enc)]:=by rw[Nd.dd];rfl
def Nd.x2{r:Nd}:r.enc.drop 2=[V.aF r.al,.sl .no 2 (r.aj.map au.enc),.sl .no 5 (r.ah.map Nd.enc)]:=by rw[Nd.dd];rfl
def Nd.x3{r:Nd}:r.enc.drop 3=[V.sl .no 2 (r.aj.map au.enc),.sl .no 5 (r.ah.map Nd.enc)]:=by rw[Nd.dd];rfl
def Nd.x4{r:Nd}:r.enc.drop 4=[V.sl .no 5 (r.ah.map Nd.enc)]:=by rw[Nd.dd];rfl
def Nd.x0{r:Nd}:bD ak 1 r.enc=U (.int .i64 r.kind):=by rw[Nd.dd];rfl
def Nd.fl:=af @Nd.x0 <| af @Nd.x1 <| af @Nd.x2 <| af @Nd.x3 @Nd.x4
def ar.x1{r:ar}:r.enc.drop 1=[V.aF r.tok.al,.int .i64 r.tok.pos,.sl .no 5 (dv r.ah),.int .i64 r.fin]:=by rw[dd];rfl
def ar.x2{r:ar}:r.enc.drop 2=[V.int .i64 r.tok.pos,.sl .no 5 (dv r.ah),.int .i64 r.fin]:=by rw[dd];rfl
def ar.x3{r:ar}:r.enc.drop 3=[V.sl .no 5 (dv r.ah),.int .i64 r.fin]:=by rw[dd];rfl
def ar.x4{r:ar}:r.enc.drop 4=[V.int .i64 r.fin]:=by rw[dd];rfl
def ar.x0{r:ar}:bD ak 1 r.enc=U (.int .u8 r.tok.kind):=by rw[dd];rfl
def ar.xt{r:ar}:bD aa 3 r.enc=U (.agg [.int .u8 r.tok.kind,.aF r.tok.al,.int .i64 r.tok.pos]):=by rw[dd];rfl
def ar.fl:=af @ar.x0 <| af @ar.xt <| af @ar.x1 <| af @ar.x2 <| af @ar.x3 @ar.x4
def yd(c:Int):Bool:=decide (97<=c)&&decide (c<=122)
def uB(c:Int):Bool:=yd c||(decide (48<=c)&&decide (c<=57))||decide (c=95)
def NM:List Int:=[35,43,38,40,41,123,125,91,93,44,58,61,124,60]
def mc(c:Int):Bool:=NM.any λs=>decide (s=c)
def closing(c:Int):Int:=if c=40 then 41 else if c=123\/c=91 then c+2 else 0
def kG(c:Int):Bool:=decide (c=41)||decide (c=125)||decide (c=93)
def gy(c:UInt8):Bool:=uB c.toNat
def uV(c:UInt8):Bool:=yd c.toNat
def dy(s:List UInt8):Bool:=decide (s.length<=16)&&(match s with | []=>ak | c::r=>uV c&&r.all gy)
def Tok.enc(t:Tok):List V:=[.int .u8 t.kind,.aF t.al,.int .i64 t.pos]
def fj(r:List UInt8):List UInt8:=r.takeWhile gy
def e9:Nat->Nat->List UInt8->List Tok->List Tok × Option Int
 | 0,_,_,acc=>(acc,ae)
 | _,_,[],acc=>(acc,ae)
 | n + 1, p, c :: r, acc =>
  if c.toNat=45/\(r.head?.map UInt8.toNat)=U 45 then(acc,ae)
  else if 0<(fj (c::r)).length/\dy (fj (c::r))=aa then e9 n (p+(fj (c::r)).length) ((c::r).drop (fj (c::r)).length) (acc++[⟨97,fj (c::r),p⟩])
  else if mc (c.toNat:Nat)=aa then e9 n (p+1) r (acc++[⟨(c.toNat:Nat),[c],p⟩])
  else if c.toNat=32\/c.toNat=9 then e9 n (p+1) r acc
  else([],U p)
def dG(s:List UInt8):List Tok × Option Int:=e9 s.length 0 s []
def CK(b:Option Int):V:=.agg [.int .i64 (match b with | some _=>1 | none=>0),.int .i64 (fD b)]
def eK(l:List Tok)(i:Nat):Int:=match l[i]? with | some t=>t.kind | none=>0
def po(l:List Tok):Nat->Nat->List Nat->Int
 | 0,_,open_=>match open_.getLast? with | some j=>(j:Nat) | none=>-1
 | n + 1, i, open_ =>
  if closing (eK l i)≠0/\24<=open_.length then(i:Nat)
  else
   let o:=if closing (eK l i)≠0 then open_++[i] else open_
   if kG (eK l i)=aa then
    match o.getLast? with
    | none=>(i:Nat)
    | some j=>if closing (eK l j)=eK l i then po l n (i+1) o.dropLast else(i:Nat)
   else po l n (i+1) o
def jj(l:List Tok)(at_:Nat):Nat->Nat->Int->Nat
 | 0,_,_=>at_
 | n + 1, i, deep =>
  let d:=(deep+(if closing (eK l i)≠0 then 1 else 0)) - (if kG (eK l i)=aa then 1 else 0)
  if d=0 then i else jj l at_ n (i+1) d
def partner(l:List Tok)(at_:Nat):Nat:=jj l at_ (l.length - at_) at_ 0
def qm(l:List Tok)(i:Nat):Int:=match l[i]? with | some t=>t.pos | none=>0
def iY(l:List Tok)(i:Nat):Tok:=match l[i]? with | some t=>t | none=>⟨0,[],0⟩
def nr(l:List Tok):Nat->Nat->Nat->List ar
 | 0,_,_=>[]
 | n + 1, i, to =>
  if i<to then
   if closing (eK l i)≠0 then .mk (iY l i) (nr l n (i+1) (partner l i)) (qm l (partner l i))::nr l n (partner l i+1) to
   else .mk (iY l i) [] (qm l i)::nr l n (i+1) to
  else []
def gQ(l:List Tok):List ar × Option Int :=
 if 0<=po l l.length 0 [] then([],U (qm l (po l l.length 0 []).toNat)) else(nr l l.length 0 l.length,ae)
def iO:Option Int->List Tok->List UInt8
 | _,[]=>[]
 | k,t::ts=>(if k=U 97/\t.kind=97 then [32] else [])++t.al++iO (U t.kind) ts
def eW(l:List Tok):List UInt8:=iO ae l
mutual
def ar.flat:ar->List Tok
 | .mk t ks e=>t::(if closing t.kind≠0 then bj ks++[⟨closing t.kind,[UInt8.ofNat (closing t.kind).toNat],e⟩] else [])
def bj:List ar->List Tok
 | []=>[]
 | t::ts=>t.flat++bj ts
end
def Np(r:List UInt8):(fj r).length<=r.length:=by
 unfold fj;exact List.Sublist.length_le (XO _)
variable{a:Nat}{s:List UInt8}
def apx:(fj (s.drop a)).length<=s.length - a:=by
 have:=Np (s.drop a)
 rwa [IM] at this
def WO{O:Type}{f:O->Bool}:∀(r:List O),r.take (r.takeWhile f).length=r.takeWhile f
 | []=>rfl
 | c :: r => by
  simp only[List.takeWhile_cons];split
  .simp[WO r]
  .simp
def Qq:(s.take (a+(fj (s.drop a)).length)).drop a=fj (s.drop a):=by
 rw[IE,XQ];exact WO _
def abk(h:a<s.length):(s.take (a+1)).drop a=[s[a]]:=by
 rw[IE,XQ,mi h];rfl
def UM{l:List Tok}{at_:Nat}:∀(n i:Nat) (d:Int),at_<=i->i+n<=l.length->at_<l.length->at_<=jj l at_ n i d/\jj l at_ n i d<l.length
 | 0,i,d,_,_,h=>⟨bL _,h⟩
 | n + 1, i, d, h1, h2, h3 => by
  simp only[jj];generalize (d+(if closing (eK l i)≠0 then 1 else 0)) - (if kG (eK l i)=aa then 1 else 0)=e;split
  .exact⟨h1,by omega⟩
  .exact UM n (i+1) _ (by omega) (by omega) h3
variable{i:Nat}
def HH{l:List Tok}(h:i<l.length):i<=partner l i/\partner l i<l.length:=UM _ _ _ (bL _) (by omega) h
def Hg:∀(n p:Nat) (r:List UInt8) (acc:List Tok),r.length<=n->(e9 n p r acc).1.length<=acc.length+r.length
 | 0,_,r,acc,_=>by cases r<;>simp[e9]
 | n+1,p,[],acc,_=>by simp[e9]
 | n + 1, p, c :: r, acc, h => by
  simp only[e9];have hr:=Np (c::r);simp only[db] at h hr ⊢;split
  .simp only;omega
  .split
   .rename_i h1
    have:=Hg n (p+(fj (c::r)).length) ((c::r).drop (fj (c::r)).length) (acc++[⟨97,fj (c::r),p⟩]) (by simp;omega)
    simp at this;omega
   .split
    .have:=Hg n (p+1) r (acc++[⟨(c.toNat:Nat),[c],p⟩]) (by omega)
     simp at this;omega
    .split
     .have:=Hg n (p+1) r acc (by omega);omega
     .simp
def Tx(s:List UInt8):(dG s).1.length<=s.length:=by
 have:=Hg s.length 0 s [] (bL _)
 simpa [dG] using this
def cz:List (List UInt8)->List UInt8
 | []=>[]
 | x::xs=>x++xs.flatMap λy=>44::y
def S_(l:List (List UInt8))(y:List UInt8):cz (l++[y])=cz l++(if 0<l.length then [44] else [])++y:=by
 cases l with
 | nil=>simp[cz]
 | cons x xs=>simp[cz]
def S9:∀l:List (List UInt8),(cz l).length<=(l.map λx=>x.length+1).sum
 | []=>by simp[cz]
 | x :: xs => by
  simp only[cz,bI,List.length_flatMap,bX,mO]
  have:(xs.map λy=>(44::y).length)=xs.map λx=>x.length+1:=by simp
  rw[this];omega
def ia(ws:List au):List UInt8:=cz (ws.map au.al)
def qc:List (List UInt8)->List UInt8
 | []=>[]
 | x::_=>x
mutual
def Nd.da:Nd->List UInt8
 | .mk k _ t ws ks =>
  if k=1\/k=2 then t
  else if k=3 then [123]++ia ws++[125]
  else if k=4 then [40]++cz (dD ks)++[41]
  else if k=5 then [91]++cz (dD ks)++[93]
  else if k=6 then t++[58,123]++ia ws++[125]
  else if k=7 then [35]++qc (dD ks)
  else if k=8 then [43,40]++cz (dD ks)++[41]
  else if k=9 then [38,40]++cz (dD ks)++[41]
  else if k=10 then([91]++cz (dD ks))++(if 0<ws.length then [124]++ia ws else [])++[93]
  else if k=11 then t++[61]++qc (dD ks)
  else []
def dD:List Nd->List (List UInt8)
 | []=>[]
 | n::ns=>n.da::dD ns
end
def AB:∀l,dD l=l.map Nd.da
 | []=>rfl
 | n::ns=>by simp[dD,AB ns]
def eB(ws:List au):Nat:=(ws.map λw=>w.al.length+1).sum
mutual
def Nd.wt:Nd->Nat
 | .mk _ _ t ws ks=>t.length+eB ws+fk ks+4
def fk:List Nd->Nat
 | []=>0
 | n::ns=>n.wt+1+fk ns
end
def EK:∀l,fk l=(l.map λn=>n.wt+1).sum
 | []=>rfl
 | n::ns=>by simp[fk,EK ns]
def EJ(ws:List au):(ia ws).length<=eB ws:=by
 have:=S9 (ws.map au.al)
 simpa [ia,eB,Ct,vr] using this
def Iq{l:List Nd}{n:Nd}(h:n∈l):n.wt+1<=fk l:=by
 induction l with
 | nil=>simp at h
 | cons m ms ih =>
  rcases kA.1 h with rfl | h
  .simp only[fk];omega
  .have:=ih h;simp only[fk];omega
def G9:∀(l:List Nd),(∀n∈l,n.da.length<=n.wt)->(cz (dD l)).length<=fk l:=λl h=>by
 refine w7 (S9 _) ?_;rw[AB,EK,Ct];induction l with
 | nil=>simp
 | cons n ns ih =>
  simp only[bX,mO,Function.comp];have h1:=h n (by simp);have h2:=ih λm hm=>h m (by simp[hm])
  omega
def Sg(l:List Nd)(h:∀n∈l,n.da.length<=n.wt):(qc (dD l)).length<=fk l:=by
 cases l with
 | nil=>simp[dD,qc]
 | cons n ns=>have:=h n (by simp);simp only[dD,qc,fk];omega
mutual
def W0:∀(n:Nd),n.da.length<=n.wt
 | .mk k p t ws ks => by
  have h1:=EJ ws;have h2:=G9 ks (AA ks);have h3:=Sg ks (AA ks);simp only[Nd.da,Nd.wt]
  repeat' split
  all_goals (try simp only[bI,db,ei])
  all_goals omega
def AA:∀(l:List Nd),∀n∈l,n.da.length<=n.wt
 | [],n,h=>by simp at h
 | m :: ms, n, h => by
  rcases kA.1 h with h | h
  .rw[h];exact W0 m
  .exact AA ms n h
end
def Bc:List V:=aA 8 (.int .u64 0)
def xY:List V:=.int .i64 0::.int .i64 0::Bc
def cO(l:List (List UInt8)):List (List V):=l.map λs=>[.aF s]
variable{O:Type}
def qM{l:List O}{d:O}(h:i<l.length):l.getD i d=l[i]:=by simp[h]
def gO(l:List (List UInt8)):(cO l).length=l.length:=by simp[cO]
def Nu{l:List (List UInt8)}(h:j<l.length):(cO l)[((j:Nat):Int).toNat]?=U [.aF (l.getD j [])]:=by simp[cO,h]
def VW{l:List (List UInt8)}:(cO l).take j=cO (l.take j):=by simp[cO,List.map_take]
def de:Option Nat->Int
 | some k=>k
 | none=>-1
def gY(l:List (List UInt8))(s:List UInt8):Option Nat:=(cc l.length).find? λi=>decide (l.getD i []=s)
def N4(l:List (List UInt8)):Option Nat:=(cc l.length).find? λi=>(gY (l.take i) (l.getD i [])).isSome
section
variable {l:List (List UInt8)} {s:List UInt8} {i:Nat}
def ME{o:Option Nat}:decide (0<=de o)=o.isSome:=by
 cases o with
 | none=>rfl
 | some k=>exact aP (by simp only[de];omega)
def BU{o:Option Nat}:decide (de o<0)=o.isNone:=by
 cases o with
 | none=>rfl
 | some k=>exact aK (by simp only[de];omega)
def F4{p:Nat->Bool}{n:Nat}(h:(cc n).find? p=U k):k<n/\p k=aa/\∀j,j<k->p j=false:=by
 refine⟨by simpa using O0 h,by simpa using List.find?_some h,λj hj=>?_⟩;obtain⟨_,as,bs,h2,h3⟩:=EV.1 h;have hl:as.length=k:=by
  have:=gX (λl:List Nat=>l[as.length]?) h2
  simp only[AT (bL _),Nat.sub_self,II] at this;rw[IJ] at this
  .simpa using this
  .have:=gX List.length h2;simp at this;omega
 have gI : j∈as:=by
  have:=gX (λl:List Nat=>l[j]?) h2
  rw[sv (by omega),IJ (by have:=gX List.length h2;simp at this;omega)] at this;exact rz this.symm
 have:=h3 j gI
 simpa using this
end
def ti(l:List (List UInt8)):Bool:=decide (1<=l.length)&&decide (l.length<=64)&&(N4 l).isNone&&l.all dy
structure bn where
 kind:Int
 aj:List (List UInt8)
 rel:Rl
def bn.enc(f:bn):List V:=.int .i64 f.kind::.sl .no 1 (cO f.aj)::f.rel.enc
def bn.zero:bn:=⟨0,[],.zero⟩
section
variable {f g:bn} {m:Nat}
def bn.cN:f.enc.length=67:=by simp[bn.enc,Rl.cN]
def bn.fU:cB f.enc=true:=by simp[bn.enc,cB,V.one,Rl.fU]
def bn.dq:bH f.enc=true:=by simp[bn.enc,bH,V.cG,Rl.dq]
def bn.dk:bw f.enc=f.enc:=by simp[bn.enc,bw,V.erase,Rl.dk]
def bn.cE:bQ m f.enc=true:=by simp[bn.enc,bQ,V.lo,Rl.cE]
def bn.fh:takeN 67 f.enc=U f.enc:=by have:=yE (c:=f.enc);rwa [bn.cN] at this
def bn.gN:bD aa 67 f.enc=U (.agg f.enc):=by rw[yb,bn.fh];rfl
def bn.gi:bW 67 f.enc=true:=by have:=xC (c:=f.enc);rwa [bn.cN] at this
def bn.fO:over g.enc f.enc=f.enc:=tt (by rw[bn.cN,bn.cN])
theorem bn.M9:bD ak 1 f.enc=U (.int .i64 f.kind):=rfl
theorem bn.r_s:bD ak 1 (f.enc.drop 1)=U (.sl .no 1 (cO f.aj)):=rfl
theorem bn.tB:bD ak 1 (f.enc.drop 2)=U (.int .i64 f.rel.n):=rfl
def bn.r_r:bD aa 65 (f.enc.drop 2)=U (.agg f.rel.enc):=by
 show bD aa 65 f.rel.enc=_;exact Rl.gN
def bn.aoN:takeN 65 (f.enc.drop 2)=U f.rel.enc:=by
 show takeN 65 f.rel.enc=_;exact Rl.fh
def bn.XA:over qK f.enc=f.enc:=tt (by rw[bn.cN];rfl)
theorem bn.as_:bW 67 qK=true:=rfl
def bn.zlo:bQ m qK=true:=by
 have:qK = .int .i64 0::.sl .aW 1 []::Rl.zero.enc:=by rw[<-Rl.wF];rfl
 rw[this];simp[bQ,V.lo,Rl.cE]
def bn.an:=af @bn.cN <| af @bn.fU <| af @bn.dq <| af @bn.dk <| af @bn.cE <| af @bn.fh <| af @bn.gN <| af @bn.gi <| af @bn.fO <| af @bn.M9 <| af @bn.r_s <| af @bn.tB <| af @bn.r_r <| af @bn.aoN <| af @bn.XA <| af @bn.as_ @bn.zlo
end
structure bC where
 tuple:Bool
 bM:List bn
def bC.enc(s:bC):List V:=[.bool s.tuple,.sl .no 67 (s.bM.map bn.enc)]
section
variable {s:bC} {g:Bool} {n:Nat} {a b:V}
theorem bC.cN:s.enc.length=2:=rfl
theorem bC.fU:cB s.enc=true:=rfl
theorem bC.dq:bH s.enc=true:=rfl
theorem bC.dk:bw s.enc=s.enc:=rfl
theorem bC.cE:bQ n s.enc=true:=rfl
theorem bC.fh:takeN 2 s.enc=U s.enc:=rfl
theorem bC.gN:bD aa 2 s.enc=U (.agg s.enc):=rfl
theorem bC.gi:bW 2 s.enc=true:=rfl
theorem bC.fO:over [a,b] s.enc=s.enc:=rfl
theorem bC.M':bD ak 1 s.enc=U (.bool s.tuple):=rfl
theorem bC.Eg:bD ak 1 (s.enc.drop 1)=U (.sl .no 67 (s.bM.map bn.enc)):=rfl
def bC.an:=af @bC.cN <| af @bC.fU <| af @bC.dq <| af @bC.dk <| af @bC.cE <| af @bC.fh <| af @bC.gN <| af @bC.gi <| af @bC.fO <| af @bC.M' @bC.Eg
end
def bC.ok(s:bC):Prop:=s.bM.length<=100000/\∀f∈s.bM,f.aj.length<=100000
def qa(f:bn):Bool:=ti f.aj &&
 (if f.kind=1\/f.kind=2 then decide (bK f.rel=0) else if f.kind=3 then decide (f.rel.n=f.aj.length)&&qN f.rel else if f.kind=4 then decide (f.rel.n=f.aj.length)&&ra f.rel else ak)
def mF(s:bC):Bool:=decide (1<=s.bM.length)&&decide (s.bM.length<=8)&&(s.tuple||decide (s.bM.length=1))&&s.bM.all qa
def U0{r:Rl}:decide (l_ r=l_ Rl.zero)=decide (bK r=0):=by
 apply rE.2;have hz:bK Rl.zero=0:=by simp[bK,Rl.zero]
 constructor
 .intro h;have:=(UZ.1 h).1;rw[this,hz]
 .intro h;rw[QC h,QC hz]
structure bg where
 w:List bz
 len:w.length=8
def bg.ext'{a b:bg}(h:a.w=b.w):a=b:=by cases a;cases b;simp only at h;subst h;rfl
instance:DecidableEq bg:=λa b=>if h:a.w=b.w then isTrue (bg.ext' h) else isFalse λe=>h (e▸rfl)
def bg.enc(e:bg):List V:=gx e.w
def bg.zero:bg:=⟨aA 8 0#64,by simp⟩
def bg.get(e:bg)(i:Nat):bz:=e.w.getD i 0#64
def bg.put(e:bg)(i:Nat)(w:bz):bg:=⟨e.w.set i w,by simp[e.len]⟩
def bg.of(f:Nat->bz):bg:=⟨(cc 8).map f,by simp⟩
section
variable {e d:bg} {i m:Nat} {w:bz} {f:Nat->bz}
def bg.Bj:(e.put i w).get j=if i=j/\i<8 then w else e.get j:=by
 simp only[bg.get,bg.put,gU,List.getElem?_set,e.len]
 by_cases h:i=j
 .subst h
  by_cases h2:i<8
  .simp[h2]
  .simp[h2,e.len]
 .simp[h]
def bg.nP(h:i<8):(bg.of f).get i=f i:=by simp[bg.get,bg.of,gU,h]
def bg.ext(k:∀i,i<8->e.get i=d.get i):e=d:=by
 refine bg.ext' (OO (by rw[e.len,d.len]) λi h1 h2=>?_)
 have:=k i (by rw[e.len] at h1;exact h1)
 simpa [bg.get,gU,h1,h2] using this
def bg.cN:e.enc.length=8:=by simp[bg.enc,FT,e.len]
def bg.fU:cB e.enc=true:=QJ
def bg.dq:bH e.enc=true:=QI
def bg.dk:bw e.enc=e.enc:=QF
def bg.cE:bQ m e.enc=true:=QH
def bg.fh:takeN 8 e.enc=U e.enc:=by have:=yE (c:=e.enc);rwa [bg.cN] at this
def bg.gN:bD aa 8 e.enc=U (.agg e.enc):=by rw[yb,bg.fh];rfl
def bg.gi:bW 8 e.enc=true:=by have:=xC (c:=e.enc);rwa [bg.cN] at this
def bg.fO:over d.enc e.enc=e.enc:=tt (by rw[bg.cN,bg.cN])
def bg.wF:Bc=bg.zero.enc:=by rw[bg.enc,gx,bg.zero,List.map_replicate];rfl
def bg.pQ:fE [1,1,1,1,1,1,1,1] e.enc d.enc=U (decide (e=d)):=by
 show fE (aA 8 1) (gx e.w) (gx d.w)=_;rw[QE e.len d.len];congr 1;exact rE.2 ⟨bg.ext',λh=>h▸rfl⟩
def bg.B9(h:i<8):bW 1 (e.enc.drop i)=true:=QG (by rw[e.len];exact h)
def bg.B_(h:i<8):setAt e.enc i [.int .u64 (w.toNat:Nat)]=(e.put i w).enc:=QK (by rw[e.len];exact h)
def bg.fill:(bg.of λj=>if j<i then f j else 0#64).put i (f i)=bg.of λj=>if j<i+1 then f j else 0#64:=by
 refine bg.ext λk hk=>?_
 rw[bg.Bj,bg.nP hk,bg.nP hk]
 by_cases h:i=k
 .subst h;simp[hk]
 .rw[aB (by omega)]
  by_cases h2:k<i
  .rw[aD h2,aD (by omega)]
  .rw[aB h2,aB (by omega)]
def bg.as9:bg.zero=bg.of λ_=>0#64:=by
 refine bg.ext λi hi=>?_
 rw[bg.nP hi];simp only[bg.get,bg.zero,gU,XJ,hi,cC,E9]
def bg.an:=af @bg.cN <| af @bg.fU <| af @bg.dq <| af @bg.dk <| af @bg.cE <| af @bg.fh <| af @bg.gN <| af @bg.gi <| af @bg.fO <| af @bg.wF @bg.pQ
end
def ajl(s:bC)(a b:bg)(i:Nat):bz :=
 match s.bM[i]? with
 | some f=>if f.kind=4 then aoR f.rel (a.get i) (b.get i) else a.get i|||b.get i
 | none=>a.get i|||b.get i
def ajk(s:bC)(a b:bg):bg:=bg.of (ajl s a b)
def alq(a b:bg):bg:=bg.of λi=>a.get i&&&b.get i
def hH(ws:List au):Bool:=ws.all λw=>dy w.al
def Nd.kl(n:Nd):Bool:=dy n.al&&decide ((n.aj.length:Int)+n.ah.length=0)
def Nd.kB(n:Nd):Bool:=decide (n.al=[])&&decide ((n.aj.length:Int)=0)
def Nd.o5(n:Nd):Bool:=decide (n.kind=6)&&dy n.al&&hH n.aj&&decide ((n.ah.length:Int)=0)
mutual
def Nd.il:Nd->Bool
 | .mk k p t ws ks =>
  if k=2 then(Nd.mk k p t ws ks).kl
  else if k=3 then decide (t=[])&&hH ws&&decide ((ks.length:Int)=0)
  else if k=4 then(Nd.mk k p t ws ks).kB&&decide ((0:Int)<ks.length)&&FK ks
  else if k=5 then(Nd.mk k p t ws ks).kB&&ks.all Nd.o5
  else ak
def FK:List Nd->Bool
 | []=>aa
 | n::ns=>n.il&&FK ns
end
def Qo:∀l,FK l=l.all Nd.il
 | []=>rfl
 | n::ns=>by simp[FK,Qo ns]
def Nd.y8(n:Nd):n.il=if n.kind=2 then n.kl else if n.kind=3 then decide (n.al=[])&&hH n.aj&&decide ((n.ah.length:Int)=0)
 else if n.kind=4 then n.kB&&decide ((0:Int)<n.ah.length)&&n.ah.all Nd.il else if n.kind=5 then n.kB&&n.ah.all Nd.o5 else false:=by
 cases n;rw[<-Qo];rw[Nd.il];rfl
def uF(f:Nd->Bool):List Nd->Bool
 | []=>ak
 | n::_=>f n
mutual
def Nd.eU:Nd->Bool
 | .mk k p t ws ks =>
  if k=1 then(Nd.mk k p t ws ks).kl
  else if k=7 then(Nd.mk k p t ws ks).kB&&decide ((ks.length:Int)=1)&&uF Nd.il ks
  else if k=8\/k=9 then(Nd.mk k p t ws ks).kB&&decide ((0:Int)<ks.length)&&Hb ks
  else ak
def Hb:List Nd->Bool
 | []=>aa
 | n::ns=>n.eU&&Hb ns
end
def Ti:∀l,Hb l=l.all Nd.eU
 | []=>rfl
 | n::ns=>by simp[Hb,Ti ns]
def Nd.s9(n:Nd):n.eU=if n.kind=1 then n.kl else if n.kind=7 then n.kB&&decide ((n.ah.length:Int)=1)&&uF Nd.il n.ah
 else if n.kind=8\/n.kind=9 then n.kB&&decide ((0:Int)<n.ah.length)&&n.ah.all Nd.eU else false:=by
 cases n;rw[<-Ti];rw[Nd.eU];rfl
def Nd.ph(n:Nd):Bool:=(decide (n.kind=1)||decide (n.kind=7))&&n.eU
def Nd.lr(n:Nd):Bool:=decide (n.kind=11)&&dy n.al&&decide ((n.aj.length:Int)=0)&&decide ((n.ah.length:Int)=1)&&uF Nd.ph n.ah
def Nd.iW(n:Nd):Bool :=
 if n.kind=10 then decide (n.al=[])&&decide ((n.aj.length:Int)<=1)&&hH n.aj&&n.ah.all Nd.lr else decide (n.kind=1)&&n.eU
def dt:List au->List au->Bool
 | [],[]=>aa
 | w::ws,u::us=>decide (w.al=u.al)&&dt ws us
 | _,_=>ak
mutual
def Nd.cI:Nd->Nd->Bool
 | .mk k _ t ws ks,n=>decide (k=n.kind)&&decide (t=n.al)&&dt ws n.aj&&cX ks n.ah
def cX:List Nd->List Nd->Bool
 | [],[]=>aa
 | n::ns,m::ms=>n.cI m&&cX ns ms
 | _,_=>ak
end
def Nd.Aq(n m:Nd):n.cI m=(decide (n.kind=m.kind)&&decide (n.al=m.al)&&dt n.aj m.aj&&cX n.ah m.ah):=by cases n;rw[Nd.cI];rfl
def V3:∀l,dt l l=aa
 | []=>rfl
 | w::ws=>by simp[dt,V3 ws]
mutual
def Nd.Ej:∀n:Nd,n.cI n=aa
 | .mk k p t ws ks=>by simp[Nd.cI,Nd.kind,Nd.al,Nd.aj,Nd.ah,V3,V7 ks]
def V7:∀l:List Nd,cX l l=aa
 | []=>by simp[cX]
 | n::ns=>by simp[cX,Nd.Ej n,V7 ns]
end
def NA:∀{a b:List au},dt a b=aa->a.length=b.length
 | [],[],_=>rfl
 | [],_::_,h=>by simp[dt] at h
 | _::_,[],h=>by simp[dt] at h
 | _::ws,_::us,h=>by simp only[dt,bA] at h;simp[NA h.2]
def ND:∀{a b:List Nd},cX a b=aa->a.length=b.length
 | [],[],_=>rfl
 | [],_::_,h=>by simp[cX] at h
 | _::_,[],h=>by simp[cX] at h
 | _::ws,_::us,h=>by simp only[cX,bA] at h;simp[ND h.2]
def Ny:∀{a b:List au} {i:Nat} (ha:i<a.length) (hb:i<b.length),a.length=b.length->dt (a.take i) (b.take i)=aa->dt (a.take (i+1)) (b.take (i+1))=decide (a[i].al=b[i].al)/\(decide (a[i].al=b[i].al)=ak->dt a b=ak)
 | w::ws,u::us,0,_,_,_,_=>by simp[dt];intro h1 h2;exact absurd h2 h1
 | w :: ws, u :: us, i + 1, ha, hb, hl, h => by
  simp only[vw,dt,bA] at h ⊢
  have:=Ny (a:=ws) (b:=us) (i:=i) (by simpa using ha) (by simpa using hb) (by simpa using hl) h.2
  simp only[h.1,pW,EW];exact this
 | [],_,_,ha,_,_,_=>by simp at ha
 | _::_,[],_,_,hb,_,_=>by simp at hb
def NC:∀{a b:List Nd} {i:Nat} (ha:i<a.length) (hb:i<b.length),a.length=b.length->cX (a.take i) (b.take i)=aa->cX (a.take (i+1)) (b.take (i+1))=a[i].cI b[i]/\(a[i].cI b[i]=ak->cX a b=ak)
 | w::ws,u::us,0,_,_,_,_=>by simp[cX];intro h1 h2;rw[h1] at h2;simp at h2
 | w :: ws, u :: us, i + 1, ha, hb, hl, h => by
  simp only[vw,cX,bA] at h ⊢
  have:=NC (a:=ws) (b:=us) (i:=i) (by simpa using ha) (by simpa using hb) (by simpa using hl) h.2
  simp only[h.1,pW,EW];exact this
 | [],_,_,ha,_,_,_=>by simp at ha
 | _::_,[],_,_,hb,_,_=>by simp at hb
def pj(o:Option Int):List V:=[.bool o.isSome,.int .i64 (o.getD 0)]
def uz(o:Option Int):List V:=[.int .i64 (if o.isSome then 4 else 0),.int .i64 (o.getD 0)]
def gK(l:List (List UInt8))(s:bz):List au->bz × Option Int
 | []=>(s,ae)
 | w::ws=>match gY l w.al with | none=>(0#64,U w.pos) | some k=>gK l (j6 s (k:Nat)) ws
def va(f:bn)(s:bz):List Nd->bz × Option Int
 | []=>(s,ae)
 | k :: ks => match gY f.aj k.al with
  | none=>(0#64,U k.pos)
  | some o => match (gK f.aj 0#64 k.aj).2 with
   | some p=>(0#64,U p)
   | none=>va f (s|||B2 f.rel o (gK f.aj 0#64 k.aj).1) ks
def pR(f:bn)(s:bz)(aE:Option Int):List Nd->bz × Option Int
 | []=>(s,aE)
 | k :: ks => match gY f.aj k.al with
  | none=>(0#64,aE.or (U k.pos))
  | some o=>pR f (s|||B2 f.rel o (gK f.aj 0#64 k.aj).1) (aE.or (gK f.aj 0#64 k.aj).2) ks
def No{f:bn}{p:Int}:∀{ks:List Nd} {s:bz},(pR f s (U p) ks).2=U p
 | [],_=>rfl
 | k :: ks, s => by
  simp only[pR];split
  .rfl
  .exact No
def VI{f:bn}:∀{ks:List Nd} {s:bz},(pR f s ae ks).2=(va f s ks).2/\((va f s ks).2=ae->(pR f s ae ks).1=(va f s ks).1)
 | [],_=>⟨rfl,λ_=>rfl⟩
 | k :: ks, s => by
  simp only[pR,va];split
  .exact⟨rfl,λh=>by simp at h⟩
  .split
   .rename_i o _ p hp;rw[hp];exact⟨No,λh=>by simp at h⟩
   .rename_i hp;rw[hp];exact VI
def pP(f:bn)(n:Nd):bz × Option Int :=
 match gY f.aj n.al with
 | none=>(0#64,U n.pos)
 | some k=>(if f.kind=4 then vH f.rel k else(Ap (f.aj.length:Nat) (k:Nat)).1,ae)
def zU(f:bn):Int:=if f.kind=2 then 3 else if f.kind=3 then 5 else 2
def vn(f:bn)(n:Nd):bz × Option Int :=
 if n.kind=zU f then(if f.kind=2 then gK f.aj 0#64 n.aj else if f.kind=3 then va f 0#64 n.ah else pP f n) else(0#64,U n.pos)
def mf(f:bn)(n:Nd)(aE:Option Int):bz × Option Int :=
 if n.kind=zU f then(if f.kind=2 then((gK f.aj 0#64 n.aj).1,aE.or (gK f.aj 0#64 n.aj).2) else if f.kind=3 then pR f 0#64 aE n.ah else((pP f n).1,aE.or (pP f n).2)) else(0#64,aE.or (U n.pos))
def Xs{f:bn}{n:Nd}{p:Int}:(mf f n (U p)).2=U p:=by
 unfold mf;split
 .split
  .rfl
  .split
   .exact No
   .rfl
 .rfl
def asT{f:bn}{n:Nd}:(mf f n ae).2=(vn f n).2/\((vn f n).2=ae->(mf f n ae).1=(vn f n).1):=by
 unfold mf vn;split
 .split
  .simp
  .split
   .exact VI
   .simp
 .simp
def jX:Nd:=.mk 0 0 [] [] []
def j7(s:bC)(ks:List Nd)(i:Nat):bz × Option Int:=vn (s.bM.getD i .zero) (ks.getD i jX)
def vK(s:bC)(ks:List Nd):bg × Option Int :=
 match (cc s.bM.length).find? λi=>(j7 s ks i).2.isSome with
 | some i=>(.zero,(j7 s ks i).2)
 | none=>(bg.of λj=>if j<s.bM.length then(j7 s ks j).1 else 0#64,ae)
def jY(s:bC)(n:Nd):List Nd:=if s.tuple then n.ah else [n]
def pM(s:bC)(n:Nd):Bool:=!s.tuple||(decide (n.kind=4)&&decide (n.ah.length=s.bM.length))
def im(s:bC)(n:Nd):bg × Option Int:=if pM s n&&mF s&&n.il then vK s (jY s n) else(.zero,U n.pos)
def C4(s:bC)(ks:List Nd)(i:Nat)(x:bg × Option Int):Prop :=
 (x.2=ae/\(∀k,k<i->(j7 s ks k).2=ae)/\x.1=bg.of λj=>if j<i then(j7 s ks j).1 else 0#64) \/
 (x.2.isSome=aa/\∃k,k<i/\(j7 s ks k).2=x.2/\∀j,j<k->(j7 s ks j).2=ae)
def ahz{s:bC}{ks:List Nd}:C4 s ks 0 (.zero,ae):=.inl ⟨rfl,λk h=>by omega,bg.as9⟩
def ahy{s:bC}{ks:List Nd}{e:bg}{o:Option Int}(h:C4 s ks i (e,o)):
 C4 s ks (i+1) (e.put i (mf (s.bM.getD i .zero) (ks.getD i jX) o).1,(mf (s.bM.getD i .zero) (ks.getD i jX) o).2):=by
 rcases h with ⟨h1,h2,h3⟩ | ⟨h1,k,h2,h3,h4⟩
 .simp only at h1 h3;subst h1;subst h3;obtain⟨e1,e2⟩:=@asT (s.bM.getD i .zero) (ks.getD i jX);cases hb:(vn (s.bM.getD i .zero) (ks.getD i jX)).2 with
  | none =>
   left;refine⟨by simp only;rw[e1,hb],λk hk=>?_,?_⟩
   .rcases XR.1 hk with h | rfl
    .exact h2 k h
    .exact hb
   .simp only;rw[e2 hb];exact bg.fill (f:=λj=>(j7 s ks j).1)
  | some p =>
   right;refine⟨by simp only;rw[e1,hb];rfl,i,by omega,by simp only;rw[e1];rfl,h2⟩
 .simp only at h1 h3;obtain⟨p,rfl⟩:=O7.1 h1;right;exact⟨by simp only;rw[Xs];rfl,k,by omega,by simp only;rw[Xs];exact h3,h4⟩
def ahx{s:bC}{ks:List Nd}{x:bg × Option Int}(h:C4 s ks s.bM.length x):vK s ks=if x.2.isSome then(.zero,x.2) else(x.1,ae):=by
 rcases h with ⟨h1,h2,h3⟩ | ⟨h1,k,h2,h3,h4⟩
 .have e:(cc s.bM.length).find? (λi=>(j7 s ks i).2.isSome)=none:=by
   rw[IH];intro i hi;rw[h2 i (by simpa using hi)];simp
  rw[vK,e,h1,h3];rfl
 .have e:(cc s.bM.length).find? (λi=>(j7 s ks i).2.isSome)=U k:=by
   rw[EV];refine⟨by rw[h3];exact h1,cc k,List.range' (k+1) (s.bM.length - (k+1)),?_,λa ha=>by rw[h4 a (by simpa using ha)];rfl⟩;rw[tU,tU,<-Cu]
   have:=O2 (s:=0) (m:=k) (n:=s.bM.length - k) (step:=1)
   simp only[w9,jc] at this;rw[show s.bM.length - (k+1)+1=s.bM.length - k by omega,this];congr 1;omega
  rw[vK,e,aD h1];simp only[h3]
mutual
def Nd.cw:Nd->Nat
 | .mk _ _ _ ws ks=>1+ws.length+f_ ks
def f_:List Nd->Nat
 | []=>0
 | n::ns=>n.cw+f_ ns
end
def P8:∀a b:List Nd,f_ (a++b)=f_ a+f_ b
 | [],b=>by simp[f_]
 | x::xs,b=>by simp only[gE,f_,P8 xs b];omega
def P'(l:List Nd)(i:Nat):f_ (l.take i)<=f_ l:=by
 have:=P8 (l.take i) (l.drop i)
 rw[qy] at this;omega
def asf(l:List au):l.length<=eB l:=by
 unfold eB;induction l with
 | nil=>simp
 | cons w ws ih=>simp only[bX,mO,db];omega
mutual
def FJ:∀n:Nd,n.cw<=n.wt
 | .mk k p t ws ks => by
  have:=Qb ks
  have:=asf ws
  simp only[Nd.cw,Nd.wt];omega
def Qb:∀l:List Nd,f_ l<=fk l
 | []=>by simp[f_,fk]
 | n :: ns => by
  have:=FJ n
  have:=Qb ns
  simp only[f_,fk];omega
end
structure dT where
 name:List UInt8
 shape:bC
def dT.enc(l:dT):List V:=.aF l.name::l.shape.enc
structure dU where
 name:List UInt8
 kind:Int
 lat:Int
def dU.enc(v:dU):List V:=[.aF v.name,.int .i64 v.kind,.int .i64 v.lat]
structure aI where
 bu:List dT
 vars:List dU
def aI.enc(s:aI):List V:=[.sl .no 3 (s.bu.map dT.enc),.sl .no 3 (s.vars.map dU.enc)]
section
variable {l:dT} {v:dU} {s:aI} {n:Nat} {a b c:V}
theorem aI.cN:s.enc.length=2:=rfl
theorem aI.fU:cB s.enc=true:=rfl
theorem aI.dq:bH s.enc=true:=rfl
theorem aI.dk:bw s.enc=s.enc:=rfl
theorem aI.cE:bQ n s.enc=true:=rfl
theorem aI.fh:takeN 2 s.enc=U s.enc:=rfl
theorem aI.gN:bD aa 2 s.enc=U (.agg s.enc):=rfl
theorem aI.gi:bW 2 s.enc=true:=rfl
theorem aI.fO:over [a,b] s.enc=s.enc:=rfl
theorem aI.M_:bD ak 1 s.enc=U (.sl .no 3 (s.bu.map dT.enc)):=rfl
theorem aI.Na:bD ak 1 (s.enc.drop 1)=U (.sl .no 3 (s.vars.map dU.enc)):=rfl
theorem dU.tB:bD ak 1 v.enc=U (.aF v.name):=rfl
theorem dU.M9:bD ak 1 (v.enc.drop 1)=U (.int .i64 v.kind):=rfl
theorem dU.M_:bD ak 1 (v.enc.drop 2)=U (.int .i64 v.lat):=rfl
theorem dT.tB:bD ak 1 l.enc=U (.aF l.name):=rfl
theorem dT.aoP:takeN 2 (l.enc.drop 1)=U l.shape.enc:=rfl
def aI.an:=af @aI.cN <| af @aI.fU <| af @aI.dq <| af @aI.dk <| af @aI.cE <| af @aI.fh <| af @aI.gN <| af @aI.gi <| af @aI.fO <| af @aI.M_ <| af @aI.Na <| af @dU.tB <| af @dU.M9 <| af @dU.M_ <| af @dT.tB @dT.aoP
end
structure bt where
 op:Int
 n:Int
 c:bg
def bt.enc(i:bt):List V:=.int .i64 i.op::.int .i64 i.n::i.c.enc
def bt.zero:bt:=⟨0,0,.zero⟩
def bt.ext'{a b:bt}(h1:a.op=b.op)(h2:a.n=b.n)(h3:a.c=b.c):a=b:=by cases a;cases b;simp only at h1 h2 h3;subst h1;subst h2;subst h3;rfl
instance:DecidableEq bt:=λa b=>if h:a.op=b.op/\a.n=b.n/\a.c=b.c then isTrue (bt.ext' h.1 h.2.1 h.2.2) else isFalse λe=>h (e▸⟨rfl,rfl,rfl⟩)
section
variable {i j:bt} {n:Nat} {x y:Int} {e:bg}
def bt.cN:i.enc.length=10:=by simp[bt.enc,bg.cN]
def bt.fU:cB i.enc=true:=by simp[bt.enc,cB,V.one,bg.fU]
def bt.dq:bH i.enc=true:=by simp[bt.enc,bH,V.cG,bg.dq]
def bt.dk:bw i.enc=i.enc:=by simp[bt.enc,bw,V.erase,bg.dk]
def bt.cE:bQ n i.enc=true:=by simp[bt.enc,bQ,V.lo,bg.cE]
def bt.fh:takeN 10 i.enc=U i.enc:=by have:=yE (c:=i.enc);rwa [bt.cN] at this
def bt.gN:bD aa 10 i.enc=U (.agg i.enc):=by rw[yb,bt.fh];rfl
def bt.gi:bW 10 i.enc=true:=by have:=xC (c:=i.enc);rwa [bt.cN] at this
def bt.fO:over j.enc i.enc=i.enc:=tt (by rw[bt.cN,bt.cN])
theorem bt.r_o:bD ak 1 i.enc=U (.int .i64 i.op):=rfl
theorem bt.tB:bD ak 1 (i.enc.drop 1)=U (.int .i64 i.n):=rfl
def bt.aoI:takeN 8 (i.enc.drop 2)=U i.c.enc:=by show takeN 8 i.c.enc=_;exact bg.fh
def bt.wF:xY=bt.zero.enc:=by
 show V.int .i64 0::V.int .i64 0::Bc=_;rw[bg.wF];rfl
def bt.Zj:over i.enc [.int .i64 x]=(bt.mk x i.n i.c).enc:=by rw[bt.enc,oD,l8];rfl
theorem bt.CG:bW 1 i.enc=true:=rfl
theorem bt.Zf:bW 1 (i.enc.drop 1)=true:=rfl
def bt.I':setAt i.enc 1 [.int .i64 x]=(bt.mk i.op x i.c).enc:=by rw[bt.enc,jl,lM,oD,l8];rfl
def bt.Zg:bW 8 (i.enc.drop 2)=true:=by show bW 8 i.c.enc=aa;exact bg.gi
def bt.I_:setAt i.enc 2 e.enc=(bt.mk i.op i.n e).enc:=by rw[bt.enc,jl,jl,lM,bg.fO];rfl
def bt.pQ:fE [1,1,1,1,1,1,1,1,1,1] i.enc j.enc=U (decide (i=j)):=by
 rw[bt.enc,bt.enc,xr,xr,bg.pQ,vF,vF];congr 1;rw[<-wW,<-wW];exact rE.2 ⟨λh=>bt.ext' h.1 h.2.1 h.2.2,λh=>h▸⟨rfl,rfl,rfl⟩⟩
def bt.an:=af @bt.cN <| af @bt.fU <| af @bt.dq <| af @bt.dk <| af @bt.cE <| af @bt.fh <| af @bt.gN <| af @bt.gi <| af @bt.fO <| af @bt.r_o <| af @bt.tB <| af @bt.aoI <| af @bt.wF <| af @bt.Zj <| af @bt.CG <| af @bt.Zf <| af @bt.I' <| af @bt.Zg <| af @bt.I_ @bt.pQ
end
def Mn(l:List dT)(t:List UInt8)(i:Nat):Bool:=match l[i]? with | some x=>decide (x.name=t) | none=>ak
def Mo(l:List dU)(t:List UInt8)(i:Nat):Bool:=match l[i]? with | some x=>decide (x.name=t) | none=>ak
def iq(l:List dT)(t:List UInt8):Option Nat:=(cc l.length).find? (Mn l t)
def kb(l:List dU)(t:List UInt8):Option Nat:=(cc l.length).find? (Mo l t)
def wP(s:aI)(lat:Nat)(t:List UInt8):Option bt :=
 match kb s.vars t with
 | none=>ae
 | some k => match s.vars[k]? with
  | some v=>if v.kind=1/\v.lat=(lat:Nat) then U ⟨1,k,.zero⟩ else ae
  | none=>ae
def vf(s:aI)(lat:Nat):bC:=match s.bu[lat]? with | some l=>l.shape | none=>⟨ak,[]⟩
def mW(s:aI)(lat:Nat)(n:Nd):Option bt :=
 if n.kind=1 then wP s lat n.al
 else match (im (vf s lat) (n.ah.getD 0 jX)).2 with | none=>U ⟨2,0,(im (vf s lat) (n.ah.getD 0 jX)).1⟩ | some _=>ae
def r_(n:Nd):bt:=⟨if n.kind=9 then 4 else 3,n.ah.length,.zero⟩
mutual
def mQ(s:aI)(lat:Nat):Nd->Option (List bt)
 | .mk k p t ws ks=>if k=1\/k=7 then(mW s lat (.mk k p t ws ks)).map λi=>[i] else(p8 s lat ks).map λl=>l++[r_ (.mk k p t ws ks)]
def p8(s:aI)(lat:Nat):List Nd->Option (List bt)
 | []=>U []
 | n::ns=>match mQ s lat n with | none=>ae | some l=>(p8 s lat ns).map λm=>l++m
end
variable{lat:Nat}
def Jr{s:aI}(n:Nd):mQ s lat n=if n.kind=1\/n.kind=7 then(mW s lat n).map λi=>[i] else(p8 s lat n.ah).map λl=>l++[r_ n]:=by
 cases n;rw[mQ];rfl
def ml(s:aI)(lat:Int)(n:Nd):Option (List bt):=if 0<=lat/\lat<s.bu.length/\n.eU=aa then mQ s lat.toNat n else ae
def Al(s:aI)(lat:Nat)(f:Nd × Nat):Option (List bt) :=
 if f.1.kind=1\/f.1.kind=7 then(mW s lat f.1).map λi=>[i] else(p8 s lat (f.1.ah.drop f.2)).map λl=>l++[r_ f.1]
def Vr{s:aI}{n:Nd}:Al s lat (n,0)=mQ s lat n:=by rw[Al,Jr];simp
def rH(s:aI)(lat:Nat):List (Nd × Nat)->List bt->Option (List bt)
 | [],out=>U out
 | f::fs,out=>match Al s lat f with | none=>ae | some l=>rH s lat fs (out++l)
variable{d:Nat}
def ao3{s:aI}{n:Nd}{fs:List (Nd × Nat)}{out:List bt}(h:¬(n.kind=1\/n.kind=7))(hd:d<n.ah.length):
 rH s lat ((n,d)::fs) out=rH s lat ((n.ah[d],0)::(n,d+1)::fs) out:=by
 simp only[rH,Vr];rw[Al,aB h,Al,aB h,mi hd,p8];cases mQ s lat n.ah[d] with
 | none=>rfl
 | some l =>
  cases p8 s lat (n.ah.drop (d+1)) with
  | none=>rfl
  | some m=>simp only[vC,dZ]
def ao2{s:aI}{n:Nd}{fs:List (Nd × Nat)}{out:List bt}(h:¬(n.kind=1\/n.kind=7))(hd:n.ah.length<=d):
 rH s lat ((n,d)::fs) out=rH s lat fs (out++[r_ n]):=by
 simp only[rH];rw[Al,aB h,OM hd,p8];rfl
def ao4{s:aI}{n:Nd}{fs:List (Nd × Nat)}{out:List bt}(h:n.kind=1\/n.kind=7):
 rH s lat ((n,d)::fs) out=match mW s lat n with | none=>ae | some i=>rH s lat fs (out++[i]):=by
 simp only[rH];rw[Al,aD h];cases mW s lat n<;>rfl
def pG:List (Nd × Nat)->Nat
 | []=>0
 | f::fs=>2*f_ (f.1.ah.drop f.2)+1+pG fs
def Nd.sE(n:Nd):1+f_ n.ah<=n.cw:=by cases n;simp only[Nd.cw,Nd.ah];omega
def T5{n:Nd}{fs:List (Nd × Nat)}(hd:d<n.ah.length):pG ((n.ah[d],0)::(n,d+1)::fs)<pG ((n,d)::fs):=by
 simp only[pG,IF]
 have:=Nd.sE n.ah[d]
 rw[mi hd,f_];omega
mutual
def Qe{s:aI}{lat:Nat}:∀(n:Nd) {l:List bt},mQ s lat n=U l->l.length<=n.cw
 | .mk k p t ws ks, l, h => by
  rw[mQ] at h;split at h
  .simp only[cZ] at h;obtain⟨i,_,rfl⟩:=h;simp only[Nd.cw,db,ei];omega
  .simp only[cZ] at h;obtain⟨m,hm,rfl⟩:=h
   have:=Qf ks hm
   simp only[Nd.cw,bI,db,ei];omega
def Qf{s:aI}{lat:Nat}:∀(ks:List Nd) {l:List bt},p8 s lat ks=U l->l.length<=f_ ks
 | [],l,h=>by rw[p8] at h;cases h;simp
 | n :: ns, l, h => by
  rw[p8] at h;cases hn:mQ s lat n with
  | none=>rw[hn] at h;simp at h
  | some a =>
   rw[hn] at h;simp only[cZ] at h;obtain⟨b,hb,rfl⟩:=h
   have:=Qe n hn
   have:=Qf ns hb
   simp only[f_,bI];omega
end
def CO(n:Nd):n.aj.length<=n.cw:=by cases n;simp only[Nd.cw,Nd.aj];omega
def P9{m:Nd}:∀{l:List Nd},m∈l->m.cw<=f_ l
 | [],h=>by simp at h
 | n :: l, h => by
  simp only[f_]
  rcases kA.1 h with rfl | h
  .omega
  .have:=P9 h;omega
def qG{n m:Nd}(h:m∈n.ah):m.cw<n.cw:=by
 have:=P9 h
 have:=Nd.sE n;omega
def Jp:∀(l:List Nd),l.length<=f_ l
 | []=>by simp
 | n :: l => by
  have:=Jp l
  have:=Nd.sE n
  simp only[f_,db];omega
def y7(n:Nd):n.ah.length<=n.cw:=by
 have:=Jp n.ah
 have:=Nd.sE n;omega
def aI.ok(s:aI):Prop:=s.bu.length<=100000/\s.vars.length<=100000/\∀l∈s.bu,l.shape.ok
def Tf{n:Nd}(h:n.eU=aa)(h1:¬(n.kind=1\/n.kind=7)):∀m∈n.ah,m.eU=true:=by
 rw[Nd.s9,aB (λe=>h1 (.inl e)),aB (λe=>h1 (.inr e))] at h;split at h
 .simp only[bA,lf] at h;exact h.2
 .simp at h
def DQ{n:Nd}(h:n.eU=aa)(h1:n.kind=7):n.ah.length=1:=by
 rw[Nd.s9,aB (by rw[h1];decide),aD h1] at h;simp only[bA,b7] at h;omega
def aaS(s:aI)(lat:Int)(n:Nd):((ml s lat n).getD []).length<=n.cw:=by
 cases h:ml s lat n with
 | none=>simp
 | some l =>
  rw[ml] at h;split at h
  .exact Qe n h
  .simp at h
def atr(s:bC)(op:Int)(a b:bg):bg:=if op=3 then ajk s a b else alq a b
structure aL where
 cls:Int
 aC:Int
def aL.zero:aL:=⟨0,0⟩
def aL.ext'{a b:aL}(h:a.cls=b.cls)(k:a.aC=b.aC):a=b:=by cases a;cases b;simp only at h k;subst h;subst k;rfl
instance:DecidableEq aL:=λa b=>if h:a.cls=b.cls/\a.aC=b.aC then isTrue (aL.ext' h.1 h.2) else isFalse λe=>h ⟨e▸rfl,e▸rfl⟩
def aL.enc(f:aL):List V:=[.int .i64 f.cls,.int .i64 f.aC]
section
variable {f g:aL} {n:Nat} {a b:V}
theorem aL.cN:f.enc.length=2:=rfl
theorem aL.fU:cB f.enc=true:=rfl
theorem aL.dq:bH f.enc=true:=rfl
theorem aL.dk:bw f.enc=f.enc:=rfl
theorem aL.cE:bQ n f.enc=true:=rfl
theorem aL.fh:takeN 2 f.enc=U f.enc:=rfl
theorem aL.gN:bD aa 2 f.enc=U (.agg f.enc):=rfl
theorem aL.gi:bW 2 f.enc=true:=rfl
theorem aL.fO:over g.enc f.enc=f.enc:=rfl
theorem aL.aoM:over [a,b] f.enc=f.enc:=rfl
theorem aL.M8:bD ak 1 f.enc=U (.int .i64 f.cls):=rfl
theorem aL.r_p:bD ak 1 (f.enc.drop 1)=U (.int .i64 f.aC):=rfl
def aL.pQ:fE [1,1] f.enc g.enc=U (decide (f=g)):=by
 rw[aL.enc,aL.enc,xr,xr,QM,vF,vF];congr 1;rw[vp,<-wW];exact rE.2 ⟨λh=>aL.ext' h.1 h.2,λh=>h▸⟨rfl,rfl⟩⟩
def aL.an:=af @aL.cN <| af @aL.fU <| af @aL.dq <| af @aL.dk <| af @aL.cE <| af @aL.fh <| af @aL.gN <| af @aL.gi <| af @aL.fO <| af @aL.aoM <| af @aL.M8 <| af @aL.r_p @aL.pQ
end
def uU(xk f:aL):Bool:=decide (xk.cls=0)||decide (f.cls<xk.cls)||(decide (f.cls=xk.cls)&&decide (f.aC<xk.aC))
def kE(xk f:aL):aL:=if f.cls=0 then xk else if uU xk f then f else xk
def fS(l:List aL):aL:=l.foldl kE .zero
def s_(a b:aL):Prop:=a.cls<b.cls\/(a.cls=b.cls/\a.aC<=b.aC)
def Hc(a:aL):s_ a a:=.inr ⟨rfl,Iz _⟩
def Tq{a b c:aL}(h:s_ a b)(k:s_ b c):s_ a c:=by unfold s_ at *;omega
def L2:∀(l:List aL) (o:aL),(l.foldl kE o=o\/(l.foldl kE o∈l/\(l.foldl kE o).cls≠0))/\(o.cls≠0->(l.foldl kE o).cls≠0/\s_ (l.foldl kE o) o)/\∀f∈l,f.cls≠0->(l.foldl kE o).cls≠0/\s_ (l.foldl kE o) f
 | [],o=>⟨.inl rfl,λh=>⟨h,Hc o⟩,by simp⟩
 | f :: l, o => by
  obtain⟨h1,h2,h3⟩:=L2 l (kE o f);rw[yO];have hb:kE o f=o\/(kE o f=f/\f.cls≠0):=by
   unfold kE
   by_cases h:f.cls=0
   .rw[aD h];exact .inl rfl
   .rw[aB h];split
    .exact .inr ⟨rfl,h⟩
    .exact .inl rfl
  have ho:o.cls≠0->(kE o f).cls≠0/\s_ (kE o f) o:=λh=>by
   unfold kE
   by_cases hf:f.cls=0
   .rw[aD hf];exact⟨h,Hc o⟩
   .rw[aB hf];split
    .rename_i hl;refine⟨hf,?_⟩;simp only[uU,mg,bA,b7] at hl;unfold s_;omega
    .exact⟨h,Hc o⟩
  have hf:f.cls≠0->(kE o f).cls≠0/\s_ (kE o f) f:=λh=>by
   unfold kE;rw[aB h];split
   .exact⟨h,Hc f⟩
   .rename_i hl;simp only[uU,mg,bA,b7] at hl;unfold s_;exact⟨by omega,by omega⟩
  refine⟨?_,λh=>?_,λg hg hc=>?_⟩
  .rcases h1 with h1 | ⟨h1,vR⟩
   .rw[h1]
    rcases hb with hb | ⟨hb,b8⟩
    .exact .inl hb
    .rw[hb];exact .inr ⟨by simp,b8⟩
   .exact .inr ⟨by simp[h1],vR⟩
  .obtain⟨k1,k2⟩:=ho h;obtain⟨k3,k4⟩:=h2 k1;exact⟨k3,Tq k4 k2⟩
  .rcases kA.1 hg with rfl | hg
   .obtain⟨k1,k2⟩:=hf hc;obtain⟨k3,k4⟩:=h2 k1;exact⟨k3,Tq k4 k2⟩
   .exact h3 g hg hc
def L1{a:List aL}(h:(fS a).cls=0):fS a = .zero/\∀f∈a,f.cls=0:=by
 obtain⟨a1,_,a3⟩:=L2 a .zero;refine⟨?_,λf hf=>Classical.byContradiction λhc=>(a3 f hf hc).1 h⟩
 rcases a1 with e | ⟨_,e⟩
 .exact e
 .exact absurd h e
def Tu{a:List aL}(h:∀f∈a,f.cls=0):fS a = .zero:=by
 rcases(L2 a .zero).1 with e | ⟨e,e'⟩
 .exact e
 .exact absurd (h _ e) e'
def ake{l:List aL}(hi:i<l.length):fS (l.take (i+1))=kE (fS (l.take i)) l[i]:=by
 rw[fS,jr hi,AS];rfl
def Q2{l:List dU}{t:List UInt8}(h:kb l t=U k):k<l.length:=by
 unfold kb at h;simpa using O0 h
structure Wht where
 lat:Int
 v:List bg
 w:List bg
def XE(v r:V):List V->List V->Prop
 | [],[]=>True
 | x::xs,y::ys=>(y=x\/(x=v/\y=r)\/y = .any)/\XE v r xs ys
 | _,_=>False
def FU{F:Nat->O->St}{J:Nat->O->Prop}(n:Nat)(h:∀Z,D.aJ Z=ae->∃x,J 0 x/\dY Z n t (F 0 x).t/\l=(F 0 x).aC/\(F 0 x).out=D.aR Z n):AP F J ⟨t,l,D⟩ :=
 (bm.Ay (ι:={x // J 0 x}) (I:=λx=>F 0 x.1) n λZ bp=>by
   obtain⟨x,h1,h2,h3,h4⟩:=h Z bp;exact⟨⟨x,h1⟩,h2,h3,h4⟩).mono λ_ ⟨x,e⟩=>⟨x.1,x.2,e⟩
def wY(Z n:Nat):List (List V)->List (List V)->Prop
 | [],[]=>True
 | c::l,c' :: l' => dY Z n c c' /\ wY Z n l l'
 | _,_=>False
variable{Z:Nat}
def wY.spec{n:Nat}:∀{l l' : List (List V)},wY Z n l l' -> l.length=l'.length/\∀(i:Nat) c',l'[i]?=U c' -> ∃c,l[i]?=U c/\dY Z n c c'
 | [],[],_=>⟨rfl,λi c' h=>by simp at h⟩
 | [],_::_,h=>h.elim
 | _::_,[],h=>h.elim
 | c :: l, c' :: l', h => by
  obtain⟨h1,h2⟩:=wY.spec h.2;refine⟨by simp[h1],λi d hd=>?_⟩;cases i with
  | zero=>simp at hd;subst hd;exact⟨c,rfl,h.1⟩
  | succ i=>exact h2 i d (by simpa using hd)
theorem akS{n:Nat}:wY Z n [] []=True:=rfl
variable{l':List (List V)}
theorem akR{n:Nat}{c':List V}:wY Z n (c::l) (c' :: l')=(dY Z n c c' /\ wY Z n l l'):=rfl
def L9:=af @akS @akR
def JE{F:Nat->O->St}{J:Nat->O->Prop}(n:Nat)(h:∀Z,D.aJ Z=ae->∃x,J 0 x/\dY Z n t (F 0 x).t/\wY Z n l (F 0 x).aC/\(F 0 x).out=D.aR Z n):AP F J ⟨t,l,D⟩ :=
 bm.tok n λZ bp=>by
  obtain⟨x,h1,h2,h3,h4⟩:=h Z bp;obtain⟨k1,k2⟩:=h3.spec;exact⟨_,_,D,h2,k1,k2,pZ.rfl,x,h1,by rw[<-h4]⟩
def Ut:∀{a b:List V},cB (a++b)=(cB a&&cB b)
 | [],b=>by simp[cB]
 | x::a,b=>by simp[cB,Ut,Bool.and_assoc]
def delta(l:List Tok)(i:Nat):Int:=(if closing (eK l i)≠0 then 1 else 0) - (if kG (eK l i)=aa then 1 else 0)
def tu{l:List Tok}{x n:Nat}{d:Int}:jj l x (n+1) i d=if d+delta l i=0 then i else jj l x n (i+1) (d+delta l i):=by
 simp only[jj,delta];have e:d+(if closing (eK l i)≠0 then 1 else 0) - (if kG (eK l i)=aa then 1 else 0)=d+((if closing (eK l i)≠0 then 1 else 0) - (if kG (eK l i)=aa then 1 else 0)):=by omega
 rw[e];rfl
def Qt(l:List Tok)(i:Nat) : -1<=delta l i:=by unfold delta;split<;>split<;>omega
def CR{l:List Tok}(h:closing (eK l i)≠0):delta l i=1:=by
 unfold delta
 have:kG (eK l i)=false:=by
  unfold closing at h;unfold kG;split at h
  .rename_i hk;rw[hk];decide
  .split at h
   .rename_i hk;rcases hk with hk | hk<;>rw[hk]<;>decide
   .exact absurd rfl h
 rw[this,aD h];simp
def MM{l:List Tok}{x:Nat}:∀(n i:Nat) (d:Int),jj l x n i d=x\/i<=jj l x n i d
 | 0,_,_=>.inl rfl
 | n + 1, i, d => by
  rw[tu];split
  .exact .inr (bL _)
  .rcases MM n (i+1) (d+delta l i) with h | h
   .exact .inl h
   .exact .inr (by omega)
def scan{l:List Tok}{x j:Nat}:∀(n i:Nat) (d:Int),i+n=l.length->1<=d->x<i->i<=j->j<jj l x n i d->∃d',1<=d' /\ jj l x n i d=jj l x (l.length - j) j d'
 | 0,i,d,_,_,hx,hj,h=>by simp only[jj] at h;omega
 | n + 1, i, d, hl, hd, hx, hj, h => by
  by_cases KM:i=j
  .subst KM;exact⟨d,hd,by rw[show l.length - i=n+1 by omega]⟩
  rw[tu] at h ⊢;split at h
  .omega
  .rename_i he;rw[aB he]
   have:=Qt l i
   exact scan n (i+1) _ (by omega) (by omega) (by omega) (by omega) h
def less{l:List Tok}{x y:Nat}:∀(n p:Nat) (a b:Int),1<=a->a<b->y<p->x<p->p<=jj l x n p b->jj l y n p a<jj l x n p b
 | 0,p,a,b,_,_,_,hx,h=>by simp only[jj] at h;omega
 | n + 1, p, a, b, ha, hb, hy, hx, h => by
  have hd:=Qt l p;simp only[tu] at h ⊢;rw[aB (show ¬b+delta l p=0 by omega)] at h ⊢;have h2:p+1<=jj l x n (p+1) (b+delta l p):=by rcases MM (l:=l) (x:=x) n (p+1) (b+delta l p) with e | e<;>omega
  split
  .omega
  .exact less n (p+1) _ _ (by omega) (by omega) (by omega) (by omega) h2
def nest{l:List Tok}(hi:closing (eK l i)≠0)(hj:closing (eK l j)≠0)(h1:i<j)(h2:j<partner l i)(hl:i<l.length):partner l j<partner l i:=by
 have hp:=HH hl;have e:partner l i=jj l i (l.length - i - 1) (i+1) 1:=by
  unfold partner;rw[show l.length - i=(l.length - i - 1)+1 by omega,tu,CR hi];simp
 rw[e] at h2;obtain⟨d,hd,e2⟩:=scan (l.length - i - 1) (i+1) 1 (by omega) (by omega) (by omega) (by omega) h2;have e3:jj l i (l.length - j) j d=jj l i (l.length - j - 1) (j+1) (d+1):=by
  rw[show l.length - j=(l.length - j - 1)+1 by omega,tu,CR hj,aB (by omega)];simp
 have e4:partner l j=jj l j (l.length - j - 1) (j+1) 1:=by
  unfold partner;rw[show l.length - j=(l.length - j - 1)+1 by omega,tu,CR hj];simp
 rw[e,e2,e3,e4];rw[e2,e3] at h2;exact less _ _ _ _ (by omega) (by omega) (by omega) (by omega) (by rcases MM (l:=l) (x:=i) (l.length - j - 1) (j+1) (d+1) with e | e<;>omega)
def XZ(l:List Tok)(i to:Nat):Prop:=∀j,i<=j->j<to->closing (eK l j)≠0->partner l j<to
def Ic{l:List Tok}:∀(n i to:Nat),to<=l.length->XZ l i to->a9 (nr l n i to)<=to - i
 | 0,_,_,_,_=>by simp[nr,a9]
 | n + 1, i, to, hl, hw => by
  rw[nr];split
  .rename_i hi;split
   .rename_i hc;have hp:=HH (l:=l) (i:=i) (by omega);have hq:=hw i (bL _) hi hc;have h1:=Ic n (i+1) (partner l i) (by omega) λj a b c=>nest hc c (by omega) b (by omega)
    have h2:=Ic n (partner l i+1) to hl λj a b c=>hw j (by omega) b c
    simp only[a9,ar.many];omega
   .have h2:=Ic n (i+1) to hl λj a b c=>hw j (by omega) b c
    simp only[a9,ar.many];omega
  .simp[a9]
def uc(t:Tok):Prop:=(t.kind=97/\dy t.al=aa)\/(t.kind≠97/\t.al=[UInt8.ofNat t.kind.toNat])
def BQ:∀(n p:Nat) (r:List UInt8) (acc:List Tok),(∀t∈acc,uc t)->∀t∈(e9 n p r acc).1,uc t
 | 0,_,r,acc,h=>by cases r<;>simpa [e9] using h
 | n+1,p,[],acc,h=>by simpa [e9] using h
 | n + 1, p, c :: r, acc, h => by
  simp only[e9];split
  .exact h
  .split
   .rename_i hr;refine BQ n _ _ _ λt ht=>?_
    rcases jE.1 ht with ht | ht
    .exact h t ht
    .rw[o_.1 ht];exact .inl ⟨rfl,hr.2⟩
   .split
    .rename_i hs;refine BQ n _ _ _ λt ht=>?_
     rcases jE.1 ht with ht | ht
     .exact h t ht
     .rw[o_.1 ht];refine .inr ⟨λe=>?_,?_⟩
      .simp only at e;rw[e] at hs;revert hs;decide
      .simp
    .split
     .exact BQ n _ _ _ h
     .simp
mutual
def ar.Good:ar->Prop
 | .mk t ks _=>uc t/\(closing t.kind=0->ks=[])/\ec ks
def ec:List ar->Prop
 | []=>True
 | t::ts=>t.Good/\ec ts
end
def J1:∀{a b:List ar},ec (a++b)↔ec a/\ec b
 | [],b=>by simp[ec]
 | t::ts,b=>by simp only[gE,ec,J1 (a:=ts),I2]
def xz(t:ar):t.Good↔uc t.tok/\(closing t.tok.kind=0->t.ah=[])/\ec t.ah:=by cases t;simp only[ar.Good,ar.tok,ar.ah]
def Ib{l:List Tok}(h:∀t∈l,uc t):∀(n i to:Nat),to<=l.length->ec (nr l n i to)
 | 0,_,_,_=>by simp[nr,ec]
 | n + 1, i, to, hl => by
  rw[nr];split
  .rename_i hi;have ht:uc (iY l i):=by
    have e:iY l i=l[i]:=by simp[iY,cH (show i<l.length by omega)]
    rw[e];exact h _ (fu _)
   have hk:(iY l i).kind=eK l i:=by simp only[iY,eK];split<;>rfl
   split
   .rename_i hc;have hp:=HH (l:=l) (i:=i) (by omega);simp only[ec,ar.Good];exact⟨⟨ht,λe=>absurd (hk▸e) hc,Ib h n _ _ (by omega)⟩,Ib h n _ _ hl⟩
   .simp only[ec,ar.Good];exact⟨⟨ht,λ_=>trivial,trivial⟩,Ib h n _ _ hl⟩
  .exact trivial
def TH(s:List UInt8):ec (gQ (dG s).1).1:=by
 unfold gQ;split
 .exact trivial
 .exact Ib (BQ _ _ _ _ (by simp)) _ _ _ (bL _)
def TI(s:List UInt8):a9 (gQ (dG s).1).1<=s.length:=by
 have hl:=Tx s;unfold gQ;split
 .simp[a9]
 .have:=Ic (l:=(dG s).1) (dG s).1.length 0 (dG s).1.length (bL _) λj _ hj _=>(HH hj).2
  simp only;omega
def aq'{t:Tok}(h:uc t):t.al.length<=16:=by
 rcases h with ⟨_,h⟩ | ⟨_,h⟩
 .unfold dy at h;simp only[bA,b7] at h;exact h.1
 .rw[h];simp
structure ib(r r' : ab)(seg:List ar):Prop where
 ex:∃pre post,r.l=pre++seg++post/\r.at_=(pre.length:Nat)/\r'.at_=((pre++seg).length:Nat)
 l:r'.l=r.l
 b:r.aE=ae
 b' : r'.aE=ae
variable{r:ab}
def ib.trans{r' Vi:ab}{a b:List ar}(h:ib r r' a)(k:ib r' Vi b):ib r Vi (a++b):=by
 obtain⟨pre,post,e1,e2,e3⟩:=h.ex;obtain⟨MV,U4,f1,f2,f3⟩:=k.ex;refine⟨⟨pre,U4,?_,e2,?_⟩,k.l.trans h.l,h.b,k.b'⟩
 .have hl:(pre++a).length=MV.length:=by omega
  have:pre++a++post=MV ++ (b++U4):=by rw[<-e1,<-h.l,f1,dZ]
  obtain⟨g1,g2⟩:=List.append_inj this hl;rw[e1,g2];simp
 .rw[f3];have hl:(pre++a).length=MV.length:=by omega
  simp only[bI] at hl ⊢;omega
def ib.kc{r':ab}{a:List ar}(h:ib r r' a)(hg:ec r.l):ec a:=by
 obtain⟨pre,post,e1,_,_⟩:=h.ex;rw[e1,J1,J1] at hg;exact hg.1.2
def nq{k:Int}(h:(r.take k).2.aE=ae):ib r (r.take k).2 [(r.take k).1]/\(r.take k).1.tok.kind=k:=by
 rcases r.tJ k with ⟨hs,h1,h2,h3,h4⟩ | ⟨_,_,h1⟩
 .have dh := hs;simp only[ab.bR,ab.ok,bx,bA,b7,Cx] at dh;have az:r.at_.toNat<r.l.length:=by omega
  have e:(r.take k).1=r.l[r.at_.toNat]:=by simp[ab.take,hs,gU,cH az]
  refine⟨⟨⟨r.l.take r.at_.toNat,r.l.drop (r.at_.toNat+1),?_,?_,?_⟩,r.ft k,dh.1,h2⟩,?_⟩
  .rw[e,dZ,mN,<-mi az,qy]
  .rw[iP];omega
  .rw[h1,bI,iP,gv];omega
  .rw[e]
   have:=dh.2.2
   rw[cH az] at this;simpa using this
 .exact absurd h h1
def iN(l:List ar):Nat:=26*a9 l
def wJ(a b:List ar):iN (a++b)=iN a+iN b:=by simp only[iN,r7];omega
def tI(t:ar):iN [t]=26+iN t.ah:=by simp only[iN,a9,Mj];omega
def WS{t:Tok}(ht:t.kind≠97):∀(a:List Tok) (k:Option Int) (b:List Tok),iO k (a++t::b)=iO k a++t.al++iO ae b
 | [], k, b => by
  simp only[fY,iO,ht,and_false,ck];cases b with
  | nil=>rfl
  | cons u us=>simp only[iO,aY,ht,CW,ck,reduceCtorEq]
 | x::xs,k,b=>by simp only[gE,iO,WS ht xs (U x.kind) b,dZ]
def N2{t:Tok}(ht:t.kind≠97)(a b:List Tok):eW (a++t::b)=eW a++t.al++eW b:=WS ht a ae b
def g_:∀a b:List ar,bj (a++b)=bj a++bj b
 | [],b=>rfl
 | t::ts,b=>by simp only[gE,bj,g_ ts b,dZ]
def F5(t:ar):bj [t]=t.tok::(if closing t.tok.kind≠0 then bj t.ah++[⟨closing t.tok.kind,[UInt8.ofNat (closing t.tok.kind).toNat],t.fin⟩] else []):=by
 cases t;simp only[bj,ar.flat,eg,ar.tok,ar.ah,ar.fin];rfl
def wN{t:ar}(hk:t.tok.kind≠97)(hc:closing t.tok.kind=0)(a b:List ar):eW (bj (a++[t]++b))=eW (bj a)++t.tok.al++eW (bj b):=by
 rw[g_,g_,F5,hc];simp only[ne_eq,Hx,ck,dZ,mN];rw[<-dZ (eW (bj a))];exact N2 hk _ _
def aq5{t:ar}(hk:t.tok.kind=97):eW (bj [t])=t.tok.al:=by
 rw[F5,hk,show closing 97=0 from rfl];simp[eW,iO]
def B7{t:ar}(hc:closing t.tok.kind≠0):eW (bj [t])=t.tok.al++eW (bj t.ah)++[UInt8.ofNat (closing t.tok.kind).toNat]:=by
 have hk:t.tok.kind≠97:=λe=>hc (by rw[e];rfl)
 have rM:closing t.tok.kind≠97:=by unfold closing;split;omega;split;omega;omega
 rw[F5,aD hc];have h1:=N2 hk [] (bj t.ah++[⟨closing t.tok.kind,[UInt8.ofNat (closing t.tok.kind).toNat],t.fin⟩]);rw[fY] at h1;rw[h1,N2 rM];simp[eW,iO]
def Sound(one:ab->G × ab)(T:G->List UInt8)(Q:G->Prop)(S:G->Nat):Prop :=
 ∀r,ec r.l->(one r).2.aE=ae->∃seg,ib r (one r).2 seg/\eW (bj seg)=T (one r).1/\Q (one r).1/\S (one r).1<=iN seg
def Ry{step:ab × List G->ab × List G}:∀{n:Nat} {a:ab × List G},(iG step n a).1.aE=ae->a.1.aE=ae
 | 0,a,h=>h
 | n + 1, a, h => by
  rw[iG] at h;split at h
  .rename_i hs;simp only[ab.bR,ab.ok,bA,Cx] at hs;exact hs.1
  .exact h
section
variable {G:Type} {one:ab->G × ab} {T:G->List UInt8} {Q:G->Prop} {S:G->Nat}
structure Has(T:G->List UInt8)(Q:G->Prop)(S:G->Nat)(seg:List ar)(xs:List G):Prop where
 t:eW (bj seg)=cz (xs.map T)
 q:∀x∈xs,Q x
 s:(xs.map S).sum<=iN seg
 n:0<xs.length
def RB(hs:Sound one T Q S){r:ab}(hg:ec r.l):∀{n:Nat} {a:ab × List G} {seg:List ar},ib r a.1 seg->Has T Q S seg a.2->(iG (b_ one) n a).1.aE=ae ->
 ∃Wc,ib r (iG (b_ one) n a).1 Wc /\ Has T Q S Wc (iG (b_ one) n a).2
 | 0,a,seg,h,k,_=>⟨seg,h,k⟩
 | n + 1, a, seg, h, k, hb => by
  rw[iG] at hb ⊢;split
  .rename_i aiJ;rw[aD aiJ] at hb;have fg:=Ry hb;have Dk:ec (a.1.take 44).2.l:=by rw[ab.ft,h.l];exact hg
   obtain⟨sg,e1,e2,e3,e4⟩:=hs (a.1.take 44).2 Dk fg;obtain⟨t1,t2⟩:=nq e1.b;refine RB hs hg (seg:=seg++[(a.1.take 44).1]++sg) ?_ ?_ hb
   .exact(h.trans t1).trans e1
   .have lx:ec [(a.1.take 44).1]:=t1.kc (by rw[h.l];exact hg);have b9:=((xz _).1 lx.1).1;have xU:(a.1.take 44).1.tok.al=[44]:=by
     rcases b9 with ⟨h1,_⟩ | ⟨_,h1⟩
     .omega
     .rw[h1,t2];rfl
    refine⟨?_,?_,?_,?_⟩
    .rw[wN (by rw[t2];decide) (by rw[t2];rfl),k.t,e2,xU];simp only[b_,fX,bX,eC];rw[S_,aD (by simpa using k.n)]
    .intro x hx
     rcases jE.1 hx with hx | hx
     .exact k.q x hx
     .rw[o_.1 hx];exact e3
    .have:=k.s
     simp only[b_,fX,bX,eC,List.sum_append,mO,rA,wJ];omega
    .simp[b_]
  .exact⟨seg,h,k⟩
def Wx(hs:Sound one T Q S)(hg:ec r.l)(hb:(dJ (b_ one) r).1.aE=ae):∃seg,ib r (dJ (b_ one) r).1 seg/\Has T Q S seg (dJ (b_ one) r).2:=by
 unfold dJ at hb ⊢;have fg:=Ry hb;obtain⟨sg,e1,e2,e3,e4⟩:=hs r hg fg;refine RB hs hg e1 ?_ hb;refine⟨?_,?_,?_,?_⟩
 .simp only[b_,fY,bX,eC,cz,OS,eg];exact e2
 .intro x hx;simp only[b_,fY,o_] at hx;rw[hx];exact e3
 .simp only[b_,fY,bX,eC,mO,rA];omega
 .simp[b_]
def Jl{i:ab}(h:i.close.aE=ae):i.aE=ae/\¬i.at_<i.l.length:=by
 unfold ab.close at h;split at h
 .exact absurd h i.FZ
 .rename_i hc;refine⟨h,λhl=>hc ⟨by simp[ab.ok,h],hl⟩⟩
def Pj{t:ar}{i:ab}{seg:List ar}(h:ib t.inner i seg)(hc:i.close.aE=ae):seg=t.ah:=by
 obtain⟨pre,post,e1,e2,e3⟩:=h.ex;obtain⟨_,h2⟩:=Jl hc;have hp:pre=[]:=by
  have:t.inner.at_=0:=rfl
  rw[this] at e2;exact jq.1 (by omega)
 subst hp;have hq:post=[]:=by
  rw[h.l,e3,e1] at h2;simp only[fY,bI] at h2;exact jq.1 (by omega)
 subst hq;simpa [ar.inner] using e1.symm
def Jb(hs:Sound one T Q S){k:Int}{e:Bool}(hg:ec r.l)(hb:(r.bracket (b_ one) k e).2.aE=ae):
 ∃t,ib r (r.bracket (b_ one) k e).2 [t]/\t.tok.kind=k/\eW (bj t.ah)=cz ((r.bracket (b_ one) k e).1.1.map T)/\(∀x∈(r.bracket (b_ one) k e).1.1,Q x)/\((r.bracket (b_ one) k e).1.1.map S).sum<=iN t.ah /\
  (e=ak->0<(r.bracket (b_ one) k e).1.1.length):=by
 unfold ab.bracket at hb ⊢;split
 .rename_i b9;rw[aD b9] at hb;have fg:(r.take k).2.aE=none:=by simpa [ab.ok] using b9
  obtain⟨t1,t2⟩:=nq fg;have lx:(r.take k).1.Good:=(t1.kc hg).1;have v8:ec (r.take k).1.ah:=((xz _).1 lx).2.2;have dw:(ab.inside (b_ one) e (r.take k).1).1.close.aE=none:=hb;refine⟨(r.take k).1,⟨t1.ex,t1.l,t1.b,hb⟩,t2,?_⟩;simp only;generalize (r.take k).1=t at *;unfold ab.inside at dw ⊢;split
  .rename_i he;have hk:t.ah=[]:=jq.1 he.2;rw[hk];refine⟨rfl,by simp,by simp,λh=>?_⟩;rw[h] at he;simp at he
  .rename_i he;rw[aB he] at dw;obtain⟨seg,e1,e2⟩:=Wx hs (r:=t.inner) v8 (Jl dw).1;have K_:=Pj e1 dw;subst K_;exact⟨e2.t,e2.q,e2.s,λ_=>e2.n⟩
 .rename_i b9;rw[aB b9] at hb;exact absurd hb (by simpa [ab.ok] using b9)
end
end Go.Am
