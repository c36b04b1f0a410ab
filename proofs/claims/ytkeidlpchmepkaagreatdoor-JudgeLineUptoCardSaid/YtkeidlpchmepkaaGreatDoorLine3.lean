/-
  Part 3 of the proof of JudgeLineUptoCardSaid: a logic over the model, the forms of the functions that the law reaches, and what they compute.
-/
import Derived.IntWalk
import Derived.Test.YtkeidlpchmepkaaGreatDoorLine2
set_option linter.unusedVariables false
set_option linter.unusedSimpArgs false
set_option linter.defProp false
set_option linter.unusedSectionVars false
set_option maxRecDepth 4000
set_option maxHeartbeats 4000000
open Option renaming some->U,none->ah
open Bool renaming true->aa,false->aq
open List renaming replicate->aj,range->bG,getD->gy,zipWith->lQ
open Eq renaming mpr->cI
open Ne renaming symm->fL
namespace Go.Am
section
variable {P:Program} {d:Option Nat} {r:List AO} {K:St->Prop} {t:List V} {l:List (List V)} {Z:ab} {x y z:X} {Q:Exit->St->Prop} {st:St} {a b:AC}
theorem atD:vc P .skip Q st=Q .normal st:=rfl
theorem atz{o:List AO}:vc P (.FZ o) Q st=cj P o (Q .normal) st:=rfl
theorem atE:vc P (.kK a) Q st=a7 st (vc P a Q):=rfl
theorem atv{o:List (AO × List Nat)}:vc P (.draw o) Q ⟨t,l,Z⟩=cK P o [(l,Z)] [] (Q .normal) ⟨t,l,Z⟩:=rfl
theorem atC:vc P (.seq a b) Q st=vc P a (D3 (vc P b Q) Q) st:=rfl
def DU(P:Program)(v:V)(a b:AC)(Q:Exit->St->Prop)(st:St):Prop:=match v with | .bool c=>(c=aa->vc P a Q st)/\(c=aq->vc P b Q st) | _=>False
theorem att:vc P (.cond x a b) Q st=DU P (ev st x) a b Q st:=rfl
def atr:DU P (.bool aa) a b Q st=vc P a Q st:=by simp[DU]
def atq:DU P (.bool aq) a b Q st=vc P b Q st:=by simp[DU]
def cO{c:Bool}(h1:c=aa->vc P a Q st)(h2:c=aq->vc P b Q st):DU P (.bool c) a b Q st:=⟨h1,h2⟩
variable{out:Nat}
def Po{l:List AO}{x:X}{dI dN dM nxt:Nat}{y:AC}(h:cj P l (λnM=>∃s:List UInt8,ev nM x = .aH s/\(∀c∈s,c.toNat<128)/\∃I:Nat->Nat->St->Prop,
 (∀b,a7 (nM.put (U dI) (.raw (.pointer (U ⟨b,0,ah⟩)))) (I b 0)) /\
 (∀b i aU,I b i aU -> aU.t.getD dI .any = .raw (.pointer (U ⟨b,0,ah⟩))/\dN<aU.t.length/\dM<aU.t.length) /\
 (∀b i c aU,s[i]?=U c->I b i aU -> vc P y (tj nxt (yJ out (I b (i+1)) Q)) ((aU.put (U dN) (.bz [.bool aa,.int .i64 (i:Nat),.int .i32 (c.toNat:Nat)])).put (U dM) (.bool aa))) /\
 (∀b aU,I b s.length aU -> Q .normal ((aU.put (U dN) (.bz [.bool aq])).put (U dM) (.bool aq)))) st):vc P (.DG l x dI dN dM out nxt y) Q st:=h
variable{J:St->Prop}
theorem aqf:yJ out J Q .normal st=a7 st J:=rfl
theorem aqe{id:Nat}:yJ out J Q (.exit id) st=if id=out then Q .normal st else Q (.exit id) st:=rfl
theorem aqg:yJ out J Q .ret st=Q .ret st:=rfl
theorem atB:vc P (.scope a) Q st=vc P a (Cd Q) st:=rfl
theorem anm:Cd Q .normal st=Q .normal st:=rfl
theorem anl{id:Nat}:Cd Q (.exit id) st=Q (.exit id) st:=rfl
theorem ann:Cd Q .ret st=Q .ret st:=rfl
theorem ats{id:Nat}:vc P (.block id a) Q st=vc P a (tj id Q) st:=rfl
theorem atx{id:Nat}:vc P (.exit id) Q st=Q (.exit id) st:=rfl
theorem atA:vc P .ret Q st=Q .ret st:=rfl
theorem ZT:D3 K Q .normal st=K st:=rfl
theorem ZS{id:Nat}:D3 K Q (.exit id) st=Q (.exit id) st:=rfl
theorem ZU:D3 K Q .ret st=Q .ret st:=rfl
theorem aal{id:Nat}:tj id Q .normal st=Q .normal st:=rfl
theorem aam{id:Nat}:tj id Q .ret st=Q .ret st:=rfl
theorem aak{id Bi : Nat}:tj id Q (.exit Bi) st=if Bi = id then Q .normal st else Q (.exit Bi) st:=rfl
variable{n:Nat}{ι:Type}
theorem amE{I:ι->St}{μ:ι->Nat}{id:Nat}:Aj I μ Q n (.exit id) st=Q (.exit id) st:=rfl
theorem amG{I:ι->St}{μ:ι->Nat}:Aj I μ Q n .ret st=Q .ret st:=rfl
theorem amF{I:ι->St}{μ:ι->Nat}:Aj I μ Q n .normal st=a7 st λaU => ∃j,aU = I j/\μ j<n:=rfl
def dP(I:ι->St)(μ:ι->Nat)(h0:a7 st λaU => ∃i,aU = I i)(h:∀i,vc P a (Aj I μ Q (μ i)) (I i)):vc P (.loop a) Q st:=⟨ι,I,μ,h0,h⟩
variable{R':V->ab->Prop}{rs:List RV}
theorem aqT:Ef rs R' .ret st=opt ((vo st rs).map ve) (jx R' st):=rfl
theorem aqS:Ef rs R' .normal st=opt ((vo st rs).map ve) (jx R' st):=rfl
variable{v:V}
theorem aoL{K:V->Prop}:opt (U v) K=K v:=rfl
theorem arQ:vo st []=U []:=rfl
def Rv(v:Option V)(l:Option (List V)):Option (List V):=v.bind λx=>l.map (x::·)
theorem abG{l:List V}:Rv (U v) (U l)=U (v::l):=rfl
theorem arP{y:RV}:vo st (y::rs)=Rv (rv st y) (vo st rs):=rfl
theorem arO:rv ⟨t,l,Z⟩ (.tmp n)=U (t.getD n .any):=rfl
variable{g:Bool}
theorem arN{m:Nat}:rv ⟨t,l,Z⟩ (.cell n g m)=lF ⟨t,l,Z⟩ g m (t.getD n .any):=rfl
theorem aos:ve [v]=v:=rfl
theorem aor:ve [] = .bz []:=rfl
theorem aoq{u v:V}{l:List V}:ve (u::v::l) = .bz (u::v::l):=rfl
theorem amR{v:List V}{f:List V->V}:Option.map f (U v)=U (f v):=rfl
variable{σ':ab}
def aN(h1:v.cM=aa)(h2:σ'.sub Z)(h3:R' v.erase σ'):jx R' ⟨t,l,Z⟩ v:=⟨h1,σ',_,h2,.inl rfl,h3⟩
def aqR(h1:v.cM=aa)(h2:σ'.sub Z)(h3:R' v σ'):jx R' ⟨t,l,Z⟩ v:=⟨h1,σ',_,h2,.inr rfl,h3⟩
def aC{w:V}(h:v.erase=w)(h1:v.cM=true:=by rfl):jx (λv σ' => v=w/\σ' = Z) ⟨t,l,Z⟩ v:=aN h1 (ab.bc _) ⟨h,rfl⟩
theorem adV:ev ⟨t,l,Z⟩ (.s n)=t.getD n .any:=rfl
theorem adT:ev st (.c v)=v:=rfl
theorem adX:dw st []=[]:=rfl
theorem adW{xs:List X}:dw st (x::xs)=ev st x::dw st xs:=rfl
theorem ajj{w:V}:(v::t).getD 0 w=v:=rfl
theorem aji{w:V}:(v::t).getD (n+1) w=t.getD n w:=rfl
theorem ase{w:V}:(v::t).set 0 w=w::t:=rfl
theorem asc{w:V}:(v::t).set (n+1) w=v::t.set n w:=rfl
theorem apV:St.put ⟨t,l,Z⟩ (U n) v=⟨t.set n v,l,Z⟩:=rfl
theorem apU:St.put st ah v=st:=rfl
theorem aoa:cj P [] K st=K st:=rfl
def kL(P:Program)(d:Option Nat)(r:List AO)(K:St->Prop)(st:St)(v:V):Prop:=cj P r K (st.put d v)
theorem alk:kL P d r K ⟨t,l,Z⟩ v=cj P r K (St.put ⟨t,l,Z⟩ d v):=rfl
def qU(o:Option V)(K:V->Prop):Prop:=match o with | some v=>K v | none=>False
theorem aoI{K:V->Prop}:qU (U v) K=K v:=rfl
theorem an':cj P (⟨d,.mv x,ah⟩::r) K st=cj P r K (st.put d (ev st x)):=rfl
def vk(P:Program)(v a b:V)(d:Option Nat)(r:List AO)(K:St->Prop)(st:St):Prop:=match v with | .bool aa=>cj P r K (st.put d a) | .bool aq=>cj P r K (st.put d b) | _=>False
def aoe:cj P (⟨d,.pick x y z,ah⟩::r) K st=vk P (ev st x) (ev st y) (ev st z) d r K st:=by
 simp only[cj,aV.bq,vk];cases ev st x<;>first | rfl | (rename_i b;cases b<;>rfl)
theorem apo{u:V}:vk P (.bool aa) u v d r K st=cj P r K (st.put d u):=rfl
theorem apm{u:V}:vk P (.bool aq) u v d r K st=cj P r K (st.put d v):=rfl
def apn{b c:Bool}:vk P (.bool b) (.bool c) (.bool aq) d r K st=cj P r K (st.put d (.bool (b&&c))):=by cases b<;>simp[vk]
def apq{b c:Bool}:vk P (.bool b) (.bool aa) (.bool c) d r K st=cj P r K (st.put d (.bool (b||c))):=by cases b<;>simp[vk]
variable{c:List V}
theorem anJ:cj P (⟨d,.alloc c,ah⟩::r) K ⟨t,l,Z⟩=cj P r K (St.put ⟨t,l++[c],Z⟩ d (.ptr (.au l.length) 0)):=rfl
theorem anQ:cj P (⟨d,.box n x,ah⟩::r) K ⟨t,l,Z⟩=((ev ⟨t,l,Z⟩ x).wd=U n/\cj P r K (St.put ⟨t,l++[(ev ⟨t,l,Z⟩ x).cells],Z⟩ d (.ptr (.au l.length) 0))):=rfl
def kO(P:Program)(d:Option Nat)(r:List AO)(K:St->Prop)(st:St)(cs:List V):Prop:=∀b,st.out.box b=ah->cj P r K (St.put ⟨st.t,st.au,st.out.set b cs⟩ d (.ptr (.out b) 0))
theorem anK:cj P (⟨d,.qy c,ah⟩::r) K st=(bS c=aa/\kO P d r K st c):=rfl
theorem anR:cj P (⟨d,.gY n x,ah⟩::r) K st=((ev st x).wd=U n/\bS (ev st x).cells=aa/\kO P d r K st (ev st x).cells):=rfl
def kx(h:∀b,Z.box b=ah->cj P r K (St.put ⟨t,l,Z.set b c⟩ d (.ptr (.out b) 0))):kO P d r K ⟨t,l,Z⟩ c:=h
variable{ps:List (Nat × Nat × X)}
theorem anT:cj P (⟨d,.build c ps,ah⟩::r) K st=qU ((pD st c ps).map V.agg) (kL P d r K st):=rfl
def N7(o:Option (List (List V)))(k:Nat)(K:V->Prop):Prop:=match o with | some v=>K (.sl .a9 k v) | none=>False
variable{k:Nat}
theorem aoJ{v:List (List V)}{K:V->Prop}:N7 (U v) k K=K (.sl .a9 k v):=rfl
def anS{xs:List X}:cj P (⟨d,.km k xs,ah⟩::r) K st=N7 (lL st k xs) k (kL P d r K st):=by
 simp only[cj,aV.bq];cases lL st k xs<;>rfl
theorem an9:cj P (⟨d,.load g n x,ah⟩::r) K st=qU (lF st g n (ev st x)) (kL P d r K st):=rfl
def N8(P:Program)(o:Option St)(d:Option Nat)(r:List AO)(K:St->Prop):Prop:=match o with | some st=>cj P r K (st.put d .any) | none=>False
theorem aoK:N8 P (U st) d r K=cj P r K (st.put d .any):=rfl
def aoh:cj P (⟨d,.store n x y,ah⟩::r) K st=N8 P (dU st n (ev st y) (ev st x)) d r K:=by
 simp only[cj,aV.bq,N8];cases dU st n (ev st y) (ev st x)<;>rfl
def BC(v:V)(K:V->Prop):Prop:=match v with | .ptr p o=>K (.ptr p o) | .elt c o=>K (.elt c o) | .fn (.func f) a b=>K (.fn (.func f) a b) | _=>False
def aob:cj P (⟨d,.wJ x,ah⟩::r) K st=BC (ev st x) (kL P d r K st):=by
 simp only[cj,aV.bq,BC];cases ev st x<;>first | rfl | (rename_i f _ _;cases f<;>rfl)
variable{o:Nat}{p:Pl}
theorem ani{K:V->Prop}:BC (.ptr p o) K=K (.ptr p o):=rfl
theorem ang{K:V->Prop}:BC (.elt c o) K=K (.elt c o):=rfl
variable{e:List V}{f:FuncId}
theorem anh{K:V->Prop}:BC (.fn (.func f) c e) K=K (.fn (.func f) c e):=rfl
theorem anO{op:BinOp}:cj P (⟨d,.dV op x y,ah⟩::r) K st=qU (vV op (ev st x) (ev st y)) (kL P d r K st):=rfl
theorem anP{op:BinOp}:cj P (⟨d,.kQ op x y,ah⟩::r) K st=qU (Av op (ev st x) (ev st y)) (kL P d r K st):=rfl
theorem anN{n:Bool}:cj P (⟨d,.tt n x y,ah⟩::r) K st=qU (yX n (ev st x) (ev st y)) (kL P d r K st):=rfl
def G2(u v:V)(K:V->Prop):Prop:=∃a b,u = .aH a/\v = .aH b/\a.length+b.length<=aJ/\K (.aH (a++b))
theorem anW:cj P (⟨d,.cat x y,ah⟩::r) K st=G2 (ev st x) (ev st y) (kL P d r K st):=rfl
def aa2{a b:List UInt8}{K:V->Prop}:G2 (.aH a) (.aH b) K=(a.length+b.length<=aJ/\K (.aH (a++b))):=by
 simp only[G2,V.aH.injEq,eq_iff_iff];constructor
 .rintro⟨a',b',rfl,rfl,h1,h2⟩;exact⟨h1,h2⟩
 .rintro⟨h1,h2⟩;exact⟨a,b,rfl,rfl,h1,h2⟩
theorem anZ{n:Bool}{ks:List Nat}:cj P (⟨d,.kn n ks x y,ah⟩::r) K st=qU (yW n ks (ev st x) (ev st y)) (kL P d r K st):=rfl
def FN(v:V)(K:V->Prop):Prop:=match v with | .bool b=>K (.bool (!b)) | _=>False
def aoc:cj P (⟨d,.not x,ah⟩::r) K st=FN (ev st x) (kL P d r K st):=by
 simp only[cj,aV.bq,FN];cases ev st x<;>rfl
theorem anF{b:Bool}{K:V->Prop}:FN (.bool b) K=K (.bool (!b)):=rfl
def FC(v:V)(K:V->Prop):Prop:=match v with | .sl _ _ l=>K (.int .i64 l.length) | .raw (.slice _ n _)=>K (.int .i64 n) | _=>False
def an7:cj P (⟨d,.wG x,ah⟩::r) K st=FC (ev st x) (kL P d r K st):=by
 simp only[cj,aV.bq,FC];cases ev st x<;>rfl
variable{m:List (List V)}
theorem alT{D:Tk}{K:V->Prop}:FC (.sl D k m) K=K (.int .i64 m.length):=rfl
def FD(v:V)(K:V->Prop):Prop:=match v with | .aH s=>K (.int .i64 s.length) | _=>False
def an8:cj P (⟨d,.wH x,ah⟩::r) K st=FD (ev st x) (kL P d r K st):=by
 simp only[cj,aV.bq,FD];cases ev st x<;>rfl
theorem alU{s:List UInt8}{K:V->Prop}:FD (.aH s) K=K (.int .i64 s.length):=rfl
def CH(off:Nat)(v:V)(K:V->Prop):Prop:=match v with | .ptr p o=>K (.ptr p (o+off)) | .elt c o=>K (.elt c (o+off)) | _=>False
def an1:cj P (⟨d,.pJ n x,ah⟩::r) K st=CH n (ev st x) (kL P d r K st):=by
 simp only[cj,aV.bq,CH];cases ev st x<;>rfl
theorem aeu{K:V->Prop}:CH n (.ptr p o) K=K (.ptr p (o+n)):=rfl
theorem aet{K:V->Prop}:CH n (.elt c o) K=K (.elt c (o+n)):=rfl
def EC(g:Bool)(off n:Nat)(v:V)(K:V->Prop):Prop:=match v with | .agg cs=>qU (bX g n (cs.drop off)) K | _=>False
def an2{m:Nat}:cj P (⟨d,.v8 g m n x,ah⟩::r) K st=EC g m n (ev st x) (kL P d r K st):=by
 simp only[cj,aV.bq,EC];cases ev st x<;>rfl
variable{cs:List V}
theorem aew{m:Nat}{K:V->Prop}:EC g m n (.agg cs) K=qU (bX g n (cs.drop m)) K:=rfl
def Bj(k:Nat)(v i:V)(K:V->Prop):Prop:=match v with
 | .sl _ k' l=>k' = k/\JG l i λc=>K (.elt c 0)
 | .raw (.slice (U ⟨b,o,ah⟩) n _)=>∃ik j,i = .int ik j/\0<=j/\j<n/\K (.ptr (.out b) (o+j.toNat*k))
 | _=>False
def an4:cj P (⟨d,.tX k x y,ah⟩::r) K st=Bj k (ev st x) (ev st y) (kL P d r K st):=by
 simp only[cj,aV.bq,Bj];cases ev st x<;>rfl
variable{ik:IntKind}
def mh{D:Tk}{n:Int}{K:V->Prop}(h0:0<=n)(h:m[n.toNat]?=U c)(hk:K (.elt c 0)):Bj k (.sl D k m) (.int ik n) K:=⟨rfl,ik,n,c,rfl,h0,h,hk⟩
def ka{D:Tk}{n:Int}{K:V->Prop}(h:m[n.toNat]?=U c)(hk:K (.elt c 0))(h0:0<=n:=by omega):Bj k (.sl D k m) (.int ik n) K:=mh h0 h hk
def zq(m k:Nat)(v i:V)(K:V->Prop):Prop:=match v with
 | .ptr p o=>∃kk n,i = .int kk n/\0<=n/\n<(m:Nat)/\K (.ptr p (o+n.toNat*k))
 | .elt c o=>∃kk n,i = .int kk n/\0<=n/\n<(m:Nat)/\K (.elt c (o+n.toNat*k))
 | _=>False
def an5{m:Nat}:cj P (⟨d,.sO m k x y,ah⟩::r) K st=zq m k (ev st x) (ev st y) (kL P d r K st):=by
 simp only[cj,aV.bq,zq];cases ev st x<;>rfl
def akA{m:Nat}{n:Int}{K:V->Prop}(h0:0<=n)(h:n<(m:Nat))(hk:K (.ptr p (o+n.toNat*k))):zq m k (.ptr p o) (.int ik n) K:=⟨ik,n,rfl,h0,h,hk⟩
def i_{m:Nat}{n:Int}{K:V->Prop}(hk:K (.ptr p (o+n.toNat*k)))(h0:0<=n:=by omega)(h:n<(m:Nat):=by omega):zq m k (.ptr p o) (.int ik n) K:=akA h0 h hk
def akz{m:Nat}{n:Int}{K:V->Prop}(h0:0<=n)(h:n<(m:Nat))(hk:K (.elt c (o+n.toNat*k))):zq m k (.elt c o) (.int ik n) K:=⟨ik,n,rfl,h0,h,hk⟩
def rI{m:Nat}{n:Int}{K:V->Prop}(hk:K (.elt c (o+n.toNat*k)))(h0:0<=n:=by omega)(h:n<(m:Nat):=by omega):zq m k (.elt c o) (.int ik n) K:=akz h0 h hk
def Df(v i:V)(K:V->Prop):Prop:=match v with | .aH s=>∃k n c,i = .int k n/\0<=n/\s[n.toNat]?=U c/\K (.int .u8 c.toNat) | _=>False
def an6:cj P (⟨d,.tY x y,ah⟩::r) K st=Df (ev st x) (ev st y) (kL P d r K st):=by
 simp only[cj,aV.bq,Df];cases ev st x<;>rfl
variable{s:List UInt8}
def akB{n:Int}{c:UInt8}{K:V->Prop}(h0:0<=n)(h:s[n.toNat]?=U c)(hk:K (.int .u8 c.toNat)):Df (.aH s) (.int ik n) K:=⟨ik,n,c,rfl,h0,h,hk⟩
def pX{n:Int}{c:UInt8}{K:V->Prop}(h:s[n.toNat]?=U c)(hk:K (.int .u8 c.toNat))(h0:0<=n:=by omega):Df (.aH s) (.int ik n) K:=akB h0 h hk
def kC(P:Program)(d:Option Nat)(r:List AO)(K:St->Prop)(t:List V)(l:List (List V))(v:V)(Z:ab):Prop:=cj P r K (St.put ⟨t,l,Z⟩ d v)
theorem ali:kC P d r K t l v Z=cj P r K (St.put ⟨t,l,Z⟩ d v):=rfl
theorem anU{xs:List X}:cj P (⟨d,.call f xs,ah⟩::r) K ⟨t,l,Z⟩=(bS (dw ⟨t,l,Z⟩ xs)=aa/\cF P f (dw ⟨t,l,Z⟩ xs) Z (kC P d r K t l)):=rfl
def Kh(P:Program)(v:V)(args:List V)(Z:ab)(K:V->ab->Prop):Prop:=match v with | .fn (.func f) a b=>bS (a++args++b)=aa/\cF P f (a++args++b) Z K | _=>False
def anV{xs:List X}:cj P (⟨d,.iV x xs,ah⟩::r) K ⟨t,l,Z⟩=Kh P (ev ⟨t,l,Z⟩ x) (dw ⟨t,l,Z⟩ xs) Z (kC P d r K t l):=by
 simp only[cj,aV.bq,Kh];cases ev ⟨t,l,Z⟩ x<;>first | rfl | (rename_i f _ _;cases f<;>rfl)
variable{args:List V}
theorem aaY{u v:List V}{K:V->ab->Prop}:Kh P (.fn (.func f) u v) args Z K=(bS (u++args++v)=aa/\cF P f (u++args++v) Z K):=rfl
theorem anL:cj P (⟨d,.app k x y,ah⟩::r) K ⟨t,l,Z⟩=re Z k (ev ⟨t,l,Z⟩ x) (ev ⟨t,l,Z⟩ y) (kC P d r K t l):=rfl
theorem anM:cj P (⟨d,.nV x y,ah⟩::r) K ⟨t,l,Z⟩=(∃a,ev ⟨t,l,Z⟩ y = .aH a/\re Z 1 (ev ⟨t,l,Z⟩ x) (.sl .no 1 (dW a)) (kC P d r K t l)):=rfl
variable{u:Tk}{D:Nat}
def fe{n:List (List V)}{K:V->ab->Prop}(hb:m.length+n.length<=aJ)(ht:Z.aY D=U m.length)(hk:K (.sl (.tk D) k (m++n)) (Z.ba D (m.length+n.length))):
 re Z k (.sl (.tk D) k m) (.sl u k n) K:=⟨_,m,n,rfl,⟨u,rfl⟩,hb,ht,hk⟩
def Ch{n:List (List V)}{K:V->ab->Prop}(hb:m.length+n.length<=aJ)(hk:∀D,Z.aY D=ah->K (.sl (.tk D) k (m++n)) (Z.ba D (m.length+n.length))):
 re Z k (.sl .a9 k m) (.sl u k n) K:=⟨_,m,n,rfl,⟨u,rfl⟩,hb,.inl hk⟩
def Ej{n:List (List V)}{K:V->ab->Prop}(hb:m.length+n.length<=aJ)(hk:K (.sl .no k (m++n)) Z):
 re Z k (.sl .a9 k m) (.sl u k n) K:=⟨_,m,n,rfl,⟨u,rfl⟩,hb,.inr (.inl hk)⟩
def AH(i:Nat)(v:V)(K:V->Prop):Prop:=match v with | .bz vs=>qU vs[i]? K | _=>False
variable{i:Nat}
def an0:cj P (⟨d,.ext x i,ah⟩::r) K st=AH i (ev st x) (kL P d r K st):=by
 simp only[cj,aV.bq,AH];cases ev st x<;>rfl
theorem ad1{u:V}{us:List V}{K:V->Prop}:AH 0 (.bz (u::us)) K=K u:=rfl
theorem ad0{i:Nat}{u:V}{us:List V}{K:V->Prop}:AH (i+1) (.bz (u::us)) K=AH i (.bz us) K:=rfl
theorem an_{f:Fn}{as bs:List X}:cj P (⟨d,.kb f as bs,ah⟩::r) K st=cj P r K (st.put d (.fn f (dw st as) (dw st bs))):=rfl
def Er(k:IntKind)(v:V)(K:V->Prop):Prop:=match v with | .int _ n=>K (.int k (k.wrap n)) | _=>False
def anY{k:IntKind}:cj P (⟨d,.pG k x,ah⟩::r) K st=Er k (ev st x) (kL P d r K st):=by
 simp only[cj,aV.bq,Er];cases ev st x<;>rfl
theorem ab_{k j:IntKind}{n:Int}{K:V->Prop}:Er k (.int j n) K=K (.int k (k.wrap n)):=rfl
theorem anX:cj P (⟨d,.vY x,ah⟩::r) K st=(∃t s,ev st x = .sl t 1 (dW s)/\kL P d r K st (.aH s)):=rfl
def gL(P:Program)(v:V)(w:Bool)(d:Option Nat)(op:aV)(r:List AO)(K:St->Prop)(st:St):Prop :=
 match v with
 | .bool b=>if b=w then cj P (⟨d,op,ah⟩::r) K st else cj P r K (st.put d (.bz []))
 | .bz []=>cj P r K (st.put d (.bz []))
 | _=>False
def an3{g:Nat}{w:Bool}{op:aV}:cj P (⟨d,op,U (g,w)⟩::r) K ⟨t,l,Z⟩=gL P (t.getD g .any) w d op r K ⟨t,l,Z⟩:=by
 simp only[cj,gL,ev];generalize t.getD g .any=v;cases v<;>first | rfl | (rename_i m;cases m<;>rfl)
theorem ai_{w:Bool}{op:aV}:gL P (.bz []) w d op r K st=cj P r K (st.put d (.bz [])):=rfl
theorem ai9{op:aV}:gL P (.bool aa) aa d op r K st=cj P (⟨d,op,ah⟩::r) K st:=rfl
theorem ai6{op:aV}:gL P (.bool aq) aq d op r K st=cj P (⟨d,op,ah⟩::r) K st:=rfl
theorem ai8{op:aV}:gL P (.bool aa) aq d op r K st=cj P r K (st.put d (.bz [])):=rfl
theorem ai7{op:aV}:gL P (.bool aq) aa d op r K st=cj P r K (st.put d (.bz [])):=rfl
def Br(c:Option (List V))(g:Bool)(n o:Nat):Option V:=c.bind λcs=>bX g n (cs.drop o)
theorem alD:Br (U c) g n o=bX g n (c.drop o):=rfl
theorem alM{g:Bool}{n i o:Nat}:lF ⟨t,l,Z⟩ g n (.ptr (.au i) o)=Br l[i]? g n o:=rfl
theorem alN:lF ⟨t,l,Z⟩ g n (.ptr (.out i) o)=Br (Z.box i) g n o:=rfl
theorem alL:lF ⟨t,l,Z⟩ g n (.ptr (.kS i) o)=Br (Z.cQ i) g n o:=rfl
theorem alK:lF st g n (.elt cs o)=bX g n (cs.drop o):=rfl
theorem Bs:bX aa n cs=(takeN n cs).map V.agg:=rfl
theorem alE{c:V}:bX aq n (c::cs)=U c:=rfl
theorem asS:takeN 0 cs=U []:=rfl
def U7(c:V):Option (List V)->Option (List V) | some l=>U (c::l) | none=>ah
def O'{c:V}:takeN (n+1) (c::cs)=U7 c (takeN n cs):=by
 simp only[takeN];cases takeN n cs<;>rfl
theorem amQ{c:V}:U7 c (U cs)=U (c::cs):=rfl
theorem acR:cs.drop 0=cs:=rfl
theorem acQ{c:V}:(c::cs).drop (n+1)=cs.drop n:=rfl
def XK(t:List V)(l:List (List V))(Z:ab)(i o n:Nat)(x:V):Option (List V)->Option St
 | some cs=>if cB n (cs.drop o)=aa/\x.wd=U n/\c8 x.cells=aa then U ⟨t,l.set i (setAt cs o x.cells),Z⟩ else ah
 | none=>ah
def asB:dU ⟨t,l,Z⟩ n v (.ptr (.au i) o)=XK t l Z i o n v l[i]?:=by
 simp only[dU];cases l[i]?<;>rfl
theorem asz:XK t l Z i o n v (U cs)=if cB n (cs.drop o)=aa/\v.wd=U n/\c8 v.cells=aa then U ⟨t,l.set i (setAt cs o v.cells),Z⟩ else none:=rfl
def XL(t:List V)(l:List (List V))(Z:ab)(i o n:Nat)(x:V):Option (List V)->Option St
 | some cs=>if cB n (cs.drop o)=aa/\x.wd=U n/\c8 x.cells=aa/\bS x.cells=aa then U ⟨t,l,Z.set i (setAt cs o x.cells)⟩ else ah
 | none=>ah
def asC:dU ⟨t,l,Z⟩ n v (.ptr (.out i) o)=XL t l Z i o n v (Z.box i):=by
 simp only[dU];cases Z.box i<;>rfl
theorem asA:XL t l Z i o n v (U cs)=if cB n (cs.drop o)=aa/\v.wd=U n/\c8 v.cells=aa/\bS v.cells=aa then U ⟨t,l,Z.set i (setAt cs o v.cells)⟩ else none:=rfl
def ke{b:Nat}:(Z.set b cs).box b=U cs:=by simp[ab.set]
def vq{b c:Nat}(h:c≠b):(Z.set b cs).box c=Z.box c:=by simp[ab.set,h]
theorem ar8{b D n:Nat}:(Z.ba D n).box b=Z.box b:=rfl
theorem ar'{b g:Nat}:(Z.set b cs).cQ g=Z.cQ g:=rfl
theorem ar9{g:Nat}:(Z.ba D n).cQ g=Z.cQ g:=rfl
theorem asd{b D:Nat}:(Z.set b cs).aY D=Z.aY D:=rfl
def OX:(Z.ba D n).aY D=U n:=by simp[ab.ba]
def zR{O:Nat}(h:O≠D):(Z.ba D n).aY O=Z.aY O:=by simp[ab.ba,h]
theorem aap:pD st c []=U c:=rfl
def QY(st:St)(c:List V)(off n:Nat)(v:V)(ps:List (Nat × Nat × X)):Option (List V):=if cB n (c.drop off)=aa/\v.wd=U n then pD st (setAt c off v.cells) ps else ah
variable{off:Nat}
theorem aao:pD st c ((off,n,x)::ps)=QY st c off n (ev st x) ps:=rfl
theorem aaj:QY st c off n v ps=if cB n (c.drop off)=aa/\v.wd=U n then pD st (setAt c off v.cells) ps else none:=rfl
theorem arn{k:Nat}:lL st k []=U []:=rfl
def OD(c:List V):Option (List (List V))->Option (List (List V)) | some l=>U (c::l) | none=>ah
theorem arb:OD c (U m)=U (c::m):=rfl
def OB(st:St)(k:Nat)(v:V)(xs:List X):Option (List (List V)):=if v.wd=U k/\bS v.cells=aa/\c8 v.cells=aa then OD (aZ v.cells) (lL st k xs) else ah
def arl{xs:List X}:lL st k (x::xs)=OB st k (ev st x) xs:=by
 simp only[lL,OB];cases lL st k xs<;>rfl
theorem aq_{xs:List X}:OB st k v xs=if v.wd=U k/\bS v.cells=aa/\c8 v.cells=aa then OD (aZ v.cells) (lL st k xs) else none:=rfl
def dr(v v' : V):Prop:=∀E u,R E v u->R E v' u
def dr.rfl:dr v v:=λ_ _ h=>h
def dr.any:dr v .any:=λ_ _ _=>by simp only[R]
def dr.erase:dr v v.erase:=λ_ _ h=>R.erase v h
def dr.no{D:Tk}:dr (.sl D k m) (.sl .no k m):=λ_ _ h=>R.erase (.sl D k m) h
def c_:List V->List V->Prop
 | [],[]=>True
 | v::l,v' :: l' => dr v v' /\ c_ l l'
 | _,_=>False
def c_.rfl:∀{l:List V},c_ l l
 | []=>trivial
 | _::_=>⟨dr.rfl,c_.rfl⟩
def c_.mono:∀{l l' : List V} {E:Env} {us:List Value},c_ l l' -> RL E l us->RL E l' us
 | [],[],_,_,_,h=>h
 | [],_::_,_,_,h,_=>h.elim
 | _::_,[],_,_,h,_=>h.elim
 | v::l,v' :: l',_,[],_,h=>by simp[RL] at h
 | v :: l, v' :: l', _, u :: us, h, hr => by
  simp only[RL] at hr ⊢;exact⟨h.1 _ _ hr.1,c_.mono h.2 hr.2⟩
def c_.length:∀{l l' : List V},c_ l l' -> l.length=l'.length
 | [],[],_=>Eq.refl _
 | [],_::_,h=>h.elim
 | _::_,[],h=>h.elim
 | v::l,v' :: l',h=>by simp[c_.length h.2]
def c_.get:∀{l l' : List V},c_ l l' -> ∀(j:Nat) v',l'[j]?=U v' -> ∃v,l[j]?=U v/\dr v v'
 | [],[],_,j,v',h=>by simp at h
 | [],_::_,h,_,_,_=>h.elim
 | _::_,[],h,_,_,_=>h.elim
 | v :: l, w :: l', h, j, v', hj => by
  cases j with
  | zero=>simp at hj;subst hj;exact⟨v,by simp,h.1⟩
  | succ j=>simp at hj;obtain⟨u,h1,h2⟩:=c_.get h.2 j v' hj;exact⟨u,by simpa using h1,h2⟩
def bV:List (List V)->List (List V)->Prop
 | [],[]=>True
 | v::l,v' :: l' => c_ v v' /\ bV l l'
 | _,_=>False
def bV.rfl:∀{l:List (List V)},bV l l
 | []=>trivial
 | _::_=>⟨c_.rfl,bV.rfl⟩
def bV.length:∀{l l' : List (List V)},bV l l' -> l.length=l'.length
 | [],[],_=>Eq.refl _
 | [],_::_,h=>h.elim
 | _::_,[],h=>h.elim
 | v::l,v' :: l',h=>by simp[bV.length h.2]
def bV.get:∀{l l' : List (List V)},bV l l' -> ∀(j:Nat) v',l'[j]?=U v' -> ∃v,l[j]?=U v/\c_ v v'
 | [],[],_,j,v',h=>by simp at h
 | [],_::_,h,_,_,_=>h.elim
 | _::_,[],h,_,_,_=>h.elim
 | v :: l, w :: l', h, j, v', hj => by
  cases j with
  | zero=>simp at hj;subst hj;exact⟨v,by simp,h.1⟩
  | succ j=>simp at hj;obtain⟨u,h1,h2⟩:=bV.get h.2 j v' hj;exact⟨u,by simpa using h1,h2⟩
variable{E:Env}{cs':List V}
def jM.cY{b:Nat}(h:c_ cs cs')(k:jM E b cs):jM E b cs' := by
 obtain⟨c,e,h1,h2,h3⟩:=k;refine⟨c,e,h1,by rw[<-h.length];exact h2,λj x hx=>?_⟩;obtain⟨v,hv,hle⟩:=h.get j x hx;obtain⟨u,k1,k2⟩:=h3 j v hv;exact⟨u,k1,hle _ _ k2⟩
structure br(Z σ' : ab):Prop where
 box:∀b cs',σ'.box b=U cs' -> ∃cs,Z.box b=U cs/\c_ cs cs'
 aY:∀D n,σ'.aY D=U n->Z.aY D=U n
 cQ:∀b cs,σ'.cQ b=U cs->Z.cQ b=U cs
def br.rfl{Z:ab}:br Z Z:=⟨λ_ cs h=>⟨cs,h,c_.rfl⟩,λ_ _ h=>h,λ_ _ h=>h⟩
def br.aom{Z σ' : ab}(h:σ'.sub Z):br Z σ' := ⟨λb cs k=>⟨cs,h.1 b cs k,c_.rfl⟩,h.2.1,h.2.2⟩
def a7.cY{t t' : List V}{l l' : List (List V)}{Z σ' : ab}(h:c_ t t')(hl:bV l l')(ho:br Z σ')(hk:K ⟨t',l',σ'⟩):a7 ⟨t,l,Z⟩ K:=by
 intro E a hs;refine⟨E,_,rfl,Fr.refl E,⟨⟨λb cs b9=>?_,λD n hn=>hs.ok.aY D n (ho.aY D n hn),hs.ok.fresh,hs.ok.nt,λb cs hc=>hs.ok.cQ b cs (ho.cQ b cs hc)⟩,⟨λi cs b9=>?_,λi hi=>hs.du.none i (by rw[hl.length];exact hi)⟩,hs.defers,h.mono hs.slot⟩,hk⟩
 .obtain⟨AA,h1,h2⟩:=ho.box b cs b9;obtain⟨k1,k2⟩:=hs.ok.box b AA h1;exact⟨k1,k2.cY h2⟩
 .obtain⟨AA,h1,h2⟩:=hl.get i cs b9;obtain⟨b,k1,k2,k3⟩:=hs.du.box i AA h1;exact⟨b,k1,k2,k3.cY h2⟩
variable{as:List V}
def cF.cY{as':List V}{Z σ' : ab}(h:cF P f as' σ' R')(ha:c_ as as')(ho:br Z σ'):cF P f as Z R' := by
 refine⟨h.1,λE vs h1 h2 h3=>h.2 E vs h1 ?_ (ha.mono h3)⟩;refine⟨λb cs b9=>?_,λD n hn=>h2.aY D n (ho.aY D n hn),h2.fresh,h2.nt,λb cs hc=>h2.cQ b cs (ho.cQ b cs hc)⟩;obtain⟨AA,k1,k2⟩:=ho.box b cs b9;obtain⟨k3,k4⟩:=h2.box b AA k1;exact⟨k3,k4.cY k2⟩
end
section
variable {P:Program} {d:Option Nat} {r:List (AO × List Nat)} {K:St->Prop} {t:List V} {l:List (List V)} {Z:ab} {x y z:X} {st:St} {SN:List dC} {L:List (V × Bool × Nat × V × List Nat)} {ms:List Nat}
theorem acE:cK P [] SN L K st=(rm SN L/\K st):=rfl
def kD(P:Program)(d:Option Nat)(r:List (AO × List Nat))(SN:List dC)(L:List (V × Bool × Nat × V × List Nat))(K:St->Prop)(st:St)(v:V):Prop:=cK P r SN L K (st.put d v)
variable{v:V}
theorem alj:kD P d r SN L K ⟨t,l,Z⟩ v=cK P r SN L K (St.put ⟨t,l,Z⟩ d v):=rfl
theorem acD:cK P ((⟨d,.mv x,ah⟩,ms)::r) SN L K st=cK P r SN L K (st.put d (ev st x)):=rfl
def zK(P:Program)(v a b:V)(d:Option Nat)(r:List (AO × List Nat))(SN:List dC)(L:List (V × Bool × Nat × V × List Nat))(K:St->Prop)(st:St):Prop:=match v with | .bool aa=>cK P r SN L K (st.put d a) | .bool aq=>cK P r SN L K (st.put d b) | _=>False
def acH:cK P ((⟨d,.pick x y z,ah⟩,ms)::r) SN L K st=zK P (ev st x) (ev st y) (ev st z) d r SN L K st:=by
 show(match ev st x with | .bool aa=>_ | .bool aq=>_ | _=>False)=_;unfold zK;cases ev st x<;>first | rfl | (rename_i b;cases b<;>rfl)
theorem apk{u:V}:zK P (.bool aa) u v d r SN L K st=cK P r SN L K (st.put d u):=rfl
theorem api{u:V}:zK P (.bool aq) u v d r SN L K st=cK P r SN L K (st.put d v):=rfl
def apj{b c:Bool}:zK P (.bool b) (.bool c) (.bool aq) d r SN L K st=cK P r SN L K (st.put d (.bool (b&&c))):=by cases b<;>simp[zK]
def apl{b c:Bool}:zK P (.bool b) (.bool aa) (.bool c) d r SN L K st=cK P r SN L K (st.put d (.bool (b||c))):=by cases b<;>simp[zK]
variable{c:List V}
theorem aca:cK P ((⟨d,.alloc c,ah⟩,ms)::r) SN L K ⟨t,l,Z⟩=cK P r (SN++[(l++[c],Z)]) L K (St.put ⟨t,l++[c],Z⟩ d (.ptr (.au l.length) 0)):=rfl
variable{n:Nat}
theorem acg:cK P ((⟨d,.box n x,ah⟩,ms)::r) SN L K ⟨t,l,Z⟩=((ev ⟨t,l,Z⟩ x).wd=U n/\cK P r (SN++[(l++[(ev ⟨t,l,Z⟩ x).cells],Z)]) L K (St.put ⟨t,l++[(ev ⟨t,l,Z⟩ x).cells],Z⟩ d (.ptr (.au l.length) 0))):=rfl
theorem ach:cK P ((⟨d,.vW n x,ah⟩,ms)::r) SN L K ⟨t,l,Z⟩=((ev ⟨t,l,Z⟩ x).wd=U n/\c8 (ev ⟨t,l,Z⟩ x).cells=aa/\cK P r (SN++[(l++[(ev ⟨t,l,Z⟩ x).cells],Z)]) L K (St.put ⟨t,l++[(ev ⟨t,l,Z⟩ x).cells],Z⟩ d (.ptr (.au l.length) 0))):=rfl
variable{ps:List (Nat × Nat × X)}
theorem acj:cK P ((⟨d,.build c ps,ah⟩,ms)::r) SN L K st=qU ((pD st c ps).map V.agg) (kD P d r SN L K st):=rfl
variable{k:Nat}
def aci{xs:List X}:cK P ((⟨d,.km k xs,ah⟩,ms)::r) SN L K st=N7 (lL st k xs) k (kD P d r SN L K st):=by
 show opt ((lL st k xs).map (V.sl .a9 k)) _=_;cases lL st k xs<;>rfl
def UJ(P:Program)(a:V)(g:Bool)(n:Nat)(ms:List Nat)(d:Option Nat)(r:List (AO × List Nat))(SN:List dC)(L:List (V × Bool × Nat × V × List Nat))(K:St->Prop)(st:St):Option V->Prop
 | some v=>cK P r SN ((a,g,n,v,ms)::L) K (st.put d v)
 | none=>False
theorem alF{a v:V}{g:Bool}{n:Nat}:UJ P a g n ms d r SN L K st (U v)=cK P r SN ((a,g,n,v,ms)::L) K (st.put d v):=rfl
variable{g:Bool}
def acB:cK P ((⟨d,.load g n x,ah⟩,ms)::r) SN L K st=UJ P (ev st x) g n ms d r SN L K st (lF st g n (ev st x)):=by
 show opt (lF st g n (ev st x)) _=_;cases lF st g n (ev st x)<;>rfl
def XJ(P:Program)(d:Option Nat)(r:List (AO × List Nat))(SN:List dC)(L:List (V × Bool × Nat × V × List Nat))(K:St->Prop):Option St->Prop
 | some st=>cK P r (SN++[(st.au,st.out)]) L K (st.put d .any)
 | none=>False
theorem asy:XJ P d r SN L K (U ⟨t,l,Z⟩)=cK P r (SN++[(l,Z)]) L K (St.put ⟨t,l,Z⟩ d .any):=rfl
def acK{n:Nat}:cK P ((⟨d,.store n x y,ah⟩,ms)::r) SN L K st=XJ P d r SN L K (dU st n (ev st y) (ev st x)):=by
 show(match dU st n (ev st y) (ev st x) with | some aU => _ | none=>False)=_;cases dU st n (ev st y) (ev st x)<;>rfl
def acF:cK P ((⟨d,.wJ x,ah⟩,ms)::r) SN L K st=BC (ev st x) (kD P d r SN L K st):=by
 show(match ev st x with | .ptr p o=>_ | .elt c o=>_ | .fn (.func f) a b=>_ | _=>False)=_;unfold BC;cases ev st x<;>first | rfl | (rename_i f _ _;cases f<;>rfl)
theorem ace{op:BinOp}:cK P ((⟨d,.dV op x y,ah⟩,ms)::r) SN L K st=qU (vV op (ev st x) (ev st y)) (kD P d r SN L K st):=rfl
theorem acf{op:BinOp}:cK P ((⟨d,.kQ op x y,ah⟩,ms)::r) SN L K st=qU (Av op (ev st x) (ev st y)) (kD P d r SN L K st):=rfl
theorem acd{n:Bool}:cK P ((⟨d,.tt n x y,ah⟩,ms)::r) SN L K st=qU (yX n (ev st x) (ev st y)) (kD P d r SN L K st):=rfl
theorem acn:cK P ((⟨d,.cat x y,ah⟩,ms)::r) SN L K st=G2 (ev st x) (ev st y) (kD P d r SN L K st):=rfl
theorem acq{n:Bool}{ks:List Nat}:cK P ((⟨d,.kn n ks x y,ah⟩,ms)::r) SN L K st=qU (yW n ks (ev st x) (ev st y)) (kD P d r SN L K st):=rfl
def acG:cK P ((⟨d,.not x,ah⟩,ms)::r) SN L K st=FN (ev st x) (kD P d r SN L K st):=by
 show(match ev st x with | .bool b=>_ | _=>False)=_;unfold FN;cases ev st x<;>rfl
def acz:cK P ((⟨d,.wG x,ah⟩,ms)::r) SN L K st=FC (ev st x) (kD P d r SN L K st):=by
 show(match ev st x with | .sl _ _ l=>_ | .raw (.slice _ n _)=>_ | _=>False)=_;unfold FC;cases ev st x<;>rfl
def acA:cK P ((⟨d,.wH x,ah⟩,ms)::r) SN L K st=FD (ev st x) (kD P d r SN L K st):=by
 show(match ev st x with | .aH s=>_ | _=>False)=_;unfold FD;cases ev st x<;>rfl
def acs:cK P ((⟨d,.pJ n x,ah⟩,ms)::r) SN L K st=CH n (ev st x) (kD P d r SN L K st):=by
 show(match ev st x with | .ptr p o=>_ | .elt c o=>_ | _=>False)=_;unfold CH;cases ev st x<;>rfl
def acu{g:Bool}{n m:Nat}:cK P ((⟨d,.v8 g m n x,ah⟩,ms)::r) SN L K st=EC g m n (ev st x) (kD P d r SN L K st):=by
 show(match ev st x with | .agg cs=>_ | _=>False)=_;unfold EC;cases ev st x<;>rfl
def acw:cK P ((⟨d,.tX k x y,ah⟩,ms)::r) SN L K st=Bj k (ev st x) (ev st y) (kD P d r SN L K st):=by
 show(match ev st x with | .sl _ k' l=>_ | .raw (.slice (U ⟨b,o,ah⟩) n _)=>_ | _=>False)=_;unfold Bj;cases ev st x<;>rfl
def acx{m:Nat}:cK P ((⟨d,.sO m k x y,ah⟩,ms)::r) SN L K st=zq m k (ev st x) (ev st y) (kD P d r SN L K st):=by
 show(match ev st x with | .ptr p o=>_ | .elt c o=>_ | _=>False)=_;unfold zq;cases ev st x<;>rfl
def acy:cK P ((⟨d,.tY x y,ah⟩,ms)::r) SN L K st=Df (ev st x) (ev st y) (kD P d r SN L K st):=by
 show(match ev st x with | .aH s=>_ | _=>False)=_;unfold Df;cases ev st x<;>rfl
def H'(P:Program)(d:Option Nat)(r:List (AO × List Nat))(SN:List dC)(L:List (V × Bool × Nat × V × List Nat))(K:St->Prop)(t:List V)(l:List (List V))(v:V)(Z:ab):Prop:=cK P r (SN++[(l,Z)]) L K (St.put ⟨t,l,Z⟩ d v)
theorem alh{v:V}:H' P d r SN L K t l v Z=cK P r (SN++[(l,Z)]) L K (St.put ⟨t,l,Z⟩ d v):=rfl
def bA(P:Program)(f:FuncId)(as:List V)(Z:ab)(K:V->ab->Prop):Prop:=∃v σ',cF P f as Z (λv' Ad => v' = v/\Ad = σ')/\K v σ'
variable{as:List V}{f:FuncId}{σ':ab}
def bA.intro{K:V->ab->Prop}(h:cF P f as Z λv' Ad => v' = v/\Ad = σ')(k:K v σ'):bA P f as Z K:=⟨v,σ',h,k⟩
def cl{K:V->ab->Prop}(h:cF P f as Z λv' Ad => v' = v/\Ad = σ')(k:K v σ'):cF P f as Z K:=h.mono λ_ _ e=>e.1▸e.2▸k
theorem ack{xs:List X}:cK P ((⟨d,.call f xs,ah⟩,ms)::r) SN L K ⟨t,l,Z⟩=(bS (dw ⟨t,l,Z⟩ xs)=aa/\bA P f (dw ⟨t,l,Z⟩ xs) Z (H' P d r SN L K t l)):=rfl
def Kg(P:Program)(v:V)(args:List V)(Z:ab)(K:V->ab->Prop):Prop:=match v with | .fn (.func f) a b=>bS (a++args++b)=aa/\bA P f (a++args++b) Z K | _=>False
def acm{xs:List X}:cK P ((⟨d,.iV x xs,ah⟩,ms)::r) SN L K ⟨t,l,Z⟩=Kg P (ev ⟨t,l,Z⟩ x) (dw ⟨t,l,Z⟩ xs) Z (H' P d r SN L K t l):=by
 show(match ev ⟨t,l,Z⟩ x with | .fn (.func f) a b=>_ | _=>False)=_;unfold Kg;cases ev ⟨t,l,Z⟩ x<;>first | rfl | (rename_i f _ _;cases f<;>rfl)
variable{args:List V}
theorem aaX{u v:List V}{K:V->ab->Prop}:Kg P (.fn (.func f) u v) args Z K=(bS (u++args++v)=aa/\bA P f (u++args++v) Z K):=rfl
theorem acb:cK P ((⟨d,.app k x y,ah⟩,ms)::r) SN L K ⟨t,l,Z⟩=Gm Z k (ev ⟨t,l,Z⟩ x) (ev ⟨t,l,Z⟩ y) (H' P d r SN L K t l):=rfl
variable{m:List (List V)}{u:Tk}{D:Nat}
def vS{n:List (List V)}{K:V->ab->Prop}(hb:m.length+n.length<=aJ)(ht:Z.aY D=U m.length)(hk:K (.sl (.tk D) k (m++n)) (Z.ba D (m.length+n.length))):
 Gm Z k (.sl (.tk D) k m) (.sl u k n) K:=⟨_,m,n,rfl,⟨u,rfl⟩,hb,ht,hk⟩
def acr{i:Nat}:cK P ((⟨d,.ext x i,ah⟩,ms)::r) SN L K st=AH i (ev st x) (kD P d r SN L K st):=by
 show(match ev st x with | .bz vs=>_ | _=>False)=_;unfold AH;cases ev st x<;>rfl
theorem acC{f:Fn}{as bs:List X}:cK P ((⟨d,.kb f as bs,ah⟩,ms)::r) SN L K st=cK P r SN L K (st.put d (.fn f (dw st as) (dw st bs))):=rfl
def acp{k:IntKind}:cK P ((⟨d,.pG k x,ah⟩,ms)::r) SN L K st=Er k (ev st x) (kD P d r SN L K st):=by
 show(match ev st x with | .int _ n=>_ | _=>False)=_;unfold Er;cases ev st x<;>rfl
theorem aco:cK P ((⟨d,.vY x,ah⟩,ms)::r) SN L K st=(∃t s,ev st x = .sl t 1 (dW s)/\kD P d r SN L K st (.aH s)):=rfl
def gD(P:Program)(v:V)(w:Bool)(d:Option Nat)(op:aV)(ms:List Nat)(r:List (AO × List Nat))(SN:List dC)(L:List (V × Bool × Nat × V × List Nat))(K:St->Prop)(st:St):Prop :=
 match v with
 | .bool b=>if b=w then cK P ((⟨d,op,ah⟩,ms)::r) SN L K st else cK P r (if op.bC then SN++[(st.au,st.out)] else SN) L K (st.put d (.bz []))
 | .bz []=>cK P r (if op.bC then SN++[(st.au,st.out)] else SN) L K (st.put d (.bz []))
 | _=>False
def acv{g:Nat}{w:Bool}{op:aV}:cK P ((⟨d,op,U (g,w)⟩,ms)::r) SN L K ⟨t,l,Z⟩=gD P (t.getD g .any) w d op ms r SN L K ⟨t,l,Z⟩:=by
 simp only[cK,gD,ev];generalize t.getD g .any=v;cases v<;>first | rfl | (rename_i m;cases m<;>rfl)
theorem ai5{w:Bool}{op:aV}:gD P (.bz []) w d op ms r SN L K ⟨t,l,Z⟩=cK P r (if op.bC=aa then SN++[(l,Z)] else SN) L K (St.put ⟨t,l,Z⟩ d (.bz [])):=rfl
theorem ai4{op:aV}:gD P (.bool aa) aa d op ms r SN L K st=cK P ((⟨d,op,ah⟩,ms)::r) SN L K st:=rfl
theorem ai1{op:aV}:gD P (.bool aq) aq d op ms r SN L K st=cK P ((⟨d,op,ah⟩,ms)::r) SN L K st:=rfl
theorem ai3{op:aV}:gD P (.bool aa) aq d op ms r SN L K ⟨t,l,Z⟩=cK P r (if op.bC=aa then SN++[(l,Z)] else SN) L K (St.put ⟨t,l,Z⟩ d (.bz [])):=rfl
theorem ai2{op:aV}:gD P (.bool aq) aa d op ms r SN L K ⟨t,l,Z⟩=cK P r (if op.bC=aa then SN++[(l,Z)] else SN) L K (St.put ⟨t,l,Z⟩ d (.bz [])):=rfl
theorem abn:rm SN []=True:=rfl
theorem abm{a:V}:rm SN ((a,g,n,v,ms)::L)=(Az SN g n a v ms/\rm SN L):=rfl
theorem abl{a:V}:Az SN g n a v []=True:=rfl
theorem abk{g:Bool}{n m:Nat}{a v:V}:Az SN g n a v (m::ms)=(sS (SN.getD m DP) g n a=U v/\Az SN g n a v ms):=rfl
theorem asf{s u:dC}:(s::SN).getD 0 u=s:=rfl
theorem asg{s u:dC}:(s::SN).getD (n+1) u=SN.getD n u:=rfl
theorem arZ{s:dC}:([]:List dC)++[s]=[s]:=rfl
theorem ar0{s u:dC}:(s::SN)++[u]=s::(SN++[u]):=rfl
theorem alI{g:Bool}{n i o:Nat}:sS (l,Z) g n (.ptr (.au i) o)=Br l[i]? g n o:=rfl
theorem alJ{g:Bool}{n i o:Nat}:sS (l,Z) g n (.ptr (.out i) o)=Br (Z.box i) g n o:=rfl
variable{i o:Nat}
theorem alH:sS (l,Z) g n (.ptr (.kS i) o)=Br (Z.cQ i) g n o:=rfl
variable{cs:List V}
theorem alG{s:dC}:sS s g n (.elt cs o)=bX g n (cs.drop o):=rfl
def Ha(P:Program)(l:List (List V))(Z:ab)(o:List (AO × List Nat))(K:St->Prop):Option (List V)->Prop
 | some t=>cK P o [(l,Z)] [] K ⟨t,l,Z⟩
 | none=>False
variable{Q:Exit->St->Prop}
def atw{o:List (AO × List Nat)}{nv:List Nat}:vc P (.G' nv o) Q ⟨t,l,Z⟩=Ha P l Z o (Q .normal) (uB nv t):=by
 simp only[vc];cases uB nv t with
 | none=>simp[Ha]
 | some t' => simp[Ha]
theorem acO{K:St->Prop}{o:List (AO × List Nat)}:Ha P l Z o K (U t)=cK P o [(l,Z)] [] K ⟨t,l,Z⟩:=rfl
theorem Zm:uB [] t=U t:=rfl
def J9(b:Bool)(x:Option (List V)):Option (List V):=if b then x else ah
def Zl{d:Nat}{ds:List Nat}:uB (d::ds) t=J9 (decide (d<t.length)) (uB ds (t.set d .any)):=by
 simp only[uB,J9,eb]
theorem Zn{y:Option (List V)}:J9 aa y=y:=rfl
theorem aty{o:List (AO × List Nat)}{h:HI}:vc P (.hole o h) Q ⟨t,l,Z⟩=cK P o [(l,Z)] [] (Gs h (Q .normal)) ⟨t,l,Z⟩:=rfl
theorem akj{h:HI}:Gs h K ⟨t,l,Z⟩=JE h K ⟨r7 h t,l,Z⟩:=rfl
theorem aub{k:Nat}{a b c e f:X}{d9 d10 dF:Nat}:r7 ⟨k,a,b,c,e,f,ah,d9,d10,dF⟩ t=(t.set d9 .any).set d10 .any:=rfl
variable{off:Nat}
theorem auc{a b c e f:X}{d9 d10 dF:Nat}:r7 ⟨k,a,b,c,e,f,U off,d9,d10,dF⟩ t=((t.set d9 .any).set d10 .any).set dF .any:=rfl
def TP{h:HI}{t' : Tk}{j:IntKind}{p:V}{aU : St}(es:ev ⟨t,l,Z⟩ h.s = .sl (.tk D) h.k m)(ez:ev ⟨t,l,Z⟩ h.z = .sl t' h.k [c])
 (el:ev ⟨t,l,Z⟩ h.len = .int j m.length) (hb:m.length+1<=aJ) (ht:Z.aY D=U m.length) (hx:(ev ⟨t,l,Z⟩ h.x).wd=U h.k/\c8 (ev ⟨t,l,Z⟩ h.x).cells=aa/\bS (ev ⟨t,l,Z⟩ h.x).cells=aa)
 (b9:aZ (ev ⟨t,l,Z⟩ h.x).cells=cs) (hd:h.d9<t.length/\h.d10<t.length/\(h.fo.isSome=aa->h.dF<t.length)) (hp:EB h.fo (ev ⟨t,l,Z⟩ h.addr)=U p)
 (fv:dU ⟨t,l,Z⟩ 1 (.sl (.tk D) h.k (m++[cs])) p=U aU) (hk:K ⟨aU.t,aU.au,aU.out.ba D (m.length+1)⟩):JE h K ⟨t,l,Z⟩ :=
 ⟨D,m,c,t',j,es,ez,el,hb,ht,hx.1,hx.2.1,hx.2.2,hd.1,hd.2.1,hd.2.2,p,hp,aU,by rw[b9];exact fv,hk⟩
end
section
variable {x y z:X} {n m:Nat} {c:List V} {g:Bool} {bo:BinOp} {ks:List Nat} {xs ys:List X} {ps:List (Nat × Nat × X)} {fn:Fn} {ik:IntKind}
theorem adn:(aV.pick x y z).bC=false:=rfl
theorem acU:(aV.alloc c).bC=true:=rfl
theorem ac1:(aV.vW n x).bC=true:=rfl
theorem ac0:(aV.box n x).bC=true:=rfl
theorem ac3:(aV.build c ps).bC=false:=rfl
theorem ac2:(aV.km n xs).bC=false:=rfl
theorem adi:(aV.load g n x).bC=false:=rfl
theorem ado:(aV.store n x y).bC=true:=rfl
theorem adl:(aV.wJ x).bC=false:=rfl
theorem acY:(aV.dV bo x y).bC=false:=rfl
theorem acZ:(aV.kQ bo x y).bC=false:=rfl
theorem acX:(aV.tt g x y).bC=false:=rfl
theorem ac6:(aV.cat x y).bC=false:=rfl
theorem ac9:(aV.kn g ks x y).bC=false:=rfl
theorem adm:(aV.not x).bC=false:=rfl
theorem adg:(aV.wG x).bC=false:=rfl
theorem adh:(aV.wH x).bC=false:=rfl
theorem ac':(aV.pJ n x).bC=false:=rfl
theorem ada:(aV.v8 g n m x).bC=false:=rfl
theorem adb:(aV.tX n x y).bC=false:=rfl
theorem ade{m k:Nat}:(aV.sO m k x y).bC=false:=rfl
theorem adf:(aV.tY x y).bC=false:=rfl
theorem ac4:(aV.call n xs).bC=true:=rfl
theorem ac5:(aV.iV x xs).bC=true:=rfl
theorem acV:(aV.app n x y).bC=true:=rfl
theorem acW:(aV.nV x y).bC=true:=rfl
theorem ac_:(aV.ext x n).bC=false:=rfl
theorem adj:(aV.kb fn xs ys).bC=false:=rfl
theorem ac8:(aV.pG ik x).bC=false:=rfl
theorem ac7:(aV.vY x).bC=false:=rfl
theorem adk:(aV.mv x).bC=false:=rfl
end
section
variable {k:IntKind} {a b:Int} {c e:List V} {n m:Nat} {x y:V} {u v:List UInt8} {p q:Bool} {l:List (List V)} {D:Tk}
def H4:Bk k k=true:=by cases k<;>rfl
def aah{op:BinOp}:vV op (.int k a) (.int k b)=ib k a b op:=by simp[vV,H4]
theorem akF:ib k a b .add=U (.int k (k.wrap (a+b))):=rfl
theorem akN:ib k a b .sub=U (.int k (k.wrap (a - b))):=rfl
theorem akL:ib k a b .mul=U (.int k (k.wrap (a*b))):=rfl
theorem akG:ib k a b .eql=U (.bool (decide (a=b))):=rfl
theorem akM:ib k a b .neq=U (.bool (!decide (a=b))):=rfl
theorem akK:ib k a b .lss=U (.bool (decide (a<b))):=rfl
theorem akJ:ib k a b .leq=U (.bool (decide (a<=b))):=rfl
theorem akI:ib k a b .gtr=U (.bool (decide (b<a))):=rfl
theorem akH:ib k a b .geq=U (.bool (decide (b<=a))):=rfl
theorem aai{op:BinOp}:Av op (.aH u) (.aH v)=yk u v op:=rfl
theorem asH:yk u v .eql=U (.bool (decide (u=v))):=rfl
theorem asM:yk u v .neq=U (.bool (!decide (u=v))):=rfl
theorem asL:yk u v .lss=U (.bool (Op.bytesLess u v)):=rfl
theorem asK:yk u v .leq=U (.bool (Op.bytesLess u v||decide (u=v))):=rfl
theorem asJ:yk u v .gtr=U (.bool (!(Op.bytesLess u v||decide (u=v)))):=rfl
theorem asI:yk u v .geq=U (.bool (!Op.bytesLess u v)):=rfl
theorem adx:yX aq (.bool p) (.bool q)=U (.bool (decide (p=q))):=rfl
theorem ady:yX aa (.bool p) (.bool q)=U (.bool (!decide (p=q))):=rfl
def KJ(neg:Bool):Option Bool->Option V | some b=>U (.bool (if neg then !b else b)) | none=>ah
theorem adA:KJ aq (U p)=U (.bool p):=rfl
theorem adB:KJ aa (U p)=U (.bool (!p)):=rfl
def adw{neg:Bool}{ks:List Nat}:yW neg ks (.agg c) (.agg e)=KJ neg (gd ks c e):=by
 simp only[yW];cases gd ks c e<;>rfl
def andM(b:Bool):Option Bool->Option Bool | some c=>U (b&&c) | none=>ah
theorem xm:andM p (U q)=U (p&&q):=rfl
theorem R4:gd [] [] []=U true:=rfl
def yY{ks:List Nat}:gd (1::ks) (.int k a::c) (.int k b::e)=andM (decide (a=b)) (gd ks c e):=by
 simp only[gd,H4,cH];cases gd ks c e<;>rfl
def R5{ks:List Nat}:gd (2::ks) (.aH u::c) (.aH v::e)=andM (decide (u=v)) (gd ks c e):=by
 simp only[gd];cases gd ks c e<;>rfl
def adz{ks:List Nat}:gd (0::ks) (.bool p::c) (.bool q::e)=andM (decide (p=q)) (gd ks c e):=by
 simp only[gd];cases gd ks c e<;>rfl
theorem atW:(V.agg c).wd=U c.length:=rfl
theorem at0:(V.int k a).wd=U 1:=rfl
theorem atX:(V.bool p).wd=U 1:=rfl
theorem at4:(V.aH u).wd=U 1:=rfl
theorem at3:(V.sl D n l).wd=U 1:=rfl
theorem at2{o:Pl}:(V.ptr o n).wd=U 1:=rfl
theorem atY:(V.elt c n).wd=U 1:=rfl
theorem atZ{f:Fn}:(V.fn f c e).wd=U 1:=rfl
theorem at1:V.o8.wd=U 1:=rfl
theorem aa_:(V.agg c).cells=c:=rfl
theorem abc:(V.int k a).cells=[.int k a]:=rfl
theorem aa':(V.bool p).cells=[.bool p]:=rfl
theorem abi:(V.aH u).cells=[.aH u]:=rfl
theorem abh:(V.sl D n l).cells=[.sl D n l]:=rfl
theorem abg{o:Pl}:(V.ptr o n).cells=[.ptr o n]:=rfl
theorem aba:(V.elt c n).cells=[.elt c n]:=rfl
theorem abb{f:Fn}:(V.fn f c e).cells=[.fn f c e]:=rfl
theorem abd:V.o8.cells=[.o8]:=rfl
theorem aoy:c8 []=true:=rfl
theorem aox:c8 (x::c)=(x.one&&c8 c):=rfl
theorem N2:(V.int k a).one=true:=rfl
theorem aoz:(V.bool p).one=true:=rfl
theorem VD:(V.aH u).one=true:=rfl
theorem aoF:(V.sl D n l).one=true:=rfl
theorem aoE{o:Pl}:(V.ptr o n).one=true:=rfl
theorem aoA:(V.elt c n).one=true:=rfl
theorem aoC{f:Fn}:(V.fn f c e).one=true:=rfl
theorem aoD:V.o8.one=true:=rfl
theorem anq:bS []=true:=rfl
theorem anp:bS (x::c)=(x.cM&&bS c):=rfl
theorem anx:(V.int k a).cM=true:=rfl
theorem ant:(V.bool p).cM=true:=rfl
theorem anD:(V.aH u).cM=true:=rfl
theorem anC:(V.sl D n l).cM=true:=rfl
theorem ans:V.any.cM=true:=rfl
theorem anA:(V.ptr (.out m) n).cM=true:=rfl
theorem anw:(V.ptr (.kS m) n).cM=true:=rfl
theorem anu:(V.elt c n).cM=true:=rfl
theorem anz:V.o8.cM=true:=rfl
theorem anr:(V.agg c).cM=bS c:=rfl
theorem anE:(V.bz c).cM=bS c:=rfl
theorem anv{f:Fn}:(V.fn f c e).cM=(bS c&&bS e):=rfl
theorem anB{w:Value}:(V.raw w).cM=true:=rfl
theorem adL:(V.int k a).erase = .int k a:=rfl
theorem adI:(V.bool p).erase = .bool p:=rfl
theorem adP:(V.aH u).erase = .aH u:=rfl
theorem adO:(V.sl D n l).erase = .sl .no n l:=rfl
theorem adH:V.any.erase = .any:=rfl
theorem adN{o:Pl}:(V.ptr o n).erase = .ptr o n:=rfl
theorem adJ:(V.elt c n).erase = .elt c n:=rfl
theorem adM:V.o8.erase = .o8:=rfl
theorem adG:(V.agg c).erase = .agg (aZ c):=rfl
theorem adQ:(V.bz c).erase = .bz (aZ c):=rfl
theorem adK{f:Fn}:(V.fn f c e).erase = .fn f c e:=rfl
theorem adF:aZ []=[]:=rfl
theorem adE:aZ (x::c)=x.erase::aZ c:=rfl
def ajH:cB 0 c=true:=by cases c<;>rfl
theorem ajG:cB (n+1) (x::c)=cB n c:=rfl
def mP:over c []=c:=by cases c<;>rfl
theorem qa:over (x::c) (y::e)=y::over c e:=rfl
def mr:setAt c 0 e=over c e:=by cases c<;>rfl
theorem jZ:setAt (x::c) (n+1) e=x::setAt c n e:=rfl
theorem alW:([]:List V).length=0:=rfl
theorem alV:(x::c).length=c.length+1:=rfl
theorem ajh:(c::l)[0]?=U c:=rfl
def ajk:(c::l)[n+1]?=l[n]?:=by simp
theorem amH:(c::l).set 0 e=e::l:=rfl
theorem amI:(c::l).set (n+1) e=c::l.set n e:=rfl
theorem Zp : ([]:List (List V))++l=l:=rfl
theorem Zo : (c::l)++[e]=c::(l++[e]):=rfl
theorem atm:([]:List V)++c=c:=rfl
theorem atl:(x::c)++e=x::(c++e):=rfl
theorem amq:([]:List (List V)).length=0:=rfl
theorem amn:(c::l).length=l.length+1:=rfl
def CD{a:Nat}:(a=a)=True:=by simp
def eqI{a:Int}:(a=a)=True:=by simp
variable{Y:Type}
def asv{x y:Y}:(U x=U y)=(x=y):=by simp
def aoB:(1=1)=True:=by simp
def true_eq:(aa=aa)=True:=by simp
def ad7 : (aq=aa)=False:=by simp
theorem atd:(aa&&p)=p:=rfl
theorem aef:(aq&&p)=false:=rfl
def Zj:(p&&aa)=p:=by simp
def Zi:(p&&aq)=false:=by simp
theorem ate:(aa||p)=true:=rfl
theorem aeg:(aq||p)=p:=rfl
def aoN:(p||false)=p:=by simp
theorem anH:(!aa)=false:=rfl
theorem anG:(!aq)=true:=rfl
def akP{x y:Y}:(if True then x else y)=x:=aI trivial
def akO{x y:Y}:(if False then x else y)=y:=aw λh=>h
def akR{x y:Prop}:(if True then x else y)=x:=aI trivial
def akQ{x y:Prop}:(if False then x else y)=y:=aw λh=>h
def asW{q:Prop}:(True/\q)=q:=by simp
def Zk{q:Prop}:(q/\True)=q:=by simp
theorem rlZ{x:V}:aj 0 x=[]:=rfl
theorem rlS{x:V}:aj (n+1) x=x::aj n x:=rfl
def ame{v:V}:c_ (v::c) (.any::e)=c_ c e:=by simp[c_,dr.any]
def amk{v:V}:c_ (v::c) (v::e)=c_ c e:=by simp[c_,dr.rfl]
def E0:Env:=⟨default,λ_=>.const,λ_=>ah,λ_=>ah⟩
def atI:dr (.int k a) (.int k b)=(a=b):=by
 refine propext ⟨λh=>?_,λh=>h▸dr.rfl⟩
 have:=h E0 (.int k a) (by simp[R])
 simpa [R] using this
def atH:dr (.bool p) (.bool q)=(p=q):=by
 refine propext ⟨λh=>?_,λh=>h▸dr.rfl⟩
 have:=h E0 (.bool p) (by simp[R])
 simpa [R] using this
def atJ:dr (.aH u) (.aH v)=(u=v):=by
 refine propext ⟨λh=>?_,λh=>h▸dr.rfl⟩
 have:=h E0 (.string ⟨u.toArray⟩) (by simp[R])
 simpa [R] using this
def amg:c_ (.int k a::c) (.int k b::e)=(a=b/\c_ c e):=by simp[c_,atI]
def amf:c_ (.bool p::c) (.bool q::e)=(p=q/\c_ c e):=by simp[c_,atH]
def amm:c_ (.aH u::c) (.aH v::e)=(u=v/\c_ c e):=by simp[c_,atJ]
def ami:c_ (.sl D n l::c) (.sl .no n l::e)=c_ c e:=by simp[c_,dr.no]
theorem amt:bV [] []=True:=rfl
theorem amr{c e:List V}{l m:List (List V)}:bV (c::l) (e::m)=(c_ c e/\bV l m):=rfl
def amu{l:List (List V)}:bV l l=True:=by simp[bV.rfl]
variable{Z:ab}
def aoo:br Z Z=True:=by simp[br.rfl]
theorem amh:c_ [] []=True:=rfl
end
variable{l:List (List V)}{t:List V}{ι:Type}{Z:ab}
def a7.enter{I:ι->St}(j:ι)(h:c_ t (I j).t)(hl:bV l (I j).au)(ho:br Z (I j).out):a7 ⟨t,l,Z⟩ λaU => ∃i,aU = I i :=
 a7.cY h hl ho ⟨j,rfl⟩
variable{n:Nat}
def a7.again{I:ι->St}{μ:ι->Nat}(j:ι)(hm:μ j<n)(h:c_ t (I j).t)(hl:bV l (I j).au)(ho:br Z (I j).out):
 a7 ⟨t,l,Z⟩ λaU => ∃i,aU = I i/\μ i<n:=a7.cY h hl ho ⟨j,rfl,hm⟩
def wrap_i64{x:Int}(h1 : -9223372036854775808<=x:=by omega)(h2:x<=9223372036854775807:=by omega):IntKind.i64.wrap x=x:=IntWalk.i64_in x ⟨h1,h2⟩
variable{b:Nat}{cs:List V}
def ab.zS(h:Z.box b=U cs):Z.set b cs=Z:=by
 cases Z;simp only[ab.set,ab.mk.injEq,gM];funext x;split
 .rename_i hx;rw[hx];exact h.symm
 .rfl
variable{ds:List V}
def ab.set_set:(Z.set b cs).set b ds=Z.set b ds:=by
 simp only[ab.set,ab.mk.injEq,gM];funext x;split<;>rfl
def ab.set_comm{c:Nat}(h:b≠c):(Z.set b cs).set c ds=(Z.set c ds).set b cs:=by
 simp only[ab.set,ab.mk.injEq,gM];funext x
 by_cases h1:x=c
 .subst h1;rw[aI rfl,aw (λh2=>h h2.symm),aI rfl]
 .rw[aw h1,aw h1]
def jP(D n:Nat)(v v' : V):Prop:=∀E E',E.le E' -> E'.aY D=U n->∀u,R E v u->R E' v' u
variable{v:V}{D:Nat}
def jP.same:jP D n v v:=λ_ _ h _ _ hr=>hr.mono _ h
def jP.le{v':V}(h:dr v v'):jP D n v v' := λ_ _ hl _ _ hr=>(h _ _ hr).mono _ hl
variable{k:Nat}{m:List (List V)}
def jP.tok(h:m.length=n):jP D n (.sl .a9 k m) (.sl (.tk D) k m):=λE E' hl ht u hr=>by
 have cL := hr.mono _ hl;simp only[R] at cL ⊢;obtain⟨a,cap,h1,h2,h3,h4⟩:=cL;exact⟨a,cap,h1,h2,h3,n,ht,by omega,λ_=>.inl h4⟩
def fm(D n:Nat):List V->List V->Prop
 | [],[]=>True
 | v::l,v' :: l' => jP D n v v' /\ fm D n l l'
 | _,_=>False
def fm.rfl:∀{l:List V},fm D n l l
 | []=>trivial
 | _::_=>⟨jP.same,fm.rfl⟩
variable{E:Env}
def fm.mono{E':Env}(hl:E.le E')(ht:E'.aY D=U n):∀{l l' : List V} {us:List Value},fm D n l l' -> RL E l us->RL E' l' us
 | [],[],[],_,_=>by simp[RL]
 | [],[],_::_,_,h=>by simp[RL] at h
 | [],_::_,_,h,_=>h.elim
 | _::_,[],_,h,_=>h.elim
 | v::l,v' :: l',[],_,h=>by simp[RL] at h
 | v :: l, v' :: l', u :: us, h, hr => by
  simp only[RL] at hr ⊢;exact⟨h.1 _ _ hl ht _ hr.1,fm.mono hl ht h.2 hr.2⟩
def fm.length:∀{l l' : List V},fm D n l l' -> l.length=l'.length
 | [],[],_=>Eq.refl _
 | [],_::_,h=>h.elim
 | _::_,[],h=>h.elim
 | v::l,v' :: l',h=>by simp[fm.length h.2]
def fm.get:∀{l l' : List V},fm D n l l' -> ∀(j:Nat) v',l'[j]?=U v' -> ∃v,l[j]?=U v/\jP D n v v'
 | [],[],_,j,v',h=>by simp at h
 | [],_::_,h,_,_,_=>h.elim
 | _::_,[],h,_,_,_=>h.elim
 | v :: l, w :: l', h, j, v', hj => by
  cases j with
  | zero=>simp at hj;subst hj;exact⟨v,by simp,h.1⟩
  | succ j=>simp at hj;obtain⟨u,h1,h2⟩:=fm.get h.2 j v' hj;exact⟨u,by simpa using h1,h2⟩
variable{cs':List V}
def jM.tok{E':Env}(hl:E.le E')(ht:E'.aY D=U n)(hw:E'.w=E.w)(h:fm D n cs cs')(k:jM E b cs):jM E' b cs' := by
 obtain⟨c,e,h1,h2,h3⟩:=k;refine⟨c,e,by rw[hw];exact h1,by rw[<-h.length];exact h2,λj x hx=>?_⟩;obtain⟨v,hv,hle⟩:=h.get j x hx;obtain⟨u,k1,k2⟩:=h3 j v hv;exact⟨u,k1,hle _ _ hl ht _ k2⟩
structure se(D n:Nat)(Z σ' : ab):Prop where
 box:∀b cs',σ'.box b=U cs' -> ∃cs,Z.box b=U cs/\fm D n cs cs'
 aY:∀O m,σ'.aY O=U m->Z.aY O=U m
 cQ:∀b cs,σ'.cQ b=U cs->Z.cQ b=U cs
def se.rfl:se D n Z Z:=⟨λ_ cs h=>⟨cs,h,fm.rfl⟩,λ_ _ h=>h,λ_ _ h=>h⟩
def se.set(h:Z.box b=U cs)(k:fm D n cs cs'):se D n Z (Z.set b cs'):=by
 refine⟨λc ds lB=>?_,λ_ _ h=>h,λ_ _ h=>h⟩;simp only[ab.set] at lB;split at lB
 .rename_i hc;subst hc;simp only[bg] at lB;subst lB;exact⟨cs,h,k⟩
 .exact⟨ds,lB,fm.rfl⟩
variable{K:St->Prop}
def a7.tok(n:Nat)(h:∀D,Z.aY D=ah->∃t' l' σ',fm D n t t' /\ l.length=l'.length/\(∀(i:Nat) c',l'[i]?=U c' -> ∃c,l[i]?=U c/\fm D n c c')/\se D n Z σ' /\ K ⟨t',l',σ'.ba D n⟩):
 a7 ⟨t,l,Z⟩ K:=by
 intro E a hs;obtain⟨N,hN⟩:=hs.ok.nt;have LS:Z.aY N=none:=by
  cases hq:Z.aY N with
  | none=>rfl
  | some m=>have:=hs.ok.aY N m hq;rw[hN N (b7 _)] at this;simp at this
 obtain⟨t',l',σ',h1,h2,h3,h4,h5⟩:=h N LS
 let E' : Env:={E with aY:=λt=>if t=N then U n else E.aY t}
 have ht:E'.aY N=U n:=by simp[E']
 have bw:Fr E E' := y5 (E' := E') hs.ok.fresh (Ext.refl _) (λ_ _=>rfl) (λt m hm=>by
  simp only[E'];split
  .rename_i hq;subst hq;rw[hN t (b7 _)] at hm;simp at hm
  .exact hm)
 have hle:E.le E' := bw.le λ_ _ h=>h
 refine⟨E',_,rfl,bw,⟨⟨λb cs b9=>?_,λD m hm=>?_,hs.ok.fresh,?_,λb cs hc=>eW.mono _ bw.nl (hs.ok.cQ b cs (h4.cQ b cs hc))⟩,⟨λi cs b9=>?_,λi hi=>hs.du.none i (by rw[h2];exact hi)⟩,hs.defers,h1.mono hle ht hs.slot⟩,h5⟩
 .obtain⟨AA,q1,q2⟩:=h4.box b cs b9;obtain⟨k1,k2⟩:=hs.ok.box b AA q1;exact⟨k1,k2.tok bw.nl ht rfl q2⟩
 .simp only[ab.ba] at hm;simp only[E'];split at hm
  .rename_i hq;rw[aI hq];exact hm
  .rename_i hq;rw[aw hq];exact hs.ok.aY D m (h4.aY D m hm)
 .exact⟨N+1,λt C_ => by simp only[E'];rw[aw (by omega)];exact hN t (by omega)⟩
 .obtain⟨c,q1,q2⟩:=h3 i cs b9;obtain⟨b,k1,k2,k3⟩:=hs.du.box i c q1;exact⟨b,k1,k2,k3.tok hle ht rfl q2⟩
def am:=af @ab.set_set <| af @atw <| af @acO <| af @Zm <| af @Zl <| af @Zn <| af @ach <| af @ac1 <| af (af (af (af (af (af (af @acE @alj) (af @acD (af @acH @apk))) (af (af @api @apj) (af @apl (af @aca @acg)))) (af (af (af @acj @aci) (af @alF (af @acB @asy))) (af (af @acK (af @acF @ace)) (af @acf (af @acd @acn))))) (af (af (af (af @acq @acG) (af @acz (af @acA @acs))) (af (af @acu (af @acw @acy)) (af @alh (af @ack @acm)))) (af (af (af @aaX @acb) (af @acr (af @acC @acp))) (af (af @acv (af (af @ai5 @ai4) @ai1)) (af @ai3 (af @ai2 @abn)))))) (af (af (af (af (af @abm @abl) (af @abk (af @asf @asg))) (af (af @arZ @ar0) (af @alI (af @alJ (af @alH @alG))))) (af (af (af @aty @akj) (af @aub (af @auc @adn))) (af (af @acU (af @ac0 @ac3)) (af @ac2 (af @adi @ado))))) (af (af (af (af @adl @acY) (af @acZ (af @acX @ac6))) (af (af @ac9 (af @adm @adg)) (af @adh (af @ac' @ada)))) (af (af (af @adb @adf) (af @ac4 (af @ac5 @acV))) (af (af @acW (af @ac_ @adj)) (af @ac8 (af @ac7 @adk))))))) <| af @amg <| af @amf <| af @amm <| af @ami <| af @amt <| af @amr <| af @amu <| af @aoo <| af @ame <| af @amk <| af @amh <| af @j7 <| af @vJ <| af @CD <| af @eqI <| af @akR <| af @akQ <| (af (af (af (af (af (af (af @atD (af @atz @atE)) (af (af @atv @atC) (af @att @atr))) (af (af (af @atq @ats) (af @atx @atA)) (af (af @ZT @ZS) (af @ZU @aal)))) (af (af (af @aam (af @aak @amE)) (af (af @amG @amF) (af @aqT @aqS))) (af (af (af @aoL @arQ) (af @abG @arP)) (af (af @arO @arN) (af @aos @aor))))) (af (af (af (af @aoq (af @amR @adV)) (af (af @adT @adX) (af @adW @ajj))) (af (af (af @aji @ase) (af @asc @apV)) (af (af @apU @aoa) (af @alk @aoI)))) (af (af (af (af @an' @aoe) (af @apo @apm)) (af (af @apn @apq) (af @anJ @anQ))) (af (af (af @anK @anR) (af @anT @aoJ)) (af (af @anS @an9) (af @aoK @aoh)))))) (af (af (af (af (af @aob (af @ani @ang)) (af (af @anh @anO) (af @anP @anN))) (af (af (af @anW @aa2) (af @anZ @aoc)) (af (af @anF @an7) (af @alT @an8)))) (af (af (af @alU (af @an1 @aeu)) (af (af @aet @an2) (af @aew @an4))) (af (af (af @an6 @anU) (af @ali @anV)) (af (af @aaY @anL) (af @an0 @ad1))))) (af (af (af (af @ad0 (af @an_ @anY)) (af (af @ab_ @an3) (af (af @ai_ @ai9) @ai6))) (af (af (af @ai8 @ai7) (af @alM (af @alN @alL))) (af (af @alK @alD) (af @Bs @alE)))) (af (af (af (af @asS @O') (af @amQ @acR)) (af (af @acQ @asB) (af @asz @asC))) (af (af (af @asA @ke) (af (af (af @ar' @ar9) @ar8) @asd)) (af (af @OX @aap) (af @aao @aaj))))))) (af (af (af (af (af (af @arn (af @arl @arb)) (af (af @aq_ @aah) (af @akF @akN))) (af (af (af @akL @akG) (af @akM @akK)) (af (af @akJ @akI) (af @akH @aai)))) (af (af (af @asH (af @asM @asL)) (af (af @asK @asJ) (af @asI @adx))) (af (af (af @ady @adA) (af @adB @adw)) (af (af @xm @R4) (af @yY @R5))))) (af (af (af (af @adz (af @atW @at0)) (af (af @atX @at4) (af @at3 @at2))) (af (af (af @atY @atZ) (af @at1 @aa_)) (af (af @abc @aa') (af @abi @abh)))) (af (af (af (af @abg @aba) (af @abb @abd)) (af (af @aoy @aox) (af @N2 @aoz))) (af (af (af @VD @aoF) (af @aoE @aoA)) (af (af @aoC @aoD) (af @anq @anp)))))) (af (af (af (af (af @anx (af @ant @anD)) (af (af @anC @ans) (af (af @anA @anw) @anu))) (af (af (af @anz @anr) (af @anE @anv)) (af (af @anB @adL) (af @adI @adP)))) (af (af (af (af @adO @adH) (af @adN @adJ)) (af (af @adM @adG) (af @adQ @adK))) (af (af (af @adF @adE) (af @ajH @ajG)) (af (af @mP @qa) (af @mr @jZ))))) (af (af (af (af @alW (af @alV @ajh)) (af (af @ajk @amH) (af @amI @Zp))) (af (af (af @Zo @atm) (af @atl @amq)) (af (af @amn @asv) (af @aoB @true_eq)))) (af (af (af (af @ad7 @atd) (af @aef @Zj)) (af (af @Zi @ate) (af @aeg @aoN))) (af (af (af @anH @anG) (af @akP @akO)) (af (af @asW @Zk) (af @rlZ @rlS))))))))
section
variable {D n k:Nat} {v v' : V} {c e t:List V} {l l' : List (List V)} {Z:ab}
def atK:jP D n v .any=True:=by simp[jP.le dr.any]
def atL:jP D n v v=True:=by simp[jP.same]
def atM:jP D 0 (.sl .a9 k []) (.sl (.tk D) k [])=True:=by simp[jP.tok]
theorem amK:fm D n (v::c) (v' :: e)=(jP D n v v' /\ fm D n c e):=rfl
theorem amL:fm D n [] []=True:=rfl
def amM:fm D n c c=True:=by simp[fm.rfl]
def jG:=af @atK <| af @atL <| af @atM <| af @amK <| af @amL @amM
def a7.s_{I:ι->St}(n:Nat)(h:∀D,Z.aY D=ah->∃i,fm D n t (I i).t/\l=(I i).au/\(I i).out=Z.ba D n):a7 ⟨t,l,Z⟩ λaU => ∃i,aU = I i :=
 a7.tok n λD a_=>by
  obtain⟨i,h1,h2,h3⟩:=h D a_;refine⟨(I i).t,(I i).au,Z,h1,by rw[h2],λj c' hc=>⟨c',by rw[h2];exact hc,fm.rfl⟩,se.rfl,i,?_⟩;rw[<-h3]
def eJ{D m n:Nat}:(Z.ba D m).ba D n=Z.ba D n:=by
 simp only[ab.ba,ab.mk.injEq,mA,gM];funext x;split<;>rfl
def gV{D n:Nat}(h:Z.aY D=ah):Z.sub (Z.ba D n):=by
 refine⟨λ_ _ h=>h,λO m hm=>?_,λ_ _ h=>h⟩
 have:O≠D:=by rintro rfl;rw[h] at hm;simp at hm
 simp only[ab.ba];rw[aw this];exact hm
def eR{D n:Nat}:(Z.ba D n).aY D=U n:=by simp[ab.ba]
end
variable{i:Nat}{Y:Type}
def Aa{l:List Y}{x:Y}(h:l[i]?=U x):l.take (i+1)=l.take i++[x]:=by rw[List.take_add_one,h];simp
mutual
def V.lo(n:Nat):V->Bool
 | .ptr (.au i) _=>decide (i<n)
 | .agg cs=>bK n cs
 | .bz cs=>bK n cs
 | .fn _ a b=>bK n a&&bK n b
 | _=>aa
def bK(n:Nat):List V->Bool
 | []=>aa
 | x::xs=>x.lo n&&bK n xs
end
def cp(n:Nat):List (List V)->Bool
 | []=>aa
 | x::xs=>bK n x&&cp n xs
def Env.cut(E:Env)(n:Nat):Env:={E with au:=λi=>if i<n then E.au i else ah}
mutual
def R.cut{n:Nat}:∀(x:V) {E:Env} {v:Value},x.lo n=aa->R E x v->R (E.cut n) x v
 | .any,_,_,_,_=>by simp only[R]
 | .bool _,_,_,_,h=>by simp only[R] at h ⊢;exact h
 | .int _ _,_,_,_,h=>by simp only[R] at h ⊢;exact h
 | .aH _,_,_,_,h=>by simp only[R] at h ⊢;exact h
 | .o8,_,_,_,h=>by simp only[R] at h ⊢;exact h
 | .ptr (.au i) off, E, _, hl, h => by
  simp only[V.lo,eb] at hl;simp only[R] at h ⊢;obtain⟨b,h1,h2⟩:=h;exact⟨b,by simp[Env.cut,hl,h1],h2⟩
 | .ptr (.out _) _,_,_,_,h=>by simp only[R] at h ⊢;exact h
 | .ptr (.kS _) _,_,_,_,h=>by simp only[R] at h ⊢;exact h
 | .elt _ _,_,_,_,h=>by simp only[R] at h ⊢;exact h
 | .sl _ _ _,_,_,_,h=>by simp only[R] at h ⊢;exact h
 | .agg cs, _, _, hl, h => by
  simp only[V.lo] at hl;simp only[R] at h ⊢;obtain⟨vs,h1,h2⟩:=h;exact⟨vs,h1,RL.cut cs hl h2⟩
 | .bz cs, _, _, hl, h => by
  simp only[V.lo] at hl;simp only[R] at h ⊢;obtain⟨vs,h1,h2⟩:=h;exact⟨vs,h1,RL.cut cs hl h2⟩
 | .fn _ a b, _, _, hl, h => by
  simp only[V.lo,b_] at hl;simp only[R] at h ⊢;obtain⟨fs,cs,h1,h2,h3⟩:=h;exact⟨fs,cs,h1,RL.cut a hl.1 h2,RL.cut b hl.2 h3⟩
 | .raw _,_,_,_,h=>by simp only[R] at h ⊢;exact h
def RL.cut{n:Nat}:∀(l:List V) {E:Env} {vs:List Value},bK n l=aa->RL E l vs->RL (E.cut n) l vs
 | [],_,[],_,_=>by simp only[RL]
 | [],_,_::_,_,h=>by simp only[RL] at h
 | _::_,_,[],_,h=>by simp only[RL] at h
 | x :: xs, _, v :: vs, hl, h => by
  simp only[bK,b_] at hl;simp only[RL] at h ⊢;exact⟨R.cut x hl.1 h.1,RL.cut xs hl.2 h.2⟩
end
def U1{n:Nat}:∀{l:List V} {j:Nat} {x:V},bK n l=aa->l[j]?=U x->x.lo n=aa
 | [],j,x,_,h=>by simp at h
 | y::ys,0,x,hl,h=>by simp only[bK,b_] at hl;simp at h;rw[<-h];exact hl.1
 | y::ys,j+1,x,hl,h=>by simp only[bK,b_] at hl;exact U1 hl.2 (by simpa using h)
def U0{n:Nat}:∀{l:List (List V)} {j:Nat} {x:List V},cp n l=aa->l[j]?=U x->bK n x=aa
 | [],j,x,_,h=>by simp at h
 | y::ys,0,x,hl,h=>by simp only[cp,b_] at hl;simp at h;rw[<-h];exact hl.1
 | y::ys,j+1,x,hl,h=>by simp only[cp,b_] at hl;exact U0 hl.2 (by simpa using h)
def jM.cut(h:bK n cs=aa)(k:jM E b cs):jM (E.cut n) b cs:=by
 obtain⟨c,e,h1,h2,h3⟩:=k;exact⟨c,e,h1,h2,λj x hx=>by
  obtain⟨u,k1,k2⟩:=h3 j x hx;exact⟨u,k1,R.cut x (U1 h hx) k2⟩⟩
def Fr.cut(E:Env)(n:Nat):Fr E (E.cut n) :=
 ⟨rfl,rfl,rfl,b7 _,λ_=>rfl,(Env.le.refl E).cell,(Env.le.refl E).tok,λ_ _ _=>⟨rfl,rfl⟩,λ_ _ h=>.inl h,λ_ _ c _ h=>⟨c,h⟩,λ_ i _ h=>⟨i,h⟩,λ_ c _ h=>⟨c,h,rfl⟩⟩
def a7.drop{l2:List (List V)}(ht:bK l.length t=aa)(hl:cp l.length l=aa)(hk:K ⟨t,l,Z⟩):a7 ⟨t,l++l2,Z⟩ K:=by
 intro E a hs;refine⟨E.cut l.length,⟨t,l,Z⟩,rfl,Fr.cut E _,⟨⟨hs.ok.box,hs.ok.aY,hs.ok.fresh,hs.ok.nt,hs.ok.cQ⟩,⟨λi cs b9=>?_,λi hi=>?_⟩,hs.defers,RL.cut _ ht hs.slot⟩,hk⟩
 .have hi:i<l.length:=(fw.1 b9).1;obtain⟨b,k1,k2,k3⟩:=hs.du.box i cs (by rw[sc hi];exact b9);exact⟨b,by simp[Env.cut,hi,k1],k2,k3.cut (U0 hl b9)⟩
 .simp only[Env.cut];rw[aw (by simp only at hi;omega)]
def bV.app:∀{l l' m:List (List V)},bV (l.take l'.length) l' -> bV l (l' ++ l.drop l'.length)
 | [],[],_,_=>trivial
 | [],_::_,_,h=>h.elim
 | v::l,[],m,_=>by simp[bV.rfl]
 | v :: l, w :: l', m, h => by
  simp only[da,vI,bV] at h;simp only[da,jN,D9,bV];exact⟨h.1,bV.app (m:=m) h.2⟩
variable{l':List (List V)}{σ':ab}
def a7.Cz{t':List V}(h:c_ t t')(hl:bV (l.take l'.length) l')(ho:br Z σ')(h1:bK l'.length t' = aa)(h2:cp l'.length l' = aa)(hk:K ⟨t',l',σ'⟩):a7 ⟨t,l,Z⟩ K :=
 (a7.cY (K:=λst=>st=⟨t',l' ++ l.drop l'.length,σ'⟩) h (bV.app (m:=[]) hl) ho rfl).bind λ_ e=>e▸a7.drop h1 h2 hk
def a7.lT{I:ι->St}{μ:ι->Nat}(j:ι)(hm:μ j<n)(h:c_ t (I j).t)(hl:bV (l.take (I j).au.length) (I j).au)(ho:br Z (I j).out)(h1:bK (I j).au.length (I j).t=aa)(h2:cp (I j).au.length (I j).au=aa):
 a7 ⟨t,l,Z⟩ λaU => ∃i,aU = I i/\μ i<n:=a7.Cz h hl ho h1 h2 ⟨j,rfl,hm⟩
section
variable {P:Program} {d:Option Nat} {q:OQ} {xs:List X} {r:List AO} {K:St->Prop} {t:List V} {l:List (List V)} {Z:ab}
theorem aod:cj P (⟨d,.own q xs,ah⟩::r) K ⟨t,l,Z⟩=q.bq Z (kC P d r K t l) (dw ⟨t,l,Z⟩ xs):=rfl
variable{H:V->ab->Prop}
theorem aoX:OQ.bq Z H .nil []=H (.raw (.slice ah 0 0)) Z:=rfl
variable{c e:List V}
def amj{u:Value}:c_ (.raw u::c) (.raw u::e)=c_ c e:=by simp[c_,dr.rfl]
def jj:=af @aod <| af @aoX @amj
def fQ(Z:ab)(k:Nat)(v:V)(rows:List (List V)):Prop :=
 ∃a cap,v = .raw (.slice a rows.length cap)/\rows.length<=cap/\(∀r∈rows,r.length=k)/\(cap=0\/∃b cs,a=U ⟨b,0,ah⟩/\Z.box b=U cs/\cs.length=cap*k/\cs.take (rows.length*k)=rows.flatten)
def sV:V->Option Nat
 | .raw (.slice (U ⟨b,_,_⟩) _ _)=>U b
 | _=>ah
def fQ.none:fQ Z k (.raw (.slice ah 0 0)) []:=⟨_,0,rfl,by simp,by simp,.inl rfl⟩
def fQ.len{rows:List (List V)}(h:fQ Z k v rows)(hk:H (.int .i64 rows.length) Z):OQ.bq Z H .len [v]:=by
 obtain⟨a,cap,rfl,_⟩:=h;exact hk
def fQ.frame{rows:List (List V)}(h:fQ Z k v rows)(hb:∀b cs,sV v=U b->Z.box b=U cs->σ'.box b=U cs):fQ σ' k v rows:=by
 obtain⟨a,cap,rfl,h1,h2,h3⟩:=h;refine⟨a,cap,rfl,h1,h2,?_⟩
 rcases h3 with h3 | ⟨b,cs,rfl,h4,h5⟩
 .exact .inl h3
 .exact .inr ⟨b,cs,rfl,hb b cs rfl h4,h5⟩
def So{k:Nat}:∀{rows:List (List V)} {m:Nat},(∀r∈rows,r.length=k)->rows.flatten.take (m*k)=(rows.take m).flatten
 | [],m,_=>by simp
 | r::rows,0,_=>by simp
 | r :: rows, m + 1, h => by
  simp only[fh] at h;rw[mX,vI,mX,jh,xd,List.take_append,h.1,An (by omega),show m*k+k - k=m*k by omega,So h.2]
def KV{k:Nat}:∀{rows:List (List V)} {m:Nat},(∀r∈rows,r.length=k)->rows.flatten.drop (m*k)=(rows.drop m).flatten
 | [],m,_=>by simp
 | r::rows,0,_=>by simp
 | r :: rows, m + 1, h => by
  simp only[fh] at h;rw[mX,D9,jh,xd,List.drop_append,h.1,Gu (by omega),show m*k+k - k=m*k by omega,kN,KV h.2]
def fQ.idx{rows:List (List V)}{j:Int}{i:IntKind}(h:fQ Z k v rows)(h0:0<=j)(hj:rows[j.toNat]?=U c)
 (hk:∀b cs rest,sV v=U b->Z.box b=U cs->cs.drop (j.toNat*k)=c++rest->H (.ptr (.out b) (j.toNat*k)) Z):OQ.bq Z H (.idx k) [v,.int i j]:=by
 obtain⟨a,cap,rfl,h1,h2,h3⟩:=h;have an:=(fw.1 hj).1
 rcases h3 with h3 | ⟨b,cs,rfl,h4,h5,h6⟩
 .omega
 .have e1:cs=rows.flatten++cs.drop (rows.length*k):=by rw[<-h6];simp
  have e2:rows.drop j.toNat=c::rows.drop (j.toNat+1):=by
   rw[kM an,(fw.1 hj).2]
  have l_:=ni h2;have e3:cs.drop (j.toNat*k)=c++((rows.drop (j.toNat+1)).flatten++cs.drop (rows.length*k)):=by
   have hle:j.toNat*k<=rows.length*k:=sd _ (by omega);rw[e1,YR (by rw[l_];exact hle),KV h2,e2,mX,fP];congr 2;rw[List.drop_append,l_];simp[Gu,l_]
  show 0<=j/\j<(rows.length:Nat)/\H (.ptr (.out b) (0+j.toNat*k)) Z;rw[j7];exact⟨h0,by omega,hk b cs _ rfl h4 e3⟩
def fQ.take{m:Nat}{rows:List (List V)}{i:IntKind}{j:Int}(h:fQ Z k v rows)(h0:0<=j)(hj:j.toNat=m)(hm:m<=rows.length)(hk:∀v',fQ Z k v' (rows.take m)->sV v' = sV v->H v' Z):OQ.bq Z H (.mu k aq aa aq) [v,.int i j]:=by
 obtain⟨a,cap,rfl,h1,h2,h3⟩:=h;show lu aq 0 [.int i j] λm vs=>lu aa rows.length vs λh vs=>lu aq cap vs λM vs=>vs=[]/\m<=h/\h<=M/\M<=cap/\H (.raw (.slice (if M=m then a else a.map (·.add (m*k))) (h - m) (M - m))) Z
 refine⟨h0,rfl,by omega,by omega,b7 _,?_⟩;have ea:(if cap=0 then a else a.map (·.add (0*k)))=a:=by
  split
  .rfl
  .rcases h3 with h3 | ⟨b,cs,rfl,_⟩
   .omega
   .simp[lS]
 rw[ea,hj];refine hk _ ⟨a,cap,?_,?_,λr hr=>h2 r (Ea hr),?_⟩ (by cases a with
  | none=>rfl
  | some ad=>cases ad;rfl)
 .rw[iu,xc hm];rfl
 .rw[iu];omega
 .rcases h3 with h3 | ⟨b,cs,rfl,h4,h5,h6⟩
  .exact .inl h3
  .refine .inr ⟨b,cs,rfl,h4,h5,?_⟩;rw[iu,xc hm,<-So h2,<-h6,List.take_take,xc (sd _ hm)]
structure J2(Z:ab)(v:V)(σ' : ab)(v' : V):Prop where
 mi:∀b cs,Z.box b=U cs->sV v≠U b->σ'.box b=U cs
 aY:σ'.aY=Z.aY
 new:∀b,sV v' = U b->sV v=U b\/Z.box b=ah
 cQ:σ'.cQ=Z.cQ
def Xp{k n:Nat}:∀{cs xs ys:List V},cs.take n=ys->n+xs.length<=cs.length->ys.length=n->(setAt cs n xs).take (n+xs.length)=ys++xs/\(setAt cs n xs).length=cs.length:=by
 intro cs xs ys h1 h2 h3;have ov:∀{cs xs:List V},xs.length<=cs.length->(over cs xs).take xs.length=xs/\(over cs xs).length=cs.length:=by
  intro cs;induction cs with
  | nil=>intro xs h;cases xs with | nil=>simp[over] | cons x xs=>simp at h
  | cons c cs ih =>
   intro xs h;cases xs with
   | nil=>simp[over]
   | cons x xs =>
    obtain⟨k1,k2⟩:=ih (xs:=xs) (by simpa using h);simp[over,k1,k2]
 induction n generalizing cs ys with
 | zero =>
  simp at h3;subst h3;obtain⟨k1,k2⟩:=ov (cs:=cs) (xs:=xs) (by omega);have e:setAt cs 0 xs=over cs xs:=by cases cs<;>rfl
  rw[e];simpa using ⟨k1,k2⟩
 | succ n ih =>
  cases cs with
  | nil=>simp at h2
  | cons c cs =>
   cases ys with
   | nil=>simp at h3
   | cons y ys =>
    simp only[vI,iJ] at h1;obtain⟨k1,k2⟩:=ih (cs:=cs) (ys:=ys) h1.2 (by simp at h2;omega) (by simpa using h3);simp only[setAt];rw[show n+1+xs.length=(n+xs.length)+1 by omega];simp[k1,k2,h1.1]
def fQ.app{rows:List (List V)}{tk:Tk}(h:fQ Z k v rows)(hm:∀r∈m,r.length=k)(hn:bS m.flatten=aa)(hb:rows.length+m.length<=aJ)
 (hk:∀v' σ',fQ σ' k v' (rows++m)->J2 Z v σ' v' -> H v' σ'):OQ.bq Z H (.app k) [v,.sl tk k m]:=by
 obtain⟨a,cap,rfl,h1,h2,h3⟩:=h;have CX:=ni hm;have bw:=ni h2;refine⟨rfl,h1,hb,hn,λe=>?_,λe hle=>?_,λan=>?_⟩
 .subst e;refine hk _ _ ⟨a,cap,by simp,by simpa using h1,by simpa using h2,by simpa using h3⟩ ⟨λ_ _ h _=>h,rfl,λb hb=>.inl hb,rfl⟩
 .rcases h3 with h3 | ⟨b,cs,rfl,h4,h5,h6⟩
  .have:m.length=0:=by omega
   exact absurd (sb this) e
  .have pP:rows.length*k+m.length*k<=cs.length:=by rw[h5,<-jh];exact sd _ hle
   refine⟨b,cs,rfl,h4,pP,hk _ _ ⟨U ⟨b,0,Option.none⟩,cap,by simp,by simpa using hle,λr hr=>?_,.inr ⟨b,_,rfl,ab.eY _ _ _,?_,?_⟩⟩ ⟨λb' cs' cn bh=>?_,rfl,λb' cn => .inl cn,rfl⟩⟩
   .rcases jv.1 hr with hr | hr
    .exact h2 r hr
    .exact hm r hr
   .rw[(Xp (k:=k) h6 (by rw[CX];exact pP) bw).2];exact h5
   .have:=(Xp (k:=k) h6 (by rw[CX];exact pP) bw).1
    rw[CX] at this;rw[bW,jh,this,vD]
   .have:b' ≠ b:=by rintro rfl;exact bh rfl
    rw[ab.e9 _ _ this];exact cn
 .have base:∀cs:List V,cs.take (rows.length*k)=rows.flatten->∀b' pE,Z.box b' = Option.none->rows.length+m.length<=pE -> H (.raw (.slice (U ⟨b',0,Option.none⟩) (rows.length+m.length) pE)) (Z.set b' (cs.take (rows.length*k)++m.flatten++aj ((pE - (rows.length+m.length))*k) .any)):=by
   intro cs h6 b' pE cn hc;refine hk _ _ ⟨U ⟨b',0,Option.none⟩,pE,by simp,by simpa using hc,λr hr=>?_,.inr ⟨b',_,rfl,ab.eY _ _ _,?_,?_⟩⟩ ⟨λQS cs' ry bh=>?_,rfl,λQS ry => ?_,rfl⟩
   .rcases jv.1 hr with hr | hr
    .exact h2 r hr
    .exact hm r hr
   .rw[h6];simp only[bW,bw,CX,List.length_replicate];rw[<-jh,<-jh];congr 1;omega
   .rw[h6,bW,vD,Y0 (by simp only[bW,bw,CX];rw[jh];omega),An (by simp only[bW,bw,CX];rw[jh];omega)]
   .have:QS ≠ b' := by rintro rfl;rw[cn] at ry;simp at ry
    rw[ab.e9 _ _ this];exact ry
   .simp only[sV,bg] at ry;subst ry;exact .inr cn
  rcases h3 with h3 | ⟨b,cs,rfl,h4,h5,h6⟩
  .have h0:rows=[]:=sb (by omega);subst h0;exact⟨[],.inl ⟨rfl,rfl⟩,base [] (by simp)⟩
  .refine⟨cs,.inr ⟨b,rfl,h4,?_⟩,base cs h6⟩;rw[h5];exact sd _ h1
structure vN(dJ Z:ab)(v:V):Prop where
 sub:dJ.sub Z
 new:∀b,sV v=U b->dJ.box b=ah
def vN.start{m:Nat}:vN Z Z (.raw (.slice ah m n)):=⟨ab.bc Z,λb h=>by simp[sV] at h⟩
def vN.step{dJ:ab}{v':V}(h:vN dJ Z v)(f:J2 Z v σ' v'):vN dJ σ' v' := by
 refine⟨⟨λb cs hb=>?_,λt n hn=>by rw[f.aY];exact h.sub.2.1 t n hn,λb cs hc=>by rw[f.cQ];exact h.sub.2.2 b cs hc⟩,λb hb=>?_⟩
 .exact f.mi b cs (h.sub.1 b cs hb) (λe=>by rw[h.new b e] at hb;simp at hb)
 .rcases f.new b hb with e | e
  .exact h.new b e
  .cases hq:dJ.box b with
   | none=>rfl
   | some cs=>rw[h.sub.1 b cs hq] at e;simp at e
end
section
variable {P:Program} {d:Option Nat} {K:St->Prop} {st:St} {b w:Bool}
def fR{op:aV}{r:List AO}(h1:b=aa->gL P (.bool aa) w d op r K st)(h2:b=aq->gL P (.bool aq) w d op r K st):gL P (.bool b) w d op r K st:=by cases b with
 | true=>exact h1 rfl
 | false=>exact h2 rfl
def fT{x y:V}{r:List AO}(h1:b=aa->vk P (.bool aa) x y d r K st)(h2:b=aq->vk P (.bool aq) x y d r K st):vk P (.bool b) x y d r K st:=by cases b with
 | true=>exact h1 rfl
 | false=>exact h2 rfl
end
section
variable {P:Program} {d:Option Nat} {K:St->Prop} {t:List V} {l:List (List V)} {Z:ab} {r:List AO}
def tC(st:St):Option X->Option V
 | none=>ah
 | some x=>U (ev st x)
def Dg(n:Nat)(acL:Nat):Option V->Prop
 | none=>n=acL
 | some v=>∃j,v = .int j n
def O0(v:V)(lo hi:Option V)(H:V->Prop):Prop:=∃s a b,v = .aH s/\a<=b/\b<=s.length/\Dg a 0 lo/\Dg b s.length hi/\H (.aH ((s.take b).drop a))
def F6(k:Nat)(v:V)(lo hi mx:Option V)(H:V->Prop):Prop:=(∃D l a b,v = .sl D k l/\a<=b/\b<=l.length/\Dg a 0 lo/\Dg b l.length hi /\
 match mx with
 | none=>H (.sl .no k ((l.take b).drop a))
 | some y=>(∃j,y = .int j b)/\H (.sl .a9 k ((l.take b).drop a))) \/
 ∃a n cap m h,v = .raw (.slice a n cap)/\m<=h/\h<=cap/\Dg m 0 lo/\Dg h n hi/\mx.isNone=aa/\H (.raw (.slice (if cap=m then a else a.map (·.add (m*k))) (h - m) (cap - m)))
variable{hi:Option X}
def aof{x:X}{lo:Option X}:cj P (⟨d,.zV x lo hi,ah⟩::r) K ⟨t,l,Z⟩=O0 (ev ⟨t,l,Z⟩ x) (tC ⟨t,l,Z⟩ lo) (tC ⟨t,l,Z⟩ hi) (kL P d r K ⟨t,l,Z⟩):=by
 cases lo<;>cases hi<;>rfl
variable{mx:Option X}
def aog{x:X}{lo:Option X}:cj P (⟨d,.mu k x lo hi mx,ah⟩::r) K ⟨t,l,Z⟩=F6 k (ev ⟨t,l,Z⟩ x) (tC ⟨t,l,Z⟩ lo) (tC ⟨t,l,Z⟩ hi) (tC ⟨t,l,Z⟩ mx) (kL P d r K ⟨t,l,Z⟩):=by
 cases lo<;>cases hi<;>cases mx<;>rfl
variable{L:List (V × Bool × Nat × V × List Nat)}{ms:List Nat}
def acI{x:X}{lo:Option X}{r:List (AO × List Nat)}{SN:List dC}:cK P ((⟨d,.zV x lo hi,ah⟩,ms)::r) SN L K ⟨t,l,Z⟩=O0 (ev ⟨t,l,Z⟩ x) (tC ⟨t,l,Z⟩ lo) (tC ⟨t,l,Z⟩ hi) (kD P d r SN L K ⟨t,l,Z⟩):=by
 cases lo<;>cases hi<;>rfl
def acJ{x:X}{lo:Option X}{r:List (AO × List Nat)}{SN:List dC}:cK P ((⟨d,.mu k x lo hi mx,ah⟩,ms)::r) SN L K ⟨t,l,Z⟩=F6 k (ev ⟨t,l,Z⟩ x) (tC ⟨t,l,Z⟩ lo) (tC ⟨t,l,Z⟩ hi) (tC ⟨t,l,Z⟩ mx) (kD P d r SN L K ⟨t,l,Z⟩):=by
 cases lo<;>cases hi<;>cases mx<;>rfl
theorem adR{st:St}:tC st ah=none:=rfl
theorem adS{st:St}{x:X}:tC st (U x)=U (ev st x):=rfl
variable{a:Nat}{s:List UInt8}
def DM{j j' : IntKind}{H:V->Prop}(h1:a<=b)(h2:b<=s.length)(h:H (.aH ((s.take b).drop a))):O0 (.aH s) (U (.int j a)) (U (.int j' b)) H:=⟨s,a,b,rfl,h1,h2,⟨j,rfl⟩,⟨j',rfl⟩,h⟩
def ast{D:Tk}{j:IntKind}{H:V->Prop}(h2:a<=m.length)(h:H (.sl .no k (m.drop a))):F6 k (.sl D k m) (U (.int j a)) ah ah H:=.inl ⟨D,m,a,m.length,rfl,h2,b7 _,⟨j,rfl⟩,rfl,by rw[df];exact h⟩
def Xz{D:Tk}{j:IntKind}{H:V->Prop}(h2:b<=m.length)(h:H (.sl .no k (m.take b))):F6 k (.sl D k m) ah (U (.int j b)) ah H:=.inl ⟨D,m,0,b,rfl,ux _,h2,rfl,⟨j,rfl⟩,h⟩
def cG:=af @anX <| af @anM <| af @aof <| af @aog <| af @acI <| af @acJ <| af @adR <| af @adS <| af @an5 <| af @acx <| af @aco <| af @atB <| af @anm <| af @anl <| af @ann <| af @aqf <| af @aqe <| af @aqg @ade
end
def KG(a b:List UInt8):dW (a++b)=dW a++dW b:=by simp[dW]
def pH(a:List UInt8):(dW a).length=a.length:=by simp[dW]
abbrev bu:=BitVec 64
section
variable {a b c:bu} {n:Int} {m:Nat}
def wrap_u64{x:Int}(h1:0<=x)(h2:x<18446744073709551616):IntKind.u64.wrap x=x:=IntWalk.u64_in x (by omega)
def atS(a:bu):(a.toNat:Int)<18446744073709551616:=by have:=a.isLt;omega
def Pr:BitVec.ofInt 64 (a.toNat:Nat)=a:=by simp
def Pt:IntKind.u64.wrap (a.toNat:Nat)=(a.toNat:Nat):=wrap_u64 (by omega) (atS a)
def atO:IntKind.u64.wrap ((a.toNat:Nat)+(b.toNat:Nat))=((a+b).toNat:Nat):=by
 rw[IntKind.wrap_u64,BitVec.toNat_add];omega
def Ps:IntKind.u64.wrap ((a.toNat:Nat) - (b.toNat:Nat))=((a - b).toNat:Nat):=by
 have:=a.isLt;have:=b.isLt
 rw[IntKind.wrap_u64,BitVec.toNat_sub];omega
def atT:IntKind.u64.wrap ((a.toNat:Nat)*(b.toNat:Nat))=((a*b).toNat:Nat):=by
 rw[IntKind.wrap_u64,BitVec.toNat_mul,<-Int.natCast_mul];generalize a.toNat*b.toNat=x;omega
def yr:ib .u64 (a.toNat:Nat) (b.toNat:Nat) .and=U (.int .u64 ((a&&&b).toNat:Nat)):=by
 (simp only[ib,IntKind.bits,Pr,Pt];rfl)
def BW:ib .u64 (a.toNat:Nat) (b.toNat:Nat) .or=U (.int .u64 ((a|||b).toNat:Nat)):=by
 (simp only[ib,IntKind.bits,Pr,Pt];rfl)
def X9:ib .u64 (a.toNat:Nat) (b.toNat:Nat) .andNot=U (.int .u64 ((a&&&~~~b).toNat:Nat)):=by
 (simp only[ib,IntKind.bits,Pr,Pt];rfl)
def Jq:ib .u64 (a.toNat:Nat) (m:Nat) .shl=U (.int .u64 ((a<<<m).toNat:Nat)):=by
 simp only[ib,IntKind.bits];rw[aw (by omega),IntKind.wrap_u64,PW,Qo];simp only[gK,bg,V.int.injEq,mA]
 by_cases h:m<=64
 .rw[show m.min 64=m from xc h,show(2:Int)^m=((2^m:Nat):Int) by simp,<-Int.natCast_mul];generalize a.toNat*2^m=x;omega
 .rw[show m.min 64=64 from Nat.min_eq_right (by omega)];obtain⟨k,rfl⟩:∃k,m=64+k:=⟨m - 64,by omega⟩;rw[Nat.pow_add,<-Nat.mul_assoc,Nat.mul_comm _ (2^64),Nat.mul_assoc,Nat.mul_mod_right];omega
def Jr:ib .u64 (a.toNat:Nat) (m:Nat) .shr=U (.int .u64 ((a>>>m).toNat:Nat)):=by
 simp only[ib,IntKind.bits];rw[aw (by omega),YL,Y2];simp only[gK,bg,V.int.injEq,mA];rw[Int.fdiv_eq_ediv_of_nonneg _ (Int.le_of_lt (Int.pow_pos (by decide)))]
 by_cases h:m<=64
 .rw[show m.min 64=m from xc h];norm_cast
 .rw[show m.min 64=64 from Nat.min_eq_right (by omega)];have h1:a.toNat / 2^m=0:=Nat.div_eq_of_lt (uw a.isLt (Nat.pow_le_pow_right (by decide) (by omega)));rw[h1]
  have:=a.isLt
  omega
def atQ:ib .u64 (a.toNat:Nat) 2 .quo=U (.int .u64 ((a>>>1).toNat:Nat)):=by
 simp only[ib];rw[aw (by decide),YL,Y2,Int.tdiv_eq_ediv_of_nonneg (by omega),wrap_u64 (by omega) (by have:=a.isLt;omega)];rfl
def Ya:ib .u64 (a.toNat:Nat) 2 .rem=U (.int .u64 ((a.getLsbD 0).toNat:Nat)):=by
 simp only[ib];rw[aw (by decide),Int.tmod_eq_emod_of_nonneg (by omega),BitVec.getLsbD,Nat.testBit_zero];simp only[bg,V.int.injEq,mA]
 rcases Nat.mod_two_eq_zero_or_one a.toNat with h | h<;>simp[h]<;>omega
def X_{p:Bool}:decide (((p.toNat:Nat):Int)=((1#64:bu).toNat:Nat))=p:=by cases p<;>rfl
def X':IntKind.u64.wrap ((a.toNat:Nat)*2)=((a<<<1).toNat:Nat):=by
 rw[IntKind.wrap_u64,PW,Qo];omega
def DX:decide ((a.toNat:Int)=(b.toNat:Nat))=decide (a=b):=by
 apply rn.2;rw[<-BitVec.toNat_inj];omega
theorem r5:V.int .u64 0 = .int .u64 ((0#64:bu).toNat:Nat):=rfl
theorem Ge:V.int .u64 1 = .int .u64 ((1#64:bu).toNat:Nat):=rfl
theorem atV:V.int .u64 18446744073709551615 = .int .u64 ((BitVec.allOnes 64:bu).toNat:Nat):=rfl
end
def hasB(s:bu)(i:Int):Bool:=decide (0<=i)&&s.getLsbD i.toNat
def kl(i:Nat):bu:=1#64<<<i
def j5(s:bu)(i:Int):bu:=if 0<=i/\i<64 then s|||kl i.toNat else s
def fC(l:List Int):bu:=l.foldl j5 0#64
def wT(a b:bu):Bool:=decide (a&&&~~~b=0#64)
def iU(n:Int):bu:=if n<=0 then 0#64 else if 64<=n then BitVec.allOnes 64 else kl n.toNat - 1#64
def fY(s:bu):List Nat:=(bG 64).filter s.getLsbD
def lZ{a b:bu}(h:∀k,k<64->a.getLsbD k=b.getLsbD k):a=b:=BitVec.eq_of_getLsbD_eq λk hk=>h k hk
def Co(i k:Nat):(kl i).getLsbD k=(decide (k<64)&&decide (k=i)):=by
 simp only[kl,PU,BitVec.getLsbD_one]
 by_cases h:k<64<;>by_cases h2:k=i<;>simp[h,h2]<;>omega
def QX(i:Nat):kl i<<<1=kl (i+1):=by
 apply lZ;intro k hk;rw[PU,Co,Co];cases k with
 | zero=>simp
 | succ k=>simp only[hk,Nat.add_sub_cancel,bL,gJ,Nat.add_right_cancel_iff];simp[show k<64 by omega]
def Js(s:bu)(i:Int)(k:Nat):(j5 s i).getLsbD k=(s.getLsbD k||(decide (k<64)&&decide ((k:Int)=i))):=by
 unfold j5
 split
 .rename_i h;rw[PT,Co];congr 2;apply rn.2;omega
 .rename_i h
  have:(decide (k<64)&&decide ((k:Int)=i))=false:=by
   simp only[B3,uH];omega
  rw[this,JD]
def SC:∀(l:List Int) (s:bu) (k:Nat),(l.foldl j5 s).getLsbD k=(s.getLsbD k||(decide (k<64)&&decide ((k:Int)∈l)))
 | [],s,k=>by simp
 | i :: l, s, k => by
  rw[yF,SC l,Js,Bool.or_assoc,<-Bool.and_or_distrib_left,<-Bool.decide_or];simp only[pz]
def x7(l:List Int)(k:Nat):(fC l).getLsbD k=(decide (k<64)&&decide ((k:Int)∈l)):=by
 rw[fC,SC];simp
def aoG(k:Nat):(BitVec.allOnes 64).getLsbD k=decide (k<64):=BitVec.getLsbD_allOnes
def Z'(n:Nat)(h:n<=64)(k:Nat):(kl n - 1#64).getLsbD k=(decide (k<64)&&decide (k<n)):=by
 by_cases hk:k<64
 .rw[BitVec.getLsbD,BitVec.toNat_sub,kl,PW,Qo];have e1:(1#64).toNat=1:=rfl;rw[e1,xd]
  by_cases h2:n=64
  .subst h2
   have:(2^64 - 1+2^64 % 2^64) % 2^64=2^64 - 1:=by decide
   rw[this,Y3];simp[hk]
  .have hp:2^n<2^64:=Nat.pow_lt_pow_right (by decide) (by omega);have n7:0<2^n:=Nat.two_pow_pos n;rw[Qn hp,show 2^64 - 1+2^n=(2^n - 1)+2^64 by omega,Nat.add_mod_right,Qn (by omega),Y3];simp[hk]
 .rw[yz _ _ (by omega)];simp[hk]
def xo(n:Int)(k:Nat):(iU n).getLsbD k=(decide (k<64)&&decide ((k:Int)<n)):=by
 unfold iU;split
 .rw[az (p:=(k:Int)<n) (by omega)];simp
 .split
  .rw[aoG]
   by_cases h:k<64
   .rw[aB (p:=(k:Int)<n) (by omega)];simp
   .simp[h]
  .rw[Z' _ (by omega)];congr 1;apply rn.2;omega
def Vv(l:List Int)(i:Nat)(hi:i<64):fC l&&&iU ((i+1:Nat):Int)=if (i:Int)∈l then(fC l&&&iU (i:Int))+kl i else fC l&&&iU (i:Int):=by
 split
 .rename_i h;rw[BitVec.add_eq_or_of_and_eq_zero]
  .apply lZ;intro k hk;simp only[PT,r_,xo,Co,hk,bL,gJ,x7]
   rcases Ao k i with h1 | h1 | h1
   .simp[show((k:Int)<(i:Nat)) by omega,show k≠i by omega];try omega
   .subst h1;simp[h];omega
   .simp[show ¬((k:Int)<((i+1:Nat):Int)) by omega,show ¬((k:Int)<(i:Nat)) by omega,show k≠i by omega];try omega
  .apply lZ;intro k hk;simp only[r_,xo,Co,hk,bL,gJ]
   by_cases h1:k=i
   .subst h1;simp
   .simp[h1]
 .rename_i h;apply lZ;intro k hk;simp only[r_,xo,hk,bL,gJ,x7]
  rcases Ao k i with h1 | h1 | h1
  .simp[show((k:Int)<(i:Nat)) by omega];try omega
  .subst h1;simp[h]
  .simp[show ¬((k:Int)<((i+1:Nat):Int)) by omega,show ¬((k:Int)<(i:Nat)) by omega];try omega
def aoi(l:List Int):fC l&&&iU 64=fC l:=by
 apply lZ;intro k hk;rw[r_,xo];simp only[hk,bL,gJ];rw[aB (by omega)];simp
def aoj(l:List Int):fC l&&&iU 0=0#64:=by simp[iU]
def asN{a b:bu}:wT a b=aa↔∀k,a.getLsbD k=aa->b.getLsbD k=true:=by
 unfold wT;rw[AB];constructor
 .intro h k hk
  have:=jR (λx:bu=>x.getLsbD k) h
  have an:k<64:=Nat.lt_of_not_le λhc=>by rw[yz _ _ hc] at hk;simp at hk
  simpa [hk,an] using this
 .intro h;apply lZ;intro k hk;cases hb:a.getLsbD k with
  | false=>simp[hb]
  | true=>simp[hb,h k hb,hk]
def NO{s:bu}:k∈fY s↔s.getLsbD k=true:=by
 simp only[fY,D',lP,and_iff_right_iff_imp];intro h;exact Nat.lt_of_not_le λhc=>by rw[yz _ _ hc] at h;simp at h
def al_{s:bu}(h:k∈fY s):k<64:=by
 simp only[fY,D',lP] at h;exact h.1
def Ik(s:bu):(fY s).length<=64:=by
 have:=Cb s.getLsbD (bG 64);simpa [fY] using this
def p9(s:bu):Nat:=((bG 64).find? s.getLsbD).getD 64
def FG{s:bu}(h:s≠0#64):p9 s<64/\s.getLsbD (p9 s)=aa/\∀k,k<p9 s->s.getLsbD k=false:=by
 unfold p9;cases hf:(bG 64).find? s.getLsbD with
 | none =>
  exfalso;apply h;apply lZ;intro k hk
  have:=Gv.1 hf k (by simpa using hk)
  simpa using this
 | some i =>
  obtain⟨h1,as,bs,h2,h3⟩:=Gw.1 hf;have hi:i<64:=by
   have:i∈bG 64:=by rw[h2];simp
   simpa using this
  refine⟨hi,h1,λk hk=>?_⟩;simp only[xf] at hk;have hl:as.length=i:=by
   have:=jR (λl:List Nat=>l[as.length]?) h2
   simp only[B' (b7 _),Nat.sub_self,Gx] at this;rw[JQ] at this
   .simpa using this
   .have:=jR List.length h2;simp at this;omega
  have iX : k∈as:=by
   have:=jR (λl:List Nat=>l[k]?) h2
   rw[sc (by omega),JQ (by omega)] at this;exact tq this.symm
  have:=h3 k iX
  simpa using this
def anc{s:bu}(h:s≠0#64):s&&&-s=kl (p9 s):=by
 obtain⟨h1,h2,h3⟩:=FG h;apply lZ;intro i hi;rw[r_,BitVec.getLsbD_neg,Co]
 rcases Ao i (p9 s) with hc | hc | hc
 .rw[h3 i hc,az (p:=i=p9 s) (by omega)];simp
 .subst hc;rw[h2,az (p:=∃j,j<p9 s/\s.getLsbD j=aa) (by rintro⟨j,hj,hs⟩;rw[h3 j hj] at hs;simp at hs)];simp[hi]
 .rw[aB (p:=∃j,j<i/\s.getLsbD j=aa) ⟨_,hc,h2⟩,az (p:=i=p9 s) (by omega)];cases s.getLsbD i<;>simp[hi]
def KB(s:bu)(i:Nat):(s&&&(s - 1#64)).getLsbD i=(s.getLsbD i&&decide (∃j,j<i/\s.getLsbD j=aa)):=by
 by_cases hi:i<64
 .rw[r_,<-BitVec.not_neg,BitVec.getLsbD_not,BitVec.getLsbD_neg];cases s.getLsbD i<;>simp[hi]
 .rw[yz _ _ (by omega),yz _ _ (by omega)];simp
def UX{s:bu}(h:s≠0#64):fY s=p9 s::fY (s&&&(s - 1#64)):=by
 obtain⟨h1,h2,h3⟩:=FG h;generalize p9 s=k at h1 h2 h3;have hr:bG 64=bG k++k::List.range' (k+1) (64 - (k+1)):=by
  rw[vH,vH,<-Eb,show(64:Nat) - (k+1)+1=64 - k by omega]
  have:=Qi (s:=0) (m:=k) (n:=64 - k) (step:=1)
  simp only[xd,j7] at this;rw[this];congr 1;omega
 unfold fY;rw[hr,B8,B8,Ak,Ak,h2,KB s k];have e1:List.filter s.getLsbD (bG k)=[]:=YS.2 λx hx=>by rw[h3 x (by simpa using hx)];simp
 have e2:List.filter (s&&&(s - 1#64)).getLsbD (bG k)=[]:=YS.2 λx hx=>by rw[KB,h3 x (by simpa using hx)];simp
 rw[e1,e2,
  az (by rintro⟨j,hj,hs⟩;rw[h3 j hj] at hs;simp at hs)]
 simp only[PY,dm,ch,cH,kN,iJ,mA];refine List.filter_congr λx hx=>?_
 have hx:k<x:=by simp only[List.mem_range'_1] at hx;omega
 rw[KB,aB ⟨k,hx,h2⟩,sa]
def ama:fY 0#64=[]:=by simp[fY]
def al'{s:bu}(h:fY s≠[]):s≠0#64:=by rintro rfl;exact h ama
def amb{s:bu}(h:fY s=[]):s=0#64:=by
 apply Classical.byContradiction;intro hc;rw[UX hc] at h;simp at h
def Jj:List Int:=[0,1,56,2,57,49,28,3,61,58,42,50,38,29,17,4,62,47,59,36,45,43,51,22,53,39,33,30,24,18,12,5,63,55,48,27,60,41,37,16,46,35,44,21,52,32,23,11,54,26,40,15,34,20,31,10,25,14,19,9,13,8,7,6]
def yo:List V:=Jj.map λn=>.int .u8 n
def ath(k:Nat)(h:k<64):((kl k*285870213051353865#64)>>>58).toNat<64/\Jj[((kl k*285870213051353865#64)>>>58).toNat]?=U (k:Int):=by
 revert k;decide +kernel
end Go.Am
namespace Go.Am
structure Tok where
 kind:Int
 ar:List UInt8
 pos:Int
inductive aA where
 | mk (tok:Tok) (ae:List aA) (fin:Int)
def aA.tok:aA->Tok | .mk t _ _=>t
def aA.ae:aA->List aA | .mk _ k _=>k
def aA.fin:aA->Int | .mk _ _ e=>e
mutual
def aA.enc:aA->List V
 | .mk t ks e=>[.int .u8 t.kind,.aH t.ar,.int .i64 t.pos,.sl .no 5 (cm ks),.int .i64 e]
def cm:List aA->List (List V)
 | []=>[]
 | t::ts=>t.enc::cm ts
end
def nW:∀l,cm l=l.map aA.enc
 | []=>rfl
 | t::ts=>by simp[cm,nW ts]
def dK(l:List aA):(cm l).length=l.length:=by simp[nW]
def cS(t:aA):t.enc=[.int .u8 t.tok.kind,.aH t.tok.ar,.int .i64 t.tok.pos,.sl .no 5 (cm t.ae),.int .i64 t.fin]:=by
 cases t;simp only[aA.enc,aA.tok,aA.ae,aA.fin]
mutual
def aA.many:aA->Nat
 | .mk _ ks _=>bE ks
def bE:List aA->Nat
 | []=>0
 | t::ts=>1+t.many+bE ts
end
def U6(t:aA):t.many=bE t.ae:=by cases t;simp[aA.many,aA.ae]
def NL:∀a b,bE (a++b)=bE a+bE b
 | [],b=>by simp[bE]
 | t::ts,b=>by simp[bE,NL ts b];omega
def gj:∀l,l.length<=bE l
 | []=>by simp[bE]
 | t::ts=>by simp[bE];have:=gj ts;omega
variable{i:Nat}
def amP{l:List aA}(h:i<l.length):bE l=bE (l.take i)+(1+bE l[i].ae)+bE (l.drop (i+1)):=by
 have:l=l.take i++l[i]::l.drop (i+1):=by simp
 have e:=jR bE this;rw[e,NL];simp only[bE,U6];omega
def NM{l:List aA}(h:i<l.length):bE l[i].ae+1<=bE l:=by
 have:=amP h;omega
structure aF where
 ar:List UInt8
 pos:Int
def aF.enc(w:aF):List V:=[.aH w.ar,.int .i64 w.pos]
inductive Nd where
 | mk (kind pos:Int) (ar:List UInt8) (al:List aF) (ae:List Nd)
namespace Nd
def kind:Nd->Int | .mk k _ _ _ _=>k
def pos:Nd->Int | .mk _ p _ _ _=>p
def ar:Nd->List UInt8 | .mk _ _ t _ _=>t
def al:Nd->List aF | .mk _ _ _ w _=>w
def ae:Nd->List Nd | .mk _ _ _ _ k=>k
end Nd
mutual
def Nd.enc:Nd->List V
 | .mk k p t ws ks=>[.int .i64 k,.int .i64 p,.aH t,.sl .no 2 (ws.map aF.enc),.sl .no 5 (sT ks)]
def sT:List Nd->List (List V)
 | []=>[]
 | n::ns=>n.enc::sT ns
end
def Bz:∀l,sT l=l.map Nd.enc
 | []=>rfl
 | t::ts=>by simp[sT,Bz ts]
def Nd.cS(n:Nd):n.enc=[.int .i64 n.kind,.int .i64 n.pos,.aH n.ar,.sl .no 2 (n.al.map aF.enc),.sl .no 5 (n.ae.map Nd.enc)]:=by
 cases n;simp only[Nd.enc,Nd.kind,Nd.pos,Nd.ar,Nd.al,Nd.ae,Bz]
structure ag where
 l:List aA
 at_:Int
 fin:Int
 aQ:Option Int
def dn(b:Option Int):Int:=match b with | some _=>2 | none=>0
def fB(b:Option Int):Int:=match b with | some a=>a | none=>0
def ag.enc(r:ag):List V:=[.sl .no 5 (cm r.l),.int .i64 r.at_,.int .i64 r.fin,.int .i64 (dn r.aQ),.int .i64 (fB r.aQ)]
def bf(l:List aA)(at_:Int)(k:Int):Bool:=decide (0<=at_)&&match l[at_.toNat]? with | some t=>decide (t.tok.kind=k) | none=>aq
def ag.ok(r:ag):Bool:=r.aQ.isNone
def ag.spot(r:ag):Int:=if 0<=r.at_ then(match r.l[r.at_.toNat]? with | some t=>t.tok.pos | none=>r.fin) else r.fin
def ag.fail(r:ag):ag:=match r.aQ with | some _=>r | none=>{r with aQ:=U r.spot}
def ag.cD(r:ag)(k:Int):Bool:=r.ok&&bf r.l r.at_ k
def aA.zero:aA:=.mk ⟨0,[],0⟩ [] 0
def ag.take(r:ag)(k:Int):aA × ag:=if r.cD k then(r.l.getD r.at_.toNat .zero,{r with at_:=r.at_+1}) else(.zero,r.fail)
def ag.word(r:ag):aF × ag:=(⟨(r.take 97).1.tok.ar,(r.take 97).1.tok.pos⟩,(r.take 97).2)
variable{n:Nat}
theorem ag.ex1{r:ag}:r.enc.drop n=[V.sl .no 5 (cm r.l),.int .i64 r.at_,.int .i64 r.fin,.int .i64 (dn r.aQ),.int .i64 (fB r.aQ)].drop n:=rfl
theorem ag.ex2{r:ag}{x:List V}:setAt r.enc n x=setAt [V.sl .no 5 (cm r.l),.int .i64 r.at_,.int .i64 r.fin,.int .i64 (dn r.aQ),.int .i64 (fB r.aQ)] n x:=rfl
variable{g:Bool}
theorem ag.ex3{r:ag}:bX g n r.enc=bX g n [V.sl .no 5 (cm r.l),.int .i64 r.at_,.int .i64 r.fin,.int .i64 (dn r.aQ),.int .i64 (fB r.aQ)]:=rfl
theorem ag.ex4{r:ag}:cB n r.enc=cB n [V.sl .no 5 (cm r.l),.int .i64 r.at_,.int .i64 r.fin,.int .i64 (dn r.aQ),.int .i64 (fB r.aQ)]:=rfl
def ag.ex:(∀{r:ag} {n:Nat},r.enc.drop n=[V.sl .no 5 (cm r.l),.int .i64 r.at_,.int .i64 r.fin,.int .i64 (dn r.aQ),.int .i64 (fB r.aQ)].drop n) /\
 (∀{r:ag} {n:Nat} {x:List V},setAt r.enc n x=setAt [V.sl .no 5 (cm r.l),.int .i64 r.at_,.int .i64 r.fin,.int .i64 (dn r.aQ),.int .i64 (fB r.aQ)] n x) /\
 (∀{r:ag} {n:Nat} {g:Bool},bX g n r.enc=bX g n [V.sl .no 5 (cm r.l),.int .i64 r.at_,.int .i64 r.fin,.int .i64 (dn r.aQ),.int .i64 (fB r.aQ)]) /\
 (∀{r:ag} {n:Nat},cB n r.enc=cB n [V.sl .no 5 (cm r.l),.int .i64 r.at_,.int .i64 r.fin,.int .i64 (dn r.aQ),.int .i64 (fB r.aQ)]):=⟨ag.ex1,ag.ex2,ag.ex3,ag.ex4⟩
def ko{β:Type}(step:ag × List β->ag × List β):Nat->ag × List β->ag × List β
 | 0,a=>a
 | n+1,a=>if a.1.cD 44 then ko step n (step ((a.1.take 44).2,a.2)) else a
variable{β:Type}
def eZ(step:ag × List β->ag × List β)(r:ag):ag × List β:=ko step r.l.length (step (r,[]))
def gI(a:ag × List aF):ag × List aF:=(a.1.word.2,a.2++[a.1.word.1])
def ag.gk(r:ag)(k:Int):(r.take k).2.l=r.l:=by
 unfold ag.take;split
 .rfl
 .unfold ag.fail;split<;>rfl
def ag.ad5(r:ag):r.fail.at_=r.at_:=by unfold ag.fail;split<;>rfl
def ag.KM(r:ag):r.fail.aQ≠none:=by
 unfold ag.fail;split
 .rename_i h;rw[h];simp
 .simp
def ag.vu(r:ag)(k:Int):(r.cD k=aa/\(r.take k).2.at_=r.at_+1/\(r.take k).2.aQ=ah/\0<=r.at_/\r.at_<r.l.length)\/(r.cD k=aq/\(r.take k).2.at_=r.at_/\(r.take k).2.aQ≠ah):=by
 cases h:r.cD k
 .right;simp only[ag.take,h,dm,ch,mA];exact⟨r.ad5,r.KM⟩
 .left;have h' := h;simp only[ag.cD,ag.ok,bf,b_,eb,Ed] at h';obtain⟨h1,h0,hk⟩:=h';simp only[ag.take,h,cH,mA];refine⟨h1,h0,?_⟩;cases hq:r.l[r.at_.toNat]? with
  | none=>rw[hq] at hk;simp at hk
  | some t=>have:=(fw.1 hq).1;omega
def ag.wU(r:ag)(k:Int):bE (r.take k).1.ae<=bE r.l/\((r.take k).2.aQ=ah->bE (r.take k).1.ae+1<=bE r.l):=by
 rcases r.vu k with ⟨h,_,_,h1,h2⟩ | ⟨h,_,h1⟩
 .have an:r.at_.toNat<r.l.length:=by omega
  have:=NM an
  simp only[ag.take,h,cH,gy,bN an,xf];exact⟨by omega,λ_=>this⟩
 .refine⟨?_,λhb=>absurd hb h1⟩;simp[ag.take,h,aA.zero,aA.ae,bE]
def aA.inner(t:aA):ag:=⟨t.ae,0,t.fin,ah⟩
def ag.close(r:ag):ag:=if r.ok=aa/\r.at_<r.l.length then r.fail else r
def ag.under(r i:ag):ag:={r with aQ:=i.close.aQ}
structure Reads{β:Type}(one:ag->β × ag):Prop where
 l:∀r,(one r).2.l=r.l
 go:∀r,0<=r.at_->r.at_<=r.l.length->r.at_<=(one r).2.at_/\(one r).2.at_<=r.l.length/\((one r).2.aQ=ah->r.at_+1<=(one r).2.at_)
def cV(one:ag->β × ag)(a:ag × List β):ag × List β:=((one a.1).2,a.2++[(one a.1).1])
def ag.inside(step:ag × List β->ag × List β)(empty:Bool)(t:aA):ag × List β:=if empty=aa/\t.ae.length=0 then(t.inner,[]) else eZ step t.inner
def ag.bracket(step:ag × List β->ag × List β)(kind:Int)(empty:Bool)(r:ag):(List β × Int) × ag :=
 if (r.take kind).2.ok=aa then(((ag.inside step empty (r.take kind).1).2,(r.take kind).1.tok.pos),(r.take kind).2.under (ag.inside step empty (r.take kind).1).1) else(([],0),(r.take kind).2)
def ag.nodes(one:ag->Nd × ag)(kind:Int)(empty:Bool)(r:ag):(List Nd × Int) × ag:=r.bracket (cV one) kind empty
def ag.words(empty:Bool)(r:ag):(List aF × Int) × ag:=r.bracket gI 123 empty
end Go.Am
namespace Go.Am
def kG:List V:=.int .i64 0::aj 64 (.int .u64 0)
def rp:List V:=.int .i64 0::.sl .a9 1 []::kG
def IS:List Nat:=aj 65 1
def gq(l:List bu):List V:=l.map λw=>.int .u64 (w.toNat:Nat)
section
variable {l m:List bu} {i n:Nat} {w:bu}
def Hb:(gq l).length=l.length:=by simp[gq]
def RZ:c8 (gq l)=true:=by induction l with | nil=>rfl | cons a l ih=>simpa [gq,c8,V.one] using ih
def RY:bS (gq l)=true:=by induction l with | nil=>rfl | cons a l ih=>simpa [gq,bS,V.cM] using ih
def RU:aZ (gq l)=gq l:=by induction l with | nil=>rfl | cons a l ih=>simp only[gq,dz,aZ,V.erase] at ih ⊢;rw[ih]
def RX:bK n (gq l)=true:=by induction l with | nil=>rfl | cons a l ih=>simpa [gq,bK,V.lo] using ih
def ads(h:i<l.length):bX aq 1 ((gq l).drop i)=U (.int .u64 ((l.getD i 0#64).toNat:Nat)):=by
 have h' : i<(gq l).length:=by rwa [Hb]
 rw[kM h'];simp only[bX];simp[gq,gy,h]
def R0(h:i<l.length):setAt (gq l) i [.int .u64 (w.toNat:Nat)]=gq (l.set i w):=by
 induction l generalizing i with
 | nil=>simp at h
 | cons a l ih =>
  cases i with
  | zero=>simp only[gq,dz,List.set_cons_zero,mr,qa,mP]
  | succ i=>simp only[da,Nat.add_lt_add_iff_right] at h;simp only[gq,dz,setAt,List.set_cons_succ] at ih ⊢;rw[ih h]
def RW(h:i<l.length):cB 1 ((gq l).drop i)=true:=by
 have h' : i<(gq l).length:=by rwa [Hb]
 rw[kM h'];rfl
def RT(h:l.length=n)(h' : m.length=n):gd (aj n 1) (gq l) (gq m)=U (decide (l=m)):=by
 induction n generalizing l m with
 | zero=>obtain rfl:=vG.1 h;obtain rfl:=vG.1 h';rfl
 | succ n ih =>
  cases l with
  | nil=>simp at h
  | cons a l =>
   cases m with
   | nil=>simp at h'
   | cons b m =>
    simp only[gq,dz,Al] at ih ⊢;rw[yY,ih (by simpa using h) (by simpa using h'),xm,DX,<-yA];simp only[iJ]
def z_:∀{c:List V},takeN c.length c=U c
 | []=>rfl
 | x::c=>by rw[da,O',z_];rfl
variable{c e:List V}
def O9(h:c.length=n):takeN n (c++e)=U c:=by
 subst h;induction c with
 | nil=>rfl
 | cons x c ih=>rw[da,jN,O',ih];rfl
def za:∀{c:List V},cB c.length c=aa
 | []=>rfl
 | x::c=>by rw[da,cB,za]
def vh:∀{c e:List V},c.length=e.length->over c e=e
 | [],[],_=>rfl
 | x::c,y::e,h=>by rw[over,vh (by simpa using h)]
 | [],_::_,h=>by simp at h
 | _::_,[],h=>by simp at h
end
structure Rl where
 n:Int
 up:List bu
 len:up.length=64
def Rl.ext'{a b:Rl}(h:a.n=b.n)(k:a.up=b.up):a=b:=by cases a;cases b;simp only at h k;subst h;subst k;rfl
instance:DecidableEq Rl:=λa b=>if h:a.n=b.n/\a.up=b.up then isTrue (Rl.ext' h.1 h.2) else isFalse λe=>h ⟨e▸rfl,e▸rfl⟩
def Rl.zero:Rl:=⟨0,aj 64 0#64,by simp⟩
def Rl.enc(r:Rl):List V:=.int .i64 r.n::gq r.up
def Rl.get(r:Rl)(i:Nat):bu:=r.up.getD i 0#64
def Rl.put(r:Rl)(i:Nat)(w:bu):Rl:=⟨r.n,r.up.set i w,by simp[r.len]⟩
def Rl.ui(r:Rl)(n:Int):Rl:=⟨n,r.up,r.len⟩
def Rl.of(n:Int)(f:Nat->bu):Rl:=⟨n,(bG 64).map f,by simp⟩
section
variable {r s:Rl} {i n m:Nat} {w:bu} {z:Int}
variable{j:Nat}
def Rl.CN:(r.put i w).get j=if i=j/\i<64 then w else r.get j:=by
 simp only[Rl.get,Rl.put,gy,List.getElem?_set,r.len]
 by_cases h:i=j
 .subst h
  by_cases h2:i<64
  .simp[h2]
  .simp[h2,r.len]
 .simp[h]
def Rl.nj{f:Nat->bu}(h:i<64):(Rl.of z f).get i=f i:=by simp[Rl.get,Rl.of,gy,h]
def Rl.ext(h:r.n=s.n)(k:∀i,i<64->r.get i=s.get i):r=s:=by
 refine Rl.ext' h (P8 (by rw[r.len,s.len]) λi h1 h2=>?_)
 have:=k i (by rw[r.len] at h1;exact h1)
 simpa [Rl.get,gy,h1,h2] using this
def Rl.dj:r.enc.length=65:=by simp[Rl.enc,Hb,r.len]
def Rl.gH:c8 r.enc=true:=by simp[Rl.enc,c8,V.one,RZ]
def Rl.dL:bS r.enc=true:=by simp[Rl.enc,bS,V.cM,RY]
def Rl.dy:aZ r.enc=r.enc:=by simp[Rl.enc,aZ,V.erase,RU]
def Rl.bP:bK m r.enc=true:=by simp[Rl.enc,bK,V.lo,RX]
def Rl.fO:takeN 65 r.enc=U r.enc:=by have:=z_ (c:=r.enc);rwa [Rl.dj] at this
def Rl.iF:bX aa 65 r.enc=U (.agg r.enc):=by rw[Bs,Rl.fO];rfl
def Rl.gT:cB 65 r.enc=true:=by have:=za (c:=r.enc);rwa [Rl.dj] at this
def Rl.gx:over s.enc r.enc=r.enc:=vh (by rw[Rl.dj,Rl.dj])
def Rl.aqv:setAt s.enc 0 r.enc=r.enc:=by rw[mr,Rl.gx]
theorem Rl.vl:bX aq 1 r.enc=U (.int .i64 r.n):=rfl
theorem Rl.aql:cB 1 r.enc=true:=rfl
def Rl.Wp:setAt r.enc 0 [.int .i64 z]=(r.ui z).enc:=by rw[Rl.enc,mr,qa,mP];rfl
def Rl.aqp:over r.enc [.int .i64 z]=(r.ui z).enc:=by rw[<-mr,Rl.Wp]
def Rl.yc:kG=Rl.zero.enc:=by rw[Rl.enc,gq,Rl.zero,List.map_replicate];rfl
def Rl.qX:gd IS r.enc s.enc=U (decide (r=s)):=by
 show gd (1::aj 64 1) (.int .i64 r.n::gq r.up) (.int .i64 s.n::gq s.up)=_;rw[yY,RT r.len s.len,xm,<-yA];congr 1;exact rn.2 ⟨λh=>Rl.ext' h.1 h.2,λh=>h▸⟨rfl,rfl⟩⟩
theorem Rl.x8{f:Nat->bu}:(Rl.of z f).n=z:=rfl
def Rl.Jy:Rl.zero.ui z=Rl.of z λ_=>0#64:=by
 refine Rl.ext rfl λi hi=>?_
 rw[Rl.nj hi];simp only[Rl.get,Rl.ui,Rl.zero,gy,YT,hi,cH,xf]
def Rl.fill{f:Nat->bu}:(Rl.of z λj=>if j<i then f j else 0#64).put i (f i)=Rl.of z λj=>if j<i+1 then f j else 0#64:=by
 refine Rl.ext rfl λk hk=>?_
 rw[Rl.CN,Rl.nj hk,Rl.nj hk]
 by_cases h:i=k
 .subst h;simp[hk]
 .rw[aw (by omega)]
  by_cases h2:k<i
  .rw[aI h2,aI (by omega)]
  .rw[aw h2,aw (by omega)]
def Rl.wZ(h:i<64):bX aq 1 (r.enc.drop (1+i))=U (.int .u64 ((r.get i).toNat:Nat)):=by
 rw[GC,Rl.enc,D9,ads (by rw[r.len];exact h)];rfl
def Rl.wY(h:i<64):cB 1 (r.enc.drop (1+i))=true:=by
 rw[GC,Rl.enc,D9,RW (by rw[r.len];exact h)]
def Rl.w7(h:i<64):setAt r.enc (1+i) [.int .u64 (w.toNat:Nat)]=(r.put i w).enc:=by
 rw[GC,Rl.enc,jZ,R0 (by rw[r.len];exact h)];rfl
def Rl.ak:=af @Rl.dj <| af @Rl.gH <| af @Rl.dL <| af @Rl.dy <| af @Rl.bP <| af @Rl.fO <| af @Rl.iF <| af @Rl.gT <| af @Rl.gx <| af @Rl.vl <| af @Rl.aql <| af @Rl.aqv <| af @Rl.Wp <| af @Rl.aqp <| af @Rl.yc @Rl.qX
end
abbrev JZ:=Option (Nat × Bool)->List Nat->Nat->List (AO × List Nat)
abbrev cw:=JZ->JZ
def sl:List Nat->List X
 | []=>[]
 | a::l=>.s a::sl l
def zv:Nat->V
 | 0=>.int .i64 0
 | 1=>.aH []
 | 2=>.bool aq
 | 3=>.int .u8 0
 | 4=>.int .u64 0
 | n+5=>.sl .a9 n []
def sf:List (Nat × Nat × Nat)->List (Nat × Nat × X)
 | []=>[]
 | (a,b,c)::l=>(a,b,.s c)::sf l
def zl:List Nat->List V
 | []=>[]
 | a::l=>zv a::zl l
def wd(p:aV):cw:=λk g m n=>(⟨U n,p,g⟩,m)::k g [] (n+1)
def wu(d:Option Nat)(p:aV):cw:=λk g m n=>(⟨d,p,g⟩,m)::k g [] n
def wn(f:Nat->aV):cw
 | _,_,_,0=>[]
 | k,g,m,n+1=>(⟨U (n+1),f n,g⟩,m)::k g [] (n+2)
def wp(d:Option Nat)(f:Nat->aV):cw
 | _,_,_,0=>[]
 | k,g,m,n+1=>(⟨d,f n,g⟩,m)::k g [] (n+1)
def om(a:Nat):cw:=wd (.mv (.s a))
def oi(z:Int):cw:=wd (.mv (.c (.int .i64 z)))
def oz(i:Nat):cw:=wd (.mv (.c (zv i)))
def ob(p:BinOp)(a b:Nat):cw:=wd (.dV p (.s a) (.s b))
def oB(p:BinOp)(a:Nat)(z:Int):cw:=wd (.dV p (.s a) (.c (.int .i64 z)))
def ou(p:BinOp)(a:Nat)(z:Int):cw:=wd (.dV p (.s a) (.c (.int .u8 z)))
def oE(p:BinOp)(a b:Nat):cw:=wd (.kQ p (.s a) (.s b))
def ol(i a:Nat):cw:=wd (.load aa i (.s a))
def oo(a:Nat):cw:=wd (.load aq 1 (.s a))
def ok(a:Nat):cw:=wd (.wJ (.s a))
def of(i a:Nat):cw:=wd (.pJ i (.s a))
def ov(i j a:Nat):cw:=wd (.v8 aa j i (.s a))
def ow(i a:Nat):cw:=wd (.v8 aq i 1 (.s a))
def oL(a:Nat):cw:=wd (.wG (.s a))
def oT(a:Nat):cw:=wd (.wH (.s a))
def oA(i a b:Nat):cw:=wd (.tX i (.s a) (.s b))
def oI(i a:Nat)(z:Int):cw:=wd (.tX i (.s a) (.c (.int .i64 z)))
def oS(a b:Nat):cw:=wd (.tY (.s a) (.s b))
def oe(a i:Nat):cw:=wd (.ext (.s a) i)
def oc(f:FuncId)(l:List X):cw:=wd (.call f l)
def oC(f:FuncId)(l:List Nat):cw:=wd (.call f (sl l))
def oO(q:OQ)(l:List Nat):cw:=wd (.own q (sl l))
def oK(a b c:Nat):cw:=wd (.zV (.s a) (U (.s b)) (U (.s c)))
def oW(z:List Nat)(l:List (Nat × Nat × Nat)):cw:=wd (.build (zl z) (sf l))
def oG(z:List Nat)(l:List (Nat × Nat × X)):cw:=wd (.build (zl z) l)
def oM(l:List Nat):cw:=wd (.alloc (zl l))
def oY(z:List V)(l:List (Nat × Nat × X)):cw:=wd (.build z l)
def op(a b c:Nat):cw:=wd (.pick (.s a) (.s b) (.s c))
def oa(i a b:Nat):cw:=wd (.app i (.s a) (.s b))
def oy(a b:Nat):cw:=wd (.pick (.s a) (.s b) (.c (.bool aq)))
def on(a:Nat):cw:=wd (.not (.s a))
def oq(q:aV):cw:=wd (q)
def oP(m i a b:Nat):cw:=wd (.sO m i (.s a) (.s b))
def oQ(m i a:Nat)(z:Int):cw:=wd (.sO m i (.s a) (.c (.int .i64 z)))
def nm:cw:=wn λn=>.mv (.s n)
def nB(p:BinOp)(z:Int):cw:=wn λn=>.dV p (.s n) (.c (.int .i64 z))
def nu(p:BinOp)(z:Int):cw:=wn λn=>.dV p (.s n) (.c (.int .u8 z))
def nb(p:BinOp)(a:Nat):cw:=wn λn=>.dV p (.s a) (.s n)
def nE(p:BinOp)(a:Nat):cw:=wn λn=>.kQ p (.s a) (.s n)
def nl(i:Nat):cw:=wn λn=>.load aa i (.s n)
def no:cw:=wn λn=>.load aq 1 (.s n)
def nk:cw:=wn λn=>.wJ (.s n)
def nf(i:Nat):cw:=wn λn=>.pJ i (.s n)
def nL:cw:=wn λn=>.wG (.s n)
def nT:cw:=wn λn=>.wH (.s n)
def nA(i a:Nat):cw:=wn λn=>.tX i (.s a) (.s n)
def nI(i:Nat)(z:Int):cw:=wn λn=>.tX i (.s n) (.c (.int .i64 z))
def nS(a:Nat):cw:=wn λn=>.tY (.s a) (.s n)
def nn:cw:=wn λn=>.not (.s n)
def nO(q:OQ):cw:=wn λn=>.own q [.s n]
def n1(i:Nat):cw:=wn λn=>.km i [.s n]
def na(i a:Nat):cw:=wn λn=>.app i (.s a) (.s n)
def os(i a b:Nat):cw:=wu ah (.store i (.s a) (.s b))
def ot(d a:Nat):cw:=wu (U d) (.mv (.s a))
def oj(d:Nat)(z:Int):cw:=wu (U d) (.mv (.c (.int .i64 z)))
def oV(d:Nat)(v:V):cw:=wu (U d) (.mv (.c v))
def oU(d i:Nat):cw:=wu (U d) (.mv (.c (zv i)))
def ox(d i a:Nat):cw:=wu (U d) (.box i (.s a))
def oX(d i a:Nat):cw:=wu (U d) (.vW i (.s a))
def oZ(d:Nat)(l:List Nat):cw:=wu (U d) (.alloc (zl l))
def oR(d:Nat)(l:List V):cw:=wu (U d) (.alloc l)
def od(d:Option Nat)(q:aV):cw:=wu d (q)
def oN:cw:=wu ah (.mv (.c .any))
def o1(d:Nat):cw:=wp (U d) λn=>.mv (.s n)
def o2(i a:Nat):cw:=wp ah λn=>.store i (.s a) (.s n)
def fo(i a:Nat):cw:=λk=>of i a (no k)
def nF(i:Nat):cw:=λk=>nf i (no k)
def mk(a:Nat):cw:=λk=>om a (nk k)
def ic(a:Nat):cw:=λk=>om a (nB .add 1 (o1 a k))
def mM(l:List Nat):cw:=λk g _ n=>k g l n
def gA:cw
 | _,_,_,0=>[]
 | k,_,m,n+1=>(⟨U (n+1),.mv (.s n),ah⟩,m)::k (U (n+1,aa)) [] (n+2)
def gB:cw
 | _,_,_,0=>[]
 | k,_,m,n+1=>(⟨U (n+1),.mv (.s n),ah⟩,m)::k (U (n+1,aq)) [] (n+2)
def gZ:cw
 | k,U (g,aa),m,n+1=>(⟨U (n+1),.pick (.s g) (.s n) (.c (.bool aq)),ah⟩,m)::k ah [] (n+2)
 | k,U (g,aq),m,n+1=>(⟨U (n+1),.pick (.s g) (.c (.bool aa)) (.s n),ah⟩,m)::k ah [] (n+2)
 | _,_,_,_=>[]
def og(g:Nat)(o:cw):cw:=λk h=>o (λ_=>k h) (U (g,aa))
def oh(g:Nat)(o:cw):cw:=λk h=>o (λ_=>k h) (U (g,aq))
def ru:List cw->JZ
 | []=>λ_ _ _=>[]
 | o::l=>o (ru l)
def fs:List (AO × List Nat)->List AO
 | []=>[]
 | x::l=>x.1::fs l
def rg(n:Nat)(l:List cw):AC:=.FZ (fs (ru l ah [] n))
def dg(n:Nat)(l:List cw):AC:=.draw (ru l ah [] n)
def dA(n:Nat)(v:List Nat)(l:List cw):AC:=.G' v (ru l ah [] n)
def rS(n:Nat)(l:List cw):List AO:=fs (ru l ah [] n)
def dH(n:Nat)(h:HI)(l:List cw):AC:=.hole (ru l ah [] n) h
def sq:List AC->AC
 | []=>.skip
 | [a]=>a
 | a::b::l=>.seq a (sq (b::l))
def cd(n:Nat)(a b:AC):AC:=.cond (.s n) a b
def ci(n:Nat)(a:AC):AC:=.cond (.s n) a .skip
def cx(n k:Nat):AC:=.cond (.s n) .skip (.exit k)
def bl(k:Nat)(a:AC):AC:=.block k (.loop a)
def cr(n m:Nat)(l:List cw):AC:=.cond (.s n) (.seq (.FZ (fs (ru l ah [] m))) .ret) .skip
def lp(q k:Nat)(a:AC)(m:Nat):AC:=.block k (.loop (.seq (rg (q+2) [ob .lss (q+1) q]) (.seq (cx (q+2) k) (.seq (.block (k+1) a) (rg m [oB .add (q+1) 1,o1 (q+1)])))))
variable{P:Program}{f:FuncId}{n:Nat}{rs:List RV}
def aS{x:AC}{fn:Func}(h1:P.funcs[f]?=U fn)(h:Hint:={})(h2:(fn.name == "runtime.NumGoroutine",fn.body.bind (gi P h),By P fn.results.toList,fn.ntmps)=(aq,U x,U rs,n):=by kernel_rfl):aR P f x rs n:=by
 simp only[pB] at h2;exact⟨fn,h,h1,h2.1,h2.2.1,h2.2.2.1,h2.2.2.2⟩
def aX:=af @sl.eq_1 <| af @sl.eq_2 <| af @zv.eq_1 <| af @zv.eq_2 <| af @zv.eq_3 <| af @zv.eq_4 <| af @zv.eq_5 <| af @zv.eq_6 <| af @zl.eq_1 <| af @zl.eq_2 <| af @wd.eq_1 <| af @wu.eq_1 <| af @wn.eq_2 <| af @wp.eq_2 <| af @om.eq_1 <| af @oi.eq_1 <| af @oz.eq_1 <| af @ob.eq_1 <| af @oB.eq_1 <| af @ou.eq_1 <| af @oE.eq_1 <| af @ol.eq_1 <| af @oo.eq_1 <| af @ok.eq_1 <| af @of.eq_1 <| af @ov.eq_1 <| af @ow.eq_1 <| af @oL.eq_1 <| af @oT.eq_1 <| af @oA.eq_1 <| af @oI.eq_1 <| af @oS.eq_1 <| af @oe.eq_1 <| af @oc.eq_1 <| af @oC.eq_1 <| af @oO.eq_1 <| af @oK.eq_1 <| af @oW.eq_1 <| af @oG.eq_1 <| af @oM.eq_1 <| af @sf.eq_1 <| af @sf.eq_2 <| af @oY.eq_1 <| af @op.eq_1 <| af @oa.eq_1 <| af @oy.eq_1 <| af @on.eq_1 <| af @oq.eq_1 <| af @oP.eq_1 <| af @oQ.eq_1 <| af @nm.eq_1 <| af @nB.eq_1 <| af @nu.eq_1 <| af @nb.eq_1 <| af @nE.eq_1 <| af @nl.eq_1 <| af @no.eq_1 <| af @nk.eq_1 <| af @nf.eq_1 <| af @nL.eq_1 <| af @nT.eq_1 <| af @nA.eq_1 <| af @nI.eq_1 <| af @nS.eq_1 <| af @nn.eq_1 <| af @nO.eq_1 <| af @n1.eq_1 <| af @na.eq_1 <| af @os.eq_1 <| af @ot.eq_1 <| af @oj.eq_1 <| af @oV.eq_1 <| af @oU.eq_1 <| af @ox.eq_1 <| af @oX.eq_1 <| af @oZ.eq_1 <| af @oR.eq_1 <| af @od.eq_1 <| af @oN.eq_1 <| af @o1.eq_1 <| af @o2.eq_1 <| af @fo.eq_1 <| af @nF.eq_1 <| af @mk.eq_1 <| af @ic.eq_1 <| af @mM.eq_1 <| af @gA.eq_2 <| af @gB.eq_2 <| af @gZ.eq_1 <| af @gZ.eq_2 <| af @og.eq_1 <| af @oh.eq_1 <| af @ru.eq_1 <| af @ru.eq_2 <| af @fs.eq_1 <| af @fs.eq_2 <| af @rg.eq_1 <| af @dg.eq_1 <| af @dA.eq_1 <| af @rS.eq_1 <| af @dH.eq_1 <| af @sq.eq_2 <| af @sq.eq_3 <| af @cd.eq_1 <| af @ci.eq_1 <| af @cx.eq_1 <| af @bl.eq_1 <| af @cr.eq_1 @lp.eq_1
variable{R':V->ab->Prop}{args:List V}{Z:ab}
def aR.go{x:AC}{q:Prop}(h:aR P f x rs n)(g:q)(k:q->vc P x (Ef rs R') ⟨aO n args,[],Z⟩:=by intro z;simp only[aO,am,jj,cG,aX,Nat.reduceAdd,Nat.reduceEqDiff,bL,c9];exact z):cF P f args Z R' := h.aP (k g)
variable{c:List V}{ik:IntKind}{k:Nat}{m:List (List V)}
def ix{D:Tk}{n:Int}{K:V->Prop}(h:m[n.toNat]?=U c)(hk:K (.elt c 0))(h0:0<=n:=by omega):Bj k (.sl D k m) (.int ik n) K:=mh h0 h hk
variable{l:List (List V)}{t:List V}{v:V}
def rt{w:V}(h:v.erase=w:=by simp[V.erase,aZ])(h1:v.cM=true:=by rfl):jx (λv σ' => v=w/\σ' = Z) ⟨t,l,Z⟩ v:=aC h h1
def ab.DQ{a b c:ab}(h:a.sub b)(k:b.sub c):a.sub c:=⟨λx cs hx=>k.1 x cs (h.1 x cs hx),λx n hx=>k.2.1 x n (h.2.1 x n hx),λx n hx=>k.2.2 x n (h.2.2 x n hx)⟩
variable{E:Env}{σ':ab}
def Env.ok.cY(h:E.ok Z)(ho:br Z σ'):E.ok σ' := by
 refine⟨λb cs hb=>?_,λt n ht=>h.aY t n (ho.aY t n ht),h.fresh,h.nt,λb cs hc=>h.cQ b cs (ho.cQ b cs hc)⟩;obtain⟨ds,h1,h2⟩:=ho.box b cs hb;obtain⟨k1,k2⟩:=h.box b ds h1;exact⟨k1,k2.cY h2⟩
variable{as:List V}
def cF.le{S S' : ab}(h:cF P f as Z λv' σ' => v' = v/\σ' = S)(ho:br S S'):cF P f as Z λv' σ' => v' = v/\σ' = S' :=
 ⟨h.1,λE vs h1 h2 h3=>(h.2 E vs h1 h2 h3).mono λ_ _ ⟨v',x,E',σ',a,b,c,d,e,f,g⟩=>⟨v',x,E',S',a,b,c,(g.2▸d).cY ho,e,f,g.1,rfl⟩⟩
variable{b:Nat}
def br.set{A B:List V}(h:c_ A B):br (Z.set b A) (Z.set b B):=by
 refine⟨λx cs' hx=>?_,λ_ _ h=>h,λ_ _ h=>h⟩;simp only[ab.set] at hx ⊢
 by_cases e:x=b
 .rw[aI e] at hx ⊢;simp only[bg] at hx;subst hx;exact⟨A,Eq.refl _,h⟩
 .rw[aw e] at hx ⊢;exact⟨cs',hx,c_.rfl⟩
section
variable {Z:ab}
variable{H:V->ab->Prop}
def amY{a b:Int}{k:IntKind}(hk:H (.int k (if b<a then b else a)) Z):OQ.bq Z H .min [.int k a,.int k b]:=⟨H4,hk⟩
def amU{a b:Int}{k:IntKind}(hk:H (.int k (if a<b then b else a)) Z):OQ.bq Z H .max [.int k a,.int k b]:=⟨H4,hk⟩
variable{cs ds:List V}
def asb{g:Nat}(h:Z.box b=ah)(hg:Z.box g=U ds):(Z.set b cs).box g=U ds:=by
 rw[ab.e9 _ _ (by rintro rfl;rw[h] at hg;simp at hg)];exact hg
def iS(h:Z.box b=ah):Z.sub (Z.set b cs) :=
 ⟨λg ds hg=>asb h hg,λ_ _ h=>h,λ_ _ h=>h⟩
end
section
variable {P:Program} {a:AC} {Q:Exit->St->Prop} {st:St} {Y:Type} {F:Nat->Y->St} {J:Nat->Y->Prop} {n:Nat}
def CI(n:Nat)(J:Nat->Y->Prop):={p:Nat × Y // p.1<=n/\J p.1 p.2}
def Af(F:Nat->Y->St)(J:Nat->Y->Prop)(n:Nat)(Q:Exit->St->Prop)(i:Nat):Exit->St->Prop :=
 Aj (ι:=CI n J) (λp=>F p.1.1 p.1.2) (λp=>n - p.1.1) Q (n - i)
def B4(F:Nat->Y->St)(J:Nat->Y->Prop)(st:St):Prop:=a7 st λaU => ∃x,J 0 x/\aU = F 0 x
def atu(n:Nat)(F:Nat->Y->St)(J J' : Nat->Y->Prop)(hJ:∀i x,J i x=J' i x)(h0:B4 F J st)
 (hs:∀i x,i<n->J' i x->vc P a (Af F J n Q i) (F i x)) (he:∀x,J' n x->vc P a (Af F J n Q n) (F n x)):vc P (.loop a) Q st:=by
 refine dP (ι:=CI n J) (λp=>F p.1.1 p.1.2) (λp=>n - p.1.1) (a7.mono h0 ?_) ?_
 .rintro aU ⟨x,hx,rfl⟩;exact⟨⟨(0,x),ux _,hx⟩,rfl⟩
 .rintro⟨⟨i,x⟩,hle,hx⟩
  rcases xb i n with h | h
  .exact hs i x h ((hJ i x)▸hx)
  .have e:i=n:=Nat.le_antisymm hle h;subst e;exact he x ((hJ i x)▸hx)
variable{i:Nat}
theorem abL{id:Nat}:Af F J n Q i (.exit id) st=Q (.exit id) st:=rfl
theorem abN:Af F J n Q i .ret st=Q .ret st:=rfl
def Gn(F:Nat->Y->St)(J:Nat->Y->Prop)(n i:Nat)(st:St):Prop:=a7 st λaU => ∃j:CI n J,aU = F j.1.1 j.1.2/\n - j.1.1<n - i
theorem abM:Af F J n Q i .normal st=Gn F J n i st:=rfl
def aK:=af @abL <| af @abN @abM
variable {t:List V} {l:List (List V)} {Z:ab}
def ent(x:Y)(hx:J 0 x)(h:c_ t (F 0 x).t)(hl:bV l (F 0 x).au)(ho:br Z (F 0 x).out):B4 F J ⟨t,l,Z⟩ :=
 a7.cY h hl ho ⟨x,hx,rfl⟩
def nxt(x:Y)(hi:i<n)(hx:J (i+1) x)(h:c_ t (F (i+1) x).t)(hl:bV l (F (i+1) x).au)(ho:br Z (F (i+1) x).out):Gn F J n i ⟨t,l,Z⟩ :=
 a7.cY h hl ho ⟨⟨(i+1,x),hi,hx⟩,rfl,by simp only;omega⟩
def ct(n:Nat)(F0:Nat->Y->St)(J0:Nat->Y->Prop)
 (k:∀F:Nat->Y->St,(∀i x,F i x=F0 i x)->∀J:Nat->Y->Prop,(∀i x,J i x=J0 i x)->B4 F J st/\(∀i x,i<n->J0 i x->vc P a (Af F J n Q i) (F i x))/\∀x,J0 n x->vc P a (Af F J n Q n) (F n x)):vc P (.loop a) Q st:=by
 obtain⟨F,hF⟩:∃F:Nat->Y->St,∀i x,F i x=F0 i x:=⟨_,λ_ _=>rfl⟩;obtain⟨J,hJ⟩:∃J:Nat->Y->Prop,∀i x,J i x=J0 i x:=⟨_,λ_ _=>rfl⟩;obtain⟨a1,a2,a3⟩:=k F hF J hJ;exact atu n F J J0 hJ a1 a2 a3
def en{J' : Nat->Y->Prop}(hJ:∀i x,J i x=J' i x)(x:Y)(hx:J' 0 x)(h:c_ t (F 0 x).t:=by simp[hF,aj,am,bd])(hl:bV l (F 0 x).au:=by simp[hF,aj,am,bd])(ho:br Z (F 0 x).out:=by simp[hF,aj,am,bd]):B4 F J ⟨t,l,Z⟩ :=
 ent x ((hJ _ _).symm▸hx) h hl ho
def nx{J' : Nat->Y->Prop}(hJ:∀i x,J i x=J' i x)(x:Y)(hi:i<n)(hx:J' (i+1) x)(h:c_ t (F (i+1) x).t:=by simp[hF,aj,am,bd])(hl:bV l (F (i+1) x).au:=by simp[hF,aj,am,bd])(ho:br Z (F (i+1) x).out:=by simp[hF,aj,am,bd]):Gn F J n i ⟨t,l,Z⟩ :=
 nxt x hi ((hJ _ _).symm▸hx) h hl ho
def db(x:Y)(hi:i<n)(hx:J (i+1) x)(h:c_ t (F (i+1) x).t)(hl:bV (l.take (F (i+1) x).au.length) (F (i+1) x).au)(ho:br Z (F (i+1) x).out)(h1:bK (F (i+1) x).au.length (F (i+1) x).t=aa)(h2:cp (F (i+1) x).au.length (F (i+1) x).au=aa):Gn F J n i ⟨t,l,Z⟩ :=
 a7.Cz h hl ho h1 h2 ⟨⟨(i+1,x),hi,hx⟩,rfl,by simp only;omega⟩
structure Gr(dJ Z:ab)(tk:Tk)(n:Nat):Prop where
 sub:dJ.sub Z
 tk:tk = .a9\/∃D,tk = .tk D/\Z.aY D=U n/\dJ.aY D=ah
def Gr.nil{Z:ab}:Gr Z Z .a9 0:=⟨ab.bc _,.inl rfl⟩
variable{u:Tk}
def Gr.app{dJ Z:ab}{tk:Tk}{e:List (List V)}{K:V->ab->Prop}(h:Gr dJ Z tk m.length)(hb:m.length+e.length<=aJ)
 (hk:∀fK σ',Gr dJ σ' fK (m++e).length->σ'.box=Z.box->(∀D n,Z.aY D=U n->tk≠.tk D->σ'.aY D=U n)->K (.sl fK k (m++e)) σ'):re Z k (.sl tk k m) (.sl u k e) K:=by
 have hl:(m++e).length=m.length+e.length:=bW
 rcases h.tk with rfl | ⟨D,rfl,ht,h0⟩
 .refine Ch hb λD hn=>hk _ _ ⟨⟨λb cs hc=>h.sub.1 b cs hc,λO n hu=>?_,h.sub.2.2⟩,.inr ⟨D,rfl,by rw[hl];exact OX,?_⟩⟩ rfl λO n hu _=>?_
  .have:=h.sub.2.1 O n hu
   rw[zR];exact this;rintro rfl;rw[hn] at this;simp at this
  .cases hq:dJ.aY D with
   | none=>rfl
   | some n=>have:=h.sub.2.1 D n hq;rw[hn] at this;simp at this
  .rw[zR];exact hu;rintro rfl;rw[hn] at hu;simp at hu
 .refine fe hb ht (hk _ _ ⟨⟨λb cs hc=>h.sub.1 b cs hc,λO n hu=>?_,h.sub.2.2⟩,.inr ⟨D,rfl,by rw[hl];exact OX,h0⟩⟩ rfl λO n hu bh=>?_)
  .rw[zR];exact h.sub.2.1 O n hu;rintro rfl;rw[h0] at hu;simp at hu
  .rw[zR];exact hu;rintro rfl;exact bh rfl
def bd{l:List V}:c_ l l=True:=eq_true c_.rfl
def DS{Y:Type}{l:List Y}{p:Y->Prop}(h:∀k∈l.take i,p k)(hi:i<l.length)(hk:p l[i]):∀k∈l.take (i+1),p k:=by
 rw[jg hi];intro k hm
 rcases jv.1 hm with hm | hm
 .exact h k hm
 .rw[nU.1 hm];exact hk
def SE{Y β:Type}{f:β->Y->β}{a:β}{l:List Y}(hi:i<l.length):(l.take (i+1)).foldl f a=f ((l.take i).foldl f a) l[i]:=by
 rw[jg hi,B_];rfl
variable{j:Nat}
def ji{p:Nat->Prop}(h:∀k,k<j->p k)(hj:p j):∀k,k<j+1->p k:=λk hk=>by
 rcases Qm.1 hk with e | rfl
 .exact h k e
 .exact hj
def ca{i n:Nat}(h:i<n):decide ((i:Int)<(n:Nat))=true:=aB (by omega)
def cy{n:Nat}:decide ((n:Int)<(n:Nat))=false:=az (by omega)
def bF{i n:Nat}(h:i<n)(hn:n<=9223372036854775807:=by omega):IntKind.i64.wrap ((i:Int)+1)=((i+1:Nat):Int):=by
 rw[wrap_i64 (by omega) (by omega)];rfl
end
def jH(n b:Nat):V->V
 | .ptr (.au i) o=>if i=n then .ptr (.out b) o else if i<n then .ptr (.au i) o else .any
 | v=>if v.lo n=aa then v else .any
def Env.qd(E:Env)(n b:Nat):Env:={w:=E.w,bj:=λx=>if x=b then .qS else E.bj x,au:=λi=>if i<n then E.au i else ah,aY:=E.aY}
section
variable {E:Env} {n b:Nat}
def Oi(h2:E.bj b = .jb n):Fr E (E.qd n b):=by
 have kW:∀x,x≠b->(E.qd n b).bj x=E.bj x:=λx hx=>by simp[Env.qd,hx]
 refine⟨rfl,rfl,rfl,b7 _,λ_=>rfl,λb' o c hc hv=>?_,λt m h=>⟨m,h,b7 _,λ_ b' c hr=>⟨?_,λcs e b9=>⟨cs,b9,rfl⟩⟩⟩,λb' _ hr=>⟨rfl,?_⟩,λb' _ h=>?_,λb' t c _ h=>?_,λb' i _ h=>?_,λ_ c _ h=>⟨c,h,rfl⟩⟩
 .have bh:b' ≠ b:=λe=>by rw[e,h2] at hc;exact hc
  exact⟨by rw[kW _ bh];exact hc,hv⟩
 .have bh:b' ≠ b:=λe=>by rw[e,h2] at hr;simp at hr
  rw[kW _ bh];exact hr
 .have bh:b' ≠ b:=λe=>by rw[e,h2] at hr;simp at hr
  rw[kW _ bh]
 .by_cases e:b' = b
  .rw[e];exact .inr ⟨_,h2⟩
  .rw[kW _ e] at h;exact .inl h
 .by_cases e:b' = b
  .rw[e] at h;simp[Env.qd] at h
  .rw[kW _ e] at h;exact⟨c,h⟩
 .by_cases e:b' = b
  .rw[e] at h;simp[Env.qd] at h
  .rw[kW _ e] at h;exact⟨i,h⟩
def Wd(h1:E.au n=U b)(h2:E.bj b = .jb n){x:V}{v:Value}(h:R E x v):R (E.qd n b) (jH n b x) v:=by
 have CV:∀{x:V},R E x v->R (E.qd n b) (if x.lo n=aa then x else .any) v:=λ{x} h=>by
  split
  .rename_i hl;have hc:=R.cut x hl h;refine R.mono x (E:=E.cut n) ⟨(Oi h2).cell,λi c hc=>?_,(Oi h2).tok⟩ hc;simp only[Env.cut] at hc;simp only[Env.qd];exact hc
  .simp only[R]
 unfold jH;split
 .rename_i i o;simp only[R] at h;obtain⟨c,k1,k2⟩:=h;split
  .rename_i e;subst e;rw[h1] at k1;simp only[R];rw[k2];cases k1;rfl
  .split
   .rename_i an;simp only[R,Env.qd];exact⟨c,by rw[aI an];exact k1,k2⟩
   .simp only[R]
 .exact CV h
def We(h1:E.au n=U b)(h2:E.bj b = .jb n):∀{l:List V} {vs:List Value},RL E l vs->RL (E.qd n b) (l.map (jH n b)) vs
 | [],[],_=>by simp[RL]
 | [],_::_,h=>by simp[RL] at h
 | _::_,[],h=>by simp[RL] at h
 | x :: l, v :: vs, h => by
  simp only[RL,dz] at h ⊢;exact⟨Wd h1 h2 h.1,We h1 h2 h.2⟩
end
variable{K:St->Prop}{cs:List V}
def a7.apR(hn:bS cs=aa)
 (hk:∀b,Z.box b=ah->K ⟨t.map (jH l.length b),l.map (List.map (jH l.length b)),Z.set b cs⟩):a7 ⟨t,l++[cs],Z⟩ K:=by
 intro E a hs;obtain⟨b,h1,h2,h3⟩:=hs.du.box l.length cs (by simp);have bw:=Oi h2;have kW:∀x,x≠b->(E.qd l.length b).bj x=E.bj x:=λx hx=>by simp[Env.qd,hx]
 have Ly:Z.box b=none:=by
  cases hq:Z.box b with
  | none=>rfl
  | some ds=>have:=(hs.ok.box b ds hq).1;rw[h2] at this;simp at this
 have an:b<E.w.heap.size:=by obtain⟨c,e,k,_⟩:=h3;exact lb (w:=E.w) k
 refine⟨E.qd l.length b,⟨t.map (jH l.length b),l.map (List.map (jH l.length b)),Z.set b cs⟩,rfl,bw,⟨⟨λb' ds hd=>?_,hs.ok.aY,λb' cn => ?_,hs.ok.nt,λb cs hc=>eW.mono _ bw.nl (hs.ok.cQ b cs hc)⟩,⟨λi ds hd=>?_,λi hi=>?_⟩,hs.defers,We h1 h2 hs.slot⟩,hk b Ly⟩
 .by_cases e:b' = b
  .subst e;have hd:(Z.set b' cs).box b' = U ds:=hd;rw[ke] at hd;cases hd;refine⟨by simp[Env.qd],?_⟩;obtain⟨c,e,k1,k2,k3⟩:=h3;refine⟨c,e,k1,k2,λj x hx=>?_⟩;obtain⟨v,q1,q2⟩:=k3 j x hx;refine⟨v,q1,R.p_ (E:=E) x (by rw[Env.anj];exact bw.nl) ?_ q2⟩
   have:∀{l:List V} {j:Nat} {x:V},bS l=aa->l[j]?=U x->x.cM=true:=by
    intro l;induction l with
    | nil=>intro j x _ h;simp at h
    | cons y ys ih =>
     intro j x hl h;simp only[bS,b_] at hl;cases j with
     | zero=>simp at h;rw[<-h];exact hl.1
     | succ j=>exact ih hl.2 (by simpa using h)
   exact this hn hx
  .have hd:(Z.set b cs).box b' = U ds:=hd;rw[vq e] at hd;obtain⟨k1,k2⟩:=hs.ok.box b' ds hd;exact⟨by rw[kW _ e];exact k1,k2.mono bw.nl rfl⟩
 .have cn : E.w.heap.size<=b' := cn;rw[kW b' (by omega)];exact hs.ok.fresh b' cn
 .have hd:(l.map (List.map (jH l.length b)))[i]?=U ds:=hd;simp only[vF,dB] at hd;obtain⟨RK,HG,rfl⟩:=hd;have hi:i<l.length:=(fw.1 HG).1;obtain⟨bi,k1,k2,c,e,k3,k4,k5⟩:=hs.du.box i RK (by rw[sc hi];exact HG);have bh:bi≠b:=λe=>by rw[e,h2] at k2;simp at k2;omega
  refine⟨bi,by simp[Env.qd,hi,k1],by rw[kW _ bh];exact k2,c,e,k3,by simpa using k4,λj x hx=>?_⟩;simp only[vF,dB] at hx;obtain⟨x0,Fi,rfl⟩:=hx;obtain⟨v,q1,q2⟩:=k5 j x0 Fi;exact⟨v,q1,Wd h1 h2 q2⟩
 .have hi:l.length<=i:=by simpa using hi
  simp only[Env.qd];rw[aw (by omega)]
section
variable {n b i o:Nat} {k:IntKind} {z:Int} {q:Bool} {s:List UInt8} {D:Tk} {m:List (List V)} {c:List V}
def apJ:jH n b .any = .any:=by simp[jH]
def apM:jH n b (.int k z) = .int k z:=by simp[jH,V.lo]
def apK:jH n b (.bool q) = .bool q:=by simp[jH,V.lo]
def apQ:jH n b (.aH s) = .aH s:=by simp[jH,V.lo]
def apP:jH n b (.sl D i m) = .sl D i m:=by simp[jH,V.lo]
def apO:jH n b (.ptr (.out i) o) = .ptr (.out i) o:=by simp[jH,V.lo]
def apL:jH n b (.elt c o) = .elt c o:=by simp[jH,V.lo]
theorem apN:jH n b (.ptr (.au i) o)=if i=n then .ptr (.out b) o else if i<n then .ptr (.au i) o else .any:=rfl
theorem apI:jH n b (.agg c)=if bK n c=aa then .agg c else .any:=rfl
def Wf:∀{l:List V},bK n l=aa->bS l=aa->l.map (jH n b)=l
 | [],_,_=>rfl
 | x :: l, h1, h2 => by
  simp only[bK,bS,b_] at h1 h2;rw[dz,Wf h1.2 h2.2];congr 1;unfold jH;split
  .simp[V.cM] at h2
  .rw[aI h1.1]
def Zh:=af @apJ <| af @apM <| af @apK <| af @apQ <| af @apP <| af @apO <| af @apL <| af @apN @apI
end
variable{H:V->ab->Prop}
def fQ.mk1(hv:zy k [v]=U [c])(hl:c.length=k)(hn:bS c=aa)
 (hk:∀v' σ',fQ σ' k v' [c]->vN Z σ' v' -> H v' σ'):OQ.bq Z H (.new k) [v]:=by
 refine⟨[c],hv,by simpa using hn,λb hb=>hk _ _ ⟨_,1,rfl,b7 _,by simpa using hl,.inr ⟨b,c,rfl,by simp[ke],by simpa using hl,by simp[An,hl]⟩⟩ ⟨?_,?_⟩⟩
 .simpa using iS (cs:=c) hb
 .intro b' cn;simp only[sV,bg] at cn;subst cn;exact hb
variable{ys:List V}
def ar5{xs:List V}(h:n+c.length<=ys.length):setAt (xs++ys) (xs.length+n) c=xs++setAt ys n c:=by
 induction xs with
 | nil=>simp
 | cons x xs ih=>rw[jN,da,show xs.length+1+n=(xs.length+n)+1 by omega,jZ,ih];rfl
def VI{xs:List V}(h:c.length<=xs.length):over (xs++ys) c=over xs c++ys:=by
 induction xs generalizing c with
 | nil=>have:c=[]:=sb (by simpa using h);subst this;simp[mP]
 | cons x xs ih =>
  cases c with
  | nil=>rw[mP,mP]
  | cons d c=>rw[jN,qa,qa,ih (by simpa using h)];rfl
def ar6{xs:List V}(h:n+c.length<=xs.length):setAt (xs++ys) n c=setAt xs n c++ys:=by
 induction xs generalizing n with
 | nil =>
  have h' : n+c.length<=0:=h;obtain rfl:c=[]:=sb (by omega);obtain rfl:n=0:=by omega
  rw[mr,mr,mP,mP]
 | cons x xs ih =>
  cases n with
  | zero=>rw[mr,mr,VI (by simpa using h)]
  | succ n=>rw[jN,jZ,jZ,ih (by simp at h;omega)];rfl
def Xq{xs:List V}(h:n+c.length<=xs.length):(setAt xs n c).length=xs.length:=by
 induction xs generalizing n with
 | nil=>cases n<;>rfl
 | cons x xs ih =>
  cases n with
  | zero =>
   rw[mr];clear ih
   have:∀{xs c:List V},c.length<=xs.length->(over xs c).length=xs.length:=by
    intro xs;induction xs with
    | nil=>intro c h;cases c with | nil=>rfl | cons d c=>simp at h
    | cons x xs ih=>intro c h;cases c with | nil=>rw[mP] | cons d c=>rw[qa,da,da,ih (by simpa using h)]
   exact this (by simpa using h)
  | succ n=>rw[jZ,da,da,ih (by simp at h;omega)]
variable{j off:Nat}
def fQ.put{rows:List (List V)}{x:List V}(h:fQ Z k v rows)(hj:rows[j]?=U c)(hb:sV v=U b)(hc:Z.box b=U cs)(ho:off+x.length<=k):
 fQ (Z.set b (setAt cs (j*k+off) x)) k v (rows.set j (setAt c off x))/\J2 Z v (Z.set b (setAt cs (j*k+off) x)) v:=by
 obtain⟨a,cap,rfl,h1,h2,h3⟩:=h;have an:=(fw.1 hj).1;have gN:c.length=k:=h2 c (tq hj)
 rcases h3 with h3 | ⟨b',cs',rfl,h4,h5,h6⟩
 .omega
 .simp only[sV,bg] at hb;subst hb;rw[h4] at hc;cases hc;have l_:=ni h2;have e1:cs=rows.flatten++cs.drop (rows.length*k):=by rw[<-h6];simp
  have e2:rows=rows.take j++c::rows.drop (j+1):=by
   rw[<-(fw.1 hj).2,<-kM an,pA]
  have AZ:(rows.take j).flatten.length=j*k:=by
   have:=ni (l:=rows.take j) (k:=k) λr hr=>h2 r (Ea hr)
   rw[this,iu,xc (by omega)]
  have e3:rows.flatten=(rows.take j).flatten++(c++(rows.drop (j+1)).flatten):=by
   conv=>lhs;rw[e2]
   rw[vD,mX]
  have e4:setAt cs (j*k+off) x=(rows.set j (setAt c off x)).flatten++cs.drop (rows.length*k):=by
   have hs:rows.set j (setAt c off x)=rows.take j++setAt c off x::rows.drop (j+1):=by
    rw[List.set_eq_take_append_cons_drop,aI an]
   conv=>lhs;rw[e1,e3]
   rw[fP,<-AZ,ar5 (by simp[gN];omega),fP,ar6 (by omega),hs,vD,mX];simp only[fP]
  have fH:∀r∈rows.set j (setAt c off x),r.length=k:=λr hr=>by
   rcases List.mem_or_eq_of_mem_set hr with hr | rfl
   .exact h2 r hr
   .rw[Xq (by omega),gN]
  have ajY:=ni fH;refine⟨⟨_,cap,by rw[List.length_set],by rw[List.length_set];exact h1,fH,.inr ⟨b',_,rfl,ke,?_,?_⟩⟩,λc' ds hd bh=>?_,rfl,λ_ h=>.inl h,rfl⟩
  .have:(setAt cs (j*k+off) x).length=cs.length:=Xq (by
    rw[h5]
    have:(j+1)*k<=cap*k:=sd _ (by omega)
    rw[jh] at this;omega)
   rw[this,h5]
  .rw[e4,<-ajY,List.take_left]
  .have:c' ≠ b' := λe=>bh (by rw[e];rfl)
   rw[vq this];exact hd
def bm(r:Rl):Nat:=min r.n.toNat 64
def gU(r:Rl)(i:Nat):bu:=r.get i&&&iU (bm r:Nat)
def bx(r:Rl)(i j:Nat):Bool:=decide (i<bm r)&&(gU r i).getLsbD j
def kB(r:Rl):Rl:=Rl.of (bm r:Nat) λi=>if i<bm r then gU r i else 0#64
section
variable {r s:Rl} {i j k:Nat}
def jc:bm r<=64:=Nat.min_le_right _ _
def OE:(gU r i).getLsbD j=((r.get i).getLsbD j&&decide (j<bm r)):=by
 rw[gU,r_,xo]
 by_cases h:j<64
 .simp only[h,bL,gJ];congr 1;apply rn.2;omega
 .rw[yz _ _ (by omega)];simp
def Bc:bx r i j=(decide (i<bm r)&&(decide (j<bm r)&&(r.get i).getLsbD j)):=by rw[bx,OE,Bool.and_comm (BitVec.getLsbD _ _)]
def kX(h:bx r i j=aa):i<bm r/\j<bm r:=by
 rw[Bc] at h;simp only[b_,eb] at h;exact⟨h.1,h.2.1⟩
def aok{f:Nat->bu}(h:n<=64):bm (Rl.of (n:Nat) f)=n:=by simp only[bm,Rl.of];omega
def IC:bm (kB r)=bm r:=aok jc
def FT(h:i<64):(kB r).get i=if i<bm r then gU r i else 0#64:=Rl.nj h
def apu(h:i<bm r):(kB r).get i=gU r i:=by rw[FT (uw h jc),aI h]
def V3:bx (kB r) i j=bx r i j:=by
 by_cases h:i<bm r
 .rw[Bc,IC,apu h,OE,Bc];cases decide (i<bm r)<;>cases decide (j<bm r)<;>simp
 .rw[bx,bx,IC];simp[h]
def V4:kB r=kB s↔bm r=bm s/\∀i j,bx r i j=bx s i j:=by
 constructor
 .intro h;exact⟨by rw[<-IC (r:=r),h,IC],λi j=>by rw[<-V3 (r:=r),h,V3]⟩
 .rintro⟨h1,h2⟩;refine Rl.ext (by simp only[kB,Rl.of,h1]) λi hi=>?_
  rw[FT hi,FT hi,h1];split
  .rename_i h;apply lZ;intro j _
   have:=h2 i j
   rwa [bx,bx,h1,aB h,gJ,gJ] at this
  .rfl
def RR(h:bm r=0):kB r=Rl.of 0 λ_=>0#64:=by
 refine Rl.ext (by simp[kB,Rl.of,h]) λi hi=>?_
 rw[FT hi,h,aw (by omega),Rl.nj hi]
inductive jw(r:Rl)(i:Nat):Nat->Prop
 | refl (h:i<bm r):jw r i i
 | tail {j k:Nat} (h:jw r i j) (hs:bx r j k=aa):jw r i k
def jw.lt(h:jw r i j):i<bm r/\j<bm r:=by
 induction h with
 | refl h=>exact⟨h,h⟩
 | tail _ hs ih=>exact⟨ih.1,(kX hs).2⟩
def jw.trans(h:jw r i j)(h' : jw r j k):jw r i k:=by
 induction h' with
 | refl _=>exact h
 | tail _ hs ih=>exact ih.tail hs
def jw.one(h:bx r i j=aa):jw r i j:=(jw.refl (kX h).1).tail h
def sn(r:Rl):Rl:=Rl.of (bm r:Nat) λi=>if i<bm r then j5 (gU r i) (i:Nat) else 0#64
def yj(k:Nat)(o:Rl)(i:Nat):Rl:=if hasB (o.get i) (k:Nat) then o.put i (o.get i|||o.get k) else o
def lE(n k:Nat)(o:Rl):Rl:=(bG n).foldl (yj k) o
def jQ(r:Rl):Rl:=(bG (bm r)).foldl (λo k=>lE (bm r) k o) (sn r)
variable{w:bu}
def Hy:hasB w (k:Nat)=w.getLsbD k:=by simp[hasB]
variable{Y:Type}
def y4{f:Y->Nat->Y}{a:Y}:(bG (n+1)).foldl f a=f ((bG n).foldl f a) n:=by rw[ga,B_];rfl
theorem apT:(r.put i w).n=r.n:=rfl
def akD{o:Rl}:(lE n k o).n=o.n:=by
 unfold lE;induction n with
 | zero=>rfl
 | succ n ih=>rw[y4,yj];split<;>simp[apT,ih]
def Uf{o:Rl}(h:n<=64):(lE n k o).get i=if i<n/\(o.get i).getLsbD k=aa then o.get i|||o.get k else o.get i:=by
 induction n generalizing i with
 | zero=>simp[lE]
 | succ n MF =>
  have ih:=λi=>@MF i (by omega)
  have hk:(lE n k o).get k=o.get k:=by rw[ih k];split<;>simp
  have e:lE (n+1) k o=yj k (lE n k o) n:=y4;rw[e,yj,Hy]
  by_cases hi:i=n
  .subst hi;have TG:(lE i k o).get i=o.get i:=by rw[ih i,aw (by omega)]
   rw[TG,hk];split
   .rename_i hb;rw[Rl.CN,aI ⟨rfl,by omega⟩,aI ⟨by omega,hb⟩]
   .rename_i hb;rw[TG,aw (λhc=>hb hc.2)]
  .have bh:(if ((lE n k o).get n).getLsbD k=aa then(lE n k o).put n ((lE n k o).get n|||(lE n k o).get k) else lE n k o).get i=(lE n k o).get i:=by
    split
    .rw[Rl.CN,aw (by omega)]
    .rfl
   rw[bh,ih i]
   by_cases an:i<n
   .simp[an,show i<n+1 by omega]
   .simp[an,show ¬i<n+1 by omega]
def lk(r:Rl)(m:Nat):Rl:=(bG m).foldl (λo k=>lE (bm r) k o) (sn r)
def Iy{m:Nat}:lk r (m+1)=lE (bm r) m (lk r m):=y4
def Ix{m:Nat}:(lk r m).n=(bm r:Nat):=by
 induction m with
 | zero=>rfl
 | succ m ih=>rw[Iy,akD,ih]
def FP{m:Nat}(hi:i<bm r):((lk r (m+1)).get i).getLsbD j=(((lk r m).get i).getLsbD j||(((lk r m).get i).getLsbD m&&((lk r m).get m).getLsbD j)):=by
 rw[Iy,Uf jc];cases hq:((lk r m).get i).getLsbD m with
 | false=>simp
 | true=>simp[hi]
def Q_(hi:i<bm r):((sn r).get i).getLsbD j=(bx r i j||decide (j=i)):=by
 have eg : i<64:=uw hi jc;rw[sn,Rl.nj eg,aI hi,Js,bx,aB hi,gJ];congr 1
 by_cases h:j=i
 .subst h;simp[eg]
 .simp[h];omega
def VH{m:Nat}(h:bm r<=i)(hi:i<64):(lk r m).get i=0#64:=by
 induction m with
 | zero=>rw[lk];simp only[List.range_zero,Qa,sn];rw[Rl.nj hi,aw (by omega)]
 | succ m ih=>rw[Iy,Uf jc,aw (by omega),ih]
def aoR{m:Nat}(hm:m<=bm r)(hi:i<bm r):∀{j:Nat},((lk r m).get i).getLsbD j=aa->jw r i j:=by
 induction m generalizing i with
 | zero =>
  intro j h;have h:((sn r).get i).getLsbD j=true:=h;rw[Q_ hi,mU,eb] at h
  rcases h with h | rfl
  .exact jw.one h
  .exact jw.refl hi
 | succ m ih =>
  intro j h;rw[FP hi,mU,b_] at h
  rcases h with h | ⟨h1,h2⟩
  .exact ih (by omega) hi h
  .exact(ih (by omega) hi h1).trans (ih (by omega) (by omega) h2)
def N9{m:Nat}(hi:i<bm r)(h:bx r i j=aa\/j=i):((lk r m).get i).getLsbD j=true:=by
 induction m with
 | zero=>show((sn r).get i).getLsbD j=aa;rw[Q_ hi];simpa using h
 | succ m ih=>rw[FP hi,ih];rfl
def aoS{m:Nat}(hm:m<=bm r):∀{i k j:Nat},i<bm r->k<m->((lk r m).get i).getLsbD k=aa->((lk r m).get k).getLsbD j=aa->((lk r m).get i).getLsbD j=true:=by
 induction m with
 | zero=>intro i k j _ h;omega
 | succ m ih =>
  intro i k j hi hk h1 h2;have ih:=@ih (by omega);have HQ:((lk r m).get m).getLsbD m=true:=N9 (by omega) (.inr rfl);rw[FP hi] at h1;rw[FP (by omega)] at h2;rw[FP hi];simp only[mU,b_] at h1 h2 ⊢
  by_cases TH:k=m
  .subst TH;have a:((lk r k).get i).getLsbD k=true:=h1.elim id (·.1);have b:((lk r k).get k).getLsbD j=true:=h2.elim id (·.2);exact .inr ⟨a,b⟩
  .have iX : k<m:=by omega
   rcases h1 with h1 | ⟨h1,rq⟩
   .rcases h2 with h2 | ⟨h2,xA⟩
    .exact .inl (ih hi iX h1 h2)
    .exact .inr ⟨ih hi iX h1 h2,xA⟩
   .rcases h2 with h2 | ⟨_,xA⟩
    .exact .inr ⟨h1,ih (by omega) iX rq h2⟩
    .exact .inr ⟨h1,xA⟩
def Cs(hi:i<bm r):((jQ r).get i).getLsbD j=aa↔jw r i j:=by
 show((lk r (bm r)).get i).getLsbD j=aa↔_;constructor
 .exact aoR (b7 _) hi
 .intro h;induction h with
  | refl h=>exact N9 h (.inr rfl)
  | tail h hs ih=>exact aoS (b7 _) hi h.lt.2 ih (N9 h.lt.2 (.inl hs))
def abt{o:Rl}(hn:o.n=(bm r:Nat))(h:∀i,i<bm r->∀j,(o.get i).getLsbD j=aa↔jw r i j)(h0:∀i,bm r<=i->i<64->o.get i=0#64):o=jQ r:=by
 refine Rl.ext (hn.trans Ix.symm) λi hi=>?_
 by_cases an:i<bm r
 .apply lZ;intro j _;have h1:=h i an j;rw[<-Cs an] at h1;exact qp.2 h1
 .rw[h0 i (by omega) hi];exact(VH (by omega) hi).symm
def Ep:bm (jQ r)=bm r:=by
 have:(jQ r).n=(bm r:Nat):=Ix
 rw[bm,this];have:=@jc r;omega
def Kl:bx (jQ r) i j=aa↔jw r i j:=by
 rw[Bc,Ep];constructor
 .intro h;simp only[b_,eb] at h;exact(Cs h.1).1 h.2.2
 .intro h
  have:=h.lt
  rw[aB this.1,aB this.2,(Cs this.1).2 h];rfl
def Ra:kB (jQ r)=jQ r:=by
 refine Rl.ext ?_ λi hi=>?_
 .show((bm (jQ r):Nat):Int)=_;rw[Ep];exact Ix.symm
 .rw[FT hi,Ep];split
  .rename_i an;apply lZ;intro j _;rw[OE,Ep];cases hq:((jQ r).get i).getLsbD j with
   | false=>rfl
   | true=>rw[aB ((Cs an).1 hq).lt.2];rfl
  .exact(VH (by omega) hi).symm
def tu(r:Rl):Bool:=decide (kB r=jQ r)
def aby:tu r=aa↔(∀i,i<bm r->bx r i i=aa)/\∀i j k,bx r i j=aa->bx r j k=aa->bx r i k=true:=by
 rw[tu,AB,<-Ra,V4];constructor
 .rintro⟨_,h⟩;refine⟨λi hi=>?_,λi j k h1 h2=>?_⟩
  .rw[h,Kl];exact jw.refl hi
  .rw[h,Kl] at h1 h2 ⊢;exact h1.trans h2
 .rintro⟨h1,h2⟩;refine⟨Ep.symm,λi j=>?_⟩;rw[qp,Kl];refine⟨jw.one,λh=>?_⟩;induction h with
  | refl h=>exact h1 _ h
  | tail _ hs ih=>exact h2 _ _ _ ih hs
def vz(r:Rl)(w:bu):bu:=(fY (w&&&iU (bm r:Nat))).foldl (λo i=>o|||gU r i) 0#64
def Hi{f:Nat->bu}:∀{l:List Nat} {o:bu},(l.foldl (λo i=>o|||f i) o).getLsbD j=(o.getLsbD j||l.any λi=>(f i).getLsbD j)
 | [],o=>by simp
 | a::l,o=>by rw[yF,Hi,PT,P6,Bool.or_assoc]
def Pj:(vz r w).getLsbD j=aa↔∃i,w.getLsbD i=aa/\bx r i j=true:=by
 rw[vz,Hi];simp only[PV,ur,uu,NO,r_,b_,xo,eb];constructor
 .rintro⟨i,⟨h1,_,h2⟩,h3⟩;exact⟨i,h1,by rw[bx,h3,aB (by omega)];rfl⟩
 .rintro⟨i,h1,h2⟩
  have:=(kX h2).1;have:=@jc r
  rw[bx,b_] at h2;exact⟨i,⟨h1,by omega,by omega⟩,h2.2⟩
def yT(r:Rl)(w:bu):bu:=(bG (bm r)).foldl (λo i=>if gU r i&&&w=0#64 then o else j5 o (i:Nat)) 0#64
def anb:w≠0#64↔∃j,w.getLsbD j=true:=by
 constructor
 .intro h;exact⟨_,(FG h).2.1⟩
 .rintro⟨j,h⟩ rfl;simp at h
def acM(h:n<=64):((bG n).foldl (λo i=>if gU r i&&&w=0#64 then o else j5 o (i:Nat)) 0#64).getLsbD i=aa↔i<n/\gU r i&&&w≠0#64:=by
 induction n with
 | zero=>simp
 | succ n MF =>
  have ih:=MF (by omega);rw[y4]
  by_cases hi:i=n
  .subst hi;split
   .rename_i h0;rw[ih];constructor
    .intro hc;omega
    .intro hc;exact absurd h0 hc.2
   .rename_i h0;rw[Js,aB (show i<64 by omega)];simp[h0]
  .split
   .rw[ih];constructor<;>rintro⟨a,b⟩<;>exact⟨by omega,b⟩
   .rw[Js,az (p:=(i:Int)=(n:Nat)) (by omega),PY,JD,ih];constructor<;>rintro⟨a,b⟩<;>exact⟨by omega,b⟩
def Kz:(yT r w).getLsbD i=aa↔∃j,w.getLsbD j=aa/\bx r i j=true:=by
 rw[yT,acM jc,anb];simp only[r_,b_,bx,eb];constructor
 .rintro⟨a,j,b,c⟩;exact⟨j,c,a,b⟩
 .rintro⟨j,c,a,b⟩;exact⟨a,j,b,c⟩
def Dx{i j:Nat}(h:i<64):(fC [(i:Int)]).getLsbD j=decide (j=i):=by
 rw[x7]
 by_cases e:j=i
 .subst e;simp[h]
 .simp[e];omega
def aol(h:i<bm r):fC (((bG (bm r)).filter (bx r i)).map Int.ofNat)=gU r i:=by
 apply lZ;intro j hj;rw[x7,aB hj,gJ,qp,AB];simp only[qv,D',lP,B7];constructor
 .rintro⟨a,⟨h1,h2⟩,h3⟩;obtain rfl:a=j:=by omega
  rw[bx,b_] at h2;exact h2.2
 .intro h1
  have:bx r i j=true:=by rw[bx,h1,aB h];rfl
  exact⟨j,⟨(kX this).2,this⟩,rfl⟩
def Vu{l:List Nat}(hj:j<64):(fC (l.map Int.ofNat)).getLsbD j=aa↔j∈l:=by
 rw[x7,aB hj,gJ,AB];simp only[qv,B7];constructor
 .rintro⟨a,h1,h2⟩;obtain rfl:a=j:=by omega
  exact h1
 .intro h;exact⟨j,h,rfl⟩
def abv{l:List Nat}(hi:i<bm r)(h:∀j,j∈l↔jw r i j):fC (l.map Int.ofNat)=(jQ r).get i:=by
 apply lZ;intro j hj;rw[qp,Vu hj,h,Cs hi]
def abu:(Rl.of (bm r:Nat) λj=>if j<bm r then(jQ r).get j else 0#64)=jQ r:=by
 refine abt rfl (λi hi j=>?_) λi h1 h2=>?_
 .rw[Rl.nj (uw hi jc),aI hi,Cs hi]
 .rw[Rl.nj h2,aw (by omega)]
def NW:∀{n:Nat} {l:List Nat},l.Nodup->(∀x∈l,x<n)->l.length<=n
 | 0, l, _, h => by
  cases l with
  | nil=>simp
  | cons a l=>have:=h a (by simp);omega
 | n + 1, l, hd, h => by
  by_cases hn:n∈l
  .have:=NW (n:=n) (hd.erase n) λx hx=>by
    have:=h x (List.mem_of_mem_erase hx)
    have bh:x≠n:=λe=>by subst e;exact(hd.not_mem_erase) hx
    omega
   rw[List.length_erase_of_mem hn] at this;omega
  .have:=NW (n:=n) hd λx hx=>by
    have:=h x hx
    have bh:x≠n:=λe=>hn (e▸hx)
    omega
   omega
def zD(r:Rl)(i:Nat):bu:=vz r (fC [(i:Int)])&&&yT r (fC [(i:Int)])
def uA(r:Rl):Bool:=(bG (bm r)).all λi=>(bG i).all λj=>!(bx r i j&&bx r j i)
def vf(r:Rl):Bool:=tu r&&uA r
def QE:uA r=aa↔∀i j,bx r i j=aa->bx r j i=aa->i=j:=by
 simp only[uA,lO,lP,w8,B3];constructor
 .intro h i j h1 h2
  have:=kX h1
  rcases Ao i j with hc | hc | hc
  .rcases h j this.2 i hc with e | e
   .rw[e] at h2;simp at h2
   .rw[e] at h1;simp at h1
  .exact hc
  .rcases h i this.1 j hc with e | e
   .rw[e] at h1;simp at h1
   .rw[e] at h2;simp at h2
 .intro h i hi j hj;cases h1:bx r i j with
  | false=>exact .inl rfl
  | true =>
   cases h2:bx r j i with
   | false=>exact .inr rfl
   | true=>have:=h i j h1 h2;omega
def Vb(hi:i<64):(zD r i).getLsbD j=(bx r i j&&bx r j i):=by
 rw[zD,r_,qp,b_,b_,Pj,Kz];simp only[Dx hi,eb];constructor
 .rintro⟨⟨a,rfl,h1⟩,⟨b,rfl,h2⟩⟩;exact⟨h1,h2⟩
 .rintro⟨h1,h2⟩;exact⟨⟨_,rfl,h1⟩,⟨_,rfl,h2⟩⟩
def Vc(hc:tu r=aa)(hi:i<bm r):zD r i=fC [(i:Int)]↔∀j,bx r i j=aa->bx r j i=aa->j=i:=by
 have eg : i<64:=uw hi jc;have hr:=(aby.1 hc).1 i hi;constructor
 .intro h j h1 h2
  have:=jR (λw:bu=>w.getLsbD j) h
  simp only[Vb eg,h1,h2,Dx eg,JB] at this;simpa using this.symm
 .intro h;apply lZ;intro j _;rw[Vb eg,Dx eg]
  by_cases e:j=i
  .subst e;simp[hr]
  .rw[az e];cases h1:bx r i j with
   | false=>rfl
   | true =>
    cases h2:bx r j i with
    | false=>rfl
    | true=>exact absurd (h j h1 h2) e
def QF(hc:tu r=aa):uA r=aa↔∀i,i<bm r->zD r i=fC [(i:Int)]:=by
 rw[QE];constructor
 .intro h i hi;exact(Vc hc hi).2 λj h1 h2=>(h i j h1 h2).symm
 .intro h i j h1 h2;exact((Vc hc (kX h1).1).1 (h i (kX h1).1) j h1 h2).symm
end
section
variable {r:Rl} {w a b:bu} {i j k n o p x y:Nat}
def find_congr{Y:Type}{p q:Y->Bool}:∀{l:List Y},(∀x∈l,p x=q x)->l.find? p=l.find? q
 | [],_=>rfl
 | a :: l, h => by
  have h1:=h a (by simp);have h2:=find_congr (l:=l) λx hx=>h x (by simp[hx])
  simp only[JP,h1,h2]
def find_range{p:Nat->Bool}{n m:Nat}(hp:∀u,p u=aa->u<n)(h:n<=m):(bG m).find? p=(bG n).find? p:=by
 induction m with
 | zero=>rw[show n=0 by omega]
 | succ m ih =>
  by_cases e:n=m+1
  .rw[e]
  .rw[ga,B9,ih (by omega)]
   have:[m].find? p=none:=by
    rw[Gv];intro u hu;rw[nU.1 hu];intro hc;have:=hp m hc;omega
   rw[this];simp
def KR{p q:Nat->Bool}:∀{l:List Nat},(l.filter p).find? q=l.find? λu=>p u&&q u
 | []=>rfl
 | a :: l => by
  rw[Ak];split
  .rename_i h;rw[JP,JP,KR,h,gJ]
  .rename_i h;have h:p a=false:=by simpa using h
   rw[JP,h,yB,KR]
def xk(r:Rl)(i:Nat):bu:=vz r (fC [(i:Int)])
def rk(r:Rl)(i:Nat):bu:=if i<bm r then yT r (fC [(i:Int)]) else 0#64
def J5:(xk r i).getLsbD j=bx r i j:=by
 rw[qp,xk,Pj];constructor
 .rintro⟨k,h1,h2⟩;rw[x7] at h1;simp only[nU,b_,eb] at h1;obtain rfl:k=i:=by omega
  exact h2
 .intro h
  have:=(kX h).1;have:=@jc r
  exact⟨i,by rw[Dx (by omega)];simp,h⟩
def QV:(rk r i).getLsbD j=bx r j i:=by
 unfold rk;split
 .rename_i hi
  have:=@jc r
  rw[qp,Kz];constructor
  .rintro⟨k,h1,h2⟩;rw[Dx (by omega)] at h1;rw[<-Vy h1];exact h2
  .intro h;exact⟨i,by rw[Dx (by omega)];simp,h⟩
 .rename_i hi;cases h:bx r j i with
  | false=>simp
  | true=>exact absurd (kX h).2 hi
def Du(f:Nat->bu)(i j:Nat):Option Nat:=(fY (f i&&&f j)).find? λu=>wT (f i&&&f j) (f u)
def pY(r:Rl)(i j:Nat):Option Nat:=Du (xk r) i j
def qQ(r:Rl)(i j:Nat):Option Nat:=Du (rk r) i j
def Vj{f:Nat->bu}{g:Nat->Nat->Bool}(hf:∀i j,(f i).getLsbD j=g i j)(hl:∀i j,g i j=aa->j<bm r):
 Du f i j=(bG (bm r)).find? λu=>(g i u&&g j u)&&(bG (bm r)).all λv=>!(g i v&&g j v&&!g u v):=by
 rw[Du,fY,KR];have hg:∀u,(f i&&&f j).getLsbD u=(g i u&&g j u):=λu=>by rw[r_,hf,hf]
 have an:∀u,(g i u&&g j u)=aa->u<bm r:=λu h=>hl i u (b_ _ _▸h).1
 have hq:∀u,wT (f i&&&f j) (f u)=(bG (bm r)).all λv=>!(g i v&&g j v&&!g u v):=λu=>by
  rw[qp,asN,lO];simp only[hg,hf,lP];constructor
  .intro h v _;cases hv:(g i v&&g j v) with
   | false=>rfl
   | true=>rw[h v hv];rfl
  .intro h v hv
   have:=h v (an v hv)
   rw[hv] at this;simpa using this
 rw[find_range (n:=bm r) (λu hu=>an u (by rw[<-hg];exact(b_ _ _▸hu).1)) jc];exact find_congr λu _=>by rw[hg,hq]
def ak1:pY r i j=(bG (bm r)).find? λu=>(bx r i u&&bx r j u)&&(bG (bm r)).all λv=>!(bx r i v&&bx r j v&&!bx r u v) :=
 Vj (λ_ _=>J5) λ_ _ h=>(kX h).2
def amW:qQ r i j=(bG (bm r)).find? λu=>(bx r u i&&bx r u j)&&(bG (bm r)).all λv=>!(bx r v i&&bx r v j&&!bx r v u) :=
 Vj (g:=λi u=>bx r u i) (λ_ _=>QV) λ_ _ h=>(kX h).1
def ky(r:Rl):Bool:=decide (1<=r.n)&&decide (r.n<=64)&&vf r&&(bG r.n.toNat).all λi=>(bG i).all λj=>(pY r i j).isSome&&(qQ r i j).isSome
def V_(r:Rl)(w:bu):Option Nat:=(bG (bm r)).find? λi=>decide (rk r i=w)
def aqA(r:Rl)(a b:bu):bu :=
 match V_ r a,V_ r b with
 | some i,U j=>(match pY r i j with | some k=>rk r k | none=>a|||b)
 | _,_=>a|||b
def jT(r:Rl):Bool:=decide (1<=r.n)&&decide (r.n<=8)&&tu r
def v_(h:jT r=aa):∃n:Nat,r.n=n/\bm r=n/\1<=n/\n<=8:=by
 simp only[jT,b_,eb] at h;exact⟨r.n.toNat,by omega,by rw[bm];omega,by omega,by omega⟩
def Dz(r:Rl)(w:bu)(o:Nat):bu:=(w>>>(8*o))&&&iU r.n
def aoP:(Dz r w o).getLsbD x=(w.getLsbD (8*o+x)&&decide ((x:Int)<r.n)):=by
 rw[Dz,r_,JA,xo]
 by_cases h:x<64
 .rw[aB h,gJ]
 .rw[yz w _ (by omega)];simp
def wQ(n:Nat)(f:Nat->bu):bu:=(bG n).foldl (λw o=>w|||(f o<<<(8*o))) 0#64
def WQ{f:Nat->bu}(hf:∀o x,(f o).getLsbD x=aa->x<8)(hk:k<64):(wQ n f).getLsbD k=(decide (k / 8<n)&&(f (k / 8)).getLsbD (k % 8)):=by
 rw[wQ,Hi (f:=λo=>f o<<<(8*o)),PV,ur,qp,uu];simp only[lP,PU,hk,bL,gJ,b_,w8,uH,eb];constructor
 .rintro⟨o,h1,h2,h3⟩
  have:=hf _ _ h3
  have e1:k / 8=o:=by omega
  have e2:k % 8=k - 8*o:=by omega
  rw[e1,e2];exact⟨h1,h3⟩
 .rintro⟨h1,h2⟩;exact⟨k / 8,h1,by omega,by rw[show k - 8*(k / 8)=k % 8 by omega];exact h2⟩
def Cr(r:Rl)(w:bu)(o:Nat):bu:=(fY (xk r o)).foldl (λs p=>s|||yT r (Dz r w p)) 0#64
def Q9:(Cr r w o).getLsbD x=aa↔∃p y,bx r o p=aa/\bx r x y=aa/\w.getLsbD (8*p+y)=aa/\(y:Int)<r.n:=by
 rw[Cr,Hi,PV,ur,uu];simp only[NO,J5,Kz,aoP,b_,eb];constructor
 .rintro⟨p,h1,y,⟨h2,h3⟩,h4⟩;exact⟨p,y,h1,h4,h2,h3⟩
 .rintro⟨p,y,h1,h4,h2,h3⟩;exact⟨p,h1,y,⟨h2,h3⟩,h4⟩
def uE(r:Rl)(w:bu):bu:=if jT r then wQ r.n.toNat (Cr r w) else 0#64
def abx(hk:k<64):(uE r w).getLsbD k=aa↔jT r=aa/\∃p y,bx r (k / 8) p=aa/\bx r (k % 8) y=aa/\w.getLsbD (8*p+y)=true:=by
 unfold uE;split
 .rename_i hg;obtain⟨n,hn,hp,h1,h8⟩:=v_ hg;rw[WQ (λo x hx=>by
   obtain⟨p,y,_,h,_⟩:=Q9.1 hx
   have:=(kX h).1;omega) hk,b_,Q9,eb]
  constructor
  .rintro⟨_,p,y,a,b,c,_⟩;exact⟨hg,p,y,a,b,c⟩
  .rintro⟨_,p,y,a,b,c⟩
   have:=kX a;have:=kX b
   exact⟨by omega,p,y,a,b,c,by omega⟩
 .rename_i hg;simp[hg]
def uL(r:Rl)(w:bu)(o x:Nat):Bool:=(bG r.n.toNat).any λp=>(bG r.n.toNat).any λy=>w.getLsbD (8*p+y)&&(bx r o p&&bx r x y)
def SF(hg:jT r=aa):uL r w o x=aa↔∃p y,bx r o p=aa/\bx r x y=aa/\w.getLsbD (8*p+y)=true:=by
 obtain⟨n,hn,hp,h1,h8⟩:=v_ hg;simp only[uL,uu,lP,b_];constructor
 .rintro⟨p,_,y,_,c,a,b⟩;exact⟨p,y,a,b,c⟩
 .rintro⟨p,y,a,b,c⟩
  have:=kX a;have:=kX b
  exact⟨p,by omega,y,by omega,c,a,b⟩
def qY(r:Rl)(w:bu)(o m:Nat):List Int:=((bG m).filter (uL r w o)).map λx=>((8*o+x:Nat):Int)
def np(r:Rl)(w:bu)(m:Nat):List Int:=(bG m).flatMap λo=>qY r w o r.n.toNat
def S3{m:Nat}:np r w (m+1)=np r w m++qY r w m r.n.toNat:=by
 simp only[np,ga,py,xa,P_,eM]
def OC{m:Nat}:qY r w o (m+1)=qY r w o m++if uL r w o m then [((8*o+m:Nat):Int)] else []:=by
 simp only[qY,ga,B8,jf,Ak,List.filter_nil];split<;>rfl
def WK{m:Nat}:(qY r w o m).length<=m:=by
 have:=Cb (uL r w o) (bG m)
 simpa [qY] using this
def S2{m:Nat}:(np r w m).length<=m*r.n.toNat:=by
 induction m with
 | zero=>simp[np]
 | succ m ih =>
  have:=@WK r w m r.n.toNat
  rw[S3,bW,jh,xd];omega
def aju(hg:jT r=aa):fC (np r w r.n.toNat)=uE r w:=by
 obtain⟨n,hn,hp,h1,h8⟩:=v_ hg;apply lZ;intro k hk;rw[qp,abx hk,x7,aB hk,gJ,AB];simp only[np,qY,GA,lP,qv,D',SF hg,hg,mA];constructor
 .rintro⟨o,h1,x,⟨h2,h3⟩,h4⟩;have e1:k / 8=o:=by omega
  have e2:k % 8=x:=by omega
  rw[e1,e2];exact h3
 .rintro⟨p,y,a,b,c⟩
  have:=kX a;have:=kX b
  exact⟨k / 8,by omega,k % 8,⟨by omega,p,y,a,b,c⟩,by omega⟩
def sQ(r:Rl)(d:bu):bu:=iU r.n&&&~~~vz r d
def s4(r:Rl)(o:Nat)(d:bu):bu:=if jT r&&decide ((o:Int)<r.n) then uE r (wQ r.n.toNat λk=>if k=o then sQ r d else 0#64) else 0#64
def u_(r:Rl)(d:bu)(x:Nat):Bool:=(bG r.n.toNat).any λy=>d.getLsbD y&&bx r y x
def qm(r:Rl)(o:Nat)(d:bu)(m:Nat):List Int:=((bG m).filter λx=>!u_ r d x).map λx=>((8*o+x:Nat):Int)
def OI{d:bu}{m:Nat}:qm r o d (m+1)=qm r o d m++if u_ r d m then [] else [((8*o+m:Nat):Int)]:=by
 simp only[qm,ga,B8,jf,Ak,List.filter_nil];cases u_ r d m<;>rfl
def W0{d:bu}{m:Nat}:(qm r o d m).length<=m:=by
 have:=Cb (λx=>!u_ r d x) (bG m)
 simpa [qm] using this
def Nj{d:bu}(hg:jT r=aa):(sQ r d).getLsbD x=aa↔x<r.n.toNat/\u_ r d x=false:=by
 obtain⟨n,hn,hp,h1,h8⟩:=v_ hg;rw[sQ,r_,BitVec.getLsbD_not,xo];have hm:(vz r d).getLsbD x=u_ r d x:=by
  rw[qp,Pj];simp only[u_,uu,lP,b_];constructor
  .rintro⟨i,a,b⟩;exact⟨i,by have:=(kX b).1;omega,a,b⟩
  .rintro⟨i,_,a,b⟩;exact⟨i,a,b⟩
 rw[hm];simp only[b_,eb,w8];constructor
 .rintro⟨⟨a,b⟩,c,d⟩;exact⟨by omega,d⟩
 .rintro⟨a,b⟩;exact⟨⟨by omega,by omega⟩,by omega,b⟩
def arA{d:bu}(hg:jT r=aa)(ho:o<r.n.toNat):fC (qm r o d r.n.toNat)=wQ r.n.toNat λk=>if k=o then sQ r d else 0#64:=by
 obtain⟨n,hn,hp,h1,h8⟩:=v_ hg;apply lZ;intro k hk;rw[WQ (λo' x hx=>by
  split at hx
  .have:=(Nj hg).1 hx;omega
  .simp at hx) hk,qp,x7,aB hk,gJ,AB,b_,AB]
 simp only[qm,qv,D',lP,w8];constructor
 .rintro⟨x,⟨h2,h3⟩,h4⟩;have e1:k / 8=o:=by omega
  have e2:k % 8=x:=by omega
  rw[e1,e2,aI rfl];exact⟨ho,(Nj hg).2 ⟨h2,h3⟩⟩
 .rintro⟨h2,h3⟩;split at h3
  .rename_i e;obtain⟨h4,h5⟩:=(Nj hg).1 h3;exact⟨k % 8,⟨h4,h5⟩,by omega⟩
  .simp at h3
def s5(n k:Int):bu × Bool:=if 1<=n/\n<=64/\0<=k/\k<n then(iU k,aa) else(0#64,aq)
end
def ag.leaf(kind:Int)(r:ag):Nd × ag:=(.mk kind r.word.1.pos r.word.1.ar [] [],r.word.2)
def ag.sZ(r:ag):Nd × ag :=
 (.mk 6 r.word.1.pos r.word.1.ar ((r.word.2.take 58).2.words aa).1.1 [],((r.word.2.take 58).2.words aa).2)
def ag.constant:Nat->ag->Nd × ag
 | 0,r=>r.leaf 2
 | n + 1, r =>
  if r.cD 123=aa then(.mk 3 (r.words aa).1.2 [] (r.words aa).1.1 [],(r.words aa).2)
  else if r.cD 40=aa then(.mk 4 (r.nodes (ag.constant n) 40 aq).1.2 [] [] (r.nodes (ag.constant n) 40 aq).1.1,(r.nodes (ag.constant n) 40 aq).2)
  else if r.cD 91=aa then(.mk 5 (r.nodes ag.sZ 91 aa).1.2 [] [] (r.nodes ag.sZ 91 aa).1.1,(r.nodes ag.sZ 91 aa).2)
  else r.leaf 2
def ag.atom(n:Nat)(r:ag):Nd × ag :=
 if r.cD 35=aa then(.mk 7 (r.take 35).1.tok.pos [] [] [(ag.constant n (r.take 35).2).1],(ag.constant n (r.take 35).2).2) else r.leaf 1
def ag.label:Nat->ag->Nd × ag
 | 0,r=>r.leaf 1
 | n + 1, r =>
  if r.cD 43=aa then(.mk 8 (r.take 43).1.tok.pos [] [] ((r.take 43).2.nodes (ag.label n) 40 aq).1.1,((r.take 43).2.nodes (ag.label n) 40 aq).2)
  else if r.cD 38=aa then(.mk 9 (r.take 38).1.tok.pos [] [] ((r.take 38).2.nodes (ag.label n) 40 aq).1.1,((r.take 38).2.nodes (ag.label n) 40 aq).2)
  else r.atom (n+1)
def ag.field(n:Nat)(r:ag):Nd × ag :=
 (.mk 11 r.word.1.pos r.word.1.ar [] [((r.word.2.take 61).2.atom n).1],((r.word.2.take 61).2.atom n).2)
def lN(r r' : ag):Prop:=r'.l=r.l/\(0<=r.at_->r.at_<=r.l.length->r.at_<=r'.at_/\r'.at_<=r.l.length/\(r'.aQ=ah->r.at_+1<=r'.at_))
def lN.trans{a b c:ag}(h:lN a b)(k:lN b c):lN a c:=by
 refine⟨k.1.trans h.1,λh1 h2=>?_⟩;obtain⟨p1,p2,p3⟩:=h.2 h1 h2;obtain⟨q1,q2,q3⟩:=k.2 (by omega) (by rw[h.1];exact p2);rw[h.1] at q2;exact⟨by omega,q2,λhq=>by have:=q3 hq;omega⟩
def uM(r:ag)(k:Int):lN r (r.take k).2:=by
 refine⟨r.gk k,λh1 h2=>?_⟩
 rcases r.vu k with ⟨_,e,_,h3,h4⟩ | ⟨_,e,hb⟩
 .rw[e];exact⟨by omega,by omega,λ_=>by omega⟩
 .rw[e];exact⟨by omega,h2,λhq=>absurd hq hb⟩
def y6(r:ag):lN r r.word.2:=uM r 97
def EH(r:ag)(k:Int):lN r (r.leaf k).2:=y6 r
variable{β:Type}
def SY(step:ag × List β->ag × List β)(k:Int)(e:Bool)(r:ag):lN r (r.bracket step k e).2:=by
 have h:=uM r k;unfold ag.bracket;split
 .rename_i cc;have hb:(r.take k).2.aQ=none:=by simpa [ag.ok] using cc
  exact⟨h.1,λh1 h2=>by
   obtain⟨p1,p2,p3⟩:=h.2 h1 h2;exact⟨p1,p2,λ_=>p3 hb⟩⟩
 .exact h
def K9(r:ag)(e:Bool):lN r (r.words e).2:=SY _ _ _ _
def Hq(r:ag)(one:ag->Nd × ag)(k:Int)(e:Bool):lN r (r.nodes one k e).2:=SY _ _ _ _
def DJ{one:ag->Nd × ag}(h:∀r,lN r (one r).2):Reads one:=⟨λr=>(h r).1,λr=>(h r).2⟩
def ajs(r:ag):lN r r.sZ.2:=((y6 r).trans (uM _ _)).trans (K9 _ _)
def SZ:∀(n:Nat) (r:ag),lN r (ag.constant n r).2
 | 0,r=>EH r 2
 | n + 1, r => by
  simp only[ag.constant];split
  .exact K9 r aa
  .split
   .exact Hq r _ 40 aq
   .split
    .exact Hq r _ 91 aa
    .exact EH r 2
def SX(n:Nat)(r:ag):lN r (r.atom n).2:=by
 simp only[ag.atom];split
 .exact(uM r 35).trans (SZ n _)
 .exact EH r 1
def K8:∀(n:Nat) (r:ag),lN r (ag.label n r).2
 | 0,r=>EH r 1
 | n + 1, r => by
  simp only[ag.label];split
  .exact(uM r 43).trans (Hq _ _ 40 aq)
  .split
   .exact(uM r 38).trans (Hq _ _ 40 aq)
   .exact SX (n+1) r
def S0(n:Nat)(r:ag):lN r (r.field n).2:=((y6 r).trans (uM _ _)).trans (SX n _)
def ag.qi(n:Nat)(i:ag):(ag × List Nd) × List aF :=
 let a:=if i.cD 124=aa then(i,[]) else eZ (cV (ag.field n)) i
 if a.1.cD 124=aa then(((a.1.take 124).2.word.2,a.2),[(a.1.take 124).2.word.1]) else(a,[])
def ag.rowOf(n:Nat)(t:aA):(ag × List Nd) × List aF:=if t.ae.length=0 then((t.inner,[]),[]) else t.inner.qi n
def ag.row(n:Nat)(r:ag):Nd × ag :=
 if r.cD 91=aa then(.mk 10 (r.take 91).1.tok.pos [] (ag.rowOf n (r.take 91).1).2 (ag.rowOf n (r.take 91).1).1.2,(r.take 91).2.under (ag.rowOf n (r.take 91).1).1.1) else r.leaf 1
def Nd.zero:Nd:=.mk 0 0 [] [] []
def iR(one:ag->Nd × ag)(l:List aA)(at_ fin:Int):Nd × Int × Option Int :=
 match (one ⟨l,at_,fin,ah⟩).2.aQ with
 | some b=>(.zero,0,U b)
 | none=>((one ⟨l,at_,fin,ah⟩).1,(one ⟨l,at_,fin,ah⟩).2.at_,ah)
def pw(l:List aA)(at_ fin:Int):List aF × Option Int :=
 match ((⟨l,at_,fin,ah⟩:ag).words aq).2.aQ with
 | some b=>([],U b)
 | none=>(((⟨l,at_,fin,ah⟩:ag).words aq).1.1,ah)
structure bD where
 node:Nd
 next:Int
 aQ:Bool
 pos:Int
def bD.enc(g:bD):List V:=[.int .i64 g.node.kind,.int .i64 g.node.pos,.aH g.node.ar,.sl .no 2 (g.node.al.map aF.enc),.sl .no 5 (g.node.ae.map Nd.enc),.int .i64 g.next,.bool g.aQ,.int .i64 g.pos]
def jI(l:List aA)(at_ fin:Int):Int:=if 0<=at_ then(match l[at_.toNat]? with | some t=>t.tok.pos | none=>fin) else fin
def dG(l:List aA)(at_ fin:Int):bD:=⟨.zero,0,aa,jI l at_ fin⟩
def fD(l:List aA)(at_:Int):Tok:=match l[at_.toNat]? with | some t=>t.tok | none=>⟨0,[],0⟩
def nameAt(l:List aA)(at_ fin:Int):bD :=
 if bf l at_ 97=aa then ⟨.mk 0 (fD l at_).pos (fD l at_).ar [] [],at_+1,aq,0⟩ else dG l at_ fin
def dE(one:Int->bD)(l:List aA):Nat->Int->List Nd->List Nd × bD
 | 0,_,_=>([],⟨.zero,0,aa,0⟩)
 | n + 1, at_, out =>
  if (one at_).aQ=aa then([],one at_)
  else if bf l (one at_).next 44=aa then dE one l n ((one at_).next+1) (out++[(one at_).node])
  else(out++[(one at_).node],one at_)
def wholeAt(one:List aA->Int->Int->bD)(t:aA)(empty:Bool):List Nd × bD :=
 if empty=aa/\t.ae.length=0 then([],⟨.zero,0,aq,0⟩)
 else
  let r:=dE (λi=>one t.ae i t.fin) t.ae (t.ae.length+1) 0 []
  if r.2.aQ=aq/\r.2.next<t.ae.length then([],dG t.ae r.2.next t.fin) else r
def jK(l:List Nd):List aF:=l.map λn=>⟨n.ar,n.pos⟩
def bU(l:List aA)(at_:Int):aA:=match l[at_.toNat]? with | some t=>t | none=>.zero
def lK(l:List aA)(at_ fin:Int):List aF × bD :=
 if bf l at_ 123=aa then(jK (wholeAt nameAt (bU l at_) aq).1,(wholeAt nameAt (bU l at_) aq).2) else([],dG l at_ fin)
def XD{one:Int->bD}{l:List aA}:∀(n:Nat) (a:Int) (out:List Nd),(dE one l n a out).1.length<=out.length+n
 | 0,_,_=>by simp[dE]
 | n + 1, a, out => by
  simp only[dE];split
  .simp
  .split
   .have:=XD (one:=one) (l:=l) n ((one a).next+1) (out++[(one a).node])
    simp at this;omega
   .simp
def Px{one:List aA->Int->Int->bD}(t:aA)(e:Bool):(wholeAt one t e).1.length<=t.ae.length+1:=by
 unfold wholeAt;split
 .simp
 .simp only;split
  .simp
  .have:=XD (one:=λi=>one t.ae i t.fin) (l:=t.ae) (t.ae.length+1) 0 []
   simpa using this
def iB{l:List aA}{i k:Int}(h:bf l i k=aa):∃j t,i=(j:Nat)/\l[j]?=U t/\t.tok.kind=k/\j<l.length:=by
 simp only[bf,b_,eb] at h;obtain⟨h0,hk⟩:=h;obtain⟨j,rfl⟩:=vB h0;simp only[gK] at hk;cases hq:l[j]? with
 | none=>rw[hq] at hk;simp at hk
 | some t=>rw[hq] at hk;exact⟨j,t,rfl,hq,by simpa using hk,(fw.1 hq).1⟩
def gC{l:List aA}{t:aA}(h:l[j]?=U t):(cm l)[((j:Nat):Int).toNat]?=U t.enc:=by simp[nW,h]
def fN{l:List Nd}{t:Nd}(h:l[j]?=U t):(l.map Nd.enc)[((j:Nat):Int).toNat]?=U t.enc:=by simp[h]
def mB{l:List aF}{t:aF}(h:l[j]?=U t):(l.map aF.enc)[((j:Nat):Int).toNat]?=U t.enc:=by simp[h]
variable{x:aA}
def aA.dj:x.enc.length=5:=by rw[cS];rfl
def aA.gH{x:aA}:c8 x.enc=true:=by rw[cS];rfl
def aA.dL{x:aA}:bS x.enc=true:=by rw[cS];rfl
def aA.dy{x:aA}:aZ x.enc=x.enc:=by rw[cS];rfl
def aA.fO:takeN 5 x.enc=U x.enc:=by rw[cS];rfl
def aA.iF:bX aa 5 x.enc=U (.agg x.enc):=by rw[cS];rfl
def aA.gT:cB 5 x.enc=true:=by rw[cS];rfl
variable{z0 z1:V}
def aA.gx{z2 z3 z4:V}:over [z0,z1,z2,z3,z4] x.enc=x.enc:=by rw[cS];rfl
def aA.bP:bK n x.enc=true:=by rw[cS];rfl
def aA.ak:=af @aA.dj <| af @aA.gH <| af @aA.dL <| af @aA.dy <| af @aA.fO <| af @aA.iF <| af @aA.gT <| af @aA.gx @aA.bP
def Nd.dj{x:Nd}:x.enc.length=5:=by rw[Nd.cS];rfl
def Nd.gH{x:Nd}:c8 x.enc=true:=by rw[Nd.cS];rfl
def Nd.dL{x:Nd}:bS x.enc=true:=by rw[Nd.cS];rfl
def Nd.dy{x:Nd}:aZ x.enc=x.enc:=by rw[Nd.cS];rfl
def Nd.fO{x:Nd}:takeN 5 x.enc=U x.enc:=by rw[Nd.cS];rfl
def Nd.iF{x:Nd}:bX aa 5 x.enc=U (.agg x.enc):=by rw[Nd.cS];rfl
def Nd.gT{x:Nd}:cB 5 x.enc=true:=by rw[Nd.cS];rfl
def Nd.gx{x:Nd}{z2 z3 z4:V}:over [z0,z1,z2,z3,z4] x.enc=x.enc:=by rw[Nd.cS];rfl
def Nd.bP{x:Nd}:bK n x.enc=true:=by rw[Nd.cS];rfl
def Nd.ak:=af @Nd.dj <| af @Nd.gH <| af @Nd.dL <| af @Nd.dy <| af @Nd.fO <| af @Nd.iF <| af @Nd.gT <| af @Nd.gx @Nd.bP
def aF.dj{x:aF}:x.enc.length=2:=by rw[aF.enc];rfl
def aF.gH{x:aF}:c8 x.enc=true:=by rw[aF.enc];rfl
def aF.dL{x:aF}:bS x.enc=true:=by rw[aF.enc];rfl
def aF.dy{x:aF}:aZ x.enc=x.enc:=by rw[aF.enc];rfl
def aF.fO{x:aF}:takeN 2 x.enc=U x.enc:=by rw[aF.enc];rfl
def aF.iF{x:aF}:bX aa 2 x.enc=U (.agg x.enc):=by rw[aF.enc];rfl
def aF.gT{x:aF}:cB 2 x.enc=true:=by rw[aF.enc];rfl
def aF.gx{x:aF}:over [z0,z1] x.enc=x.enc:=by rw[aF.enc];rfl
def aF.bP{x:aF}:bK n x.enc=true:=by rw[aF.enc];rfl
def aF.ak:=af @aF.dj <| af @aF.gH <| af @aF.dL <| af @aF.dy <| af @aF.fO <| af @aF.iF <| af @aF.gT <| af @aF.gx @aF.bP
def bD.dj{x:bD}:x.enc.length=8:=by rw[bD.enc];rfl
def bD.gH{x:bD}:c8 x.enc=true:=by rw[bD.enc];rfl
def bD.dL{x:bD}:bS x.enc=true:=by rw[bD.enc];rfl
def bD.dy{x:bD}:aZ x.enc=x.enc:=by rw[bD.enc];rfl
def bD.fO{x:bD}:takeN 8 x.enc=U x.enc:=by rw[bD.enc];rfl
def bD.iF{x:bD}:bX aa 8 x.enc=U (.agg x.enc):=by rw[bD.enc];rfl
def bD.gT{x:bD}:cB 8 x.enc=true:=by rw[bD.enc];rfl
def bD.gx{x:bD}{z2 z3 z4 z5 z6 z7:V}:over [z0,z1,z2,z3,z4,z5,z6,z7] x.enc=x.enc:=by rw[bD.enc];rfl
def bD.bP{x:bD}:bK n x.enc=true:=by rw[bD.enc];rfl
def bD.ak:=af @bD.dj <| af @bD.gH <| af @bD.dL <| af @bD.dy <| af @bD.fO <| af @bD.iF <| af @bD.gT <| af @bD.gx @bD.bP
def Nd.x1{r:Nd}:r.enc.drop 1=[V.int .i64 r.pos,.aH r.ar,.sl .no 2 (r.al.map aF.enc),.sl .no 5 (r.ae.map Nd.enc)]:=by rw[Nd.cS];rfl
def Nd.x2{r:Nd}:r.enc.drop 2=[V.aH r.ar,.sl .no 2 (r.al.map aF.enc),.sl .no 5 (r.ae.map Nd.enc)]:=by rw[Nd.cS];rfl
def Nd.x3{r:Nd}:r.enc.drop 3=[V.sl .no 2 (r.al.map aF.enc),.sl .no 5 (r.ae.map Nd.enc)]:=by rw[Nd.cS];rfl
def Nd.x4{r:Nd}:r.enc.drop 4=[V.sl .no 5 (r.ae.map Nd.enc)]:=by rw[Nd.cS];rfl
def Nd.x0{r:Nd}:bX aq 1 r.enc=U (.int .i64 r.kind):=by rw[Nd.cS];rfl
def Nd.fl:=af @Nd.x0 <| af @Nd.x1 <| af @Nd.x2 <| af @Nd.x3 @Nd.x4
variable{r:aA}
def aA.x1:r.enc.drop 1=[V.aH r.tok.ar,.int .i64 r.tok.pos,.sl .no 5 (cm r.ae),.int .i64 r.fin]:=by rw[cS];rfl
def aA.x2:r.enc.drop 2=[V.int .i64 r.tok.pos,.sl .no 5 (cm r.ae),.int .i64 r.fin]:=by rw[cS];rfl
def aA.x3:r.enc.drop 3=[V.sl .no 5 (cm r.ae),.int .i64 r.fin]:=by rw[cS];rfl
def aA.x4:r.enc.drop 4=[V.int .i64 r.fin]:=by rw[cS];rfl
def aA.x0:bX aq 1 r.enc=U (.int .u8 r.tok.kind):=by rw[cS];rfl
def aA.xt:bX aa 3 r.enc=U (.agg [.int .u8 r.tok.kind,.aH r.tok.ar,.int .i64 r.tok.pos]):=by rw[cS];rfl
def aA.fl:=af @aA.x0 <| af @aA.xt <| af @aA.x1 <| af @aA.x2 <| af @aA.x3 @aA.x4
def t_(c:Int):Bool:=decide (97<=c)&&decide (c<=122)
def sA(c:Int):Bool:=t_ c||(decide (48<=c)&&decide (c<=57))||decide (c=95)
def vr:List Int:=[35,43,38,40,41,123,125,91,93,44,58,61,124,60]
def rW(c:Int):Bool:=vr.any λs=>decide (s=c)
def closing(c:Int):Int:=if c=40 then 41 else if c=123\/c=91 then c+2 else 0
def lv(c:Int):Bool:=decide (c=41)||decide (c=125)||decide (c=93)
def iy(c:UInt8):Bool:=sA c.toNat
def wI(c:UInt8):Bool:=t_ c.toNat
def dO(s:List UInt8):Bool:=decide (s.length<=16)&&(match s with | []=>aq | c::r=>wI c&&r.all iy)
def Tok.enc(t:Tok):List V:=[.int .u8 t.kind,.aH t.ar,.int .i64 t.pos]
def eH(r:List UInt8):List UInt8:=r.takeWhile iy
def gQ:Nat->Nat->List UInt8->List Tok->List Tok × Option Int
 | 0,_,_,acc=>(acc,ah)
 | _,_,[],acc=>(acc,ah)
 | n + 1, p, c :: r, acc =>
  if c.toNat=45/\(r.head?.map UInt8.toNat)=U 45 then(acc,ah)
  else if 0<(eH (c::r)).length/\dO (eH (c::r))=aa then gQ n (p+(eH (c::r)).length) ((c::r).drop (eH (c::r)).length) (acc++[⟨97,eH (c::r),p⟩])
  else if rW (c.toNat:Nat)=aa then gQ n (p+1) r (acc++[⟨(c.toNat:Nat),[c],p⟩])
  else if c.toNat=32\/c.toNat=9 then gQ n (p+1) r acc
  else([],U p)
def fI(s:List UInt8):List Tok × Option Int:=gQ s.length 0 s []
def vU(b:Option Int):V:=.agg [.int .i64 (match b with | some _=>1 | none=>0),.int .i64 (fB b)]
def ei(l:List Tok)(i:Nat):Int:=match l[i]? with | some t=>t.kind | none=>0
def lz(l:List Tok):Nat->Nat->List Nat->Int
 | 0,_,open_=>match open_.getLast? with | some j=>(j:Nat) | none=>-1
 | n + 1, i, open_ =>
  if closing (ei l i)≠0/\24<=open_.length then(i:Nat)
  else
   let o:=if closing (ei l i)≠0 then open_++[i] else open_
   if lv (ei l i)=aa then
    match o.getLast? with
    | none=>(i:Nat)
    | some j=>if closing (ei l j)=ei l i then lz l n (i+1) o.dropLast else(i:Nat)
   else lz l n (i+1) o
def ir(l:List Tok)(at_:Nat):Nat->Nat->Int->Nat
 | 0,_,_=>at_
 | n + 1, i, deep =>
  let d:=(deep+(if closing (ei l i)≠0 then 1 else 0)) - (if lv (ei l i)=aa then 1 else 0)
  if d=0 then i else ir l at_ n (i+1) d
def partner(l:List Tok)(at_:Nat):Nat:=ir l at_ (l.length - at_) at_ 0
def qb(l:List Tok)(i:Nat):Int:=match l[i]? with | some t=>t.pos | none=>0
def iI(l:List Tok)(i:Nat):Tok:=match l[i]? with | some t=>t | none=>⟨0,[],0⟩
def jJ(l:List Tok):Nat->Nat->Nat->List aA
 | 0,_,_=>[]
 | n + 1, i, to =>
  if i<to then
   if closing (ei l i)≠0 then .mk (iI l i) (jJ l n (i+1) (partner l i)) (qb l (partner l i))::jJ l n (partner l i+1) to
   else .mk (iI l i) [] (qb l i)::jJ l n (i+1) to
  else []
def jt(l:List Tok):List aA × Option Int :=
 if 0<=lz l l.length 0 [] then([],U (qb l (lz l l.length 0 []).toNat)) else(jJ l l.length 0 l.length,ah)
def vv:Option Int->List Tok->List UInt8
 | _,[]=>[]
 | k,t::ts=>(if k=U 97/\t.kind=97 then [32] else [])++t.ar++vv (U t.kind) ts
def mz(l:List Tok):List UInt8:=vv ah l
mutual
def aA.flat:aA->List Tok
 | .mk t ks e=>t::(if closing t.kind≠0 then cu ks++[⟨closing t.kind,[UInt8.ofNat (closing t.kind).toNat],e⟩] else [])
def cu:List aA->List Tok
 | []=>[]
 | t::ts=>t.flat++cu ts
end
def W2(r:List UInt8):(eH r).length<=r.length:=by
 unfold eH;exact List.Sublist.length_le (YZ _)
variable{a:Nat}{s:List UInt8}
def W1:(eH (s.drop a)).length<=s.length - a:=by
 have:=W2 (s.drop a)
 rwa [Qd] at this
def XU{Y:Type}{f:Y->Bool}:∀(r:List Y),r.take (r.takeWhile f).length=r.takeWhile f
 | []=>rfl
 | c :: r => by
  simp only[List.takeWhile_cons];split
  .simp[XU r]
  .simp
def Kx:(s.take (a+(eH (s.drop a)).length)).drop a=eH (s.drop a):=by
 rw[JM,Y1];exact XU _
def RC(h:a<s.length):(s.take (a+1)).drop a=[s[a]]:=by
 rw[JM,Y1,kM h];rfl
def VW{l:List Tok}{at_:Nat}:∀(n i:Nat) (d:Int),at_<=i->i+n<=l.length->at_<l.length->at_<=ir l at_ n i d/\ir l at_ n i d<l.length
 | 0,i,d,_,_,h=>⟨b7 _,h⟩
 | n + 1, i, d, h1, h2, h3 => by
  simp only[ir];generalize (d+(if closing (ei l i)≠0 then 1 else 0)) - (if lv (ei l i)=aa then 1 else 0)=e;split
  .exact⟨h1,by omega⟩
  .exact VW n (i+1) _ (by omega) (by omega) h3
variable{i:Nat}
def FR{l:List Tok}(h:i<l.length):i<=partner l i/\partner l i<l.length:=VW _ _ _ (b7 _) (by omega) h
def KN(l:List Tok):∀(n i:Nat) (o:List Nat),i+n<=l.length->(∀j∈o,j<l.length)->lz l n i o<l.length\/lz l n i o = -1
 | 0, i, o, _, ho => by
  simp only[lz];cases h:o.getLast? with
  | none=>exact .inr rfl
  | some j=>exact .inl (by have:=ho j (List.mem_of_getLast? h);simp only;omega)
 | n + 1, i, o, hi, ho => by
  have pT:∀j∈(if closing (ei l i)≠0 then o++[i] else o),j<l.length:=λj hj=>by
   split at hj
   .rcases jv.1 hj with h | h
    .exact ho j h
    .simp at h;omega
   .exact ho j hj
  simp only[lz];generalize (if closing (ei l i)≠0 then o++[i] else o)=o2 at pT ⊢;split
  .exact .inl (by omega)
  .split
   .cases h:o2.getLast? with
    | none=>exact .inl (by simp only;omega)
    | some j =>
     simp only;split
     .exact KN l n (i+1) _ (by omega) λk hk=>pT k (List.dropLast_subset _ hk)
     .exact .inl (by omega)
   .exact KN l n (i+1) o2 (by omega) pT
def Ij:∀(n p:Nat) (r:List UInt8) (acc:List Tok),r.length<=n->(gQ n p r acc).1.length<=acc.length+r.length
 | 0,_,r,acc,_=>by cases r<;>simp[gQ]
 | n+1,p,[],acc,_=>by simp[gQ]
 | n + 1, p, c :: r, acc, h => by
  simp only[gQ];have hr:=W2 (c::r);simp only[da] at h hr ⊢;split
  .simp only;omega
  .split
   .rename_i h1
    have:=Ij n (p+(eH (c::r)).length) ((c::r).drop (eH (c::r)).length) (acc++[⟨97,eH (c::r),p⟩]) (by simp;omega)
    simp at this;omega
   .split
    .have:=Ij n (p+1) r (acc++[⟨(c.toNat:Nat),[c],p⟩]) (by omega)
     simp at this;omega
    .split
     .have:=Ij n (p+1) r acc (by omega);omega
     .simp
def Nw(s:List UInt8):(fI s).1.length<=s.length:=by
 have:=Ij s.length 0 s [] (b7 _)
 simpa [fI] using this
def cC:List (List UInt8)->List UInt8
 | []=>[]
 | x::xs=>x++xs.flatMap λy=>44::y
def Nb(l:List (List UInt8))(y:List UInt8):cC (l++[y])=cC l++(if 0<l.length then [44] else [])++y:=by
 cases l with
 | nil=>simp[cC]
 | cons x xs=>simp[cC]
def Un:∀l:List (List UInt8),(cC l).length<=(l.map λx=>x.length+1).sum
 | []=>by simp[cC]
 | x :: xs => by
  simp only[cC,bW,List.length_flatMap,dz,rh]
  have:(xs.map λy=>(44::y).length)=xs.map λx=>x.length+1:=by simp
  rw[this];omega
def kg(ws:List aF):List UInt8:=cC (ws.map aF.ar)
def mI:List (List UInt8)->List UInt8
 | []=>[]
 | x::_=>x
mutual
def Nd.dS:Nd->List UInt8
 | .mk k _ t ws ks =>
  if k=1\/k=2 then t
  else if k=3 then [123]++kg ws++[125]
  else if k=4 then [40]++cC (fg ks)++[41]
  else if k=5 then [91]++cC (fg ks)++[93]
  else if k=6 then t++[58,123]++kg ws++[125]
  else if k=7 then [35]++mI (fg ks)
  else if k=8 then [43,40]++cC (fg ks)++[41]
  else if k=9 then [38,40]++cC (fg ks)++[41]
  else if k=10 then([91]++cC (fg ks))++(if 0<ws.length then [124]++kg ws else [])++[93]
  else if k=11 then t++[61]++mI (fg ks)
  else []
def fg:List Nd->List (List UInt8)
 | []=>[]
 | n::ns=>n.dS::fg ns
end
def BU:∀l,fg l=l.map Nd.dS
 | []=>rfl
 | n::ns=>by simp[fg,BU ns]
def eK(ws:List aF):Nat:=(ws.map λw=>w.ar.length+1).sum
mutual
def Nd.wt:Nd->Nat
 | .mk _ _ t ws ks=>t.length+eK ws+fq ks+4
def fq:List Nd->Nat
 | []=>0
 | n::ns=>n.wt+1+fq ns
end
def Gl:∀l,fq l=(l.map λn=>n.wt+1).sum
 | []=>rfl
 | n::ns=>by simp[fq,Gl ns]
def D1(ws:List aF):(kg ws).length<=eK ws:=by
 have:=Un (ws.map aF.ar)
 simpa [kg,eK,List.map_map,Gq] using this
def D0{l:List Nd}{n:Nd}(h:n∈l):n.wt+1<=fq l:=by
 induction l with
 | nil=>simp at h
 | cons m ms ih =>
  rcases pz.1 h with rfl | h
  .simp only[fq];omega
  .have:=ih h;simp only[fq];omega
def Fu:∀(l:List Nd),(∀n∈l,n.dS.length<=n.wt)->(cC (fg l)).length<=fq l:=λl h=>by
 refine vK (Un _) ?_;rw[BU,Gl,List.map_map];induction l with
 | nil=>simp
 | cons n ns ih =>
  simp only[dz,rh,Function.comp];have h1:=h n (by simp);have h2:=ih λm hm=>h m (by simp[hm])
  omega
def LN(l:List Nd)(h:∀n∈l,n.dS.length<=n.wt):(mI (fg l)).length<=fq l:=by
 cases l with
 | nil=>simp[fg,mI]
 | cons n ns=>have:=h n (by simp);simp only[fg,mI,fq];omega
mutual
def X4:∀(n:Nd),n.dS.length<=n.wt
 | .mk k p t ws ks => by
  have h1:=D1 ws;have h2:=Fu ks (vw ks);have h3:=LN ks (vw ks);simp only[Nd.dS,Nd.wt]
  repeat' split
  all_goals (try simp only[bW,da,cZ])
  all_goals omega
def vw:∀(l:List Nd),∀n∈l,n.dS.length<=n.wt
 | [],n,h=>by simp at h
 | m :: ms, n, h => by
  rcases pz.1 h with h | h
  .rw[h];exact X4 m
  .exact vw ms n h
end
def xr:List V:=aj 8 (.int .u64 0)
def u0:List V:=.int .i64 0::.int .i64 0::xr
def dh(l:List (List UInt8)):List (List V):=l.map λs=>[.aH s]
variable{Y:Type}
def jS{l:List Y}{d:Y}(h:i<l.length):l.getD i d=l[i]:=by simp[h]
def iH(l:List (List UInt8)):(dh l).length=l.length:=by simp[dh]
def BN{l:List (List UInt8)}(h:j<l.length):(dh l)[((j:Nat):Int).toNat]?=U [.aH (l.getD j [])]:=by simp[dh,h]
def Xe{l:List (List UInt8)}:(dh l).take j=dh (l.take j):=by simp[dh,List.map_take]
def bY:Option Nat->Int
 | some k=>k
 | none=>-1
def dt(l:List (List UInt8))(s:List UInt8):Option Nat:=(bG l.length).find? λi=>decide (l.getD i []=s)
def Ab(l:List (List UInt8)):Option Nat:=(bG l.length).find? λi=>(dt (l.take i) (l.getD i [])).isSome
section
variable {l:List (List UInt8)} {s:List UInt8} {i:Nat}
def Iv{o:Option Nat}:decide (0<=bY o)=o.isSome:=by
 cases o with
 | none=>rfl
 | some k=>exact aB (by simp only[bY];omega)
def wK{o:Option Nat}:decide (bY o<0)=o.isNone:=by
 cases o with
 | none=>rfl
 | some k=>exact az (by simp only[bY];omega)
def y3{p:Nat->Bool}(h:(bG n).find? p=U k):k<n/\p k=aa/\∀j,j<k->p j=false:=by
 refine⟨by simpa using YW h,by simpa using List.find?_some h,λj hj=>?_⟩;obtain⟨_,as,bs,h2,h3⟩:=Gw.1 h;have hl:as.length=k:=by
  have:=jR (λl:List Nat=>l[as.length]?) h2
  simp only[B' (b7 _),Nat.sub_self,Gx] at this;rw[JQ] at this
  .simpa using this
  .have:=jR List.length h2;simp at this;omega
 have gF : j∈as:=by
  have:=jR (λl:List Nat=>l[j]?) h2
  rw[sc (by omega),JQ (by have:=jR List.length h2;simp at this;omega)] at this;exact tq this.symm
 have:=h3 j gF
 simpa using this
def KS{p:Nat->Bool}:((bG n).find? p).isSome=aa↔∃k,k<n/\p k=true:=by
 rw[List.find?_isSome];simp
def Sj(hi:i<l.length):(dt (l.take i) (l.getD i [])).isSome=decide (bY (dt l (l.getD i []))<(i:Nat)):=by
 rw[qp,dt,KS,AB];have an:(l.take i).length=i:=by rw[iu];omega
 have rD:∀k,k<i->(l.take i).getD k []=l.getD k []:=λk hk=>by simp[gy,yG hk]
 rw[an];have hs:∃m,dt l (l.getD i [])=U m:=by
  have:=(KS (p:=λk=>decide (l.getD k []=l.getD i [])) (n:=l.length)).2 ⟨i,hi,by simp⟩
  exact J1.1 this
 obtain⟨m,hm⟩:=hs;have qH := y3 hm;rw[hm];simp only[bY,eb] at qH ⊢;constructor
 .rintro⟨k,h1,h2⟩;rw[rD k h1] at h2
  have:¬k<m:=λhc=>absurd (qH.2.2 k hc) (by rw[h2];simp)
  omega
 .intro h;exact⟨m,by omega,by rw[rD m (by omega)];exact qH.2.1⟩
end
def lH(l:List (List UInt8)):Bool:=decide (1<=l.length)&&decide (l.length<=64)&&(Ab l).isNone&&l.all dO
structure bn where
 kind:Int
 al:List (List UInt8)
 rel:Rl
def bn.enc(f:bn):List V:=.int .i64 f.kind::.sl .no 1 (dh f.al)::f.rel.enc
def bn.zero:bn:=⟨0,[],.zero⟩
section
variable {f g:bn} {m:Nat}
def bn.dj:f.enc.length=67:=by simp[bn.enc,Rl.dj]
def bn.gH:c8 f.enc=true:=by simp[bn.enc,c8,V.one,Rl.gH]
def bn.dL:bS f.enc=true:=by simp[bn.enc,bS,V.cM,Rl.dL]
def bn.dy:aZ f.enc=f.enc:=by simp[bn.enc,aZ,V.erase,Rl.dy]
def bn.bP:bK m f.enc=true:=by simp[bn.enc,bK,V.lo,Rl.bP]
def bn.fO:takeN 67 f.enc=U f.enc:=by have:=z_ (c:=f.enc);rwa [bn.dj] at this
def bn.iF:bX aa 67 f.enc=U (.agg f.enc):=by rw[Bs,bn.fO];rfl
def bn.gT:cB 67 f.enc=true:=by have:=za (c:=f.enc);rwa [bn.dj] at this
def bn.gx:over g.enc f.enc=f.enc:=vh (by rw[bn.dj,bn.dj])
theorem bn.Oq:bX aq 1 f.enc=U (.int .i64 f.kind):=rfl
theorem bn.r_s:bX aq 1 (f.enc.drop 1)=U (.sl .no 1 (dh f.al)):=rfl
theorem bn.vl:bX aq 1 (f.enc.drop 2)=U (.int .i64 f.rel.n):=rfl
def bn.r_r:bX aa 65 (f.enc.drop 2)=U (.agg f.rel.enc):=by
 show bX aa 65 f.rel.enc=_;exact Rl.iF
def bn.aqt:takeN 65 (f.enc.drop 2)=U f.rel.enc:=by
 show takeN 65 f.rel.enc=_;exact Rl.fO
def bn.YH:over rp f.enc=f.enc:=vh (by rw[bn.dj];rfl)
theorem bn.avb:cB 67 rp=true:=rfl
def bn.zlo:bK m rp=true:=by
 have:rp = .int .i64 0::.sl .a9 1 []::Rl.zero.enc:=by rw[<-Rl.yc];rfl
 rw[this];simp[bK,V.lo,Rl.bP]
def bn.ak:=af @bn.dj <| af @bn.gH <| af @bn.dL <| af @bn.dy <| af @bn.bP <| af @bn.fO <| af @bn.iF <| af @bn.gT <| af @bn.gx <| af @bn.Oq <| af @bn.r_s <| af @bn.vl <| af @bn.r_r <| af @bn.aqt <| af @bn.YH <| af @bn.avb @bn.zlo
end
structure bJ where
 tuple:Bool
 bB:List bn
def bJ.enc(s:bJ):List V:=[.bool s.tuple,.sl .no 67 (s.bB.map bn.enc)]
section
variable {s:bJ} {g:Bool} {n:Nat} {a b:V}
theorem bJ.dj:s.enc.length=2:=rfl
theorem bJ.gH:c8 s.enc=true:=rfl
theorem bJ.dL:bS s.enc=true:=rfl
theorem bJ.dy:aZ s.enc=s.enc:=rfl
theorem bJ.bP:bK n s.enc=true:=rfl
theorem bJ.fO:takeN 2 s.enc=U s.enc:=rfl
theorem bJ.iF:bX aa 2 s.enc=U (.agg s.enc):=rfl
theorem bJ.gT:cB 2 s.enc=true:=rfl
theorem bJ.gx:over [a,b] s.enc=s.enc:=rfl
theorem bJ.Ou:bX aq 1 s.enc=U (.bool s.tuple):=rfl
theorem bJ.FX:bX aq 1 (s.enc.drop 1)=U (.sl .no 67 (s.bB.map bn.enc)):=rfl
def bJ.ak:=af @bJ.dj <| af @bJ.gH <| af @bJ.dL <| af @bJ.dy <| af @bJ.bP <| af @bJ.fO <| af @bJ.iF <| af @bJ.gT <| af @bJ.gx <| af @bJ.Ou @bJ.FX
end
def bJ.ok(s:bJ):Prop:=s.bB.length<=100000/\∀f∈s.bB,f.al.length<=100000
def jy(f:bn):Bool:=lH f.al &&
 (if f.kind=1\/f.kind=2 then decide (bm f.rel=0) else if f.kind=3 then decide (f.rel.n=f.al.length)&&jT f.rel else if f.kind=4 then decide (f.rel.n=f.al.length)&&ky f.rel else aq)
def kJ(s:bJ):Bool:=decide (1<=s.bB.length)&&decide (s.bB.length<=8)&&(s.tuple||decide (s.bB.length=1))&&s.bB.all jy
def V5{r:Rl}:decide (kB r=kB Rl.zero)=decide (bm r=0):=by
 apply rn.2;have hz:bm Rl.zero=0:=by simp[bm,Rl.zero]
 constructor
 .intro h;have:=(V4.1 h).1;rw[this,hz]
 .intro h;rw[RR h,RR hz]
structure bp where
 w:List bu
 len:w.length=8
def bp.ext'{a b:bp}(h:a.w=b.w):a=b:=by cases a;cases b;simp only at h;subst h;rfl
instance:DecidableEq bp:=λa b=>if h:a.w=b.w then isTrue (bp.ext' h) else isFalse λe=>h (e▸rfl)
def bp.enc(e:bp):List V:=gq e.w
def bp.zero:bp:=⟨aj 8 0#64,by simp⟩
def bp.get(e:bp)(i:Nat):bu:=e.w.getD i 0#64
def bp.put(e:bp)(i:Nat)(w:bu):bp:=⟨e.w.set i w,by simp[e.len]⟩
def bp.of(f:Nat->bu):bp:=⟨(bG 8).map f,by simp⟩
section
variable {e d:bp} {i m:Nat} {w:bu} {f:Nat->bu}
def bp.CN:(e.put i w).get j=if i=j/\i<8 then w else e.get j:=by
 simp only[bp.get,bp.put,gy,List.getElem?_set,e.len]
 by_cases h:i=j
 .subst h
  by_cases h2:i<8
  .simp[h2]
  .simp[h2,e.len]
 .simp[h]
def bp.nj(h:i<8):(bp.of f).get i=f i:=by simp[bp.get,bp.of,gy,h]
def bp.ext(k:∀i,i<8->e.get i=d.get i):e=d:=by
 refine bp.ext' (P8 (by rw[e.len,d.len]) λi h1 h2=>?_)
 have:=k i (by rw[e.len] at h1;exact h1)
 simpa [bp.get,gy,h1,h2] using this
def bp.dj:e.enc.length=8:=by simp[bp.enc,Hb,e.len]
def bp.gH:c8 e.enc=true:=RZ
def bp.dL:bS e.enc=true:=RY
def bp.dy:aZ e.enc=e.enc:=RU
def bp.bP:bK m e.enc=true:=RX
def bp.fO:takeN 8 e.enc=U e.enc:=by have:=z_ (c:=e.enc);rwa [bp.dj] at this
def bp.iF:bX aa 8 e.enc=U (.agg e.enc):=by rw[Bs,bp.fO];rfl
def bp.gT:cB 8 e.enc=true:=by have:=za (c:=e.enc);rwa [bp.dj] at this
def bp.gx:over d.enc e.enc=e.enc:=vh (by rw[bp.dj,bp.dj])
def bp.yc:xr=bp.zero.enc:=by rw[bp.enc,gq,bp.zero,List.map_replicate];rfl
def bp.qX:gd [1,1,1,1,1,1,1,1] e.enc d.enc=U (decide (e=d)):=by
 show gd (aj 8 1) (gq e.w) (gq d.w)=_;rw[RT e.len d.len];congr 1;exact rn.2 ⟨bp.ext',λh=>h▸rfl⟩
def bp.wY(h:i<8):cB 1 (e.enc.drop i)=true:=RW (by rw[e.len];exact h)
def bp.w7(h:i<8):setAt e.enc i [.int .u64 (w.toNat:Nat)]=(e.put i w).enc:=R0 (by rw[e.len];exact h)
def bp.fill:(bp.of λj=>if j<i then f j else 0#64).put i (f i)=bp.of λj=>if j<i+1 then f j else 0#64:=by
 refine bp.ext λk hk=>?_
 rw[bp.CN,bp.nj hk,bp.nj hk]
 by_cases h:i=k
 .subst h;simp[hk]
 .rw[aw (by omega)]
  by_cases h2:k<i
  .rw[aI h2,aI (by omega)]
  .rw[aw h2,aw (by omega)]
def bp.YG:bp.zero=bp.of λ_=>0#64:=by
 refine bp.ext λi hi=>?_
 rw[bp.nj hi];simp only[bp.get,bp.zero,gy,YT,hi,cH,xf]
def bp.ak:=af @bp.dj <| af @bp.gH <| af @bp.dL <| af @bp.dy <| af @bp.bP <| af @bp.fO <| af @bp.iF <| af @bp.gT <| af @bp.gx <| af @bp.yc @bp.qX
end
def ak0(s:bJ)(a b:bp)(i:Nat):bu :=
 match s.bB[i]? with
 | some f=>if f.kind=4 then aqA f.rel (a.get i) (b.get i) else a.get i|||b.get i
 | none=>a.get i|||b.get i
def akZ(s:bJ)(a b:bp):bp:=bp.of (ak0 s a b)
def amV(a b:bp):bp:=bp.of λi=>a.get i&&&b.get i
def je(ws:List aF):Bool:=ws.all λw=>dO w.ar
def Nd.rM(n:Nd):Bool:=dO n.ar&&decide ((n.al.length:Int)+n.ae.length=0)
def Nd.nh(n:Nd):Bool:=decide (n.ar=[])&&decide ((n.al.length:Int)=0)
def Nd.pj(n:Nd):Bool:=decide (n.kind=6)&&dO n.ar&&je n.al&&decide ((n.ae.length:Int)=0)
mutual
def Nd.gp:Nd->Bool
 | .mk k p t ws ks =>
  if k=2 then(Nd.mk k p t ws ks).rM
  else if k=3 then decide (t=[])&&je ws&&decide ((ks.length:Int)=0)
  else if k=4 then(Nd.mk k p t ws ks).nh&&decide ((0:Int)<ks.length)&&G9 ks
  else if k=5 then(Nd.mk k p t ws ks).nh&&ks.all Nd.pj
  else aq
def G9:List Nd->Bool
 | []=>aa
 | n::ns=>n.gp&&G9 ns
end
def RB:∀l,G9 l=l.all Nd.gp
 | []=>rfl
 | n::ns=>by simp[G9,RB ns]
def Nd.Cx(n:Nd):n.gp=if n.kind=2 then n.rM else if n.kind=3 then decide (n.ar=[])&&je n.al&&decide ((n.ae.length:Int)=0)
 else if n.kind=4 then n.nh&&decide ((0:Int)<n.ae.length)&&n.ae.all Nd.gp else if n.kind=5 then n.nh&&n.ae.all Nd.pj else false:=by
 cases n;rw[<-RB];rw[Nd.gp];rfl
def sG(f:Nd->Bool):List Nd->Bool
 | []=>aq
 | n::_=>f n
mutual
def Nd.ff:Nd->Bool
 | .mk k p t ws ks =>
  if k=1 then(Nd.mk k p t ws ks).rM
  else if k=7 then(Nd.mk k p t ws ks).nh&&decide ((ks.length:Int)=1)&&sG Nd.gp ks
  else if k=8\/k=9 then(Nd.mk k p t ws ks).nh&&decide ((0:Int)<ks.length)&&Ie ks
  else aq
def Ie:List Nd->Bool
 | []=>aa
 | n::ns=>n.ff&&Ie ns
end
def Ux:∀l,Ie l=l.all Nd.ff
 | []=>rfl
 | n::ns=>by simp[Ie,Ux ns]
def Nd.u4(n:Nd):n.ff=if n.kind=1 then n.rM else if n.kind=7 then n.nh&&decide ((n.ae.length:Int)=1)&&sG Nd.gp n.ae
 else if n.kind=8\/n.kind=9 then n.nh&&decide ((0:Int)<n.ae.length)&&n.ae.all Nd.ff else false:=by
 cases n;rw[<-Ux];rw[Nd.ff];rfl
def Nd.sk(n:Nd):Bool:=(decide (n.kind=1)||decide (n.kind=7))&&n.ff
def Nd.j8(n:Nd):Bool:=decide (n.kind=11)&&dO n.ar&&decide ((n.al.length:Int)=0)&&decide ((n.ae.length:Int)=1)&&sG Nd.sk n.ae
def Nd.kH(n:Nd):Bool :=
 if n.kind=10 then decide (n.ar=[])&&decide ((n.al.length:Int)<=1)&&je n.al&&n.ae.all Nd.j8 else decide (n.kind=1)&&n.ff
def ln:List aF->List aF->Bool
 | [],[]=>aa
 | w::ws,u::us=>decide (w.ar=u.ar)&&ln ws us
 | _,_=>aq
mutual
def Nd.mo:Nd->Nd->Bool
 | .mk k _ t ws ks,n=>decide (k=n.kind)&&decide (t=n.ar)&&ln ws n.al&&kI ks n.ae
def kI:List Nd->List Nd->Bool
 | [],[]=>aa
 | n::ns,m::ms=>n.mo m&&kI ns ms
 | _,_=>aq
end
def Nd.Xf(n m:Nd):n.mo m=(decide (n.kind=m.kind)&&decide (n.ar=m.ar)&&ln n.al m.al&&kI n.ae m.ae):=by cases n;rw[Nd.mo];rfl
def Xg:∀l,ln l l=aa
 | []=>rfl
 | w::ws=>by simp[ln,Xg ws]
mutual
def Nd.I4:∀n:Nd,n.mo n=aa
 | .mk k p t ws ks=>by simp[Nd.mo,Nd.kind,Nd.ar,Nd.al,Nd.ae,Xg,Xj ks]
def Xj:∀l:List Nd,kI l l=aa
 | []=>by simp[kI]
 | n::ns=>by simp[kI,Nd.I4 n,Xj ns]
end
def OP:∀{a b:List aF},ln a b=aa->a.length=b.length
 | [],[],_=>rfl
 | [],_::_,h=>by simp[ln] at h
 | _::_,[],h=>by simp[ln] at h
 | _::ws,_::us,h=>by simp only[ln,b_] at h;simp[OP h.2]
def OS:∀{a b:List Nd},kI a b=aa->a.length=b.length
 | [],[],_=>rfl
 | [],_::_,h=>by simp[kI] at h
 | _::_,[],h=>by simp[kI] at h
 | _::ws,_::us,h=>by simp only[kI,b_] at h;simp[OS h.2]
def OO:∀{a b:List aF} {i:Nat} (ha:i<a.length) (hb:i<b.length),a.length=b.length->ln (a.take i) (b.take i)=aa->ln (a.take (i+1)) (b.take (i+1))=decide (a[i].ar=b[i].ar)/\(decide (a[i].ar=b[i].ar)=aq->ln a b=aq)
 | w::ws,u::us,0,_,_,_,_=>by simp[ln];intro h1 h2;exact absurd h2 h1
 | w :: ws, u :: us, i + 1, ha, hb, hl, h => by
  simp only[vI,ln,b_] at h ⊢
  have:=OO (a:=ws) (b:=us) (i:=i) (by simpa using ha) (by simpa using hb) (by simpa using hl) h.2
  simp only[h.1,gJ,Gy];exact this
 | [],_,_,ha,_,_,_=>by simp at ha
 | _::_,[],_,_,hb,_,_=>by simp at hb
def OR:∀{a b:List Nd} {i:Nat} (ha:i<a.length) (hb:i<b.length),a.length=b.length->kI (a.take i) (b.take i)=aa->kI (a.take (i+1)) (b.take (i+1))=a[i].mo b[i]/\(a[i].mo b[i]=aq->kI a b=aq)
 | w::ws,u::us,0,_,_,_,_=>by simp[kI];intro h1 h2;rw[h1] at h2;simp at h2
 | w :: ws, u :: us, i + 1, ha, hb, hl, h => by
  simp only[vI,kI,b_] at h ⊢
  have:=OR (a:=ws) (b:=us) (i:=i) (by simpa using ha) (by simpa using hb) (by simpa using hl) h.2
  simp only[h.1,gJ,Gy];exact this
 | [],_,_,ha,_,_,_=>by simp at ha
 | _::_,[],_,_,hb,_,_=>by simp at hb
def qz(o:Option Int):List V:=[.bool o.isSome,.int .i64 (o.getD 0)]
def mG(o:Option Int):List V:=[.int .i64 (if o.isSome then 4 else 0),.int .i64 (o.getD 0)]
def xz(g:bu × Option Int):List V:=[.int .u64 (g.1.toNat:Nat),.bool g.2.isSome,.int .i64 (g.2.getD 0)]
def gG(l:List (List UInt8))(s:bu):List aF->bu × Option Int
 | []=>(s,ah)
 | w::ws=>match dt l w.ar with | none=>(0#64,U w.pos) | some k=>gG l (j5 s (k:Nat)) ws
def V7{l:List (List UInt8)}{p:Int}:∀{ws:List aF} {s:bu},(gG l s ws).2=U p->gG l s ws=(0#64,U p)
 | [],s,h=>by simp[gG] at h
 | w :: ws, s, h => by
  simp only[gG] at h ⊢;split
  .rename_i hf;rw[hf] at h;simp only at h;rw[h]
  .rename_i k hf;rw[hf] at h;exact V7 h
def vn(f:bn)(s:bu):List Nd->bu × Option Int
 | []=>(s,ah)
 | k :: ks => match dt f.al k.ar with
  | none=>(0#64,U k.pos)
  | some o => match (gG f.al 0#64 k.al).2 with
   | some p=>(0#64,U p)
   | none=>vn f (s|||s4 f.rel o (gG f.al 0#64 k.al).1) ks
def qZ(f:bn)(s:bu)(aQ:Option Int):List Nd->bu × Option Int
 | []=>(s,aQ)
 | k :: ks => match dt f.al k.ar with
  | none=>(0#64,aQ.or (U k.pos))
  | some o=>qZ f (s|||s4 f.rel o (gG f.al 0#64 k.al).1) (aQ.or (gG f.al 0#64 k.al).2) ks
def OH{f:bn}{p:Int}:∀{ks:List Nd} {s:bu},(qZ f s (U p) ks).2=U p
 | [],_=>rfl
 | k :: ks, s => by
  simp only[qZ];split
  .rfl
  .exact OH
def WZ{f:bn}:∀{ks:List Nd} {s:bu},(qZ f s ah ks).2=(vn f s ks).2/\((vn f s ks).2=ah->(qZ f s ah ks).1=(vn f s ks).1)
 | [],_=>⟨rfl,λ_=>rfl⟩
 | k :: ks, s => by
  simp only[qZ,vn];split
  .exact⟨rfl,λh=>by simp at h⟩
  .split
   .rename_i o _ p hp;rw[hp];exact⟨OH,λh=>by simp at h⟩
   .rename_i hp;rw[hp];exact WZ
def pf(f:bn)(n:Nd):bu × Option Int :=
 match dt f.al n.ar with
 | none=>(0#64,U n.pos)
 | some k=>(if f.kind=4 then rk f.rel k else(s5 (f.al.length:Nat) (k:Nat)).1,ah)
def sR(f:bn):Int:=if f.kind=2 then 3 else if f.kind=3 then 5 else 2
def px(f:bn)(n:Nd):bu × Option Int :=
 if n.kind=sR f then(if f.kind=2 then gG f.al 0#64 n.al else if f.kind=3 then vn f 0#64 n.ae else pf f n) else(0#64,U n.pos)
def mS(f:bn)(n:Nd)(aQ:Option Int):bu × Option Int :=
 if n.kind=sR f then(if f.kind=2 then((gG f.al 0#64 n.al).1,aQ.or (gG f.al 0#64 n.al).2) else if f.kind=3 then qZ f 0#64 aQ n.ae else((pf f n).1,aQ.or (pf f n).2)) else(0#64,aQ.or (U n.pos))
def Yv{f:bn}{n:Nd}{p:Int}:(mS f n (U p)).2=U p:=by
 unfold mS;split
 .split
  .rfl
  .split
   .exact OH
   .rfl
 .rfl
def auT{f:bn}{n:Nd}:(mS f n ah).2=(px f n).2/\((px f n).2=ah->(mS f n ah).1=(px f n).1):=by
 unfold mS px;split
 .split
  .simp
  .split
   .exact WZ
   .simp
 .simp
def gS:Nd:=.mk 0 0 [] [] []
def kf(s:bJ)(ks:List Nd)(i:Nat):bu × Option Int:=px (s.bB.getD i .zero) (ks.getD i gS)
def AD(s:bJ)(ks:List Nd):bp × Option Int :=
 match (bG s.bB.length).find? λi=>(kf s ks i).2.isSome with
 | some i=>(.zero,(kf s ks i).2)
 | none=>(bp.of λj=>if j<s.bB.length then(kf s ks j).1 else 0#64,ah)
def iQ(s:bJ)(n:Nd):List Nd:=if s.tuple then n.ae else [n]
def pd(s:bJ)(n:Nd):Bool:=!s.tuple||(decide (n.kind=4)&&decide (n.ae.length=s.bB.length))
def gz(s:bJ)(n:Nd):bp × Option Int:=if pd s n&&kJ s&&n.gp then AD s (iQ s n) else(.zero,U n.pos)
def EG(s:bJ)(ks:List Nd)(i:Nat)(x:bp × Option Int):Prop :=
 (x.2=ah/\(∀k,k<i->(kf s ks k).2=ah)/\x.1=bp.of λj=>if j<i then(kf s ks j).1 else 0#64) \/
 (x.2.isSome=aa/\∃k,k<i/\(kf s ks k).2=x.2/\∀j,j<k->(kf s ks j).2=ah)
variable{ks:List Nd}
def ajn{s:bJ}:EG s ks 0 (.zero,ah):=.inl ⟨rfl,λk h=>by omega,bp.YG⟩
def ajm{s:bJ}{e:bp}{o:Option Int}(h:EG s ks i (e,o)):
 EG s ks (i+1) (e.put i (mS (s.bB.getD i .zero) (ks.getD i gS) o).1,(mS (s.bB.getD i .zero) (ks.getD i gS) o).2):=by
 rcases h with ⟨h1,h2,h3⟩ | ⟨h1,k,h2,h3,h4⟩
 .simp only at h1 h3;subst h1;subst h3;obtain⟨e1,e2⟩:=@auT (s.bB.getD i .zero) (ks.getD i gS);cases hb:(px (s.bB.getD i .zero) (ks.getD i gS)).2 with
  | none =>
   left;refine⟨by simp only;rw[e1,hb],λk hk=>?_,?_⟩
   .rcases Qm.1 hk with h | rfl
    .exact h2 k h
    .exact hb
   .simp only;rw[e2 hb];exact bp.fill (f:=λj=>(kf s ks j).1)
  | some p =>
   right;refine⟨by simp only;rw[e1,hb];rfl,i,by omega,by simp only;rw[e1];rfl,h2⟩
 .simp only at h1 h3;obtain⟨p,rfl⟩:=J1.1 h1;right;exact⟨by simp only;rw[Yv];rfl,k,by omega,by simp only;rw[Yv];exact h3,h4⟩
def K6{s:bJ}{x:bp × Option Int}(h:EG s ks s.bB.length x):AD s ks=if x.2.isSome then(.zero,x.2) else(x.1,ah):=by
 rcases h with ⟨h1,h2,h3⟩ | ⟨h1,k,h2,h3,h4⟩
 .have e:(bG s.bB.length).find? (λi=>(kf s ks i).2.isSome)=none:=by
   rw[Gv];intro i hi;rw[h2 i (by simpa using hi)];simp
  rw[AD,e,h1,h3];rfl
 .have e:(bG s.bB.length).find? (λi=>(kf s ks i).2.isSome)=U k:=by
   rw[Gw];refine⟨by rw[h3];exact h1,bG k,List.range' (k+1) (s.bB.length - (k+1)),?_,λa ha=>by rw[h4 a (by simpa using ha)];rfl⟩;rw[vH,vH,<-Eb]
   have:=Qi (s:=0) (m:=k) (n:=s.bB.length - k) (step:=1)
   simp only[xd,j7] at this;rw[show s.bB.length - (k+1)+1=s.bB.length - k by omega,this];congr 1;omega
  rw[AD,e,aI h1];simp only[h3]
def adp{s:bJ}{p:Int}(hi:i<s.bB.length)(h:∀k,k<i->(kf s ks k).2=ah)(hb:(kf s ks i).2=U p):AD s ks=(.zero,U p):=by
 have:=K6 (s:=s) (ks:=ks) (x:=(.zero,U p)) (.inr ⟨rfl,i,hi,hb,h⟩)
 rw[this];rfl
def adq{s:bJ}(h:∀k,k<s.bB.length->(kf s ks k).2=ah):AD s ks=(bp.of λj=>if j<s.bB.length then(kf s ks j).1 else 0#64,ah):=by
 have:=K6 (s:=s) (ks:=ks) (x:=(bp.of λj=>if j<s.bB.length then(kf s ks j).1 else 0#64,ah)) (.inl ⟨rfl,h,rfl⟩)
 rw[this];rfl
def adr{s:bJ}:(bp.of λj=>if j<i then(kf s ks j).1 else 0#64).put i (kf s ks i).1=bp.of λj=>if j<i+1 then(kf s ks j).1 else 0#64:=bp.fill (f:=λj=>(kf s ks j).1)
mutual
def Nd.cJ:Nd->Nat
 | .mk _ _ _ ws ks=>1+ws.length+gn ks
def gn:List Nd->Nat
 | []=>0
 | n::ns=>n.cJ+gn ns
end
def Rk:∀a b:List Nd,gn (a++b)=gn a+gn b
 | [],b=>by simp[gn]
 | x::xs,b=>by simp only[jN,gn,Rk xs b];omega
def Kr(l:List Nd)(i:Nat):gn (l.take i)<=gn l:=by
 have:=Rk (l.take i) (l.drop i)
 rw[pA] at this;omega
def aue(l:List aF):l.length<=eK l:=by
 unfold eK;induction l with
 | nil=>simp
 | cons w ws ih=>simp only[dz,rh,da];omega
mutual
def Cw:∀n:Nd,n.cJ<=n.wt
 | .mk k p t ws ks => by
  have:=Rq ks
  have:=aue ws
  simp only[Nd.cJ,Nd.wt];omega
def Rq:∀l:List Nd,gn l<=fq l
 | []=>by simp[gn,fq]
 | n :: ns => by
  have:=Cw n
  have:=Rq ns
  simp only[gn,fq];omega
end
structure fy where
 name:List UInt8
 shape:bJ
def fy.enc(l:fy):List V:=.aH l.name::l.shape.enc
structure eX where
 name:List UInt8
 kind:Int
 lat:Int
def eX.enc(v:eX):List V:=[.aH v.name,.int .i64 v.kind,.int .i64 v.lat]
structure aG where
 bt:List fy
 vars:List eX
def aG.enc(s:aG):List V:=[.sl .no 3 (s.bt.map fy.enc),.sl .no 3 (s.vars.map eX.enc)]
section
variable {l:fy} {v:eX} {s:aG} {n:Nat} {a b c:V}
theorem aG.dj:s.enc.length=2:=rfl
theorem aG.gH:c8 s.enc=true:=rfl
theorem aG.dL:bS s.enc=true:=rfl
theorem aG.dy:aZ s.enc=s.enc:=rfl
theorem aG.bP:bK n s.enc=true:=rfl
theorem aG.fO:takeN 2 s.enc=U s.enc:=rfl
theorem aG.iF:bX aa 2 s.enc=U (.agg s.enc):=rfl
theorem aG.gT:cB 2 s.enc=true:=rfl
theorem aG.gx:over [a,b] s.enc=s.enc:=rfl
theorem aG.Ot:bX aq 1 s.enc=U (.sl .no 3 (s.bt.map fy.enc)):=rfl
theorem aG.Ov:bX aq 1 (s.enc.drop 1)=U (.sl .no 3 (s.vars.map eX.enc)):=rfl
theorem eX.vl:bX aq 1 v.enc=U (.aH v.name):=rfl
theorem eX.Oq:bX aq 1 (v.enc.drop 1)=U (.int .i64 v.kind):=rfl
theorem eX.Ot:bX aq 1 (v.enc.drop 2)=U (.int .i64 v.lat):=rfl
theorem fy.vl:bX aq 1 l.enc=U (.aH l.name):=rfl
theorem fy.aqx:takeN 2 (l.enc.drop 1)=U l.shape.enc:=rfl
def aG.ak:=af @aG.dj <| af @aG.gH <| af @aG.dL <| af @aG.dy <| af @aG.bP <| af @aG.fO <| af @aG.iF <| af @aG.gT <| af @aG.gx <| af @aG.Ot <| af @aG.Ov <| af @eX.vl <| af @eX.Oq <| af @eX.Ot <| af @fy.vl @fy.aqx
end
structure bH where
 op:Int
 n:Int
 c:bp
def bH.enc(i:bH):List V:=.int .i64 i.op::.int .i64 i.n::i.c.enc
def bH.zero:bH:=⟨0,0,.zero⟩
def bH.ext'{a b:bH}(h1:a.op=b.op)(h2:a.n=b.n)(h3:a.c=b.c):a=b:=by cases a;cases b;simp only at h1 h2 h3;subst h1;subst h2;subst h3;rfl
instance:DecidableEq bH:=λa b=>if h:a.op=b.op/\a.n=b.n/\a.c=b.c then isTrue (bH.ext' h.1 h.2.1 h.2.2) else isFalse λe=>h (e▸⟨rfl,rfl,rfl⟩)
section
variable {i j:bH} {n:Nat} {x y:Int} {e:bp}
def bH.dj:i.enc.length=10:=by simp[bH.enc,bp.dj]
def bH.gH:c8 i.enc=true:=by simp[bH.enc,c8,V.one,bp.gH]
def bH.dL:bS i.enc=true:=by simp[bH.enc,bS,V.cM,bp.dL]
def bH.dy:aZ i.enc=i.enc:=by simp[bH.enc,aZ,V.erase,bp.dy]
def bH.bP:bK n i.enc=true:=by simp[bH.enc,bK,V.lo,bp.bP]
def bH.fO:takeN 10 i.enc=U i.enc:=by have:=z_ (c:=i.enc);rwa [bH.dj] at this
def bH.iF:bX aa 10 i.enc=U (.agg i.enc):=by rw[Bs,bH.fO];rfl
def bH.gT:cB 10 i.enc=true:=by have:=za (c:=i.enc);rwa [bH.dj] at this
def bH.gx:over j.enc i.enc=i.enc:=vh (by rw[bH.dj,bH.dj])
theorem bH.r_o:bX aq 1 i.enc=U (.int .i64 i.op):=rfl
theorem bH.vl:bX aq 1 (i.enc.drop 1)=U (.int .i64 i.n):=rfl
def bH.aqi:takeN 8 (i.enc.drop 2)=U i.c.enc:=by show takeN 8 i.c.enc=_;exact bp.fO
def bH.yc:u0=bH.zero.enc:=by
 show V.int .i64 0::V.int .i64 0::xr=_;rw[bp.yc];rfl
def bH.Z4:over i.enc [.int .i64 x]=(bH.mk x i.n i.c).enc:=by rw[bH.enc,qa,mP];rfl
theorem bH.Ek:cB 1 i.enc=true:=rfl
theorem bH.Z0:cB 1 (i.enc.drop 1)=true:=rfl
def bH.Kf:setAt i.enc 1 [.int .i64 x]=(bH.mk i.op x i.c).enc:=by rw[bH.enc,jZ,mr,qa,mP];rfl
def bH.Z1:cB 8 (i.enc.drop 2)=true:=by show cB 8 i.c.enc=aa;exact bp.gT
def bH.Ke:setAt i.enc 2 e.enc=(bH.mk i.op i.n e).enc:=by rw[bH.enc,jZ,jZ,mr,bp.gx];rfl
def bH.qX:gd [1,1,1,1,1,1,1,1,1,1] i.enc j.enc=U (decide (i=j)):=by
 rw[bH.enc,bH.enc,yY,yY,bp.qX,xm,xm];congr 1;rw[<-yA,<-yA];exact rn.2 ⟨λh=>bH.ext' h.1 h.2.1 h.2.2,λh=>h▸⟨rfl,rfl,rfl⟩⟩
def bH.ak:=af @bH.dj <| af @bH.gH <| af @bH.dL <| af @bH.dy <| af @bH.bP <| af @bH.fO <| af @bH.iF <| af @bH.gT <| af @bH.gx <| af @bH.r_o <| af @bH.vl <| af @bH.aqi <| af @bH.yc <| af @bH.Z4 <| af @bH.Ek <| af @bH.Z0 <| af @bH.Kf <| af @bH.Z1 <| af @bH.Ke @bH.qX
end
def Dr(l:List fy)(t:List UInt8)(i:Nat):Bool:=match l[i]? with | some x=>decide (x.name=t) | none=>aq
def Ds(l:List eX)(t:List UInt8)(i:Nat):Bool:=match l[i]? with | some x=>decide (x.name=t) | none=>aq
def fu(l:List fy)(t:List UInt8):Option Nat:=(bG l.length).find? (Dr l t)
def iw(l:List eX)(t:List UInt8):Option Nat:=(bG l.length).find? (Ds l t)
def ra(s:aG)(lat:Nat)(t:List UInt8):Option bH :=
 match iw s.vars t with
 | none=>ah
 | some k => match s.vars[k]? with
  | some v=>if v.kind=1/\v.lat=(lat:Nat) then U ⟨1,k,.zero⟩ else ah
  | none=>ah
def wS(s:aG)(lat:Nat):bJ:=match s.bt[lat]? with | some l=>l.shape | none=>⟨aq,[]⟩
def p7(s:aG)(lat:Nat)(n:Nd):Option bH :=
 if n.kind=1 then ra s lat n.ar
 else match (gz (wS s lat) (n.ae.getD 0 gS)).2 with | none=>U ⟨2,0,(gz (wS s lat) (n.ae.getD 0 gS)).1⟩ | some _=>ah
def rP(n:Nd):bH:=⟨if n.kind=9 then 4 else 3,n.ae.length,.zero⟩
mutual
def ly(s:aG)(lat:Nat):Nd->Option (List bH)
 | .mk k p t ws ks=>if k=1\/k=7 then(p7 s lat (.mk k p t ws ks)).map λi=>[i] else(lV s lat ks).map λl=>l++[rP (.mk k p t ws ks)]
def lV(s:aG)(lat:Nat):List Nd->Option (List bH)
 | []=>U []
 | n::ns=>match ly s lat n with | none=>ah | some l=>(lV s lat ns).map λm=>l++m
end
variable{lat:Nat}
def G7{s:aG}(n:Nd):ly s lat n=if n.kind=1\/n.kind=7 then(p7 s lat n).map λi=>[i] else(lV s lat n.ae).map λl=>l++[rP n]:=by
 cases n;rw[ly];rfl
def lW(s:aG)(lat:Int)(n:Nd):Option (List bH):=if 0<=lat/\lat<s.bt.length/\n.ff=aa then ly s lat.toNat n else ah
def BL(s:aG)(lat:Nat)(f:Nd × Nat):Option (List bH) :=
 if f.1.kind=1\/f.1.kind=7 then(p7 s lat f.1).map λi=>[i] else(lV s lat (f.1.ae.drop f.2)).map λl=>l++[rP f.1]
def WB{s:aG}{n:Nd}:BL s lat (n,0)=ly s lat n:=by rw[BL,G7];simp
def tD(s:aG)(lat:Nat):List (Nd × Nat)->List bH->Option (List bH)
 | [],out=>U out
 | f::fs,out=>match BL s lat f with | none=>ah | some l=>tD s lat fs (out++l)
variable{d:Nat}
def aqP{s:aG}{n:Nd}{fs:List (Nd × Nat)}{out:List bH}(h:¬(n.kind=1\/n.kind=7))(hd:d<n.ae.length):
 tD s lat ((n,d)::fs) out=tD s lat ((n.ae[d],0)::(n,d+1)::fs) out:=by
 simp only[tD,WB];rw[BL,aw h,BL,aw h,kM hd,lV];cases ly s lat n.ae[d] with
 | none=>rfl
 | some l =>
  cases lV s lat (n.ae.drop (d+1)) with
  | none=>rfl
  | some m=>simp only[uz,fP]
def aqO{s:aG}{n:Nd}{fs:List (Nd × Nat)}{out:List bH}(h:¬(n.kind=1\/n.kind=7))(hd:n.ae.length<=d):
 tD s lat ((n,d)::fs) out=tD s lat fs (out++[rP n]):=by
 simp only[tD];rw[BL,aw h,Gu hd,lV];rfl
def aqQ{s:aG}{n:Nd}{fs:List (Nd × Nat)}{out:List bH}(h:n.kind=1\/n.kind=7):
 tD s lat ((n,d)::fs) out=match p7 s lat n with | none=>ah | some i=>tD s lat fs (out++[i]):=by
 simp only[tD];rw[BL,aI h];cases p7 s lat n<;>rfl
def qR:List (Nd × Nat)->Nat
 | []=>0
 | f::fs=>2*gn (f.1.ae.drop f.2)+1+qR fs
def Nd.so(n:Nd):1+gn n.ae<=n.cJ:=by cases n;simp only[Nd.cJ,Nd.ae];omega
def U'{n:Nd}{fs:List (Nd × Nat)}(hd:d<n.ae.length):qR ((n.ae[d],0)::(n,d+1)::fs)<qR ((n,d)::fs):=by
 simp only[qR,JN]
 have:=Nd.so n.ae[d]
 rw[kM hd,gn];omega
mutual
def Ks{s:aG}{lat:Nat}:∀(n:Nd) {l:List bH},ly s lat n=U l->l.length<=n.cJ
 | .mk k p t ws ks, l, h => by
  rw[ly] at h;split at h
  .simp only[dB] at h;obtain⟨i,_,rfl⟩:=h;simp only[Nd.cJ,da,cZ];omega
  .simp only[dB] at h;obtain⟨m,hm,rfl⟩:=h
   have:=G8 ks hm
   simp only[Nd.cJ,bW,da,cZ];omega
def G8{s:aG}{lat:Nat}:∀(ks:List Nd) {l:List bH},lV s lat ks=U l->l.length<=gn ks
 | [],l,h=>by rw[lV] at h;cases h;simp
 | n :: ns, l, h => by
  rw[lV] at h;cases hn:ly s lat n with
  | none=>rw[hn] at h;simp at h
  | some a =>
   rw[hn] at h;simp only[dB] at h;obtain⟨b,hb,rfl⟩:=h
   have:=Ks n hn
   have:=G8 ns hb
   simp only[gn,bW];omega
end
def Ru{s:aG}{lat:Nat}{n:Nd}:∀{l:List Nd} {a b:List bH},lV s lat l=U a->ly s lat n=U b->lV s lat (l++[n])=U (a++b)
 | [],a,b,h1,h2=>by rw[lV] at h1;cases h1;simp[lV,h2]
 | m :: l, a, b, h1, h2 => by
  rw[lV] at h1;cases hm:ly s lat m with
  | none=>rw[hm] at h1;simp at h1
  | some c =>
   rw[hm] at h1;simp only[dB] at h1;obtain⟨d,hd,rfl⟩:=h1;rw[jN,lV,hm,Ru hd h2];simp
def Rt{s:aG}{lat:Nat}{n:Nd}:∀{l:List Nd},n∈l->ly s lat n=ah->lV s lat l=ah
 | [],h,_=>by simp at h
 | m :: l, h, h2 => by
  rw[lV]
  rcases pz.1 h with rfl | h
  .rw[h2]
  .cases ly s lat m with
   | none=>rfl
   | some a=>simp only;rw[Rt h h2];rfl
def Cv(n:Nd):n.al.length<=n.cJ:=by cases n;simp only[Nd.cJ,Nd.al];omega
def Rn{m:Nd}:∀{l:List Nd},m∈l->m.cJ<=gn l
 | [],h=>by simp at h
 | n :: l, h => by
  simp only[gn]
  rcases pz.1 h with rfl | h
  .omega
  .have:=Rn h;omega
def lx{n m:Nd}(h:m∈n.ae):m.cJ<n.cJ:=by
 have:=Rn h
 have:=Nd.so n;omega
def Kq:∀(l:List Nd),l.length<=gn l
 | []=>by simp
 | n :: l => by
  have:=Kq l
  have:=Nd.so n
  simp only[gn,da];omega
def vX(n:Nd):n.ae.length<=n.cJ:=by
 have:=Kq n.ae
 have:=Nd.so n;omega
def aG.ok(s:aG):Prop:=s.bt.length<=100000/\s.vars.length<=100000/\∀l∈s.bt,l.shape.ok
def Uv{n:Nd}(h:n.ff=aa)(h1:¬(n.kind=1\/n.kind=7)):∀m∈n.ae,m.ff=true:=by
 rw[Nd.u4,aw (λe=>h1 (.inl e)),aw (λe=>h1 (.inr e))] at h;split at h
 .simp only[b_,lO] at h;exact h.2
 .simp at h
def Fx{n:Nd}(h:n.ff=aa)(h1:n.kind=7):n.ae.length=1:=by
 rw[Nd.u4,aw (by rw[h1];decide),aI h1] at h;simp only[b_,eb] at h;omega
def abF(s:aG)(lat:Int)(n:Nd):((lW s lat n).getD []).length<=n.cJ:=by
 cases h:lW s lat n with
 | none=>simp
 | some l =>
  rw[lW] at h;split at h
  .exact Ks n h
  .simp at h
def avt(s:bJ)(op:Int)(a b:bp):bp:=if op=3 then akZ s a b else amV a b
def yQ(s:bJ):Bool:=decide (12<s.bB.length)||s.bB.any λf=>decide (70<f.al.length)||f.al.any λt=>decide (40<t.length)
def Au(s:aG):Bool:=decide (20<s.bt.length)||decide (80<s.vars.length)||(s.bt.any λl=>yQ l.shape||decide (40<l.name.length))||s.vars.any λv=>decide (40<v.name.length)
def aag{s:bJ}(h:yQ s=aq):s.ok:=by
 simp only[yQ,w9,D8,uH,JC] at h;refine⟨by omega,λf hf=>?_⟩
 have:=(h.2 f hf).1;omega
def aac{s:aG}(h:Au s=aq):s.ok:=by
 simp only[Au,w9,D8,uH,JC] at h;exact⟨by omega,by omega,λl hl=>aag (h.1.2 l hl).1⟩
structure aM where
 cls:Int
 au:Int
def aM.zero:aM:=⟨0,0⟩
def aM.ext'{a b:aM}(h:a.cls=b.cls)(k:a.au=b.au):a=b:=by cases a;cases b;simp only at h k;subst h;subst k;rfl
instance:DecidableEq aM:=λa b=>if h:a.cls=b.cls/\a.au=b.au then isTrue (aM.ext' h.1 h.2) else isFalse λe=>h ⟨e▸rfl,e▸rfl⟩
def aM.enc(f:aM):List V:=[.int .i64 f.cls,.int .i64 f.au]
section
variable {f g:aM} {n:Nat} {a b:V}
theorem aM.dj:f.enc.length=2:=rfl
theorem aM.gH:c8 f.enc=true:=rfl
theorem aM.dL:bS f.enc=true:=rfl
theorem aM.dy:aZ f.enc=f.enc:=rfl
theorem aM.bP:bK n f.enc=true:=rfl
theorem aM.fO:takeN 2 f.enc=U f.enc:=rfl
theorem aM.iF:bX aa 2 f.enc=U (.agg f.enc):=rfl
theorem aM.gT:cB 2 f.enc=true:=rfl
theorem aM.gx:over g.enc f.enc=f.enc:=rfl
theorem aM.aqq:over [a,b] f.enc=f.enc:=rfl
theorem aM.Oo:bX aq 1 f.enc=U (.int .i64 f.cls):=rfl
theorem aM.r_p:bX aq 1 (f.enc.drop 1)=U (.int .i64 f.au):=rfl
def aM.qX:gd [1,1] f.enc g.enc=U (decide (f=g)):=by
 rw[aM.enc,aM.enc,yY,yY,R4,xm,xm];congr 1;rw[sa,<-yA];exact rn.2 ⟨λh=>aM.ext' h.1 h.2,λh=>h▸⟨rfl,rfl⟩⟩
def aM.ak:=af @aM.dj <| af @aM.gH <| af @aM.dL <| af @aM.dy <| af @aM.bP <| af @aM.fO <| af @aM.iF <| af @aM.gT <| af @aM.gx <| af @aM.aqq <| af @aM.Oo <| af @aM.r_p @aM.qX
end
def o7(yP f:aM):Bool:=decide (yP.cls=0)||decide (f.cls<yP.cls)||(decide (f.cls=yP.cls)&&decide (f.au<yP.au))
def jl(yP f:aM):aM:=if f.cls=0 then yP else if o7 yP f then f else yP
def fS(l:List aM):aM:=l.foldl jl .zero
def rL(a b:aM):Prop:=a.cls<b.cls\/(a.cls=b.cls/\a.au<=b.au)
def Ig(a:aM):rL a a:=.inr ⟨rfl,Int.le_refl _⟩
def UM{a b c:aM}(h:rL a b)(k:rL b c):rL a c:=by unfold rL at *;omega
def alO{a b:aM}(h:rL a b)(k:rL b a):a=b:=by unfold rL at *;exact aM.ext' (by omega) (by omega)
def FB:∀(l:List aM) (o:aM),(l.foldl jl o=o\/(l.foldl jl o∈l/\(l.foldl jl o).cls≠0))/\(o.cls≠0->(l.foldl jl o).cls≠0/\rL (l.foldl jl o) o)/\∀f∈l,f.cls≠0->(l.foldl jl o).cls≠0/\rL (l.foldl jl o) f
 | [],o=>⟨.inl rfl,λh=>⟨h,Ig o⟩,by simp⟩
 | f :: l, o => by
  obtain⟨h1,h2,h3⟩:=FB l (jl o f);rw[yF];have hb:jl o f=o\/(jl o f=f/\f.cls≠0):=by
   unfold jl
   by_cases h:f.cls=0
   .rw[aI h];exact .inl rfl
   .rw[aw h];split
    .exact .inr ⟨rfl,h⟩
    .exact .inl rfl
  have ho:o.cls≠0->(jl o f).cls≠0/\rL (jl o f) o:=λh=>by
   unfold jl
   by_cases hf:f.cls=0
   .rw[aI hf];exact⟨h,Ig o⟩
   .rw[aw hf];split
    .rename_i hl;refine⟨hf,?_⟩;simp only[o7,mU,b_,eb] at hl;unfold rL;omega
    .exact⟨h,Ig o⟩
  have hf:f.cls≠0->(jl o f).cls≠0/\rL (jl o f) f:=λh=>by
   unfold jl;rw[aw h];split
   .exact⟨h,Ig f⟩
   .rename_i hl;simp only[o7,mU,b_,eb] at hl;unfold rL;exact⟨by omega,by omega⟩
  refine⟨?_,λh=>?_,λg hg hc=>?_⟩
  .rcases h1 with h1 | ⟨h1,rq⟩
   .rw[h1]
    rcases hb with hb | ⟨hb,cn⟩
    .exact .inl hb
    .rw[hb];exact .inr ⟨by simp,cn⟩
   .exact .inr ⟨by simp[h1],rq⟩
  .obtain⟨k1,k2⟩:=ho h;obtain⟨k3,k4⟩:=h2 k1;exact⟨k3,UM k4 k2⟩
  .rcases pz.1 hg with rfl | hg
   .obtain⟨k1,k2⟩:=hf hc;obtain⟨k3,k4⟩:=h2 k1;exact⟨k3,UM k4 k2⟩
   .exact h3 g hg hc
def UQ{a b:List aM}(h:∀f,f.cls≠0->(f∈a↔f∈b)):fS a=fS b:=by
 obtain⟨a1,_,a3⟩:=FB a .zero;obtain⟨b1,_,b3⟩:=FB b .zero;show a.foldl jl .zero=b.foldl jl .zero;generalize a.foldl jl .zero=x at a1 a3;generalize b.foldl jl .zero=y at b1 b3
 rcases a1 with rfl | ⟨a1,a2⟩
 .rcases b1 with rfl | ⟨b1,b2⟩
  .rfl
  .exact absurd rfl (a3 y ((h y b2).2 b1) b2).1
 .rcases b1 with rfl | ⟨b1,b2⟩
  .exact absurd rfl (b3 x ((h x a2).1 a1) a2).1
  .exact alO (a3 y ((h y b2).2 b1) b2).2 (b3 x ((h x a2).1 a1) a2).2
def alQ{a:List aM}(h:(fS a).cls=0):fS a = .zero/\∀f∈a,f.cls=0:=by
 obtain⟨a1,_,a3⟩:=FB a .zero;refine⟨?_,λf hf=>Classical.byContradiction λhc=>(a3 f hf hc).1 h⟩
 rcases a1 with e | ⟨_,e⟩
 .exact e
 .exact absurd h e
def alS{a:List aM}(h:∀f∈a,f.cls=0):fS a = .zero:=by
 rcases(FB a .zero).1 with e | ⟨e,e'⟩
 .exact e
 .exact absurd (h _ e) e'
def UR{l:List aM}(hi:i<l.length):fS (l.take (i+1))=jl (fS (l.take i)) l[i]:=by
 rw[fS,jg hi,B_];rfl
def KQ{l:List eX}{t:List UInt8}(h:iw l t=U k):k<l.length:=by
 unfold iw at h;simpa using YW h
structure Wht where
 lat:Int
 v:List bp
 w:List bp
def YN(v r:V):List V->List V->Prop
 | [],[]=>True
 | x::xs,y::ys=>(y=x\/(x=v/\y=r)\/y = .any)/\YN v r xs ys
 | _,_=>False
def AG{F:Nat->Y->St}{J:Nat->Y->Prop}(n:Nat)(h:∀D,Z.aY D=ah->∃x,J 0 x/\fm D n t (F 0 x).t/\l=(F 0 x).au/\(F 0 x).out=Z.ba D n):B4 F J ⟨t,l,Z⟩ :=
 (a7.s_ (ι:={x // J 0 x}) (I:=λx=>F 0 x.1) n λD a_=>by
   obtain⟨x,h1,h2,h3,h4⟩:=h D a_;exact⟨⟨x,h1⟩,h2,h3,h4⟩).mono λ_ ⟨x,e⟩=>⟨x.1,x.2,e⟩
def yD(D n:Nat):List (List V)->List (List V)->Prop
 | [],[]=>True
 | c::l,c' :: l' => fm D n c c' /\ yD D n l l'
 | _,_=>False
variable{D:Nat}
def yD.spec:∀{l l' : List (List V)},yD D n l l' -> l.length=l'.length/\∀(i:Nat) c',l'[i]?=U c' -> ∃c,l[i]?=U c/\fm D n c c'
 | [],[],_=>⟨rfl,λi c' h=>by simp at h⟩
 | [],_::_,h=>h.elim
 | _::_,[],h=>h.elim
 | c :: l, c' :: l', h => by
  obtain⟨h1,h2⟩:=yD.spec h.2;refine⟨by simp[h1],λi d hd=>?_⟩;cases i with
  | zero=>simp at hd;subst hd;exact⟨c,rfl,h.1⟩
  | succ i=>exact h2 i d (by simpa using hd)
theorem amw:yD D n [] []=True:=rfl
variable{l':List (List V)}
theorem amv{c':List V}:yD D n (c::l) (c' :: l')=(fm D n c c' /\ yD D n l l'):=rfl
def Il:=af @amw @amv
def Hc{F:Nat->Y->St}{J:Nat->Y->Prop}(n:Nat)(h:∀D,Z.aY D=ah->∃x,J 0 x/\fm D n t (F 0 x).t/\yD D n l (F 0 x).au/\(F 0 x).out=Z.ba D n):B4 F J ⟨t,l,Z⟩ :=
 a7.tok n λD a_=>by
  obtain⟨x,h1,h2,h3,h4⟩:=h D a_;obtain⟨k1,k2⟩:=h3.spec;exact⟨_,_,Z,h2,k1,k2,se.rfl,x,h1,by rw[<-h4]⟩
def VC:∀{a b:List V},c8 (a++b)=(c8 a&&c8 b)
 | [],b=>by simp[c8]
 | x::a,b=>by simp[c8,VC,PX]
end Go.Am
