/-
  Part 3 of the proof of StackTextUptoCardSaid: a logic over the model, the forms of the functions that the law reaches, and what they compute.
-/
import Derived.IntWalk
import Derived.Test.YtnpggmhoandloaaGreatDoorText2
set_option linter.unusedVariables false
set_option linter.unusedSimpArgs false
set_option linter.defProp false
set_option linter.unusedSectionVars false
set_option maxRecDepth 4000
set_option maxHeartbeats 4000000
open Option renaming some->aa,none->aj
open Bool renaming true->ab,false->ar
open List renaming replicate->aq,range->bA,getD->fW,zipWith->mu
open Eq renaming mpr->ey
open Ne renaming symm->fJ
namespace Go.Am
section
variable {P:Program} {d:Option Nat} {r:List AO} {K:St->Prop} {t:List V} {l:List (List V)} {D:ah} {x y z:X} {Q:Exit->St->Prop} {st:St} {a b:AC}
theorem awm:vc P .skip Q st=Q .normal st:=rfl
theorem awi{o:List AO}:vc P (.Ga o) Q st=cg P o (Q .normal) st:=rfl
theorem awn:vc P (.qG a) Q st=bI st (vc P a Q):=rfl
theorem awe{o:List (AO × List Nat)}:vc P (.draw o) Q ⟨t,l,D⟩=cJ P o [(l,D)] [] (Q .normal) ⟨t,l,D⟩:=rfl
theorem awl:vc P (.seq a b) Q st=vc P a (D1 (vc P b Q) Q) st:=rfl
def DQ(P:Program)(v:V)(a b:AC)(Q:Exit->St->Prop)(st:St):Prop:=match v with | .bool c=>(c=ab->vc P a Q st)/\(c=ar->vc P b Q st) | _=>False
theorem awc:vc P (.cond x a b) Q st=DQ P (ev st x) a b Q st:=rfl
def awa:DQ P (.bool ab) a b Q st=vc P a Q st:=by simp[DQ]
def av':DQ P (.bool ar) a b Q st=vc P b Q st:=by simp[DQ]
def fx{c:Bool}(U:c=ab->vc P a Q st)(h2:c=ar->vc P b Q st):DQ P (.bool c) a b Q st:=⟨U,h2⟩
variable{out:Nat}
def P7{l:List AO}{x:X}{dI dN dM nxt:Nat}{y:AC}(h:cg P l (λpg=>∃s:List UInt8,ev pg x = .aG s/\(∀c∈s,c.toNat<128)/\∃I:Nat->Nat->St->Prop,
 (∀b,bI (pg.put (aa dI) (.raw (.pointer (aa ⟨b,0,aj⟩)))) (I b 0)) /\
 (∀b i aP,I b i aP -> aP.t.getD dI .any = .raw (.pointer (aa ⟨b,0,aj⟩))/\dN<aP.t.length/\dM<aP.t.length) /\
 (∀b i c aP,s[i]?=aa c->I b i aP -> vc P y (tj nxt (yU out (I b (i+1)) Q)) ((aP.put (aa dN) (.bH [.bool ab,.int .i64 (i:Nat),.int .i32 (c.toNat:Nat)])).put (aa dM) (.bool ab))) /\
 (∀b aP,I b s.length aP -> Q .normal ((aP.put (aa dN) (.bH [.bool ar])).put (aa dM) (.bool ar)))) st):vc P (.DC l x dI dN dM out nxt y) Q st:=h
variable{J:St->Prop}
theorem asX:yU out J Q .normal st=bI st J:=rfl
theorem asW{id:Nat}:yU out J Q (.exit id) st=if id=out then Q .normal st else Q (.exit id) st:=rfl
theorem asY:yU out J Q .ret st=Q .ret st:=rfl
theorem awk:vc P (.scope a) Q st=vc P a (Ct Q) st:=rfl
theorem apS:Ct Q .normal st=Q .normal st:=rfl
theorem apR{id:Nat}:Ct Q (.exit id) st=Q (.exit id) st:=rfl
theorem apT:Ct Q .ret st=Q .ret st:=rfl
theorem awb{id:Nat}:vc P (.block id a) Q st=vc P a (tj id Q) st:=rfl
theorem awg{id:Nat}:vc P (.exit id) Q st=Q (.exit id) st:=rfl
theorem awj:vc P .ret Q st=Q .ret st:=rfl
theorem abO:D1 K Q .normal st=K st:=rfl
theorem abN{id:Nat}:D1 K Q (.exit id) st=Q (.exit id) st:=rfl
theorem abP:D1 K Q .ret st=Q .ret st:=rfl
theorem acq{id:Nat}:tj id Q .normal st=Q .normal st:=rfl
theorem acr{id:Nat}:tj id Q .ret st=Q .ret st:=rfl
theorem acp{id BC : Nat}:tj id Q (.exit BC) st=if BC = id then Q .normal st else Q (.exit BC) st:=rfl
variable{ι:Type}
theorem aoY{I:ι->St}{μ:ι->Nat}{n id:Nat}:AH I μ Q n (.exit id) st=Q (.exit id) st:=rfl
theorem ao0{I:ι->St}{μ:ι->Nat}{n:Nat}:AH I μ Q n .ret st=Q .ret st:=rfl
theorem aoZ{I:ι->St}{μ:ι->Nat}{n:Nat}:AH I μ Q n .normal st=bI st λaP => ∃j,aP = I j/\μ j<n:=rfl
def jX(I:ι->St)(μ:ι->Nat)(h0:bI st λaP => ∃i,aP = I i)(h:∀i,vc P a (AH I μ Q (μ i)) (I i)):vc P (.loop a) Q st:=⟨ι,I,μ,h0,h⟩
variable{R':V->ah->Prop}{rs:List RV}
theorem atq:G3 rs R' .ret st=opt ((vk st rs).map u_) (mw R' st):=rfl
theorem atp:G3 rs R' .normal st=opt ((vk st rs).map u_) (mw R' st):=rfl
variable{v:V}
theorem are{K:V->Prop}:opt (aa v) K=K v:=rfl
theorem aug:vk st []=aa []:=rfl
def Su(v:Option V)(l:Option (List V)):Option (List V):=v.bind λx=>l.map (x::·)
theorem adX{l:List V}:Su (aa v) (aa l)=aa (v::l):=rfl
theorem auf{y:RV}:vk st (y::rs)=Su (rv st y) (vk st rs):=rfl
theorem aue{n:Nat}:rv ⟨t,l,D⟩ (.tmp n)=aa (t.getD n .any):=rfl
variable{g:Bool}
theorem aud{n m:Nat}:rv ⟨t,l,D⟩ (.cell n g m)=mf ⟨t,l,D⟩ g m (t.getD n .any):=rfl
theorem aq0:u_ [v]=v:=rfl
theorem aqZ:u_ [] = .bH []:=rfl
theorem aqY{u v:V}{l:List V}:u_ (u::v::l) = .bH (u::v::l):=rfl
theorem apj{v:List V}{f:List V->V}:Option.map f (aa v)=aa (f v):=rfl
variable{σ':ah}
def aX(U:v.c9=ab)(h2:σ'.sub D)(h3:R' v.erase σ'):mw R' ⟨t,l,D⟩ v:=⟨U,σ',_,h2,.inl rfl,h3⟩
def ato(U:v.c9=ab)(h2:σ'.sub D)(h3:R' v σ'):mw R' ⟨t,l,D⟩ v:=⟨U,σ',_,h2,.inr rfl,h3⟩
def aL{w:V}(h:v.erase=w)(U:v.c9=true:=by rfl):mw (λv σ' => v=w/\σ' = D) ⟨t,l,D⟩ v:=aX U (ah.bm _) ⟨h,rfl⟩
theorem af7{n:Nat}:ev ⟨t,l,D⟩ (.s n)=t.getD n .any:=rfl
theorem af5:ev st (.c v)=v:=rfl
theorem af9:dw st []=[]:=rfl
theorem af8{xs:List X}:dw st (x::xs)=ev st x::dw st xs:=rfl
theorem alb{w:V}:(v::t).getD 0 w=v:=rfl
theorem ala{w:V}{n:Nat}:(v::t).getD (n+1) w=t.getD n w:=rfl
theorem auQ{w:V}:(v::t).set 0 w=w::t:=rfl
theorem auO{w:V}{n:Nat}:(v::t).set (n+1) w=v::t.set n w:=rfl
theorem asE{n:Nat}:St.put ⟨t,l,D⟩ (aa n) v=⟨t.set n v,l,D⟩:=rfl
theorem asD:St.put st aj v=st:=rfl
theorem aqH:cg P [] K st=K st:=rfl
def kL(P:Program)(d:Option Nat)(r:List AO)(K:St->Prop)(st:St)(v:V):Prop:=cg P r K (st.put d v)
theorem anw:kL P d r K ⟨t,l,D⟩ v=cg P r K (St.put ⟨t,l,D⟩ d v):=rfl
def rk(o:Option V)(K:V->Prop):Prop:=match o with | some v=>K v | none=>False
theorem arb{K:V->Prop}:rk (aa v) K=K v:=rfl
theorem aqG:cg P (⟨d,.mv x,aj⟩::r) K st=cg P r K (st.put d (ev st x)):=rfl
def ve(P:Program)(v a b:V)(d:Option Nat)(r:List AO)(K:St->Prop)(st:St):Prop:=match v with | .bool ab=>cg P r K (st.put d a) | .bool ar=>cg P r K (st.put d b) | _=>False
def aqL:cg P (⟨d,.pick x y z,aj⟩::r) K st=ve P (ev st x) (ev st y) (ev st z) d r K st:=by
 simp only[cg,aO.bj,ve];cases ev st x<;>first | rfl | (rename_i b;cases b<;>rfl)
theorem ar5{u:V}:ve P (.bool ab) u v d r K st=cg P r K (st.put d u):=rfl
theorem ar3{u:V}:ve P (.bool ar) u v d r K st=cg P r K (st.put d v):=rfl
def ar4{b c:Bool}:ve P (.bool b) (.bool c) (.bool ar) d r K st=cg P r K (st.put d (.bool (b&&c))):=by cases b<;>simp[ve]
def ar6{b c:Bool}:ve P (.bool b) (.bool ab) (.bool c) d r K st=cg P r K (st.put d (.bool (b||c))):=by cases b<;>simp[ve]
variable{c:List V}
theorem aqd:cg P (⟨d,.alloc c,aj⟩::r) K ⟨t,l,D⟩=cg P r K (St.put ⟨t,l++[c],D⟩ d (.ptr (.aE l.length) 0)):=rfl
theorem aqk{n:Nat}:cg P (⟨d,.box n x,aj⟩::r) K ⟨t,l,D⟩=((ev ⟨t,l,D⟩ x).wd=aa n/\cg P r K (St.put ⟨t,l++[(ev ⟨t,l,D⟩ x).cells],D⟩ d (.ptr (.aE l.length) 0))):=rfl
def kO(P:Program)(d:Option Nat)(r:List AO)(K:St->Prop)(st:St)(cs:List V):Prop:=∀b,st.out.box b=aj->cg P r K (St.put ⟨st.t,st.aE,st.out.set b cs⟩ d (.ptr (.out b) 0))
theorem aqe:cg P (⟨d,.qL c,aj⟩::r) K st=(bT c=ab/\kO P d r K st c):=rfl
theorem aql{n:Nat}:cg P (⟨d,.gS n x,aj⟩::r) K st=((ev st x).wd=aa n/\bT (ev st x).cells=ab/\kO P d r K st (ev st x).cells):=rfl
def kY(h:∀b,D.box b=aj->cg P r K (St.put ⟨t,l,D.set b c⟩ d (.ptr (.out b) 0))):kO P d r K ⟨t,l,D⟩ c:=h
variable{ps:List (Nat × Nat × X)}
theorem aqn:cg P (⟨d,.build c ps,aj⟩::r) K st=rk ((p7 st c ps).map V.agg) (kL P d r K st):=rfl
def OG(o:Option (List (List V)))(k:Nat)(K:V->Prop):Prop:=match o with | some v=>K (.sl .aZ k v) | none=>False
variable{k:Nat}
theorem arc{v:List (List V)}{K:V->Prop}:OG (aa v) k K=K (.sl .aZ k v):=rfl
def aqm{xs:List X}:cg P (⟨d,.ko k xs,aj⟩::r) K st=OG (mj st k xs) k (kL P d r K st):=by
 simp only[cg,aO.bj];cases mj st k xs<;>rfl
theorem aqE{n:Nat}:cg P (⟨d,.load g n x,aj⟩::r) K st=rk (mf st g n (ev st x)) (kL P d r K st):=rfl
def OH(P:Program)(o:Option St)(d:Option Nat)(r:List AO)(K:St->Prop):Prop:=match o with | some st=>cg P r K (st.put d .any) | none=>False
theorem ard:OH P (aa st) d r K=cg P r K (st.put d .any):=rfl
def aqO{n:Nat}:cg P (⟨d,.store n x y,aj⟩::r) K st=OH P (dW st n (ev st y) (ev st x)) d r K:=by
 simp only[cg,aO.bj,OH];cases dW st n (ev st y) (ev st x)<;>rfl
def BU(v:V)(K:V->Prop):Prop:=match v with | .ptr p o=>K (.ptr p o) | .elt c o=>K (.elt c o) | .fn (.func f) a b=>K (.fn (.func f) a b) | _=>False
def aqI:cg P (⟨d,.wN x,aj⟩::r) K st=BU (ev st x) (kL P d r K st):=by
 simp only[cg,aO.bj,BU];cases ev st x<;>first | rfl | (rename_i f _ _;cases f<;>rfl)
variable{o:Nat}{p:Pl}
theorem apO{K:V->Prop}:BU (.ptr p o) K=K (.ptr p o):=rfl
theorem apM{K:V->Prop}:BU (.elt c o) K=K (.elt c o):=rfl
variable{e:List V}{f:FuncId}
theorem apN{K:V->Prop}:BU (.fn (.func f) c e) K=K (.fn (.func f) c e):=rfl
theorem aqi{op:BinOp}:cg P (⟨d,.dU op x y,aj⟩::r) K st=rk (vN op (ev st x) (ev st y)) (kL P d r K st):=rfl
theorem aqj{op:BinOp}:cg P (⟨d,.pZ op x y,aj⟩::r) K st=rk (AW op (ev st x) (ev st y)) (kL P d r K st):=rfl
theorem aqh{n:Bool}:cg P (⟨d,.vM n x y,aj⟩::r) K st=rk (y8 n (ev st x) (ev st y)) (kL P d r K st):=rfl
def Hp(u v:V)(K:V->Prop):Prop:=∃a b,u = .aG a/\v = .aG b/\a.length+b.length<=aQ/\K (.aG (a++b))
theorem aqq:cg P (⟨d,.cat x y,aj⟩::r) K st=Hp (ev st x) (ev st y) (kL P d r K st):=rfl
def ac'{a b:List UInt8}{K:V->Prop}:Hp (.aG a) (.aG b) K=(a.length+b.length<=aQ/\K (.aG (a++b))):=by
 simp only[Hp,V.aG.injEq,eq_iff_iff];constructor
 .rintro⟨a',b',rfl,rfl,U,h2⟩;exact⟨U,h2⟩
 .rintro⟨U,h2⟩;exact⟨a,b,rfl,rfl,U,h2⟩
variable{ks:List Nat}
theorem aqt{n:Bool}:cg P (⟨d,.l8 n ks x y,aj⟩::r) K st=rk (y7 n ks (ev st x) (ev st y)) (kL P d r K st):=rfl
def FY(v:V)(K:V->Prop):Prop:=match v with | .bool b=>K (.bool (!b)) | _=>False
def aqJ:cg P (⟨d,.not x,aj⟩::r) K st=FY (ev st x) (kL P d r K st):=by
 simp only[cg,aO.bj,FY];cases ev st x<;>rfl
theorem ap'{b:Bool}{K:V->Prop}:FY (.bool b) K=K (.bool (!b)):=rfl
def FJ(v:V)(K:V->Prop):Prop:=match v with | .sl _ _ l=>K (.int .i64 l.length) | .raw (.slice _ n _)=>K (.int .i64 n) | _=>False
def aqC:cg P (⟨d,.wJ x,aj⟩::r) K st=FJ (ev st x) (kL P d r K st):=by
 simp only[cg,aO.bj,FJ];cases ev st x<;>rfl
variable{m:List (List V)}
theorem aof{Z:Tk}{K:V->Prop}:FJ (.sl Z k m) K=K (.int .i64 m.length):=rfl
def FK(v:V)(K:V->Prop):Prop:=match v with | .aG s=>K (.int .i64 s.length) | _=>False
def aqD:cg P (⟨d,.wK x,aj⟩::r) K st=FK (ev st x) (kL P d r K st):=by
 simp only[cg,aO.bj,FK];cases ev st x<;>rfl
theorem aog{s:List UInt8}{K:V->Prop}:FK (.aG s) K=K (.int .i64 s.length):=rfl
def CT(off:Nat)(v:V)(K:V->Prop):Prop:=match v with | .ptr p o=>K (.ptr p (o+off)) | .elt c o=>K (.elt c (o+off)) | _=>False
def aqw{n:Nat}:cg P (⟨d,.qa n x,aj⟩::r) K st=CT n (ev st x) (kL P d r K st):=by
 simp only[cg,aO.bj,CT];cases ev st x<;>rfl
theorem agU{n:Nat}{K:V->Prop}:CT n (.ptr p o) K=K (.ptr p (o+n)):=rfl
theorem agT{n:Nat}{K:V->Prop}:CT n (.elt c o) K=K (.elt c (o+n)):=rfl
def EE(g:Bool)(off n:Nat)(v:V)(K:V->Prop):Prop:=match v with | .agg cs=>rk (bP g n (cs.drop off)) K | _=>False
def aqx{n m:Nat}:cg P (⟨d,.v9 g m n x,aj⟩::r) K st=EE g m n (ev st x) (kL P d r K st):=by
 simp only[cg,aO.bj,EE];cases ev st x<;>rfl
variable{cs:List V}
theorem agV{n m:Nat}{K:V->Prop}:EE g m n (.agg cs) K=rk (bP g n (cs.drop m)) K:=rfl
def BD(k:Nat)(v i:V)(K:V->Prop):Prop:=match v with
 | .sl _ k' l=>k' = k/\Kq l i λc=>K (.elt c 0)
 | .raw (.slice (aa ⟨b,o,aj⟩) n _)=>∃ik j,i = .int ik j/\0<=j/\j<n/\K (.ptr (.out b) (o+j.toNat*k))
 | _=>False
def aqz:cg P (⟨d,.tT k x y,aj⟩::r) K st=BD k (ev st x) (ev st y) (kL P d r K st):=by
 simp only[cg,aO.bj,BD];cases ev st x<;>rfl
variable{ik:IntKind}
def sN{Z:Tk}{n:Int}{K:V->Prop}(h0:0<=n)(h:m[n.toNat]?=aa c)(hk:K (.elt c 0)):BD k (.sl Z k m) (.int ik n) K:=⟨rfl,ik,n,c,rfl,h0,h,hk⟩
def tU{Z:Tk}{n:Int}{K:V->Prop}(h:m[n.toNat]?=aa c)(hk:K (.elt c 0))(h0:0<=n:=by omega):BD k (.sl Z k m) (.int ik n) K:=sN h0 h hk
def zD(m k:Nat)(v i:V)(K:V->Prop):Prop:=match v with
 | .ptr p o=>∃kk n,i = .int kk n/\0<=n/\n<(m:Nat)/\K (.ptr p (o+n.toNat*k))
 | .elt c o=>∃kk n,i = .int kk n/\0<=n/\n<(m:Nat)/\K (.elt c (o+n.toNat*k))
 | _=>False
def aqA{m:Nat}:cg P (⟨d,.sO m k x y,aj⟩::r) K st=zD m k (ev st x) (ev st y) (kL P d r K st):=by
 simp only[cg,aO.bj,zD];cases ev st x<;>rfl
def amP{m:Nat}{n:Int}{K:V->Prop}(h0:0<=n)(h:n<(m:Nat))(hk:K (.ptr p (o+n.toNat*k))):zD m k (.ptr p o) (.int ik n) K:=⟨ik,n,rfl,h0,h,hk⟩
def jC{m:Nat}{n:Int}{K:V->Prop}(hk:K (.ptr p (o+n.toNat*k)))(h0:0<=n:=by omega)(h:n<(m:Nat):=by omega):zD m k (.ptr p o) (.int ik n) K:=amP h0 h hk
def amO{m:Nat}{n:Int}{K:V->Prop}(h0:0<=n)(h:n<(m:Nat))(hk:K (.elt c (o+n.toNat*k))):zD m k (.elt c o) (.int ik n) K:=⟨ik,n,rfl,h0,h,hk⟩
def Vo{m:Nat}{n:Int}{K:V->Prop}(hk:K (.elt c (o+n.toNat*k)))(h0:0<=n:=by omega)(h:n<(m:Nat):=by omega):zD m k (.elt c o) (.int ik n) K:=amO h0 h hk
def Di(v i:V)(K:V->Prop):Prop:=match v with | .aG s=>∃k n c,i = .int k n/\0<=n/\s[n.toNat]?=aa c/\K (.int .u8 c.toNat) | _=>False
def aqB:cg P (⟨d,.tV x y,aj⟩::r) K st=Di (ev st x) (ev st y) (kL P d r K st):=by
 simp only[cg,aO.bj,Di];cases ev st x<;>rfl
variable{s:List UInt8}
def amQ{n:Int}{c:UInt8}{K:V->Prop}(h0:0<=n)(h:s[n.toNat]?=aa c)(hk:K (.int .u8 c.toNat)):Di (.aG s) (.int ik n) K:=⟨ik,n,c,rfl,h0,h,hk⟩
def wF{n:Int}{c:UInt8}{K:V->Prop}(h:s[n.toNat]?=aa c)(hk:K (.int .u8 c.toNat))(h0:0<=n:=by omega):Di (.aG s) (.int ik n) K:=amQ h0 h hk
def kC(P:Program)(d:Option Nat)(r:List AO)(K:St->Prop)(t:List V)(l:List (List V))(v:V)(D:ah):Prop:=cg P r K (St.put ⟨t,l,D⟩ d v)
theorem anu:kC P d r K t l v D=cg P r K (St.put ⟨t,l,D⟩ d v):=rfl
theorem aqo{xs:List X}:cg P (⟨d,.call f xs,aj⟩::r) K ⟨t,l,D⟩=(bT (dw ⟨t,l,D⟩ xs)=ab/\ch P f (dw ⟨t,l,D⟩ xs) D (kC P d r K t l)):=rfl
def Lc(P:Program)(v:V)(args:List V)(D:ah)(K:V->ah->Prop):Prop:=match v with | .fn (.func f) a b=>bT (a++args++b)=ab/\ch P f (a++args++b) D K | _=>False
def aqp{xs:List X}:cg P (⟨d,.jj x xs,aj⟩::r) K ⟨t,l,D⟩=Lc P (ev ⟨t,l,D⟩ x) (dw ⟨t,l,D⟩ xs) D (kC P d r K t l):=by
 simp only[cg,aO.bj,Lc];cases ev ⟨t,l,D⟩ x<;>first | rfl | (rename_i f _ _;cases f<;>rfl)
variable{args:List V}
theorem ac8{u v:List V}{K:V->ah->Prop}:Lc P (.fn (.func f) u v) args D K=(bT (u++args++v)=ab/\ch P f (u++args++v) D K):=rfl
theorem aqf:cg P (⟨d,.app k x y,aj⟩::r) K ⟨t,l,D⟩=rA D k (ev ⟨t,l,D⟩ x) (ev ⟨t,l,D⟩ y) (kC P d r K t l):=rfl
theorem aqg:cg P (⟨d,.n6 x y,aj⟩::r) K ⟨t,l,D⟩=(∃a,ev ⟨t,l,D⟩ y = .aG a/\rA D 1 (ev ⟨t,l,D⟩ x) (.sl .no 1 (dK a)) (kC P d r K t l)):=rfl
variable{u:Tk}{Z:Nat}
def kM{n:List (List V)}{K:V->ah->Prop}(hb:m.length+n.length<=aQ)(ht:D.aR Z=aa m.length)(hk:K (.sl (.tk Z) k (m++n)) (D.a_ Z (m.length+n.length))):
 rA D k (.sl (.tk Z) k m) (.sl u k n) K:=⟨_,m,n,rfl,⟨u,rfl⟩,hb,ht,hk⟩
def Ha{n:List (List V)}{K:V->ah->Prop}(hb:m.length+n.length<=aQ)(hk:∀Z,D.aR Z=aj->K (.sl (.tk Z) k (m++n)) (D.a_ Z (m.length+n.length))):
 rA D k (.sl .aZ k m) (.sl u k n) K:=⟨_,m,n,rfl,⟨u,rfl⟩,hb,.inl hk⟩
def yY{n:List (List V)}{K:V->ah->Prop}(hb:m.length+n.length<=aQ)(hk:K (.sl .no k (m++n)) D):
 rA D k (.sl .aZ k m) (.sl u k n) K:=⟨_,m,n,rfl,⟨u,rfl⟩,hb,.inr (.inl hk)⟩
def A9(i:Nat)(v:V)(K:V->Prop):Prop:=match v with | .bH vs=>rk vs[i]? K | _=>False
variable{i:Nat}
def aqv:cg P (⟨d,.ext x i,aj⟩::r) K st=A9 i (ev st x) (kL P d r K st):=by
 simp only[cg,aO.bj,A9];cases ev st x<;>rfl
theorem age{u:V}{us:List V}{K:V->Prop}:A9 0 (.bH (u::us)) K=K u:=rfl
theorem agd{i:Nat}{u:V}{us:List V}{K:V->Prop}:A9 (i+1) (.bH (u::us)) K=A9 i (.bH us) K:=rfl
theorem aqF{f:Fn}{as bs:List X}:cg P (⟨d,.ky f as bs,aj⟩::r) K st=cg P r K (st.put d (.fn f (dw st as) (dw st bs))):=rfl
def Er(k:IntKind)(v:V)(K:V->Prop):Prop:=match v with | .int _ n=>K (.int k (k.wrap n)) | _=>False
def aqs{k:IntKind}:cg P (⟨d,.qP k x,aj⟩::r) K st=Er k (ev st x) (kL P d r K st):=by
 simp only[cg,aO.bj,Er];cases ev st x<;>rfl
theorem aeo{k j:IntKind}{n:Int}{K:V->Prop}:Er k (.int j n) K=K (.int k (k.wrap n)):=rfl
theorem aqr:cg P (⟨d,.uD x,aj⟩::r) K st=(∃t s,ev st x = .sl t 1 (dK s)/\kL P d r K st (.aG s)):=rfl
def gL(P:Program)(v:V)(w:Bool)(d:Option Nat)(op:aO)(r:List AO)(K:St->Prop)(st:St):Prop :=
 match v with
 | .bool b=>if b=w then cg P (⟨d,op,aj⟩::r) K st else cg P r K (st.put d (.bH []))
 | .bH []=>cg P r K (st.put d (.bH []))
 | _=>False
def aqy{g:Nat}{w:Bool}{op:aO}:cg P (⟨d,op,aa (g,w)⟩::r) K ⟨t,l,D⟩=gL P (t.getD g .any) w d op r K ⟨t,l,D⟩:=by
 simp only[cg,gL,ev];generalize t.getD g .any=v;cases v<;>first | rfl | (rename_i m;cases m<;>rfl)
theorem ak5{w:Bool}{op:aO}:gL P (.bH []) w d op r K st=cg P r K (st.put d (.bH [])):=rfl
theorem ak4{op:aO}:gL P (.bool ab) ab d op r K st=cg P (⟨d,op,aj⟩::r) K st:=rfl
theorem ak1{op:aO}:gL P (.bool ar) ar d op r K st=cg P (⟨d,op,aj⟩::r) K st:=rfl
theorem ak3{op:aO}:gL P (.bool ab) ar d op r K st=cg P r K (st.put d (.bH [])):=rfl
theorem ak2{op:aO}:gL P (.bool ar) ab d op r K st=cg P r K (st.put d (.bH [])):=rfl
def BK(c:Option (List V))(g:Bool)(n o:Nat):Option V:=c.bind λcs=>bP g n (cs.drop o)
theorem anX{n:Nat}:BK (aa c) g n o=bP g n (c.drop o):=rfl
theorem an6{g:Bool}{n i o:Nat}:mf ⟨t,l,D⟩ g n (.ptr (.aE i) o)=BK l[i]? g n o:=rfl
theorem an7{n:Nat}:mf ⟨t,l,D⟩ g n (.ptr (.out i) o)=BK (D.box i) g n o:=rfl
theorem an5{n:Nat}:mf ⟨t,l,D⟩ g n (.ptr (.kT i) o)=BK (D.b8 i) g n o:=rfl
theorem an4{n:Nat}:mf st g n (.elt cs o)=bP g n (cs.drop o):=rfl
theorem zM{n:Nat}:bP ab n cs=(takeN n cs).map V.agg:=rfl
theorem anY{n:Nat}{c:V}:bP ar n (c::cs)=aa c:=rfl
theorem avF:takeN 0 cs=aa []:=rfl
def Ws(c:V):Option (List V)->Option (List V) | some l=>aa (c::l) | none=>aj
def PZ{n:Nat}{c:V}:takeN (n+1) (c::cs)=Ws c (takeN n cs):=by
 simp only[takeN];cases takeN n cs<;>rfl
theorem api{c:V}:Ws c (aa cs)=aa (c::cs):=rfl
theorem ae5:cs.drop 0=cs:=rfl
theorem ae4{n:Nat}{c:V}:(c::cs).drop (n+1)=cs.drop n:=rfl
def Zu(t:List V)(l:List (List V))(D:ah)(i o n:Nat)(x:V):Option (List V)->Option St
 | some cs=>if cw n (cs.drop o)=ab/\x.wd=aa n/\cW x.cells=ab then aa ⟨t,l.set i (setAt cs o x.cells),D⟩ else aj
 | none=>aj
def avc{n:Nat}:dW ⟨t,l,D⟩ n v (.ptr (.aE i) o)=Zu t l D i o n v l[i]?:=by
 simp only[dW];cases l[i]?<;>rfl
theorem ava{n:Nat}:Zu t l D i o n v (aa cs)=if cw n (cs.drop o)=ab/\v.wd=aa n/\cW v.cells=ab then aa ⟨t,l.set i (setAt cs o v.cells),D⟩ else none:=rfl
def Zv(t:List V)(l:List (List V))(D:ah)(i o n:Nat)(x:V):Option (List V)->Option St
 | some cs=>if cw n (cs.drop o)=ab/\x.wd=aa n/\cW x.cells=ab/\bT x.cells=ab then aa ⟨t,l,D.set i (setAt cs o x.cells)⟩ else aj
 | none=>aj
def avd{n:Nat}:dW ⟨t,l,D⟩ n v (.ptr (.out i) o)=Zv t l D i o n v (D.box i):=by
 simp only[dW];cases D.box i<;>rfl
theorem avb{n:Nat}:Zv t l D i o n v (aa cs)=if cw n (cs.drop o)=ab/\v.wd=aa n/\cW v.cells=ab/\bT v.cells=ab then aa ⟨t,l,D.set i (setAt cs o v.cells)⟩ else none:=rfl
def iS{b:Nat}:(D.set b cs).box b=aa cs:=by simp[ah.set]
def pf{b c:Nat}(h:c≠b):(D.set b cs).box c=D.box c:=by simp[ah.set,h]
theorem auI{b Z n:Nat}:(D.a_ Z n).box b=D.box b:=rfl
theorem auL{b g:Nat}:(D.set b cs).b8 g=D.b8 g:=rfl
theorem auJ{g n:Nat}:(D.a_ Z n).b8 g=D.b8 g:=rfl
theorem auP{b Z:Nat}:(D.set b cs).aR Z=D.aR Z:=rfl
def PD{n:Nat}:(D.a_ Z n).aR Z=aa n:=by simp[ah.a_]
def qE{υ n:Nat}(h:υ≠Z):(D.a_ Z n).aR υ=D.aR υ:=by simp[ah.a_,h]
theorem acv:p7 st c []=aa c:=rfl
def RS(st:St)(c:List V)(off n:Nat)(v:V)(ps:List (Nat × Nat × X)):Option (List V):=if cw n (c.drop off)=ab/\v.wd=aa n then p7 st (setAt c off v.cells) ps else aj
variable{off:Nat}
theorem acu{n:Nat}:p7 st c ((off,n,x)::ps)=RS st c off n (ev st x) ps:=rfl
theorem aco{n:Nat}:RS st c off n v ps=if cw n (c.drop off)=ab/\v.wd=aa n then p7 st (setAt c off v.cells) ps else none:=rfl
theorem atU{k:Nat}:mj st k []=aa []:=rfl
def Pf(c:List V):Option (List (List V))->Option (List (List V)) | some l=>aa (c::l) | none=>aj
theorem atJ:Pf c (aa m)=aa (c::m):=rfl
def Pd(st:St)(k:Nat)(v:V)(xs:List X):Option (List (List V)):=if v.wd=aa k/\bT v.cells=ab/\cW v.cells=ab then Pf (bD v.cells) (mj st k xs) else aj
def atT{xs:List X}:mj st k (x::xs)=Pd st k (ev st x) xs:=by
 simp only[mj,Pd];cases mj st k xs<;>rfl
theorem atE{xs:List X}:Pd st k v xs=if v.wd=aa k/\bT v.cells=ab/\cW v.cells=ab then Pf (bD v.cells) (mj st k xs) else none:=rfl
def dp(v v' : V):Prop:=∀E u,R E v u->R E v' u
def dp.rfl:dp v v:=λ_ _ h=>h
def dp.any:dp v .any:=λ_ _ _=>by simp only[R]
def dp.erase:dp v v.erase:=λ_ _ h=>R.erase v h
def dp.no{Z:Tk}:dp (.sl Z k m) (.sl .no k m):=λ_ _ h=>R.erase (.sl Z k m) h
def da:List V->List V->Prop
 | [],[]=>True
 | v::l,v' :: l' => dp v v' /\ da l l'
 | _,_=>False
def da.rfl:∀{l:List V},da l l
 | []=>trivial
 | _::_=>⟨dp.rfl,da.rfl⟩
def da.mono:∀{l l' : List V} {E:Env} {us:List Value},da l l' -> RL E l us->RL E l' us
 | [],[],_,_,_,h=>h
 | [],_::_,_,_,h,_=>h.elim
 | _::_,[],_,_,h,_=>h.elim
 | v::l,v' :: l',_,[],_,h=>by simp[RL] at h
 | v :: l, v' :: l', _, u :: us, h, hr => by
  simp only[RL] at hr ⊢;exact⟨h.1 _ _ hr.1,da.mono h.2 hr.2⟩
def da.length:∀{l l' : List V},da l l' -> l.length=l'.length
 | [],[],_=>Eq.refl _
 | [],_::_,h=>h.elim
 | _::_,[],h=>h.elim
 | v::l,v' :: l',h=>by simp[da.length h.2]
def da.get:∀{l l' : List V},da l l' -> ∀(j:Nat) v',l'[j]?=aa v' -> ∃v,l[j]?=aa v/\dp v v'
 | [],[],_,j,v',h=>by simp at h
 | [],_::_,h,_,_,_=>h.elim
 | _::_,[],h,_,_,_=>h.elim
 | v :: l, w :: l', h, j, v', hj => by
  cases j with
  | zero=>simp at hj;subst hj;exact⟨v,by simp,h.1⟩
  | succ j=>simp at hj;obtain⟨u,U,h2⟩:=da.get h.2 j v' hj;exact⟨u,by simpa using U,h2⟩
def cT:List (List V)->List (List V)->Prop
 | [],[]=>True
 | v::l,v' :: l' => da v v' /\ cT l l'
 | _,_=>False
def cT.rfl:∀{l:List (List V)},cT l l
 | []=>trivial
 | _::_=>⟨da.rfl,cT.rfl⟩
def cT.length:∀{l l' : List (List V)},cT l l' -> l.length=l'.length
 | [],[],_=>Eq.refl _
 | [],_::_,h=>h.elim
 | _::_,[],h=>h.elim
 | v::l,v' :: l',h=>by simp[cT.length h.2]
def cT.get:∀{l l' : List (List V)},cT l l' -> ∀(j:Nat) v',l'[j]?=aa v' -> ∃v,l[j]?=aa v/\da v v'
 | [],[],_,j,v',h=>by simp at h
 | [],_::_,h,_,_,_=>h.elim
 | _::_,[],h,_,_,_=>h.elim
 | v :: l, w :: l', h, j, v', hj => by
  cases j with
  | zero=>simp at hj;subst hj;exact⟨v,by simp,h.1⟩
  | succ j=>simp at hj;obtain⟨u,U,h2⟩:=cT.get h.2 j v' hj;exact⟨u,by simpa using U,h2⟩
variable{E:Env}{cs':List V}
def j4.eC{b:Nat}(h:da cs cs')(k:j4 E b cs):j4 E b cs' := by
 obtain⟨c,e,U,h2,h3⟩:=k;refine⟨c,e,U,by rw[<-h.length];exact h2,λj x hx=>?_⟩;obtain⟨v,hv,hle⟩:=h.get j x hx;obtain⟨u,k1,k2⟩:=h3 j v hv;exact⟨u,k1,hle _ _ k2⟩
structure bW(D σ' : ah):Prop where
 box:∀b cs',σ'.box b=aa cs' -> ∃cs,D.box b=aa cs/\da cs cs'
 aR:∀Z n,σ'.aR Z=aa n->D.aR Z=aa n
 b8:∀b cs,σ'.b8 b=aa cs->D.b8 b=aa cs
def bW.rfl{D:ah}:bW D D:=⟨λ_ cs h=>⟨cs,h,da.rfl⟩,λ_ _ h=>h,λ_ _ h=>h⟩
def bW.aqV{D σ' : ah}(h:σ'.sub D):bW D σ' := ⟨λb cs k=>⟨cs,h.1 b cs k,da.rfl⟩,h.2.1,h.2.2⟩
def bI.eC{t t' : List V}{l l' : List (List V)}{D σ' : ah}(h:da t t')(hl:cT l l')(ho:bW D σ')(hk:K ⟨t',l',σ'⟩):bI ⟨t,l,D⟩ K:=by
 intro E a hs;refine⟨E,_,rfl,Fr.refl E,⟨⟨λb cs b7=>?_,λZ n hn=>hs.ok.aR Z n (ho.aR Z n hn),hs.ok.fresh,hs.ok.nt,λb cs hc=>hs.ok.b8 b cs (ho.b8 b cs hc)⟩,⟨λi cs b7=>?_,λi hi=>hs.dv.none i (by rw[hl.length];exact hi)⟩,hs.defers,h.mono hs.slot⟩,hk⟩
 .obtain⟨A6,U,h2⟩:=ho.box b cs b7;obtain⟨k1,k2⟩:=hs.ok.box b A6 U;exact⟨k1,k2.eC h2⟩
 .obtain⟨A6,U,h2⟩:=hl.get i cs b7;obtain⟨b,k1,k2,k3⟩:=hs.dv.box i A6 U;exact⟨b,k1,k2,k3.eC h2⟩
variable{as:List V}
def ch.eC{as':List V}{D σ' : ah}(h:ch P f as' σ' R')(ha:da as as')(ho:bW D σ'):ch P f as D R' := by
 refine⟨h.1,λE vs U h2 h3=>h.2 E vs U ?_ (ha.mono h3)⟩;refine⟨λb cs b7=>?_,λZ n hn=>h2.aR Z n (ho.aR Z n hn),h2.fresh,h2.nt,λb cs hc=>h2.b8 b cs (ho.b8 b cs hc)⟩;obtain⟨A6,k1,k2⟩:=ho.box b cs b7;obtain⟨k3,k4⟩:=h2.box b A6 k1;exact⟨k3,k4.eC k2⟩
end
section
variable {P:Program} {d:Option Nat} {r:List (AO × List Nat)} {K:St->Prop} {t:List V} {l:List (List V)} {D:ah} {x y z:X} {st:St} {SN:List dy} {L:List (V × Bool × Nat × V × List Nat)} {ms:List Nat}
theorem aeR:cJ P [] SN L K st=(rI SN L/\K st):=rfl
def kD(P:Program)(d:Option Nat)(r:List (AO × List Nat))(SN:List dy)(L:List (V × Bool × Nat × V × List Nat))(K:St->Prop)(st:St)(v:V):Prop:=cJ P r SN L K (st.put d v)
variable{v:V}
theorem anv:kD P d r SN L K ⟨t,l,D⟩ v=cJ P r SN L K (St.put ⟨t,l,D⟩ d v):=rfl
theorem aeQ:cJ P ((⟨d,.mv x,aj⟩,ms)::r) SN L K st=cJ P r SN L K (st.put d (ev st x)):=rfl
def zX(P:Program)(v a b:V)(d:Option Nat)(r:List (AO × List Nat))(SN:List dy)(L:List (V × Bool × Nat × V × List Nat))(K:St->Prop)(st:St):Prop:=match v with | .bool ab=>cJ P r SN L K (st.put d a) | .bool ar=>cJ P r SN L K (st.put d b) | _=>False
def aeU:cJ P ((⟨d,.pick x y z,aj⟩,ms)::r) SN L K st=zX P (ev st x) (ev st y) (ev st z) d r SN L K st:=by
 show(match ev st x with | .bool ab=>_ | .bool ar=>_ | _=>False)=_;unfold zX;cases ev st x<;>first | rfl | (rename_i b;cases b<;>rfl)
theorem ar1{u:V}:zX P (.bool ab) u v d r SN L K st=cJ P r SN L K (st.put d u):=rfl
theorem arZ{u:V}:zX P (.bool ar) u v d r SN L K st=cJ P r SN L K (st.put d v):=rfl
def ar0{b c:Bool}:zX P (.bool b) (.bool c) (.bool ar) d r SN L K st=cJ P r SN L K (st.put d (.bool (b&&c))):=by cases b<;>simp[zX]
def ar2{b c:Bool}:zX P (.bool b) (.bool ab) (.bool c) d r SN L K st=cJ P r SN L K (st.put d (.bool (b||c))):=by cases b<;>simp[zX]
variable{c:List V}
theorem aeq:cJ P ((⟨d,.alloc c,aj⟩,ms)::r) SN L K ⟨t,l,D⟩=cJ P r (SN++[(l++[c],D)]) L K (St.put ⟨t,l++[c],D⟩ d (.ptr (.aE l.length) 0)):=rfl
theorem aev{n:Nat}:cJ P ((⟨d,.box n x,aj⟩,ms)::r) SN L K ⟨t,l,D⟩=((ev ⟨t,l,D⟩ x).wd=aa n/\cJ P r (SN++[(l++[(ev ⟨t,l,D⟩ x).cells],D)]) L K (St.put ⟨t,l++[(ev ⟨t,l,D⟩ x).cells],D⟩ d (.ptr (.aE l.length) 0))):=rfl
theorem aew{n:Nat}:cJ P ((⟨d,.vO n x,aj⟩,ms)::r) SN L K ⟨t,l,D⟩=((ev ⟨t,l,D⟩ x).wd=aa n/\cW (ev ⟨t,l,D⟩ x).cells=ab/\cJ P r (SN++[(l++[(ev ⟨t,l,D⟩ x).cells],D)]) L K (St.put ⟨t,l++[(ev ⟨t,l,D⟩ x).cells],D⟩ d (.ptr (.aE l.length) 0))):=rfl
variable{ps:List (Nat × Nat × X)}
theorem aey:cJ P ((⟨d,.build c ps,aj⟩,ms)::r) SN L K st=rk ((p7 st c ps).map V.agg) (kD P d r SN L K st):=rfl
variable{k:Nat}
def aex{xs:List X}:cJ P ((⟨d,.ko k xs,aj⟩,ms)::r) SN L K st=OG (mj st k xs) k (kD P d r SN L K st):=by
 show opt ((mj st k xs).map (V.sl .aZ k)) _=_;cases mj st k xs<;>rfl
def VM(P:Program)(a:V)(g:Bool)(n:Nat)(ms:List Nat)(d:Option Nat)(r:List (AO × List Nat))(SN:List dy)(L:List (V × Bool × Nat × V × List Nat))(K:St->Prop)(st:St):Option V->Prop
 | some v=>cJ P r SN ((a,g,n,v,ms)::L) K (st.put d v)
 | none=>False
theorem anZ{a v:V}{g:Bool}{n:Nat}:VM P a g n ms d r SN L K st (aa v)=cJ P r SN ((a,g,n,v,ms)::L) K (st.put d v):=rfl
variable{g:Bool}
def aeO{n:Nat}:cJ P ((⟨d,.load g n x,aj⟩,ms)::r) SN L K st=VM P (ev st x) g n ms d r SN L K st (mf st g n (ev st x)):=by
 show opt (mf st g n (ev st x)) _=_;cases mf st g n (ev st x)<;>rfl
def Zt(P:Program)(d:Option Nat)(r:List (AO × List Nat))(SN:List dy)(L:List (V × Bool × Nat × V × List Nat))(K:St->Prop):Option St->Prop
 | some st=>cJ P r (SN++[(st.aE,st.out)]) L K (st.put d .any)
 | none=>False
theorem au':Zt P d r SN L K (aa ⟨t,l,D⟩)=cJ P r (SN++[(l,D)]) L K (St.put ⟨t,l,D⟩ d .any):=rfl
def aeX{n:Nat}:cJ P ((⟨d,.store n x y,aj⟩,ms)::r) SN L K st=Zt P d r SN L K (dW st n (ev st y) (ev st x)):=by
 show(match dW st n (ev st y) (ev st x) with | some aP => _ | none=>False)=_;cases dW st n (ev st y) (ev st x)<;>rfl
def aeS:cJ P ((⟨d,.wN x,aj⟩,ms)::r) SN L K st=BU (ev st x) (kD P d r SN L K st):=by
 show(match ev st x with | .ptr p o=>_ | .elt c o=>_ | .fn (.func f) a b=>_ | _=>False)=_;unfold BU;cases ev st x<;>first | rfl | (rename_i f _ _;cases f<;>rfl)
theorem aet{op:BinOp}:cJ P ((⟨d,.dU op x y,aj⟩,ms)::r) SN L K st=rk (vN op (ev st x) (ev st y)) (kD P d r SN L K st):=rfl
theorem aeu{op:BinOp}:cJ P ((⟨d,.pZ op x y,aj⟩,ms)::r) SN L K st=rk (AW op (ev st x) (ev st y)) (kD P d r SN L K st):=rfl
theorem aes{n:Bool}:cJ P ((⟨d,.vM n x y,aj⟩,ms)::r) SN L K st=rk (y8 n (ev st x) (ev st y)) (kD P d r SN L K st):=rfl
theorem aeB:cJ P ((⟨d,.cat x y,aj⟩,ms)::r) SN L K st=Hp (ev st x) (ev st y) (kD P d r SN L K st):=rfl
variable{ks:List Nat}
theorem aeE{n:Bool}:cJ P ((⟨d,.l8 n ks x y,aj⟩,ms)::r) SN L K st=rk (y7 n ks (ev st x) (ev st y)) (kD P d r SN L K st):=rfl
def aeT:cJ P ((⟨d,.not x,aj⟩,ms)::r) SN L K st=FY (ev st x) (kD P d r SN L K st):=by
 show(match ev st x with | .bool b=>_ | _=>False)=_;unfold FY;cases ev st x<;>rfl
def aeM:cJ P ((⟨d,.wJ x,aj⟩,ms)::r) SN L K st=FJ (ev st x) (kD P d r SN L K st):=by
 show(match ev st x with | .sl _ _ l=>_ | .raw (.slice _ n _)=>_ | _=>False)=_;unfold FJ;cases ev st x<;>rfl
def aeN:cJ P ((⟨d,.wK x,aj⟩,ms)::r) SN L K st=FK (ev st x) (kD P d r SN L K st):=by
 show(match ev st x with | .aG s=>_ | _=>False)=_;unfold FK;cases ev st x<;>rfl
def aeG{n:Nat}:cJ P ((⟨d,.qa n x,aj⟩,ms)::r) SN L K st=CT n (ev st x) (kD P d r SN L K st):=by
 show(match ev st x with | .ptr p o=>_ | .elt c o=>_ | _=>False)=_;unfold CT;cases ev st x<;>rfl
def aeH{g:Bool}{n m:Nat}:cJ P ((⟨d,.v9 g m n x,aj⟩,ms)::r) SN L K st=EE g m n (ev st x) (kD P d r SN L K st):=by
 show(match ev st x with | .agg cs=>_ | _=>False)=_;unfold EE;cases ev st x<;>rfl
def aeJ:cJ P ((⟨d,.tT k x y,aj⟩,ms)::r) SN L K st=BD k (ev st x) (ev st y) (kD P d r SN L K st):=by
 show(match ev st x with | .sl _ k' l=>_ | .raw (.slice (aa ⟨b,o,aj⟩) n _)=>_ | _=>False)=_;unfold BD;cases ev st x<;>rfl
def aeK{m:Nat}:cJ P ((⟨d,.sO m k x y,aj⟩,ms)::r) SN L K st=zD m k (ev st x) (ev st y) (kD P d r SN L K st):=by
 show(match ev st x with | .ptr p o=>_ | .elt c o=>_ | _=>False)=_;unfold zD;cases ev st x<;>rfl
def aeL:cJ P ((⟨d,.tV x y,aj⟩,ms)::r) SN L K st=Di (ev st x) (ev st y) (kD P d r SN L K st):=by
 show(match ev st x with | .aG s=>_ | _=>False)=_;unfold Di;cases ev st x<;>rfl
def IQ(P:Program)(d:Option Nat)(r:List (AO × List Nat))(SN:List dy)(L:List (V × Bool × Nat × V × List Nat))(K:St->Prop)(t:List V)(l:List (List V))(v:V)(D:ah):Prop:=cJ P r (SN++[(l,D)]) L K (St.put ⟨t,l,D⟩ d v)
theorem ant{v:V}:IQ P d r SN L K t l v D=cJ P r (SN++[(l,D)]) L K (St.put ⟨t,l,D⟩ d v):=rfl
def bK(P:Program)(f:FuncId)(as:List V)(D:ah)(K:V->ah->Prop):Prop:=∃v σ',ch P f as D (λv' td => v' = v/\td = σ')/\K v σ'
variable{as:List V}{f:FuncId}{σ':ah}
def bK.intro{K:V->ah->Prop}(h:ch P f as D λv' td => v' = v/\td = σ')(k:K v σ'):bK P f as D K:=⟨v,σ',h,k⟩
def cl{K:V->ah->Prop}(h:ch P f as D λv' td => v' = v/\td = σ')(k:K v σ'):ch P f as D K:=h.mono λ_ _ e=>e.1▸e.2▸k
theorem aez{xs:List X}:cJ P ((⟨d,.call f xs,aj⟩,ms)::r) SN L K ⟨t,l,D⟩=(bT (dw ⟨t,l,D⟩ xs)=ab/\bK P f (dw ⟨t,l,D⟩ xs) D (IQ P d r SN L K t l)):=rfl
def Lb(P:Program)(v:V)(args:List V)(D:ah)(K:V->ah->Prop):Prop:=match v with | .fn (.func f) a b=>bT (a++args++b)=ab/\bK P f (a++args++b) D K | _=>False
def aeA{xs:List X}:cJ P ((⟨d,.jj x xs,aj⟩,ms)::r) SN L K ⟨t,l,D⟩=Lb P (ev ⟨t,l,D⟩ x) (dw ⟨t,l,D⟩ xs) D (IQ P d r SN L K t l):=by
 show(match ev ⟨t,l,D⟩ x with | .fn (.func f) a b=>_ | _=>False)=_;unfold Lb;cases ev ⟨t,l,D⟩ x<;>first | rfl | (rename_i f _ _;cases f<;>rfl)
variable{args:List V}
theorem ac7{u v:List V}{K:V->ah->Prop}:Lb P (.fn (.func f) u v) args D K=(bT (u++args++v)=ab/\bK P f (u++args++v) D K):=rfl
theorem aer:cJ P ((⟨d,.app k x y,aj⟩,ms)::r) SN L K ⟨t,l,D⟩=Az D k (ev ⟨t,l,D⟩ x) (ev ⟨t,l,D⟩ y) (IQ P d r SN L K t l):=rfl
variable{m:List (List V)}{u:Tk}{Z:Nat}
def xo{n:List (List V)}{K:V->ah->Prop}(hb:m.length+n.length<=aQ)(ht:D.aR Z=aa m.length)(hk:K (.sl (.tk Z) k (m++n)) (D.a_ Z (m.length+n.length))):
 Az D k (.sl (.tk Z) k m) (.sl u k n) K:=⟨_,m,n,rfl,⟨u,rfl⟩,hb,ht,hk⟩
def aa6{n:List (List V)}{K:V->ah->Prop}(hb:m.length+n.length<=aQ)(hk:K (.sl .no k (m++n)) D):
 Az D k (.sl .aZ k m) (.sl u k n) K:=⟨_,m,n,rfl,⟨u,rfl⟩,hb,.inl hk⟩
def aa7{n:List (List V)}{K:V->ah->Prop}(hb:m.length+n.length<=aQ)(ht:D.aR Z=aa m.length)(hk:K (.sl (.tk Z) k (m++n)) (D.a_ Z (m.length+n.length))):
 Az D k (.sl .aZ k m) (.sl u k n) K:=⟨_,m,n,rfl,⟨u,rfl⟩,hb,.inr ⟨Z,ht,hk⟩⟩
def aeF{i:Nat}:cJ P ((⟨d,.ext x i,aj⟩,ms)::r) SN L K st=A9 i (ev st x) (kD P d r SN L K st):=by
 show(match ev st x with | .bH vs=>_ | _=>False)=_;unfold A9;cases ev st x<;>rfl
theorem aeP{f:Fn}{as bs:List X}:cJ P ((⟨d,.ky f as bs,aj⟩,ms)::r) SN L K st=cJ P r SN L K (st.put d (.fn f (dw st as) (dw st bs))):=rfl
def aeD{k:IntKind}:cJ P ((⟨d,.qP k x,aj⟩,ms)::r) SN L K st=Er k (ev st x) (kD P d r SN L K st):=by
 show(match ev st x with | .int _ n=>_ | _=>False)=_;unfold Er;cases ev st x<;>rfl
theorem aeC:cJ P ((⟨d,.uD x,aj⟩,ms)::r) SN L K st=(∃t s,ev st x = .sl t 1 (dK s)/\kD P d r SN L K st (.aG s)):=rfl
def gD(P:Program)(v:V)(w:Bool)(d:Option Nat)(op:aO)(ms:List Nat)(r:List (AO × List Nat))(SN:List dy)(L:List (V × Bool × Nat × V × List Nat))(K:St->Prop)(st:St):Prop :=
 match v with
 | .bool b=>if b=w then cJ P ((⟨d,op,aj⟩,ms)::r) SN L K st else cJ P r (if op.bB then SN++[(st.aE,st.out)] else SN) L K (st.put d (.bH []))
 | .bH []=>cJ P r (if op.bB then SN++[(st.aE,st.out)] else SN) L K (st.put d (.bH []))
 | _=>False
def aeI{g:Nat}{w:Bool}{op:aO}:cJ P ((⟨d,op,aa (g,w)⟩,ms)::r) SN L K ⟨t,l,D⟩=gD P (t.getD g .any) w d op ms r SN L K ⟨t,l,D⟩:=by
 simp only[cJ,gD,ev];generalize t.getD g .any=v;cases v<;>first | rfl | (rename_i m;cases m<;>rfl)
theorem ak0{w:Bool}{op:aO}:gD P (.bH []) w d op ms r SN L K ⟨t,l,D⟩=cJ P r (if op.bB=ab then SN++[(l,D)] else SN) L K (St.put ⟨t,l,D⟩ d (.bH [])):=rfl
theorem akZ{op:aO}:gD P (.bool ab) ab d op ms r SN L K st=cJ P ((⟨d,op,aj⟩,ms)::r) SN L K st:=rfl
theorem akW{op:aO}:gD P (.bool ar) ar d op ms r SN L K st=cJ P ((⟨d,op,aj⟩,ms)::r) SN L K st:=rfl
theorem akY{op:aO}:gD P (.bool ab) ar d op ms r SN L K ⟨t,l,D⟩=cJ P r (if op.bB=ab then SN++[(l,D)] else SN) L K (St.put ⟨t,l,D⟩ d (.bH [])):=rfl
theorem akX{op:aO}:gD P (.bool ar) ab d op ms r SN L K ⟨t,l,D⟩=cJ P r (if op.bB=ab then SN++[(l,D)] else SN) L K (St.put ⟨t,l,D⟩ d (.bH [])):=rfl
theorem ady:rI SN []=True:=rfl
theorem adx{n:Nat}{a:V}:rI SN ((a,g,n,v,ms)::L)=(AZ SN g n a v ms/\rI SN L):=rfl
theorem adw{n:Nat}{a:V}:AZ SN g n a v []=True:=rfl
theorem adv{g:Bool}{n m:Nat}{a v:V}:AZ SN g n a v (m::ms)=(sT (SN.getD m DK) g n a=aa v/\AZ SN g n a v ms):=rfl
theorem auR{s u:dy}:(s::SN).getD 0 u=s:=rfl
theorem auS{s u:dy}{n:Nat}:(s::SN).getD (n+1) u=SN.getD n u:=rfl
theorem aur{s:dy}:([]:List dy)++[s]=[s]:=rfl
theorem aus{s u:dy}:(s::SN)++[u]=s::(SN++[u]):=rfl
theorem an2{g:Bool}{n i o:Nat}:sT (l,D) g n (.ptr (.aE i) o)=BK l[i]? g n o:=rfl
theorem an3{g:Bool}{n i o:Nat}:sT (l,D) g n (.ptr (.out i) o)=BK (D.box i) g n o:=rfl
variable{i o:Nat}
theorem an1{n:Nat}:sT (l,D) g n (.ptr (.kT i) o)=BK (D.b8 i) g n o:=rfl
variable{cs:List V}
theorem an0{n:Nat}{s:dy}:sT s g n (.elt cs o)=bP g n (cs.drop o):=rfl
def Hx(P:Program)(l:List (List V))(D:ah)(o:List (AO × List Nat))(K:St->Prop):Option (List V)->Prop
 | some t=>cJ P o [(l,D)] [] K ⟨t,l,D⟩
 | none=>False
variable{Q:Exit->St->Prop}
def awf{o:List (AO × List Nat)}{nv:List Nat}:vc P (.Hw nv o) Q ⟨t,l,D⟩=Hx P l D o (Q .normal) (uz nv t):=by
 simp only[vc];cases uz nv t with
 | none=>simp[Hx]
 | some t' => simp[Hx]
theorem ae2{K:St->Prop}{o:List (AO × List Nat)}:Hx P l D o K (aa t)=cJ P o [(l,D)] [] K ⟨t,l,D⟩:=rfl
theorem aa3:uz [] t=aa t:=rfl
def K0(b:Bool)(x:Option (List V)):Option (List V):=if b then x else aj
def aa2{d:Nat}{ds:List Nat}:uz (d::ds) t=K0 (decide (d<t.length)) (uz ds (t.set d .any)):=by
 simp only[uz,K0,bQ]
theorem aa4{y:Option (List V)}:K0 ab y=y:=rfl
theorem awh{o:List (AO × List Nat)}{h:HI}:vc P (.hole o h) Q ⟨t,l,D⟩=cJ P o [(l,D)] [] (GK h (Q .normal)) ⟨t,l,D⟩:=rfl
theorem amx{h:HI}:GK h K ⟨t,l,D⟩=Ko h K ⟨sb h t,l,D⟩:=rfl
theorem awR{k:Nat}{a b c e f:X}{d9 d10 dF:Nat}:sb ⟨k,a,b,c,e,f,aj,d9,d10,dF⟩ t=(t.set d9 .any).set d10 .any:=rfl
variable{off:Nat}
theorem awS{a b c e f:X}{d9 d10 dF:Nat}:sb ⟨k,a,b,c,e,f,aa off,d9,d10,dF⟩ t=((t.set d9 .any).set d10 .any).set dF .any:=rfl
def UU{h:HI}{t' : Tk}{j:IntKind}{p:V}{aP : St}(es:ev ⟨t,l,D⟩ h.s = .sl (.tk Z) h.k m)(ez:ev ⟨t,l,D⟩ h.z = .sl t' h.k [c])
 (el:ev ⟨t,l,D⟩ h.len = .int j m.length) (hb:m.length+1<=aQ) (ht:D.aR Z=aa m.length) (hx:(ev ⟨t,l,D⟩ h.x).wd=aa h.k/\cW (ev ⟨t,l,D⟩ h.x).cells=ab/\bT (ev ⟨t,l,D⟩ h.x).cells=ab)
 (b7:bD (ev ⟨t,l,D⟩ h.x).cells=cs) (hd:h.d9<t.length/\h.d10<t.length/\(h.fo.isSome=ab->h.dF<t.length)) (hp:ED h.fo (ev ⟨t,l,D⟩ h.addr)=aa p)
 (eE:dW ⟨t,l,D⟩ 1 (.sl (.tk Z) h.k (m++[cs])) p=aa aP) (hk:K ⟨aP.t,aP.aE,aP.out.a_ Z (m.length+1)⟩):Ko h K ⟨t,l,D⟩ :=
 ⟨Z,m,c,t',j,es,ez,el,hb,ht,hx.1,hx.2.1,hx.2.2,hd.1,hd.2.1,hd.2.2,p,hp,aP,by rw[b7];exact eE,hk⟩
end
section
variable {x y z:X} {n m:Nat} {c:List V} {g:Bool} {bo:BinOp} {ks:List Nat} {xs ys:List X} {ps:List (Nat × Nat × X)} {fn:Fn} {ik:IntKind}
theorem afA:(aO.pick x y z).bB=false:=rfl
theorem ae8:(aO.alloc c).bB=true:=rfl
theorem afd:(aO.vO n x).bB=true:=rfl
theorem afc:(aO.box n x).bB=true:=rfl
theorem aff:(aO.build c ps).bB=false:=rfl
theorem afe:(aO.ko n xs).bB=false:=rfl
theorem afu:(aO.load g n x).bB=false:=rfl
theorem afB:(aO.store n x y).bB=true:=rfl
theorem afx:(aO.wN x).bB=false:=rfl
theorem afa:(aO.dU bo x y).bB=false:=rfl
theorem afb:(aO.pZ bo x y).bB=false:=rfl
theorem ae':(aO.vM g x y).bB=false:=rfl
theorem afi:(aO.cat x y).bB=false:=rfl
theorem afl:(aO.l8 g ks x y).bB=false:=rfl
theorem afy:(aO.not x).bB=false:=rfl
theorem afs:(aO.wJ x).bB=false:=rfl
theorem aft:(aO.wK x).bB=false:=rfl
theorem afn:(aO.qa n x).bB=false:=rfl
theorem afo:(aO.v9 g n m x).bB=false:=rfl
theorem afp:(aO.tT n x y).bB=false:=rfl
theorem afq{m k:Nat}:(aO.sO m k x y).bB=false:=rfl
theorem afr:(aO.tV x y).bB=false:=rfl
theorem afg:(aO.call n xs).bB=true:=rfl
theorem afh:(aO.jj x xs).bB=true:=rfl
theorem ae9:(aO.app n x y).bB=true:=rfl
theorem ae_:(aO.n6 x y).bB=true:=rfl
theorem afm:(aO.ext x n).bB=false:=rfl
theorem afv:(aO.ky fn xs ys).bB=false:=rfl
theorem afk:(aO.qP ik x).bB=false:=rfl
theorem afj:(aO.uD x).bB=false:=rfl
theorem afw:(aO.mv x).bB=false:=rfl
end
section
variable {k:IntKind} {a b:Int} {c e:List V} {n m:Nat} {x y:V} {u v:List UInt8} {p q:Bool} {l:List (List V)} {Z:Tk}
def IG:BE k k=true:=by cases k<;>rfl
def acm{op:BinOp}:vN op (.int k a) (.int k b)=iJ k a b op:=by simp[vN,IG]
theorem amU:iJ k a b .add=aa (.int k (k.wrap (a+b))):=rfl
theorem am2:iJ k a b .sub=aa (.int k (k.wrap (a - b))):=rfl
theorem am0:iJ k a b .mul=aa (.int k (k.wrap (a*b))):=rfl
theorem amV:iJ k a b .eql=aa (.bool (decide (a=b))):=rfl
theorem am1:iJ k a b .neq=aa (.bool (!decide (a=b))):=rfl
theorem amZ:iJ k a b .lss=aa (.bool (decide (a<b))):=rfl
theorem amY:iJ k a b .leq=aa (.bool (decide (a<=b))):=rfl
theorem amX:iJ k a b .gtr=aa (.bool (decide (b<a))):=rfl
theorem amW:iJ k a b .geq=aa (.bool (decide (b<=a))):=rfl
theorem acn{op:BinOp}:AW op (.aG u) (.aG v)=yt u v op:=rfl
theorem avt:yt u v .eql=aa (.bool (decide (u=v))):=rfl
theorem avy:yt u v .neq=aa (.bool (!decide (u=v))):=rfl
theorem avx:yt u v .lss=aa (.bool (Op.bytesLess u v)):=rfl
theorem avw:yt u v .leq=aa (.bool (Op.bytesLess u v||decide (u=v))):=rfl
theorem avv:yt u v .gtr=aa (.bool (!(Op.bytesLess u v||decide (u=v)))):=rfl
theorem avu:yt u v .geq=aa (.bool (!Op.bytesLess u v)):=rfl
theorem afL:y8 ar (.bool p) (.bool q)=aa (.bool (decide (p=q))):=rfl
theorem afM:y8 ab (.bool p) (.bool q)=aa (.bool (!decide (p=q))):=rfl
def LI(neg:Bool):Option Bool->Option V | some b=>aa (.bool (if neg then !b else b)) | none=>aj
theorem afO:LI ar (aa p)=aa (.bool p):=rfl
theorem afP:LI ab (aa p)=aa (.bool (!p)):=rfl
variable{ks:List Nat}
def afK{neg:Bool}:y7 neg ks (.agg c) (.agg e)=LI neg (fZ ks c e):=by
 simp only[y7];cases fZ ks c e<;>rfl
def andM(b:Bool):Option Bool->Option Bool | some c=>aa (b&&c) | none=>aj
theorem tA:andM p (aa q)=aa (p&&q):=rfl
theorem LG:fZ [] [] []=aa true:=rfl
def v7:fZ (1::ks) (.int k a::c) (.int k b::e)=andM (decide (a=b)) (fZ ks c e):=by
 simp only[fZ,IG,cM];cases fZ ks c e<;>rfl
def LH:fZ (2::ks) (.aG u::c) (.aG v::e)=andM (decide (u=v)) (fZ ks c e):=by
 simp only[fZ];cases fZ ks c e<;>rfl
def afN{ks:List Nat}:fZ (0::ks) (.bool p::c) (.bool q::e)=andM (decide (p=q)) (fZ ks c e):=by
 simp only[fZ];cases fZ ks c e<;>rfl
theorem awE:(V.agg c).wd=aa c.length:=rfl
theorem awI:(V.int k a).wd=aa 1:=rfl
theorem awF:(V.bool p).wd=aa 1:=rfl
theorem awM:(V.aG u).wd=aa 1:=rfl
theorem awL:(V.sl Z n l).wd=aa 1:=rfl
theorem awK{o:Pl}:(V.ptr o n).wd=aa 1:=rfl
theorem awG:(V.elt c n).wd=aa 1:=rfl
theorem awH{f:Fn}:(V.fn f c e).wd=aa 1:=rfl
theorem awJ:V.jr.wd=aa 1:=rfl
theorem adj:(V.agg c).cells=c:=rfl
theorem adn:(V.int k a).cells=[.int k a]:=rfl
theorem adk:(V.bool p).cells=[.bool p]:=rfl
theorem adt:(V.aG u).cells=[.aG u]:=rfl
theorem ads:(V.sl Z n l).cells=[.sl Z n l]:=rfl
theorem adr{o:Pl}:(V.ptr o n).cells=[.ptr o n]:=rfl
theorem adl:(V.elt c n).cells=[.elt c n]:=rfl
theorem adm{f:Fn}:(V.fn f c e).cells=[.fn f c e]:=rfl
theorem ado:V.jr.cells=[.jr]:=rfl
theorem aq2:cW []=true:=rfl
theorem aq1:cW (x::c)=(x.one&&cW c):=rfl
theorem OC:(V.int k a).one=true:=rfl
theorem aq3:(V.bool p).one=true:=rfl
theorem W3:(V.aG u).one=true:=rfl
theorem aq9:(V.sl Z n l).one=true:=rfl
theorem aq8{o:Pl}:(V.ptr o n).one=true:=rfl
theorem aq4:(V.elt c n).one=true:=rfl
theorem aq6{f:Fn}:(V.fn f c e).one=true:=rfl
theorem aq7:V.jr.one=true:=rfl
theorem apX:bT []=true:=rfl
theorem apW:bT (x::c)=(x.c9&&bT c):=rfl
theorem ap4:(V.int k a).c9=true:=rfl
theorem ap0:(V.bool p).c9=true:=rfl
theorem ap9:(V.aG u).c9=true:=rfl
theorem ap8:(V.sl Z n l).c9=true:=rfl
theorem apZ:V.any.c9=true:=rfl
theorem ap6:(V.ptr (.out m) n).c9=true:=rfl
theorem ap3:(V.ptr (.kT m) n).c9=true:=rfl
theorem ap1:(V.elt c n).c9=true:=rfl
theorem ap5:V.jr.c9=true:=rfl
theorem apY:(V.agg c).c9=bT c:=rfl
theorem ap_:(V.bH c).c9=bT c:=rfl
theorem ap2{f:Fn}:(V.fn f c e).c9=(bT c&&bT e):=rfl
theorem ap7{w:Value}:(V.raw w).c9=true:=rfl
theorem afX:(V.int k a).erase = .int k a:=rfl
theorem afU:(V.bool p).erase = .bool p:=rfl
theorem af1:(V.aG u).erase = .aG u:=rfl
theorem af0:(V.sl Z n l).erase = .sl .no n l:=rfl
theorem afT:V.any.erase = .any:=rfl
theorem afZ{o:Pl}:(V.ptr o n).erase = .ptr o n:=rfl
theorem afV:(V.elt c n).erase = .elt c n:=rfl
theorem afY:V.jr.erase = .jr:=rfl
theorem afS:(V.agg c).erase = .agg (bD c):=rfl
theorem af2:(V.bH c).erase = .bH (bD c):=rfl
theorem afW{f:Fn}:(V.fn f c e).erase = .fn f c e:=rfl
theorem afR:bD []=[]:=rfl
theorem afQ:bD (x::c)=x.erase::bD c:=rfl
def alI:cw 0 c=true:=by cases c<;>rfl
theorem alH:cw (n+1) (x::c)=cw n c:=rfl
def nR:over c []=c:=by cases c<;>rfl
theorem qz:over (x::c) (y::e)=y::over c e:=rfl
def ng:setAt c 0 e=over c e:=by cases c<;>rfl
theorem kh:setAt (x::c) (n+1) e=x::setAt c n e:=rfl
theorem aoi:([]:List V).length=0:=rfl
theorem aoh:(x::c).length=c.length+1:=rfl
theorem ak':(c::l)[0]?=aa c:=rfl
def alc:(c::l)[n+1]?=l[n]?:=by simp
theorem ao1:(c::l).set 0 e=e::l:=rfl
theorem ao2:(c::l).set (n+1) e=c::l.set n e:=rfl
theorem aa_ : ([]:List (List V))++l=l:=rfl
theorem aa8 : (c::l)++[e]=c::(l++[e]):=rfl
theorem av9:([]:List V)++c=c:=rfl
theorem av8:(x::c)++e=x::(c++e):=rfl
theorem aoL:([]:List (List V)).length=0:=rfl
theorem aoK:(c::l).length=l.length+1:=rfl
def sy{a:Nat}:(a=a)=True:=by simp
def eqI{a:Int}:(a=a)=True:=by simp
variable{O:Type}
def au9{x y:O}:(aa x=aa y)=(x=y):=by simp
def aq5:(1=1)=True:=by simp
def true_eq:(ab=ab)=True:=by simp
def agm : (ar=ab)=False:=by simp
theorem av0:(ab&&p)=p:=rfl
theorem agx:(ar&&p)=false:=rfl
def aa0:(p&&ab)=p:=by simp
def aaZ:(p&&ar)=false:=by simp
theorem av1:(ab||p)=true:=rfl
theorem agy:(ar||p)=p:=rfl
def arh:(p||false)=p:=by simp
theorem aqb:(!ab)=false:=rfl
theorem aqa:(!ar)=true:=rfl
def am5{x y:O}:(if True then x else y)=x:=aF trivial
def am4{x y:O}:(if False then x else y)=y:=aB λh=>h
def am7{x y:Prop}:(if True then x else y)=x:=aF trivial
def am6{x y:Prop}:(if False then x else y)=y:=aB λh=>h
def avJ{q:Prop}:(True/\q)=q:=by simp
def aa1{q:Prop}:(q/\True)=q:=by simp
theorem rlZ{x:V}:aq 0 x=[]:=rfl
theorem rlS{x:V}:aq (n+1) x=x::aq n x:=rfl
def aoC{v:V}:da (v::c) (.any::e)=da c e:=by simp[da,dp.any]
def aoI{v:V}:da (v::c) (v::e)=da c e:=by simp[da,dp.rfl]
def E0:Env:=⟨default,λ_=>.const,λ_=>aj,λ_=>aj⟩
def awp:dp (.int k a) (.int k b)=(a=b):=by
 refine propext ⟨λh=>?_,λh=>h▸dp.rfl⟩
 have:=h E0 (.int k a) (by simp[R])
 simpa [R] using this
def awo:dp (.bool p) (.bool q)=(p=q):=by
 refine propext ⟨λh=>?_,λh=>h▸dp.rfl⟩
 have:=h E0 (.bool p) (by simp[R])
 simpa [R] using this
def awq:dp (.aG u) (.aG v)=(u=v):=by
 refine propext ⟨λh=>?_,λh=>h▸dp.rfl⟩
 have:=h E0 (.string ⟨u.toArray⟩) (by simp[R])
 simpa [R] using this
def aoE:da (.int k a::c) (.int k b::e)=(a=b/\da c e):=by simp[da,awp]
def aoD:da (.bool p::c) (.bool q::e)=(p=q/\da c e):=by simp[da,awo]
def aoJ:da (.aG u::c) (.aG v::e)=(u=v/\da c e):=by simp[da,awq]
def aoG:da (.sl Z n l::c) (.sl .no n l::e)=da c e:=by simp[da,dp.no]
theorem aoN:cT [] []=True:=rfl
theorem aoM{c e:List V}{l m:List (List V)}:cT (c::l) (e::m)=(da c e/\cT l m):=rfl
def aoO{l:List (List V)}:cT l l=True:=by simp[cT.rfl]
variable{D:ah}
def aqX:bW D D=True:=by simp[bW.rfl]
theorem aoF:da [] []=True:=rfl
end
variable{l:List (List V)}{t:List V}{ι:Type}{D:ah}
def bI.enter{I:ι->St}(j:ι)(h:da t (I j).t)(hl:cT l (I j).aE)(ho:bW D (I j).out):bI ⟨t,l,D⟩ λaP => ∃i,aP = I i :=
 bI.eC h hl ho ⟨j,rfl⟩
def bI.again{I:ι->St}{μ:ι->Nat}{n:Nat}(j:ι)(hm:μ j<n)(h:da t (I j).t)(hl:cT l (I j).aE)(ho:bW D (I j).out):
 bI ⟨t,l,D⟩ λaP => ∃i,aP = I i/\μ i<n:=bI.eC h hl ho ⟨j,rfl,hm⟩
def wrap_i64{x:Int}(U : -9223372036854775808<=x:=by omega)(h2:x<=9223372036854775807:=by omega):IntKind.i64.wrap x=x:=IntWalk.i64_in x ⟨U,h2⟩
variable{b:Nat}{cs:List V}
def ah.Ae(h:D.box b=aa cs):D.set b cs=D:=by
 cases D;simp only[ah.set,ah.mk.injEq,im];funext x;split
 .rename_i hx;rw[hx];exact h.symm
 .rfl
variable{ds:List V}
def ah.set_set:(D.set b cs).set b ds=D.set b ds:=by
 simp only[ah.set,ah.mk.injEq,im];funext x;split<;>rfl
def ah.set_comm{c:Nat}(h:b≠c):(D.set b cs).set c ds=(D.set c ds).set b cs:=by
 simp only[ah.set,ah.mk.injEq,im];funext x
 by_cases U:x=c
 .subst U;rw[aF rfl,aB (λh2=>h h2.symm),aF rfl]
 .rw[aB U,aB U]
def j8(Z n:Nat)(v v' : V):Prop:=∀E E',E.le E' -> E'.aR Z=aa n->∀u,R E v u->R E' v' u
variable{v:V}{Z:Nat}
def j8.same{n:Nat}:j8 Z n v v:=λ_ _ h _ _ hr=>hr.mono _ h
def j8.le{n:Nat}{v':V}(h:dp v v'):j8 Z n v v' := λ_ _ hl _ _ hr=>(h _ _ hr).mono _ hl
variable{k:Nat}{m:List (List V)}
def j8.tok{n:Nat}(h:m.length=n):j8 Z n (.sl .aZ k m) (.sl (.tk Z) k m):=λE E' hl ht u hr=>by
 have cL := hr.mono _ hl;simp only[R] at cL ⊢;obtain⟨a,cap,U,h2,h3,h4⟩:=cL;exact⟨a,cap,U,h2,h3,n,ht,by omega,λ_=>.inl h4⟩
def fc(Z n:Nat):List V->List V->Prop
 | [],[]=>True
 | v::l,v' :: l' => j8 Z n v v' /\ fc Z n l l'
 | _,_=>False
def fc.rfl{n:Nat}:∀{l:List V},fc Z n l l
 | []=>trivial
 | _::_=>⟨j8.same,fc.rfl⟩
variable{E:Env}
def fc.mono{n:Nat}{E':Env}(hl:E.le E')(ht:E'.aR Z=aa n):∀{l l' : List V} {us:List Value},fc Z n l l' -> RL E l us->RL E' l' us
 | [],[],[],_,_=>by simp[RL]
 | [],[],_::_,_,h=>by simp[RL] at h
 | [],_::_,_,h,_=>h.elim
 | _::_,[],_,h,_=>h.elim
 | v::l,v' :: l',[],_,h=>by simp[RL] at h
 | v :: l, v' :: l', u :: us, h, hr => by
  simp only[RL] at hr ⊢;exact⟨h.1 _ _ hl ht _ hr.1,fc.mono hl ht h.2 hr.2⟩
def fc.length{n:Nat}:∀{l l' : List V},fc Z n l l' -> l.length=l'.length
 | [],[],_=>Eq.refl _
 | [],_::_,h=>h.elim
 | _::_,[],h=>h.elim
 | v::l,v' :: l',h=>by simp[fc.length h.2]
def fc.get{n:Nat}:∀{l l' : List V},fc Z n l l' -> ∀(j:Nat) v',l'[j]?=aa v' -> ∃v,l[j]?=aa v/\j8 Z n v v'
 | [],[],_,j,v',h=>by simp at h
 | [],_::_,h,_,_,_=>h.elim
 | _::_,[],h,_,_,_=>h.elim
 | v :: l, w :: l', h, j, v', hj => by
  cases j with
  | zero=>simp at hj;subst hj;exact⟨v,by simp,h.1⟩
  | succ j=>simp at hj;obtain⟨u,U,h2⟩:=fc.get h.2 j v' hj;exact⟨u,by simpa using U,h2⟩
variable{cs':List V}
def j4.tok{n:Nat}{E':Env}(hl:E.le E')(ht:E'.aR Z=aa n)(hw:E'.w=E.w)(h:fc Z n cs cs')(k:j4 E b cs):j4 E' b cs' := by
 obtain⟨c,e,U,h2,h3⟩:=k;refine⟨c,e,by rw[hw];exact U,by rw[<-h.length];exact h2,λj x hx=>?_⟩;obtain⟨v,hv,hle⟩:=h.get j x hx;obtain⟨u,k1,k2⟩:=h3 j v hv;exact⟨u,k1,hle _ _ hl ht _ k2⟩
structure rH(Z n:Nat)(D σ' : ah):Prop where
 box:∀b cs',σ'.box b=aa cs' -> ∃cs,D.box b=aa cs/\fc Z n cs cs'
 aR:∀υ m,σ'.aR υ=aa m->D.aR υ=aa m
 b8:∀b cs,σ'.b8 b=aa cs->D.b8 b=aa cs
def rH.rfl{n:Nat}:rH Z n D D:=⟨λ_ cs h=>⟨cs,h,fc.rfl⟩,λ_ _ h=>h,λ_ _ h=>h⟩
def rH.set{n:Nat}(h:D.box b=aa cs)(k:fc Z n cs cs'):rH Z n D (D.set b cs'):=by
 refine⟨λc ds kV=>?_,λ_ _ h=>h,λ_ _ h=>h⟩;simp only[ah.set] at kV;split at kV
 .rename_i hc;subst hc;simp only[bc] at kV;subst kV;exact⟨cs,h,k⟩
 .exact⟨ds,kV,fc.rfl⟩
variable{K:St->Prop}
def bI.tok(n:Nat)(h:∀Z,D.aR Z=aj->∃t' l' σ',fc Z n t t' /\ l.length=l'.length/\(∀(i:Nat) c',l'[i]?=aa c' -> ∃c,l[i]?=aa c/\fc Z n c c')/\rH Z n D σ' /\ K ⟨t',l',σ'.a_ Z n⟩):
 bI ⟨t,l,D⟩ K:=by
 intro E a hs;obtain⟨N,hN⟩:=hs.ok.nt;have MO:D.aR N=none:=by
  cases hq:D.aR N with
  | none=>rfl
  | some m=>have:=hs.ok.aR N m hq;rw[hN N (bY _)] at this;simp at this
 obtain⟨t',l',σ',U,h2,h3,h4,h5⟩:=h N MO
 let E' : Env:={E with aR:=λt=>if t=N then aa n else E.aR t}
 have ht:E'.aR N=aa n:=by simp[E']
 have bq:Fr E E' := zb (E' := E') hs.ok.fresh (Ext.refl _) (λ_ _=>rfl) (λt m hm=>by
  simp only[E'];split
  .rename_i hq;subst hq;rw[hN t (bY _)] at hm;simp at hm
  .exact hm)
 have hle:E.le E' := bq.le λ_ _ h=>h
 refine⟨E',_,rfl,bq,⟨⟨λb cs b7=>?_,λZ m hm=>?_,hs.ok.fresh,?_,λb cs hc=>eU.mono _ bq.nl (hs.ok.b8 b cs (h4.b8 b cs hc))⟩,⟨λi cs b7=>?_,λi hi=>hs.dv.none i (by rw[h2];exact hi)⟩,hs.defers,U.mono hle ht hs.slot⟩,h5⟩
 .obtain⟨A6,q1,q2⟩:=h4.box b cs b7;obtain⟨k1,k2⟩:=hs.ok.box b A6 q1;exact⟨k1,k2.tok bq.nl ht rfl q2⟩
 .simp only[ah.a_] at hm;simp only[E'];split at hm
  .rename_i hq;rw[aF hq];exact hm
  .rename_i hq;rw[aB hq];exact hs.ok.aR Z m (h4.aR Z m hm)
 .exact⟨N+1,λt rR => by simp only[E'];rw[aB (by omega)];exact hN t (by omega)⟩
 .obtain⟨c,q1,q2⟩:=h3 i cs b7;obtain⟨b,k1,k2,k3⟩:=hs.dv.box i c q1;exact⟨b,k1,k2,k3.tok hle ht rfl q2⟩
def am:=af @ah.set_set <| af @awf <| af @ae2 <| af @aa3 <| af @aa2 <| af @aa4 <| af @aew <| af @afd <| af (af (af (af (af (af (af @aeR @anv) (af @aeQ (af @aeU @ar1))) (af (af @arZ @ar0) (af @ar2 (af @aeq @aev)))) (af (af (af @aey @aex) (af @anZ (af @aeO @au'))) (af (af @aeX (af @aeS @aet)) (af @aeu (af @aes @aeB))))) (af (af (af (af @aeE @aeT) (af @aeM (af @aeN @aeG))) (af (af @aeH (af @aeJ @aeL)) (af @ant (af @aez @aeA)))) (af (af (af @ac7 @aer) (af @aeF (af @aeP @aeD))) (af (af @aeI (af (af @ak0 @akZ) @akW)) (af @akY (af @akX @ady)))))) (af (af (af (af (af @adx @adw) (af @adv (af @auR @auS))) (af (af @aur @aus) (af @an2 (af @an3 (af @an1 @an0))))) (af (af (af @awh @amx) (af @awR (af @awS @afA))) (af (af @ae8 (af @afc @aff)) (af @afe (af @afu @afB))))) (af (af (af (af @afx @afa) (af @afb (af @ae' @afi))) (af (af @afl (af @afy @afs)) (af @aft (af @afn @afo)))) (af (af (af @afp @afr) (af @afg (af @afh @ae9))) (af (af @ae_ (af @afm @afv)) (af @afk (af @afj @afw))))))) <| af @aoE <| af @aoD <| af @aoJ <| af @aoG <| af @aoN <| af @aoM <| af @aoO <| af @aqX <| af @aoC <| af @aoI <| af @aoF <| af @j6 <| af @xg <| af @sy <| af @eqI <| af @am7 <| af @am6 <| (af (af (af (af (af (af (af @awm (af @awi @awn)) (af (af @awe @awl) (af @awc @awa))) (af (af (af @av' @awb) (af @awg @awj)) (af (af @abO @abN) (af @abP @acq)))) (af (af (af @acr (af @acp @aoY)) (af (af @ao0 @aoZ) (af @atq @atp))) (af (af (af @are @aug) (af @adX @auf)) (af (af @aue @aud) (af @aq0 @aqZ))))) (af (af (af (af @aqY (af @apj @af7)) (af (af @af5 @af9) (af @af8 @alb))) (af (af (af @ala @auQ) (af @auO @asE)) (af (af @asD @aqH) (af @anw @arb)))) (af (af (af (af @aqG @aqL) (af @ar5 @ar3)) (af (af @ar4 @ar6) (af @aqd @aqk))) (af (af (af @aqe @aql) (af @aqn @arc)) (af (af @aqm @aqE) (af @ard @aqO)))))) (af (af (af (af (af @aqI (af @apO @apM)) (af (af @apN @aqi) (af @aqj @aqh))) (af (af (af @aqq @ac') (af @aqt @aqJ)) (af (af @ap' @aqC) (af @aof @aqD)))) (af (af (af @aog (af @aqw @agU)) (af (af @agT @aqx) (af @agV @aqz))) (af (af (af @aqB @aqo) (af @anu @aqp)) (af (af @ac8 @aqf) (af @aqv @age))))) (af (af (af (af @agd (af @aqF @aqs)) (af (af @aeo @aqy) (af (af @ak5 @ak4) @ak1))) (af (af (af @ak3 @ak2) (af @an6 (af @an7 @an5))) (af (af @an4 @anX) (af @zM @anY)))) (af (af (af (af @avF @PZ) (af @api @ae5)) (af (af @ae4 @avc) (af @ava @avd))) (af (af (af @avb @iS) (af (af (af @auL @auJ) @auI) @auP)) (af (af @PD @acv) (af @acu @aco))))))) (af (af (af (af (af (af @atU (af @atT @atJ)) (af (af @atE @acm) (af @amU @am2))) (af (af (af @am0 @amV) (af @am1 @amZ)) (af (af @amY @amX) (af @amW @acn)))) (af (af (af @avt (af @avy @avx)) (af (af @avw @avv) (af @avu @afL))) (af (af (af @afM @afO) (af @afP @afK)) (af (af @tA @LG) (af @v7 @LH))))) (af (af (af (af @afN (af @awE @awI)) (af (af @awF @awM) (af @awL @awK))) (af (af (af @awG @awH) (af @awJ @adj)) (af (af @adn @adk) (af @adt @ads)))) (af (af (af (af @adr @adl) (af @adm @ado)) (af (af @aq2 @aq1) (af @OC @aq3))) (af (af (af @W3 @aq9) (af @aq8 @aq4)) (af (af @aq6 @aq7) (af @apX @apW)))))) (af (af (af (af (af @ap4 (af @ap0 @ap9)) (af (af @ap8 @apZ) (af (af @ap6 @ap3) @ap1))) (af (af (af @ap5 @apY) (af @ap_ @ap2)) (af (af @ap7 @afX) (af @afU @af1)))) (af (af (af (af @af0 @afT) (af @afZ @afV)) (af (af @afY @afS) (af @af2 @afW))) (af (af (af @afR @afQ) (af @alI @alH)) (af (af @nR @qz) (af @ng @kh))))) (af (af (af (af @aoi (af @aoh @ak')) (af (af @alc @ao1) (af @ao2 @aa_))) (af (af (af @aa8 @av9) (af @av8 @aoL)) (af (af @aoK @au9) (af @aq5 @true_eq)))) (af (af (af (af @agm @av0) (af @agx @aa0)) (af (af @aaZ @av1) (af @agy @arh))) (af (af (af @aqb @aqa) (af @am5 @am4)) (af (af @avJ @aa1) (af @rlZ @rlS))))))))
section
variable {Z n k:Nat} {v v' : V} {c e t:List V} {l l' : List (List V)} {D:ah}
def awu:j8 Z n v .any=True:=by simp[j8.le dp.any]
def awv:j8 Z n v v=True:=by simp[j8.same]
def aww:j8 Z 0 (.sl .aZ k []) (.sl (.tk Z) k [])=True:=by simp[j8.tok]
theorem ao8:fc Z n (v::c) (v' :: e)=(j8 Z n v v' /\ fc Z n c e):=rfl
theorem ao9:fc Z n [] []=True:=rfl
def ao_:fc Z n c c=True:=by simp[fc.rfl]
def pD:=af @awu <| af @awv <| af @aww <| af @ao8 <| af @ao9 @ao_
def bI.Cb{I:ι->St}(n:Nat)(h:∀Z,D.aR Z=aj->∃i,fc Z n t (I i).t/\l=(I i).aE/\(I i).out=D.a_ Z n):bI ⟨t,l,D⟩ λaP => ∃i,aP = I i :=
 bI.tok n λZ bE=>by
  obtain⟨i,U,h2,h3⟩:=h Z bE;refine⟨(I i).t,(I i).aE,D,U,by rw[h2],λj c' hc=>⟨c',by rw[h2];exact hc,fc.rfl⟩,rH.rfl,i,?_⟩;rw[<-h3]
def jU{Z m n:Nat}:(D.a_ Z m).a_ Z n=D.a_ Z n:=by
 simp only[ah.a_,ah.mk.injEq,qF,im];funext x;split<;>rfl
def s4{Z n:Nat}(h:D.aR Z=aj):D.sub (D.a_ Z n):=by
 refine⟨λ_ _ h=>h,λυ m hm=>?_,λ_ _ h=>h⟩
 have:υ≠Z:=by rintro rfl;rw[h] at hm;simp at hm
 simp only[ah.a_];rw[aB this];exact hm
def jG{Z n:Nat}:(D.a_ Z n).aR Z=aa n:=by simp[ah.a_]
end
variable{i:Nat}{O:Type}
def DM{l:List O}{x:O}(h:l[i]?=aa x):l.take (i+1)=l.take i++[x]:=by rw[List.take_add_one,h];simp
mutual
def V.lo(n:Nat):V->Bool
 | .ptr (.aE i) _=>decide (i<n)
 | .agg cs=>bR n cs
 | .bH cs=>bR n cs
 | .fn _ a b=>bR n a&&bR n b
 | _=>ab
def bR(n:Nat):List V->Bool
 | []=>ab
 | x::xs=>x.lo n&&bR n xs
end
def du(n:Nat):List (List V)->Bool
 | []=>ab
 | x::xs=>bR n x&&du n xs
def Env.cut(E:Env)(n:Nat):Env:={E with aE:=λi=>if i<n then E.aE i else aj}
mutual
def R.cut{n:Nat}:∀(x:V) {E:Env} {v:Value},x.lo n=ab->R E x v->R (E.cut n) x v
 | .any,_,_,_,_=>by simp only[R]
 | .bool _,_,_,_,h=>by simp only[R] at h ⊢;exact h
 | .int _ _,_,_,_,h=>by simp only[R] at h ⊢;exact h
 | .aG _,_,_,_,h=>by simp only[R] at h ⊢;exact h
 | .jr,_,_,_,h=>by simp only[R] at h ⊢;exact h
 | .ptr (.aE i) off, E, _, hl, h => by
  simp only[V.lo,bQ] at hl;simp only[R] at h ⊢;obtain⟨b,U,h2⟩:=h;exact⟨b,by simp[Env.cut,hl,U],h2⟩
 | .ptr (.out _) _,_,_,_,h=>by simp only[R] at h ⊢;exact h
 | .ptr (.kT _) _,_,_,_,h=>by simp only[R] at h ⊢;exact h
 | .elt _ _,_,_,_,h=>by simp only[R] at h ⊢;exact h
 | .sl _ _ _,_,_,_,h=>by simp only[R] at h ⊢;exact h
 | .agg cs, _, _, hl, h => by
  simp only[V.lo] at hl;simp only[R] at h ⊢;obtain⟨vs,U,h2⟩:=h;exact⟨vs,U,RL.cut cs hl h2⟩
 | .bH cs, _, _, hl, h => by
  simp only[V.lo] at hl;simp only[R] at h ⊢;obtain⟨vs,U,h2⟩:=h;exact⟨vs,U,RL.cut cs hl h2⟩
 | .fn _ a b, _, _, hl, h => by
  simp only[V.lo,bg] at hl;simp only[R] at h ⊢;obtain⟨fs,cs,U,h2,h3⟩:=h;exact⟨fs,cs,U,RL.cut a hl.1 h2,RL.cut b hl.2 h3⟩
 | .raw _,_,_,_,h=>by simp only[R] at h ⊢;exact h
def RL.cut{n:Nat}:∀(l:List V) {E:Env} {vs:List Value},bR n l=ab->RL E l vs->RL (E.cut n) l vs
 | [],_,[],_,_=>by simp only[RL]
 | [],_,_::_,_,h=>by simp only[RL] at h
 | _::_,_,[],_,h=>by simp only[RL] at h
 | x :: xs, _, v :: vs, hl, h => by
  simp only[bR,bg] at hl;simp only[RL] at h ⊢;exact⟨R.cut x hl.1 h.1,RL.cut xs hl.2 h.2⟩
end
def Wm{n:Nat}:∀{l:List V} {j:Nat} {x:V},bR n l=ab->l[j]?=aa x->x.lo n=ab
 | [],j,x,_,h=>by simp at h
 | y::ys,0,x,hl,h=>by simp only[bR,bg] at hl;simp at h;rw[<-h];exact hl.1
 | y::ys,j+1,x,hl,h=>by simp only[bR,bg] at hl;exact Wm hl.2 (by simpa using h)
def Wl{n:Nat}:∀{l:List (List V)} {j:Nat} {x:List V},du n l=ab->l[j]?=aa x->bR n x=ab
 | [],j,x,_,h=>by simp at h
 | y::ys,0,x,hl,h=>by simp only[du,bg] at hl;simp at h;rw[<-h];exact hl.1
 | y::ys,j+1,x,hl,h=>by simp only[du,bg] at hl;exact Wl hl.2 (by simpa using h)
def j4.cut{n:Nat}(h:bR n cs=ab)(k:j4 E b cs):j4 (E.cut n) b cs:=by
 obtain⟨c,e,U,h2,h3⟩:=k;exact⟨c,e,U,h2,λj x hx=>by
  obtain⟨u,k1,k2⟩:=h3 j x hx;exact⟨u,k1,R.cut x (Wm h hx) k2⟩⟩
def Fr.cut(E:Env)(n:Nat):Fr E (E.cut n) :=
 ⟨rfl,rfl,rfl,bY _,λ_=>rfl,(Env.le.refl E).cell,(Env.le.refl E).tok,λ_ _ _=>⟨rfl,rfl⟩,λ_ _ h=>.inl h,λ_ _ c _ h=>⟨c,h⟩,λ_ i _ h=>⟨i,h⟩,λ_ c _ h=>⟨c,h,rfl⟩⟩
def bI.drop{l2:List (List V)}(ht:bR l.length t=ab)(hl:du l.length l=ab)(hk:K ⟨t,l,D⟩):bI ⟨t,l++l2,D⟩ K:=by
 intro E a hs;refine⟨E.cut l.length,⟨t,l,D⟩,rfl,Fr.cut E _,⟨⟨hs.ok.box,hs.ok.aR,hs.ok.fresh,hs.ok.nt,hs.ok.b8⟩,⟨λi cs b7=>?_,λi hi=>?_⟩,hs.defers,RL.cut _ ht hs.slot⟩,hk⟩
 .have hi:i<l.length:=(fy.1 b7).1;obtain⟨b,k1,k2,k3⟩:=hs.dv.box i cs (by rw[qJ hi];exact b7);exact⟨b,by simp[Env.cut,hi,k1],k2,k3.cut (Wl hl b7)⟩
 .simp only[Env.cut];rw[aB (by simp only at hi;omega)]
def cT.app:∀{l l' m:List (List V)},cT (l.take l'.length) l' -> cT l (l' ++ l.drop l'.length)
 | [],[],_,_=>trivial
 | [],_::_,_,h=>h.elim
 | v::l,[],m,_=>by simp[cT.rfl]
 | v :: l, w :: l', m, h => by
  simp only[dm,xf,cT] at h;simp only[dm,il,D7,cT];exact⟨h.1,cT.app (m:=m) h.2⟩
variable{σ':ah}
def bI.CO{t':List V}{l':List (List V)}(h:da t t')(hl:cT (l.take l'.length) l')(ho:bW D σ')(U:bR l'.length t' = ab)(h2:du l'.length l' = ab)(hk:K ⟨t',l',σ'⟩):bI ⟨t,l,D⟩ K :=
 (bI.eC (K:=λst=>st=⟨t',l' ++ l.drop l'.length,σ'⟩) h (cT.app (m:=[]) hl) ho rfl).bind λ_ e=>e▸bI.drop U h2 hk
def bI.uv{I:ι->St}{μ:ι->Nat}{n:Nat}(j:ι)(hm:μ j<n)(h:da t (I j).t)(hl:cT (l.take (I j).aE.length) (I j).aE)(ho:bW D (I j).out)(U:bR (I j).aE.length (I j).t=ab)(h2:du (I j).aE.length (I j).aE=ab):
 bI ⟨t,l,D⟩ λaP => ∃i,aP = I i/\μ i<n:=bI.CO h hl ho U h2 ⟨j,rfl,hm⟩
section
variable {P:Program} {d:Option Nat} {q:OQ} {xs:List X} {r:List AO} {K:St->Prop} {t:List V} {l:List (List V)} {D:ah}
theorem aqK:cg P (⟨d,.own q xs,aj⟩::r) K ⟨t,l,D⟩=q.bj D (kC P d r K t l) (dw ⟨t,l,D⟩ xs):=rfl
variable{H:V->ah->Prop}
theorem art:OQ.bj D H .nil []=H (.raw (.slice aj 0 0)) D:=rfl
variable{c e:List V}
def aoH{u:Value}:da (.raw u::c) (.raw u::e)=da c e:=by simp[da,dp.rfl]
def qM:=af @aqK <| af @art @aoH
def kI(D:ah)(k:Nat)(v:V)(rows:List (List V)):Prop :=
 ∃a cap,v = .raw (.slice a rows.length cap)/\rows.length<=cap/\(∀r∈rows,r.length=k)/\(cap=0\/∃b cs,a=aa ⟨b,0,aj⟩/\D.box b=aa cs/\cs.length=cap*k/\cs.take (rows.length*k)=rows.flatten)
def t_:V->Option Nat
 | .raw (.slice (aa ⟨b,_,_⟩) _ _)=>aa b
 | _=>aj
def kI.len{rows:List (List V)}(h:kI D k v rows)(hk:H (.int .i64 rows.length) D):OQ.bj D H .len [v]:=by
 obtain⟨a,cap,rfl,_⟩:=h;exact hk
def kI.frame{rows:List (List V)}(h:kI D k v rows)(hb:∀b cs,t_ v=aa b->D.box b=aa cs->σ'.box b=aa cs):kI σ' k v rows:=by
 obtain⟨a,cap,rfl,U,h2,h3⟩:=h;refine⟨a,cap,rfl,U,h2,?_⟩
 rcases h3 with h3 | ⟨b,cs,rfl,h4,h5⟩
 .exact .inl h3
 .exact .inr ⟨b,cs,rfl,hb b cs rfl h4,h5⟩
def Ts{k:Nat}:∀{rows:List (List V)} {m:Nat},(∀r∈rows,r.length=k)->rows.flatten.take (m*k)=(rows.take m).flatten
 | [],m,_=>by simp
 | r::rows,0,_=>by simp
 | r :: rows, m + 1, h => by
  simp only[fh] at h;rw[lV,xf,lV,jw,xi,List.take_append,h.1,AN (by omega),show m*k+k - k=m*k by omega,Ts h.2]
def LU{k:Nat}:∀{rows:List (List V)} {m:Nat},(∀r∈rows,r.length=k)->rows.flatten.drop (m*k)=(rows.drop m).flatten
 | [],m,_=>by simp
 | r::rows,0,_=>by simp
 | r :: rows, m + 1, h => by
  simp only[fh] at h;rw[lV,D7,jw,xi,List.drop_append,h.1,QP (by omega),show m*k+k - k=m*k by omega,gQ,LU h.2]
def kI.idx{rows:List (List V)}{j:Int}{i:IntKind}(h:kI D k v rows)(h0:0<=j)(hj:rows[j.toNat]?=aa c)
 (hk:∀b cs rest,t_ v=aa b->D.box b=aa cs->cs.drop (j.toNat*k)=c++rest->H (.ptr (.out b) (j.toNat*k)) D):OQ.bj D H (.idx k) [v,.int i j]:=by
 obtain⟨a,cap,rfl,U,h2,h3⟩:=h;have aD:=(fy.1 hj).1
 rcases h3 with h3 | ⟨b,cs,rfl,h4,h5,h6⟩
 .omega
 .have e1:cs=rows.flatten++cs.drop (rows.length*k):=by rw[<-h6];simp
  have e2:rows.drop j.toNat=c::rows.drop (j.toNat+1):=by
   rw[nr aD,(fy.1 hj).2]
  have l_:=n7 h2;have e3:cs.drop (j.toNat*k)=c++((rows.drop (j.toNat+1)).flatten++cs.drop (rows.length*k)):=by
   have hle:j.toNat*k<=rows.length*k:=sd _ (by omega);rw[e1,aar (by rw[l_];exact hle),LU h2,e2,lV,eN];congr 2;rw[List.drop_append,l_];simp[QP,l_]
  show 0<=j/\j<(rows.length:Nat)/\H (.ptr (.out b) (0+j.toNat*k)) D;rw[j6];exact⟨h0,by omega,hk b cs _ rfl h4 e3⟩
def kI.take{m:Nat}{rows:List (List V)}{i:IntKind}{j:Int}(h:kI D k v rows)(h0:0<=j)(hj:j.toNat=m)(hm:m<=rows.length)(hk:∀v',kI D k v' (rows.take m)->t_ v' = t_ v->H v' D):OQ.bj D H (.lT k ar ab ar) [v,.int i j]:=by
 obtain⟨a,cap,rfl,U,h2,h3⟩:=h;show lZ ar 0 [.int i j] λm vs=>lZ ab rows.length vs λh vs=>lZ ar cap vs λM vs=>vs=[]/\m<=h/\h<=M/\M<=cap/\H (.raw (.slice (if M=m then a else a.map (·.add (m*k))) (h - m) (M - m))) D
 refine⟨h0,rfl,by omega,by omega,bY _,?_⟩;have ea:(if cap=0 then a else a.map (·.add (0*k)))=a:=by
  split
  .rfl
  .rcases h3 with h3 | ⟨b,cs,rfl,_⟩
   .omega
   .simp[my]
 rw[ea,hj];refine hk _ ⟨a,cap,?_,?_,λr hr=>h2 r (Cs hr),?_⟩ (by cases a with
  | none=>rfl
  | some ad=>cases ad;rfl)
 .rw[iN,xh hm];rfl
 .rw[iN];omega
 .rcases h3 with h3 | ⟨b,cs,rfl,h4,h5,h6⟩
  .exact .inl h3
  .refine .inr ⟨b,cs,rfl,h4,h5,?_⟩;rw[iN,xh hm,<-Ts h2,<-h6,List.take_take,xh (sd _ hm)]
structure KR(D:ah)(v:V)(σ' : ah)(v' : V):Prop where
 mS:∀b cs,D.box b=aa cs->t_ v≠aa b->σ'.box b=aa cs
 aR:σ'.aR=D.aR
 new:∀b,t_ v' = aa b->t_ v=aa b\/D.box b=aj
 b8:σ'.b8=D.b8
def Y_{k n:Nat}:∀{cs xs ys:List V},cs.take n=ys->n+xs.length<=cs.length->ys.length=n->(setAt cs n xs).take (n+xs.length)=ys++xs/\(setAt cs n xs).length=cs.length:=by
 intro cs xs ys U h2 h3;have ov:∀{cs xs:List V},xs.length<=cs.length->(over cs xs).take xs.length=xs/\(over cs xs).length=cs.length:=by
  intro cs;induction cs with
  | nil=>intro xs h;cases xs with | nil=>simp[over] | cons x xs=>simp at h
  | cons c cs ih =>
   intro xs h;cases xs with
   | nil=>simp[over]
   | cons x xs =>
    obtain⟨k1,k2⟩:=ih (xs:=xs) (by simpa using h);simp[over,k1,k2]
 induction n generalizing cs ys with
 | zero =>
  simp at h3;subst h3;obtain⟨k1,k2⟩:=ov (cs:=cs) (xs:=xs) (by omega);have e:setAt cs 0 xs=over cs xs:=by cases cs<;>rfl
  rw[e];simpa using ⟨k1,k2⟩
 | succ n ih =>
  cases cs with
  | nil=>simp at h2
  | cons c cs =>
   cases ys with
   | nil=>simp at h3
   | cons y ys =>
    simp only[xf,iE] at U;obtain⟨k1,k2⟩:=ih (cs:=cs) (ys:=ys) U.2 (by simp at h2;omega) (by simpa using h3);simp only[setAt];rw[show n+1+xs.length=(n+xs.length)+1 by omega];simp[k1,k2,U.1]
def kI.app{rows:List (List V)}{tk:Tk}(h:kI D k v rows)(hm:∀r∈m,r.length=k)(hn:bT m.flatten=ab)(hb:rows.length+m.length<=aQ)
 (hk:∀v' σ',kI σ' k v' (rows++m)->KR D v σ' v' -> H v' σ'):OQ.bj D H (.app k) [v,.sl tk k m]:=by
 obtain⟨a,cap,rfl,U,h2,h3⟩:=h;have C5:=n7 hm;have bq:=n7 h2;refine⟨rfl,U,hb,hn,λe=>?_,λe hle=>?_,λaD=>?_⟩
 .subst e;refine hk _ _ ⟨a,cap,by simp,by simpa using U,by simpa using h2,by simpa using h3⟩ ⟨λ_ _ h _=>h,rfl,λb hb=>.inl hb,rfl⟩
 .rcases h3 with h3 | ⟨b,cs,rfl,h4,h5,h6⟩
  .have:m.length=0:=by omega
   exact absurd (uk this) e
  .have qg:rows.length*k+m.length*k<=cs.length:=by rw[h5,<-jw];exact sd _ hle
   refine⟨b,cs,rfl,h4,qg,hk _ _ ⟨aa ⟨b,0,Option.none⟩,cap,by simp,by simpa using hle,λr hr=>?_,.inr ⟨b,_,rfl,ah.eW _ _ _,?_,?_⟩⟩ ⟨λb' cs' cC a9=>?_,rfl,λb' cC => .inl cC,rfl⟩⟩
   .rcases fi.1 hr with hr | hr
    .exact h2 r hr
    .exact hm r hr
   .rw[(Y_ (k:=k) h6 (by rw[C5];exact qg) bq).2];exact h5
   .have:=(Y_ (k:=k) h6 (by rw[C5];exact qg) bq).1
    rw[C5] at this;rw[bM,jw,this,vC]
   .have:b' ≠ b:=by rintro rfl;exact a9 rfl
    rw[ah.eY _ _ this];exact cC
 .have base:∀cs:List V,cs.take (rows.length*k)=rows.flatten->∀b' p8,D.box b' = Option.none->rows.length+m.length<=p8 -> H (.raw (.slice (aa ⟨b',0,Option.none⟩) (rows.length+m.length) p8)) (D.set b' (cs.take (rows.length*k)++m.flatten++aq ((p8 - (rows.length+m.length))*k) .any)):=by
   intro cs h6 b' p8 cC hc;refine hk _ _ ⟨aa ⟨b',0,Option.none⟩,p8,by simp,by simpa using hc,λr hr=>?_,.inr ⟨b',_,rfl,ah.eW _ _ _,?_,?_⟩⟩ ⟨λRM cs' rM a9=>?_,rfl,λRM rM => ?_,rfl⟩
   .rcases fi.1 hr with hr | hr
    .exact h2 r hr
    .exact hm r hr
   .rw[h6];simp only[bM,bq,C5,List.length_replicate];rw[<-jw,<-jw];congr 1;omega
   .rw[h6,bM,vC,KJ (by simp only[bM,bq,C5];rw[jw];omega),AN (by simp only[bM,bq,C5];rw[jw];omega)]
   .have:RM ≠ b' := by rintro rfl;rw[cC] at rM;simp at rM
    rw[ah.eY _ _ this];exact rM
   .simp only[t_,bc] at rM;subst rM;exact .inr cC
  rcases h3 with h3 | ⟨b,cs,rfl,h4,h5,h6⟩
  .have h0:rows=[]:=uk (by omega);subst h0;exact⟨[],.inl ⟨rfl,rfl⟩,base [] (by simp)⟩
  .refine⟨cs,.inr ⟨b,rfl,h4,?_⟩,base cs h6⟩;rw[h5];exact sd _ U
structure Ed(dE D:ah)(v:V):Prop where
 sub:dE.sub D
 new:∀b,t_ v=aa b->dE.box b=aj
def Ed.step{dE σ' : ah}{v v' : V}(h:Ed dE D v)(f:KR D v σ' v'):Ed dE σ' v' := by
 refine⟨⟨λb cs hb=>?_,λt n hn=>by rw[f.aR];exact h.sub.2.1 t n hn,λb cs hc=>by rw[f.b8];exact h.sub.2.2 b cs hc⟩,λb hb=>?_⟩
 .exact f.mS b cs (h.sub.1 b cs hb) (λe=>by rw[h.new b e] at hb;simp at hb)
 .rcases f.new b hb with e | e
  .exact h.new b e
  .cases hq:dE.box b with
   | none=>rfl
   | some cs=>rw[h.sub.1 b cs hq] at e;simp at e
end
section
variable {P:Program} {d:Option Nat} {K:St->Prop} {st:St} {b w:Bool}
def kS{op:aO}{r:List AO}(U:b=ab->gL P (.bool ab) w d op r K st)(h2:b=ar->gL P (.bool ar) w d op r K st):gL P (.bool b) w d op r K st:=by cases b with
 | true=>exact U rfl
 | false=>exact h2 rfl
def lb{x y:V}{r:List AO}(U:b=ab->ve P (.bool ab) x y d r K st)(h2:b=ar->ve P (.bool ar) x y d r K st):ve P (.bool b) x y d r K st:=by cases b with
 | true=>exact U rfl
 | false=>exact h2 rfl
end
section
variable {P:Program} {d:Option Nat} {K:St->Prop} {t:List V} {l:List (List V)} {D:ah} {r:List AO}
def tC(st:St):Option X->Option V
 | none=>aj
 | some x=>aa (ev st x)
def Dj(n:Nat)(aeY:Nat):Option V->Prop
 | none=>n=aeY
 | some v=>∃j,v = .int j n
def PH(v:V)(lo hi:Option V)(H:V->Prop):Prop:=∃s a b,v = .aG s/\a<=b/\b<=s.length/\Dj a 0 lo/\Dj b s.length hi/\H (.aG ((s.take b).drop a))
def Gh(k:Nat)(v:V)(lo hi mx:Option V)(H:V->Prop):Prop:=(∃Z l a b,v = .sl Z k l/\a<=b/\b<=l.length/\Dj a 0 lo/\Dj b l.length hi /\
 match mx with
 | none=>H (.sl .no k ((l.take b).drop a))
 | some y=>(∃j,y = .int j b)/\H (.sl .aZ k ((l.take b).drop a))) \/
 ∃a n cap m h,v = .raw (.slice a n cap)/\m<=h/\h<=cap/\Dj m 0 lo/\Dj h n hi/\mx.isNone=ab/\H (.raw (.slice (if cap=m then a else a.map (·.add (m*k))) (h - m) (cap - m)))
variable{hi:Option X}
def aqM{x:X}{lo:Option X}:cg P (⟨d,.Ai x lo hi,aj⟩::r) K ⟨t,l,D⟩=PH (ev ⟨t,l,D⟩ x) (tC ⟨t,l,D⟩ lo) (tC ⟨t,l,D⟩ hi) (kL P d r K ⟨t,l,D⟩):=by
 cases lo<;>cases hi<;>rfl
variable{mx:Option X}
def aqN{x:X}{lo:Option X}:cg P (⟨d,.lT k x lo hi mx,aj⟩::r) K ⟨t,l,D⟩=Gh k (ev ⟨t,l,D⟩ x) (tC ⟨t,l,D⟩ lo) (tC ⟨t,l,D⟩ hi) (tC ⟨t,l,D⟩ mx) (kL P d r K ⟨t,l,D⟩):=by
 cases lo<;>cases hi<;>cases mx<;>rfl
variable{L:List (V × Bool × Nat × V × List Nat)}{ms:List Nat}
def aeV{x:X}{lo:Option X}{r:List (AO × List Nat)}{SN:List dy}:cJ P ((⟨d,.Ai x lo hi,aj⟩,ms)::r) SN L K ⟨t,l,D⟩=PH (ev ⟨t,l,D⟩ x) (tC ⟨t,l,D⟩ lo) (tC ⟨t,l,D⟩ hi) (kD P d r SN L K ⟨t,l,D⟩):=by
 cases lo<;>cases hi<;>rfl
def aeW{x:X}{lo:Option X}{r:List (AO × List Nat)}{SN:List dy}:cJ P ((⟨d,.lT k x lo hi mx,aj⟩,ms)::r) SN L K ⟨t,l,D⟩=Gh k (ev ⟨t,l,D⟩ x) (tC ⟨t,l,D⟩ lo) (tC ⟨t,l,D⟩ hi) (tC ⟨t,l,D⟩ mx) (kD P d r SN L K ⟨t,l,D⟩):=by
 cases lo<;>cases hi<;>cases mx<;>rfl
theorem af3{st:St}:tC st aj=none:=rfl
theorem af4{st:St}{x:X}:tC st (aa x)=aa (ev st x):=rfl
variable{a:Nat}{s:List UInt8}
def PI{j j' : IntKind}{H:V->Prop}(U:a<=b)(h2:b<=s.length)(h:H (.aG ((s.take b).drop a))):PH (.aG s) (aa (.int j a)) (aa (.int j' b)) H:=⟨s,a,b,rfl,U,h2,⟨j,rfl⟩,⟨j',rfl⟩,h⟩
def au7{Z:Tk}{j:IntKind}{H:V->Prop}(h2:a<=m.length)(h:H (.sl .no k (m.drop a))):Gh k (.sl Z k m) (aa (.int j a)) aj aj H:=.inl ⟨Z,m,a,m.length,rfl,h2,bY _,⟨j,rfl⟩,rfl,by rw[dX];exact h⟩
def Zk{Z:Tk}{j:IntKind}{H:V->Prop}(h2:b<=m.length)(h:H (.sl .no k (m.take b))):Gh k (.sl Z k m) aj (aa (.int j b)) aj H:=.inl ⟨Z,m,0,b,rfl,KP _,h2,rfl,⟨j,rfl⟩,h⟩
def cX:=af @aqr <| af @aqg <| af @aqM <| af @aqN <| af @aeV <| af @aeW <| af @af3 <| af @af4 <| af @aqA <| af @aeK <| af @aeC <| af @awk <| af @apS <| af @apR <| af @apT <| af @asX <| af @asW <| af @asY @afq
end
def Ex(a b:List UInt8):dK (a++b)=dK a++dK b:=by simp[dK]
def jJ(a:List UInt8):(dK a).length=a.length:=by simp[dK]
abbrev br:=BitVec 64
section
variable {a b c:br} {n:Int} {m:Nat}
def wrap_u64{x:Int}(U:0<=x)(h2:x<18446744073709551616):IntKind.u64.wrap x=x:=IntWalk.u64_in x (by omega)
def awA(a:br):(a.toNat:Int)<18446744073709551616:=by have:=a.isLt;omega
def Qb:BitVec.ofInt 64 (a.toNat:Nat)=a:=by simp
def Qf:IntKind.u64.wrap (a.toNat:Nat)=(a.toNat:Nat):=wrap_u64 (by omega) (awA a)
def awy:IntKind.u64.wrap ((a.toNat:Nat)+(b.toNat:Nat))=((a+b).toNat:Nat):=by
 rw[IntKind.wrap_u64,BitVec.toNat_add];omega
def Qe:IntKind.u64.wrap ((a.toNat:Nat) - (b.toNat:Nat))=((a - b).toNat:Nat):=by
 have:=a.isLt;have:=b.isLt
 rw[IntKind.wrap_u64,BitVec.toNat_sub];omega
def awB:IntKind.u64.wrap ((a.toNat:Nat)*(b.toNat:Nat))=((a*b).toNat:Nat):=by
 rw[IntKind.wrap_u64,BitVec.toNat_mul,<-Int.natCast_mul];generalize a.toNat*b.toNat=x;omega
def yC:iJ .u64 (a.toNat:Nat) (b.toNat:Nat) .and=aa (.int .u64 ((a&&&b).toNat:Nat)):=by
 (simp only[iJ,IntKind.bits,Qb,Qf];rfl)
def DU:iJ .u64 (a.toNat:Nat) (b.toNat:Nat) .or=aa (.int .u64 ((a|||b).toNat:Nat)):=by
 (simp only[iJ,IntKind.bits,Qb,Qf];rfl)
def ZS:iJ .u64 (a.toNat:Nat) (b.toNat:Nat) .andNot=aa (.int .u64 ((a&&&~~~b).toNat:Nat)):=by
 (simp only[iJ,IntKind.bits,Qb,Qf];rfl)
def Qd:iJ .u64 (a.toNat:Nat) (m:Nat) .shl=aa (.int .u64 ((a<<<m).toNat:Nat)):=by
 simp only[iJ,IntKind.bits];rw[aB (by omega),IntKind.wrap_u64,QE,Q5];simp only[gi,bc,V.int.injEq,qF]
 by_cases h:m<=64
 .rw[show m.min 64=m from xh h,show(2:Int)^m=((2^m:Nat):Int) by simp,<-Int.natCast_mul];generalize a.toNat*2^m=x;omega
 .rw[show m.min 64=64 from Nat.min_eq_right (by omega)];obtain⟨k,rfl⟩:∃k,m=64+k:=⟨m - 64,by omega⟩;rw[Nat.pow_add,<-Nat.mul_assoc,Nat.mul_comm _ (2^64),Nat.mul_assoc,Nat.mul_mod_right];omega
def Kb:iJ .u64 (a.toNat:Nat) (m:Nat) .shr=aa (.int .u64 ((a>>>m).toNat:Nat)):=by
 simp only[iJ,IntKind.bits];rw[aB (by omega),aan,aaF];simp only[gi,bc,V.int.injEq,qF];rw[Int.fdiv_eq_ediv_of_nonneg _ (Int.le_of_lt (Int.pow_pos (by decide)))]
 by_cases h:m<=64
 .rw[show m.min 64=m from xh h];norm_cast
 .rw[show m.min 64=64 from Nat.min_eq_right (by omega)];have U:a.toNat / 2^m=0:=Nat.div_eq_of_lt (ur a.isLt (Nat.pow_le_pow_right (by decide) (by omega)));rw[U]
  have:=a.isLt
  omega
def Qa:iJ .u64 (a.toNat:Nat) 2 .quo=aa (.int .u64 ((a>>>1).toNat:Nat)):=by
 simp only[iJ];rw[aB (by decide),aan,aaF,Int.tdiv_eq_ediv_of_nonneg (by omega),wrap_u64 (by omega) (by have:=a.isLt;omega)];rfl
def Qc:iJ .u64 (a.toNat:Nat) 2 .rem=aa (.int .u64 ((a.getLsbD 0).toNat:Nat)):=by
 simp only[iJ];rw[aB (by decide),Int.tmod_eq_emod_of_nonneg (by omega),BitVec.getLsbD,Nat.testBit_zero];simp only[bc,V.int.injEq,qF]
 rcases Nat.mod_two_eq_zero_or_one a.toNat with h | h<;>simp[h]<;>omega
def P'{p:Bool}:decide (((p.toNat:Nat):Int)=((1#64:br).toNat:Nat))=p:=by cases p<;>rfl
def ZT:IntKind.u64.wrap ((a.toNat:Nat)*2)=((a<<<1).toNat:Nat):=by
 rw[IntKind.wrap_u64,QE,Q5];omega
def w_:decide ((a.toNat:Int)=(b.toNat:Nat))=decide (a=b):=by
 apply su.2;rw[<-BitVec.toNat_inj];omega
theorem sa:V.int .u64 0 = .int .u64 ((0#64:br).toNat:Nat):=rfl
theorem DT:V.int .u64 1 = .int .u64 ((1#64:br).toNat:Nat):=rfl
theorem awD:V.int .u64 18446744073709551615 = .int .u64 ((BitVec.allOnes 64:br).toNat:Nat):=rfl
end
def hasB(s:br)(i:Int):Bool:=decide (0<=i)&&s.getLsbD i.toNat
def mA(i:Nat):br:=1#64<<<i
def ln(s:br)(i:Int):br:=if 0<=i/\i<64 then s|||mA i.toNat else s
def gK(l:List Int):br:=l.foldl ln 0#64
def pP(a b:br):Bool:=decide (a&&&~~~b=0#64)
def fY(n:Int):br:=if n<=0 then 0#64 else if 64<=n then BitVec.allOnes 64 else mA n.toNat - 1#64
def e9(s:br):List Nat:=(bA 64).filter s.getLsbD
def mF{a b:br}(h:∀k,k<64->a.getLsbD k=b.getLsbD k):a=b:=BitVec.eq_of_getLsbD_eq λk hk=>h k hk
def CE(i k:Nat):(mA i).getLsbD k=(decide (k<64)&&decide (k=i)):=by
 simp only[mA,QC,BitVec.getLsbD_one]
 by_cases h:k<64<;>by_cases h2:k=i<;>simp[h,h2]<;>omega
def RR(i:Nat):mA i<<<1=mA (i+1):=by
 apply mF;intro k hk;rw[QC,CE,CE];cases k with
 | zero=>simp
 | succ k=>simp only[hk,Nat.add_sub_cancel,b9,iM,Nat.add_right_cancel_iff];simp[show k<64 by omega]
def Gz(s:br)(i:Int)(k:Nat):(ln s i).getLsbD k=(s.getLsbD k||(decide (k<64)&&decide ((k:Int)=i))):=by
 unfold ln
 split
 .rename_i h;rw[Kk,CE];congr 2;apply su.2;omega
 .rename_i h
  have:(decide (k<64)&&decide ((k:Int)=i))=false:=by
   simp only[D4,xw];omega
  rw[this,Bool.or_false]
def TC:∀(l:List Int) (s:br) (k:Nat),(l.foldl ln s).getLsbD k=(s.getLsbD k||(decide (k<64)&&decide ((k:Int)∈l)))
 | [],s,k=>by simp
 | i :: l, s, k => by
  rw[yO,TC l,Gz,Bool.or_assoc,<-Bool.and_or_distrib_left,<-Bool.decide_or];simp only[lq]
def zS(l:List Int)(k:Nat):(gK l).getLsbD k=(decide (k<64)&&decide ((k:Int)∈l)):=by
 rw[gK,TC];simp
def aq_(k:Nat):(BitVec.allOnes 64).getLsbD k=decide (k<64):=BitVec.getLsbD_allOnes
def aci(n:Nat)(h:n<=64)(k:Nat):(mA n - 1#64).getLsbD k=(decide (k<64)&&decide (k<n)):=by
 by_cases hk:k<64
 .rw[BitVec.getLsbD,BitVec.toNat_sub,mA,QE,Q5];have e1:(1#64).toNat=1:=rfl;rw[e1,xi]
  by_cases h2:n=64
  .subst h2
   have:(2^64 - 1+2^64 % 2^64) % 2^64=2^64 - 1:=by decide
   rw[this,aaG];simp[hk]
  .have hp:2^n<2^64:=Nat.pow_lt_pow_right (by decide) (by omega);have pC:0<2^n:=Nat.two_pow_pos n;rw[Q4 hp,show 2^64 - 1+2^n=(2^n - 1)+2^64 by omega,Nat.add_mod_right,Q4 (by omega),aaG];simp[hk]
 .rw[vz _ _ (by omega)];simp[hk]
def xr(n:Int)(k:Nat):(fY n).getLsbD k=(decide (k<64)&&decide ((k:Int)<n)):=by
 unfold fY;split
 .rw[aJ (p:=(k:Int)<n) (by omega)];simp
 .split
  .rw[aq_]
   by_cases h:k<64
   .rw[aK (p:=(k:Int)<n) (by omega)];simp
   .simp[h]
  .rw[aci _ (by omega)];congr 1;apply su.2;omega
def WZ(l:List Int)(i:Nat)(hi:i<64):gK l&&&fY ((i+1:Nat):Int)=if (i:Int)∈l then(gK l&&&fY (i:Int))+mA i else gK l&&&fY (i:Int):=by
 split
 .rename_i h;rw[BitVec.add_eq_or_of_and_eq_zero]
  .apply mF;intro k hk;simp only[Kk,ti,xr,CE,hk,b9,iM,zS]
   rcases AP k i with U | U | U
   .simp[show((k:Int)<(i:Nat)) by omega,show k≠i by omega];try omega
   .subst U;simp[h];omega
   .simp[show ¬((k:Int)<((i+1:Nat):Int)) by omega,show ¬((k:Int)<(i:Nat)) by omega,show k≠i by omega];try omega
  .apply mF;intro k hk;simp only[ti,xr,CE,hk,b9,iM]
   by_cases U:k=i
   .subst U;simp
   .simp[U]
 .rename_i h;apply mF;intro k hk;simp only[ti,xr,hk,b9,iM,zS]
  rcases AP k i with U | U | U
  .simp[show((k:Int)<(i:Nat)) by omega];try omega
  .subst U;simp[h]
  .simp[show ¬((k:Int)<((i+1:Nat):Int)) by omega,show ¬((k:Int)<(i:Nat)) by omega];try omega
def aqP(l:List Int):gK l&&&fY 64=gK l:=by
 apply mF;intro k hk;rw[ti,xr];simp only[hk,b9,iM];rw[aK (by omega)];simp
def aqQ(l:List Int):gK l&&&fY 0=0#64:=by simp[fY]
def Gm{a b:br}:pP a b=ab↔∀k,a.getLsbD k=ab->b.getLsbD k=true:=by
 unfold pP;rw[Et];constructor
 .intro h k hk
  have:=iH (λx:br=>x.getLsbD k) h
  have aD:k<64:=KN λhc=>by rw[vz _ _ hc] at hk;simp at hk
  simpa [hk,aD] using this
 .intro h;apply mF;intro k hk;cases hb:a.getLsbD k with
  | false=>simp[hb]
  | true=>simp[hb,h k hb,hk]
def FV{s:br}:k∈e9 s↔s.getLsbD k=true:=by
 simp only[e9,GQ,mq,and_iff_right_iff_imp];intro h;exact KN λhc=>by rw[vz _ _ hc] at h;simp at h
def aox{s:br}(h:k∈e9 s):k<64:=by
 simp only[e9,GQ,mq] at h;exact h.1
def FL(s:br):(e9 s).length<=64:=by
 have:=Cq s.getLsbD (bA 64);simpa [e9] using this
def qt(s:br):Nat:=((bA 64).find? s.getLsbD).getD 64
def FN{s:br}(h:s≠0#64):qt s<64/\s.getLsbD (qt s)=ab/\∀k,k<qt s->s.getLsbD k=false:=by
 unfold qt;cases hf:(bA 64).find? s.getLsbD with
 | none =>
  exfalso;apply h;apply mF;intro k hk
  have:=um.1 hf k (by simpa using hk)
  simpa using this
 | some i =>
  obtain⟨U,as,bs,h2,h3⟩:=GM.1 hf;have hi:i<64:=by
   have:i∈bA 64:=by rw[h2];simp
   simpa using this
  refine⟨hi,U,λk hk=>?_⟩;simp only[yR] at hk;have hl:as.length=i:=by
   have:=iH (λl:List Nat=>l[as.length]?) h2
   simp only[AK (bY _),Q6,Kz] at this;rw[KA] at this
   .simpa using this
   .have:=iH List.length h2;simp at this;omega
  have j_ : k∈as:=by
   have:=iH (λl:List Nat=>l[k]?) h2
   rw[qJ (by omega),KA (by omega)] at this;exact rF this.symm
  have:=h3 k j_
  simpa using this
def apH{s:br}(h:s≠0#64):s&&&-s=mA (qt s):=by
 obtain⟨U,h2,h3⟩:=FN h;apply mF;intro i hi;rw[ti,BitVec.getLsbD_neg,CE]
 rcases AP i (qt s) with hc | hc | hc
 .rw[h3 i hc,aJ (p:=i=qt s) (by omega)];simp
 .subst hc;rw[h2,aJ (p:=∃j,j<qt s/\s.getLsbD j=ab) (by rintro⟨j,hj,hs⟩;rw[h3 j hj] at hs;simp at hs)];simp[hi]
 .rw[aK (p:=∃j,j<i/\s.getLsbD j=ab) ⟨_,hc,h2⟩,aJ (p:=i=qt s) (by omega)];cases s.getLsbD i<;>simp[hi]
def Lw(s:br)(i:Nat):(s&&&(s - 1#64)).getLsbD i=(s.getLsbD i&&decide (∃j,j<i/\s.getLsbD j=ab)):=by
 by_cases hi:i<64
 .rw[ti,<-BitVec.not_neg,BitVec.getLsbD_not,BitVec.getLsbD_neg];cases s.getLsbD i<;>simp[hi]
 .rw[vz _ _ (by omega),vz _ _ (by omega)];simp
def Wh{s:br}(h:s≠0#64):e9 s=qt s::e9 (s&&&(s - 1#64)):=by
 obtain⟨U,h2,h3⟩:=FN h;generalize qt s=k at U h2 h3;have hr:bA 64=bA k++k::List.range' (k+1) (64 - (k+1)):=by
  rw[vE,vE,<-D_,show(64:Nat) - (k+1)+1=64 - k by omega]
  have:=Q1 (s:=0) (m:=k) (n:=64 - k) (step:=1)
  simp only[xi,j6] at this;rw[this];congr 1;omega
 unfold e9;rw[hr,AJ,AJ,yM,yM,h2,Lw s k];have e1:List.filter s.getLsbD (bA k)=[]:=aas.2 λx hx=>by rw[h3 x (by simpa using hx)];simp
 have e2:List.filter (s&&&(s - 1#64)).getLsbD (bA k)=[]:=aas.2 λx hx=>by rw[Lw,h3 x (by simpa using hx)];simp
 rw[e1,e2,
  aJ (by rintro⟨j,hj,hs⟩;rw[h3 j hj] at hs;simp at hs)]
 simp only[QF,dP,cF,cM,gQ,iE,qF];refine List.filter_congr λx hx=>?_
 have hx:k<x:=by simp only[List.mem_range'_1] at hx;omega
 rw[Lw,aK ⟨k,hx,h2⟩,rC]
def aoz:e9 0#64=[]:=by simp[e9]
def aoy{s:br}(h:e9 s≠[]):s≠0#64:=by rintro rfl;exact h aoz
def aoA{s:br}(h:e9 s=[]):s=0#64:=by
 apply Classical.byContradiction;intro hc;rw[Wh hc] at h;simp at h
def J4:List Int:=[0,1,56,2,57,49,28,3,61,58,42,50,38,29,17,4,62,47,59,36,45,43,51,22,53,39,33,30,24,18,12,5,63,55,48,27,60,41,37,16,46,35,44,21,52,32,23,11,54,26,40,15,34,20,31,10,25,14,19,9,13,8,7,6]
def yA:List V:=J4.map λn=>.int .u8 n
def av4(k:Nat)(h:k<64):((mA k*285870213051353865#64)>>>58).toNat<64/\J4[((mA k*285870213051353865#64)>>>58).toNat]?=aa (k:Int):=by
 revert k;decide +kernel
end Go.Am
namespace Go.Am
structure Tok where
 kind:Int
 au:List UInt8
 pos:Int
inductive aC where
 | mk (tok:Tok) (ak:List aC) (fin:Int)
def aC.tok:aC->Tok | .mk t _ _=>t
def aC.ak:aC->List aC | .mk _ k _=>k
def aC.fin:aC->Int | .mk _ _ e=>e
mutual
def aC.enc:aC->List V
 | .mk t ks e=>[.int .u8 t.kind,.aG t.au,.int .i64 t.pos,.sl .no 5 (eg ks),.int .i64 e]
def eg:List aC->List (List V)
 | []=>[]
 | t::ts=>t.enc::eg ts
end
def uF:∀l,eg l=l.map aC.enc
 | []=>rfl
 | t::ts=>by simp[eg,uF ts]
def lz(l:List aC):(eg l).length=l.length:=by simp[uF]
def dB(t:aC):t.enc=[.int .u8 t.tok.kind,.aG t.tok.au,.int .i64 t.tok.pos,.sl .no 5 (eg t.ak),.int .i64 t.fin]:=by
 cases t;simp only[aC.enc,aC.tok,aC.ak,aC.fin]
mutual
def aC.many:aC->Nat
 | .mk _ ks _=>bp ks
def bp:List aC->Nat
 | []=>0
 | t::ts=>1+t.many+bp ts
end
def Ok(t:aC):t.many=bp t.ak:=by cases t;simp[aC.many,aC.ak]
def tX:∀a b,bp (a++b)=bp a+bp b
 | [],b=>by simp[bp]
 | t::ts,b=>by simp[bp,tX ts b];omega
def mW:∀l,l.length<=bp l
 | []=>by simp[bp]
 | t::ts=>by simp[bp];have:=mW ts;omega
variable{i:Nat}
def apg{l:List aC}(h:i<l.length):bp l=bp (l.take i)+(1+bp l[i].ak)+bp (l.drop (i+1)):=by
 have:l=l.take i++l[i]::l.drop (i+1):=by simp
 have e:=iH bp this;rw[e,tX];simp only[bp,Ok];omega
def aph{l:List aC}(h:i<l.length):bp l[i].ak+1<=bp l:=by
 have:=apg h;omega
structure aA where
 au:List UInt8
 pos:Int
def aA.enc(w:aA):List V:=[.aG w.au,.int .i64 w.pos]
inductive Nd where
 | mk (kind pos:Int) (au:List UInt8) (an:List aA) (ak:List Nd)
namespace Nd
def kind:Nd->Int | .mk k _ _ _ _=>k
def pos:Nd->Int | .mk _ p _ _ _=>p
def au:Nd->List UInt8 | .mk _ _ t _ _=>t
def an:Nd->List aA | .mk _ _ _ w _=>w
def ak:Nd->List Nd | .mk _ _ _ _ k=>k
end Nd
mutual
def Nd.enc:Nd->List V
 | .mk k p t ws ks=>[.int .i64 k,.int .i64 p,.aG t,.sl .no 2 (ws.map aA.enc),.sl .no 5 (sW ks)]
def sW:List Nd->List (List V)
 | []=>[]
 | n::ns=>n.enc::sW ns
end
def BT:∀l,sW l=l.map Nd.enc
 | []=>rfl
 | t::ts=>by simp[sW,BT ts]
def Nd.dB(n:Nd):n.enc=[.int .i64 n.kind,.int .i64 n.pos,.aG n.au,.sl .no 2 (n.an.map aA.enc),.sl .no 5 (n.ak.map Nd.enc)]:=by
 cases n;simp only[Nd.enc,Nd.kind,Nd.pos,Nd.au,Nd.an,Nd.ak,BT]
structure ae where
 l:List aC
 at_:Int
 fin:Int
 aM:Option Int
def dz(b:Option Int):Int:=match b with | some _=>2 | none=>0
def gk(b:Option Int):Int:=match b with | some a=>a | none=>0
def ae.enc(r:ae):List V:=[.sl .no 5 (eg r.l),.int .i64 r.at_,.int .i64 r.fin,.int .i64 (dz r.aM),.int .i64 (gk r.aM)]
def bL(l:List aC)(at_:Int)(k:Int):Bool:=decide (0<=at_)&&match l[at_.toNat]? with | some t=>decide (t.tok.kind=k) | none=>ar
def ae.ok(r:ae):Bool:=r.aM.isNone
def ae.spot(r:ae):Int:=if 0<=r.at_ then(match r.l[r.at_.toNat]? with | some t=>t.tok.pos | none=>r.fin) else r.fin
def ae.fail(r:ae):ae:=match r.aM with | some _=>r | none=>{r with aM:=aa r.spot}
def ae.b_(r:ae)(k:Int):Bool:=r.ok&&bL r.l r.at_ k
def aC.zero:aC:=.mk ⟨0,[],0⟩ [] 0
def ae.take(r:ae)(k:Int):aC × ae:=if r.b_ k then(r.l.getD r.at_.toNat .zero,{r with at_:=r.at_+1}) else(.zero,r.fail)
def ae.word(r:ae):aA × ae:=(⟨(r.take 97).1.tok.au,(r.take 97).1.tok.pos⟩,(r.take 97).2)
theorem ae.ex1{r:ae}{n:Nat}:r.enc.drop n=[V.sl .no 5 (eg r.l),.int .i64 r.at_,.int .i64 r.fin,.int .i64 (dz r.aM),.int .i64 (gk r.aM)].drop n:=rfl
theorem ae.ex2{r:ae}{n:Nat}{x:List V}:setAt r.enc n x=setAt [V.sl .no 5 (eg r.l),.int .i64 r.at_,.int .i64 r.fin,.int .i64 (dz r.aM),.int .i64 (gk r.aM)] n x:=rfl
variable{g:Bool}
theorem ae.ex3{r:ae}{n:Nat}:bP g n r.enc=bP g n [V.sl .no 5 (eg r.l),.int .i64 r.at_,.int .i64 r.fin,.int .i64 (dz r.aM),.int .i64 (gk r.aM)]:=rfl
theorem ae.ex4{r:ae}{n:Nat}:cw n r.enc=cw n [V.sl .no 5 (eg r.l),.int .i64 r.at_,.int .i64 r.fin,.int .i64 (dz r.aM),.int .i64 (gk r.aM)]:=rfl
def ae.ex:(∀{r:ae} {n:Nat},r.enc.drop n=[V.sl .no 5 (eg r.l),.int .i64 r.at_,.int .i64 r.fin,.int .i64 (dz r.aM),.int .i64 (gk r.aM)].drop n) /\
 (∀{r:ae} {n:Nat} {x:List V},setAt r.enc n x=setAt [V.sl .no 5 (eg r.l),.int .i64 r.at_,.int .i64 r.fin,.int .i64 (dz r.aM),.int .i64 (gk r.aM)] n x) /\
 (∀{r:ae} {n:Nat} {g:Bool},bP g n r.enc=bP g n [V.sl .no 5 (eg r.l),.int .i64 r.at_,.int .i64 r.fin,.int .i64 (dz r.aM),.int .i64 (gk r.aM)]) /\
 (∀{r:ae} {n:Nat},cw n r.enc=cw n [V.sl .no 5 (eg r.l),.int .i64 r.at_,.int .i64 r.fin,.int .i64 (dz r.aM),.int .i64 (gk r.aM)]):=⟨ae.ex1,ae.ex2,ae.ex3,ae.ex4⟩
def jy{G:Type}(step:ae × List G->ae × List G):Nat->ae × List G->ae × List G
 | 0,a=>a
 | n+1,a=>if a.1.b_ 44 then jy step n (step ((a.1.take 44).2,a.2)) else a
variable{G:Type}
def eJ(step:ae × List G->ae × List G)(r:ae):ae × List G:=jy step r.l.length (step (r,[]))
def gP(a:ae × List aA):ae × List aA:=(a.1.word.2,a.2++[a.1.word.1])
def ae.fU(r:ae)(k:Int):(r.take k).2.l=r.l:=by
 unfold ae.take;split
 .rfl
 .unfold ae.fail;split<;>rfl
def ae.agk(r:ae):r.fail.at_=r.at_:=by unfold ae.fail;split<;>rfl
def ae.HL(r:ae):r.fail.aM≠none:=by
 unfold ae.fail;split
 .rename_i h;rw[h];simp
 .simp
def ae.vp(r:ae)(k:Int):(r.b_ k=ab/\(r.take k).2.at_=r.at_+1/\(r.take k).2.aM=aj/\0<=r.at_/\r.at_<r.l.length)\/(r.b_ k=ar/\(r.take k).2.at_=r.at_/\(r.take k).2.aM≠aj):=by
 cases h:r.b_ k
 .right;simp only[ae.take,h,dP,cF,qF];exact⟨r.agk,r.HL⟩
 .left;have h' := h;simp only[ae.b_,ae.ok,bL,bg,bQ,si] at h';obtain⟨U,h0,hk⟩:=h';simp only[ae.take,h,cM,qF];refine⟨U,h0,?_⟩;cases hq:r.l[r.at_.toNat]? with
  | none=>rw[hq] at hk;simp at hk
  | some t=>have:=(fy.1 hq).1;omega
def ae.wX(r:ae)(k:Int):bp (r.take k).1.ak<=bp r.l/\((r.take k).2.aM=aj->bp (r.take k).1.ak+1<=bp r.l):=by
 rcases r.vp k with ⟨h,_,_,U,h2⟩ | ⟨h,_,U⟩
 .have aD:r.at_.toNat<r.l.length:=by omega
  have:=aph aD
  simp only[ae.take,h,cM,fW,cK aD,yR];exact⟨by omega,λ_=>this⟩
 .refine⟨?_,λhb=>absurd hb U⟩;simp[ae.take,h,aC.zero,aC.ak,bp]
def aC.inner(t:aC):ae:=⟨t.ak,0,t.fin,aj⟩
def ae.close(r:ae):ae:=if r.ok=ab/\r.at_<r.l.length then r.fail else r
def ae.under(r i:ae):ae:={r with aM:=i.close.aM}
structure Reads{G:Type}(one:ae->G × ae):Prop where
 l:∀r,(one r).2.l=r.l
 go:∀r,0<=r.at_->r.at_<=r.l.length->r.at_<=(one r).2.at_/\(one r).2.at_<=r.l.length/\((one r).2.aM=aj->r.at_+1<=(one r).2.at_)
def cH(one:ae->G × ae)(a:ae × List G):ae × List G:=((one a.1).2,a.2++[(one a.1).1])
def ae.inside(step:ae × List G->ae × List G)(empty:Bool)(t:aC):ae × List G:=if empty=ab/\t.ak.length=0 then(t.inner,[]) else eJ step t.inner
def ae.bracket(step:ae × List G->ae × List G)(kind:Int)(empty:Bool)(r:ae):(List G × Int) × ae :=
 if (r.take kind).2.ok=ab then(((ae.inside step empty (r.take kind).1).2,(r.take kind).1.tok.pos),(r.take kind).2.under (ae.inside step empty (r.take kind).1).1) else(([],0),(r.take kind).2)
def ae.nodes(one:ae->Nd × ae)(kind:Int)(empty:Bool)(r:ae):(List Nd × Int) × ae:=r.bracket (cH one) kind empty
def ae.words(empty:Bool)(r:ae):(List aA × Int) × ae:=r.bracket gP 123 empty
end Go.Am
namespace Go.Am
def mY:List V:=.int .i64 0::aq 64 (.int .u64 0)
def sA:List V:=.int .i64 0::.sl .aZ 1 []::mY
def JE:List Nat:=aq 65 1
def iI(l:List br):List V:=l.map λw=>.int .u64 (w.toNat:Nat)
section
variable {l m:List br} {i n:Nat} {w:br}
def HB:(iI l).length=l.length:=by simp[iI]
def S5:cW (iI l)=true:=by induction l with | nil=>rfl | cons a l ih=>simpa [iI,cW,V.one] using ih
def S4:bT (iI l)=true:=by induction l with | nil=>rfl | cons a l ih=>simpa [iI,bT,V.c9] using ih
def S0:bD (iI l)=iI l:=by induction l with | nil=>rfl | cons a l ih=>simp only[iI,cz,bD,V.erase] at ih ⊢;rw[ih]
def S3:bR n (iI l)=true:=by induction l with | nil=>rfl | cons a l ih=>simpa [iI,bR,V.lo] using ih
def S2(h:i<l.length):bP ar 1 ((iI l).drop i)=aa (.int .u64 ((l.getD i 0#64).toNat:Nat)):=by
 have h' : i<(iI l).length:=by rwa [HB]
 rw[nr h'];simp only[bP];simp[iI,fW,h]
def S6(h:i<l.length):setAt (iI l) i [.int .u64 (w.toNat:Nat)]=iI (l.set i w):=by
 induction l generalizing i with
 | nil=>simp at h
 | cons a l ih =>
  cases i with
  | zero=>simp only[iI,cz,List.set_cons_zero,ng,qz,nR]
  | succ i=>simp only[dm,Nat.add_lt_add_iff_right] at h;simp only[iI,cz,setAt,List.set_cons_succ] at ih ⊢;rw[ih h]
def S1(h:i<l.length):cw 1 ((iI l).drop i)=true:=by
 have h' : i<(iI l).length:=by rwa [HB]
 rw[nr h'];rfl
def SZ(h:l.length=n)(h' : m.length=n):fZ (aq n 1) (iI l) (iI m)=aa (decide (l=m)):=by
 induction n generalizing l m with
 | zero=>obtain rfl:=kn.1 h;obtain rfl:=kn.1 h';rfl
 | succ n ih =>
  cases l with
  | nil=>simp at h
  | cons a l =>
   cases m with
   | nil=>simp at h'
   | cons b m =>
    simp only[iI,cz,AM] at ih ⊢;rw[v7,ih (by simpa using h) (by simpa using h'),tA,w_,<-yG];simp only[iE]
def Ap:∀{c:List V},takeN c.length c=aa c
 | []=>rfl
 | x::c=>by rw[dm,PZ,Ap];rfl
variable{c e:List V}
def PX(h:c.length=n):takeN n (c++e)=aa c:=by
 subst h;induction c with
 | nil=>rfl
 | cons x c ih=>rw[dm,il,PZ,ih];rfl
def zj:∀{c:List V},cw c.length c=ab
 | []=>rfl
 | x::c=>by rw[dm,cw,zj]
def vb:∀{c e:List V},c.length=e.length->over c e=e
 | [],[],_=>rfl
 | x::c,y::e,h=>by rw[over,vb (by simpa using h)]
 | [],_::_,h=>by simp at h
 | _::_,[],h=>by simp at h
end
structure Rl where
 n:Int
 up:List br
 len:up.length=64
def Rl.ext'{a b:Rl}(h:a.n=b.n)(k:a.up=b.up):a=b:=by cases a;cases b;simp only at h k;subst h;subst k;rfl
instance:DecidableEq Rl:=λa b=>if h:a.n=b.n/\a.up=b.up then isTrue (Rl.ext' h.1 h.2) else isFalse λe=>h ⟨e▸rfl,e▸rfl⟩
def Rl.zero:Rl:=⟨0,aq 64 0#64,by simp⟩
def Rl.enc(r:Rl):List V:=.int .i64 r.n::iI r.up
def Rl.get(r:Rl)(i:Nat):br:=r.up.getD i 0#64
def Rl.put(r:Rl)(i:Nat)(w:br):Rl:=⟨r.n,r.up.set i w,by simp[r.len]⟩
def Rl.JL(r:Rl)(n:Int):Rl:=⟨n,r.up,r.len⟩
def Rl.of(n:Int)(f:Nat->br):Rl:=⟨n,(bA 64).map f,by simp⟩
section
variable {r s:Rl} {i n m:Nat} {w:br} {z:Int}
variable{j:Nat}
def Rl.CW:(r.put i w).get j=if i=j/\i<64 then w else r.get j:=by
 simp only[Rl.get,Rl.put,fW,List.getElem?_set,r.len]
 by_cases h:i=j
 .subst h
  by_cases h2:i<64
  .simp[h2]
  .simp[h2,r.len]
 .simp[h]
def Rl.nz{f:Nat->br}(h:i<64):(Rl.of z f).get i=f i:=by simp[Rl.get,Rl.of,fW,h]
def Rl.ext(h:r.n=s.n)(k:∀i,i<64->r.get i=s.get i):r=s:=by
 refine Rl.ext' h (QS (by rw[r.len,s.len]) λi U h2=>?_)
 have:=k i (by rw[r.len] at U;exact U)
 simpa [Rl.get,fW,U,h2] using this
def Rl.dd:r.enc.length=65:=by simp[Rl.enc,HB,r.len]
def Rl.gN:cW r.enc=true:=by simp[Rl.enc,cW,V.one,S5]
def Rl.dV:bT r.enc=true:=by simp[Rl.enc,bT,V.c9,S4]
def Rl.dL:bD r.enc=r.enc:=by simp[Rl.enc,bD,V.erase,S0]
def Rl.cP:bR m r.enc=true:=by simp[Rl.enc,bR,V.lo,S3]
def Rl.fN:takeN 65 r.enc=aa r.enc:=by have:=Ap (c:=r.enc);rwa [Rl.dd] at this
def Rl.iR:bP ab 65 r.enc=aa (.agg r.enc):=by rw[zM,Rl.fN];rfl
def Rl.ib:cw 65 r.enc=true:=by have:=zj (c:=r.enc);rwa [Rl.dd] at this
def Rl.gC:over s.enc r.enc=r.enc:=vb (by rw[Rl.dd,Rl.dd])
def Rl.as5:setAt s.enc 0 r.enc=r.enc:=by rw[ng,Rl.gC]
theorem Rl.vh:bP ar 1 r.enc=aa (.int .i64 r.n):=rfl
theorem Rl.as0:cw 1 r.enc=true:=rfl
def Rl.XU:setAt r.enc 0 [.int .i64 z]=(r.JL z).enc:=by rw[Rl.enc,ng,qz,nR];rfl
def Rl.as2:over r.enc [.int .i64 z]=(r.JL z).enc:=by rw[<-ng,Rl.XU]
def Rl.yl:mY=Rl.zero.enc:=by rw[Rl.enc,iI,Rl.zero,List.map_replicate];rfl
def Rl.rq:fZ JE r.enc s.enc=aa (decide (r=s)):=by
 show fZ (1::aq 64 1) (.int .i64 r.n::iI r.up) (.int .i64 s.n::iI s.up)=_;rw[v7,SZ r.len s.len,tA,<-yG];congr 1;exact su.2 ⟨λh=>Rl.ext' h.1 h.2,λh=>h▸⟨rfl,rfl⟩⟩
theorem Rl.yf{f:Nat->br}:(Rl.of z f).n=z:=rfl
def Rl.Ki:Rl.zero.JL z=Rl.of z λ_=>0#64:=by
 refine Rl.ext rfl λi hi=>?_
 rw[Rl.nz hi];simp only[Rl.get,Rl.JL,Rl.zero,fW,aau,hi,cM,yR]
def Rl.fill{f:Nat->br}:(Rl.of z λj=>if j<i then f j else 0#64).put i (f i)=Rl.of z λj=>if j<i+1 then f j else 0#64:=by
 refine Rl.ext rfl λk hk=>?_
 rw[Rl.CW,Rl.nz hk,Rl.nz hk]
 by_cases h:i=k
 .subst h;simp[hk]
 .rw[aB (by omega)]
  by_cases h2:k<i
  .rw[aF h2,aF (by omega)]
  .rw[aB h2,aB (by omega)]
def Rl.ud(h:i<64):bP ar 1 (r.enc.drop (1+i))=aa (.int .u64 ((r.get i).toNat:Nat)):=by
 rw[D',Rl.enc,D7,S2 (by rw[r.len];exact h)];rfl
def Rl.Aq(h:i<64):cw 1 (r.enc.drop (1+i))=true:=by
 rw[D',Rl.enc,D7,S1 (by rw[r.len];exact h)]
def Rl.Ar(h:i<64):setAt r.enc (1+i) [.int .u64 (w.toNat:Nat)]=(r.put i w).enc:=by
 rw[D',Rl.enc,kh,S6 (by rw[r.len];exact h)];rfl
def Rl.al:=af @Rl.dd <| af @Rl.gN <| af @Rl.dV <| af @Rl.dL <| af @Rl.cP <| af @Rl.fN <| af @Rl.iR <| af @Rl.ib <| af @Rl.gC <| af @Rl.vh <| af @Rl.as0 <| af @Rl.as5 <| af @Rl.XU <| af @Rl.as2 <| af @Rl.yl @Rl.rq
end
abbrev KQ:=Option (Nat × Bool)->List Nat->Nat->List (AO × List Nat)
abbrev cB:=KQ->KQ
def sl:List Nat->List X
 | []=>[]
 | a::l=>.s a::sl l
def zv:Nat->V
 | 0=>.int .i64 0
 | 1=>.aG []
 | 2=>.bool ar
 | 3=>.int .u8 0
 | 4=>.int .u64 0
 | n+5=>.sl .aZ n []
def sf:List (Nat × Nat × Nat)->List (Nat × Nat × X)
 | []=>[]
 | (a,b,c)::l=>(a,b,.s c)::sf l
def zl:List Nat->List V
 | []=>[]
 | a::l=>zv a::zl l
def wd(p:aO):cB:=λk g m n=>(⟨aa n,p,g⟩,m)::k g [] (n+1)
def wu(d:Option Nat)(p:aO):cB:=λk g m n=>(⟨d,p,g⟩,m)::k g [] n
def wn(f:Nat->aO):cB
 | _,_,_,0=>[]
 | k,g,m,n+1=>(⟨aa (n+1),f n,g⟩,m)::k g [] (n+2)
def wp(d:Option Nat)(f:Nat->aO):cB
 | _,_,_,0=>[]
 | k,g,m,n+1=>(⟨d,f n,g⟩,m)::k g [] (n+1)
def om(a:Nat):cB:=wd (.mv (.s a))
def oi(z:Int):cB:=wd (.mv (.c (.int .i64 z)))
def oz(i:Nat):cB:=wd (.mv (.c (zv i)))
def ob(p:BinOp)(a b:Nat):cB:=wd (.dU p (.s a) (.s b))
def oB(p:BinOp)(a:Nat)(z:Int):cB:=wd (.dU p (.s a) (.c (.int .i64 z)))
def ou(p:BinOp)(a:Nat)(z:Int):cB:=wd (.dU p (.s a) (.c (.int .u8 z)))
def oE(p:BinOp)(a b:Nat):cB:=wd (.pZ p (.s a) (.s b))
def ol(i a:Nat):cB:=wd (.load ab i (.s a))
def oo(a:Nat):cB:=wd (.load ar 1 (.s a))
def ok(a:Nat):cB:=wd (.wN (.s a))
def of(i a:Nat):cB:=wd (.qa i (.s a))
def ov(i j a:Nat):cB:=wd (.v9 ab j i (.s a))
def ow(i a:Nat):cB:=wd (.v9 ar i 1 (.s a))
def oL(a:Nat):cB:=wd (.wJ (.s a))
def oT(a:Nat):cB:=wd (.wK (.s a))
def oA(i a b:Nat):cB:=wd (.tT i (.s a) (.s b))
def oI(i a:Nat)(z:Int):cB:=wd (.tT i (.s a) (.c (.int .i64 z)))
def oS(a b:Nat):cB:=wd (.tV (.s a) (.s b))
def oe(a i:Nat):cB:=wd (.ext (.s a) i)
def oc(f:FuncId)(l:List X):cB:=wd (.call f l)
def oC(f:FuncId)(l:List Nat):cB:=wd (.call f (sl l))
def oO(q:OQ)(l:List Nat):cB:=wd (.own q (sl l))
def oK(a b c:Nat):cB:=wd (.Ai (.s a) (aa (.s b)) (aa (.s c)))
def oW(z:List Nat)(l:List (Nat × Nat × Nat)):cB:=wd (.build (zl z) (sf l))
def oG(z:List Nat)(l:List (Nat × Nat × X)):cB:=wd (.build (zl z) l)
def oM(l:List Nat):cB:=wd (.alloc (zl l))
def oY(z:List V)(l:List (Nat × Nat × X)):cB:=wd (.build z l)
def op(a b c:Nat):cB:=wd (.pick (.s a) (.s b) (.s c))
def oa(i a b:Nat):cB:=wd (.app i (.s a) (.s b))
def oy(a b:Nat):cB:=wd (.pick (.s a) (.s b) (.c (.bool ar)))
def on(a:Nat):cB:=wd (.not (.s a))
def oq(q:aO):cB:=wd (q)
def oP(m i a b:Nat):cB:=wd (.sO m i (.s a) (.s b))
def oQ(m i a:Nat)(z:Int):cB:=wd (.sO m i (.s a) (.c (.int .i64 z)))
def nm:cB:=wn λn=>.mv (.s n)
def nB(p:BinOp)(z:Int):cB:=wn λn=>.dU p (.s n) (.c (.int .i64 z))
def nu(p:BinOp)(z:Int):cB:=wn λn=>.dU p (.s n) (.c (.int .u8 z))
def nb(p:BinOp)(a:Nat):cB:=wn λn=>.dU p (.s a) (.s n)
def nE(p:BinOp)(a:Nat):cB:=wn λn=>.pZ p (.s a) (.s n)
def nl(i:Nat):cB:=wn λn=>.load ab i (.s n)
def no:cB:=wn λn=>.load ar 1 (.s n)
def nk:cB:=wn λn=>.wN (.s n)
def nf(i:Nat):cB:=wn λn=>.qa i (.s n)
def nL:cB:=wn λn=>.wJ (.s n)
def nT:cB:=wn λn=>.wK (.s n)
def nA(i a:Nat):cB:=wn λn=>.tT i (.s a) (.s n)
def nI(i:Nat)(z:Int):cB:=wn λn=>.tT i (.s n) (.c (.int .i64 z))
def nS(a:Nat):cB:=wn λn=>.tV (.s a) (.s n)
def nn:cB:=wn λn=>.not (.s n)
def nO(q:OQ):cB:=wn λn=>.own q [.s n]
def n1(i:Nat):cB:=wn λn=>.ko i [.s n]
def na(i a:Nat):cB:=wn λn=>.app i (.s a) (.s n)
def os(i a b:Nat):cB:=wu aj (.store i (.s a) (.s b))
def ot(d a:Nat):cB:=wu (aa d) (.mv (.s a))
def oj(d:Nat)(z:Int):cB:=wu (aa d) (.mv (.c (.int .i64 z)))
def oV(d:Nat)(v:V):cB:=wu (aa d) (.mv (.c v))
def oU(d i:Nat):cB:=wu (aa d) (.mv (.c (zv i)))
def ox(d i a:Nat):cB:=wu (aa d) (.box i (.s a))
def oX(d i a:Nat):cB:=wu (aa d) (.vO i (.s a))
def oZ(d:Nat)(l:List Nat):cB:=wu (aa d) (.alloc (zl l))
def oR(d:Nat)(l:List V):cB:=wu (aa d) (.alloc l)
def od(d:Option Nat)(q:aO):cB:=wu d (q)
def oN:cB:=wu aj (.mv (.c .any))
def o1(d:Nat):cB:=wp (aa d) λn=>.mv (.s n)
def o2(i a:Nat):cB:=wp aj λn=>.store i (.s a) (.s n)
def fo(i a:Nat):cB:=λk=>of i a (no k)
def nF(i:Nat):cB:=λk=>nf i (no k)
def mk(a:Nat):cB:=λk=>om a (nk k)
def ic(a:Nat):cB:=λk=>om a (nB .add 1 (o1 a k))
def mM(l:List Nat):cB:=λk g _ n=>k g l n
def gA:cB
 | _,_,_,0=>[]
 | k,_,m,n+1=>(⟨aa (n+1),.mv (.s n),aj⟩,m)::k (aa (n+1,ab)) [] (n+2)
def gB:cB
 | _,_,_,0=>[]
 | k,_,m,n+1=>(⟨aa (n+1),.mv (.s n),aj⟩,m)::k (aa (n+1,ar)) [] (n+2)
def gZ:cB
 | k,aa (g,ab),m,n+1=>(⟨aa (n+1),.pick (.s g) (.s n) (.c (.bool ar)),aj⟩,m)::k aj [] (n+2)
 | k,aa (g,ar),m,n+1=>(⟨aa (n+1),.pick (.s g) (.c (.bool ab)) (.s n),aj⟩,m)::k aj [] (n+2)
 | _,_,_,_=>[]
def og(g:Nat)(o:cB):cB:=λk h=>o (λ_=>k h) (aa (g,ab))
def oh(g:Nat)(o:cB):cB:=λk h=>o (λ_=>k h) (aa (g,ar))
def ru:List cB->KQ
 | []=>λ_ _ _=>[]
 | o::l=>o (ru l)
def fs:List (AO × List Nat)->List AO
 | []=>[]
 | x::l=>x.1::fs l
def rg(n:Nat)(l:List cB):AC:=.Ga (fs (ru l aj [] n))
def dg(n:Nat)(l:List cB):AC:=.draw (ru l aj [] n)
def dA(n:Nat)(v:List Nat)(l:List cB):AC:=.Hw v (ru l aj [] n)
def rS(n:Nat)(l:List cB):List AO:=fs (ru l aj [] n)
def dH(n:Nat)(h:HI)(l:List cB):AC:=.hole (ru l aj [] n) h
def sq:List AC->AC
 | []=>.skip
 | [a]=>a
 | a::b::l=>.seq a (sq (b::l))
def cd(n:Nat)(a b:AC):AC:=.cond (.s n) a b
def ci(n:Nat)(a:AC):AC:=.cond (.s n) a .skip
def cx(n k:Nat):AC:=.cond (.s n) .skip (.exit k)
def bl(k:Nat)(a:AC):AC:=.block k (.loop a)
def cr(n m:Nat)(l:List cB):AC:=.cond (.s n) (.seq (.Ga (fs (ru l aj [] m))) .ret) .skip
def lp(q k:Nat)(a:AC)(m:Nat):AC:=.block k (.loop (.seq (rg (q+2) [ob .lss (q+1) q]) (.seq (cx (q+2) k) (.seq (.block (k+1) a) (rg m [oB .add (q+1) 1,o1 (q+1)])))))
variable{f:FuncId}{rs:List RV}
def aW{P:Program}{x:AC}{n:Nat}{fn:Func}(U:P.funcs[f]?=aa fn)(h:Hint:={})(h2:(fn.name == "runtime.NumGoroutine",fn.body.bind (gu P h),BQ P fn.results.toList,fn.ntmps)=(ar,aa x,aa rs,n):=by kernel_rfl):aS P f x rs n:=by
 simp only[pW] at h2;exact⟨fn,h,U,h2.1,h2.2.1,h2.2.2.1,h2.2.2.2⟩
def a7:=af @sl.eq_1 <| af @sl.eq_2 <| af @zv.eq_1 <| af @zv.eq_2 <| af @zv.eq_3 <| af @zv.eq_4 <| af @zv.eq_5 <| af @zv.eq_6 <| af @zl.eq_1 <| af @zl.eq_2 <| af @wd.eq_1 <| af @wu.eq_1 <| af @wn.eq_2 <| af @wp.eq_2 <| af @om.eq_1 <| af @oi.eq_1 <| af @oz.eq_1 <| af @ob.eq_1 <| af @oB.eq_1 <| af @ou.eq_1 <| af @oE.eq_1 <| af @ol.eq_1 <| af @oo.eq_1 <| af @ok.eq_1 <| af @of.eq_1 <| af @ov.eq_1 <| af @ow.eq_1 <| af @oL.eq_1 <| af @oT.eq_1 <| af @oA.eq_1 <| af @oI.eq_1 <| af @oS.eq_1 <| af @oe.eq_1 <| af @oc.eq_1 <| af @oC.eq_1 <| af @oO.eq_1 <| af @oK.eq_1 <| af @oW.eq_1 <| af @oG.eq_1 <| af @oM.eq_1 <| af @sf.eq_1 <| af @sf.eq_2 <| af @oY.eq_1 <| af @op.eq_1 <| af @oa.eq_1 <| af @oy.eq_1 <| af @on.eq_1 <| af @oq.eq_1 <| af @oP.eq_1 <| af @oQ.eq_1 <| af @nm.eq_1 <| af @nB.eq_1 <| af @nu.eq_1 <| af @nb.eq_1 <| af @nE.eq_1 <| af @nl.eq_1 <| af @no.eq_1 <| af @nk.eq_1 <| af @nf.eq_1 <| af @nL.eq_1 <| af @nT.eq_1 <| af @nA.eq_1 <| af @nI.eq_1 <| af @nS.eq_1 <| af @nn.eq_1 <| af @nO.eq_1 <| af @n1.eq_1 <| af @na.eq_1 <| af @os.eq_1 <| af @ot.eq_1 <| af @oj.eq_1 <| af @oV.eq_1 <| af @oU.eq_1 <| af @ox.eq_1 <| af @oX.eq_1 <| af @oZ.eq_1 <| af @oR.eq_1 <| af @od.eq_1 <| af @oN.eq_1 <| af @o1.eq_1 <| af @o2.eq_1 <| af @fo.eq_1 <| af @nF.eq_1 <| af @mk.eq_1 <| af @ic.eq_1 <| af @mM.eq_1 <| af @gA.eq_2 <| af @gB.eq_2 <| af @gZ.eq_1 <| af @gZ.eq_2 <| af @og.eq_1 <| af @oh.eq_1 <| af @ru.eq_1 <| af @ru.eq_2 <| af @fs.eq_1 <| af @fs.eq_2 <| af @rg.eq_1 <| af @dg.eq_1 <| af @dA.eq_1 <| af @rS.eq_1 <| af @dH.eq_1 <| af @sq.eq_2 <| af @sq.eq_3 <| af @cd.eq_1 <| af @ci.eq_1 <| af @cx.eq_1 <| af @bl.eq_1 <| af @cr.eq_1 @lp.eq_1
variable{c:List V}{ik:IntKind}{k:Nat}{m:List (List V)}
def ix{Z:Tk}{n:Int}{K:V->Prop}(h:m[n.toNat]?=aa c)(hk:K (.elt c 0))(h0:0<=n:=by omega):BD k (.sl Z k m) (.int ik n) K:=sN h0 h hk
variable{l:List (List V)}{t:List V}{v:V}{D:ah}
def rt{w:V}(h:v.erase=w:=by simp[V.erase,bD])(U:v.c9=true:=by rfl):mw (λv σ' => v=w/\σ' = D) ⟨t,l,D⟩ v:=aL h U
def ah.DL{a b c:ah}(h:a.sub b)(k:b.sub c):a.sub c:=⟨λx cs hx=>k.1 x cs (h.1 x cs hx),λx n hx=>k.2.1 x n (h.2.1 x n hx),λx n hx=>k.2.2 x n (h.2.2 x n hx)⟩
variable{E:Env}{σ':ah}
def Env.ok.eC(h:E.ok D)(ho:bW D σ'):E.ok σ' := by
 refine⟨λb cs hb=>?_,λt n ht=>h.aR t n (ho.aR t n ht),h.fresh,h.nt,λb cs hc=>h.b8 b cs (ho.b8 b cs hc)⟩;obtain⟨ds,U,h2⟩:=ho.box b cs hb;obtain⟨k1,k2⟩:=h.box b ds U;exact⟨k1,k2.eC h2⟩
variable{as:List V}
def ch.le{P:Program}{S S' : ah}(h:ch P f as D λv' σ' => v' = v/\σ' = S)(ho:bW S S'):ch P f as D λv' σ' => v' = v/\σ' = S' :=
 ⟨h.1,λE vs U h2 h3=>(h.2 E vs U h2 h3).mono λ_ _ ⟨v',x,E',σ',a,b,c,d,e,f,g⟩=>⟨v',x,E',S',a,b,c,(g.2▸d).eC ho,e,f,g.1,rfl⟩⟩
variable{b:Nat}
def bW.set{A B:List V}(h:da A B):bW (D.set b A) (D.set b B):=by
 refine⟨λx cs' hx=>?_,λ_ _ h=>h,λ_ _ h=>h⟩;simp only[ah.set] at hx ⊢
 by_cases e:x=b
 .rw[aF e] at hx ⊢;simp only[bc] at hx;subst hx;exact⟨A,Eq.refl _,h⟩
 .rw[aB e] at hx ⊢;exact⟨cs',hx,da.rfl⟩
section
variable {D:ah}
variable{H:V->ah->Prop}
def apr{a b:Int}{k:IntKind}(hk:H (.int k (if b<a then b else a)) D):OQ.bj D H .min [.int k a,.int k b]:=⟨IG,hk⟩
def apm{a b:Int}{k:IntKind}(hk:H (.int k (if a<b then b else a)) D):OQ.bj D H .max [.int k a,.int k b]:=⟨IG,hk⟩
variable{cs ds:List V}
def auN{g:Nat}(h:D.box b=aj)(hg:D.box g=aa ds):(D.set b cs).box g=aa ds:=by
 rw[ah.eY _ _ (by rintro rfl;rw[h] at hg;simp at hg)];exact hg
def jg(h:D.box b=aj):D.sub (D.set b cs) :=
 ⟨λg ds hg=>auN h hg,λ_ _ h=>h,λ_ _ h=>h⟩
end
section
variable {P:Program} {a:AC} {Q:Exit->St->Prop} {st:St} {O:Type} {F:Nat->O->St} {J:Nat->O->Prop} {n:Nat}
def CI(n:Nat)(J:Nat->O->Prop):={p:Nat × O // p.1<=n/\J p.1 p.2}
def AB(F:Nat->O->St)(J:Nat->O->Prop)(n:Nat)(Q:Exit->St->Prop)(i:Nat):Exit->St->Prop :=
 AH (ι:=CI n J) (λp=>F p.1.1 p.1.2) (λp=>n - p.1.1) Q (n - i)
def Cm(F:Nat->O->St)(J:Nat->O->Prop)(st:St):Prop:=bI st λaP => ∃x,J 0 x/\aP = F 0 x
def awd(n:Nat)(F:Nat->O->St)(J J' : Nat->O->Prop)(hJ:∀i x,J i x=J' i x)(h0:Cm F J st)
 (hs:∀i x,i<n->J' i x->vc P a (AB F J n Q i) (F i x)) (he:∀x,J' n x->vc P a (AB F J n Q n) (F n x)):vc P (.loop a) Q st:=by
 refine jX (ι:=CI n J) (λp=>F p.1.1 p.1.2) (λp=>n - p.1.1) (bI.mono h0 ?_) ?_
 .rintro aP ⟨x,hx,rfl⟩;exact⟨⟨(0,x),KP _,hx⟩,rfl⟩
 .rintro⟨⟨i,x⟩,hle,hx⟩
  rcases vF i n with h | h
  .exact hs i x h ((hJ i x)▸hx)
  .have e:i=n:=Nat.le_antisymm hle h;subst e;exact he x ((hJ i x)▸hx)
variable{i:Nat}
theorem ad2{id:Nat}:AB F J n Q i (.exit id) st=Q (.exit id) st:=rfl
theorem ad4:AB F J n Q i .ret st=Q .ret st:=rfl
def GH(F:Nat->O->St)(J:Nat->O->Prop)(n i:Nat)(st:St):Prop:=bI st λaP => ∃j:CI n J,aP = F j.1.1 j.1.2/\n - j.1.1<n - i
theorem ad3:AB F J n Q i .normal st=GH F J n i st:=rfl
def aI:=af @ad2 <| af @ad4 @ad3
variable {t:List V} {l:List (List V)} {D:ah}
def ent(x:O)(hx:J 0 x)(h:da t (F 0 x).t)(hl:cT l (F 0 x).aE)(ho:bW D (F 0 x).out):Cm F J ⟨t,l,D⟩ :=
 bI.eC h hl ho ⟨x,hx,rfl⟩
def nxt(x:O)(hi:i<n)(hx:J (i+1) x)(h:da t (F (i+1) x).t)(hl:cT l (F (i+1) x).aE)(ho:bW D (F (i+1) x).out):GH F J n i ⟨t,l,D⟩ :=
 bI.eC h hl ho ⟨⟨(i+1,x),hi,hx⟩,rfl,by simp only;omega⟩
def cn(n:Nat)(F0:Nat->O->St)(J0:Nat->O->Prop)
 (k:∀F:Nat->O->St,(∀i x,F i x=F0 i x)->∀J:Nat->O->Prop,(∀i x,J i x=J0 i x)->Cm F J st/\(∀i x,i<n->J0 i x->vc P a (AB F J n Q i) (F i x))/\∀x,J0 n x->vc P a (AB F J n Q n) (F n x)):vc P (.loop a) Q st:=by
 obtain⟨F,hF⟩:∃F:Nat->O->St,∀i x,F i x=F0 i x:=⟨_,λ_ _=>rfl⟩;obtain⟨J,hJ⟩:∃J:Nat->O->Prop,∀i x,J i x=J0 i x:=⟨_,λ_ _=>rfl⟩;obtain⟨a1,a2,a3⟩:=k F hF J hJ;exact awd n F J J0 hJ a1 a2 a3
def en{J' : Nat->O->Prop}(hJ:∀i x,J i x=J' i x)(x:O)(hx:J' 0 x)(h:da t (F 0 x).t:=by simp[hF,aq,am,bt])(hl:cT l (F 0 x).aE:=by simp[hF,aq,am,bt])(ho:bW D (F 0 x).out:=by simp[hF,aq,am,bt]):Cm F J ⟨t,l,D⟩ :=
 ent x ((hJ _ _).symm▸hx) h hl ho
def nx{J' : Nat->O->Prop}(hJ:∀i x,J i x=J' i x)(x:O)(hi:i<n)(hx:J' (i+1) x)(h:da t (F (i+1) x).t:=by simp[hF,aq,am,bt])(hl:cT l (F (i+1) x).aE:=by simp[hF,aq,am,bt])(ho:bW D (F (i+1) x).out:=by simp[hF,aq,am,bt]):GH F J n i ⟨t,l,D⟩ :=
 nxt x hi ((hJ _ _).symm▸hx) h hl ho
def fk(x:O)(hi:i<n)(hx:J (i+1) x)(h:da t (F (i+1) x).t)(hl:cT (l.take (F (i+1) x).aE.length) (F (i+1) x).aE)(ho:bW D (F (i+1) x).out)(U:bR (F (i+1) x).aE.length (F (i+1) x).t=ab)(h2:du (F (i+1) x).aE.length (F (i+1) x).aE=ab):GH F J n i ⟨t,l,D⟩ :=
 bI.CO h hl ho U h2 ⟨⟨(i+1,x),hi,hx⟩,rfl,by simp only;omega⟩
structure Gr(dE D:ah)(tk:Tk)(n:Nat):Prop where
 sub:dE.sub D
 tk:tk = .aZ\/∃Z,tk = .tk Z/\D.aR Z=aa n/\dE.aR Z=aj
def Gr.nil{D:ah}:Gr D D .aZ 0:=⟨ah.bm _,.inl rfl⟩
variable{u:Tk}
def Gr.app{dE D:ah}{tk:Tk}{e:List (List V)}{K:V->ah->Prop}(h:Gr dE D tk m.length)(hb:m.length+e.length<=aQ)
 (hk:∀fD σ',Gr dE σ' fD (m++e).length->σ'.box=D.box->(∀Z n,D.aR Z=aa n->tk≠.tk Z->σ'.aR Z=aa n)->K (.sl fD k (m++e)) σ'):rA D k (.sl tk k m) (.sl u k e) K:=by
 have hl:(m++e).length=m.length+e.length:=bM
 rcases h.tk with rfl | ⟨Z,rfl,ht,h0⟩
 .refine Ha hb λZ hn=>hk _ _ ⟨⟨λb cs hc=>h.sub.1 b cs hc,λυ n hu=>?_,h.sub.2.2⟩,.inr ⟨Z,rfl,by rw[hl];exact PD,?_⟩⟩ rfl λυ n hu _=>?_
  .have:=h.sub.2.1 υ n hu
   rw[qE];exact this;rintro rfl;rw[hn] at this;simp at this
  .cases hq:dE.aR Z with
   | none=>rfl
   | some n=>have:=h.sub.2.1 Z n hq;rw[hn] at this;simp at this
  .rw[qE];exact hu;rintro rfl;rw[hn] at hu;simp at hu
 .refine kM hb ht (hk _ _ ⟨⟨λb cs hc=>h.sub.1 b cs hc,λυ n hu=>?_,h.sub.2.2⟩,.inr ⟨Z,rfl,by rw[hl];exact PD,h0⟩⟩ rfl λυ n hu a9=>?_)
  .rw[qE];exact h.sub.2.1 υ n hu;rintro rfl;rw[h0] at hu;simp at hu
  .rw[qE];exact hu;rintro rfl;exact a9 rfl
def bt{l:List V}:da l l=True:=eq_true da.rfl
def Gp{O:Type}{l:List O}{p:O->Prop}(h:∀k∈l.take i,p k)(hi:i<l.length)(hk:p l[i]):∀k∈l.take (i+1),p k:=by
 rw[iG hi];intro k hm
 rcases fi.1 hm with hm | hm
 .exact h k hm
 .rw[kH.1 hm];exact hk
def TE{O G:Type}{f:G->O->G}{a:G}{l:List O}(hi:i<l.length):(l.take (i+1)).foldl f a=f ((l.take i).foldl f a) l[i]:=by
 rw[iG hi,yN];rfl
variable{j:Nat}
def iW{p:Nat->Prop}(h:∀k,k<j->p k)(hj:p j):∀k,k<j+1->p k:=λk hk=>by
 rcases Q3.1 hk with e | rfl
 .exact h k e
 .exact hj
def cc{i n:Nat}(h:i<n):decide ((i:Int)<(n:Nat))=true:=aK (by omega)
def cE{n:Nat}:decide ((n:Int)<(n:Nat))=false:=aJ (by omega)
def bJ{i n:Nat}(h:i<n)(hn:n<=9223372036854775807:=by omega):IntKind.i64.wrap ((i:Int)+1)=((i+1:Nat):Int):=by
 rw[wrap_i64 (by omega) (by omega)];rfl
end
def jR(n b:Nat):V->V
 | .ptr (.aE i) o=>if i=n then .ptr (.out b) o else if i<n then .ptr (.aE i) o else .any
 | v=>if v.lo n=ab then v else .any
def Env.qB(E:Env)(n b:Nat):Env:={w:=E.w,bf:=λx=>if x=b then .rh else E.bf x,aE:=λi=>if i<n then E.aE i else aj,aR:=E.aR}
section
variable {E:Env} {n b:Nat}
def OX(h2:E.bf b = .jq n):Fr E (E.qB n b):=by
 have lD:∀x,x≠b->(E.qB n b).bf x=E.bf x:=λx hx=>by simp[Env.qB,hx]
 refine⟨rfl,rfl,rfl,bY _,λ_=>rfl,λb' o c hc hv=>?_,λt m h=>⟨m,h,bY _,λ_ b' c hr=>⟨?_,λcs e b7=>⟨cs,b7,rfl⟩⟩⟩,λb' _ hr=>⟨rfl,?_⟩,λb' _ h=>?_,λb' t c _ h=>?_,λb' i _ h=>?_,λ_ c _ h=>⟨c,h,rfl⟩⟩
 .have a9:b' ≠ b:=λe=>by rw[e,h2] at hc;exact hc
  exact⟨by rw[lD _ a9];exact hc,hv⟩
 .have a9:b' ≠ b:=λe=>by rw[e,h2] at hr;simp at hr
  rw[lD _ a9];exact hr
 .have a9:b' ≠ b:=λe=>by rw[e,h2] at hr;simp at hr
  rw[lD _ a9]
 .by_cases e:b' = b
  .rw[e];exact .inr ⟨_,h2⟩
  .rw[lD _ e] at h;exact .inl h
 .by_cases e:b' = b
  .rw[e] at h;simp[Env.qB] at h
  .rw[lD _ e] at h;exact⟨c,h⟩
 .by_cases e:b' = b
  .rw[e] at h;simp[Env.qB] at h
  .rw[lD _ e] at h;exact⟨i,h⟩
def XI(U:E.aE n=aa b)(h2:E.bf b = .jq n){x:V}{v:Value}(h:R E x v):R (E.qB n b) (jR n b x) v:=by
 have MD:∀{x:V},R E x v->R (E.qB n b) (if x.lo n=ab then x else .any) v:=λ{x} h=>by
  split
  .rename_i hl;have hc:=R.cut x hl h;refine R.mono x (E:=E.cut n) ⟨(OX h2).cell,λi c hc=>?_,(OX h2).tok⟩ hc;simp only[Env.cut] at hc;simp only[Env.qB];exact hc
  .simp only[R]
 unfold jR;split
 .rename_i i o;simp only[R] at h;obtain⟨c,k1,k2⟩:=h;split
  .rename_i e;subst e;rw[U] at k1;simp only[R];rw[k2];cases k1;rfl
  .split
   .rename_i aD;simp only[R,Env.qB];exact⟨c,by rw[aF aD];exact k1,k2⟩
   .simp only[R]
 .exact MD h
def XJ(U:E.aE n=aa b)(h2:E.bf b = .jq n):∀{l:List V} {vs:List Value},RL E l vs->RL (E.qB n b) (l.map (jR n b)) vs
 | [],[],_=>by simp[RL]
 | [],_::_,h=>by simp[RL] at h
 | _::_,[],h=>by simp[RL] at h
 | x :: l, v :: vs, h => by
  simp only[RL,cz] at h ⊢;exact⟨XI U h2 h.1,XJ U h2 h.2⟩
end
variable{K:St->Prop}{cs:List V}
def bI.asz(hn:bT cs=ab)
 (hk:∀b,D.box b=aj->K ⟨t.map (jR l.length b),l.map (List.map (jR l.length b)),D.set b cs⟩):bI ⟨t,l++[cs],D⟩ K:=by
 intro E a hs;obtain⟨b,U,h2,h3⟩:=hs.dv.box l.length cs (by simp);have bq:=OX h2;have lD:∀x,x≠b->(E.qB l.length b).bf x=E.bf x:=λx hx=>by simp[Env.qB,hx]
 have EV:D.box b=none:=by
  cases hq:D.box b with
  | none=>rfl
  | some ds=>have:=(hs.ok.box b ds hq).1;rw[h2] at this;simp at this
 have aD:b<E.w.heap.size:=by obtain⟨c,e,k,_⟩:=h3;exact lK (w:=E.w) k
 refine⟨E.qB l.length b,⟨t.map (jR l.length b),l.map (List.map (jR l.length b)),D.set b cs⟩,rfl,bq,⟨⟨λb' ds hd=>?_,hs.ok.aR,λb' cC => ?_,hs.ok.nt,λb cs hc=>eU.mono _ bq.nl (hs.ok.b8 b cs hc)⟩,⟨λi ds hd=>?_,λi hi=>?_⟩,hs.defers,XJ U h2 hs.slot⟩,hk b EV⟩
 .by_cases e:b' = b
  .subst e;have hd:(D.set b' cs).box b' = aa ds:=hd;rw[iS] at hd;cases hd;refine⟨by simp[Env.qB],?_⟩;obtain⟨c,e,k1,k2,k3⟩:=h3;refine⟨c,e,k1,k2,λj x hx=>?_⟩;obtain⟨v,q1,q2⟩:=k3 j x hx;refine⟨v,q1,R.qx (E:=E) x (by rw[Env.apP];exact bq.nl) ?_ q2⟩
   have:∀{l:List V} {j:Nat} {x:V},bT l=ab->l[j]?=aa x->x.c9=true:=by
    intro l;induction l with
    | nil=>intro j x _ h;simp at h
    | cons y ys ih =>
     intro j x hl h;simp only[bT,bg] at hl;cases j with
     | zero=>simp at h;rw[<-h];exact hl.1
     | succ j=>exact ih hl.2 (by simpa using h)
   exact this hn hx
  .have hd:(D.set b cs).box b' = aa ds:=hd;rw[pf e] at hd;obtain⟨k1,k2⟩:=hs.ok.box b' ds hd;exact⟨by rw[lD _ e];exact k1,k2.mono bq.nl rfl⟩
 .have cC : E.w.heap.size<=b' := cC;rw[lD b' (by omega)];exact hs.ok.fresh b' cC
 .have hd:(l.map (List.map (jR l.length b)))[i]?=aa ds:=hd;simp only[uo,dn] at hd;obtain⟨SQ,Ib,rfl⟩:=hd;have hi:i<l.length:=(fy.1 Ib).1;obtain⟨bi,k1,k2,c,e,k3,k4,k5⟩:=hs.dv.box i SQ (by rw[qJ hi];exact Ib);have a9:bi≠b:=λe=>by rw[e,h2] at k2;simp at k2;omega
  refine⟨bi,by simp[Env.qB,hi,k1],by rw[lD _ a9];exact k2,c,e,k3,by simpa using k4,λj x hx=>?_⟩;simp only[uo,dn] at hx;obtain⟨x0,Fu,rfl⟩:=hx;obtain⟨v,q1,q2⟩:=k5 j x0 Fu;exact⟨v,q1,XI U h2 q2⟩
 .have hi:l.length<=i:=by simpa using hi
  simp only[Env.qB];rw[aB (by omega)]
section
variable {n b i o:Nat} {k:IntKind} {z:Int} {q:Bool} {s:List UInt8} {Z:Tk} {m:List (List V)} {c:List V}
def asr:jR n b .any = .any:=by simp[jR]
def asu:jR n b (.int k z) = .int k z:=by simp[jR,V.lo]
def ass:jR n b (.bool q) = .bool q:=by simp[jR,V.lo]
def asy:jR n b (.aG s) = .aG s:=by simp[jR,V.lo]
def asx:jR n b (.sl Z i m) = .sl Z i m:=by simp[jR,V.lo]
def asw:jR n b (.ptr (.out i) o) = .ptr (.out i) o:=by simp[jR,V.lo]
def ast:jR n b (.elt c o) = .elt c o:=by simp[jR,V.lo]
theorem asv:jR n b (.ptr (.aE i) o)=if i=n then .ptr (.out b) o else if i<n then .ptr (.aE i) o else .any:=rfl
theorem asq:jR n b (.agg c)=if bR n c=ab then .agg c else .any:=rfl
def XK:∀{l:List V},bR n l=ab->bT l=ab->l.map (jR n b)=l
 | [],_,_=>rfl
 | x :: l, U, h2 => by
  simp only[bR,bT,bg] at U h2;rw[cz,XK U.2 h2.2];congr 1;unfold jR;split
  .simp[V.c9] at h2
  .rw[aF U.1]
def amp:=af @asr <| af @asu <| af @ass <| af @asy <| af @asx <| af @asw <| af @ast <| af @asv @asq
end
variable{H:V->ah->Prop}
def kI.mk1(hv:zJ k [v]=aa [c])(hl:c.length=k)(hn:bT c=ab)
 (hk:∀v' σ',kI σ' k v' [c]->Ed D σ' v' -> H v' σ'):OQ.bj D H (.new k) [v]:=by
 refine⟨[c],hv,by simpa using hn,λb hb=>hk _ _ ⟨_,1,rfl,bY _,by simpa using hl,.inr ⟨b,c,rfl,by simp[iS],by simpa using hl,by simp[AN,hl]⟩⟩ ⟨?_,?_⟩⟩
 .simpa using jg (cs:=c) hb
 .intro b' cC;simp only[t_,bc] at cC;subst cC;exact hb
variable{ys:List V}
def auF{xs:List V}{n:Nat}(h:n+c.length<=ys.length):setAt (xs++ys) (xs.length+n) c=xs++setAt ys n c:=by
 induction xs with
 | nil=>simp
 | cons x xs ih=>rw[il,dm,show xs.length+1+n=(xs.length+n)+1 by omega,kh,ih];rfl
def W7{xs:List V}(h:c.length<=xs.length):over (xs++ys) c=over xs c++ys:=by
 induction xs generalizing c with
 | nil=>have:c=[]:=uk (by simpa using h);subst this;simp[nR]
 | cons x xs ih =>
  cases c with
  | nil=>rw[nR,nR]
  | cons d c=>rw[il,qz,qz,ih (by simpa using h)];rfl
def auG{xs:List V}{n:Nat}(h:n+c.length<=xs.length):setAt (xs++ys) n c=setAt xs n c++ys:=by
 induction xs generalizing n with
 | nil =>
  have h' : n+c.length<=0:=h;obtain rfl:c=[]:=uk (by omega);obtain rfl:n=0:=by omega
  rw[ng,ng,nR,nR]
 | cons x xs ih =>
  cases n with
  | zero=>rw[ng,ng,W7 (by simpa using h)]
  | succ n=>rw[il,kh,kh,ih (by simp at h;omega)];rfl
def Y'{xs:List V}{n:Nat}(h:n+c.length<=xs.length):(setAt xs n c).length=xs.length:=by
 induction xs generalizing n with
 | nil=>cases n<;>rfl
 | cons x xs ih =>
  cases n with
  | zero =>
   rw[ng];clear ih
   have:∀{xs c:List V},c.length<=xs.length->(over xs c).length=xs.length:=by
    intro xs;induction xs with
    | nil=>intro c h;cases c with | nil=>rfl | cons d c=>simp at h
    | cons x xs ih=>intro c h;cases c with | nil=>rw[nR] | cons d c=>rw[qz,dm,dm,ih (by simpa using h)]
   exact this (by simpa using h)
  | succ n=>rw[kh,dm,dm,ih (by simp at h;omega)]
variable{j off:Nat}
def kI.put{rows:List (List V)}{x:List V}(h:kI D k v rows)(hj:rows[j]?=aa c)(hb:t_ v=aa b)(hc:D.box b=aa cs)(ho:off+x.length<=k):
 kI (D.set b (setAt cs (j*k+off) x)) k v (rows.set j (setAt c off x))/\KR D v (D.set b (setAt cs (j*k+off) x)) v:=by
 obtain⟨a,cap,rfl,U,h2,h3⟩:=h;have aD:=(fy.1 hj).1;have gI:c.length=k:=h2 c (rF hj)
 rcases h3 with h3 | ⟨b',cs',rfl,h4,h5,h6⟩
 .omega
 .simp only[t_,bc] at hb;subst hb;rw[h4] at hc;cases hc;have l_:=n7 h2;have e1:cs=rows.flatten++cs.drop (rows.length*k):=by rw[<-h6];simp
  have e2:rows=rows.take j++c::rows.drop (j+1):=by
   rw[<-(fy.1 hj).2,<-nr aD,rG]
  have Bj:(rows.take j).flatten.length=j*k:=by
   have:=n7 (l:=rows.take j) (k:=k) λr hr=>h2 r (Cs hr)
   rw[this,iN,xh (by omega)]
  have e3:rows.flatten=(rows.take j).flatten++(c++(rows.drop (j+1)).flatten):=by
   conv=>lhs;rw[e2]
   rw[vC,lV]
  have e4:setAt cs (j*k+off) x=(rows.set j (setAt c off x)).flatten++cs.drop (rows.length*k):=by
   have hs:rows.set j (setAt c off x)=rows.take j++setAt c off x::rows.drop (j+1):=by
    rw[List.set_eq_take_append_cons_drop,aF aD]
   conv=>lhs;rw[e1,e3]
   rw[eN,<-Bj,auF (by simp[gI];omega),eN,auG (by omega),hs,vC,lV];simp only[eN]
  have fT:∀r∈rows.set j (setAt c off x),r.length=k:=λr hr=>by
   rcases List.mem_or_eq_of_mem_set hr with hr | rfl
   .exact h2 r hr
   .rw[Y' (by omega),gI]
  have alZ:=n7 fT;refine⟨⟨_,cap,by rw[List.length_set],by rw[List.length_set];exact U,fT,.inr ⟨b',_,rfl,iS,?_,?_⟩⟩,λc' ds hd a9=>?_,rfl,λ_ h=>.inl h,rfl⟩
  .have:(setAt cs (j*k+off) x).length=cs.length:=Y' (by
    rw[h5]
    have:(j+1)*k<=cap*k:=sd _ (by omega)
    rw[jw] at this;omega)
   rw[this,h5]
  .rw[e4,<-alZ,List.take_left]
  .have:c' ≠ b' := λe=>a9 (by rw[e];rfl)
   rw[pf this];exact hd
def bd(r:Rl):Nat:=min r.n.toNat 64
def iC(r:Rl)(i:Nat):br:=r.get i&&&fY (bd r:Nat)
def bx(r:Rl)(i j:Nat):Bool:=decide (i<bd r)&&(iC r i).getLsbD j
def lf(r:Rl):Rl:=Rl.of (bd r:Nat) λi=>if i<bd r then iC r i else 0#64
section
variable {r s:Rl} {i j k:Nat}
def je:bd r<=64:=Nat.min_le_right _ _
def Pg:(iC r i).getLsbD j=((r.get i).getLsbD j&&decide (j<bd r)):=by
 rw[iC,ti,xr]
 by_cases h:j<64
 .simp only[h,b9,iM];congr 1;apply su.2;omega
 .rw[vz _ _ (by omega)];simp
def Br:bx r i j=(decide (i<bd r)&&(decide (j<bd r)&&(r.get i).getLsbD j)):=by rw[bx,Pg,Bool.and_comm (BitVec.getLsbD _ _)]
def i_(h:bx r i j=ab):i<bd r/\j<bd r:=by
 rw[Br] at h;simp only[bg,bQ] at h;exact⟨h.1,h.2.1⟩
def aqT{n:Nat}{f:Nat->br}(h:n<=64):bd (Rl.of (n:Nat) f)=n:=by simp only[bd,Rl.of];omega
def Ju:bd (lf r)=bd r:=aqT je
def F7(h:i<64):(lf r).get i=if i<bd r then iC r i else 0#64:=Rl.nz h
def ar_(h:i<bd r):(lf r).get i=iC r i:=by rw[F7 (ur h je),aF h]
def Xv:bx (lf r) i j=bx r i j:=by
 by_cases h:i<bd r
 .rw[Br,Ju,ar_ h,Pg,Br];cases decide (i<bd r)<;>cases decide (j<bd r)<;>simp
 .rw[bx,bx,Ju];simp[h]
def Xw:lf r=lf s↔bd r=bd s/\∀i j,bx r i j=bx s i j:=by
 constructor
 .intro h;exact⟨by rw[<-Ju (r:=r),h,Ju],λi j=>by rw[<-Xv (r:=r),h,Xv]⟩
 .rintro⟨U,h2⟩;refine Rl.ext (by simp only[lf,Rl.of,U]) λi hi=>?_
  rw[F7 hi,F7 hi,U];split
  .rename_i h;apply mF;intro j _
   have:=h2 i j
   rwa [bx,bx,U,aK h,iM,iM] at this
  .rfl
def SX(h:bd r=0):lf r=Rl.of 0 λ_=>0#64:=by
 refine Rl.ext (by simp[lf,Rl.of,h]) λi hi=>?_
 rw[F7 hi,h,aB (by omega),Rl.nz hi]
inductive jx(r:Rl)(i:Nat):Nat->Prop
 | refl (h:i<bd r):jx r i i
 | tail {j k:Nat} (h:jx r i j) (hs:bx r j k=ab):jx r i k
def jx.lt(h:jx r i j):i<bd r/\j<bd r:=by
 induction h with
 | refl h=>exact⟨h,h⟩
 | tail _ hs ih=>exact⟨ih.1,(i_ hs).2⟩
def jx.trans(h:jx r i j)(h' : jx r j k):jx r i k:=by
 induction h' with
 | refl _=>exact h
 | tail _ hs ih=>exact ih.tail hs
def jx.one(h:bx r i j=ab):jx r i j:=(jx.refl (i_ h).1).tail h
def vR(r:Rl):Rl:=Rl.of (bd r:Nat) λi=>if i<bd r then ln (iC r i) (i:Nat) else 0#64
def yr(k:Nat)(o:Rl)(i:Nat):Rl:=if hasB (o.get i) (k:Nat) then o.put i (o.get i|||o.get k) else o
def me(n k:Nat)(o:Rl):Rl:=(bA n).foldl (yr k) o
def l6(r:Rl):Rl:=(bA (bd r)).foldl (λo k=>me (bd r) k o) (vR r)
variable{w:br}
def Ux:hasB w (k:Nat)=w.getLsbD k:=by simp[hasB]
variable{O:Type}
def za{f:O->Nat->O}{a:O}{n:Nat}:(bA (n+1)).foldl f a=f ((bA n).foldl f a) n:=by rw[iF,yN];rfl
theorem asB:(r.put i w).n=r.n:=rfl
def amS{n:Nat}{o:Rl}:(me n k o).n=o.n:=by
 unfold me;induction n with
 | zero=>rfl
 | succ n ih=>rw[za,yr];split<;>simp[asB,ih]
def Vp{o:Rl}{n:Nat}(h:n<=64):(me n k o).get i=if i<n/\(o.get i).getLsbD k=ab then o.get i|||o.get k else o.get i:=by
 induction n generalizing i with
 | zero=>simp[me]
 | succ n Ny =>
  have ih:=λi=>@Ny i (by omega)
  have hk:(me n k o).get k=o.get k:=by rw[ih k];split<;>simp
  have e:me (n+1) k o=yr k (me n k o) n:=za;rw[e,yr,Ux]
  by_cases hi:i=n
  .subst hi;have UM:(me i k o).get i=o.get i:=by rw[ih i,aB (by omega)]
   rw[UM,hk];split
   .rename_i hb;rw[Rl.CW,aF ⟨rfl,by omega⟩,aF ⟨by omega,hb⟩]
   .rename_i hb;rw[UM,aB (λhc=>hb hc.2)]
  .have a9:(if ((me n k o).get n).getLsbD k=ab then(me n k o).put n ((me n k o).get n|||(me n k o).get k) else me n k o).get i=(me n k o).get i:=by
    split
    .rw[Rl.CW,aB (by omega)]
    .rfl
   rw[a9,ih i]
   by_cases aD:i<n
   .simp[aD,show i<n+1 by omega]
   .simp[aD,show ¬i<n+1 by omega]
def lP(r:Rl)(m:Nat):Rl:=(bA m).foldl (λo k=>me (bd r) k o) (vR r)
def Jn{m:Nat}:lP r (m+1)=me (bd r) m (lP r m):=za
def Jm{m:Nat}:(lP r m).n=(bd r:Nat):=by
 induction m with
 | zero=>rfl
 | succ m ih=>rw[Jn,amS,ih]
def F4{m:Nat}(hi:i<bd r):((lP r (m+1)).get i).getLsbD j=(((lP r m).get i).getLsbD j||(((lP r m).get i).getLsbD m&&((lP r m).get m).getLsbD j)):=by
 rw[Jn,Vp je];cases hq:((lP r m).get i).getLsbD m with
 | false=>simp
 | true=>simp[hi]
def R7(hi:i<bd r):((vR r).get i).getLsbD j=(bx r i j||decide (j=i)):=by
 have dt : i<64:=ur hi je;rw[vR,Rl.nz dt,aF hi,Gz,bx,aK hi,iM];congr 1
 by_cases h:j=i
 .subst h;simp[dt]
 .simp[h];omega
def W6{m:Nat}(h:bd r<=i)(hi:i<64):(lP r m).get i=0#64:=by
 induction m with
 | zero=>rw[lP];simp only[List.range_zero,List.foldl_nil,vR];rw[Rl.nz hi,aB (by omega)]
 | succ m ih=>rw[Jn,Vp je,aB (by omega),ih]
def arn{m:Nat}(hm:m<=bd r)(hi:i<bd r):∀{j:Nat},((lP r m).get i).getLsbD j=ab->jx r i j:=by
 induction m generalizing i with
 | zero =>
  intro j h;have h:((vR r).get i).getLsbD j=true:=h;rw[R7 hi,j1,bQ] at h
  rcases h with h | rfl
  .exact jx.one h
  .exact jx.refl hi
 | succ m ih =>
  intro j h;rw[F4 hi,j1,bg] at h
  rcases h with h | ⟨U,h2⟩
  .exact ih (by omega) hi h
  .exact(ih (by omega) hi U).trans (ih (by omega) (by omega) h2)
def OI{m:Nat}(hi:i<bd r)(h:bx r i j=ab\/j=i):((lP r m).get i).getLsbD j=true:=by
 induction m with
 | zero=>show((vR r).get i).getLsbD j=ab;rw[R7 hi];simpa using h
 | succ m ih=>rw[F4 hi,ih];rfl
def aro{m:Nat}(hm:m<=bd r):∀{i k j:Nat},i<bd r->k<m->((lP r m).get i).getLsbD k=ab->((lP r m).get k).getLsbD j=ab->((lP r m).get i).getLsbD j=true:=by
 induction m with
 | zero=>intro i k j _ h;omega
 | succ m ih =>
  intro i k j hi hk U h2;have ih:=@ih (by omega);have Is:((lP r m).get m).getLsbD m=true:=OI (by omega) (.inr rfl);rw[F4 hi] at U;rw[F4 (by omega)] at h2;rw[F4 hi];simp only[j1,bg] at U h2 ⊢
  by_cases hkm:k=m
  .subst hkm;have a:((lP r k).get i).getLsbD k=true:=U.elim id (·.1);have b:((lP r k).get k).getLsbD j=true:=h2.elim id (·.2);exact .inr ⟨a,b⟩
  .have j_ : k<m:=by omega
   rcases U with U | ⟨U,xF⟩
   .rcases h2 with h2 | ⟨h2,xG⟩
    .exact .inl (ih hi j_ U h2)
    .exact .inr ⟨ih hi j_ U h2,xG⟩
   .rcases h2 with h2 | ⟨_,xG⟩
    .exact .inr ⟨U,ih (by omega) j_ xF h2⟩
    .exact .inr ⟨U,xG⟩
def CK(hi:i<bd r):((l6 r).get i).getLsbD j=ab↔jx r i j:=by
 show((lP r (bd r)).get i).getLsbD j=ab↔_;constructor
 .exact arn (bY _) hi
 .intro h;induction h with
  | refl h=>exact OI h (.inr rfl)
  | tail h hs ih=>exact aro (bY _) hi h.lt.2 ih (OI h.lt.2 (.inl hs))
def adC{o:Rl}(hn:o.n=(bd r:Nat))(h:∀i,i<bd r->∀j,(o.get i).getLsbD j=ab↔jx r i j)(h0:∀i,bd r<=i->i<64->o.get i=0#64):o=l6 r:=by
 refine Rl.ext (hn.trans Jm.symm) λi hi=>?_
 by_cases aD:i<bd r
 .apply mF;intro j _;have U:=h i aD j;rw[<-CK aD] at U;exact rD.2 U
 .rw[h0 i (by omega) hi];exact(W6 (by omega) hi).symm
def A1:bd (l6 r)=bd r:=by
 have:(l6 r).n=(bd r:Nat):=Jm
 rw[bd,this];have:=@je r;omega
def A0:bx (l6 r) i j=ab↔jx r i j:=by
 rw[Br,A1];constructor
 .intro h;simp only[bg,bQ] at h;exact(CK h.1).1 h.2.2
 .intro h
  have:=h.lt
  rw[aK this.1,aK this.2,(CK this.1).2 h];rfl
def Lg:lf (l6 r)=l6 r:=by
 refine Rl.ext ?_ λi hi=>?_
 .show((bd (l6 r):Nat):Int)=_;rw[A1];exact Jm.symm
 .rw[F7 hi,A1];split
  .rename_i aD;apply mF;intro j _;rw[Pg,A1];cases hq:((l6 r).get i).getLsbD j with
   | false=>rfl
   | true=>rw[aK ((CK aD).1 hq).lt.2];rfl
  .exact(W6 (by omega) hi).symm
def qO(r:Rl):Bool:=decide (lf r=l6 r)
def Eo:qO r=ab↔(∀i,i<bd r->bx r i i=ab)/\∀i j k,bx r i j=ab->bx r j k=ab->bx r i k=true:=by
 rw[qO,Et,<-Lg,Xw];constructor
 .rintro⟨_,h⟩;refine⟨λi hi=>?_,λi j k U h2=>?_⟩
  .rw[h,A0];exact jx.refl hi
  .rw[h,A0] at U h2 ⊢;exact U.trans h2
 .rintro⟨U,h2⟩;refine⟨A1.symm,λi j=>?_⟩;rw[rD,A0];refine⟨jx.one,λh=>?_⟩;induction h with
  | refl h=>exact U _ h
  | tail _ hs ih=>exact h2 _ _ _ ih hs
def w8(r:Rl)(w:br):br:=(e9 (w&&&fY (bd r:Nat))).foldl (λo i=>o|||iC r i) 0#64
def HO{f:Nat->br}:∀{l:List Nat} {o:br},(l.foldl (λo i=>o|||f i) o).getLsbD j=(o.getLsbD j||l.any λi=>(f i).getLsbD j)
 | [],o=>by simp
 | a::l,o=>by rw[yO,HO,Kk,List.any_cons,Bool.or_assoc]
def ZO:(w8 r w).getLsbD j=ab↔∃i,w.getLsbD i=ab/\bx r i j=true:=by
 rw[w8,HO];simp only[QD,Cl,yK,FV,ti,bg,xr,bQ];constructor
 .rintro⟨i,⟨U,_,h2⟩,h3⟩;exact⟨i,U,by rw[bx,h3,aK (by omega)];rfl⟩
 .rintro⟨i,U,h2⟩
  have:=(i_ h2).1;have:=@je r
  rw[bx,bg] at h2;exact⟨i,⟨U,by omega,by omega⟩,h2.2⟩
def y4(r:Rl)(w:br):br:=(bA (bd r)).foldl (λo i=>if iC r i&&&w=0#64 then o else ln o (i:Nat)) 0#64
def apG:w≠0#64↔∃j,w.getLsbD j=true:=by
 constructor
 .intro h;exact⟨_,(FN h).2.1⟩
 .rintro⟨j,h⟩ rfl;simp at h
def ae0{n:Nat}(h:n<=64):((bA n).foldl (λo i=>if iC r i&&&w=0#64 then o else ln o (i:Nat)) 0#64).getLsbD i=ab↔i<n/\iC r i&&&w≠0#64:=by
 induction n with
 | zero=>simp
 | succ n Ny =>
  have ih:=Ny (by omega);rw[za]
  by_cases hi:i=n
  .subst hi;split
   .rename_i h0;rw[ih];constructor
    .intro hc;omega
    .intro hc;exact absurd h0 hc.2
   .rename_i h0;rw[Gz,aK (show i<64 by omega)];simp[h0]
  .split
   .rw[ih];constructor<;>rintro⟨a,b⟩<;>exact⟨by omega,b⟩
   .rw[Gz,aJ (p:=(i:Int)=(n:Nat)) (by omega),QF,Bool.or_false,ih];constructor<;>rintro⟨a,b⟩<;>exact⟨by omega,b⟩
def Lt:(y4 r w).getLsbD i=ab↔∃j,w.getLsbD j=ab/\bx r i j=true:=by
 rw[y4,ae0 je,apG];simp only[ti,bg,bx,bQ];constructor
 .rintro⟨a,j,b,c⟩;exact⟨j,c,a,b⟩
 .rintro⟨j,c,a,b⟩;exact⟨a,j,b,c⟩
def Du{i j:Nat}(h:i<64):(gK [(i:Int)]).getLsbD j=decide (j=i):=by
 rw[zS]
 by_cases e:j=i
 .subst e;simp[h]
 .simp[e];omega
def aqU(h:i<bd r):gK (((bA (bd r)).filter (bx r i)).map Int.ofNat)=iC r i:=by
 apply mF;intro j hj;rw[zS,aK hj,iM,rD,Et];simp only[px,GQ,mq,AG];constructor
 .rintro⟨a,⟨U,h2⟩,h3⟩;obtain rfl:a=j:=by omega
  rw[bx,bg] at h2;exact h2.2
 .intro U
  have:bx r i j=true:=by rw[bx,U,aK h];rfl
  exact⟨j,⟨(i_ this).2,this⟩,rfl⟩
def WY{l:List Nat}(hj:j<64):(gK (l.map Int.ofNat)).getLsbD j=ab↔j∈l:=by
 rw[zS,aK hj,iM,Et];simp only[px,AG];constructor
 .rintro⟨a,U,h2⟩;obtain rfl:a=j:=by omega
  exact U
 .intro h;exact⟨j,h,rfl⟩
def adE{l:List Nat}(hi:i<bd r)(h:∀j,j∈l↔jx r i j):gK (l.map Int.ofNat)=(l6 r).get i:=by
 apply mF;intro j hj;rw[rD,WY hj,h,CK hi]
def adD:(Rl.of (bd r:Nat) λj=>if j<bd r then(l6 r).get j else 0#64)=l6 r:=by
 refine adC rfl (λi hi j=>?_) λi U h2=>?_
 .rw[Rl.nz (ur hi je),aF hi,CK hi]
 .rw[Rl.nz h2,aB (by omega)]
def Ox:∀{n:Nat} {l:List Nat},l.Nodup->(∀x∈l,x<n)->l.length<=n
 | 0, l, _, h => by
  cases l with
  | nil=>simp
  | cons a l=>have:=h a (by simp);omega
 | n + 1, l, hd, h => by
  by_cases hn:n∈l
  .have:=Ox (n:=n) (hd.erase n) λx hx=>by
    have:=h x (List.mem_of_mem_erase hx)
    have a9:x≠n:=λe=>by subst e;exact(hd.not_mem_erase) hx
    omega
   rw[List.length_erase_of_mem hn] at this;omega
  .have:=Ox (n:=n) hd λx hx=>by
    have:=h x hx
    have a9:x≠n:=λe=>hn (e▸hx)
    omega
   omega
def zR(r:Rl)(i:Nat):br:=w8 r (gK [(i:Int)])&&&y4 r (gK [(i:Int)])
def uy(r:Rl):Bool:=(bA (bd r)).all λi=>(bA i).all λj=>!(bx r i j&&bx r j i)
def rl(r:Rl):Bool:=qO r&&uy r
def KZ:uy r=ab↔∀i j,bx r i j=ab->bx r j i=ab->i=j:=by
 simp only[uy,eM,mq,tm,D4];constructor
 .intro h i j U h2
  have:=i_ U
  rcases AP i j with hc | hc | hc
  .rcases h j this.2 i hc with e | e
   .rw[e] at h2;simp at h2
   .rw[e] at U;simp at U
  .exact hc
  .rcases h i this.1 j hc with e | e
   .rw[e] at U;simp at U
   .rw[e] at h2;simp at h2
 .intro h i hi j hj;cases U:bx r i j with
  | false=>exact .inl rfl
  | true =>
   cases h2:bx r j i with
   | false=>exact .inr rfl
   | true=>have:=h i j U h2;omega
def Wz(hi:i<64):(zR r i).getLsbD j=(bx r i j&&bx r j i):=by
 rw[zR,ti,rD,bg,bg,ZO,Lt];simp only[Du hi,bQ];constructor
 .rintro⟨⟨a,rfl,U⟩,⟨b,rfl,h2⟩⟩;exact⟨U,h2⟩
 .rintro⟨U,h2⟩;exact⟨⟨_,rfl,U⟩,⟨_,rfl,h2⟩⟩
def WA(hc:qO r=ab)(hi:i<bd r):zR r i=gK [(i:Int)]↔∀j,bx r i j=ab->bx r j i=ab->j=i:=by
 have dt : i<64:=ur hi je;have hr:=(Eo.1 hc).1 i hi;constructor
 .intro h j U h2
  have:=iH (λw:br=>w.getLsbD j) h
  simp only[Wz dt,U,h2,Du dt,Kl] at this;simpa using this.symm
 .intro h;apply mF;intro j _;rw[Wz dt,Du dt]
  by_cases e:j=i
  .subst e;simp[hr]
  .rw[aJ e];cases U:bx r i j with
   | false=>rfl
   | true =>
    cases h2:bx r j i with
    | false=>rfl
    | true=>exact absurd (h j U h2) e
def Rq(hc:qO r=ab):uy r=ab↔∀i,i<bd r->zR r i=gK [(i:Int)]:=by
 rw[KZ];constructor
 .intro h i hi;exact(WA hc hi).2 λj U h2=>(h i j U h2).symm
 .intro h i j U h2;exact((WA hc (i_ U).1).1 (h i (i_ U).1) j U h2).symm
end
section
variable {r:Rl} {w a b:br} {i j k n o p x y:Nat}
def find_congr{O:Type}{p q:O->Bool}:∀{l:List O},(∀x∈l,p x=q x)->l.find? p=l.find? q
 | [],_=>rfl
 | a :: l, h => by
  have U:=h a (by simp);have h2:=find_congr (l:=l) λx hx=>h x (by simp[hx])
  simp only[Kx,U,h2]
def find_range{p:Nat->Bool}{n m:Nat}(hp:∀u,p u=ab->u<n)(h:n<=m):(bA m).find? p=(bA n).find? p:=by
 induction m with
 | zero=>rw[show n=0 by omega]
 | succ m ih =>
  by_cases e:n=m+1
  .rw[e]
  .rw[iF,Cp,ih (by omega)]
   have:[m].find? p=none:=by
    rw[um];intro u hu;rw[kH.1 hu];intro hc;have:=hp m hc;omega
   rw[this];simp
def LO{p q:Nat->Bool}:∀{l:List Nat},(l.filter p).find? q=l.find? λu=>p u&&q u
 | []=>rfl
 | a :: l => by
  rw[yM];split
  .rename_i h;rw[Kx,Kx,LO,h,iM]
  .rename_i h;have h:p a=false:=by simpa using h
   rw[Kx,h,Km,LO]
def xn(r:Rl)(i:Nat):br:=w8 r (gK [(i:Int)])
def mz(r:Rl)(i:Nat):br:=if i<bd r then y4 r (gK [(i:Int)]) else 0#64
def KU:(xn r i).getLsbD j=bx r i j:=by
 rw[rD,xn,ZO];constructor
 .rintro⟨k,U,h2⟩;rw[zS] at U;simp only[kH,bg,bQ] at U;obtain rfl:k=i:=by omega
  exact h2
 .intro h
  have:=(i_ h).1;have:=@je r
  exact⟨i,by rw[Du (by omega)];simp,h⟩
def Hl:(mz r i).getLsbD j=bx r j i:=by
 unfold mz;split
 .rename_i hi
  have:=@je r
  rw[rD,Lt];constructor
  .rintro⟨k,U,h2⟩;rw[Du (by omega)] at U;rw[<-Dv U];exact h2
  .intro h;exact⟨i,by rw[Du (by omega)];simp,h⟩
 .rename_i hi;cases h:bx r j i with
  | false=>simp
  | true=>exact absurd (i_ h).2 hi
def Ds(f:Nat->br)(i j:Nat):Option Nat:=(e9 (f i&&&f j)).find? λu=>pP (f i&&&f j) (f u)
def qo(r:Rl)(i j:Nat):Option Nat:=Ds (xn r) i j
def re(r:Rl)(i j:Nat):Option Nat:=Ds (mz r) i j
def WJ{f:Nat->br}{g:Nat->Nat->Bool}(hf:∀i j,(f i).getLsbD j=g i j)(hl:∀i j,g i j=ab->j<bd r):
 Ds f i j=(bA (bd r)).find? λu=>(g i u&&g j u)&&(bA (bd r)).all λv=>!(g i v&&g j v&&!g u v):=by
 rw[Ds,e9,LO];have hg:∀u,(f i&&&f j).getLsbD u=(g i u&&g j u):=λu=>by rw[ti,hf,hf]
 have aD:∀u,(g i u&&g j u)=ab->u<bd r:=λu h=>hl i u (bg _ _▸h).1
 have hq:∀u,pP (f i&&&f j) (f u)=(bA (bd r)).all λv=>!(g i v&&g j v&&!g u v):=λu=>by
  rw[rD,Gm,eM];simp only[hg,hf,mq];constructor
  .intro h v _;cases hv:(g i v&&g j v) with
   | false=>rfl
   | true=>rw[h v hv];rfl
  .intro h v hv
   have:=h v (aD v hv)
   rw[hv] at this;simpa using this
 rw[find_range (n:=bd r) (λu hu=>aD u (by rw[<-hg];exact(bg _ _▸hu).1)) je];exact find_congr λu _=>by rw[hg,hq]
def ani:qo r i j=(bA (bd r)).find? λu=>(bx r i u&&bx r j u)&&(bA (bd r)).all λv=>!(bx r i v&&bx r j v&&!bx r u v) :=
 WJ (λ_ _=>KU) λ_ _ h=>(i_ h).2
def apo:re r i j=(bA (bd r)).find? λu=>(bx r u i&&bx r u j)&&(bA (bd r)).all λv=>!(bx r v i&&bx r v j&&!bx r v u) :=
 WJ (g:=λi u=>bx r u i) (λ_ _=>Hl) λ_ _ h=>(i_ h).1
def jN(r:Rl):Bool:=decide (1<=r.n)&&decide (r.n<=64)&&rl r&&(bA r.n.toNat).all λi=>(bA i).all λj=>(qo r i j).isSome&&(re r i j).isSome
def vf(r:Rl)(w:br):Option Nat:=(bA (bd r)).find? λi=>decide (mz r i=w)
def as8(r:Rl)(a b:br):br :=
 match vf r a,vf r b with
 | some i,aa j=>(match qo r i j with | some k=>mz r k | none=>a|||b)
 | _,_=>a|||b
def gW(r:Rl):Bool:=decide (1<=r.n)&&decide (r.n<=8)&&qO r
def xE(h:gW r=ab):∃n:Nat,r.n=n/\bd r=n/\1<=n/\n<=8:=by
 simp only[gW,bg,bQ] at h;exact⟨r.n.toNat,by omega,by rw[bd];omega,by omega,by omega⟩
def Dx(r:Rl)(w:br)(o:Nat):br:=(w>>>(8*o))&&&fY r.n
def ark:(Dx r w o).getLsbD x=(w.getLsbD (8*o+x)&&decide ((x:Int)<r.n)):=by
 rw[Dx,ti,GG,xr]
 by_cases h:x<64
 .rw[aK h,iM]
 .rw[vz w _ (by omega)];simp
def Aa(n:Nat)(f:Nat->br):br:=(bA n).foldl (λw o=>w|||(f o<<<(8*o))) 0#64
def atS{f:Nat->br}(hf:∀o x,(f o).getLsbD x=ab->x<8)(hk:k<64):(Aa n f).getLsbD k=(decide (k / 8<n)&&(f (k / 8)).getLsbD (k % 8)):=by
 rw[Aa,HO (f:=λo=>f o<<<(8*o)),QD,Cl,rD,yK];simp only[mq,QC,hk,b9,iM,bg,tm,xw,bQ];constructor
 .rintro⟨o,U,h2,h3⟩
  have:=hf _ _ h3
  have e1:k / 8=o:=by omega
  have e2:k % 8=k - 8*o:=by omega
  rw[e1,e2];exact⟨U,h3⟩
 .rintro⟨U,h2⟩;exact⟨k / 8,U,by omega,by rw[show k - 8*(k / 8)=k % 8 by omega];exact h2⟩
def CJ(r:Rl)(w:br)(o:Nat):br:=(e9 (xn r o)).foldl (λs p=>s|||y4 r (Dx r w p)) 0#64
def R5:(CJ r w o).getLsbD x=ab↔∃p y,bx r o p=ab/\bx r x y=ab/\w.getLsbD (8*p+y)=ab/\(y:Int)<r.n:=by
 rw[CJ,HO,QD,Cl,yK];simp only[FV,KU,Lt,ark,bg,bQ];constructor
 .rintro⟨p,U,y,⟨h2,h3⟩,h4⟩;exact⟨p,y,U,h4,h2,h3⟩
 .rintro⟨p,y,U,h4,h2,h3⟩;exact⟨p,U,y,⟨h2,h3⟩,h4⟩
def lv(r:Rl)(w:br):br:=if gW r then Aa r.n.toNat (CJ r w) else 0#64
def A2(hk:k<64):(lv r w).getLsbD k=ab↔gW r=ab/\∃p y,bx r (k / 8) p=ab/\bx r (k % 8) y=ab/\w.getLsbD (8*p+y)=true:=by
 unfold lv;split
 .rename_i hg;obtain⟨n,hn,hp,U,h8⟩:=xE hg;rw[atS (λo x hx=>by
   obtain⟨p,y,_,h,_⟩:=R5.1 hx
   have:=(i_ h).1;omega) hk,bg,R5,bQ]
  constructor
  .rintro⟨_,p,y,a,b,c,_⟩;exact⟨hg,p,y,a,b,c⟩
  .rintro⟨_,p,y,a,b,c⟩
   have:=i_ a;have:=i_ b
   exact⟨by omega,p,y,a,b,c,by omega⟩
 .rename_i hg;simp[hg]
def uH(r:Rl)(w:br)(o x:Nat):Bool:=(bA r.n.toNat).any λp=>(bA r.n.toNat).any λy=>w.getLsbD (8*p+y)&&(bx r o p&&bx r x y)
def TI(hg:gW r=ab):uH r w o x=ab↔∃p y,bx r o p=ab/\bx r x y=ab/\w.getLsbD (8*p+y)=true:=by
 obtain⟨n,hn,hp,U,h8⟩:=xE hg;simp only[uH,yK,mq,bg];constructor
 .rintro⟨p,_,y,_,c,a,b⟩;exact⟨p,y,a,b,c⟩
 .rintro⟨p,y,a,b,c⟩
  have:=i_ a;have:=i_ b
  exact⟨p,by omega,y,by omega,c,a,b⟩
def rr(r:Rl)(w:br)(o m:Nat):List Int:=((bA m).filter (uH r w o)).map λx=>((8*o+x:Nat):Int)
def n8(r:Rl)(w:br)(m:Nat):List Int:=(bA m).flatMap λo=>rr r w o r.n.toNat
def Ub{m:Nat}:n8 r w (m+1)=n8 r w m++rr r w m r.n.toNat:=by
 simp only[n8,iF,xd,qI,Ky,eD]
def Pe{m:Nat}:rr r w o (m+1)=rr r w o m++if uH r w o m then [((8*o+m:Nat):Int)] else []:=by
 simp only[rr,iF,AJ,fX,yM,List.filter_nil];split<;>rfl
def Yb{m:Nat}:(rr r w o m).length<=m:=by
 have:=Cq (uH r w o) (bA m)
 simpa [rr] using this
def Ua{m:Nat}:(n8 r w m).length<=m*r.n.toNat:=by
 induction m with
 | zero=>simp[n8]
 | succ m ih =>
  have:=@Yb r w m r.n.toNat
  rw[Ub,bM,jw,xi];omega
def alr(hg:gW r=ab):gK (n8 r w r.n.toNat)=lv r w:=by
 obtain⟨n,hn,hp,U,h8⟩:=xE hg;apply mF;intro k hk;rw[rD,A2 hk,zS,aK hk,iM,Et];simp only[n8,rr,tt,mq,px,GQ,TI hg,hg,qF];constructor
 .rintro⟨o,U,x,⟨h2,h3⟩,h4⟩;have e1:k / 8=o:=by omega
  have e2:k % 8=x:=by omega
  rw[e1,e2];exact h3
 .rintro⟨p,y,a,b,c⟩
  have:=i_ a;have:=i_ b
  exact⟨k / 8,by omega,k % 8,⟨by omega,p,y,a,b,c⟩,by omega⟩
def ya(r:Rl)(d:br):br:=fY r.n&&&~~~w8 r d
def yo(r:Rl)(o:Nat)(d:br):br:=if gW r&&decide ((o:Int)<r.n) then lv r (Aa r.n.toNat λk=>if k=o then ya r d else 0#64) else 0#64
def pM(n k:Int):br × Bool:=if 1<=n/\n<=64/\0<=k/\k<n then(fY k,ab) else(0#64,ar)
def zO(n:Nat)(w:br):Option Nat:=if n<=64 then(bA n).find? λk=>decide (fY (k:Nat)=w) else aj
end
def ae.leaf(kind:Int)(r:ae):Nd × ae:=(.mk kind r.word.1.pos r.word.1.au [] [],r.word.2)
def ae.pJ(r:ae):Nd × ae :=
 (.mk 6 r.word.1.pos r.word.1.au ((r.word.2.take 58).2.words ab).1.1 [],((r.word.2.take 58).2.words ab).2)
def ae.constant:Nat->ae->Nd × ae
 | 0,r=>r.leaf 2
 | n + 1, r =>
  if r.b_ 123=ab then(.mk 3 (r.words ab).1.2 [] (r.words ab).1.1 [],(r.words ab).2)
  else if r.b_ 40=ab then(.mk 4 (r.nodes (ae.constant n) 40 ar).1.2 [] [] (r.nodes (ae.constant n) 40 ar).1.1,(r.nodes (ae.constant n) 40 ar).2)
  else if r.b_ 91=ab then(.mk 5 (r.nodes ae.pJ 91 ab).1.2 [] [] (r.nodes ae.pJ 91 ab).1.1,(r.nodes ae.pJ 91 ab).2)
  else r.leaf 2
def ae.atom(n:Nat)(r:ae):Nd × ae :=
 if r.b_ 35=ab then(.mk 7 (r.take 35).1.tok.pos [] [] [(ae.constant n (r.take 35).2).1],(ae.constant n (r.take 35).2).2) else r.leaf 1
def ae.label:Nat->ae->Nd × ae
 | 0,r=>r.leaf 1
 | n + 1, r =>
  if r.b_ 43=ab then(.mk 8 (r.take 43).1.tok.pos [] [] ((r.take 43).2.nodes (ae.label n) 40 ar).1.1,((r.take 43).2.nodes (ae.label n) 40 ar).2)
  else if r.b_ 38=ab then(.mk 9 (r.take 38).1.tok.pos [] [] ((r.take 38).2.nodes (ae.label n) 40 ar).1.1,((r.take 38).2.nodes (ae.label n) 40 ar).2)
  else r.atom (n+1)
def ae.field(n:Nat)(r:ae):Nd × ae :=
 (.mk 11 r.word.1.pos r.word.1.au [] [((r.word.2.take 61).2.atom n).1],((r.word.2.take 61).2.atom n).2)
def mo(r r' : ae):Prop:=r'.l=r.l/\(0<=r.at_->r.at_<=r.l.length->r.at_<=r'.at_/\r'.at_<=r.l.length/\(r'.aM=aj->r.at_+1<=r'.at_))
def mo.trans{a b c:ae}(h:mo a b)(k:mo b c):mo a c:=by
 refine⟨k.1.trans h.1,λU h2=>?_⟩;obtain⟨p1,p2,p3⟩:=h.2 U h2;obtain⟨q1,q2,q3⟩:=k.2 (by omega) (by rw[h.1];exact p2);rw[h.1] at q2;exact⟨by omega,q2,λhq=>by have:=q3 hq;omega⟩
def uJ(r:ae)(k:Int):mo r (r.take k).2:=by
 refine⟨r.fU k,λU h2=>?_⟩
 rcases r.vp k with ⟨_,e,_,h3,h4⟩ | ⟨_,e,hb⟩
 .rw[e];exact⟨by omega,by omega,λ_=>by omega⟩
 .rw[e];exact⟨by omega,h2,λhq=>absurd hq hb⟩
def zc(r:ae):mo r r.word.2:=uJ r 97
def EI(r:ae)(k:Int):mo r (r.leaf k).2:=zc r
variable{G:Type}
def T6(step:ae × List G->ae × List G)(k:Int)(e:Bool)(r:ae):mo r (r.bracket step k e).2:=by
 have h:=uJ r k;unfold ae.bracket;split
 .rename_i ck;have hb:(r.take k).2.aM=none:=by simpa [ae.ok] using ck
  exact⟨h.1,λU h2=>by
   obtain⟨p1,p2,p3⟩:=h.2 U h2;exact⟨p1,p2,λ_=>p3 hb⟩⟩
 .exact h
def L7(r:ae)(e:Bool):mo r (r.words e).2:=T6 _ _ _ _
def HX(r:ae)(one:ae->Nd × ae)(k:Int)(e:Bool):mo r (r.nodes one k e).2:=T6 _ _ _ _
def DD{one:ae->Nd × ae}(h:∀r,mo r (one r).2):Reads one:=⟨λr=>(h r).1,λr=>(h r).2⟩
def alk(r:ae):mo r r.pJ.2:=((zc r).trans (uJ _ _)).trans (L7 _ _)
def T7:∀(n:Nat) (r:ae),mo r (ae.constant n r).2
 | 0,r=>EI r 2
 | n + 1, r => by
  simp only[ae.constant];split
  .exact L7 r ab
  .split
   .exact HX r _ 40 ar
   .split
    .exact HX r _ 91 ab
    .exact EI r 2
def T5(n:Nat)(r:ae):mo r (r.atom n).2:=by
 simp only[ae.atom];split
 .exact(uJ r 35).trans (T7 n _)
 .exact EI r 1
def L6:∀(n:Nat) (r:ae),mo r (ae.label n r).2
 | 0,r=>EI r 1
 | n + 1, r => by
  simp only[ae.label];split
  .exact(uJ r 43).trans (HX _ _ 40 ar)
  .split
   .exact(uJ r 38).trans (HX _ _ 40 ar)
   .exact T5 (n+1) r
def T8(n:Nat)(r:ae):mo r (r.field n).2:=((zc r).trans (uJ _ _)).trans (T5 n _)
def ae.pe(n:Nat)(i:ae):(ae × List Nd) × List aA :=
 let a:=if i.b_ 124=ab then(i,[]) else eJ (cH (ae.field n)) i
 if a.1.b_ 124=ab then(((a.1.take 124).2.word.2,a.2),[(a.1.take 124).2.word.1]) else(a,[])
def ae.rowOf(n:Nat)(t:aC):(ae × List Nd) × List aA:=if t.ak.length=0 then((t.inner,[]),[]) else t.inner.pe n
def ae.row(n:Nat)(r:ae):Nd × ae :=
 if r.b_ 91=ab then(.mk 10 (r.take 91).1.tok.pos [] (ae.rowOf n (r.take 91).1).2 (ae.rowOf n (r.take 91).1).1.2,(r.take 91).2.under (ae.rowOf n (r.take 91).1).1.1) else r.leaf 1
def Nd.zero:Nd:=.mk 0 0 [] [] []
def fO(one:ae->Nd × ae)(l:List aC)(at_ fin:Int):Nd × Int × Option Int :=
 match (one ⟨l,at_,fin,aj⟩).2.aM with
 | some b=>(.zero,0,aa b)
 | none=>((one ⟨l,at_,fin,aj⟩).1,(one ⟨l,at_,fin,aj⟩).2.at_,aj)
def jY(l:List aC)(at_ fin:Int):List aA × Option Int :=
 match ((⟨l,at_,fin,aj⟩:ae).words ar).2.aM with
 | some b=>([],aa b)
 | none=>(((⟨l,at_,fin,aj⟩:ae).words ar).1.1,aj)
structure cI where
 node:Nd
 next:Int
 aM:Bool
 pos:Int
def cI.enc(g:cI):List V:=[.int .i64 g.node.kind,.int .i64 g.node.pos,.aG g.node.au,.sl .no 2 (g.node.an.map aA.enc),.sl .no 5 (g.node.ak.map Nd.enc),.int .i64 g.next,.bool g.aM,.int .i64 g.pos]
def pO(l:List aC)(at_ fin:Int):Int:=if 0<=at_ then(match l[at_.toNat]? with | some t=>t.tok.pos | none=>fin) else fin
def eK(l:List aC)(at_ fin:Int):cI:=⟨.zero,0,ab,pO l at_ fin⟩
def gh(l:List aC)(at_:Int):Tok:=match l[at_.toNat]? with | some t=>t.tok | none=>⟨0,[],0⟩
def nameAt(l:List aC)(at_ fin:Int):cI :=
 if bL l at_ 97=ab then ⟨.mk 0 (gh l at_).pos (gh l at_).au [] [],at_+1,ar,0⟩ else eK l at_ fin
def gO(one:Int->cI)(l:List aC):Nat->Int->List Nd->List Nd × cI
 | 0,_,_=>([],⟨.zero,0,ab,0⟩)
 | n + 1, at_, out =>
  if (one at_).aM=ab then([],one at_)
  else if bL l (one at_).next 44=ab then gO one l n ((one at_).next+1) (out++[(one at_).node])
  else(out++[(one at_).node],one at_)
def wholeAt(one:List aC->Int->Int->cI)(t:aC)(empty:Bool):List Nd × cI :=
 if empty=ab/\t.ak.length=0 then([],⟨.zero,0,ar,0⟩)
 else
  let r:=gO (λi=>one t.ak i t.fin) t.ak (t.ak.length+1) 0 []
  if r.2.aM=ar/\r.2.next<t.ak.length then([],eK t.ak r.2.next t.fin) else r
def uf(l:List Nd):List aA:=l.map λn=>⟨n.au,n.pos⟩
def bU(l:List aC)(at_:Int):aC:=match l[at_.toNat]? with | some t=>t | none=>.zero
def sY(l:List aC)(at_ fin:Int):List aA × cI :=
 if bL l at_ 123=ab then(uf (wholeAt nameAt (bU l at_) ar).1,(wholeAt nameAt (bU l at_) ar).2) else([],eK l at_ fin)
def zI{l:List aC}{i k:Int}(h:bL l i k=ab):∃j t,i=(j:Nat)/\l[j]?=aa t/\t.tok.kind=k/\j<l.length:=by
 simp only[bL,bg,bQ] at h;obtain⟨h0,hk⟩:=h;obtain⟨j,rfl⟩:=AF h0;simp only[gi] at hk;cases hq:l[j]? with
 | none=>rw[hq] at hk;simp at hk
 | some t=>rw[hq] at hk;exact⟨j,t,rfl,hq,by simpa using hk,(fy.1 hq).1⟩
def qv{l:List Nd}{t:Nd}(h:l[j]?=aa t):(l.map Nd.enc)[((j:Nat):Int).toNat]?=aa t.enc:=by simp[h]
def Av{l:List aA}{t:aA}(h:l[j]?=aa t):(l.map aA.enc)[((j:Nat):Int).toNat]?=aa t.enc:=by simp[h]
variable{x:aC}
def aC.dd:x.enc.length=5:=by rw[dB];rfl
def aC.gN{x:aC}:cW x.enc=true:=by rw[dB];rfl
def aC.dV{x:aC}:bT x.enc=true:=by rw[dB];rfl
def aC.dL{x:aC}:bD x.enc=x.enc:=by rw[dB];rfl
def aC.fN:takeN 5 x.enc=aa x.enc:=by rw[dB];rfl
def aC.iR:bP ab 5 x.enc=aa (.agg x.enc):=by rw[dB];rfl
def aC.ib:cw 5 x.enc=true:=by rw[dB];rfl
variable{z0 z1:V}
def aC.gC{z2 z3 z4:V}:over [z0,z1,z2,z3,z4] x.enc=x.enc:=by rw[dB];rfl
def aC.cP{x:aC}{n:Nat}:bR n x.enc=true:=by rw[dB];rfl
def aC.al:=af @aC.dd <| af @aC.gN <| af @aC.dV <| af @aC.dL <| af @aC.fN <| af @aC.iR <| af @aC.ib <| af @aC.gC @aC.cP
def Nd.dd{x:Nd}:x.enc.length=5:=by rw[Nd.dB];rfl
def Nd.gN{x:Nd}:cW x.enc=true:=by rw[Nd.dB];rfl
def Nd.dV{x:Nd}:bT x.enc=true:=by rw[Nd.dB];rfl
def Nd.dL{x:Nd}:bD x.enc=x.enc:=by rw[Nd.dB];rfl
def Nd.fN{x:Nd}:takeN 5 x.enc=aa x.enc:=by rw[Nd.dB];rfl
def Nd.iR{x:Nd}:bP ab 5 x.enc=aa (.agg x.enc):=by rw[Nd.dB];rfl
def Nd.ib{x:Nd}:cw 5 x.enc=true:=by rw[Nd.dB];rfl
def Nd.gC{x:Nd}{z2 z3 z4:V}:over [z0,z1,z2,z3,z4] x.enc=x.enc:=by rw[Nd.dB];rfl
def Nd.cP{x:Nd}{n:Nat}:bR n x.enc=true:=by rw[Nd.dB];rfl
def Nd.al:=af @Nd.dd <| af @Nd.gN <| af @Nd.dV <| af @Nd.dL <| af @Nd.fN <| af @Nd.iR <| af @Nd.ib <| af @Nd.gC @Nd.cP
def aA.dd{x:aA}:x.enc.length=2:=by rw[aA.enc];rfl
def aA.gN{x:aA}:cW x.enc=true:=by rw[aA.enc];rfl
def aA.dV{x:aA}:bT x.enc=true:=by rw[aA.enc];rfl
def aA.dL{x:aA}:bD x.enc=x.enc:=by rw[aA.enc];rfl
def aA.fN{x:aA}:takeN 2 x.enc=aa x.enc:=by rw[aA.enc];rfl
def aA.iR{x:aA}:bP ab 2 x.enc=aa (.agg x.enc):=by rw[aA.enc];rfl
def aA.ib{x:aA}:cw 2 x.enc=true:=by rw[aA.enc];rfl
def aA.gC{x:aA}:over [z0,z1] x.enc=x.enc:=by rw[aA.enc];rfl
def aA.cP{x:aA}{n:Nat}:bR n x.enc=true:=by rw[aA.enc];rfl
def aA.al:=af @aA.dd <| af @aA.gN <| af @aA.dV <| af @aA.dL <| af @aA.fN <| af @aA.iR <| af @aA.ib <| af @aA.gC @aA.cP
def cI.dd{x:cI}:x.enc.length=8:=by rw[cI.enc];rfl
def cI.gN{x:cI}:cW x.enc=true:=by rw[cI.enc];rfl
def cI.dV{x:cI}:bT x.enc=true:=by rw[cI.enc];rfl
def cI.dL{x:cI}:bD x.enc=x.enc:=by rw[cI.enc];rfl
def cI.fN{x:cI}:takeN 8 x.enc=aa x.enc:=by rw[cI.enc];rfl
def cI.iR{x:cI}:bP ab 8 x.enc=aa (.agg x.enc):=by rw[cI.enc];rfl
def cI.ib{x:cI}:cw 8 x.enc=true:=by rw[cI.enc];rfl
def cI.gC{x:cI}{z2 z3 z4 z5 z6 z7:V}:over [z0,z1,z2,z3,z4,z5,z6,z7] x.enc=x.enc:=by rw[cI.enc];rfl
def cI.cP{x:cI}{n:Nat}:bR n x.enc=true:=by rw[cI.enc];rfl
def cI.al:=af @cI.dd <| af @cI.gN <| af @cI.dV <| af @cI.dL <| af @cI.fN <| af @cI.iR <| af @cI.ib <| af @cI.gC @cI.cP
def Nd.x1{r:Nd}:r.enc.drop 1=[V.int .i64 r.pos,.aG r.au,.sl .no 2 (r.an.map aA.enc),.sl .no 5 (r.ak.map Nd.enc)]:=by rw[Nd.dB];rfl
def Nd.x2{r:Nd}:r.enc.drop 2=[V.aG r.au,.sl .no 2 (r.an.map aA.enc),.sl .no 5 (r.ak.map Nd.enc)]:=by rw[Nd.dB];rfl
def Nd.x3{r:Nd}:r.enc.drop 3=[V.sl .no 2 (r.an.map aA.enc),.sl .no 5 (r.ak.map Nd.enc)]:=by rw[Nd.dB];rfl
def Nd.x4{r:Nd}:r.enc.drop 4=[V.sl .no 5 (r.ak.map Nd.enc)]:=by rw[Nd.dB];rfl
def Nd.x0{r:Nd}:bP ar 1 r.enc=aa (.int .i64 r.kind):=by rw[Nd.dB];rfl
def Nd.fl:=af @Nd.x0 <| af @Nd.x1 <| af @Nd.x2 <| af @Nd.x3 @Nd.x4
variable{r:aC}
def aC.x1:r.enc.drop 1=[V.aG r.tok.au,.int .i64 r.tok.pos,.sl .no 5 (eg r.ak),.int .i64 r.fin]:=by rw[dB];rfl
def aC.x2:r.enc.drop 2=[V.int .i64 r.tok.pos,.sl .no 5 (eg r.ak),.int .i64 r.fin]:=by rw[dB];rfl
def aC.x3:r.enc.drop 3=[V.sl .no 5 (eg r.ak),.int .i64 r.fin]:=by rw[dB];rfl
def aC.x4:r.enc.drop 4=[V.int .i64 r.fin]:=by rw[dB];rfl
def aC.x0:bP ar 1 r.enc=aa (.int .u8 r.tok.kind):=by rw[dB];rfl
def aC.xt:bP ab 3 r.enc=aa (.agg [.int .u8 r.tok.kind,.aG r.tok.au,.int .i64 r.tok.pos]):=by rw[dB];rfl
def aC.fl:=af @aC.x0 <| af @aC.xt <| af @aC.x1 <| af @aC.x2 <| af @aC.x3 @aC.x4
def sV(c:Int):Bool:=decide (97<=c)&&decide (c<=122)
def uI(c:Int):Bool:=sV c||(decide (48<=c)&&decide (c<=57))||decide (c=95)
def PG:List Int:=[35,43,38,40,41,123,125,91,93,44,58,61,124,60]
def nW(c:Int):Bool:=PG.any λs=>decide (s=c)
def closing(c:Int):Int:=if c=40 then 41 else if c=123\/c=91 then c+2 else 0
def l7(c:Int):Bool:=decide (c=41)||decide (c=125)||decide (c=93)
def fA(c:UInt8):Bool:=uI c.toNat
def sU(c:UInt8):Bool:=sV c.toNat
def cV(s:List UInt8):Bool:=decide (s.length<=16)&&(match s with | []=>ar | c::r=>sU c&&r.all fA)
def Tok.enc(t:Tok):List V:=[.int .u8 t.kind,.aG t.au,.int .i64 t.pos]
def fP(r:List UInt8):List UInt8:=r.takeWhile fA
def fG:Nat->Nat->List UInt8->List Tok->List Tok × Option Int
 | 0,_,_,acc=>(acc,aj)
 | _,_,[],acc=>(acc,aj)
 | n + 1, p, c :: r, acc =>
  if c.toNat=45/\(r.head?.map UInt8.toNat)=aa 45 then(acc,aj)
  else if 0<(fP (c::r)).length/\cV (fP (c::r))=ab then fG n (p+(fP (c::r)).length) ((c::r).drop (fP (c::r)).length) (acc++[⟨97,fP (c::r),p⟩])
  else if nW (c.toNat:Nat)=ab then fG n (p+1) r (acc++[⟨(c.toNat:Nat),[c],p⟩])
  else if c.toNat=32\/c.toNat=9 then fG n (p+1) r acc
  else([],aa p)
def eG(s:List UInt8):List Tok × Option Int:=fG s.length 0 s []
def El(b:Option Int):V:=.agg [.int .i64 (match b with | some _=>1 | none=>0),.int .i64 (gk b)]
def fw(l:List Tok)(i:Nat):Int:=match l[i]? with | some t=>t.kind | none=>0
def qR(l:List Tok):Nat->Nat->List Nat->Int
 | 0,_,open_=>match open_.getLast? with | some j=>(j:Nat) | none=>-1
 | n + 1, i, open_ =>
  if closing (fw l i)≠0/\24<=open_.length then(i:Nat)
  else
   let o:=if closing (fw l i)≠0 then open_++[i] else open_
   if l7 (fw l i)=ab then
    match o.getLast? with
    | none=>(i:Nat)
    | some j=>if closing (fw l j)=fw l i then qR l n (i+1) o.dropLast else(i:Nat)
   else qR l n (i+1) o
def kf(l:List Tok)(at_:Nat):Nat->Nat->Int->Nat
 | 0,_,_=>at_
 | n + 1, i, deep =>
  let d:=(deep+(if closing (fw l i)≠0 then 1 else 0)) - (if l7 (fw l i)=ab then 1 else 0)
  if d=0 then i else kf l at_ n (i+1) d
def partner(l:List Tok)(at_:Nat):Nat:=kf l at_ (l.length - at_) at_ 0
def rY(l:List Tok)(i:Nat):Int:=match l[i]? with | some t=>t.pos | none=>0
def jW(l:List Tok)(i:Nat):Tok:=match l[i]? with | some t=>t | none=>⟨0,[],0⟩
def pR(l:List Tok):Nat->Nat->Nat->List aC
 | 0,_,_=>[]
 | n + 1, i, to =>
  if i<to then
   if closing (fw l i)≠0 then .mk (jW l i) (pR l n (i+1) (partner l i)) (rY l (partner l i))::pR l n (partner l i+1) to
   else .mk (jW l i) [] (rY l i)::pR l n (i+1) to
  else []
def iT(l:List Tok):List aC × Option Int :=
 if 0<=qR l l.length 0 [] then([],aa (rY l (qR l l.length 0 []).toNat)) else(pR l l.length 0 l.length,aj)
def jI:Option Int->List Tok->List UInt8
 | _,[]=>[]
 | k,t::ts=>(if k=aa 97/\t.kind=97 then [32] else [])++t.au++jI (aa t.kind) ts
def fC(l:List Tok):List UInt8:=jI aj l
mutual
def aC.flat:aC->List Tok
 | .mk t ks e=>t::(if closing t.kind≠0 then bG ks++[⟨closing t.kind,[UInt8.ofNat (closing t.kind).toNat],e⟩] else [])
def bG:List aC->List Tok
 | []=>[]
 | t::ts=>t.flat++bG ts
end
def Pm(r:List UInt8):(fP r).length<=r.length:=by
 unfold fP;exact List.Sublist.length_le (aaD _)
variable{a:Nat}{s:List UInt8}
def at6:(fP (s.drop a)).length<=s.length - a:=by
 have:=Pm (s.drop a)
 rwa [KD] at this
def ZC{O:Type}{f:O->Bool}:∀(r:List O),r.take (r.takeWhile f).length=r.takeWhile f
 | []=>rfl
 | c :: r => by
  simp only[List.takeWhile_cons];split
  .simp[ZC r]
  .simp
def SE:(s.take (a+(fP (s.drop a)).length)).drop a=fP (s.drop a):=by
 rw[Ku,aaE];exact ZC _
def aen(h:a<s.length):(s.take (a+1)).drop a=[s[a]]:=by
 rw[Ku,aaE,nr h];rfl
def Xl{l:List Tok}{at_:Nat}:∀(n i:Nat) (d:Int),at_<=i->i+n<=l.length->at_<l.length->at_<=kf l at_ n i d/\kf l at_ n i d<l.length
 | 0,i,d,_,_,h=>⟨bY _,h⟩
 | n + 1, i, d, U, h2, h3 => by
  simp only[kf];generalize (d+(if closing (fw l i)≠0 then 1 else 0)) - (if l7 (fw l i)=ab then 1 else 0)=e;split
  .exact⟨U,by omega⟩
  .exact Xl n (i+1) _ (by omega) (by omega) h3
variable{i:Nat}
def Jq{l:List Tok}(h:i<l.length):i<=partner l i/\partner l i<l.length:=Xl _ _ _ (bY _) (by omega) h
def I4:∀(n p:Nat) (r:List UInt8) (acc:List Tok),r.length<=n->(fG n p r acc).1.length<=acc.length+r.length
 | 0,_,r,acc,_=>by cases r<;>simp[fG]
 | n+1,p,[],acc,_=>by simp[fG]
 | n + 1, p, c :: r, acc, h => by
  simp only[fG];have hr:=Pm (c::r);simp only[dm] at h hr ⊢;split
  .simp only;omega
  .split
   .rename_i U
    have:=I4 n (p+(fP (c::r)).length) ((c::r).drop (fP (c::r)).length) (acc++[⟨97,fP (c::r),p⟩]) (by simp;omega)
    simp at this;omega
   .split
    .have:=I4 n (p+1) r (acc++[⟨(c.toNat:Nat),[c],p⟩]) (by omega)
     simp at this;omega
    .split
     .have:=I4 n (p+1) r acc (by omega);omega
     .simp
def V1(s:List UInt8):(eG s).1.length<=s.length:=by
 have:=I4 s.length 0 s [] (bY _)
 simpa [eG] using this
def bX:List (List UInt8)->List UInt8
 | []=>[]
 | x::xs=>x++xs.flatMap λy=>44::y
def NO(l:List (List UInt8))(y:List UInt8):bX (l++[y])=bX l++(if 0<l.length then [44] else [])++y:=by
 cases l with
 | nil=>simp[bX]
 | cons x xs=>simp[bX]
def Vv:∀l:List (List UInt8),(bX l).length<=(l.map λx=>x.length+1).sum
 | []=>by simp[bX]
 | x :: xs => by
  simp only[bX,bM,List.length_flatMap,cz,py]
  have:(xs.map λy=>(44::y).length)=xs.map λx=>x.length+1:=by simp
  rw[this];omega
def fR(ws:List aA):List UInt8:=bX (ws.map aA.au)
def l9:List (List UInt8)->List UInt8
 | []=>[]
 | x::_=>x
mutual
def Nd.cY:Nd->List UInt8
 | .mk k _ t ws ks =>
  if k=1\/k=2 then t
  else if k=3 then [123]++fR ws++[125]
  else if k=4 then [40]++bX (de ks)++[41]
  else if k=5 then [91]++bX (de ks)++[93]
  else if k=6 then t++[58,123]++fR ws++[125]
  else if k=7 then [35]++l9 (de ks)
  else if k=8 then [43,40]++bX (de ks)++[41]
  else if k=9 then [38,40]++bX (de ks)++[41]
  else if k=10 then([91]++bX (de ks))++(if 0<ws.length then [124]++fR ws else [])++[93]
  else if k=11 then t++[61]++l9 (de ks)
  else []
def de:List Nd->List (List UInt8)
 | []=>[]
 | n::ns=>n.cY::de ns
end
def yz:∀l,de l=l.map Nd.cY
 | []=>rfl
 | n::ns=>by simp[de,yz ns]
def e_(ws:List aA):Nat:=(ws.map λw=>w.au.length+1).sum
mutual
def Nd.wt:Nd->Nat
 | .mk _ _ t ws ks=>t.length+e_ ws+fV ks+4
def fV:List Nd->Nat
 | []=>0
 | n::ns=>n.wt+1+fV ns
end
def GF:∀l,fV l=(l.map λn=>n.wt+1).sum
 | []=>rfl
 | n::ns=>by simp[fV,GF ns]
def DZ(ws:List aA):(fR ws).length<=e_ ws:=by
 have:=Vv (ws.map aA.au)
 simpa [fR,e_,Cr,tq] using this
def DX{l:List Nd}{n:Nd}(h:n∈l):n.wt+1<=fV l:=by
 induction l with
 | nil=>simp at h
 | cons m ms ih =>
  rcases lq.1 h with rfl | h
  .simp only[fV];omega
  .have:=ih h;simp only[fV];omega
def FE:∀(l:List Nd),(∀n∈l,n.cY.length<=n.wt)->(bX (de l)).length<=fV l:=λl h=>by
 refine yQ (Vv _) ?_;rw[yz,GF,Cr];induction l with
 | nil=>simp
 | cons n ns ih =>
  simp only[cz,py,Function.comp];have U:=h n (by simp);have h2:=ih λm hm=>h m (by simp[hm])
  omega
def MK(l:List Nd)(h:∀n∈l,n.cY.length<=n.wt):(l9 (de l)).length<=fV l:=by
 cases l with
 | nil=>simp[de,l9]
 | cons n ns=>have:=h n (by simp);simp only[de,l9,fV];omega
mutual
def ZN:∀(n:Nd),n.cY.length<=n.wt
 | .mk k p t ws ks => by
  have U:=DZ ws;have h2:=FE ks (vr ks);have h3:=MK ks (vr ks);simp only[Nd.cY,Nd.wt]
  repeat' split
  all_goals (try simp only[bM,dm,dQ])
  all_goals omega
def vr:∀(l:List Nd),∀n∈l,n.cY.length<=n.wt
 | [],n,h=>by simp at h
 | m :: ms, n, h => by
  rcases lq.1 h with h | h
  .rw[h];exact ZN m
  .exact vr ms n h
end
def CQ:List V:=aq 8 (.int .u64 0)
def x7:List V:=.int .i64 0::.int .i64 0::CQ
def cD(l:List (List UInt8)):List (List V):=l.map λs=>[.aG s]
variable{O:Type}
def ny{l:List O}{d:O}(h:i<l.length):l.getD i d=l[i]:=by simp[h]
def eB(l:List (List UInt8)):(cD l).length=l.length:=by simp[cD]
def B9{l:List (List UInt8)}(h:j<l.length):(cD l)[((j:Nat):Int).toNat]?=aa [.aG (l.getD j [])]:=by simp[cD,h]
def YI{l:List (List UInt8)}:(cD l).take j=cD (l.take j):=by simp[cD,QX]
def cN:Option Nat->Int
 | some k=>k
 | none=>-1
def fu(l:List (List UInt8))(s:List UInt8):Option Nat:=(bA l.length).find? λi=>decide (l.getD i []=s)
def po(l:List (List UInt8)):Option Nat:=(bA l.length).find? λi=>(fu (l.take i) (l.getD i [])).isSome
section
variable {l:List (List UInt8)} {s:List UInt8} {i:Nat}
def Jk{o:Option Nat}:decide (0<=cN o)=o.isSome:=by
 cases o with
 | none=>rfl
 | some k=>exact aK (by simp only[cN];omega)
def BY{o:Option Nat}:decide (cN o<0)=o.isNone:=by
 cases o with
 | none=>rfl
 | some k=>exact aJ (by simp only[cN];omega)
def uG{p:Nat->Bool}{n:Nat}(h:(bA n).find? p=aa k):k<n/\p k=ab/\∀j,j<k->p j=false:=by
 refine⟨by simpa using KF h,by simpa using List.find?_some h,λj hj=>?_⟩;obtain⟨_,as,bs,h2,h3⟩:=GM.1 h;have hl:as.length=k:=by
  have:=iH (λl:List Nat=>l[as.length]?) h2
  simp only[AK (bY _),Q6,Kz] at this;rw[KA] at this
  .simpa using this
  .have:=iH List.length h2;simp at this;omega
 have iP : j∈as:=by
  have:=iH (λl:List Nat=>l[j]?) h2
  rw[qJ (by omega),KA (by have:=iH List.length h2;simp at this;omega)] at this;exact rF this.symm
 have:=h3 j iP
 simpa using this
def LP{p:Nat->Bool}{n:Nat}:((bA n).find? p).isSome=ab↔∃k,k<n/\p k=true:=by
 rw[List.find?_isSome];simp
def agK(hi:i<l.length):(fu (l.take i) (l.getD i [])).isSome=decide (cN (fu l (l.getD i []))<(i:Nat)):=by
 rw[rD,fu,LP,Et];have aD:(l.take i).length=i:=by rw[iN];omega
 have rP:∀k,k<i->(l.take i).getD k []=l.getD k []:=λk hk=>by simp[fW,yP hk]
 rw[aD];have hs:∃m,fu l (l.getD i [])=aa m:=by
  have:=(LP (p:=λk=>decide (l.getD k []=l.getD i [])) (n:=l.length)).2 ⟨i,hi,by simp⟩
  exact Eb.1 this
 obtain⟨m,hm⟩:=hs;have qW := uG hm;rw[hm];simp only[cN,bQ] at qW ⊢;constructor
 .rintro⟨k,U,h2⟩;rw[rP k U] at h2
  have:¬k<m:=λhc=>absurd (qW.2.2 k hc) (by rw[h2];simp)
  omega
 .intro h;exact⟨m,by omega,by rw[rP m (by omega)];exact qW.2.1⟩
end
def kz(l:List (List UInt8)):Bool:=decide (1<=l.length)&&decide (l.length<=64)&&(po l).isNone&&l.all cV
structure bh where
 kind:Int
 an:List (List UInt8)
 rel:Rl
def bh.enc(f:bh):List V:=.int .i64 f.kind::.sl .no 1 (cD f.an)::f.rel.enc
def bh.zero:bh:=⟨0,[],.zero⟩
section
variable {f g:bh} {m:Nat}
def bh.dd:f.enc.length=67:=by simp[bh.enc,Rl.dd]
def bh.gN:cW f.enc=true:=by simp[bh.enc,cW,V.one,Rl.gN]
def bh.dV:bT f.enc=true:=by simp[bh.enc,bT,V.c9,Rl.dV]
def bh.dL:bD f.enc=f.enc:=by simp[bh.enc,bD,V.erase,Rl.dL]
def bh.cP:bR m f.enc=true:=by simp[bh.enc,bR,V.lo,Rl.cP]
def bh.fN:takeN 67 f.enc=aa f.enc:=by have:=Ap (c:=f.enc);rwa [bh.dd] at this
def bh.iR:bP ab 67 f.enc=aa (.agg f.enc):=by rw[zM,bh.fN];rfl
def bh.ib:cw 67 f.enc=true:=by have:=zj (c:=f.enc);rwa [bh.dd] at this
def bh.gC:over g.enc f.enc=f.enc:=vb (by rw[bh.dd,bh.dd])
theorem bh.O4:bP ar 1 f.enc=aa (.int .i64 f.kind):=rfl
theorem bh.r_s:bP ar 1 (f.enc.drop 1)=aa (.sl .no 1 (cD f.an)):=rfl
theorem bh.vh:bP ar 1 (f.enc.drop 2)=aa (.int .i64 f.rel.n):=rfl
def bh.r_r:bP ab 65 (f.enc.drop 2)=aa (.agg f.rel.enc):=by
 show bP ab 65 f.rel.enc=_;exact Rl.iR
def bh.as4:takeN 65 (f.enc.drop 2)=aa f.rel.enc:=by
 show takeN 65 f.rel.enc=_;exact Rl.fN
def bh.zov:over sA f.enc=f.enc:=vb (by rw[bh.dd];rfl)
theorem bh.ax0:cw 67 sA=true:=rfl
def bh.zlo:bR m sA=true:=by
 have:sA = .int .i64 0::.sl .aZ 1 []::Rl.zero.enc:=by rw[<-Rl.yl];rfl
 rw[this];simp[bR,V.lo,Rl.cP]
def bh.al:=af @bh.dd <| af @bh.gN <| af @bh.dV <| af @bh.dL <| af @bh.cP <| af @bh.fN <| af @bh.iR <| af @bh.ib <| af @bh.gC <| af @bh.O4 <| af @bh.r_s <| af @bh.vh <| af @bh.r_r <| af @bh.as4 <| af @bh.zov <| af @bh.ax0 @bh.zlo
end
structure bz where
 tuple:Bool
 bC:List bh
def bz.enc(s:bz):List V:=[.bool s.tuple,.sl .no 67 (s.bC.map bh.enc)]
section
variable {s:bz} {g:Bool} {n:Nat} {a b:V}
theorem bz.dd:s.enc.length=2:=rfl
theorem bz.gN:cW s.enc=true:=rfl
theorem bz.dV:bT s.enc=true:=rfl
theorem bz.dL:bD s.enc=s.enc:=rfl
theorem bz.cP:bR n s.enc=true:=rfl
theorem bz.fN:takeN 2 s.enc=aa s.enc:=rfl
theorem bz.iR:bP ab 2 s.enc=aa (.agg s.enc):=rfl
theorem bz.ib:cw 2 s.enc=true:=rfl
theorem bz.gC:over [a,b] s.enc=s.enc:=rfl
theorem bz.O6:bP ar 1 s.enc=aa (.bool s.tuple):=rfl
theorem bz.F_:bP ar 1 (s.enc.drop 1)=aa (.sl .no 67 (s.bC.map bh.enc)):=rfl
def bz.al:=af @bz.dd <| af @bz.gN <| af @bz.dV <| af @bz.dL <| af @bz.cP <| af @bz.fN <| af @bz.iR <| af @bz.ib <| af @bz.gC <| af @bz.O6 @bz.F_
end
def bz.ok(s:bz):Prop:=s.bC.length<=100000/\∀f∈s.bC,f.an.length<=100000
def gl(f:bh):Bool:=kz f.an &&
 (if f.kind=1\/f.kind=2 then decide (bd f.rel=0) else if f.kind=3 then decide (f.rel.n=f.an.length)&&gW f.rel else if f.kind=4 then decide (f.rel.n=f.an.length)&&jN f.rel else ar)
def fH(s:bz):Bool:=decide (1<=s.bC.length)&&decide (s.bC.length<=8)&&(s.tuple||decide (s.bC.length=1))&&s.bC.all gl
def Xx{r:Rl}:decide (lf r=lf Rl.zero)=decide (bd r=0):=by
 apply su.2;have hz:bd Rl.zero=0:=by simp[bd,Rl.zero]
 constructor
 .intro h;have:=(Xw.1 h).1;rw[this,hz]
 .intro h;rw[SX h,SX hz]
structure bn where
 w:List br
 len:w.length=8
def bn.ext'{a b:bn}(h:a.w=b.w):a=b:=by cases a;cases b;simp only at h;subst h;rfl
instance:DecidableEq bn:=λa b=>if h:a.w=b.w then isTrue (bn.ext' h) else isFalse λe=>h (e▸rfl)
def bn.enc(e:bn):List V:=iI e.w
def bn.zero:bn:=⟨aq 8 0#64,by simp⟩
def bn.get(e:bn)(i:Nat):br:=e.w.getD i 0#64
def bn.put(e:bn)(i:Nat)(w:br):bn:=⟨e.w.set i w,by simp[e.len]⟩
def bn.of(f:Nat->br):bn:=⟨(bA 8).map f,by simp⟩
section
variable {e d:bn} {i m:Nat} {w:br} {f:Nat->br}
def bn.CW:(e.put i w).get j=if i=j/\i<8 then w else e.get j:=by
 simp only[bn.get,bn.put,fW,List.getElem?_set,e.len]
 by_cases h:i=j
 .subst h
  by_cases h2:i<8
  .simp[h2]
  .simp[h2,e.len]
 .simp[h]
def bn.nz(h:i<8):(bn.of f).get i=f i:=by simp[bn.get,bn.of,fW,h]
def bn.ext(k:∀i,i<8->e.get i=d.get i):e=d:=by
 refine bn.ext' (QS (by rw[e.len,d.len]) λi U h2=>?_)
 have:=k i (by rw[e.len] at U;exact U)
 simpa [bn.get,fW,U,h2] using this
def bn.dd:e.enc.length=8:=by simp[bn.enc,HB,e.len]
def bn.gN:cW e.enc=true:=S5
def bn.dV:bT e.enc=true:=S4
def bn.dL:bD e.enc=e.enc:=S0
def bn.cP:bR m e.enc=true:=S3
def bn.fN:takeN 8 e.enc=aa e.enc:=by have:=Ap (c:=e.enc);rwa [bn.dd] at this
def bn.iR:bP ab 8 e.enc=aa (.agg e.enc):=by rw[zM,bn.fN];rfl
def bn.ib:cw 8 e.enc=true:=by have:=zj (c:=e.enc);rwa [bn.dd] at this
def bn.gC:over d.enc e.enc=e.enc:=vb (by rw[bn.dd,bn.dd])
def bn.yl:CQ=bn.zero.enc:=by rw[bn.enc,iI,bn.zero,List.map_replicate];rfl
def bn.rq:fZ [1,1,1,1,1,1,1,1] e.enc d.enc=aa (decide (e=d)):=by
 show fZ (aq 8 1) (iI e.w) (iI d.w)=_;rw[SZ e.len d.len];congr 1;exact su.2 ⟨bn.ext',λh=>h▸rfl⟩
def bn.ud(h:i<8):bP ar 1 (e.enc.drop i)=aa (.int .u64 ((e.get i).toNat:Nat)):=S2 (by rw[e.len];exact h)
def bn.Aq(h:i<8):cw 1 (e.enc.drop i)=true:=S1 (by rw[e.len];exact h)
def bn.Ar(h:i<8):setAt e.enc i [.int .u64 (w.toNat:Nat)]=(e.put i w).enc:=S6 (by rw[e.len];exact h)
def bn.fill:(bn.of λj=>if j<i then f j else 0#64).put i (f i)=bn.of λj=>if j<i+1 then f j else 0#64:=by
 refine bn.ext λk hk=>?_
 rw[bn.CW,bn.nz hk,bn.nz hk]
 by_cases h:i=k
 .subst h;simp[hk]
 .rw[aB (by omega)]
  by_cases h2:k<i
  .rw[aF h2,aF (by omega)]
  .rw[aB h2,aB (by omega)]
def bn.axZ:bn.zero=bn.of λ_=>0#64:=by
 refine bn.ext λi hi=>?_
 rw[bn.nz hi];simp only[bn.get,bn.zero,fW,aau,hi,cM,yR]
def bn.al:=af @bn.dd <| af @bn.gN <| af @bn.dV <| af @bn.dL <| af @bn.cP <| af @bn.fN <| af @bn.iR <| af @bn.ib <| af @bn.gC <| af @bn.yl @bn.rq
end
def anh(s:bz)(a b:bn)(i:Nat):br :=
 match s.bC[i]? with
 | some f=>if f.kind=4 then as8 f.rel (a.get i) (b.get i) else a.get i|||b.get i
 | none=>a.get i|||b.get i
def ang(s:bz)(a b:bn):bn:=bn.of (anh s a b)
def apn(a b:bn):bn:=bn.of λi=>a.get i&&&b.get i
def s7(f:bh)(w:br):Bool :=
 if f.kind=1 then(zO f.an.length w).isSome else if f.kind=2 then pP w (fY (f.an.length:Nat)) else if f.kind=3 then decide (lv f.rel w=w) else(vf f.rel w).isSome
def xC(s:bz)(e:bn)(i:Nat):Bool:=match s.bC[i]? with | some f=>s7 f (e.get i) | none=>decide (e.get i=0#64)
def sB(s:bz)(e:bn):Bool:=fH s&&(bA 8).all (xC s e)
def jf(ws:List aA):Bool:=ws.all λw=>cV w.au
def Nd.lH(n:Nd):Bool:=cV n.au&&decide ((n.an.length:Int)+n.ak.length=0)
def Nd.lX(n:Nd):Bool:=decide (n.au=[])&&decide ((n.an.length:Int)=0)
def Nd.qD(n:Nd):Bool:=decide (n.kind=6)&&cV n.au&&jf n.an&&decide ((n.ak.length:Int)=0)
mutual
def Nd.jl:Nd->Bool
 | .mk k p t ws ks =>
  if k=2 then(Nd.mk k p t ws ks).lH
  else if k=3 then decide (t=[])&&jf ws&&decide ((ks.length:Int)=0)
  else if k=4 then(Nd.mk k p t ws ks).lX&&decide ((0:Int)<ks.length)&&Ht ks
  else if k=5 then(Nd.mk k p t ws ks).lX&&ks.all Nd.qD
  else ar
def Ht:List Nd->Bool
 | []=>ab
 | n::ns=>n.jl&&Ht ns
end
def SB:∀l,Ht l=l.all Nd.jl
 | []=>rfl
 | n::ns=>by simp[Ht,SB ns]
def Nd.A5(n:Nd):n.jl=if n.kind=2 then n.lH else if n.kind=3 then decide (n.au=[])&&jf n.an&&decide ((n.ak.length:Int)=0)
 else if n.kind=4 then n.lX&&decide ((0:Int)<n.ak.length)&&n.ak.all Nd.jl else if n.kind=5 then n.lX&&n.ak.all Nd.qD else false:=by
 cases n;rw[<-SB];rw[Nd.jl];rfl
def wh(f:Nd->Bool):List Nd->Bool
 | []=>ar
 | n::_=>f n
mutual
def Nd.eP:Nd->Bool
 | .mk k p t ws ks =>
  if k=1 then(Nd.mk k p t ws ks).lH
  else if k=7 then(Nd.mk k p t ws ks).lX&&decide ((ks.length:Int)=1)&&wh Nd.jl ks
  else if k=8\/k=9 then(Nd.mk k p t ws ks).lX&&decide ((0:Int)<ks.length)&&IX ks
  else ar
def IX:List Nd->Bool
 | []=>ab
 | n::ns=>n.eP&&IX ns
end
def VH:∀l,IX l=l.all Nd.eP
 | []=>rfl
 | n::ns=>by simp[IX,VH ns]
def Nd.sR(n:Nd):n.eP=if n.kind=1 then n.lH else if n.kind=7 then n.lX&&decide ((n.ak.length:Int)=1)&&wh Nd.jl n.ak
 else if n.kind=8\/n.kind=9 then n.lX&&decide ((0:Int)<n.ak.length)&&n.ak.all Nd.eP else false:=by
 cases n;rw[<-VH];rw[Nd.eP];rfl
def Nd.pY(n:Nd):Bool:=(decide (n.kind=1)||decide (n.kind=7))&&n.eP
def Nd.mG(n:Nd):Bool:=decide (n.kind=11)&&cV n.au&&decide ((n.an.length:Int)=0)&&decide ((n.ak.length:Int)=1)&&wh Nd.pY n.ak
def Nd.jF(n:Nd):Bool :=
 if n.kind=10 then decide (n.au=[])&&decide ((n.an.length:Int)<=1)&&jf n.an&&n.ak.all Nd.mG else decide (n.kind=1)&&n.eP
def eH:List aA->List aA->Bool
 | [],[]=>ab
 | w::ws,u::us=>decide (w.au=u.au)&&eH ws us
 | _,_=>ar
mutual
def Nd.c_:Nd->Nd->Bool
 | .mk k _ t ws ks,n=>decide (k=n.kind)&&decide (t=n.au)&&eH ws n.an&&dT ks n.ak
def dT:List Nd->List Nd->Bool
 | [],[]=>ab
 | n::ns,m::ms=>n.c_ m&&dT ns ms
 | _,_=>ar
end
def Nd.DG(n m:Nd):n.c_ m=(decide (n.kind=m.kind)&&decide (n.au=m.au)&&eH n.an m.an&&dT n.ak m.ak):=by cases n;rw[Nd.c_];rfl
def YR:∀l,eH l l=ab
 | []=>rfl
 | w::ws=>by simp[eH,YR ws]
mutual
def Nd.YN:∀n:Nd,n.c_ n=ab
 | .mk k p t ws ks=>by simp[Nd.c_,Nd.kind,Nd.au,Nd.an,Nd.ak,YR,YX ks]
def YX:∀l:List Nd,dT l l=ab
 | []=>by simp[dT]
 | n::ns=>by simp[dT,Nd.YN n,YX ns]
end
def YP:∀{a b:List aA},eH a b=ab->a.length=b.length
 | [],[],_=>rfl
 | [],_::_,h=>by simp[eH] at h
 | _::_,[],h=>by simp[eH] at h
 | _::ws,_::us,h=>by simp only[eH,bg] at h;simp[YP h.2]
def YW:∀{a b:List Nd},dT a b=ab->a.length=b.length
 | [],[],_=>rfl
 | [],_::_,h=>by simp[dT] at h
 | _::_,[],h=>by simp[dT] at h
 | _::ws,_::us,h=>by simp only[dT,bg] at h;simp[YW h.2]
def YO:∀{a b:List aA} {i:Nat} (ha:i<a.length) (hb:i<b.length),a.length=b.length->eH (a.take i) (b.take i)=ab->eH (a.take (i+1)) (b.take (i+1))=decide (a[i].au=b[i].au)/\(decide (a[i].au=b[i].au)=ar->eH a b=ar)
 | w::ws,u::us,0,_,_,_,_=>by simp[eH];intro U h2;exact absurd h2 U
 | w :: ws, u :: us, i + 1, ha, hb, hl, h => by
  simp only[xf,eH,bg] at h ⊢
  have:=YO (a:=ws) (b:=us) (i:=i) (by simpa using ha) (by simpa using hb) (by simpa using hl) h.2
  simp only[h.1,iM,GN];exact this
 | [],_,_,ha,_,_,_=>by simp at ha
 | _::_,[],_,_,hb,_,_=>by simp at hb
def YV:∀{a b:List Nd} {i:Nat} (ha:i<a.length) (hb:i<b.length),a.length=b.length->dT (a.take i) (b.take i)=ab->dT (a.take (i+1)) (b.take (i+1))=a[i].c_ b[i]/\(a[i].c_ b[i]=ar->dT a b=ar)
 | w::ws,u::us,0,_,_,_,_=>by simp[dT];intro U h2;rw[U] at h2;simp at h2
 | w :: ws, u :: us, i + 1, ha, hb, hl, h => by
  simp only[xf,dT,bg] at h ⊢
  have:=YV (a:=ws) (b:=us) (i:=i) (by simpa using ha) (by simpa using hb) (by simpa using hl) h.2
  simp only[h.1,iM,GN];exact this
 | [],_,_,ha,_,_,_=>by simp at ha
 | _::_,[],_,_,hb,_,_=>by simp at hb
def qN(o:Option Int):List V:=[.bool o.isSome,.int .i64 (o.getD 0)]
def v_(o:Option Int):List V:=[.int .i64 (if o.isSome then 4 else 0),.int .i64 (o.getD 0)]
def ia(l:List (List UInt8))(s:br):List aA->br × Option Int
 | []=>(s,aj)
 | w::ws=>match fu l w.au with | none=>(0#64,aa w.pos) | some k=>ia l (ln s (k:Nat)) ws
def rZ(f:bh)(s:br):List Nd->br × Option Int
 | []=>(s,aj)
 | k :: ks => match fu f.an k.au with
  | none=>(0#64,aa k.pos)
  | some o => match (ia f.an 0#64 k.an).2 with
   | some p=>(0#64,aa p)
   | none=>rZ f (s|||yo f.rel o (ia f.an 0#64 k.an).1) ks
def ry(f:bh)(s:br)(aM:Option Int):List Nd->br × Option Int
 | []=>(s,aM)
 | k :: ks => match fu f.an k.au with
  | none=>(0#64,aM.or (aa k.pos))
  | some o=>ry f (s|||yo f.rel o (ia f.an 0#64 k.an).1) (aM.or (ia f.an 0#64 k.an).2) ks
def Pk{f:bh}{p:Int}:∀{ks:List Nd} {s:br},(ry f s (aa p) ks).2=aa p
 | [],_=>rfl
 | k :: ks, s => by
  simp only[ry];split
  .rfl
  .exact Pk
def Yr{f:bh}:∀{ks:List Nd} {s:br},(ry f s aj ks).2=(rZ f s ks).2/\((rZ f s ks).2=aj->(ry f s aj ks).1=(rZ f s ks).1)
 | [],_=>⟨rfl,λ_=>rfl⟩
 | k :: ks, s => by
  simp only[ry,rZ];split
  .exact⟨rfl,λh=>by simp at h⟩
  .split
   .rename_i o _ p hp;rw[hp];exact⟨Pk,λh=>by simp at h⟩
   .rename_i hp;rw[hp];exact Yr
def pH(f:bh)(n:Nd):br × Option Int :=
 match fu f.an n.au with
 | none=>(0#64,aa n.pos)
 | some k=>(if f.kind=4 then mz f.rel k else(pM (f.an.length:Nat) (k:Nat)).1,aj)
def BI(f:bh):Int:=if f.kind=2 then 3 else if f.kind=3 then 5 else 2
def s8(f:bh)(n:Nd):br × Option Int :=
 if n.kind=BI f then(if f.kind=2 then ia f.an 0#64 n.an else if f.kind=3 then rZ f 0#64 n.ak else pH f n) else(0#64,aa n.pos)
def nZ(f:bh)(n:Nd)(aM:Option Int):br × Option Int :=
 if n.kind=BI f then(if f.kind=2 then((ia f.an 0#64 n.an).1,aM.or (ia f.an 0#64 n.an).2) else if f.kind=3 then ry f 0#64 aM n.ak else((pH f n).1,aM.or (pH f n).2)) else(0#64,aM.or (aa n.pos))
def aaf{f:bh}{n:Nd}{p:Int}:(nZ f n (aa p)).2=aa p:=by
 unfold nZ;split
 .split
  .rfl
  .split
   .exact Pk
   .rfl
 .rfl
def axw{f:bh}{n:Nd}:(nZ f n aj).2=(s8 f n).2/\((s8 f n).2=aj->(nZ f n aj).1=(s8 f n).1):=by
 unfold nZ s8;split
 .split
  .simp
  .split
   .exact Yr
   .simp
 .simp
def jb:Nd:=.mk 0 0 [] [] []
def km(s:bz)(ks:List Nd)(i:Nat):br × Option Int:=s8 (s.bC.getD i .zero) (ks.getD i jb)
def vW(s:bz)(ks:List Nd):bn × Option Int :=
 match (bA s.bC.length).find? λi=>(km s ks i).2.isSome with
 | some i=>(.zero,(km s ks i).2)
 | none=>(bn.of λj=>if j<s.bC.length then(km s ks j).1 else 0#64,aj)
def kB(s:bz)(n:Nd):List Nd:=if s.tuple then n.ak else [n]
def rn(s:bz)(n:Nd):Bool:=!s.tuple||(decide (n.kind=4)&&decide (n.ak.length=s.bC.length))
def gx(s:bz)(n:Nd):bn × Option Int:=if rn s n&&fH s&&n.jl then vW s (kB s n) else(.zero,aa n.pos)
def EH(s:bz)(ks:List Nd)(i:Nat)(x:bn × Option Int):Prop :=
 (x.2=aj/\(∀k,k<i->(km s ks k).2=aj)/\x.1=bn.of λj=>if j<i then(km s ks j).1 else 0#64) \/
 (x.2.isSome=ab/\∃k,k<i/\(km s ks k).2=x.2/\∀j,j<k->(km s ks j).2=aj)
def alg{s:bz}{ks:List Nd}:EH s ks 0 (.zero,aj):=.inl ⟨rfl,λk h=>by omega,bn.axZ⟩
def alf{s:bz}{ks:List Nd}{e:bn}{o:Option Int}(h:EH s ks i (e,o)):
 EH s ks (i+1) (e.put i (nZ (s.bC.getD i .zero) (ks.getD i jb) o).1,(nZ (s.bC.getD i .zero) (ks.getD i jb) o).2):=by
 rcases h with ⟨U,h2,h3⟩ | ⟨U,k,h2,h3,h4⟩
 .simp only at U h3;subst U;subst h3;obtain⟨e1,e2⟩:=@axw (s.bC.getD i .zero) (ks.getD i jb);cases hb:(s8 (s.bC.getD i .zero) (ks.getD i jb)).2 with
  | none =>
   left;refine⟨by simp only;rw[e1,hb],λk hk=>?_,?_⟩
   .rcases Q3.1 hk with h | rfl
    .exact h2 k h
    .exact hb
   .simp only;rw[e2 hb];exact bn.fill (f:=λj=>(km s ks j).1)
  | some p =>
   right;refine⟨by simp only;rw[e1,hb];rfl,i,by omega,by simp only;rw[e1];rfl,h2⟩
 .simp only at U h3;obtain⟨p,rfl⟩:=Eb.1 U;right;exact⟨by simp only;rw[aaf];rfl,k,by omega,by simp only;rw[aaf];exact h3,h4⟩
def ale{s:bz}{ks:List Nd}{x:bn × Option Int}(h:EH s ks s.bC.length x):vW s ks=if x.2.isSome then(.zero,x.2) else(x.1,aj):=by
 rcases h with ⟨U,h2,h3⟩ | ⟨U,k,h2,h3,h4⟩
 .have e:(bA s.bC.length).find? (λi=>(km s ks i).2.isSome)=none:=by
   rw[um];intro i hi;rw[h2 i (by simpa using hi)];simp
  rw[vW,e,U,h3];rfl
 .have e:(bA s.bC.length).find? (λi=>(km s ks i).2.isSome)=aa k:=by
   rw[GM];refine⟨by rw[h3];exact U,bA k,List.range' (k+1) (s.bC.length - (k+1)),?_,λa ha=>by rw[h4 a (by simpa using ha)];rfl⟩;rw[vE,vE,<-D_]
   have:=Q1 (s:=0) (m:=k) (n:=s.bC.length - k) (step:=1)
   simp only[xi,j6] at this;rw[show s.bC.length - (k+1)+1=s.bC.length - k by omega,this];congr 1;omega
  rw[vW,e,aF U];simp only[h3]
mutual
def Nd.cU:Nd->Nat
 | .mk _ _ _ ws ks=>1+ws.length+gU ks
def gU:List Nd->Nat
 | []=>0
 | n::ns=>n.cU+gU ns
end
def Sg:∀a b:List Nd,gU (a++b)=gU a+gU b
 | [],b=>by simp[gU]
 | x::xs,b=>by simp only[il,gU,Sg xs b];omega
def Sk(l:List Nd)(i:Nat):gU (l.take i)<=gU l:=by
 have:=Sg (l.take i) (l.drop i)
 rw[rG] at this;omega
def awU(l:List aA):l.length<=e_ l:=by
 unfold e_;induction l with
 | nil=>simp
 | cons w ws ih=>simp only[cz,py,dm];omega
mutual
def CM:∀n:Nd,n.cU<=n.wt
 | .mk k p t ws ks => by
  have:=Sm ks
  have:=awU ws
  simp only[Nd.cU,Nd.wt];omega
def Sm:∀l:List Nd,gU l<=fV l
 | []=>by simp[gU,fV]
 | n :: ns => by
  have:=CM n
  have:=Sm ns
  simp only[gU,fV];omega
end
structure dJ where
 name:List UInt8
 shape:bz
def dJ.enc(l:dJ):List V:=.aG l.name::l.shape.enc
structure db where
 name:List UInt8
 kind:Int
 lat:Int
def db.enc(v:db):List V:=[.aG v.name,.int .i64 v.kind,.int .i64 v.lat]
structure aH where
 ba:List dJ
 vars:List db
def aH.enc(s:aH):List V:=[.sl .no 3 (s.ba.map dJ.enc),.sl .no 3 (s.vars.map db.enc)]
section
variable {l:dJ} {v:db} {s:aH} {n:Nat} {a b c:V}
theorem aH.dd:s.enc.length=2:=rfl
theorem aH.gN:cW s.enc=true:=rfl
theorem aH.dV:bT s.enc=true:=rfl
theorem aH.dL:bD s.enc=s.enc:=rfl
theorem aH.cP:bR n s.enc=true:=rfl
theorem aH.fN:takeN 2 s.enc=aa s.enc:=rfl
theorem aH.iR:bP ab 2 s.enc=aa (.agg s.enc):=rfl
theorem aH.ib:cw 2 s.enc=true:=rfl
theorem aH.gC:over [a,b] s.enc=s.enc:=rfl
theorem aH.O5:bP ar 1 s.enc=aa (.sl .no 3 (s.ba.map dJ.enc)):=rfl
theorem aH.O7:bP ar 1 (s.enc.drop 1)=aa (.sl .no 3 (s.vars.map db.enc)):=rfl
theorem db.vh:bP ar 1 v.enc=aa (.aG v.name):=rfl
theorem db.O4:bP ar 1 (v.enc.drop 1)=aa (.int .i64 v.kind):=rfl
theorem db.O5:bP ar 1 (v.enc.drop 2)=aa (.int .i64 v.lat):=rfl
theorem dJ.vh:bP ar 1 l.enc=aa (.aG l.name):=rfl
theorem dJ.as6:takeN 2 (l.enc.drop 1)=aa l.shape.enc:=rfl
def aH.al:=af @aH.dd <| af @aH.gN <| af @aH.dV <| af @aH.dL <| af @aH.cP <| af @aH.fN <| af @aH.iR <| af @aH.ib <| af @aH.gC <| af @aH.O5 <| af @aH.O7 <| af @db.vh <| af @db.O4 <| af @db.O5 <| af @dJ.vh @dJ.as6
end
structure bu where
 op:Int
 n:Int
 c:bn
def bu.enc(i:bu):List V:=.int .i64 i.op::.int .i64 i.n::i.c.enc
def bu.zero:bu:=⟨0,0,.zero⟩
def bu.ext'{a b:bu}(U:a.op=b.op)(h2:a.n=b.n)(h3:a.c=b.c):a=b:=by cases a;cases b;simp only at U h2 h3;subst U;subst h2;subst h3;rfl
instance:DecidableEq bu:=λa b=>if h:a.op=b.op/\a.n=b.n/\a.c=b.c then isTrue (bu.ext' h.1 h.2.1 h.2.2) else isFalse λe=>h (e▸⟨rfl,rfl,rfl⟩)
section
variable {i j:bu} {n:Nat} {x y:Int} {e:bn}
def bu.dd:i.enc.length=10:=by simp[bu.enc,bn.dd]
def bu.gN:cW i.enc=true:=by simp[bu.enc,cW,V.one,bn.gN]
def bu.dV:bT i.enc=true:=by simp[bu.enc,bT,V.c9,bn.dV]
def bu.dL:bD i.enc=i.enc:=by simp[bu.enc,bD,V.erase,bn.dL]
def bu.cP:bR n i.enc=true:=by simp[bu.enc,bR,V.lo,bn.cP]
def bu.fN:takeN 10 i.enc=aa i.enc:=by have:=Ap (c:=i.enc);rwa [bu.dd] at this
def bu.iR:bP ab 10 i.enc=aa (.agg i.enc):=by rw[zM,bu.fN];rfl
def bu.ib:cw 10 i.enc=true:=by have:=zj (c:=i.enc);rwa [bu.dd] at this
def bu.gC:over j.enc i.enc=i.enc:=vb (by rw[bu.dd,bu.dd])
theorem bu.r_o:bP ar 1 i.enc=aa (.int .i64 i.op):=rfl
theorem bu.vh:bP ar 1 (i.enc.drop 1)=aa (.int .i64 i.n):=rfl
def bu.asZ:takeN 8 (i.enc.drop 2)=aa i.c.enc:=by show takeN 8 i.c.enc=_;exact bn.fN
def bu.yl:x7=bu.zero.enc:=by
 show V.int .i64 0::V.int .i64 0::CQ=_;rw[bn.yl];rfl
def bu.b_o:over i.enc [.int .i64 x]=(bu.mk x i.n i.c).enc:=by rw[bu.enc,qz,nR];rfl
theorem bu.Ei:cw 1 i.enc=true:=rfl
theorem bu.ab9:cw 1 (i.enc.drop 1)=true:=rfl
def bu.K9:setAt i.enc 1 [.int .i64 x]=(bu.mk i.op x i.c).enc:=by rw[bu.enc,kh,ng,qz,nR];rfl
def bu.ab_:cw 8 (i.enc.drop 2)=true:=by show cw 8 i.c.enc=ab;exact bn.ib
def bu.K8:setAt i.enc 2 e.enc=(bu.mk i.op i.n e).enc:=by rw[bu.enc,kh,kh,ng,bn.gC];rfl
def bu.rq:fZ [1,1,1,1,1,1,1,1,1,1] i.enc j.enc=aa (decide (i=j)):=by
 rw[bu.enc,bu.enc,v7,v7,bn.rq,tA,tA];congr 1;rw[<-yG,<-yG];exact su.2 ⟨λh=>bu.ext' h.1 h.2.1 h.2.2,λh=>h▸⟨rfl,rfl,rfl⟩⟩
def bu.al:=af @bu.dd <| af @bu.gN <| af @bu.dV <| af @bu.dL <| af @bu.cP <| af @bu.fN <| af @bu.iR <| af @bu.ib <| af @bu.gC <| af @bu.r_o <| af @bu.vh <| af @bu.asZ <| af @bu.yl <| af @bu.b_o <| af @bu.Ei <| af @bu.ab9 <| af @bu.K9 <| af @bu.ab_ <| af @bu.K8 @bu.rq
end
def FW(l:List dJ)(t:List UInt8)(i:Nat):Bool:=match l[i]? with | some x=>decide (x.name=t) | none=>ar
def FX(l:List db)(t:List UInt8)(i:Nat):Bool:=match l[i]? with | some x=>decide (x.name=t) | none=>ar
def gV(l:List dJ)(t:List UInt8):Option Nat:=(bA l.length).find? (FW l t)
def jK(l:List db)(t:List UInt8):Option Nat:=(bA l.length).find? (FX l t)
def vt(s:aH)(lat:Nat)(t:List UInt8):Option bu :=
 match jK s.vars t with
 | none=>aj
 | some k => match s.vars[k]? with
  | some v=>if v.kind=1/\v.lat=(lat:Nat) then aa ⟨1,k,.zero⟩ else aj
  | none=>aj
def nV(s:aH)(lat:Nat):bz:=match s.ba[lat]? with | some l=>l.shape | none=>⟨ar,[]⟩
def lG(s:aH)(lat:Nat)(n:Nd):Option bu :=
 if n.kind=1 then vt s lat n.au
 else match (gx (nV s lat) (n.ak.getD 0 jb)).2 with | none=>aa ⟨2,0,(gx (nV s lat) (n.ak.getD 0 jb)).1⟩ | some _=>aj
def lM(n:Nd):bu:=⟨if n.kind=9 then 4 else 3,n.ak.length,.zero⟩
mutual
def lx(s:aH)(lat:Nat):Nd->Option (List bu)
 | .mk k p t ws ks=>if k=1\/k=7 then(lG s lat (.mk k p t ws ks)).map λi=>[i] else(mB s lat ks).map λl=>l++[lM (.mk k p t ws ks)]
def mB(s:aH)(lat:Nat):List Nd->Option (List bu)
 | []=>aa []
 | n::ns=>match lx s lat n with | none=>aj | some l=>(mB s lat ns).map λm=>l++m
end
variable{lat:Nat}
def Hs{s:aH}(n:Nd):lx s lat n=if n.kind=1\/n.kind=7 then(lG s lat n).map λi=>[i] else(mB s lat n.ak).map λl=>l++[lM n]:=by
 cases n;rw[lx];rfl
def mC(s:aH)(lat:Int)(n:Nd):Option (List bu):=if 0<=lat/\lat<s.ba.length/\n.eP=ab then lx s lat.toNat n else aj
def B6(s:aH)(lat:Nat)(f:Nd × Nat):Option (List bu) :=
 if f.1.kind=1\/f.1.kind=7 then(lG s lat f.1).map λi=>[i] else(mB s lat (f.1.ak.drop f.2)).map λl=>l++[lM f.1]
def X5{s:aH}{n:Nd}:B6 s lat (n,0)=lx s lat n:=by rw[B6,Hs];simp
def tD(s:aH)(lat:Nat):List (Nd × Nat)->List bu->Option (List bu)
 | [],out=>aa out
 | f::fs,out=>match B6 s lat f with | none=>aj | some l=>tD s lat fs (out++l)
variable{d:Nat}
def atm{s:aH}{n:Nd}{fs:List (Nd × Nat)}{out:List bu}(h:¬(n.kind=1\/n.kind=7))(hd:d<n.ak.length):
 tD s lat ((n,d)::fs) out=tD s lat ((n.ak[d],0)::(n,d+1)::fs) out:=by
 simp only[tD,X5];rw[B6,aB h,B6,aB h,nr hd,mB];cases lx s lat n.ak[d] with
 | none=>rfl
 | some l =>
  cases mB s lat (n.ak.drop (d+1)) with
  | none=>rfl
  | some m=>simp only[uu,eN]
def atl{s:aH}{n:Nd}{fs:List (Nd × Nat)}{out:List bu}(h:¬(n.kind=1\/n.kind=7))(hd:n.ak.length<=d):
 tD s lat ((n,d)::fs) out=tD s lat fs (out++[lM n]):=by
 simp only[tD];rw[B6,aB h,QP hd,mB];rfl
def atn{s:aH}{n:Nd}{fs:List (Nd × Nat)}{out:List bu}(h:n.kind=1\/n.kind=7):
 tD s lat ((n,d)::fs) out=match lG s lat n with | none=>aj | some i=>tD s lat fs (out++[i]):=by
 simp only[tD];rw[B6,aF h];cases lG s lat n<;>rfl
def rf:List (Nd × Nat)->Nat
 | []=>0
 | f::fs=>2*gU (f.1.ak.drop f.2)+1+rf fs
def Nd.uC(n:Nd):1+gU n.ak<=n.cU:=by cases n;simp only[Nd.cU,Nd.ak];omega
def Ww{n:Nd}{fs:List (Nd × Nat)}(hd:d<n.ak.length):rf ((n.ak[d],0)::(n,d+1)::fs)<rf ((n,d)::fs):=by
 simp only[rf,Kv]
 have:=Nd.uC n.ak[d]
 rw[nr hd,gU];omega
mutual
def So{s:aH}{lat:Nat}:∀(n:Nd) {l:List bu},lx s lat n=aa l->l.length<=n.cU
 | .mk k p t ws ks, l, h => by
  rw[lx] at h;split at h
  .simp only[dn] at h;obtain⟨i,_,rfl⟩:=h;simp only[Nd.cU,dm,dQ];omega
  .simp only[dn] at h;obtain⟨m,hm,rfl⟩:=h
   have:=Sp ks hm
   simp only[Nd.cU,bM,dm,dQ];omega
def Sp{s:aH}{lat:Nat}:∀(ks:List Nd) {l:List bu},mB s lat ks=aa l->l.length<=gU ks
 | [],l,h=>by rw[mB] at h;cases h;simp
 | n :: ns, l, h => by
  rw[mB] at h;cases hn:lx s lat n with
  | none=>rw[hn] at h;simp at h
  | some a =>
   rw[hn] at h;simp only[dn] at h;obtain⟨b,hb,rfl⟩:=h
   have:=So n hn
   have:=Sp ns hb
   simp only[gU,bM];omega
end
def Ep(n:Nd):n.an.length<=n.cU:=by cases n;simp only[Nd.cU,Nd.an];omega
def Si{m:Nd}:∀{l:List Nd},m∈l->m.cU<=gU l
 | [],h=>by simp at h
 | n :: l, h => by
  simp only[gU]
  rcases lq.1 h with rfl | h
  .omega
  .have:=Si h;omega
def so{n m:Nd}(h:m∈n.ak):m.cU<n.cU:=by
 have:=Si h
 have:=Nd.uC n;omega
def Lm:∀(l:List Nd),l.length<=gU l
 | []=>by simp
 | n :: l => by
  have:=Lm l
  have:=Nd.uC n
  simp only[gU,dm];omega
def A3(n:Nd):n.ak.length<=n.cU:=by
 have:=Lm n.ak
 have:=Nd.uC n;omega
def aH.ok(s:aH):Prop:=s.ba.length<=100000/\s.vars.length<=100000/\∀l∈s.ba,l.shape.ok
def VE{n:Nd}(h:n.eP=ab)(U:¬(n.kind=1\/n.kind=7)):∀m∈n.ak,m.eP=true:=by
 rw[Nd.sR,aB (λe=>U (.inl e)),aB (λe=>U (.inr e))] at h;split at h
 .simp only[bg,eM] at h;exact h.2
 .simp at h
def zK{n:Nd}(h:n.eP=ab)(U:n.kind=7):n.ak.length=1:=by
 rw[Nd.sR,aB (by rw[U];decide),aF U] at h;simp only[bg,bQ] at h;omega
def adW(s:aH)(lat:Int)(n:Nd):((mC s lat n).getD []).length<=n.cU:=by
 cases h:mC s lat n with
 | none=>simp
 | some l =>
  rw[mC] at h;split at h
  .exact So n h
  .simp at h
def rK:List bu->Nat->Option Nat
 | [],d=>aa d
 | i::l,d=>if i.op=1\/i.op=2 then rK l (d+1) else if i.op=3\/i.op=4 then(if i.n<1\/(d:Nat)<i.n then aj else rK l (d - (i.n.toNat - 1))) else aj
def ym(l:List bu):Bool:=decide (rK l 0=aa 1)
def ayh(s:bz)(op:Int)(a b:bn):bn:=if op=3 then ang s a b else apn a b
structure aY where
 cls:Int
 aE:Int
def aY.zero:aY:=⟨0,0⟩
def aY.ext'{a b:aY}(h:a.cls=b.cls)(k:a.aE=b.aE):a=b:=by cases a;cases b;simp only at h k;subst h;subst k;rfl
instance:DecidableEq aY:=λa b=>if h:a.cls=b.cls/\a.aE=b.aE then isTrue (aY.ext' h.1 h.2) else isFalse λe=>h ⟨e▸rfl,e▸rfl⟩
def aY.enc(f:aY):List V:=[.int .i64 f.cls,.int .i64 f.aE]
section
variable {f g:aY} {n:Nat} {a b:V}
theorem aY.dd:f.enc.length=2:=rfl
theorem aY.gN:cW f.enc=true:=rfl
theorem aY.dV:bT f.enc=true:=rfl
theorem aY.dL:bD f.enc=f.enc:=rfl
theorem aY.cP:bR n f.enc=true:=rfl
theorem aY.fN:takeN 2 f.enc=aa f.enc:=rfl
theorem aY.iR:bP ab 2 f.enc=aa (.agg f.enc):=rfl
theorem aY.ib:cw 2 f.enc=true:=rfl
theorem aY.gC:over g.enc f.enc=f.enc:=rfl
theorem aY.as3:over [a,b] f.enc=f.enc:=rfl
theorem aY.O3:bP ar 1 f.enc=aa (.int .i64 f.cls):=rfl
theorem aY.r_p:bP ar 1 (f.enc.drop 1)=aa (.int .i64 f.aE):=rfl
def aY.rq:fZ [1,1] f.enc g.enc=aa (decide (f=g)):=by
 rw[aY.enc,aY.enc,v7,v7,LG,tA,tA];congr 1;rw[rC,<-yG];exact su.2 ⟨λh=>aY.ext' h.1 h.2,λh=>h▸⟨rfl,rfl⟩⟩
def aY.al:=af @aY.dd <| af @aY.gN <| af @aY.dV <| af @aY.dL <| af @aY.cP <| af @aY.fN <| af @aY.iR <| af @aY.ib <| af @aY.gC <| af @aY.as3 <| af @aY.O3 <| af @aY.r_p @aY.rq
end
def wL(y2 f:aY):Bool:=decide (y2.cls=0)||decide (f.cls<y2.cls)||(decide (f.cls=y2.cls)&&decide (f.aE<y2.aE))
def lY(y2 f:aY):aY:=if f.cls=0 then y2 else if wL y2 f then f else y2
def hD(l:List aY):aY:=l.foldl lY .zero
def uX(a b:aY):Prop:=a.cls<b.cls\/(a.cls=b.cls/\a.aE<=b.aE)
def IY(a:aY):uX a a:=.inr ⟨rfl,Kr _⟩
def VP{a b c:aY}(h:uX a b)(k:uX b c):uX a c:=by unfold uX at *;omega
def N5:∀(l:List aY) (o:aY),(l.foldl lY o=o\/(l.foldl lY o∈l/\(l.foldl lY o).cls≠0))/\(o.cls≠0->(l.foldl lY o).cls≠0/\uX (l.foldl lY o) o)/\∀f∈l,f.cls≠0->(l.foldl lY o).cls≠0/\uX (l.foldl lY o) f
 | [],o=>⟨.inl rfl,λh=>⟨h,IY o⟩,by simp⟩
 | f :: l, o => by
  obtain⟨U,h2,h3⟩:=N5 l (lY o f);rw[yO];have hb:lY o f=o\/(lY o f=f/\f.cls≠0):=by
   unfold lY
   by_cases h:f.cls=0
   .rw[aF h];exact .inl rfl
   .rw[aB h];split
    .exact .inr ⟨rfl,h⟩
    .exact .inl rfl
  have ho:o.cls≠0->(lY o f).cls≠0/\uX (lY o f) o:=λh=>by
   unfold lY
   by_cases hf:f.cls=0
   .rw[aF hf];exact⟨h,IY o⟩
   .rw[aB hf];split
    .rename_i hl;refine⟨hf,?_⟩;simp only[wL,j1,bg,bQ] at hl;unfold uX;omega
    .exact⟨h,IY o⟩
  have hf:f.cls≠0->(lY o f).cls≠0/\uX (lY o f) f:=λh=>by
   unfold lY;rw[aB h];split
   .exact⟨h,IY f⟩
   .rename_i hl;simp only[wL,j1,bg,bQ] at hl;unfold uX;exact⟨by omega,by omega⟩
  refine⟨?_,λh=>?_,λg hg hc=>?_⟩
  .rcases U with U | ⟨U,xF⟩
   .rw[U]
    rcases hb with hb | ⟨hb,cC⟩
    .exact .inl hb
    .rw[hb];exact .inr ⟨by simp,cC⟩
   .exact .inr ⟨by simp[U],xF⟩
  .obtain⟨k1,k2⟩:=ho h;obtain⟨k3,k4⟩:=h2 k1;exact⟨k3,VP k4 k2⟩
  .rcases lq.1 hg with rfl | hg
   .obtain⟨k1,k2⟩:=hf hc;obtain⟨k3,k4⟩:=h2 k1;exact⟨k3,VP k4 k2⟩
   .exact h3 g hg hc
def I1{a:List aY}(h:(hD a).cls=0):hD a = .zero/\∀f∈a,f.cls=0:=by
 obtain⟨a1,_,a3⟩:=N5 a .zero;refine⟨?_,λf hf=>Classical.byContradiction λhc=>(a3 f hf hc).1 h⟩
 rcases a1 with e | ⟨_,e⟩
 .exact e
 .exact absurd h e
def VX{a:List aY}(h:∀f∈a,f.cls=0):hD a = .zero:=by
 rcases(N5 a .zero).1 with e | ⟨e,e'⟩
 .exact e
 .exact absurd (h _ e) e'
def aoe{l:List aY}(hi:i<l.length):hD (l.take (i+1))=lY (hD (l.take i)) l[i]:=by
 rw[hD,iG hi,yN];rfl
def Tj{l:List db}{t:List UInt8}(h:jK l t=aa k):k<l.length:=by
 unfold jK at h;simpa using KF h
def anH{k p:Int}{t:List UInt8}{ws:List aA}{ks:List Nd}(h:(Nd.mk k p t ws ks).eP=ab)(tE:¬(k=1\/k=7)):0<ks.length/\∀x∈ks,x.eP=true:=by
 rw[Nd.sR,aB (show ¬(Nd.mk k p t ws ks).kind=1 from λe=>tE (.inl e)),aB (show ¬(Nd.mk k p t ws ks).kind=7 from λe=>tE (.inr e))] at h;split at h
 .simp only[bg,eM,Nd.ak] at h;have h2:(0:Int)<(ks.length:Nat):=Dv h.1.2;exact⟨by omega,h.2⟩
 .simp at h
def aoc{s:aH}{n:Nd}{i:bu}(h:lG s lat n=aa i):(n.kind=1/\∃k,jK s.vars n.au=aa k/\i=⟨1,(k:Nat),.zero⟩)\/(n.kind≠1/\(gx (nV s lat) (n.ak.getD 0 jb)).2=aj/\i=⟨2,0,(gx (nV s lat) (n.ak.getD 0 jb)).1⟩):=by
 unfold lG at h;split at h
 .rename_i U;left;refine⟨U,?_⟩;unfold vt at h;split at h
  .simp at h
  .rename_i k hk;split at h
   .split at h
    .simp only[bc] at h;exact⟨k,hk,h.symm⟩
    .simp at h
   .simp at h
 .rename_i U;right;split at h
  .rename_i h2;simp only[bc] at h;exact⟨U,h2,h.symm⟩
  .simp at h
section
variable {s:aH} {lat:Nat}
mutual
def SJ:∀(n:Nd) {l rest:List bu} {d:Nat},n.eP=ab->lx s lat n=aa l->rK (l++rest) d=rK rest (d+1)
 | .mk k p t ws ks, l, rest, d, hq, h => by
  rw[lx] at h;split at h
  .simp only[dn] at h;obtain⟨i,hi,rfl⟩:=h
   have:i.op=1\/i.op=2:=by
    rcases aoc hi with ⟨_,k,_,rfl⟩ | ⟨_,_,rfl⟩
    .exact .inl rfl
    .exact .inr rfl
   rw[mr,rK,aF this]
  .rename_i tE;simp only[dn] at h;obtain⟨m,hm,rfl⟩:=h;obtain⟨h0,dq⟩:=anH hq tE;rw[eN,SK ks dq hm,mr,rK];have e1:¬((lM (Nd.mk k p t ws ks)).op=1\/(lM (Nd.mk k p t ws ks)).op=2):=by
    simp only[lM];split<;>simp
   have e2:(lM (Nd.mk k p t ws ks)).op=3\/(lM (Nd.mk k p t ws ks)).op=4:=by
    simp only[lM];split<;>simp
   have e3:(lM (Nd.mk k p t ws ks)).n=(ks.length:Nat):=rfl;rw[aB e1,aF e2,e3,aB (by omega),gi,show d+ks.length - (ks.length - 1)=d+1 by omega]
def SK:∀(ks:List Nd) {l rest:List bu} {d:Nat},(∀x∈ks,x.eP=ab)->mB s lat ks=aa l->rK (l++rest) d=rK rest (d+ks.length)
 | [],l,rest,d,_,h=>by rw[mB] at h;cases h;rfl
 | n :: ns, l, rest, d, hq, h => by
  rw[mB] at h;cases hn:lx s lat n with
  | none=>rw[hn] at h;simp at h
  | some a =>
   rw[hn] at h;simp only[dn] at h;obtain⟨b,hb,rfl⟩:=h;rw[eN,SJ n (hq n (by simp)) hn,SK ns (λx hx=>hq x (by simp[hx])) hb,dm,show d+1+ns.length=d+(ns.length+1) by omega]
end
def atw{n:Nd}{l:List bu}(hq:n.eP=ab)(h:lx s lat n=aa l):ym l=true:=by
 have:=SJ n (rest:=[]) (d:=0) hq h
 rw[eD] at this;rw[ym,this];rfl
variable {v:List bn}
end
end Go.Am
namespace Go.Am
section
variable {r:Rl}
variable{i j:Nat}
def ach(ho:rl r=ab)(hi:i<bd r)(hj:j<bd r)(h:mz r i=mz r j):i=j:=by
 simp only[rl,bg] at ho;have hr:=(Eo.1 ho.1).1;have e:∀k,bx r k i=bx r k j:=λk=>by rw[<-Hl,h,Hl]
 exact KZ.1 ho.2 i j (by rw[<-e];exact hr i hi) (by rw[e];exact hr j hj)
variable{w:br}
def asd(h:vf r w=aa i):i<bd r/\w=mz r i:=by
 unfold vf at h;have U:=List.find?_some h;exact⟨mq.1 (KF h),(Dv U).symm⟩
def asc(ho:rl r=ab)(hi:i<bd r):vf r (mz r i)=aa i:=by
 cases hq:vf r (mz r i) with
 | none =>
  rw[vf,um] at hq;exact absurd (aK rfl) (hq i (mq.2 hi))
 | some m =>
  obtain⟨h2,U⟩:=asd hq;rw[ach ho h2 hi U.symm]
end
section
variable {r:Rl} {a b c w:br}
def aok{n:Nat}:(zO n w).isSome=ab↔n<=64/\∃k,k<n/\fY (k:Nat)=w:=by
 unfold zO;split
 .rename_i h;rw[LP];simp[h]
 .rename_i h;simp[h]
def Li(hg:gW r=ab):lv r w=w↔(∀k,w.getLsbD k=ab->k / 8<bd r/\k % 8<bd r)/\∀k p y,bx r (k / 8) p=ab->bx r (k % 8) y=ab->w.getLsbD (8*p+y)=ab->w.getLsbD k=true:=by
 obtain⟨n,hn,hp,U,h8⟩:=xE hg;have gI:qO r=true:=by simp only[gW,bg] at hg;exact hg.2
 have hr:=(Eo.1 gI).1;constructor
 .intro h;refine⟨λk hk=>?_,λk p y e1 e2 e3=>?_⟩
  .rw[<-h] at hk;have aD:k<64:=KN λhc=>by rw[vz _ _ hc] at hk;simp at hk
   obtain⟨_,p,y,a,b,_⟩:=(A2 aD).1 hk;exact⟨(i_ a).1,(i_ b).1⟩
  .have:=i_ e1;have:=i_ e2
   rw[<-h];exact(A2 (by omega)).2 ⟨hg,p,y,e1,e2,e3⟩
 .rintro⟨h2,h3⟩;apply mF;intro k hk;rw[rD,A2 hk];constructor
  .rintro⟨_,p,y,a,b,c⟩;exact h3 k p y a b c
  .intro h;obtain⟨a,b⟩:=h2 k h;exact⟨hg,k / 8,k % 8,hr _ a,hr _ b,by rw[show 8*(k / 8)+k % 8=k by omega];exact h⟩
def adG(hg:gW r=ab)(ha:lv r a=a)(hb:lv r b=b):lv r (a|||b)=a|||b:=by
 rw[Li hg] at ha hb ⊢;simp only[Kk,j1];exact⟨λk hk=>hk.elim (ha.1 k) (hb.1 k),λk p y e1 e2 e3=>e3.imp (ha.2 k p y e1 e2) (hb.2 k p y e1 e2)⟩
def adF(hg:gW r=ab):lv r (lv r w)=lv r w:=by
 have gI:qO r=true:=by simp only[gW,bg] at hg;exact hg.2
 obtain⟨n,hn,hp,U,h8⟩:=xE hg;have tr:=(Eo.1 gI).2;refine(Li hg).2 ⟨λk hk=>?_,λk p y e1 e2 e3=>?_⟩
 .have aD:k<64:=KN λhc=>by rw[vz _ _ hc] at hk;simp at hk
  obtain⟨_,p,y,a,b,_⟩:=(A2 aD).1 hk;exact⟨(i_ a).1,(i_ b).1⟩
 .have l1:=i_ e1;have l2:=i_ e2;obtain⟨_,q,z,a,b,c⟩:=(A2 (by omega)).1 e3;rw[show(8*p+y) / 8=p by omega] at a;rw[show(8*p+y) % 8=y by omega] at b;exact(A2 (by omega)).2 ⟨hg,q,z,tr _ _ _ e1 a,tr _ _ _ e2 b,c⟩
def R8(hg:gW r=ab):lv r 0#64=0#64:=(Li hg).2 ⟨by simp,by simp⟩
variable{o:Nat}
def atX{d:br}(hg:gW r=ab):lv r (yo r o d)=yo r o d:=by
 unfold yo;split
 .exact adF hg
 .exact R8 hg
end
def agh{f:bh}(h:gl f=ab):f.an.length<=64/\(f.kind=1\/f.kind=2\/(f.kind=3/\gW f.rel=ab/\f.rel.n=f.an.length)\/(f.kind=4/\jN f.rel=ab/\f.rel.n=f.an.length)):=by
 simp only[gl,kz,bg,bQ] at h;refine⟨h.1.1.1.2,?_⟩;have h2:=h.2;split at h2
 .rename_i e;exact e.elim .inl λe=>.inr (.inl e)
 .split at h2
  .rename_i e;simp only[bg,bQ] at h2;exact .inr (.inr (.inl ⟨e,h2.2,h2.1⟩))
  .split at h2
   .rename_i e;simp only[bg,bQ] at h2;exact .inr (.inr (.inr ⟨e,h2.2,h2.1⟩))
   .simp at h2
def anR{r:Rl}(h:jN r=ab):bd r=r.n.toNat/\rl r=true:=by
 simp only[jN,bg,bQ] at h;exact⟨by rw[bd];omega,h.1.2⟩
section
variable {f:bh} {a b c:br}
def Xz{l:List (List UInt8)}{m:br}(hl:l.length<=64):∀{ws:List aA} {s:br},pP s (fY (l.length:Nat))=ab->(ia l s ws).2=aj->pP (ia l s ws).1 (fY (l.length:Nat))=ab
 | [],s,h,_=>h
 | w :: ws, s, h, h2 => by
  simp only[ia] at h2 ⊢;split
  .rename_i hf;rw[hf] at h2;simp at h2
  .rename_i k hf;rw[hf] at h2;refine Xz (m:=m) hl ?_ h2
   have:=(uG hf).1
   rw[Gm] at h ⊢;intro i hi;rw[Gz,j1] at hi
   rcases hi with hi | hi
   .exact h i hi
   .simp only[bg,bQ] at hi;rw[xr];simp only[bg,bQ];omega
def Ys(hg:gW f.rel=ab):∀{ks:List Nd} {s:br},lv f.rel s=s->(rZ f s ks).2=aj->lv f.rel (rZ f s ks).1=(rZ f s ks).1
 | [],s,h,_=>h
 | k :: ks, s, h, h2 => by
  simp only[rZ] at h2 ⊢;split
  .rename_i hf;rw[hf] at h2;simp at h2
  .rename_i o hf;rw[hf] at h2;simp only at h2;split
   .rename_i p hp;rw[hp] at h2;simp at h2
   .rename_i hp;rw[hp] at h2;exact Ys hg (adG hg h (atX hg)) h2
def awY(hf:gl f=ab){n:Nd}(h:(s8 f n).2=aj):s7 f (s8 f n).1=true:=by
 obtain⟨hn,hk⟩:=agh hf;unfold s8 at h ⊢;split at h
 case isFalse=>simp at h
 rename_i ame;rw[aF ame]
 rcases hk with hk | hk | ⟨hk,hg,_⟩ | ⟨hk,hl,nG⟩
 .simp only[s7,hk,Int.reduceEq,cF,cM] at h ⊢;unfold pH at h ⊢;split at h
  .simp at h
  .rename_i k hf;have qV:=(uG hf).1;rw[aok];refine⟨hn,k,qV,?_⟩;simp only[hk,Int.reduceEq,cF,pM];rw[aF ⟨by omega,by omega,by omega,by omega⟩]
 .simp only[s7,hk,Int.reduceEq,cF,cM] at h ⊢;exact Xz (m:=0#64) hn (by rw[Gm];simp) h
 .simp only[s7,hk,Int.reduceEq,cF,cM,bQ] at h ⊢;exact Ys hg (R8 hg) h
 .simp only[s7,hk,Int.reduceEq,cF] at h ⊢;unfold pH at h ⊢;split at h
  .simp at h
  .rename_i k hf;have qV:=(uG hf).1;obtain⟨hp,ho⟩:=anR hl;simp only[hk,cM];rw[asc ho (by omega)];rfl
end
section
variable {s:bz} {a b c e:bn}
def agQ:sB s e=ab↔fH s=ab/\∀i,i<8->xC s e i=true:=by
 simp only[sB,bg,eM,mq]
variable{i:Nat}
def auY(h:fH s=ab){f:bh}(hf:s.bC[i]?=aa f):gl f=true:=by
 simp only[fH,bg,eM] at h;exact h.2 f (rF hf)
def Tp{n:Nd}(h:(gx s n).2=aj):sB s (gx s n).1=true:=by
 unfold gx at h ⊢;split at h
 case isFalse=>simp at h
 rename_i hq;rw[aF hq];simp only[bg] at hq;unfold vW at h ⊢;split at h
 .rename_i i hi
  have:=(uG hi).2.1
  simp only at h;rw[h] at this;simp at this
 .rename_i hn;rw[agQ];refine⟨hq.1.2,λi hi=>?_⟩;simp only[xC];rw[bn.nz hi];have hw:∀k,k<s.bC.length->(km s (kB s n) k).2=none:=λk hk=>by
   have:=um.1 hn k (by simpa using hk)
   simpa using this
  cases hf:s.bC[i]? with
  | none =>
   have:s.bC.length<=i:=by simpa using hf
   simp[show ¬i<s.bC.length by omega]
  | some f =>
   have aD:i<s.bC.length:=by
    rcases vF i s.bC.length with h | h
    .exact h
    .rw[xe h] at hf;simp at hf
   simp only[aD,cM];have e:=hw i aD;have ef:s.bC.getD i .zero=f:=by simp[fW,hf]
   rw[km,ef] at e ⊢;exact awY (auY hq.1.2 hf) e
end
structure Wht where
 lat:Int
 v:List bn
 w:List bn
end Go.Am
