/-
  Part 3 of the proof of StackFramesUptoCardSaid: a logic over the model, the forms of the functions that the law reaches, and what they compute.
-/
import Derived.IntWalk
import Derived.Test.YtnpggmhoandloaaGreatDoorFrames2
set_option linter.unusedVariables false
set_option linter.unusedSimpArgs false
set_option linter.defProp false
set_option linter.unusedSectionVars false
set_option maxRecDepth 4000
set_option maxHeartbeats 4000000
open Option renaming some->aa,none->ag
open Bool renaming true->ab,false->ak
open List renaming replicate->ar,range->bX,getD->ij,zipWith->l8
open Eq renaming mpr->eU
open Ne renaming symm->fF
namespace Go.Am
section
variable {P:Program} {d:Option Nat} {r:List AO} {K:St->Prop} {t:List V} {l:List (List V)} {D:af} {x y z:X} {Q:Exit->St->Prop} {st:St} {a b:AC}
theorem auM:vc P .skip Q st=Q .normal st:=rfl
theorem auI{o:List AO}:vc P (.FJ o) Q st=b7 P o (Q .normal) st:=rfl
theorem auN:vc P (.qf a) Q st=bm st (vc P a Q):=rfl
theorem auE{o:List (AO × List Nat)}:vc P (.draw o) Q ⟨t,l,D⟩=cy P o [(l,D)] [] (Q .normal) ⟨t,l,D⟩:=rfl
theorem auL:vc P (.seq a b) Q st=vc P a (DC (vc P b Q) Q) st:=rfl
def Ds(P:Program)(v:V)(a b:AC)(Q:Exit->St->Prop)(st:St):Prop:=match v with | .bool c=>(c=ab->vc P a Q st)/\(c=ak->vc P b Q st) | _=>False
theorem auC:vc P (.cond x a b) Q st=Ds P (ev st x) a b Q st:=rfl
def auA:Ds P (.bool ab) a b Q st=vc P a Q st:=by simp[Ds]
def auz:Ds P (.bool ak) a b Q st=vc P b Q st:=by simp[Ds]
def eR{c:Bool}(h1:c=ab->vc P a Q st)(h2:c=ak->vc P b Q st):Ds P (.bool c) a b Q st:=⟨h1,h2⟩
variable{out:Nat}
def Pk{l:List AO}{x:X}{dI dN dM nxt:Nat}{y:AC}(h:b7 P l (λnU=>∃s:List UInt8,ev nU x = .aF s/\(∀c∈s,c.toNat<128)/\∃I:Nat->Nat->St->Prop,
 (∀b,bm (nU.put (aa dI) (.raw (.pointer (aa ⟨b,0,ag⟩)))) (I b 0)) /\
 (∀b i aM,I b i aM -> aM.t.getD dI .any = .raw (.pointer (aa ⟨b,0,ag⟩))/\dN<aM.t.length/\dM<aM.t.length) /\
 (∀b i c aM,s[i]?=aa c->I b i aM -> vc P y (sN nxt (yl out (I b (i+1)) Q)) ((aM.put (aa dN) (.bt [.bool ab,.int .i64 (i:Nat),.int .i32 (c.toNat:Nat)])).put (aa dM) (.bool ab))) /\
 (∀b aM,I b s.length aM -> Q .normal ((aM.put (aa dN) (.bt [.bool ak])).put (aa dM) (.bool ak)))) st):vc P (.De l x dI dN dM out nxt y) Q st:=h
variable{J:St->Prop}
theorem aru:yl out J Q .normal st=bm st J:=rfl
theorem art{id:Nat}:yl out J Q (.exit id) st=if id=out then Q .normal st else Q (.exit id) st:=rfl
theorem arv:yl out J Q .ret st=Q .ret st:=rfl
theorem auK:vc P (.scope a) Q st=vc P a (BV Q) st:=rfl
theorem aop:BV Q .normal st=Q .normal st:=rfl
theorem aoo{id:Nat}:BV Q (.exit id) st=Q (.exit id) st:=rfl
theorem aoq:BV Q .ret st=Q .ret st:=rfl
theorem auB{id:Nat}:vc P (.block id a) Q st=vc P a (sN id Q) st:=rfl
theorem auG{id:Nat}:vc P (.exit id) Q st=Q (.exit id) st:=rfl
theorem auJ:vc P .ret Q st=Q .ret st:=rfl
theorem aaO:DC K Q .normal st=K st:=rfl
theorem aaN{id:Nat}:DC K Q (.exit id) st=Q (.exit id) st:=rfl
theorem aaP:DC K Q .ret st=Q .ret st:=rfl
theorem abm{id:Nat}:sN id Q .normal st=Q .normal st:=rfl
theorem abn{id:Nat}:sN id Q .ret st=Q .ret st:=rfl
theorem abl{id AV : Nat}:sN id Q (.exit AV) st=if AV = id then Q .normal st else Q (.exit AV) st:=rfl
variable{ι:Type}
theorem anz{I:ι->St}{μ:ι->Nat}{n id:Nat}:zR I μ Q n (.exit id) st=Q (.exit id) st:=rfl
theorem anB{I:ι->St}{μ:ι->Nat}{n:Nat}:zR I μ Q n .ret st=Q .ret st:=rfl
theorem anA{I:ι->St}{μ:ι->Nat}{n:Nat}:zR I μ Q n .normal st=bm st λaM => ∃j,aM = I j/\μ j<n:=rfl
def gn(I:ι->St)(μ:ι->Nat)(h0:bm st λaM => ∃i,aM = I i)(h:∀i,vc P a (zR I μ Q (μ i)) (I i)):vc P (.loop a) Q st:=⟨ι,I,μ,h0,h⟩
variable{R':V->af->Prop}{rs:List RV}
theorem arV:DU rs R' .ret st=opt ((uR st rs).map uJ) (n8 R' st):=rfl
theorem arU:DU rs R' .normal st=opt ((uR st rs).map uJ) (n8 R' st):=rfl
variable{v:V}
theorem apR{K:V->Prop}:opt (aa v) K=K v:=rfl
theorem asA:uR st []=aa []:=rfl
def RK(v:Option V)(l:Option (List V)):Option (List V):=v.bind λx=>l.map (x::·)
theorem acL{l:List V}:RK (aa v) (aa l)=aa (v::l):=rfl
theorem asz{y:RV}:uR st (y::rs)=RK (rv st y) (uR st rs):=rfl
theorem asy{n:Nat}:rv ⟨t,l,D⟩ (.tmp n)=aa (t.getD n .any):=rfl
variable{g:Bool}
theorem asx{n m:Nat}:rv ⟨t,l,D⟩ (.cell n g m)=lO ⟨t,l,D⟩ g m (t.getD n .any):=rfl
theorem apx:uJ [v]=v:=rfl
theorem apw:uJ [] = .bt []:=rfl
theorem apv{u v:V}{l:List V}:uJ (u::v::l) = .bt (u::v::l):=rfl
theorem anV{v:List V}{f:List V->V}:Option.map f (aa v)=aa (f v):=rfl
variable{σ':af}
def aL(h1:v.cY=ab)(h2:σ'.sub D)(h3:R' v.erase σ'):n8 R' ⟨t,l,D⟩ v:=⟨h1,σ',_,h2,.inl rfl,h3⟩
def arT(h1:v.cY=ab)(h2:σ'.sub D)(h3:R' v σ'):n8 R' ⟨t,l,D⟩ v:=⟨h1,σ',_,h2,.inr rfl,h3⟩
def aH{w:V}(h:v.erase=w)(h1:v.cY=true:=by rfl):n8 (λv σ' => v=w/\σ' = D) ⟨t,l,D⟩ v:=aL h1 (af.bg _) ⟨h,rfl⟩
theorem ae4{n:Nat}:ev ⟨t,l,D⟩ (.s n)=t.getD n .any:=rfl
theorem ae2:ev st (.c v)=v:=rfl
theorem ae6:di st []=[]:=rfl
theorem ae5{xs:List X}:di st (x::xs)=ev st x::di st xs:=rfl
theorem ajU{w:V}:(v::t).getD 0 w=v:=rfl
theorem ajT{w:V}{n:Nat}:(v::t).getD (n+1) w=t.getD n w:=rfl
theorem as6{w:V}:(v::t).set 0 w=w::t:=rfl
theorem as4{w:V}{n:Nat}:(v::t).set (n+1) w=v::t.set n w:=rfl
theorem ara{n:Nat}:St.put ⟨t,l,D⟩ (aa n) v=⟨t.set n v,l,D⟩:=rfl
theorem aq':St.put st ag v=st:=rfl
theorem apd:b7 P [] K st=K st:=rfl
def kL(P:Program)(d:Option Nat)(r:List AO)(K:St->Prop)(st:St)(v:V):Prop:=b7 P r K (st.put d v)
theorem al1:kL P d r K ⟨t,l,D⟩ v=b7 P r K (St.put ⟨t,l,D⟩ d v):=rfl
def qK(o:Option V)(K:V->Prop):Prop:=match o with | some v=>K v | none=>False
theorem apO{K:V->Prop}:qK (aa v) K=K v:=rfl
theorem apc:b7 P (⟨d,.mv x,ag⟩::r) K st=b7 P r K (st.put d (ev st x)):=rfl
def uN(P:Program)(v a b:V)(d:Option Nat)(r:List AO)(K:St->Prop)(st:St):Prop:=match v with | .bool ab=>b7 P r K (st.put d a) | .bool ak=>b7 P r K (st.put d b) | _=>False
def aph:b7 P (⟨d,.pick x y z,ag⟩::r) K st=uN P (ev st x) (ev st y) (ev st z) d r K st:=by
 simp only[b7,aO.bh,uN];cases ev st x<;>first | rfl | (rename_i b;cases b<;>rfl)
theorem aqF{u:V}:uN P (.bool ab) u v d r K st=b7 P r K (st.put d u):=rfl
theorem aqD{u:V}:uN P (.bool ak) u v d r K st=b7 P r K (st.put d v):=rfl
def aqE{b c:Bool}:uN P (.bool b) (.bool c) (.bool ak) d r K st=b7 P r K (st.put d (.bool (b&&c))):=by cases b<;>simp[uN]
def aqG{b c:Bool}:uN P (.bool b) (.bool ab) (.bool c) d r K st=b7 P r K (st.put d (.bool (b||c))):=by cases b<;>simp[uN]
variable{c:List V}
theorem aoL:b7 P (⟨d,.alloc c,ag⟩::r) K ⟨t,l,D⟩=b7 P r K (St.put ⟨t,l++[c],D⟩ d (.ptr (.aD l.length) 0)):=rfl
theorem aoS{n:Nat}:b7 P (⟨d,.box n x,ag⟩::r) K ⟨t,l,D⟩=((ev ⟨t,l,D⟩ x).wd=aa n/\b7 P r K (St.put ⟨t,l++[(ev ⟨t,l,D⟩ x).cells],D⟩ d (.ptr (.aD l.length) 0))):=rfl
def kO(P:Program)(d:Option Nat)(r:List AO)(K:St->Prop)(st:St)(cs:List V):Prop:=∀b,st.out.box b=ag->b7 P r K (St.put ⟨st.t,st.aD,st.out.set b cs⟩ d (.ptr (.out b) 0))
theorem aoM:b7 P (⟨d,.qm c,ag⟩::r) K st=(bO c=ab/\kO P d r K st c):=rfl
theorem aoT{n:Nat}:b7 P (⟨d,.gO n x,ag⟩::r) K st=((ev st x).wd=aa n/\bO (ev st x).cells=ab/\kO P d r K st (ev st x).cells):=rfl
def kI(h:∀b,D.box b=ag->b7 P r K (St.put ⟨t,l,D.set b c⟩ d (.ptr (.out b) 0))):kO P d r K ⟨t,l,D⟩ c:=h
variable{ps:List (Nat × Nat × X)}
theorem aoV:b7 P (⟨d,.build c ps,ag⟩::r) K st=qK ((pB st c ps).map V.agg) (kL P d r K st):=rfl
def N4(o:Option (List (List V)))(k:Nat)(K:V->Prop):Prop:=match o with | some v=>K (.sl .ba k v) | none=>False
variable{k:Nat}
theorem apP{v:List (List V)}{K:V->Prop}:N4 (aa v) k K=K (.sl .ba k v):=rfl
def aoU{xs:List X}:b7 P (⟨d,.jn k xs,ag⟩::r) K st=N4 (lV st k xs) k (kL P d r K st):=by
 simp only[b7,aO.bh];cases lV st k xs<;>rfl
theorem apa{n:Nat}:b7 P (⟨d,.load g n x,ag⟩::r) K st=qK (lO st g n (ev st x)) (kL P d r K st):=rfl
def N5(P:Program)(o:Option St)(d:Option Nat)(r:List AO)(K:St->Prop):Prop:=match o with | some st=>b7 P r K (st.put d .any) | none=>False
theorem apQ:N5 P (aa st) d r K=b7 P r K (st.put d .any):=rfl
def apk{n:Nat}:b7 P (⟨d,.store n x y,ag⟩::r) K st=N5 P (dR st n (ev st y) (ev st x)) d r K:=by
 simp only[b7,aO.bh,N5];cases dR st n (ev st y) (ev st x)<;>rfl
def Be(v:V)(K:V->Prop):Prop:=match v with | .ptr p o=>K (.ptr p o) | .elt c o=>K (.elt c o) | .fn (.func f) a b=>K (.fn (.func f) a b) | _=>False
def ape:b7 P (⟨d,.wh x,ag⟩::r) K st=Be (ev st x) (kL P d r K st):=by
 simp only[b7,aO.bh,Be];cases ev st x<;>first | rfl | (rename_i f _ _;cases f<;>rfl)
variable{o:Nat}{p:Pl}
theorem aol{K:V->Prop}:Be (.ptr p o) K=K (.ptr p o):=rfl
theorem aoj{K:V->Prop}:Be (.elt c o) K=K (.elt c o):=rfl
variable{e:List V}{f:FuncId}
theorem aok{K:V->Prop}:Be (.fn (.func f) c e) K=K (.fn (.func f) c e):=rfl
theorem aoQ{op:BinOp}:b7 P (⟨d,.eW op x y,ag⟩::r) K st=qK (vA op (ev st x) (ev st y)) (kL P d r K st):=rfl
theorem aoR{op:BinOp}:b7 P (⟨d,.pA op x y,ag⟩::r) K st=qK (Af op (ev st x) (ev st y)) (kL P d r K st):=rfl
theorem aoP{n:Bool}:b7 P (⟨d,.vz n x y,ag⟩::r) K st=qK (yD n (ev st x) (ev st y)) (kL P d r K st):=rfl
def GZ(u v:V)(K:V->Prop):Prop:=∃a b,u = .aF a/\v = .aF b/\a.length+b.length<=aK/\K (.aF (a++b))
theorem aoY:b7 P (⟨d,.cat x y,ag⟩::r) K st=GZ (ev st x) (ev st y) (kL P d r K st):=rfl
def ab2{a b:List UInt8}{K:V->Prop}:GZ (.aF a) (.aF b) K=(a.length+b.length<=aK/\K (.aF (a++b))):=by
 simp only[GZ,V.aF.injEq,eq_iff_iff];constructor
 .rintro⟨a',b',rfl,rfl,h1,h2⟩;exact⟨h1,h2⟩
 .rintro⟨h1,h2⟩;exact⟨a,b,rfl,rfl,h1,h2⟩
variable{ks:List Nat}
theorem ao1{n:Bool}:b7 P (⟨d,.kA n ks x y,ag⟩::r) K st=qK (yC n ks (ev st x) (ev st y)) (kL P d r K st):=rfl
def Ft(v:V)(K:V->Prop):Prop:=match v with | .bool b=>K (.bool (!b)) | _=>False
def apf:b7 P (⟨d,.not x,ag⟩::r) K st=Ft (ev st x) (kL P d r K st):=by
 simp only[b7,aO.bh,Ft];cases ev st x<;>rfl
theorem aoH{b:Bool}{K:V->Prop}:Ft (.bool b) K=K (.bool (!b)):=rfl
def Fh(v:V)(K:V->Prop):Prop:=match v with | .sl _ _ l=>K (.int .i64 l.length) | .raw (.slice _ n _)=>K (.int .i64 n) | _=>False
def ao_:b7 P (⟨d,.wc x,ag⟩::r) K st=Fh (ev st x) (kL P d r K st):=by
 simp only[b7,aO.bh,Fh];cases ev st x<;>rfl
variable{m:List (List V)}
theorem amM{Z:Tk}{K:V->Prop}:Fh (.sl Z k m) K=K (.int .i64 m.length):=rfl
def Fi(v:V)(K:V->Prop):Prop:=match v with | .aF s=>K (.int .i64 s.length) | _=>False
def ao':b7 P (⟨d,.we x,ag⟩::r) K st=Fi (ev st x) (kL P d r K st):=by
 simp only[b7,aO.bh,Fi];cases ev st x<;>rfl
theorem amN{s:List UInt8}{K:V->Prop}:Fi (.aF s) K=K (.int .i64 s.length):=rfl
def Ch(off:Nat)(v:V)(K:V->Prop):Prop:=match v with | .ptr p o=>K (.ptr p (o+off)) | .elt c o=>K (.elt c (o+off)) | _=>False
def ao4{n:Nat}:b7 P (⟨d,.pH n x,ag⟩::r) K st=Ch n (ev st x) (kL P d r K st):=by
 simp only[b7,aO.bh,Ch];cases ev st x<;>rfl
theorem afO{n:Nat}{K:V->Prop}:Ch n (.ptr p o) K=K (.ptr p (o+n)):=rfl
theorem afN{n:Nat}{K:V->Prop}:Ch n (.elt c o) K=K (.elt c (o+n)):=rfl
def Ec(g:Bool)(off n:Nat)(v:V)(K:V->Prop):Prop:=match v with | .agg cs=>qK (bI g n (cs.drop off)) K | _=>False
def ao5{n m:Nat}:b7 P (⟨d,.vO g m n x,ag⟩::r) K st=Ec g m n (ev st x) (kL P d r K st):=by
 simp only[b7,aO.bh,Ec];cases ev st x<;>rfl
variable{cs:List V}
theorem afP{n m:Nat}{K:V->Prop}:Ec g m n (.agg cs) K=qK (bI g n (cs.drop m)) K:=rfl
def AW(k:Nat)(v i:V)(K:V->Prop):Prop:=match v with
 | .sl _ k' l=>k' = k/\JM l i λc=>K (.elt c 0)
 | .raw (.slice (aa ⟨b,o,ag⟩) n _)=>∃ik j,i = .int ik j/\0<=j/\j<n/\K (.ptr (.out b) (o+j.toNat*k))
 | _=>False
def ao7:b7 P (⟨d,.tA k x y,ag⟩::r) K st=AW k (ev st x) (ev st y) (kL P d r K st):=by
 simp only[b7,aO.bh,AW];cases ev st x<;>rfl
variable{ik:IntKind}
def qD{Z:Tk}{n:Int}{K:V->Prop}(h0:0<=n)(h:m[n.toNat]?=aa c)(hk:K (.elt c 0)):AW k (.sl Z k m) (.int ik n) K:=⟨rfl,ik,n,c,rfl,h0,h,hk⟩
def lM{Z:Tk}{n:Int}{K:V->Prop}(h:m[n.toNat]?=aa c)(hk:K (.elt c 0))(h0:0<=n:=by omega):AW k (.sl Z k m) (.int ik n) K:=qD h0 h hk
def CU(m k:Nat)(v i:V)(K:V->Prop):Prop:=match v with
 | .ptr p o=>∃kk n,i = .int kk n/\0<=n/\n<(m:Nat)/\K (.ptr p (o+n.toNat*k))
 | .elt c o=>∃kk n,i = .int kk n/\0<=n/\n<(m:Nat)/\K (.elt c (o+n.toNat*k))
 | _=>False
def ao8{m:Nat}:b7 P (⟨d,.sr m k x y,ag⟩::r) K st=CU m k (ev st x) (ev st y) (kL P d r K st):=by
 simp only[b7,aO.bh,CU];cases ev st x<;>rfl
def alh{m:Nat}{n:Int}{K:V->Prop}(h0:0<=n)(h:n<(m:Nat))(hk:K (.ptr p (o+n.toNat*k))):CU m k (.ptr p o) (.int ik n) K:=⟨ik,n,rfl,h0,h,hk⟩
def km{m:Nat}{n:Int}{K:V->Prop}(hk:K (.ptr p (o+n.toNat*k)))(h0:0<=n:=by omega)(h:n<(m:Nat):=by omega):CU m k (.ptr p o) (.int ik n) K:=alh h0 h hk
def CV(v i:V)(K:V->Prop):Prop:=match v with | .aF s=>∃k n c,i = .int k n/\0<=n/\s[n.toNat]?=aa c/\K (.int .u8 c.toNat) | _=>False
def ao9:b7 P (⟨d,.tB x y,ag⟩::r) K st=CV (ev st x) (ev st y) (kL P d r K st):=by
 simp only[b7,aO.bh,CV];cases ev st x<;>rfl
variable{s:List UInt8}
def ali{n:Int}{c:UInt8}{K:V->Prop}(h0:0<=n)(h:s[n.toNat]?=aa c)(hk:K (.int .u8 c.toNat)):CV (.aF s) (.int ik n) K:=⟨ik,n,c,rfl,h0,h,hk⟩
def rA{n:Int}{c:UInt8}{K:V->Prop}(h:s[n.toNat]?=aa c)(hk:K (.int .u8 c.toNat))(h0:0<=n:=by omega):CV (.aF s) (.int ik n) K:=ali h0 h hk
def kC(P:Program)(d:Option Nat)(r:List AO)(K:St->Prop)(t:List V)(l:List (List V))(v:V)(D:af):Prop:=b7 P r K (St.put ⟨t,l,D⟩ d v)
theorem alZ:kC P d r K t l v D=b7 P r K (St.put ⟨t,l,D⟩ d v):=rfl
theorem aoW{xs:List X}:b7 P (⟨d,.call f xs,ag⟩::r) K ⟨t,l,D⟩=(bO (di ⟨t,l,D⟩ xs)=ab/\cz P f (di ⟨t,l,D⟩ xs) D (kC P d r K t l)):=rfl
def Kz(P:Program)(v:V)(args:List V)(D:af)(K:V->af->Prop):Prop:=match v with | .fn (.func f) a b=>bO (a++args++b)=ab/\cz P f (a++args++b) D K | _=>False
def aoX{xs:List X}:b7 P (⟨d,.iX x xs,ag⟩::r) K ⟨t,l,D⟩=Kz P (ev ⟨t,l,D⟩ x) (di ⟨t,l,D⟩ xs) D (kC P d r K t l):=by
 simp only[b7,aO.bh,Kz];cases ev ⟨t,l,D⟩ x<;>first | rfl | (rename_i f _ _;cases f<;>rfl)
variable{args:List V}
theorem abZ{u v:List V}{K:V->af->Prop}:Kz P (.fn (.func f) u v) args D K=(bO (u++args++v)=ab/\cz P f (u++args++v) D K):=rfl
theorem aoN:b7 P (⟨d,.app k x y,ag⟩::r) K ⟨t,l,D⟩=qV D k (ev ⟨t,l,D⟩ x) (ev ⟨t,l,D⟩ y) (kC P d r K t l):=rfl
theorem aoO:b7 P (⟨d,.nj x y,ag⟩::r) K ⟨t,l,D⟩=(∃a,ev ⟨t,l,D⟩ y = .aF a/\qV D 1 (ev ⟨t,l,D⟩ x) (.sl .no 1 (dE a)) (kC P d r K t l)):=rfl
variable{u:Tk}{Z:Nat}
def iy{n:List (List V)}{K:V->af->Prop}(hb:m.length+n.length<=aK)(ht:D.aP Z=aa m.length)(hk:K (.sl (.tk Z) k (m++n)) (D.aY Z (m.length+n.length))):
 qV D k (.sl (.tk Z) k m) (.sl u k n) K:=⟨_,m,n,rfl,⟨u,rfl⟩,hb,ht,hk⟩
def GJ{n:List (List V)}{K:V->af->Prop}(hb:m.length+n.length<=aK)(hk:∀Z,D.aP Z=ag->K (.sl (.tk Z) k (m++n)) (D.aY Z (m.length+n.length))):
 qV D k (.sl .ba k m) (.sl u k n) K:=⟨_,m,n,rfl,⟨u,rfl⟩,hb,.inl hk⟩
def yp{n:List (List V)}{K:V->af->Prop}(hb:m.length+n.length<=aK)(hk:K (.sl .no k (m++n)) D):
 qV D k (.sl .ba k m) (.sl u k n) K:=⟨_,m,n,rfl,⟨u,rfl⟩,hb,.inr (.inl hk)⟩
def As(i:Nat)(v:V)(K:V->Prop):Prop:=match v with | .bt vs=>qK vs[i]? K | _=>False
variable{i:Nat}
def ao3:b7 P (⟨d,.ext x i,ag⟩::r) K st=As i (ev st x) (kL P d r K st):=by
 simp only[b7,aO.bh,As];cases ev st x<;>rfl
theorem afb{u:V}{us:List V}{K:V->Prop}:As 0 (.bt (u::us)) K=K u:=rfl
theorem afa{i:Nat}{u:V}{us:List V}{K:V->Prop}:As (i+1) (.bt (u::us)) K=As i (.bt us) K:=rfl
theorem apb{f:Fn}{as bs:List X}:b7 P (⟨d,.ko f as bs,ag⟩::r) K st=b7 P r K (st.put d (.fn f (di st as) (di st bs))):=rfl
def D6(k:IntKind)(v:V)(K:V->Prop):Prop:=match v with | .int _ n=>K (.int k (k.wrap n)) | _=>False
def ao0{k:IntKind}:b7 P (⟨d,.qt k x,ag⟩::r) K st=D6 k (ev st x) (kL P d r K st):=by
 simp only[b7,aO.bh,D6];cases ev st x<;>rfl
theorem adf{k j:IntKind}{n:Int}{K:V->Prop}:D6 k (.int j n) K=K (.int k (k.wrap n)):=rfl
theorem aoZ:b7 P (⟨d,.uc x,ag⟩::r) K st=(∃t s,ev st x = .sl t 1 (dE s)/\kL P d r K st (.aF s)):=rfl
def gL(P:Program)(v:V)(w:Bool)(d:Option Nat)(op:aO)(r:List AO)(K:St->Prop)(st:St):Prop :=
 match v with
 | .bool b=>if b=w then b7 P (⟨d,op,ag⟩::r) K st else b7 P r K (st.put d (.bt []))
 | .bt []=>b7 P r K (st.put d (.bt []))
 | _=>False
def ao6{g:Nat}{w:Bool}{op:aO}:b7 P (⟨d,op,aa (g,w)⟩::r) K ⟨t,l,D⟩=gL P (t.getD g .any) w d op r K ⟨t,l,D⟩:=by
 simp only[b7,gL,ev];generalize t.getD g .any=v;cases v<;>first | rfl | (rename_i m;cases m<;>rfl)
theorem ajM{w:Bool}{op:aO}:gL P (.bt []) w d op r K st=b7 P r K (st.put d (.bt [])):=rfl
theorem ajL{op:aO}:gL P (.bool ab) ab d op r K st=b7 P (⟨d,op,ag⟩::r) K st:=rfl
theorem ajI{op:aO}:gL P (.bool ak) ak d op r K st=b7 P (⟨d,op,ag⟩::r) K st:=rfl
theorem ajK{op:aO}:gL P (.bool ab) ak d op r K st=b7 P r K (st.put d (.bt [])):=rfl
theorem ajJ{op:aO}:gL P (.bool ak) ab d op r K st=b7 P r K (st.put d (.bt [])):=rfl
def A6(c:Option (List V))(g:Bool)(n o:Nat):Option V:=c.bind λcs=>bI g n (cs.drop o)
theorem amv{n:Nat}:A6 (aa c) g n o=bI g n (c.drop o):=rfl
theorem amE{g:Bool}{n i o:Nat}:lO ⟨t,l,D⟩ g n (.ptr (.aD i) o)=A6 l[i]? g n o:=rfl
theorem amF{n:Nat}:lO ⟨t,l,D⟩ g n (.ptr (.out i) o)=A6 (D.box i) g n o:=rfl
theorem amD{n:Nat}:lO ⟨t,l,D⟩ g n (.ptr (.kB i) o)=A6 (D.b9 i) g n o:=rfl
theorem amC{n:Nat}:lO st g n (.elt cs o)=bI g n (cs.drop o):=rfl
theorem zg{n:Nat}:bI ab n cs=(takeN n cs).map V.agg:=rfl
theorem amw{n:Nat}{c:V}:bI ak n (c::cs)=aa c:=rfl
theorem atX:takeN 0 cs=aa []:=rfl
def Vz(c:V):Option (List V)->Option (List V) | some l=>aa (c::l) | none=>ag
def Pc{n:Nat}{c:V}:takeN (n+1) (c::cs)=Vz c (takeN n cs):=by
 simp only[takeN];cases takeN n cs<;>rfl
theorem anU{c:V}:Vz c (aa cs)=aa (c::cs):=rfl
theorem ad0:cs.drop 0=cs:=rfl
theorem adZ{n:Nat}{c:V}:(c::cs).drop (n+1)=cs.drop n:=rfl
def Yr(t:List V)(l:List (List V))(D:af)(i o n:Nat)(x:V):Option (List V)->Option St
 | some cs=>if cg n (cs.drop o)=ab/\x.wd=aa n/\cL x.cells=ab then aa ⟨t,l.set i (setAt cs o x.cells),D⟩ else ag
 | none=>ag
def atu{n:Nat}:dR ⟨t,l,D⟩ n v (.ptr (.aD i) o)=Yr t l D i o n v l[i]?:=by
 simp only[dR];cases l[i]?<;>rfl
theorem ats{n:Nat}:Yr t l D i o n v (aa cs)=if cg n (cs.drop o)=ab/\v.wd=aa n/\cL v.cells=ab then aa ⟨t,l.set i (setAt cs o v.cells),D⟩ else none:=rfl
def Ys(t:List V)(l:List (List V))(D:af)(i o n:Nat)(x:V):Option (List V)->Option St
 | some cs=>if cg n (cs.drop o)=ab/\x.wd=aa n/\cL x.cells=ab/\bO x.cells=ab then aa ⟨t,l,D.set i (setAt cs o x.cells)⟩ else ag
 | none=>ag
def atv{n:Nat}:dR ⟨t,l,D⟩ n v (.ptr (.out i) o)=Ys t l D i o n v (D.box i):=by
 simp only[dR];cases D.box i<;>rfl
theorem att{n:Nat}:Ys t l D i o n v (aa cs)=if cg n (cs.drop o)=ab/\v.wd=aa n/\cL v.cells=ab/\bO v.cells=ab then aa ⟨t,l,D.set i (setAt cs o v.cells)⟩ else none:=rfl
def jh{b:Nat}:(D.set b cs).box b=aa cs:=by simp[af.set]
def qS{b c:Nat}(h:c≠b):(D.set b cs).box c=D.box c:=by simp[af.set,h]
theorem asY{b Z n:Nat}:(D.aY Z n).box b=D.box b:=rfl
theorem as1{b g:Nat}:(D.set b cs).b9 g=D.b9 g:=rfl
theorem asZ{g n:Nat}:(D.aY Z n).b9 g=D.b9 g:=rfl
theorem as5{b Z:Nat}:(D.set b cs).aP Z=D.aP Z:=rfl
def O0{n:Nat}:(D.aY Z n).aP Z=aa n:=by simp[af.aY]
def qe{O n:Nat}(h:O≠Z):(D.aY Z n).aP O=D.aP O:=by simp[af.aY,h]
theorem abq:pB st c []=aa c:=rfl
def Ra(st:St)(c:List V)(off n:Nat)(v:V)(ps:List (Nat × Nat × X)):Option (List V):=if cg n (c.drop off)=ab/\v.wd=aa n then pB st (setAt c off v.cells) ps else ag
variable{off:Nat}
theorem abp{n:Nat}:pB st c ((off,n,x)::ps)=Ra st c off n (ev st x) ps:=rfl
theorem abk{n:Nat}:Ra st c off n v ps=if cg n (c.drop off)=ab/\v.wd=aa n then pB st (setAt c off v.cells) ps else none:=rfl
theorem asg{k:Nat}:lV st k []=aa []:=rfl
def OH(c:List V):Option (List (List V))->Option (List (List V)) | some l=>aa (c::l) | none=>ag
theorem ar7:OH c (aa m)=aa (c::m):=rfl
def OG(st:St)(k:Nat)(v:V)(xs:List X):Option (List (List V)):=if v.wd=aa k/\bO v.cells=ab/\cL v.cells=ab then OH (aX v.cells) (lV st k xs) else ag
def asf{xs:List X}:lV st k (x::xs)=OG st k (ev st x) xs:=by
 simp only[lV,OG];cases lV st k xs<;>rfl
theorem ar3{xs:List X}:OG st k v xs=if v.wd=aa k/\bO v.cells=ab/\cL v.cells=ab then OH (aX v.cells) (lV st k xs) else none:=rfl
def dT(v v' : V):Prop:=∀E u,R E v u->R E v' u
def dT.rfl:dT v v:=λ_ _ h=>h
def dT.any:dT v .any:=λ_ _ _=>by simp only[R]
def dT.erase:dT v v.erase:=λ_ _ h=>R.erase v h
def dT.no{Z:Tk}:dT (.sl Z k m) (.sl .no k m):=λ_ _ h=>R.erase (.sl Z k m) h
def cQ:List V->List V->Prop
 | [],[]=>True
 | v::l,v' :: l' => dT v v' /\ cQ l l'
 | _,_=>False
def cQ.rfl:∀{l:List V},cQ l l
 | []=>trivial
 | _::_=>⟨dT.rfl,cQ.rfl⟩
def cQ.mono:∀{l l' : List V} {E:Env} {us:List Value},cQ l l' -> RL E l us->RL E l' us
 | [],[],_,_,_,h=>h
 | [],_::_,_,_,h,_=>h.elim
 | _::_,[],_,_,h,_=>h.elim
 | v::l,v' :: l',_,[],_,h=>by simp[RL] at h
 | v :: l, v' :: l', _, u :: us, h, hr => by
  simp only[RL] at hr ⊢;exact⟨h.1 _ _ hr.1,cQ.mono h.2 hr.2⟩
def cQ.length:∀{l l' : List V},cQ l l' -> l.length=l'.length
 | [],[],_=>Eq.refl _
 | [],_::_,h=>h.elim
 | _::_,[],h=>h.elim
 | v::l,v' :: l',h=>by simp[cQ.length h.2]
def cQ.get:∀{l l' : List V},cQ l l' -> ∀(j:Nat) v',l'[j]?=aa v' -> ∃v,l[j]?=aa v/\dT v v'
 | [],[],_,j,v',h=>by simp at h
 | [],_::_,h,_,_,_=>h.elim
 | _::_,[],h,_,_,_=>h.elim
 | v :: l, w :: l', h, j, v', hj => by
  cases j with
  | zero=>simp at hj;subst hj;exact⟨v,by simp,h.1⟩
  | succ j=>simp at hj;obtain⟨u,h1,h2⟩:=cQ.get h.2 j v' hj;exact⟨u,by simpa using h1,h2⟩
def cC:List (List V)->List (List V)->Prop
 | [],[]=>True
 | v::l,v' :: l' => cQ v v' /\ cC l l'
 | _,_=>False
def cC.rfl:∀{l:List (List V)},cC l l
 | []=>trivial
 | _::_=>⟨cQ.rfl,cC.rfl⟩
def cC.length:∀{l l' : List (List V)},cC l l' -> l.length=l'.length
 | [],[],_=>Eq.refl _
 | [],_::_,h=>h.elim
 | _::_,[],h=>h.elim
 | v::l,v' :: l',h=>by simp[cC.length h.2]
def cC.get:∀{l l' : List (List V)},cC l l' -> ∀(j:Nat) v',l'[j]?=aa v' -> ∃v,l[j]?=aa v/\cQ v v'
 | [],[],_,j,v',h=>by simp at h
 | [],_::_,h,_,_,_=>h.elim
 | _::_,[],h,_,_,_=>h.elim
 | v :: l, w :: l', h, j, v', hj => by
  cases j with
  | zero=>simp at hj;subst hj;exact⟨v,by simp,h.1⟩
  | succ j=>simp at hj;obtain⟨u,h1,h2⟩:=cC.get h.2 j v' hj;exact⟨u,by simpa using h1,h2⟩
variable{E:Env}{cs':List V}
def jV.eT{b:Nat}(h:cQ cs cs')(k:jV E b cs):jV E b cs' := by
 obtain⟨c,e,h1,h2,h3⟩:=k;refine⟨c,e,h1,by rw[<-h.length];exact h2,λj x hx=>?_⟩;obtain⟨v,hv,hle⟩:=h.get j x hx;obtain⟨u,k1,k2⟩:=h3 j v hv;exact⟨u,k1,hle _ _ k2⟩
structure bK(D σ' : af):Prop where
 box:∀b cs',σ'.box b=aa cs' -> ∃cs,D.box b=aa cs/\cQ cs cs'
 aP:∀Z n,σ'.aP Z=aa n->D.aP Z=aa n
 b9:∀b cs,σ'.b9 b=aa cs->D.b9 b=aa cs
def bK.rfl{D:af}:bK D D:=⟨λ_ cs h=>⟨cs,h,cQ.rfl⟩,λ_ _ h=>h,λ_ _ h=>h⟩
def bK.apr{D σ' : af}(h:σ'.sub D):bK D σ' := ⟨λb cs k=>⟨cs,h.1 b cs k,cQ.rfl⟩,h.2.1,h.2.2⟩
def bm.eT{t t' : List V}{l l' : List (List V)}{D σ' : af}(h:cQ t t')(hl:cC l l')(ho:bK D σ')(hk:K ⟨t',l',σ'⟩):bm ⟨t,l,D⟩ K:=by
 intro E a hs;refine⟨E,_,rfl,Fr.refl E,⟨⟨λb cs bV=>?_,λZ n hn=>hs.ok.aP Z n (ho.aP Z n hn),hs.ok.fresh,hs.ok.nt,λb cs hc=>hs.ok.b9 b cs (ho.b9 b cs hc)⟩,⟨λi cs bV=>?_,λi hi=>hs.dh.none i (by rw[hl.length];exact hi)⟩,hs.defers,h.mono hs.slot⟩,hk⟩
 .obtain⟨An,h1,h2⟩:=ho.box b cs bV;obtain⟨k1,k2⟩:=hs.ok.box b An h1;exact⟨k1,k2.eT h2⟩
 .obtain⟨An,h1,h2⟩:=hl.get i cs bV;obtain⟨b,k1,k2,k3⟩:=hs.dh.box i An h1;exact⟨b,k1,k2,k3.eT h2⟩
variable{as:List V}
def cz.eT{as':List V}{D σ' : af}(h:cz P f as' σ' R')(ha:cQ as as')(ho:bK D σ'):cz P f as D R' := by
 refine⟨h.1,λE vs h1 h2 h3=>h.2 E vs h1 ?_ (ha.mono h3)⟩;refine⟨λb cs bV=>?_,λZ n hn=>h2.aP Z n (ho.aP Z n hn),h2.fresh,h2.nt,λb cs hc=>h2.b9 b cs (ho.b9 b cs hc)⟩;obtain⟨An,k1,k2⟩:=ho.box b cs bV;obtain⟨k3,k4⟩:=h2.box b An k1;exact⟨k3,k4.eT k2⟩
end
section
variable {P:Program} {d:Option Nat} {r:List (AO × List Nat)} {K:St->Prop} {t:List V} {l:List (List V)} {D:af} {x y z:X} {st:St} {SN:List dm} {L:List (V × Bool × Nat × V × List Nat)} {ms:List Nat}
theorem adI:cy P [] SN L K st=(qZ SN L/\K st):=rfl
def kD(P:Program)(d:Option Nat)(r:List (AO × List Nat))(SN:List dm)(L:List (V × Bool × Nat × V × List Nat))(K:St->Prop)(st:St)(v:V):Prop:=cy P r SN L K (st.put d v)
variable{v:V}
theorem al0:kD P d r SN L K ⟨t,l,D⟩ v=cy P r SN L K (St.put ⟨t,l,D⟩ d v):=rfl
theorem adH:cy P ((⟨d,.mv x,ag⟩,ms)::r) SN L K st=cy P r SN L K (st.put d (ev st x)):=rfl
def zr(P:Program)(v a b:V)(d:Option Nat)(r:List (AO × List Nat))(SN:List dm)(L:List (V × Bool × Nat × V × List Nat))(K:St->Prop)(st:St):Prop:=match v with | .bool ab=>cy P r SN L K (st.put d a) | .bool ak=>cy P r SN L K (st.put d b) | _=>False
def adL:cy P ((⟨d,.pick x y z,ag⟩,ms)::r) SN L K st=zr P (ev st x) (ev st y) (ev st z) d r SN L K st:=by
 show(match ev st x with | .bool ab=>_ | .bool ak=>_ | _=>False)=_;unfold zr;cases ev st x<;>first | rfl | (rename_i b;cases b<;>rfl)
theorem aqB{u:V}:zr P (.bool ab) u v d r SN L K st=cy P r SN L K (st.put d u):=rfl
theorem aqz{u:V}:zr P (.bool ak) u v d r SN L K st=cy P r SN L K (st.put d v):=rfl
def aqA{b c:Bool}:zr P (.bool b) (.bool c) (.bool ak) d r SN L K st=cy P r SN L K (st.put d (.bool (b&&c))):=by cases b<;>simp[zr]
def aqC{b c:Bool}:zr P (.bool b) (.bool ab) (.bool c) d r SN L K st=cy P r SN L K (st.put d (.bool (b||c))):=by cases b<;>simp[zr]
variable{c:List V}
theorem adh:cy P ((⟨d,.alloc c,ag⟩,ms)::r) SN L K ⟨t,l,D⟩=cy P r (SN++[(l++[c],D)]) L K (St.put ⟨t,l++[c],D⟩ d (.ptr (.aD l.length) 0)):=rfl
theorem adm{n:Nat}:cy P ((⟨d,.box n x,ag⟩,ms)::r) SN L K ⟨t,l,D⟩=((ev ⟨t,l,D⟩ x).wd=aa n/\cy P r (SN++[(l++[(ev ⟨t,l,D⟩ x).cells],D)]) L K (St.put ⟨t,l++[(ev ⟨t,l,D⟩ x).cells],D⟩ d (.ptr (.aD l.length) 0))):=rfl
theorem adn{n:Nat}:cy P ((⟨d,.vB n x,ag⟩,ms)::r) SN L K ⟨t,l,D⟩=((ev ⟨t,l,D⟩ x).wd=aa n/\cL (ev ⟨t,l,D⟩ x).cells=ab/\cy P r (SN++[(l++[(ev ⟨t,l,D⟩ x).cells],D)]) L K (St.put ⟨t,l++[(ev ⟨t,l,D⟩ x).cells],D⟩ d (.ptr (.aD l.length) 0))):=rfl
variable{ps:List (Nat × Nat × X)}
theorem adp:cy P ((⟨d,.build c ps,ag⟩,ms)::r) SN L K st=qK ((pB st c ps).map V.agg) (kD P d r SN L K st):=rfl
variable{k:Nat}
def ado{xs:List X}:cy P ((⟨d,.jn k xs,ag⟩,ms)::r) SN L K st=N4 (lV st k xs) k (kD P d r SN L K st):=by
 show opt ((lV st k xs).map (V.sl .ba k)) _=_;cases lV st k xs<;>rfl
def U5(P:Program)(a:V)(g:Bool)(n:Nat)(ms:List Nat)(d:Option Nat)(r:List (AO × List Nat))(SN:List dm)(L:List (V × Bool × Nat × V × List Nat))(K:St->Prop)(st:St):Option V->Prop
 | some v=>cy P r SN ((a,g,n,v,ms)::L) K (st.put d v)
 | none=>False
theorem amx{a v:V}{g:Bool}{n:Nat}:U5 P a g n ms d r SN L K st (aa v)=cy P r SN ((a,g,n,v,ms)::L) K (st.put d v):=rfl
variable{g:Bool}
def adF{n:Nat}:cy P ((⟨d,.load g n x,ag⟩,ms)::r) SN L K st=U5 P (ev st x) g n ms d r SN L K st (lO st g n (ev st x)):=by
 show opt (lO st g n (ev st x)) _=_;cases lO st g n (ev st x)<;>rfl
def Yq(P:Program)(d:Option Nat)(r:List (AO × List Nat))(SN:List dm)(L:List (V × Bool × Nat × V × List Nat))(K:St->Prop):Option St->Prop
 | some st=>cy P r (SN++[(st.aD,st.out)]) L K (st.put d .any)
 | none=>False
theorem atr:Yq P d r SN L K (aa ⟨t,l,D⟩)=cy P r (SN++[(l,D)]) L K (St.put ⟨t,l,D⟩ d .any):=rfl
def adO{n:Nat}:cy P ((⟨d,.store n x y,ag⟩,ms)::r) SN L K st=Yq P d r SN L K (dR st n (ev st y) (ev st x)):=by
 show(match dR st n (ev st y) (ev st x) with | some aM => _ | none=>False)=_;cases dR st n (ev st y) (ev st x)<;>rfl
def adJ:cy P ((⟨d,.wh x,ag⟩,ms)::r) SN L K st=Be (ev st x) (kD P d r SN L K st):=by
 show(match ev st x with | .ptr p o=>_ | .elt c o=>_ | .fn (.func f) a b=>_ | _=>False)=_;unfold Be;cases ev st x<;>first | rfl | (rename_i f _ _;cases f<;>rfl)
theorem adk{op:BinOp}:cy P ((⟨d,.eW op x y,ag⟩,ms)::r) SN L K st=qK (vA op (ev st x) (ev st y)) (kD P d r SN L K st):=rfl
theorem adl{op:BinOp}:cy P ((⟨d,.pA op x y,ag⟩,ms)::r) SN L K st=qK (Af op (ev st x) (ev st y)) (kD P d r SN L K st):=rfl
theorem adj{n:Bool}:cy P ((⟨d,.vz n x y,ag⟩,ms)::r) SN L K st=qK (yD n (ev st x) (ev st y)) (kD P d r SN L K st):=rfl
theorem ads:cy P ((⟨d,.cat x y,ag⟩,ms)::r) SN L K st=GZ (ev st x) (ev st y) (kD P d r SN L K st):=rfl
variable{ks:List Nat}
theorem adv{n:Bool}:cy P ((⟨d,.kA n ks x y,ag⟩,ms)::r) SN L K st=qK (yC n ks (ev st x) (ev st y)) (kD P d r SN L K st):=rfl
def adK:cy P ((⟨d,.not x,ag⟩,ms)::r) SN L K st=Ft (ev st x) (kD P d r SN L K st):=by
 show(match ev st x with | .bool b=>_ | _=>False)=_;unfold Ft;cases ev st x<;>rfl
def adD:cy P ((⟨d,.wc x,ag⟩,ms)::r) SN L K st=Fh (ev st x) (kD P d r SN L K st):=by
 show(match ev st x with | .sl _ _ l=>_ | .raw (.slice _ n _)=>_ | _=>False)=_;unfold Fh;cases ev st x<;>rfl
def adE:cy P ((⟨d,.we x,ag⟩,ms)::r) SN L K st=Fi (ev st x) (kD P d r SN L K st):=by
 show(match ev st x with | .aF s=>_ | _=>False)=_;unfold Fi;cases ev st x<;>rfl
def adx{n:Nat}:cy P ((⟨d,.pH n x,ag⟩,ms)::r) SN L K st=Ch n (ev st x) (kD P d r SN L K st):=by
 show(match ev st x with | .ptr p o=>_ | .elt c o=>_ | _=>False)=_;unfold Ch;cases ev st x<;>rfl
def ady{g:Bool}{n m:Nat}:cy P ((⟨d,.vO g m n x,ag⟩,ms)::r) SN L K st=Ec g m n (ev st x) (kD P d r SN L K st):=by
 show(match ev st x with | .agg cs=>_ | _=>False)=_;unfold Ec;cases ev st x<;>rfl
def adA:cy P ((⟨d,.tA k x y,ag⟩,ms)::r) SN L K st=AW k (ev st x) (ev st y) (kD P d r SN L K st):=by
 show(match ev st x with | .sl _ k' l=>_ | .raw (.slice (aa ⟨b,o,ag⟩) n _)=>_ | _=>False)=_;unfold AW;cases ev st x<;>rfl
def adB{m:Nat}:cy P ((⟨d,.sr m k x y,ag⟩,ms)::r) SN L K st=CU m k (ev st x) (ev st y) (kD P d r SN L K st):=by
 show(match ev st x with | .ptr p o=>_ | .elt c o=>_ | _=>False)=_;unfold CU;cases ev st x<;>rfl
def adC:cy P ((⟨d,.tB x y,ag⟩,ms)::r) SN L K st=CV (ev st x) (ev st y) (kD P d r SN L K st):=by
 show(match ev st x with | .aF s=>_ | _=>False)=_;unfold CV;cases ev st x<;>rfl
def Ig(P:Program)(d:Option Nat)(r:List (AO × List Nat))(SN:List dm)(L:List (V × Bool × Nat × V × List Nat))(K:St->Prop)(t:List V)(l:List (List V))(v:V)(D:af):Prop:=cy P r (SN++[(l,D)]) L K (St.put ⟨t,l,D⟩ d v)
theorem alY{v:V}:Ig P d r SN L K t l v D=cy P r (SN++[(l,D)]) L K (St.put ⟨t,l,D⟩ d v):=rfl
def bE(P:Program)(f:FuncId)(as:List V)(D:af)(K:V->af->Prop):Prop:=∃v σ',cz P f as D (λv' sJ => v' = v/\sJ = σ')/\K v σ'
variable{as:List V}{f:FuncId}{σ':af}
def bE.intro{K:V->af->Prop}(h:cz P f as D λv' sJ => v' = v/\sJ = σ')(k:K v σ'):bE P f as D K:=⟨v,σ',h,k⟩
def cl{K:V->af->Prop}(h:cz P f as D λv' sJ => v' = v/\sJ = σ')(k:K v σ'):cz P f as D K:=h.mono λ_ _ e=>e.1▸e.2▸k
theorem adq{xs:List X}:cy P ((⟨d,.call f xs,ag⟩,ms)::r) SN L K ⟨t,l,D⟩=(bO (di ⟨t,l,D⟩ xs)=ab/\bE P f (di ⟨t,l,D⟩ xs) D (Ig P d r SN L K t l)):=rfl
def Ky(P:Program)(v:V)(args:List V)(D:af)(K:V->af->Prop):Prop:=match v with | .fn (.func f) a b=>bO (a++args++b)=ab/\bE P f (a++args++b) D K | _=>False
def adr{xs:List X}:cy P ((⟨d,.iX x xs,ag⟩,ms)::r) SN L K ⟨t,l,D⟩=Ky P (ev ⟨t,l,D⟩ x) (di ⟨t,l,D⟩ xs) D (Ig P d r SN L K t l):=by
 show(match ev ⟨t,l,D⟩ x with | .fn (.func f) a b=>_ | _=>False)=_;unfold Ky;cases ev ⟨t,l,D⟩ x<;>first | rfl | (rename_i f _ _;cases f<;>rfl)
variable{args:List V}
theorem abY{u v:List V}{K:V->af->Prop}:Ky P (.fn (.func f) u v) args D K=(bO (u++args++v)=ab/\bE P f (u++args++v) D K):=rfl
theorem adi:cy P ((⟨d,.app k x y,ag⟩,ms)::r) SN L K ⟨t,l,D⟩=zM D k (ev ⟨t,l,D⟩ x) (ev ⟨t,l,D⟩ y) (Ig P d r SN L K t l):=rfl
variable{m:List (List V)}{u:Tk}{Z:Nat}
def vt{n:List (List V)}{K:V->af->Prop}(hb:m.length+n.length<=aK)(ht:D.aP Z=aa m.length)(hk:K (.sl (.tk Z) k (m++n)) (D.aY Z (m.length+n.length))):
 zM D k (.sl (.tk Z) k m) (.sl u k n) K:=⟨_,m,n,rfl,⟨u,rfl⟩,hb,ht,hk⟩
def Z8{n:List (List V)}{K:V->af->Prop}(hb:m.length+n.length<=aK)(hk:K (.sl .no k (m++n)) D):
 zM D k (.sl .ba k m) (.sl u k n) K:=⟨_,m,n,rfl,⟨u,rfl⟩,hb,.inl hk⟩
def Z9{n:List (List V)}{K:V->af->Prop}(hb:m.length+n.length<=aK)(ht:D.aP Z=aa m.length)(hk:K (.sl (.tk Z) k (m++n)) (D.aY Z (m.length+n.length))):
 zM D k (.sl .ba k m) (.sl u k n) K:=⟨_,m,n,rfl,⟨u,rfl⟩,hb,.inr ⟨Z,ht,hk⟩⟩
def adw{i:Nat}:cy P ((⟨d,.ext x i,ag⟩,ms)::r) SN L K st=As i (ev st x) (kD P d r SN L K st):=by
 show(match ev st x with | .bt vs=>_ | _=>False)=_;unfold As;cases ev st x<;>rfl
theorem adG{f:Fn}{as bs:List X}:cy P ((⟨d,.ko f as bs,ag⟩,ms)::r) SN L K st=cy P r SN L K (st.put d (.fn f (di st as) (di st bs))):=rfl
def adu{k:IntKind}:cy P ((⟨d,.qt k x,ag⟩,ms)::r) SN L K st=D6 k (ev st x) (kD P d r SN L K st):=by
 show(match ev st x with | .int _ n=>_ | _=>False)=_;unfold D6;cases ev st x<;>rfl
theorem adt:cy P ((⟨d,.uc x,ag⟩,ms)::r) SN L K st=(∃t s,ev st x = .sl t 1 (dE s)/\kD P d r SN L K st (.aF s)):=rfl
def gD(P:Program)(v:V)(w:Bool)(d:Option Nat)(op:aO)(ms:List Nat)(r:List (AO × List Nat))(SN:List dm)(L:List (V × Bool × Nat × V × List Nat))(K:St->Prop)(st:St):Prop :=
 match v with
 | .bool b=>if b=w then cy P ((⟨d,op,ag⟩,ms)::r) SN L K st else cy P r (if op.bq then SN++[(st.aD,st.out)] else SN) L K (st.put d (.bt []))
 | .bt []=>cy P r (if op.bq then SN++[(st.aD,st.out)] else SN) L K (st.put d (.bt []))
 | _=>False
def adz{g:Nat}{w:Bool}{op:aO}:cy P ((⟨d,op,aa (g,w)⟩,ms)::r) SN L K ⟨t,l,D⟩=gD P (t.getD g .any) w d op ms r SN L K ⟨t,l,D⟩:=by
 simp only[cy,gD,ev];generalize t.getD g .any=v;cases v<;>first | rfl | (rename_i m;cases m<;>rfl)
theorem ajH{w:Bool}{op:aO}:gD P (.bt []) w d op ms r SN L K ⟨t,l,D⟩=cy P r (if op.bq=ab then SN++[(l,D)] else SN) L K (St.put ⟨t,l,D⟩ d (.bt [])):=rfl
theorem ajG{op:aO}:gD P (.bool ab) ab d op ms r SN L K st=cy P ((⟨d,op,ag⟩,ms)::r) SN L K st:=rfl
theorem ajD{op:aO}:gD P (.bool ak) ak d op ms r SN L K st=cy P ((⟨d,op,ag⟩,ms)::r) SN L K st:=rfl
theorem ajF{op:aO}:gD P (.bool ab) ak d op ms r SN L K ⟨t,l,D⟩=cy P r (if op.bq=ab then SN++[(l,D)] else SN) L K (St.put ⟨t,l,D⟩ d (.bt [])):=rfl
theorem ajE{op:aO}:gD P (.bool ak) ab d op ms r SN L K ⟨t,l,D⟩=cy P r (if op.bq=ab then SN++[(l,D)] else SN) L K (St.put ⟨t,l,D⟩ d (.bt [])):=rfl
theorem acp:qZ SN []=True:=rfl
theorem aco{n:Nat}{a:V}:qZ SN ((a,g,n,v,ms)::L)=(Aj SN g n a v ms/\qZ SN L):=rfl
theorem acn{n:Nat}{a:V}:Aj SN g n a v []=True:=rfl
theorem acm{g:Bool}{n m:Nat}{a v:V}:Aj SN g n a v (m::ms)=(sy (SN.getD m Dm) g n a=aa v/\Aj SN g n a v ms):=rfl
theorem as7{s u:dm}:(s::SN).getD 0 u=s:=rfl
theorem as8{s u:dm}{n:Nat}:(s::SN).getD (n+1) u=SN.getD n u:=rfl
theorem asM{s:dm}:([]:List dm)++[s]=[s]:=rfl
theorem asN{s u:dm}:(s::SN)++[u]=s::(SN++[u]):=rfl
theorem amA{g:Bool}{n i o:Nat}:sy (l,D) g n (.ptr (.aD i) o)=A6 l[i]? g n o:=rfl
theorem amB{g:Bool}{n i o:Nat}:sy (l,D) g n (.ptr (.out i) o)=A6 (D.box i) g n o:=rfl
variable{i o:Nat}
theorem amz{n:Nat}:sy (l,D) g n (.ptr (.kB i) o)=A6 (D.b9 i) g n o:=rfl
variable{cs:List V}
theorem amy{n:Nat}{s:dm}:sy s g n (.elt cs o)=bI g n (cs.drop o):=rfl
def G9(P:Program)(l:List (List V))(D:af)(o:List (AO × List Nat))(K:St->Prop):Option (List V)->Prop
 | some t=>cy P o [(l,D)] [] K ⟨t,l,D⟩
 | none=>False
variable{Q:Exit->St->Prop}
def auF{o:List (AO × List Nat)}{nv:List Nat}:vc P (.G8 nv o) Q ⟨t,l,D⟩=G9 P l D o (Q .normal) (tX nv t):=by
 simp only[vc];cases tX nv t with
 | none=>simp[G9]
 | some t' => simp[G9]
theorem adX{K:St->Prop}{o:List (AO × List Nat)}:G9 P l D o K (aa t)=cy P o [(l,D)] [] K ⟨t,l,D⟩:=rfl
theorem Z5:tX [] t=aa t:=rfl
def Kl(b:Bool)(x:Option (List V)):Option (List V):=if b then x else ag
def Z4{d:Nat}{ds:List Nat}:tX (d::ds) t=Kl (decide (d<t.length)) (tX ds (t.set d .any)):=by
 simp only[tX,Kl,cn]
theorem Z6{y:Option (List V)}:Kl ab y=y:=rfl
theorem auH{o:List (AO × List Nat)}{h:HI}:vc P (.hole o h) Q ⟨t,l,D⟩=cy P o [(l,D)] [] (Gh h (Q .normal)) ⟨t,l,D⟩:=rfl
theorem ak3{h:HI}:Gh h K ⟨t,l,D⟩=JL h K ⟨rN h t,l,D⟩:=rfl
theorem avh{k:Nat}{a b c e f:X}{d9 d10 dF:Nat}:rN ⟨k,a,b,c,e,f,ag,d9,d10,dF⟩ t=(t.set d9 .any).set d10 .any:=rfl
variable{off:Nat}
theorem avi{a b c e f:X}{d9 d10 dF:Nat}:rN ⟨k,a,b,c,e,f,aa off,d9,d10,dF⟩ t=((t.set d9 .any).set d10 .any).set dF .any:=rfl
def Ud{h:HI}{t' : Tk}{j:IntKind}{p:V}{aM : St}(es:ev ⟨t,l,D⟩ h.s = .sl (.tk Z) h.k m)(ez:ev ⟨t,l,D⟩ h.z = .sl t' h.k [c])
 (el:ev ⟨t,l,D⟩ h.len = .int j m.length) (hb:m.length+1<=aK) (ht:D.aP Z=aa m.length) (hx:(ev ⟨t,l,D⟩ h.x).wd=aa h.k/\cL (ev ⟨t,l,D⟩ h.x).cells=ab/\bO (ev ⟨t,l,D⟩ h.x).cells=ab)
 (bV:aX (ev ⟨t,l,D⟩ h.x).cells=cs) (hd:h.d9<t.length/\h.d10<t.length/\(h.fo.isSome=ab->h.dF<t.length)) (hp:Eb h.fo (ev ⟨t,l,D⟩ h.addr)=aa p)
 (eP:dR ⟨t,l,D⟩ 1 (.sl (.tk Z) h.k (m++[cs])) p=aa aM) (hk:K ⟨aM.t,aM.aD,aM.out.aY Z (m.length+1)⟩):JL h K ⟨t,l,D⟩ :=
 ⟨Z,m,c,t',j,es,ez,el,hb,ht,hx.1,hx.2.1,hx.2.2,hd.1,hd.2.1,hd.2.2,p,hp,aM,by rw[bV];exact eP,hk⟩
end
section
variable {x y z:X} {n m:Nat} {c:List V} {g:Bool} {bo:BinOp} {ks:List Nat} {xs ys:List X} {ps:List (Nat × Nat × X)} {fn:Fn} {ik:IntKind}
theorem aew:(aO.pick x y z).bq=false:=rfl
theorem ad4:(aO.alloc c).bq=true:=rfl
theorem ad':(aO.vB n x).bq=true:=rfl
theorem ad_:(aO.box n x).bq=true:=rfl
theorem aeb:(aO.build c ps).bq=false:=rfl
theorem aea:(aO.jn n xs).bq=false:=rfl
theorem aeq:(aO.load g n x).bq=false:=rfl
theorem aex:(aO.store n x y).bq=true:=rfl
theorem aet:(aO.wh x).bq=false:=rfl
theorem ad8:(aO.eW bo x y).bq=false:=rfl
theorem ad9:(aO.pA bo x y).bq=false:=rfl
theorem ad7:(aO.vz g x y).bq=false:=rfl
theorem aee:(aO.cat x y).bq=false:=rfl
theorem aeh:(aO.kA g ks x y).bq=false:=rfl
theorem aeu:(aO.not x).bq=false:=rfl
theorem aeo:(aO.wc x).bq=false:=rfl
theorem aep:(aO.we x).bq=false:=rfl
theorem aej:(aO.pH n x).bq=false:=rfl
theorem aek:(aO.vO g n m x).bq=false:=rfl
theorem ael:(aO.tA n x y).bq=false:=rfl
theorem aem{m k:Nat}:(aO.sr m k x y).bq=false:=rfl
theorem aen:(aO.tB x y).bq=false:=rfl
theorem aec:(aO.call n xs).bq=true:=rfl
theorem aed:(aO.iX x xs).bq=true:=rfl
theorem ad5:(aO.app n x y).bq=true:=rfl
theorem ad6:(aO.nj x y).bq=true:=rfl
theorem aei:(aO.ext x n).bq=false:=rfl
theorem aer:(aO.ko fn xs ys).bq=false:=rfl
theorem aeg:(aO.qt ik x).bq=false:=rfl
theorem aef:(aO.uc x).bq=false:=rfl
theorem aes:(aO.mv x).bq=false:=rfl
end
section
variable {k:IntKind} {a b:Int} {c e:List V} {n m:Nat} {x y:V} {u v:List UInt8} {p q:Bool} {l:List (List V)} {Z:Tk}
def H_:AY k k=true:=by cases k<;>rfl
def abi{op:BinOp}:vA op (.int k a) (.int k b)=iP k a b op:=by simp[vA,H_]
theorem alm:iP k a b .add=aa (.int k (k.wrap (a+b))):=rfl
theorem alw:iP k a b .sub=aa (.int k (k.wrap (a - b))):=rfl
theorem als:iP k a b .mul=aa (.int k (k.wrap (a*b))):=rfl
theorem aln:iP k a b .eql=aa (.bool (decide (a=b))):=rfl
theorem alu:iP k a b .neq=aa (.bool (!decide (a=b))):=rfl
theorem alr:iP k a b .lss=aa (.bool (decide (a<b))):=rfl
theorem alq:iP k a b .leq=aa (.bool (decide (a<=b))):=rfl
theorem alp:iP k a b .gtr=aa (.bool (decide (b<a))):=rfl
theorem alo:iP k a b .geq=aa (.bool (decide (b<=a))):=rfl
theorem abj{op:BinOp}:Af op (.aF u) (.aF v)=xT u v op:=rfl
theorem atK:xT u v .eql=aa (.bool (decide (u=v))):=rfl
theorem atP:xT u v .neq=aa (.bool (!decide (u=v))):=rfl
theorem atO:xT u v .lss=aa (.bool (Op.bytesLess u v)):=rfl
theorem atN:xT u v .leq=aa (.bool (Op.bytesLess u v||decide (u=v))):=rfl
theorem atM:xT u v .gtr=aa (.bool (!(Op.bytesLess u v||decide (u=v)))):=rfl
theorem atL:xT u v .geq=aa (.bool (!Op.bytesLess u v)):=rfl
theorem aeI:yD ak (.bool p) (.bool q)=aa (.bool (decide (p=q))):=rfl
theorem aeJ:yD ab (.bool p) (.bool q)=aa (.bool (!decide (p=q))):=rfl
def K3(neg:Bool):Option Bool->Option V | some b=>aa (.bool (if neg then !b else b)) | none=>ag
theorem aeL:K3 ak (aa p)=aa (.bool p):=rfl
theorem aeM:K3 ab (aa p)=aa (.bool (!p)):=rfl
variable{ks:List Nat}
def aeH{neg:Bool}:yC neg ks (.agg c) (.agg e)=K3 neg (fQ ks c e):=by
 simp only[yC];cases fQ ks c e<;>rfl
def andM(b:Bool):Option Bool->Option Bool | some c=>aa (b&&c) | none=>ag
theorem qn:andM p (aa q)=aa (p&&q):=rfl
theorem He:fQ [] [] []=aa true:=rfl
def r5:fQ (1::ks) (.int k a::c) (.int k b::e)=andM (decide (a=b)) (fQ ks c e):=by
 simp only[fQ,H_,cm];cases fQ ks c e<;>rfl
def K1:fQ (2::ks) (.aF u::c) (.aF v::e)=andM (decide (u=v)) (fQ ks c e):=by
 simp only[fQ];cases fQ ks c e<;>rfl
def aeK{ks:List Nat}:fQ (0::ks) (.bool p::c) (.bool q::e)=andM (decide (p=q)) (fQ ks c e):=by
 simp only[fQ];cases fQ ks c e<;>rfl
theorem au6:(V.agg c).wd=aa c.length:=rfl
theorem au_:(V.int k a).wd=aa 1:=rfl
theorem au7:(V.bool p).wd=aa 1:=rfl
theorem avc:(V.aF u).wd=aa 1:=rfl
theorem avb:(V.sl Z n l).wd=aa 1:=rfl
theorem ava{o:Pl}:(V.ptr o n).wd=aa 1:=rfl
theorem au8:(V.elt c n).wd=aa 1:=rfl
theorem au9{f:Fn}:(V.fn f c e).wd=aa 1:=rfl
theorem au':V.jd.wd=aa 1:=rfl
theorem ab_:(V.agg c).cells=c:=rfl
theorem acd:(V.int k a).cells=[.int k a]:=rfl
theorem ab':(V.bool p).cells=[.bool p]:=rfl
theorem acj:(V.aF u).cells=[.aF u]:=rfl
theorem aci:(V.sl Z n l).cells=[.sl Z n l]:=rfl
theorem ach{o:Pl}:(V.ptr o n).cells=[.ptr o n]:=rfl
theorem aca:(V.elt c n).cells=[.elt c n]:=rfl
theorem acb{f:Fn}:(V.fn f c e).cells=[.fn f c e]:=rfl
theorem ace:V.jd.cells=[.jd]:=rfl
theorem apD:cL []=true:=rfl
theorem apC:cL (x::c)=(x.one&&cL c):=rfl
theorem NZ:(V.int k a).one=true:=rfl
theorem apE:(V.bool p).one=true:=rfl
theorem V5:(V.aF u).one=true:=rfl
theorem apK:(V.sl Z n l).one=true:=rfl
theorem apJ{o:Pl}:(V.ptr o n).one=true:=rfl
theorem apF:(V.elt c n).one=true:=rfl
theorem apH{f:Fn}:(V.fn f c e).one=true:=rfl
theorem apI:V.jd.one=true:=rfl
theorem aot:bO []=true:=rfl
theorem aos:bO (x::c)=(x.cY&&bO c):=rfl
theorem aoA:(V.int k a).cY=true:=rfl
theorem aow:(V.bool p).cY=true:=rfl
theorem aoF:(V.aF u).cY=true:=rfl
theorem aoE:(V.sl Z n l).cY=true:=rfl
theorem aov:V.any.cY=true:=rfl
theorem aoC:(V.ptr (.out m) n).cY=true:=rfl
theorem aoz:(V.ptr (.kB m) n).cY=true:=rfl
theorem aox:(V.elt c n).cY=true:=rfl
theorem aoB:V.jd.cY=true:=rfl
theorem aou:(V.agg c).cY=bO c:=rfl
theorem aoG:(V.bt c).cY=bO c:=rfl
theorem aoy{f:Fn}:(V.fn f c e).cY=(bO c&&bO e):=rfl
theorem aoD{w:Value}:(V.raw w).cY=true:=rfl
theorem aeU:(V.int k a).erase = .int k a:=rfl
theorem aeR:(V.bool p).erase = .bool p:=rfl
theorem aeY:(V.aF u).erase = .aF u:=rfl
theorem aeX:(V.sl Z n l).erase = .sl .no n l:=rfl
theorem aeQ:V.any.erase = .any:=rfl
theorem aeW{o:Pl}:(V.ptr o n).erase = .ptr o n:=rfl
theorem aeS:(V.elt c n).erase = .elt c n:=rfl
theorem aeV:V.jd.erase = .jd:=rfl
theorem aeP:(V.agg c).erase = .agg (aX c):=rfl
theorem aeZ:(V.bt c).erase = .bt (aX c):=rfl
theorem aeT{f:Fn}:(V.fn f c e).erase = .fn f c e:=rfl
theorem aeO:aX []=[]:=rfl
theorem aeN:aX (x::c)=x.erase::aX c:=rfl
def akm:cg 0 c=true:=by cases c<;>rfl
theorem akl:cg (n+1) (x::c)=cg n c:=rfl
def mU:over c []=c:=by cases c<;>rfl
theorem p8:over (x::c) (y::e)=y::over c e:=rfl
def mC:setAt c 0 e=over c e:=by cases c<;>rfl
theorem ka:setAt (x::c) (n+1) e=x::setAt c n e:=rfl
theorem amP:([]:List V).length=0:=rfl
theorem amO:(x::c).length=c.length+1:=rfl
theorem ajS:(c::l)[0]?=aa c:=rfl
def ajV:(c::l)[n+1]?=l[n]?:=by simp
theorem anC:(c::l).set 0 e=e::l:=rfl
theorem anD:(c::l).set (n+1) e=c::l.set n e:=rfl
theorem aaa : ([]:List (List V))++l=l:=rfl
theorem Z_ : (c::l)++[e]=c::(l++[e]):=rfl
theorem auu:([]:List V)++c=c:=rfl
theorem aut:(x::c)++e=x::(c++e):=rfl
theorem anl:([]:List (List V)).length=0:=rfl
theorem ank:(c::l).length=l.length+1:=rfl
def r6{a:Nat}:(a=a)=True:=by simp
def eqI{a:Int}:(a=a)=True:=by simp
variable{U:Type}
def ato{x y:U}:(aa x=aa y)=(x=y):=by simp
def apG:(1=1)=True:=by simp
def true_eq:(ab=ab)=True:=by simp
def afh : (ak=ab)=False:=by simp
theorem aum:(ab&&p)=p:=rfl
theorem afs:(ak&&p)=false:=rfl
def Z1:(p&&ab)=p:=by simp
def Z0:(p&&ak)=false:=by simp
theorem aun:(ab||p)=true:=rfl
theorem aft:(ak||p)=p:=rfl
def apT:(p||false)=p:=by simp
theorem aoJ:(!ab)=false:=rfl
theorem aoI:(!ak)=true:=rfl
def alz{x y:U}:(if True then x else y)=x:=aE trivial
def aly{x y:U}:(if False then x else y)=y:=aA λh=>h
def alB{x y:Prop}:(if True then x else y)=x:=aE trivial
def alA{x y:Prop}:(if False then x else y)=y:=aA λh=>h
def at2{q:Prop}:(True/\q)=q:=by simp
def Z2{q:Prop}:(q/\True)=q:=by simp
theorem rlZ{x:V}:ar 0 x=[]:=rfl
theorem rlS{x:V}:ar (n+1) x=x::ar n x:=rfl
def anb{v:V}:cQ (v::c) (.any::e)=cQ c e:=by simp[cQ,dT.any]
def ani{v:V}:cQ (v::c) (v::e)=cQ c e:=by simp[cQ,dT.rfl]
def E0:Env:=⟨default,λ_=>.const,λ_=>ag,λ_=>ag⟩
def auP:dT (.int k a) (.int k b)=(a=b):=by
 refine propext ⟨λh=>?_,λh=>h▸dT.rfl⟩
 have:=h E0 (.int k a) (by simp[R])
 simpa [R] using this
def auO:dT (.bool p) (.bool q)=(p=q):=by
 refine propext ⟨λh=>?_,λh=>h▸dT.rfl⟩
 have:=h E0 (.bool p) (by simp[R])
 simpa [R] using this
def auQ:dT (.aF u) (.aF v)=(u=v):=by
 refine propext ⟨λh=>?_,λh=>h▸dT.rfl⟩
 have:=h E0 (.string ⟨u.toArray⟩) (by simp[R])
 simpa [R] using this
def ane:cQ (.int k a::c) (.int k b::e)=(a=b/\cQ c e):=by simp[cQ,auP]
def anc:cQ (.bool p::c) (.bool q::e)=(p=q/\cQ c e):=by simp[cQ,auO]
def anj:cQ (.aF u::c) (.aF v::e)=(u=v/\cQ c e):=by simp[cQ,auQ]
def ang:cQ (.sl Z n l::c) (.sl .no n l::e)=cQ c e:=by simp[cQ,dT.no]
theorem ann:cC [] []=True:=rfl
theorem anm{c e:List V}{l m:List (List V)}:cC (c::l) (e::m)=(cQ c e/\cC l m):=rfl
def ano{l:List (List V)}:cC l l=True:=by simp[cC.rfl]
variable{D:af}
def apt:bK D D=True:=by simp[bK.rfl]
theorem anf:cQ [] []=True:=rfl
end
variable{l:List (List V)}{t:List V}{ι:Type}{D:af}
def bm.enter{I:ι->St}(j:ι)(h:cQ t (I j).t)(hl:cC l (I j).aD)(ho:bK D (I j).out):bm ⟨t,l,D⟩ λaM => ∃i,aM = I i :=
 bm.eT h hl ho ⟨j,rfl⟩
def bm.again{I:ι->St}{μ:ι->Nat}{n:Nat}(j:ι)(hm:μ j<n)(h:cQ t (I j).t)(hl:cC l (I j).aD)(ho:bK D (I j).out):
 bm ⟨t,l,D⟩ λaM => ∃i,aM = I i/\μ i<n:=bm.eT h hl ho ⟨j,rfl,hm⟩
def wrap_i64{x:Int}(h1 : -9223372036854775808<=x:=by omega)(h2:x<=9223372036854775807:=by omega):IntKind.i64.wrap x=x:=IntWalk.i64_in x ⟨h1,h2⟩
variable{b:Nat}{cs:List V}
def af.zB(h:D.box b=aa cs):D.set b cs=D:=by
 cases D;simp only[af.set,af.mk.injEq,il];funext x;split
 .rename_i hx;rw[hx];exact h.symm
 .rfl
variable{ds:List V}
def af.set_set:(D.set b cs).set b ds=D.set b ds:=by
 simp only[af.set,af.mk.injEq,il];funext x;split<;>rfl
def af.set_comm{c:Nat}(h:b≠c):(D.set b cs).set c ds=(D.set c ds).set b cs:=by
 simp only[af.set,af.mk.injEq,il];funext x
 by_cases h1:x=c
 .subst h1;rw[aE rfl,aA (λh2=>h h2.symm),aE rfl]
 .rw[aA h1,aA h1]
def j1(Z n:Nat)(v v' : V):Prop:=∀E E',E.le E' -> E'.aP Z=aa n->∀u,R E v u->R E' v' u
variable{v:V}{Z:Nat}
def j1.same{n:Nat}:j1 Z n v v:=λ_ _ h _ _ hr=>hr.mono _ h
def j1.le{n:Nat}{v':V}(h:dT v v'):j1 Z n v v' := λ_ _ hl _ _ hr=>(h _ _ hr).mono _ hl
variable{k:Nat}{m:List (List V)}
def j1.tok{n:Nat}(h:m.length=n):j1 Z n (.sl .ba k m) (.sl (.tk Z) k m):=λE E' hl ht u hr=>by
 have cB := hr.mono _ hl;simp only[R] at cB ⊢;obtain⟨a,cap,h1,h2,h3,h4⟩:=cB;exact⟨a,cap,h1,h2,h3,n,ht,by omega,λ_=>.inl h4⟩
def eZ(Z n:Nat):List V->List V->Prop
 | [],[]=>True
 | v::l,v' :: l' => j1 Z n v v' /\ eZ Z n l l'
 | _,_=>False
def eZ.rfl{n:Nat}:∀{l:List V},eZ Z n l l
 | []=>trivial
 | _::_=>⟨j1.same,eZ.rfl⟩
variable{E:Env}
def eZ.mono{n:Nat}{E':Env}(hl:E.le E')(ht:E'.aP Z=aa n):∀{l l' : List V} {us:List Value},eZ Z n l l' -> RL E l us->RL E' l' us
 | [],[],[],_,_=>by simp[RL]
 | [],[],_::_,_,h=>by simp[RL] at h
 | [],_::_,_,h,_=>h.elim
 | _::_,[],_,h,_=>h.elim
 | v::l,v' :: l',[],_,h=>by simp[RL] at h
 | v :: l, v' :: l', u :: us, h, hr => by
  simp only[RL] at hr ⊢;exact⟨h.1 _ _ hl ht _ hr.1,eZ.mono hl ht h.2 hr.2⟩
def eZ.length{n:Nat}:∀{l l' : List V},eZ Z n l l' -> l.length=l'.length
 | [],[],_=>Eq.refl _
 | [],_::_,h=>h.elim
 | _::_,[],h=>h.elim
 | v::l,v' :: l',h=>by simp[eZ.length h.2]
def eZ.get{n:Nat}:∀{l l' : List V},eZ Z n l l' -> ∀(j:Nat) v',l'[j]?=aa v' -> ∃v,l[j]?=aa v/\j1 Z n v v'
 | [],[],_,j,v',h=>by simp at h
 | [],_::_,h,_,_,_=>h.elim
 | _::_,[],h,_,_,_=>h.elim
 | v :: l, w :: l', h, j, v', hj => by
  cases j with
  | zero=>simp at hj;subst hj;exact⟨v,by simp,h.1⟩
  | succ j=>simp at hj;obtain⟨u,h1,h2⟩:=eZ.get h.2 j v' hj;exact⟨u,by simpa using h1,h2⟩
variable{cs':List V}
def jV.tok{n:Nat}{E':Env}(hl:E.le E')(ht:E'.aP Z=aa n)(hw:E'.w=E.w)(h:eZ Z n cs cs')(k:jV E b cs):jV E' b cs' := by
 obtain⟨c,e,h1,h2,h3⟩:=k;refine⟨c,e,by rw[hw];exact h1,by rw[<-h.length];exact h2,λj x hx=>?_⟩;obtain⟨v,hv,hle⟩:=h.get j x hx;obtain⟨u,k1,k2⟩:=h3 j v hv;exact⟨u,k1,hle _ _ hl ht _ k2⟩
structure qY(Z n:Nat)(D σ' : af):Prop where
 box:∀b cs',σ'.box b=aa cs' -> ∃cs,D.box b=aa cs/\eZ Z n cs cs'
 aP:∀O m,σ'.aP O=aa m->D.aP O=aa m
 b9:∀b cs,σ'.b9 b=aa cs->D.b9 b=aa cs
def qY.rfl{n:Nat}:qY Z n D D:=⟨λ_ cs h=>⟨cs,h,eZ.rfl⟩,λ_ _ h=>h,λ_ _ h=>h⟩
def qY.set{n:Nat}(h:D.box b=aa cs)(k:eZ Z n cs cs'):qY Z n D (D.set b cs'):=by
 refine⟨λc ds kF=>?_,λ_ _ h=>h,λ_ _ h=>h⟩;simp only[af.set] at kF;split at kF
 .rename_i hc;subst hc;simp only[a9] at kF;subst kF;exact⟨cs,h,k⟩
 .exact⟨ds,kF,eZ.rfl⟩
variable{K:St->Prop}
def bm.tok(n:Nat)(h:∀Z,D.aP Z=ag->∃t' l' σ',eZ Z n t t' /\ l.length=l'.length/\(∀(i:Nat) c',l'[i]?=aa c' -> ∃c,l[i]?=aa c/\eZ Z n c c')/\qY Z n D σ' /\ K ⟨t',l',σ'.aY Z n⟩):
 bm ⟨t,l,D⟩ K:=by
 intro E a hs;obtain⟨N,hN⟩:=hs.ok.nt;have L4:D.aP N=none:=by
  cases hq:D.aP N with
  | none=>rfl
  | some m=>have:=hs.ok.aP N m hq;rw[hN N (bS _)] at this;simp at this
 obtain⟨t',l',σ',h1,h2,h3,h4,h5⟩:=h N L4
 let E' : Env:={E with aP:=λt=>if t=N then aa n else E.aP t}
 have ht:E'.aP N=aa n:=by simp[E']
 have bj:Fr E E' := yG (E' := E') hs.ok.fresh (Ext.refl _) (λ_ _=>rfl) (λt m hm=>by
  simp only[E'];split
  .rename_i hq;subst hq;rw[hN t (bS _)] at hm;simp at hm
  .exact hm)
 have hle:E.le E' := bj.le λ_ _ h=>h
 refine⟨E',_,rfl,bj,⟨⟨λb cs bV=>?_,λZ m hm=>?_,hs.ok.fresh,?_,λb cs hc=>eG.mono _ bj.nl (hs.ok.b9 b cs (h4.b9 b cs hc))⟩,⟨λi cs bV=>?_,λi hi=>hs.dh.none i (by rw[h2];exact hi)⟩,hs.defers,h1.mono hle ht hs.slot⟩,h5⟩
 .obtain⟨An,q1,q2⟩:=h4.box b cs bV;obtain⟨k1,k2⟩:=hs.ok.box b An q1;exact⟨k1,k2.tok bj.nl ht rfl q2⟩
 .simp only[af.aY] at hm;simp only[E'];split at hm
  .rename_i hq;rw[aE hq];exact hm
  .rename_i hq;rw[aA hq];exact hs.ok.aP Z m (h4.aP Z m hm)
 .exact⟨N+1,λt ry => by simp only[E'];rw[aA (by omega)];exact hN t (by omega)⟩
 .obtain⟨c,q1,q2⟩:=h3 i cs bV;obtain⟨b,k1,k2,k3⟩:=hs.dh.box i c q1;exact⟨b,k1,k2,k3.tok hle ht rfl q2⟩
def am:=ah @af.set_set <| ah @auF <| ah @adX <| ah @Z5 <| ah @Z4 <| ah @Z6 <| ah @adn <| ah @ad' <| ah (ah (ah (ah (ah (ah (ah @adI @al0) (ah @adH (ah @adL @aqB))) (ah (ah @aqz @aqA) (ah @aqC (ah @adh @adm)))) (ah (ah (ah @adp @ado) (ah @amx (ah @adF @atr))) (ah (ah @adO (ah @adJ @adk)) (ah @adl (ah @adj @ads))))) (ah (ah (ah (ah @adv @adK) (ah @adD (ah @adE @adx))) (ah (ah @ady (ah @adA @adC)) (ah @alY (ah @adq @adr)))) (ah (ah (ah @abY @adi) (ah @adw (ah @adG @adu))) (ah (ah @adz (ah (ah @ajH @ajG) @ajD)) (ah @ajF (ah @ajE @acp)))))) (ah (ah (ah (ah (ah @aco @acn) (ah @acm (ah @as7 @as8))) (ah (ah @asM @asN) (ah @amA (ah @amB (ah @amz @amy))))) (ah (ah (ah @auH @ak3) (ah @avh (ah @avi @aew))) (ah (ah @ad4 (ah @ad_ @aeb)) (ah @aea (ah @aeq @aex))))) (ah (ah (ah (ah @aet @ad8) (ah @ad9 (ah @ad7 @aee))) (ah (ah @aeh (ah @aeu @aeo)) (ah @aep (ah @aej @aek)))) (ah (ah (ah @ael @aen) (ah @aec (ah @aed @ad5))) (ah (ah @ad6 (ah @aei @aer)) (ah @aeg (ah @aef @aes))))))) <| ah @ane <| ah @anc <| ah @anj <| ah @ang <| ah @ann <| ah @anm <| ah @ano <| ah @apt <| ah @anb <| ah @ani <| ah @anf <| ah @jY <| ah @wO <| ah @r6 <| ah @eqI <| ah @alB <| ah @alA <| (ah (ah (ah (ah (ah (ah (ah @auM (ah @auI @auN)) (ah (ah @auE @auL) (ah @auC @auA))) (ah (ah (ah @auz @auB) (ah @auG @auJ)) (ah (ah @aaO @aaN) (ah @aaP @abm)))) (ah (ah (ah @abn (ah @abl @anz)) (ah (ah @anB @anA) (ah @arV @arU))) (ah (ah (ah @apR @asA) (ah @acL @asz)) (ah (ah @asy @asx) (ah @apx @apw))))) (ah (ah (ah (ah @apv (ah @anV @ae4)) (ah (ah @ae2 @ae6) (ah @ae5 @ajU))) (ah (ah (ah @ajT @as6) (ah @as4 @ara)) (ah (ah @aq' @apd) (ah @al1 @apO)))) (ah (ah (ah (ah @apc @aph) (ah @aqF @aqD)) (ah (ah @aqE @aqG) (ah @aoL @aoS))) (ah (ah (ah @aoM @aoT) (ah @aoV @apP)) (ah (ah @aoU @apa) (ah @apQ @apk)))))) (ah (ah (ah (ah (ah @ape (ah @aol @aoj)) (ah (ah @aok @aoQ) (ah @aoR @aoP))) (ah (ah (ah @aoY @ab2) (ah @ao1 @apf)) (ah (ah @aoH @ao_) (ah @amM @ao')))) (ah (ah (ah @amN (ah @ao4 @afO)) (ah (ah @afN @ao5) (ah @afP @ao7))) (ah (ah (ah @ao9 @aoW) (ah @alZ @aoX)) (ah (ah @abZ @aoN) (ah @ao3 @afb))))) (ah (ah (ah (ah @afa (ah @apb @ao0)) (ah (ah @adf @ao6) (ah (ah @ajM @ajL) @ajI))) (ah (ah (ah @ajK @ajJ) (ah @amE (ah @amF @amD))) (ah (ah @amC @amv) (ah @zg @amw)))) (ah (ah (ah (ah @atX @Pc) (ah @anU @ad0)) (ah (ah @adZ @atu) (ah @ats @atv))) (ah (ah (ah @att @jh) (ah (ah (ah @as1 @asZ) @asY) @as5)) (ah (ah @O0 @abq) (ah @abp @abk))))))) (ah (ah (ah (ah (ah (ah @asg (ah @asf @ar7)) (ah (ah @ar3 @abi) (ah @alm @alw))) (ah (ah (ah @als @aln) (ah @alu @alr)) (ah (ah @alq @alp) (ah @alo @abj)))) (ah (ah (ah @atK (ah @atP @atO)) (ah (ah @atN @atM) (ah @atL @aeI))) (ah (ah (ah @aeJ @aeL) (ah @aeM @aeH)) (ah (ah @qn @He) (ah @r5 @K1))))) (ah (ah (ah (ah @aeK (ah @au6 @au_)) (ah (ah @au7 @avc) (ah @avb @ava))) (ah (ah (ah @au8 @au9) (ah @au' @ab_)) (ah (ah @acd @ab') (ah @acj @aci)))) (ah (ah (ah (ah @ach @aca) (ah @acb @ace)) (ah (ah @apD @apC) (ah @NZ @apE))) (ah (ah (ah @V5 @apK) (ah @apJ @apF)) (ah (ah @apH @apI) (ah @aot @aos)))))) (ah (ah (ah (ah (ah @aoA (ah @aow @aoF)) (ah (ah @aoE @aov) (ah (ah @aoC @aoz) @aox))) (ah (ah (ah @aoB @aou) (ah @aoG @aoy)) (ah (ah @aoD @aeU) (ah @aeR @aeY)))) (ah (ah (ah (ah @aeX @aeQ) (ah @aeW @aeS)) (ah (ah @aeV @aeP) (ah @aeZ @aeT))) (ah (ah (ah @aeO @aeN) (ah @akm @akl)) (ah (ah @mU @p8) (ah @mC @ka))))) (ah (ah (ah (ah @amP (ah @amO @ajS)) (ah (ah @ajV @anC) (ah @anD @aaa))) (ah (ah (ah @Z_ @auu) (ah @aut @anl)) (ah (ah @ank @ato) (ah @apG @true_eq)))) (ah (ah (ah (ah @afh @aum) (ah @afs @Z1)) (ah (ah @Z0 @aun) (ah @aft @apT))) (ah (ah (ah @aoJ @aoI) (ah @alz @aly)) (ah (ah @at2 @Z2) (ah @rlZ @rlS))))))))
section
variable {Z n k:Nat} {v v' : V} {c e t:List V} {l l' : List (List V)} {D:af}
def auU:j1 Z n v .any=True:=by simp[j1.le dT.any]
def auV:j1 Z n v v=True:=by simp[j1.same]
def auW:j1 Z 0 (.sl .ba k []) (.sl (.tk Z) k [])=True:=by simp[j1.tok]
theorem anJ:eZ Z n (v::c) (v' :: e)=(j1 Z n v v' /\ eZ Z n c e):=rfl
theorem anK:eZ Z n [] []=True:=rfl
def anL:eZ Z n c c=True:=by simp[eZ.rfl]
def kJ:=ah @auU <| ah @auV <| ah @auW <| ah @anJ <| ah @anK @anL
def bm.sH{I:ι->St}(n:Nat)(h:∀Z,D.aP Z=ag->∃i,eZ Z n t (I i).t/\l=(I i).aD/\(I i).out=D.aY Z n):bm ⟨t,l,D⟩ λaM => ∃i,aM = I i :=
 bm.tok n λZ bc=>by
  obtain⟨i,h1,h2,h3⟩:=h Z bc;refine⟨(I i).t,(I i).aD,D,h1,by rw[h2],λj c' hc=>⟨c',by rw[h2];exact hc,eZ.rfl⟩,qY.rfl,i,?_⟩;rw[<-h3]
def gJ{Z m n:Nat}:(D.aY Z m).aY Z n=D.aY Z n:=by
 simp only[af.aY,af.mk.injEq,pq,il];funext x;split<;>rfl
def jQ{Z n:Nat}(h:D.aP Z=ag):D.sub (D.aY Z n):=by
 refine⟨λ_ _ h=>h,λO m hm=>?_,λ_ _ h=>h⟩
 have:O≠Z:=by rintro rfl;rw[h] at hm;simp at hm
 simp only[af.aY];rw[aA this];exact hm
def gw{Z n:Nat}:(D.aY Z n).aP Z=aa n:=by simp[af.aY]
end
variable{i:Nat}{U:Type}
def Bw{l:List U}{x:U}(h:l[i]?=aa x):l.take (i+1)=l.take i++[x]:=by rw[List.take_add_one,h];simp
mutual
def V.lo(n:Nat):V->Bool
 | .ptr (.aD i) _=>decide (i<n)
 | .agg cs=>bR n cs
 | .bt cs=>bR n cs
 | .fn _ a b=>bR n a&&bR n b
 | _=>ab
def bR(n:Nat):List V->Bool
 | []=>ab
 | x::xs=>x.lo n&&bR n xs
end
def dw(n:Nat):List (List V)->Bool
 | []=>ab
 | x::xs=>bR n x&&dw n xs
def Env.cut(E:Env)(n:Nat):Env:={E with aD:=λi=>if i<n then E.aD i else ag}
mutual
def R.cut{n:Nat}:∀(x:V) {E:Env} {v:Value},x.lo n=ab->R E x v->R (E.cut n) x v
 | .any,_,_,_,_=>by simp only[R]
 | .bool _,_,_,_,h=>by simp only[R] at h ⊢;exact h
 | .int _ _,_,_,_,h=>by simp only[R] at h ⊢;exact h
 | .aF _,_,_,_,h=>by simp only[R] at h ⊢;exact h
 | .jd,_,_,_,h=>by simp only[R] at h ⊢;exact h
 | .ptr (.aD i) off, E, _, hl, h => by
  simp only[V.lo,cn] at hl;simp only[R] at h ⊢;obtain⟨b,h1,h2⟩:=h;exact⟨b,by simp[Env.cut,hl,h1],h2⟩
 | .ptr (.out _) _,_,_,_,h=>by simp only[R] at h ⊢;exact h
 | .ptr (.kB _) _,_,_,_,h=>by simp only[R] at h ⊢;exact h
 | .elt _ _,_,_,_,h=>by simp only[R] at h ⊢;exact h
 | .sl _ _ _,_,_,_,h=>by simp only[R] at h ⊢;exact h
 | .agg cs, _, _, hl, h => by
  simp only[V.lo] at hl;simp only[R] at h ⊢;obtain⟨vs,h1,h2⟩:=h;exact⟨vs,h1,RL.cut cs hl h2⟩
 | .bt cs, _, _, hl, h => by
  simp only[V.lo] at hl;simp only[R] at h ⊢;obtain⟨vs,h1,h2⟩:=h;exact⟨vs,h1,RL.cut cs hl h2⟩
 | .fn _ a b, _, _, hl, h => by
  simp only[V.lo,bF] at hl;simp only[R] at h ⊢;obtain⟨fs,cs,h1,h2,h3⟩:=h;exact⟨fs,cs,h1,RL.cut a hl.1 h2,RL.cut b hl.2 h3⟩
 | .raw _,_,_,_,h=>by simp only[R] at h ⊢;exact h
def RL.cut{n:Nat}:∀(l:List V) {E:Env} {vs:List Value},bR n l=ab->RL E l vs->RL (E.cut n) l vs
 | [],_,[],_,_=>by simp only[RL]
 | [],_,_::_,_,h=>by simp only[RL] at h
 | _::_,_,[],_,h=>by simp only[RL] at h
 | x :: xs, _, v :: vs, hl, h => by
  simp only[bR,bF] at hl;simp only[RL] at h ⊢;exact⟨R.cut x hl.1 h.1,RL.cut xs hl.2 h.2⟩
end
def Vt{n:Nat}:∀{l:List V} {j:Nat} {x:V},bR n l=ab->l[j]?=aa x->x.lo n=ab
 | [],j,x,_,h=>by simp at h
 | y::ys,0,x,hl,h=>by simp only[bR,bF] at hl;simp at h;rw[<-h];exact hl.1
 | y::ys,j+1,x,hl,h=>by simp only[bR,bF] at hl;exact Vt hl.2 (by simpa using h)
def Vs{n:Nat}:∀{l:List (List V)} {j:Nat} {x:List V},dw n l=ab->l[j]?=aa x->bR n x=ab
 | [],j,x,_,h=>by simp at h
 | y::ys,0,x,hl,h=>by simp only[dw,bF] at hl;simp at h;rw[<-h];exact hl.1
 | y::ys,j+1,x,hl,h=>by simp only[dw,bF] at hl;exact Vs hl.2 (by simpa using h)
def jV.cut{n:Nat}(h:bR n cs=ab)(k:jV E b cs):jV (E.cut n) b cs:=by
 obtain⟨c,e,h1,h2,h3⟩:=k;exact⟨c,e,h1,h2,λj x hx=>by
  obtain⟨u,k1,k2⟩:=h3 j x hx;exact⟨u,k1,R.cut x (Vt h hx) k2⟩⟩
def Fr.cut(E:Env)(n:Nat):Fr E (E.cut n) :=
 ⟨rfl,rfl,rfl,bS _,λ_=>rfl,(Env.le.refl E).cell,(Env.le.refl E).tok,λ_ _ _=>⟨rfl,rfl⟩,λ_ _ h=>.inl h,λ_ _ c _ h=>⟨c,h⟩,λ_ i _ h=>⟨i,h⟩,λ_ c _ h=>⟨c,h,rfl⟩⟩
def bm.drop{l2:List (List V)}(ht:bR l.length t=ab)(hl:dw l.length l=ab)(hk:K ⟨t,l,D⟩):bm ⟨t,l++l2,D⟩ K:=by
 intro E a hs;refine⟨E.cut l.length,⟨t,l,D⟩,rfl,Fr.cut E _,⟨⟨hs.ok.box,hs.ok.aP,hs.ok.fresh,hs.ok.nt,hs.ok.b9⟩,⟨λi cs bV=>?_,λi hi=>?_⟩,hs.defers,RL.cut _ ht hs.slot⟩,hk⟩
 .have hi:i<l.length:=(fv.1 bV).1;obtain⟨b,k1,k2,k3⟩:=hs.dh.box i cs (by rw[tT hi];exact bV);exact⟨b,by simp[Env.cut,hi,k1],k2,k3.cut (Vs hl bV)⟩
 .simp only[Env.cut];rw[aA (by simp only at hi;omega)]
def cC.app:∀{l l' m:List (List V)},cC (l.take l'.length) l' -> cC l (l' ++ l.drop l'.length)
 | [],[],_,_=>trivial
 | [],_::_,_,h=>h.elim
 | v::l,[],m,_=>by simp[cC.rfl]
 | v :: l, w :: l', m, h => by
  simp only[dB,wM,cC] at h;simp only[dB,iv,DJ,cC];exact⟨h.1,cC.app (m:=m) h.2⟩
variable{l':List (List V)}{σ':af}
def bm.Cb{t':List V}(h:cQ t t')(hl:cC (l.take l'.length) l')(ho:bK D σ')(h1:bR l'.length t' = ab)(h2:dw l'.length l' = ab)(hk:K ⟨t',l',σ'⟩):bm ⟨t,l,D⟩ K :=
 (bm.eT (K:=λst=>st=⟨t',l' ++ l.drop l'.length,σ'⟩) h (cC.app (m:=[]) hl) ho rfl).bind λ_ e=>e▸bm.drop h1 h2 hk
def bm.ql{I:ι->St}{μ:ι->Nat}{n:Nat}(j:ι)(hm:μ j<n)(h:cQ t (I j).t)(hl:cC (l.take (I j).aD.length) (I j).aD)(ho:bK D (I j).out)(h1:bR (I j).aD.length (I j).t=ab)(h2:dw (I j).aD.length (I j).aD=ab):
 bm ⟨t,l,D⟩ λaM => ∃i,aM = I i/\μ i<n:=bm.Cb h hl ho h1 h2 ⟨j,rfl,hm⟩
section
variable {P:Program} {d:Option Nat} {q:OQ} {xs:List X} {r:List AO} {K:St->Prop} {t:List V} {l:List (List V)} {D:af}
theorem apg:b7 P (⟨d,.own q xs,ag⟩::r) K ⟨t,l,D⟩=q.bh D (kC P d r K t l) (di ⟨t,l,D⟩ xs):=rfl
variable{H:V->af->Prop}
theorem ap3:OQ.bh D H .nil []=H (.raw (.slice ag 0 0)) D:=rfl
variable{c e:List V}
def anh{u:Value}:cQ (.raw u::c) (.raw u::e)=cQ c e:=by simp[cQ,dT.rfl]
def jm:=ah @apg <| ah @ap3 @anh
def fO(D:af)(k:Nat)(v:V)(rows:List (List V)):Prop :=
 ∃a cap,v = .raw (.slice a rows.length cap)/\rows.length<=cap/\(∀r∈rows,r.length=k)/\(cap=0\/∃b cs,a=aa ⟨b,0,ag⟩/\D.box b=aa cs/\cs.length=cap*k/\cs.take (rows.length*k)=rows.flatten)
def sE:V->Option Nat
 | .raw (.slice (aa ⟨b,_,_⟩) _ _)=>aa b
 | _=>ag
def fO.none:fO D k (.raw (.slice ag 0 0)) []:=⟨_,0,rfl,by simp,by simp,.inl rfl⟩
def fO.len{rows:List (List V)}(h:fO D k v rows)(hk:H (.int .i64 rows.length) D):OQ.bh D H .len [v]:=by
 obtain⟨a,cap,rfl,_⟩:=h;exact hk
def fO.frame{rows:List (List V)}(h:fO D k v rows)(hb:∀b cs,sE v=aa b->D.box b=aa cs->σ'.box b=aa cs):fO σ' k v rows:=by
 obtain⟨a,cap,rfl,h1,h2,h3⟩:=h;refine⟨a,cap,rfl,h1,h2,?_⟩
 rcases h3 with h3 | ⟨b,cs,rfl,h4,h5⟩
 .exact .inl h3
 .exact .inr ⟨b,cs,rfl,hb b cs rfl h4,h5⟩
def SF{k:Nat}:∀{rows:List (List V)} {m:Nat},(∀r∈rows,r.length=k)->rows.flatten.take (m*k)=(rows.take m).flatten
 | [],m,_=>by simp
 | r::rows,0,_=>by simp
 | r :: rows, m + 1, h => by
  simp only[ff] at h;rw[lE,wM,lE,jD,yj,List.take_append,h.1,zY (by omega),show m*k+k - k=m*k by omega,SF h.2]
def La{k:Nat}:∀{rows:List (List V)} {m:Nat},(∀r∈rows,r.length=k)->rows.flatten.drop (m*k)=(rows.drop m).flatten
 | [],m,_=>by simp
 | r::rows,0,_=>by simp
 | r :: rows, m + 1, h => by
  simp only[ff] at h;rw[lE,DJ,jD,yj,List.drop_append,h.1,P8 (by omega),show m*k+k - k=m*k by omega,gN,La h.2]
def fO.idx{rows:List (List V)}{j:Int}{i:IntKind}(h:fO D k v rows)(h0:0<=j)(hj:rows[j.toNat]?=aa c)
 (hk:∀b cs rest,sE v=aa b->D.box b=aa cs->cs.drop (j.toNat*k)=c++rest->H (.ptr (.out b) (j.toNat*k)) D):OQ.bh D H (.idx k) [v,.int i j]:=by
 obtain⟨a,cap,rfl,h1,h2,h3⟩:=h;have aC:=(fv.1 hj).1
 rcases h3 with h3 | ⟨b,cs,rfl,h4,h5,h6⟩
 .omega
 .have e1:cs=rows.flatten++cs.drop (rows.length*k):=by rw[<-h6];simp
  have e2:rows.drop j.toNat=c::rows.drop (j.toNat+1):=by
   rw[mJ aC,(fv.1 hj).2]
  have lI:=nr h2;have e3:cs.drop (j.toNat*k)=c++((rows.drop (j.toNat+1)).flatten++cs.drop (rows.length*k)):=by
   have hle:j.toNat*k<=rows.length*k:=sS _ (by omega);rw[e1,Zx (by rw[lI];exact hle),La h2,e2,lE,e9];congr 2;rw[List.drop_append,lI];simp[P8,lI]
  show 0<=j/\j<(rows.length:Nat)/\H (.ptr (.out b) (0+j.toNat*k)) D;rw[jY];exact⟨h0,by omega,hk b cs _ rfl h4 e3⟩
def fO.take{m:Nat}{rows:List (List V)}{i:IntKind}{j:Int}(h:fO D k v rows)(h0:0<=j)(hj:j.toNat=m)(hm:m<=rows.length)(hk:∀v',fO D k v' (rows.take m)->sE v' = sE v->H v' D):OQ.bh D H (.kV k ak ab ak) [v,.int i j]:=by
 obtain⟨a,cap,rfl,h1,h2,h3⟩:=h;show lH ak 0 [.int i j] λm vs=>lH ab rows.length vs λh vs=>lH ak cap vs λM vs=>vs=[]/\m<=h/\h<=M/\M<=cap/\H (.raw (.slice (if M=m then a else a.map (·.add (m*k))) (h - m) (M - m))) D
 refine⟨h0,rfl,by omega,by omega,bS _,?_⟩;have ea:(if cap=0 then a else a.map (·.add (0*k)))=a:=by
  split
  .rfl
  .rcases h3 with h3 | ⟨b,cs,rfl,_⟩
   .omega
   .simp[l9]
 rw[ea,hj];refine hk _ ⟨a,cap,?_,?_,λr hr=>h2 r (BU hr),?_⟩ (by cases a with
  | none=>rfl
  | some ad=>cases ad;rfl)
 .rw[jj,yi hm];rfl
 .rw[jj];omega
 .rcases h3 with h3 | ⟨b,cs,rfl,h4,h5,h6⟩
  .exact .inl h3
  .refine .inr ⟨b,cs,rfl,h4,h5,?_⟩;rw[jj,yi hm,<-SF h2,<-h6,List.take_take,yi (sS _ hm)]
structure Kd(D:af)(v:V)(σ' : af)(v' : V):Prop where
 my:∀b cs,D.box b=aa cs->sE v≠aa b->σ'.box b=aa cs
 aP:σ'.aP=D.aP
 new:∀b,sE v' = aa b->sE v=aa b\/D.box b=ag
 b9:σ'.b9=D.b9
def X7{k n:Nat}:∀{cs xs ys:List V},cs.take n=ys->n+xs.length<=cs.length->ys.length=n->(setAt cs n xs).take (n+xs.length)=ys++xs/\(setAt cs n xs).length=cs.length:=by
 intro cs xs ys h1 h2 h3;have ov:∀{cs xs:List V},xs.length<=cs.length->(over cs xs).take xs.length=xs/\(over cs xs).length=cs.length:=by
  intro cs;induction cs with
  | nil=>intro xs h;cases xs with | nil=>simp[over] | cons x xs=>simp at h
  | cons c cs ih =>
   intro xs h;cases xs with
   | nil=>simp[over]
   | cons x xs =>
    obtain⟨k1,k2⟩:=ih (xs:=xs) (by simpa using h);simp[over,k1,k2]
 induction n generalizing cs ys with
 | zero =>
  simp at h3;subst h3;obtain⟨k1,k2⟩:=ov (cs:=cs) (xs:=xs) (by omega);have e:setAt cs 0 xs=over cs xs:=by cases cs<;>rfl
  rw[e];simpa using ⟨k1,k2⟩
 | succ n ih =>
  cases cs with
  | nil=>simp at h2
  | cons c cs =>
   cases ys with
   | nil=>simp at h3
   | cons y ys =>
    simp only[wM,ig] at h1;obtain⟨k1,k2⟩:=ih (cs:=cs) (ys:=ys) h1.2 (by simp at h2;omega) (by simpa using h3);simp only[setAt];rw[show n+1+xs.length=(n+xs.length)+1 by omega];simp[k1,k2,h1.1]
def fO.app{rows:List (List V)}{tk:Tk}(h:fO D k v rows)(hm:∀r∈m,r.length=k)(hn:bO m.flatten=ab)(hb:rows.length+m.length<=aK)
 (hk:∀v' σ',fO σ' k v' (rows++m)->Kd D v σ' v' -> H v' σ'):OQ.bh D H (.app k) [v,.sl tk k m]:=by
 obtain⟨a,cap,rfl,h1,h2,h3⟩:=h;have Cw:=nr hm;have bj:=nr h2;refine⟨rfl,h1,hb,hn,λe=>?_,λe hle=>?_,λaC=>?_⟩
 .subst e;refine hk _ _ ⟨a,cap,by simp,by simpa using h1,by simpa using h2,by simpa using h3⟩ ⟨λ_ _ h _=>h,rfl,λb hb=>.inl hb,rfl⟩
 .rcases h3 with h3 | ⟨b,cs,rfl,h4,h5,h6⟩
  .have:m.length=0:=by omega
   exact absurd (tS this) e
  .have pO:rows.length*k+m.length*k<=cs.length:=by rw[h5,<-jD];exact sS _ hle
   refine⟨b,cs,rfl,h4,pO,hk _ _ ⟨aa ⟨b,0,Option.none⟩,cap,by simp,by simpa using hle,λr hr=>?_,.inr ⟨b,_,rfl,af.eH _ _ _,?_,?_⟩⟩ ⟨λb' cs' cc aW=>?_,rfl,λb' cc => .inl cc,rfl⟩⟩
   .rcases jC.1 hr with hr | hr
    .exact h2 r hr
    .exact hm r hr
   .rw[(X7 (k:=k) h6 (by rw[Cw];exact pO) bj).2];exact h5
   .have:=(X7 (k:=k) h6 (by rw[Cw];exact pO) bj).1
    rw[Cw] at this;rw[bP,jD,this,vf]
   .have:b' ≠ b:=by rintro rfl;exact aW rfl
    rw[af.eQ _ _ this];exact cc
 .have base:∀cs:List V,cs.take (rows.length*k)=rows.flatten->∀b' pC,D.box b' = Option.none->rows.length+m.length<=pC -> H (.raw (.slice (aa ⟨b',0,Option.none⟩) (rows.length+m.length) pC)) (D.set b' (cs.take (rows.length*k)++m.flatten++ar ((pC - (rows.length+m.length))*k) .any)):=by
   intro cs h6 b' pC cc hc;refine hk _ _ ⟨aa ⟨b',0,Option.none⟩,pC,by simp,by simpa using hc,λr hr=>?_,.inr ⟨b',_,rfl,af.eH _ _ _,?_,?_⟩⟩ ⟨λQ3 cs' ri aW=>?_,rfl,λQ3 ri => ?_,rfl⟩
   .rcases jC.1 hr with hr | hr
    .exact h2 r hr
    .exact hm r hr
   .rw[h6];simp only[bP,bj,Cw,List.length_replicate];rw[<-jD,<-jD];congr 1;omega
   .rw[h6,bP,vf,ZF (by simp only[bP,bj,Cw];rw[jD];omega),zY (by simp only[bP,bj,Cw];rw[jD];omega)]
   .have:Q3 ≠ b' := by rintro rfl;rw[cc] at ri;simp at ri
    rw[af.eQ _ _ this];exact ri
   .simp only[sE,a9] at ri;subst ri;exact .inr cc
  rcases h3 with h3 | ⟨b,cs,rfl,h4,h5,h6⟩
  .have h0:rows=[]:=tS (by omega);subst h0;exact⟨[],.inl ⟨rfl,rfl⟩,base [] (by simp)⟩
  .refine⟨cs,.inr ⟨b,rfl,h4,?_⟩,base cs h6⟩;rw[h5];exact sS _ h1
structure vm(dz D:af)(v:V):Prop where
 sub:dz.sub D
 new:∀b,sE v=aa b->dz.box b=ag
def vm.start{m n:Nat}:vm D D (.raw (.slice ag m n)):=⟨af.bg D,λb h=>by simp[sE] at h⟩
def vm.step{dz:af}{v':V}(h:vm dz D v)(f:Kd D v σ' v'):vm dz σ' v' := by
 refine⟨⟨λb cs hb=>?_,λt n hn=>by rw[f.aP];exact h.sub.2.1 t n hn,λb cs hc=>by rw[f.b9];exact h.sub.2.2 b cs hc⟩,λb hb=>?_⟩
 .exact f.my b cs (h.sub.1 b cs hb) (λe=>by rw[h.new b e] at hb;simp at hb)
 .rcases f.new b hb with e | e
  .exact h.new b e
  .cases hq:dz.box b with
   | none=>rfl
   | some cs=>rw[h.sub.1 b cs hq] at e;simp at e
end
section
variable {P:Program} {d:Option Nat} {K:St->Prop} {st:St} {b w:Bool}
def jH{op:aO}{r:List AO}(h1:b=ab->gL P (.bool ab) w d op r K st)(h2:b=ak->gL P (.bool ak) w d op r K st):gL P (.bool b) w d op r K st:=by cases b with
 | true=>exact h1 rfl
 | false=>exact h2 rfl
def jL{x y:V}{r:List AO}(h1:b=ab->uN P (.bool ab) x y d r K st)(h2:b=ak->uN P (.bool ak) x y d r K st):uN P (.bool b) x y d r K st:=by cases b with
 | true=>exact h1 rfl
 | false=>exact h2 rfl
end
section
variable {P:Program} {d:Option Nat} {K:St->Prop} {t:List V} {l:List (List V)} {D:af} {r:List AO}
def sX(st:St):Option X->Option V
 | none=>ag
 | some x=>aa (ev st x)
def CW(n:Nat)(adP:Nat):Option V->Prop
 | none=>n=adP
 | some v=>∃j,v = .int j n
def O3(v:V)(lo hi:Option V)(H:V->Prop):Prop:=∃s a b,v = .aF s/\a<=b/\b<=s.length/\CW a 0 lo/\CW b s.length hi/\H (.aF ((s.take b).drop a))
def FQ(k:Nat)(v:V)(lo hi mx:Option V)(H:V->Prop):Prop:=(∃Z l a b,v = .sl Z k l/\a<=b/\b<=l.length/\CW a 0 lo/\CW b l.length hi /\
 match mx with
 | none=>H (.sl .no k ((l.take b).drop a))
 | some y=>(∃j,y = .int j b)/\H (.sl .ba k ((l.take b).drop a))) \/
 ∃a n cap m h,v = .raw (.slice a n cap)/\m<=h/\h<=cap/\CW m 0 lo/\CW h n hi/\mx.isNone=ab/\H (.raw (.slice (if cap=m then a else a.map (·.add (m*k))) (h - m) (cap - m)))
variable{hi:Option X}
def api{x:X}{lo:Option X}:b7 P (⟨d,.zE x lo hi,ag⟩::r) K ⟨t,l,D⟩=O3 (ev ⟨t,l,D⟩ x) (sX ⟨t,l,D⟩ lo) (sX ⟨t,l,D⟩ hi) (kL P d r K ⟨t,l,D⟩):=by
 cases lo<;>cases hi<;>rfl
variable{mx:Option X}
def apj{x:X}{lo:Option X}:b7 P (⟨d,.kV k x lo hi mx,ag⟩::r) K ⟨t,l,D⟩=FQ k (ev ⟨t,l,D⟩ x) (sX ⟨t,l,D⟩ lo) (sX ⟨t,l,D⟩ hi) (sX ⟨t,l,D⟩ mx) (kL P d r K ⟨t,l,D⟩):=by
 cases lo<;>cases hi<;>cases mx<;>rfl
variable{L:List (V × Bool × Nat × V × List Nat)}{ms:List Nat}
def adM{x:X}{lo:Option X}{r:List (AO × List Nat)}{SN:List dm}:cy P ((⟨d,.zE x lo hi,ag⟩,ms)::r) SN L K ⟨t,l,D⟩=O3 (ev ⟨t,l,D⟩ x) (sX ⟨t,l,D⟩ lo) (sX ⟨t,l,D⟩ hi) (kD P d r SN L K ⟨t,l,D⟩):=by
 cases lo<;>cases hi<;>rfl
def adN{x:X}{lo:Option X}{r:List (AO × List Nat)}{SN:List dm}:cy P ((⟨d,.kV k x lo hi mx,ag⟩,ms)::r) SN L K ⟨t,l,D⟩=FQ k (ev ⟨t,l,D⟩ x) (sX ⟨t,l,D⟩ lo) (sX ⟨t,l,D⟩ hi) (sX ⟨t,l,D⟩ mx) (kD P d r SN L K ⟨t,l,D⟩):=by
 cases lo<;>cases hi<;>cases mx<;>rfl
theorem ae0{st:St}:sX st ag=none:=rfl
theorem ae1{st:St}{x:X}:sX st (aa x)=aa (ev st x):=rfl
variable{a:Nat}{s:List UInt8}
def Dk{j j' : IntKind}{H:V->Prop}(h1:a<=b)(h2:b<=s.length)(h:H (.aF ((s.take b).drop a))):O3 (.aF s) (aa (.int j a)) (aa (.int j' b)) H:=⟨s,a,b,rfl,h1,h2,⟨j,rfl⟩,⟨j',rfl⟩,h⟩
def atm{Z:Tk}{j:IntKind}{H:V->Prop}(h2:a<=m.length)(h:H (.sl .no k (m.drop a))):FQ k (.sl Z k m) (aa (.int j a)) ag ag H:=.inl ⟨Z,m,a,m.length,rfl,h2,bS _,⟨j,rfl⟩,rfl,by rw[fm];exact h⟩
def Yf{Z:Tk}{j:IntKind}{H:V->Prop}(h2:b<=m.length)(h:H (.sl .no k (m.take b))):FQ k (.sl Z k m) ag (aa (.int j b)) ag H:=.inl ⟨Z,m,0,b,rfl,Ka _,h2,rfl,⟨j,rfl⟩,h⟩
def cV:=ah @aoZ <| ah @aoO <| ah @api <| ah @apj <| ah @adM <| ah @adN <| ah @ae0 <| ah @ae1 <| ah @ao8 <| ah @adB <| ah @adt <| ah @auK <| ah @aop <| ah @aoo <| ah @aoq <| ah @aru <| ah @art <| ah @arv @aem
end
def D9(a b:List UInt8):dE (a++b)=dE a++dE b:=by simp[dE]
def jE(a:List UInt8):(dE a).length=a.length:=by simp[dE]
abbrev bD:=BitVec 64
section
variable {a b c:bD} {n:Int} {m:Nat}
def wrap_u64{x:Int}(h1:0<=x)(h2:x<18446744073709551616):IntKind.u64.wrap x=x:=IntWalk.u64_in x (by omega)
def au1(a:bD):(a.toNat:Int)<18446744073709551616:=by have:=a.isLt;omega
def Pp:BitVec.ofInt 64 (a.toNat:Nat)=a:=by simp
def Ps:IntKind.u64.wrap (a.toNat:Nat)=(a.toNat:Nat):=wrap_u64 (by omega) (au1 a)
def auY:IntKind.u64.wrap ((a.toNat:Nat)+(b.toNat:Nat))=((a+b).toNat:Nat):=by
 rw[IntKind.wrap_u64,BitVec.toNat_add];omega
def Pr:IntKind.u64.wrap ((a.toNat:Nat) - (b.toNat:Nat))=((a - b).toNat:Nat):=by
 have:=a.isLt;have:=b.isLt
 rw[IntKind.wrap_u64,BitVec.toNat_sub];omega
def au2:IntKind.u64.wrap ((a.toNat:Nat)*(b.toNat:Nat))=((a*b).toNat:Nat):=by
 rw[IntKind.wrap_u64,BitVec.toNat_mul,<-Int.natCast_mul];generalize a.toNat*b.toNat=x;omega
def x9:iP .u64 (a.toNat:Nat) (b.toNat:Nat) .and=aa (.int .u64 ((a&&&b).toNat:Nat)):=by
 (simp only[iP,IntKind.bits,Pp,Ps];rfl)
def Dw:iP .u64 (a.toNat:Nat) (b.toNat:Nat) .or=aa (.int .u64 ((a|||b).toNat:Nat)):=by
 (simp only[iP,IntKind.bits,Pp,Ps];rfl)
def YV:iP .u64 (a.toNat:Nat) (b.toNat:Nat) .andNot=aa (.int .u64 ((a&&&~~~b).toNat:Nat)):=by
 (simp only[iP,IntKind.bits,Pp,Ps];rfl)
def Pq:iP .u64 (a.toNat:Nat) (m:Nat) .shl=aa (.int .u64 ((a<<<m).toNat:Nat)):=by
 simp only[iP,IntKind.bits];rw[aA (by omega),IntKind.wrap_u64,PX,Qs];simp only[jW,a9,V.int.injEq,pq]
 by_cases h:m<=64
 .rw[show m.min 64=m from yi h,show(2:Int)^m=((2^m:Nat):Int) by simp,<-Int.natCast_mul];generalize a.toNat*2^m=x;omega
 .rw[show m.min 64=64 from Nat.min_eq_right (by omega)];obtain⟨k,rfl⟩:∃k,m=64+k:=⟨m - 64,by omega⟩;rw[Nat.pow_add,<-Nat.mul_assoc,Nat.mul_comm _ (2^64),Nat.mul_assoc,Nat.mul_mod_right];omega
def Jx:iP .u64 (a.toNat:Nat) (m:Nat) .shr=aa (.int .u64 ((a>>>m).toNat:Nat)):=by
 simp only[iP,IntKind.bits];rw[aA (by omega),BitVec.toNat_ushiftRight,Nat.shiftRight_eq_div_pow];simp only[jW,a9,V.int.injEq,pq];rw[Int.fdiv_eq_ediv_of_nonneg _ (Int.le_of_lt (Int.pow_pos (by decide)))]
 by_cases h:m<=64
 .rw[show m.min 64=m from yi h];norm_cast
 .rw[show m.min 64=64 from Nat.min_eq_right (by omega)];have h1:a.toNat / 2^m=0:=Nat.div_eq_of_lt (vk a.isLt (Nat.pow_le_pow_right (by decide) (by omega)));rw[h1]
  have:=a.isLt
  omega
def au5:iP .u64 (a.toNat:Nat) 2 .rem=aa (.int .u64 ((a.getLsbD 0).toNat:Nat)):=by
 simp only[iP];rw[aA (by decide),Int.tmod_eq_emod_of_nonneg (by omega),BitVec.getLsbD,Nat.testBit_zero];simp only[a9,V.int.injEq,pq]
 rcases Nat.mod_two_eq_zero_or_one a.toNat with h | h<;>simp[h]<;>omega
def auZ{p:Bool}:decide (((p.toNat:Nat):Int)=((1#64:bD).toNat:Nat))=p:=by cases p<;>rfl
def YW:IntKind.u64.wrap ((a.toNat:Nat)*2)=((a<<<1).toNat:Nat):=by
 rw[IntKind.wrap_u64,PX,Qs];omega
def Dv:decide ((a.toNat:Int)=(b.toNat:Nat))=decide (a=b):=by
 apply sV.2;rw[<-BitVec.toNat_inj];omega
theorem u0:V.int .u64 0 = .int .u64 ((0#64:bD).toNat:Nat):=rfl
theorem Jw:V.int .u64 1 = .int .u64 ((1#64:bD).toNat:Nat):=rfl
theorem au4:V.int .u64 18446744073709551615 = .int .u64 ((BitVec.allOnes 64:bD).toNat:Nat):=rfl
end
def hasB(s:bD)(i:Int):Bool:=decide (0<=i)&&s.getLsbD i.toNat
def ma(i:Nat):bD:=1#64<<<i
def kW(s:bD)(i:Int):bD:=if 0<=i/\i<64 then s|||ma i.toNat else s
def jf(l:List Int):bD:=l.foldl kW 0#64
def Bu(a b:bD):Bool:=decide (a&&&~~~b=0#64)
def j4(n:Int):bD:=if n<=0 then 0#64 else if 64<=n then BitVec.allOnes 64 else ma n.toNat - 1#64
def gk(s:bD):List Nat:=(bX 64).filter s.getLsbD
def sW{a b:bD}(h:∀k,k<64->a.getLsbD k=b.getLsbD k):a=b:=BitVec.eq_of_getLsbD_eq λk hk=>h k hk
def B7(i k:Nat):(ma i).getLsbD k=(decide (k<64)&&decide (k=i)):=by
 simp only[ma,Zq,BitVec.getLsbD_one]
 by_cases h:k<64<;>by_cases h2:k=i<;>simp[h,h2]<;>omega
def Q_(i:Nat):ma i<<<1=ma (i+1):=by
 apply sW;intro k hk;rw[Zq,B7,B7];cases k with
 | zero=>simp
 | succ k=>simp only[hk,Nat.add_sub_cancel,bL,lD,Nat.add_right_cancel_iff];simp[show k<64 by omega]
def Jy(s:bD)(i:Int)(k:Nat):(kW s i).getLsbD k=(s.getLsbD k||(decide (k<64)&&decide ((k:Int)=i))):=by
 unfold kW
 split
 .rename_i h;rw[PW,B7];congr 2;apply sV.2;omega
 .rename_i h
  have:(decide (k<64)&&decide ((k:Int)=i))=false:=by
   simp only[DG,Ao];omega
  rw[this,Bool.or_false]
def SU:∀(l:List Int) (s:bD) (k:Nat),(l.foldl kW s).getLsbD k=(s.getLsbD k||(decide (k<64)&&decide ((k:Int)∈l)))
 | [],s,k=>by simp
 | i :: l, s, k => by
  rw[zU,SU l,Jy,Bool.or_assoc,<-Bool.and_or_distrib_left,<-Bool.decide_or];simp only[lF]
def Fu(l:List Int)(k:Nat):(jf l).getLsbD k=(decide (k<64)&&decide ((k:Int)∈l)):=by
 rw[jf,SU];simp
def apL(k:Nat):(BitVec.allOnes 64).getLsbD k=decide (k<64):=BitVec.getLsbD_allOnes
def abg(n:Nat)(h:n<=64)(k:Nat):(ma n - 1#64).getLsbD k=(decide (k<64)&&decide (k<n)):=by
 by_cases hk:k<64
 .rw[BitVec.getLsbD,BitVec.toNat_sub,ma,PX,Qs];have e1:(1#64).toNat=1:=rfl;rw[e1,yj]
  by_cases h2:n=64
  .subst h2
   have:(2^64 - 1+2^64 % 2^64) % 2^64=2^64 - 1:=by decide
   rw[this,ZI];simp[hk]
  .have hp:2^n<2^64:=Nat.pow_lt_pow_right (by decide) (by omega);have o5:0<2^n:=Nat.two_pow_pos n;rw[Qq hp,show 2^64 - 1+2^n=(2^n - 1)+2^64 by omega,Nat.add_mod_right,Qq (by omega),ZI];simp[hk]
 .rw[DF _ _ (by omega)];simp[hk]
def B5(n:Int)(k:Nat):(j4 n).getLsbD k=(decide (k<64)&&decide ((k:Int)<n)):=by
 unfold j4;split
 .rw[aI (p:=(k:Int)<n) (by omega)];simp
 .split
  .rw[apL]
   by_cases h:k<64
   .rw[aJ (p:=(k:Int)<n) (by omega)];simp
   .simp[h]
  .rw[abg _ (by omega)];congr 1;apply sV.2;omega
def V1(l:List Int)(i:Nat)(hi:i<64):jf l&&&j4 ((i+1:Nat):Int)=if (i:Int)∈l then(jf l&&&j4 (i:Int))+ma i else jf l&&&j4 (i:Int):=by
 split
 .rename_i h;rw[BitVec.add_eq_or_of_and_eq_zero]
  .apply sW;intro k hk;simp only[PW,va,B5,B7,hk,bL,lD,Fu]
   rcases zZ k i with h1 | h1 | h1
   .simp[show((k:Int)<(i:Nat)) by omega,show k≠i by omega];try omega
   .subst h1;simp[h];omega
   .simp[show ¬((k:Int)<((i+1:Nat):Int)) by omega,show ¬((k:Int)<(i:Nat)) by omega,show k≠i by omega];try omega
  .apply sW;intro k hk;simp only[va,B5,B7,hk,bL,lD]
   by_cases h1:k=i
   .subst h1;simp
   .simp[h1]
 .rename_i h;apply sW;intro k hk;simp only[va,B5,hk,bL,lD,Fu]
  rcases zZ k i with h1 | h1 | h1
  .simp[show((k:Int)<(i:Nat)) by omega];try omega
  .subst h1;simp[h]
  .simp[show ¬((k:Int)<((i+1:Nat):Int)) by omega,show ¬((k:Int)<(i:Nat)) by omega];try omega
def apl(l:List Int):jf l&&&j4 64=jf l:=by
 apply sW;intro k hk;rw[va,B5];simp only[hk,bL,lD];rw[aJ (by omega)];simp
def apm(l:List Int):jf l&&&j4 0=0#64:=by simp[j4]
def VD{s:bD}:k∈gk s↔s.getLsbD k=true:=by
 simp only[gk,Qi,zW,and_iff_right_iff_imp];intro h;exact Nat.lt_of_not_le λhc=>by rw[DF _ _ hc] at h;simp at h
def am8{s:bD}(h:k∈gk s):k<64:=by
 simp only[gk,Qi,zW] at h;exact h.1
def Iz(s:bD):(gk s).length<=64:=by
 have:=Qf s.getLsbD (bX 64);simpa [gk] using this
def pY(s:bD):Nat:=((bX 64).find? s.getLsbD).getD 64
def Fk{s:bD}(h:s≠0#64):pY s<64/\s.getLsbD (pY s)=ab/\∀k,k<pY s->s.getLsbD k=false:=by
 unfold pY;cases hf:(bX 64).find? s.getLsbD with
 | none =>
  exfalso;apply h;apply sW;intro k hk
  have:=JY.1 hf k (by simpa using hk)
  simpa using this
 | some i =>
  obtain⟨h1,as,bs,h2,h3⟩:=Gk.1 hf;have hi:i<64:=by
   have:i∈bX 64:=by rw[h2];simp
   simpa using this
  refine⟨hi,h1,λk hk=>?_⟩;simp only[BX] at hk;have hl:as.length=i:=by
   have:=iK (λl:List Nat=>l[as.length]?) h2
   simp only[BT (bS _),Nat.sub_self,JZ] at this;rw[J1] at this
   .simpa using this
   .have:=iK List.length h2;simp at this;omega
  have kh : k∈as:=by
   have:=iK (λl:List Nat=>l[k]?) h2
   rw[tT (by omega),J1 (by omega)] at this;exact sQ this.symm
  have:=h3 k kh
  simpa using this
def aoe{s:bD}(h:s≠0#64):s&&&-s=ma (pY s):=by
 obtain⟨h1,h2,h3⟩:=Fk h;apply sW;intro i hi;rw[va,BitVec.getLsbD_neg,B7]
 rcases zZ i (pY s) with hc | hc | hc
 .rw[h3 i hc,aI (p:=i=pY s) (by omega)];simp
 .subst hc;rw[h2,aI (p:=∃j,j<pY s/\s.getLsbD j=ab) (by rintro⟨j,hj,hs⟩;rw[h3 j hj] at hs;simp at hs)];simp[hi]
 .rw[aJ (p:=∃j,j<i/\s.getLsbD j=ab) ⟨_,hc,h2⟩,aI (p:=i=pY s) (by omega)];cases s.getLsbD i<;>simp[hi]
def KS(s:bD)(i:Nat):(s&&&(s - 1#64)).getLsbD i=(s.getLsbD i&&decide (∃j,j<i/\s.getLsbD j=ab)):=by
 by_cases hi:i<64
 .rw[va,<-BitVec.not_neg,BitVec.getLsbD_not,BitVec.getLsbD_neg];cases s.getLsbD i<;>simp[hi]
 .rw[DF _ _ (by omega),DF _ _ (by omega)];simp
def Vp{s:bD}(h:s≠0#64):gk s=pY s::gk (s&&&(s - 1#64)):=by
 obtain⟨h1,h2,h3⟩:=Fk h;generalize pY s=k at h1 h2 h3;have hr:bX 64=bX k++k::List.range' (k+1) (64 - (k+1)):=by
  rw[vj,vj,<-DN,show(64:Nat) - (k+1)+1=64 - k by omega]
  have:=Qn (s:=0) (m:=k) (n:=64 - k) (step:=1)
  simp only[yj,jY] at this;rw[this];congr 1;omega
 unfold gk;rw[hr,JX,JX,Gj,Gj,h2,KS s k];have e1:List.filter s.getLsbD (bX k)=[]:=Zy.2 λx hx=>by rw[h3 x (by simpa using hx)];simp
 have e2:List.filter (s&&&(s - 1#64)).getLsbD (bX k)=[]:=Zy.2 λx hx=>by rw[KS,h3 x (by simpa using hx)];simp
 rw[e1,e2,
  aI (by rintro⟨j,hj,hs⟩;rw[h3 j hj] at hs;simp at hs)]
 simp only[Bool.and_false,da,bZ,cm,gN,ig,pq];refine List.filter_congr λx hx=>?_
 have hx:k<x:=by simp only[List.mem_range'_1] at hx;omega
 rw[KS,aJ ⟨k,hx,h2⟩,wH]
def am_:gk 0#64=[]:=by simp[gk]
def am9{s:bD}(h:gk s≠[]):s≠0#64:=by rintro rfl;exact h am_
def am'{s:bD}(h:gk s=[]):s=0#64:=by
 apply Classical.byContradiction;intro hc;rw[Vp hc] at h;simp at h
def Jr:List Int:=[0,1,56,2,57,49,28,3,61,58,42,50,38,29,17,4,62,47,59,36,45,43,51,22,53,39,33,30,24,18,12,5,63,55,48,27,60,41,37,16,46,35,44,21,52,32,23,11,54,26,40,15,34,20,31,10,25,14,19,9,13,8,7,6]
def xZ:List V:=Jr.map λn=>.int .u8 n
def auq(k:Nat)(h:k<64):((ma k*285870213051353865#64)>>>58).toNat<64/\Jr[((ma k*285870213051353865#64)>>>58).toNat]?=aa (k:Int):=by
 revert k;decide +kernel
end Go.Am
namespace Go.Am
structure Tok where
 kind:Int
 aq:List UInt8
 pos:Int
inductive al where
 | mk (tok:Tok) (aj:List al) (fin:Int)
def al.tok:al->Tok | .mk t _ _=>t
def al.aj:al->List al | .mk _ k _=>k
def al.fin:al->Int | .mk _ _ e=>e
mutual
def al.enc:al->List V
 | .mk t ks e=>[.int .u8 t.kind,.aF t.aq,.int .i64 t.pos,.sl .no 5 (b_ ks),.int .i64 e]
def b_:List al->List (List V)
 | []=>[]
 | t::ts=>t.enc::b_ ts
end
def n_:∀l,b_ l=l.map al.enc
 | []=>rfl
 | t::ts=>by simp[b_,n_ ts]
def dt(l:List al):(b_ l).length=l.length:=by simp[n_]
def cJ(t:al):t.enc=[.int .u8 t.tok.kind,.aF t.tok.aq,.int .i64 t.tok.pos,.sl .no 5 (b_ t.aj),.int .i64 t.fin]:=by
 cases t;simp only[al.enc,al.tok,al.aj,al.fin]
mutual
def al.many:al->Nat
 | .mk _ ks _=>bd ks
def bd:List al->Nat
 | []=>0
 | t::ts=>1+t.many+bd ts
end
def NH(t:al):t.many=bd t.aj:=by cases t;simp[al.many,al.aj]
def tF:∀a b,bd (a++b)=bd a+bd b
 | [],b=>by simp[bd]
 | t::ts,b=>by simp[bd,tF ts b];omega
def gm:∀l,l.length<=bd l
 | []=>by simp[bd]
 | t::ts=>by simp[bd];have:=gm ts;omega
variable{i:Nat}
def anT{l:List al}(h:i<l.length):bd l=bd (l.take i)+(1+bd l[i].aj)+bd (l.drop (i+1)):=by
 have:l=l.take i++l[i]::l.drop (i+1):=by simp
 have e:=iK bd this;rw[e,tF];simp only[bd,NH];omega
def NI{l:List al}(h:i<l.length):bd l[i].aj+1<=bd l:=by
 have:=anT h;omega
structure aB where
 aq:List UInt8
 pos:Int
def aB.enc(w:aB):List V:=[.aF w.aq,.int .i64 w.pos]
inductive Nd where
 | mk (kind pos:Int) (aq:List UInt8) (an:List aB) (aj:List Nd)
namespace Nd
def kind:Nd->Int | .mk k _ _ _ _=>k
def pos:Nd->Int | .mk _ p _ _ _=>p
def aq:Nd->List UInt8 | .mk _ _ t _ _=>t
def an:Nd->List aB | .mk _ _ _ w _=>w
def aj:Nd->List Nd | .mk _ _ _ _ k=>k
end Nd
mutual
def Nd.enc:Nd->List V
 | .mk k p t ws ks=>[.int .i64 k,.int .i64 p,.aF t,.sl .no 2 (ws.map aB.enc),.sl .no 5 (sB ks)]
def sB:List Nd->List (List V)
 | []=>[]
 | n::ns=>n.enc::sB ns
end
def Bd:∀l,sB l=l.map Nd.enc
 | []=>rfl
 | t::ts=>by simp[sB,Bd ts]
def Nd.cJ(n:Nd):n.enc=[.int .i64 n.kind,.int .i64 n.pos,.aF n.aq,.sl .no 2 (n.an.map aB.enc),.sl .no 5 (n.aj.map Nd.enc)]:=by
 cases n;simp only[Nd.enc,Nd.kind,Nd.pos,Nd.aq,Nd.an,Nd.aj,Bd]
structure ae where
 l:List al
 at_:Int
 fin:Int
 aG:Option Int
def df(b:Option Int):Int:=match b with | some _=>2 | none=>0
def fx(b:Option Int):Int:=match b with | some a=>a | none=>0
def ae.enc(r:ae):List V:=[.sl .no 5 (b_ r.l),.int .i64 r.at_,.int .i64 r.fin,.int .i64 (df r.aG),.int .i64 (fx r.aG)]
def a8(l:List al)(at_:Int)(k:Int):Bool:=decide (0<=at_)&&match l[at_.toNat]? with | some t=>decide (t.tok.kind=k) | none=>ak
def ae.ok(r:ae):Bool:=r.aG.isNone
def ae.spot(r:ae):Int:=if 0<=r.at_ then(match r.l[r.at_.toNat]? with | some t=>t.tok.pos | none=>r.fin) else r.fin
def ae.fail(r:ae):ae:=match r.aG with | some _=>r | none=>{r with aG:=aa r.spot}
def ae.bW(r:ae)(k:Int):Bool:=r.ok&&a8 r.l r.at_ k
def al.zero:al:=.mk ⟨0,[],0⟩ [] 0
def ae.take(r:ae)(k:Int):al × ae:=if r.bW k then(r.l.getD r.at_.toNat .zero,{r with at_:=r.at_+1}) else(.zero,r.fail)
def ae.word(r:ae):aB × ae:=(⟨(r.take 97).1.tok.aq,(r.take 97).1.tok.pos⟩,(r.take 97).2)
variable{r:ae}
theorem ae.ex1{n:Nat}:r.enc.drop n=[V.sl .no 5 (b_ r.l),.int .i64 r.at_,.int .i64 r.fin,.int .i64 (df r.aG),.int .i64 (fx r.aG)].drop n:=rfl
theorem ae.ex2{n:Nat}{x:List V}:setAt r.enc n x=setAt [V.sl .no 5 (b_ r.l),.int .i64 r.at_,.int .i64 r.fin,.int .i64 (df r.aG),.int .i64 (fx r.aG)] n x:=rfl
variable{g:Bool}
theorem ae.ex3{n:Nat}:bI g n r.enc=bI g n [V.sl .no 5 (b_ r.l),.int .i64 r.at_,.int .i64 r.fin,.int .i64 (df r.aG),.int .i64 (fx r.aG)]:=rfl
theorem ae.ex4{n:Nat}:cg n r.enc=cg n [V.sl .no 5 (b_ r.l),.int .i64 r.at_,.int .i64 r.fin,.int .i64 (df r.aG),.int .i64 (fx r.aG)]:=rfl
def ae.ex:(∀{r:ae} {n:Nat},r.enc.drop n=[V.sl .no 5 (b_ r.l),.int .i64 r.at_,.int .i64 r.fin,.int .i64 (df r.aG),.int .i64 (fx r.aG)].drop n) /\
 (∀{r:ae} {n:Nat} {x:List V},setAt r.enc n x=setAt [V.sl .no 5 (b_ r.l),.int .i64 r.at_,.int .i64 r.fin,.int .i64 (df r.aG),.int .i64 (fx r.aG)] n x) /\
 (∀{r:ae} {n:Nat} {g:Bool},bI g n r.enc=bI g n [V.sl .no 5 (b_ r.l),.int .i64 r.at_,.int .i64 r.fin,.int .i64 (df r.aG),.int .i64 (fx r.aG)]) /\
 (∀{r:ae} {n:Nat},cg n r.enc=cg n [V.sl .no 5 (b_ r.l),.int .i64 r.at_,.int .i64 r.fin,.int .i64 (df r.aG),.int .i64 (fx r.aG)]):=⟨ae.ex1,ae.ex2,ae.ex3,ae.ex4⟩
def jr{G:Type}(step:ae × List G->ae × List G):Nat->ae × List G->ae × List G
 | 0,a=>a
 | n+1,a=>if a.1.bW 44 then jr step n (step ((a.1.take 44).2,a.2)) else a
variable{G:Type}
def eB(step:ae × List G->ae × List G)(r:ae):ae × List G:=jr step r.l.length (step (r,[]))
def gK(a:ae × List aB):ae × List aB:=(a.1.word.2,a.2++[a.1.word.1])
def ae.fT(r:ae)(k:Int):(r.take k).2.l=r.l:=by
 unfold ae.take;split
 .rfl
 .unfold ae.fail;split<;>rfl
def ae.aff(r:ae):r.fail.at_=r.at_:=by unfold ae.fail;split<;>rfl
def ae.Hi(r:ae):r.fail.aG≠none:=by
 unfold ae.fail;split
 .rename_i h;rw[h];simp
 .simp
def ae.uY(r:ae)(k:Int):(r.bW k=ab/\(r.take k).2.at_=r.at_+1/\(r.take k).2.aG=ag/\0<=r.at_/\r.at_<r.l.length)\/(r.bW k=ak/\(r.take k).2.at_=r.at_/\(r.take k).2.aG≠ag):=by
 cases h:r.bW k
 .right;simp only[ae.take,h,da,bZ,pq];exact⟨r.aff,r.Hi⟩
 .left;have h' := h;simp only[ae.bW,ae.ok,a8,bF,cn,DQ] at h';obtain⟨h1,h0,hk⟩:=h';simp only[ae.take,h,cm,pq];refine⟨h1,h0,?_⟩;cases hq:r.l[r.at_.toNat]? with
  | none=>rw[hq] at hk;simp at hk
  | some t=>have:=(fv.1 hq).1;omega
def ae.wz(r:ae)(k:Int):bd (r.take k).1.aj<=bd r.l/\((r.take k).2.aG=ag->bd (r.take k).1.aj+1<=bd r.l):=by
 rcases r.uY k with ⟨h,_,_,h1,h2⟩ | ⟨h,_,h1⟩
 .have aC:r.at_.toNat<r.l.length:=by omega
  have:=NI aC
  simp only[ae.take,h,cm,ij,cS aC,BX];exact⟨by omega,λ_=>this⟩
 .refine⟨?_,λhb=>absurd hb h1⟩;simp[ae.take,h,al.zero,al.aj,bd]
def al.inner(t:al):ae:=⟨t.aj,0,t.fin,ag⟩
def ae.close(r:ae):ae:=if r.ok=ab/\r.at_<r.l.length then r.fail else r
def ae.under(r i:ae):ae:={r with aG:=i.close.aG}
structure Reads{G:Type}(one:ae->G × ae):Prop where
 l:∀r,(one r).2.l=r.l
 go:∀r,0<=r.at_->r.at_<=r.l.length->r.at_<=(one r).2.at_/\(one r).2.at_<=r.l.length/\((one r).2.aG=ag->r.at_+1<=(one r).2.at_)
def cw(one:ae->G × ae)(a:ae × List G):ae × List G:=((one a.1).2,a.2++[(one a.1).1])
def ae.inside(step:ae × List G->ae × List G)(empty:Bool)(t:al):ae × List G:=if empty=ab/\t.aj.length=0 then(t.inner,[]) else eB step t.inner
def ae.bracket(step:ae × List G->ae × List G)(kind:Int)(empty:Bool)(r:ae):(List G × Int) × ae :=
 if (r.take kind).2.ok=ab then(((ae.inside step empty (r.take kind).1).2,(r.take kind).1.tok.pos),(r.take kind).2.under (ae.inside step empty (r.take kind).1).1) else(([],0),(r.take kind).2)
def ae.nodes(one:ae->Nd × ae)(kind:Int)(empty:Bool)(r:ae):(List Nd × Int) × ae:=r.bracket (cw one) kind empty
def ae.words(empty:Bool)(r:ae):(List aB × Int) × ae:=r.bracket gK 123 empty
end Go.Am
namespace Go.Am
def pg:List V:=.int .i64 0::ar 64 (.int .u64 0)
def r7:List V:=.int .i64 0::.sl .ba 1 []::pg
def I4:List Nat:=ar 65 1
def im(l:List bD):List V:=l.map λw=>.int .u64 (w.toNat:Nat)
section
variable {l m:List bD} {i n:Nat} {w:bD}
def Ha:(im l).length=l.length:=by simp[im]
def Sg:cL (im l)=true:=by induction l with | nil=>rfl | cons a l ih=>simpa [im,cL,V.one] using ih
def Sf:bO (im l)=true:=by induction l with | nil=>rfl | cons a l ih=>simpa [im,bO,V.cY] using ih
def Sc:aX (im l)=im l:=by induction l with | nil=>rfl | cons a l ih=>simp only[im,ch,aX,V.erase] at ih ⊢;rw[ih]
def Se:bR n (im l)=true:=by induction l with | nil=>rfl | cons a l ih=>simpa [im,bR,V.lo] using ih
def aeD(h:i<l.length):bI ak 1 ((im l).drop i)=aa (.int .u64 ((l.getD i 0#64).toNat:Nat)):=by
 have h' : i<(im l).length:=by rwa [Ha]
 rw[mJ h'];simp only[bI];simp[im,ij,h]
def Si(h:i<l.length):setAt (im l) i [.int .u64 (w.toNat:Nat)]=im (l.set i w):=by
 induction l generalizing i with
 | nil=>simp at h
 | cons a l ih =>
  cases i with
  | zero=>simp only[im,ch,List.set_cons_zero,mC,p8,mU]
  | succ i=>simp only[dB,Nat.add_lt_add_iff_right] at h;simp only[im,ch,setAt,List.set_cons_succ] at ih ⊢;rw[ih h]
def Sd(h:i<l.length):cg 1 ((im l).drop i)=true:=by
 have h' : i<(im l).length:=by rwa [Ha]
 rw[mJ h'];rfl
def Sb(h:l.length=n)(h' : m.length=n):fQ (ar n 1) (im l) (im m)=aa (decide (l=m)):=by
 induction n generalizing l m with
 | zero=>obtain rfl:=ke.1 h;obtain rfl:=ke.1 h';rfl
 | succ n ih =>
  cases l with
  | nil=>simp at h
  | cons a l =>
   cases m with
   | nil=>simp at h'
   | cons b m =>
    simp only[im,ch,zX] at ih ⊢;rw[r5,ih (by simpa using h) (by simpa using h'),qn,Dv,<-yd];simp only[ig]
def zK:∀{c:List V},takeN c.length c=aa c
 | []=>rfl
 | x::c=>by rw[dB,Pc,zK];rfl
variable{c e:List V}
def Pa(h:c.length=n):takeN n (c++e)=aa c:=by
 subst h;induction c with
 | nil=>rfl
 | cons x c ih=>rw[dB,iv,Pc,ih];rfl
def yQ:∀{c:List V},cg c.length c=ab
 | []=>rfl
 | x::c=>by rw[dB,cg,yQ]
def uL:∀{c e:List V},c.length=e.length->over c e=e
 | [],[],_=>rfl
 | x::c,y::e,h=>by rw[over,uL (by simpa using h)]
 | [],_::_,h=>by simp at h
 | _::_,[],h=>by simp at h
end
structure Rl where
 n:Int
 up:List bD
 len:up.length=64
def Rl.ext'{a b:Rl}(h:a.n=b.n)(k:a.up=b.up):a=b:=by cases a;cases b;simp only at h k;subst h;subst k;rfl
instance:DecidableEq Rl:=λa b=>if h:a.n=b.n/\a.up=b.up then isTrue (Rl.ext' h.1 h.2) else isFalse λe=>h ⟨e▸rfl,e▸rfl⟩
def Rl.zero:Rl:=⟨0,ar 64 0#64,by simp⟩
def Rl.enc(r:Rl):List V:=.int .i64 r.n::im r.up
def Rl.get(r:Rl)(i:Nat):bD:=r.up.getD i 0#64
def Rl.put(r:Rl)(i:Nat)(w:bD):Rl:=⟨r.n,r.up.set i w,by simp[r.len]⟩
def Rl.I_(r:Rl)(n:Int):Rl:=⟨n,r.up,r.len⟩
def Rl.of(n:Int)(f:Nat->bD):Rl:=⟨n,(bX 64).map f,by simp⟩
section
variable {r s:Rl} {i n m:Nat} {w:bD} {z:Int}
variable{j:Nat}
def Rl.Cl:(r.put i w).get j=if i=j/\i<64 then w else r.get j:=by
 simp only[Rl.get,Rl.put,ij,List.getElem?_set,r.len]
 by_cases h:i=j
 .subst h
  by_cases h2:i<64
  .simp[h2]
  .simp[h2,r.len]
 .simp[h]
def Rl.pJ{f:Nat->bD}(h:i<64):(Rl.of z f).get i=f i:=by simp[Rl.get,Rl.of,ij,h]
def Rl.ext(h:r.n=s.n)(k:∀i,i<64->r.get i=s.get i):r=s:=by
 refine Rl.ext' h (P_ (by rw[r.len,s.len]) λi h1 h2=>?_)
 have:=k i (by rw[r.len] at h1;exact h1)
 simpa [Rl.get,ij,h1,h2] using this
def Rl.c_:r.enc.length=65:=by simp[Rl.enc,Ha,r.len]
def Rl.gI:cL r.enc=true:=by simp[Rl.enc,cL,V.one,Sg]
def Rl.dV:bO r.enc=true:=by simp[Rl.enc,bO,V.cY,Sf]
def Rl.dO:aX r.enc=r.enc:=by simp[Rl.enc,aX,V.erase,Sc]
def Rl.cT:bR m r.enc=true:=by simp[Rl.enc,bR,V.lo,Se]
def Rl.fM:takeN 65 r.enc=aa r.enc:=by have:=zK (c:=r.enc);rwa [Rl.c_] at this
def Rl.iF:bI ab 65 r.enc=aa (.agg r.enc):=by rw[zg,Rl.fM];rfl
def Rl.gV:cg 65 r.enc=true:=by have:=yQ (c:=r.enc);rwa [Rl.c_] at this
def Rl.gv:over s.enc r.enc=r.enc:=uL (by rw[Rl.c_,Rl.c_])
def Rl.arB:setAt s.enc 0 r.enc=r.enc:=by rw[mC,Rl.gv]
theorem Rl.uP:bI ak 1 r.enc=aa (.int .i64 r.n):=rfl
theorem Rl.arx:cg 1 r.enc=true:=rfl
def Rl.WZ:setAt r.enc 0 [.int .i64 z]=(r.I_ z).enc:=by rw[Rl.enc,mC,p8,mU];rfl
def Rl.ary:over r.enc [.int .i64 z]=(r.I_ z).enc:=by rw[<-mC,Rl.WZ]
def Rl.xR:pg=Rl.zero.enc:=by rw[Rl.enc,im,Rl.zero,List.map_replicate];rfl
def Rl.qQ:fQ I4 r.enc s.enc=aa (decide (r=s)):=by
 show fQ (1::ar 64 1) (.int .i64 r.n::im r.up) (.int .i64 s.n::im s.up)=_;rw[r5,Sb r.len s.len,qn,<-yd];congr 1;exact sV.2 ⟨λh=>Rl.ext' h.1 h.2,λh=>h▸⟨rfl,rfl⟩⟩
theorem Rl.Bh{f:Nat->bD}:(Rl.of z f).n=z:=rfl
def Rl.PS:Rl.zero.I_ z=Rl.of z λ_=>0#64:=by
 refine Rl.ext rfl λi hi=>?_
 rw[Rl.pJ hi];simp only[Rl.get,Rl.I_,Rl.zero,ij,Zz,hi,cm,BX]
def Rl.fill{f:Nat->bD}:(Rl.of z λj=>if j<i then f j else 0#64).put i (f i)=Rl.of z λj=>if j<i+1 then f j else 0#64:=by
 refine Rl.ext rfl λk hk=>?_
 rw[Rl.Cl,Rl.pJ hk,Rl.pJ hk]
 by_cases h:i=k
 .subst h;simp[hk]
 .rw[aA (by omega)]
  by_cases h2:k<i
  .rw[aE h2,aE (by omega)]
  .rw[aA h2,aA (by omega)]
def Rl.x6(h:i<64):bI ak 1 (r.enc.drop (1+i))=aa (.int .u64 ((r.get i).toNat:Nat)):=by
 rw[DO,Rl.enc,DJ,aeD (by rw[r.len];exact h)];rfl
def Rl.BE(h:i<64):cg 1 (r.enc.drop (1+i))=true:=by
 rw[DO,Rl.enc,DJ,Sd (by rw[r.len];exact h)]
def Rl.BF(h:i<64):setAt r.enc (1+i) [.int .u64 (w.toNat:Nat)]=(r.put i w).enc:=by
 rw[DO,Rl.enc,ka,Si (by rw[r.len];exact h)];rfl
def Rl.au:=ah @Rl.c_ <| ah @Rl.gI <| ah @Rl.dV <| ah @Rl.dO <| ah @Rl.cT <| ah @Rl.fM <| ah @Rl.iF <| ah @Rl.gV <| ah @Rl.gv <| ah @Rl.uP <| ah @Rl.arx <| ah @Rl.arB <| ah @Rl.WZ <| ah @Rl.ary <| ah @Rl.xR @Rl.qQ
end
abbrev Kc:=Option (Nat × Bool)->List Nat->Nat->List (AO × List Nat)
abbrev ck:=Kc->Kc
def sl:List Nat->List X
 | []=>[]
 | a::l=>.s a::sl l
def zv:Nat->V
 | 0=>.int .i64 0
 | 1=>.aF []
 | 2=>.bool ak
 | 3=>.int .u8 0
 | 4=>.int .u64 0
 | n+5=>.sl .ba n []
def sf:List (Nat × Nat × Nat)->List (Nat × Nat × X)
 | []=>[]
 | (a,b,c)::l=>(a,b,.s c)::sf l
def zl:List Nat->List V
 | []=>[]
 | a::l=>zv a::zl l
def wd(p:aO):ck:=λk g m n=>(⟨aa n,p,g⟩,m)::k g [] (n+1)
def wu(d:Option Nat)(p:aO):ck:=λk g m n=>(⟨d,p,g⟩,m)::k g [] n
def wn(f:Nat->aO):ck
 | _,_,_,0=>[]
 | k,g,m,n+1=>(⟨aa (n+1),f n,g⟩,m)::k g [] (n+2)
def wp(d:Option Nat)(f:Nat->aO):ck
 | _,_,_,0=>[]
 | k,g,m,n+1=>(⟨d,f n,g⟩,m)::k g [] (n+1)
def om(a:Nat):ck:=wd (.mv (.s a))
def oi(z:Int):ck:=wd (.mv (.c (.int .i64 z)))
def oz(i:Nat):ck:=wd (.mv (.c (zv i)))
def ob(p:BinOp)(a b:Nat):ck:=wd (.eW p (.s a) (.s b))
def oB(p:BinOp)(a:Nat)(z:Int):ck:=wd (.eW p (.s a) (.c (.int .i64 z)))
def ou(p:BinOp)(a:Nat)(z:Int):ck:=wd (.eW p (.s a) (.c (.int .u8 z)))
def oE(p:BinOp)(a b:Nat):ck:=wd (.pA p (.s a) (.s b))
def ol(i a:Nat):ck:=wd (.load ab i (.s a))
def oo(a:Nat):ck:=wd (.load ak 1 (.s a))
def ok(a:Nat):ck:=wd (.wh (.s a))
def of(i a:Nat):ck:=wd (.pH i (.s a))
def ov(i j a:Nat):ck:=wd (.vO ab j i (.s a))
def ow(i a:Nat):ck:=wd (.vO ak i 1 (.s a))
def oL(a:Nat):ck:=wd (.wc (.s a))
def oT(a:Nat):ck:=wd (.we (.s a))
def oA(i a b:Nat):ck:=wd (.tA i (.s a) (.s b))
def oI(i a:Nat)(z:Int):ck:=wd (.tA i (.s a) (.c (.int .i64 z)))
def oS(a b:Nat):ck:=wd (.tB (.s a) (.s b))
def oe(a i:Nat):ck:=wd (.ext (.s a) i)
def oc(f:FuncId)(l:List X):ck:=wd (.call f l)
def oC(f:FuncId)(l:List Nat):ck:=wd (.call f (sl l))
def oO(q:OQ)(l:List Nat):ck:=wd (.own q (sl l))
def oK(a b c:Nat):ck:=wd (.zE (.s a) (aa (.s b)) (aa (.s c)))
def oW(z:List Nat)(l:List (Nat × Nat × Nat)):ck:=wd (.build (zl z) (sf l))
def oG(z:List Nat)(l:List (Nat × Nat × X)):ck:=wd (.build (zl z) l)
def oM(l:List Nat):ck:=wd (.alloc (zl l))
def oY(z:List V)(l:List (Nat × Nat × X)):ck:=wd (.build z l)
def op(a b c:Nat):ck:=wd (.pick (.s a) (.s b) (.s c))
def oa(i a b:Nat):ck:=wd (.app i (.s a) (.s b))
def oy(a b:Nat):ck:=wd (.pick (.s a) (.s b) (.c (.bool ak)))
def on(a:Nat):ck:=wd (.not (.s a))
def oq(q:aO):ck:=wd (q)
def oP(m i a b:Nat):ck:=wd (.sr m i (.s a) (.s b))
def oQ(m i a:Nat)(z:Int):ck:=wd (.sr m i (.s a) (.c (.int .i64 z)))
def nm:ck:=wn λn=>.mv (.s n)
def nB(p:BinOp)(z:Int):ck:=wn λn=>.eW p (.s n) (.c (.int .i64 z))
def nu(p:BinOp)(z:Int):ck:=wn λn=>.eW p (.s n) (.c (.int .u8 z))
def nb(p:BinOp)(a:Nat):ck:=wn λn=>.eW p (.s a) (.s n)
def nE(p:BinOp)(a:Nat):ck:=wn λn=>.pA p (.s a) (.s n)
def nl(i:Nat):ck:=wn λn=>.load ab i (.s n)
def no:ck:=wn λn=>.load ak 1 (.s n)
def nk:ck:=wn λn=>.wh (.s n)
def nf(i:Nat):ck:=wn λn=>.pH i (.s n)
def nL:ck:=wn λn=>.wc (.s n)
def nT:ck:=wn λn=>.we (.s n)
def nA(i a:Nat):ck:=wn λn=>.tA i (.s a) (.s n)
def nI(i:Nat)(z:Int):ck:=wn λn=>.tA i (.s n) (.c (.int .i64 z))
def nS(a:Nat):ck:=wn λn=>.tB (.s a) (.s n)
def nn:ck:=wn λn=>.not (.s n)
def nO(q:OQ):ck:=wn λn=>.own q [.s n]
def n1(i:Nat):ck:=wn λn=>.jn i [.s n]
def na(i a:Nat):ck:=wn λn=>.app i (.s a) (.s n)
def os(i a b:Nat):ck:=wu ag (.store i (.s a) (.s b))
def ot(d a:Nat):ck:=wu (aa d) (.mv (.s a))
def oj(d:Nat)(z:Int):ck:=wu (aa d) (.mv (.c (.int .i64 z)))
def oV(d:Nat)(v:V):ck:=wu (aa d) (.mv (.c v))
def oU(d i:Nat):ck:=wu (aa d) (.mv (.c (zv i)))
def ox(d i a:Nat):ck:=wu (aa d) (.box i (.s a))
def oX(d i a:Nat):ck:=wu (aa d) (.vB i (.s a))
def oZ(d:Nat)(l:List Nat):ck:=wu (aa d) (.alloc (zl l))
def oR(d:Nat)(l:List V):ck:=wu (aa d) (.alloc l)
def od(d:Option Nat)(q:aO):ck:=wu d (q)
def oN:ck:=wu ag (.mv (.c .any))
def o1(d:Nat):ck:=wp (aa d) λn=>.mv (.s n)
def o2(i a:Nat):ck:=wp ag λn=>.store i (.s a) (.s n)
def fo(i a:Nat):ck:=λk=>of i a (no k)
def nF(i:Nat):ck:=λk=>nf i (no k)
def mk(a:Nat):ck:=λk=>om a (nk k)
def ic(a:Nat):ck:=λk=>om a (nB .add 1 (o1 a k))
def mM(l:List Nat):ck:=λk g _ n=>k g l n
def gA:ck
 | _,_,_,0=>[]
 | k,_,m,n+1=>(⟨aa (n+1),.mv (.s n),ag⟩,m)::k (aa (n+1,ab)) [] (n+2)
def gB:ck
 | _,_,_,0=>[]
 | k,_,m,n+1=>(⟨aa (n+1),.mv (.s n),ag⟩,m)::k (aa (n+1,ak)) [] (n+2)
def gZ:ck
 | k,aa (g,ab),m,n+1=>(⟨aa (n+1),.pick (.s g) (.s n) (.c (.bool ak)),ag⟩,m)::k ag [] (n+2)
 | k,aa (g,ak),m,n+1=>(⟨aa (n+1),.pick (.s g) (.c (.bool ab)) (.s n),ag⟩,m)::k ag [] (n+2)
 | _,_,_,_=>[]
def og(g:Nat)(o:ck):ck:=λk h=>o (λ_=>k h) (aa (g,ab))
def oh(g:Nat)(o:ck):ck:=λk h=>o (λ_=>k h) (aa (g,ak))
def ru:List ck->Kc
 | []=>λ_ _ _=>[]
 | o::l=>o (ru l)
def fs:List (AO × List Nat)->List AO
 | []=>[]
 | x::l=>x.1::fs l
def rg(n:Nat)(l:List ck):AC:=.FJ (fs (ru l ag [] n))
def dg(n:Nat)(l:List ck):AC:=.draw (ru l ag [] n)
def dA(n:Nat)(v:List Nat)(l:List ck):AC:=.G8 v (ru l ag [] n)
def rS(n:Nat)(l:List ck):List AO:=fs (ru l ag [] n)
def dH(n:Nat)(h:HI)(l:List ck):AC:=.hole (ru l ag [] n) h
def sq:List AC->AC
 | []=>.skip
 | [a]=>a
 | a::b::l=>.seq a (sq (b::l))
def cd(n:Nat)(a b:AC):AC:=.cond (.s n) a b
def ci(n:Nat)(a:AC):AC:=.cond (.s n) a .skip
def cx(n k:Nat):AC:=.cond (.s n) .skip (.exit k)
def bl(k:Nat)(a:AC):AC:=.block k (.loop a)
def cr(n m:Nat)(l:List ck):AC:=.cond (.s n) (.seq (.FJ (fs (ru l ag [] m))) .ret) .skip
def lp(q k:Nat)(a:AC)(m:Nat):AC:=.block k (.loop (.seq (rg (q+2) [ob .lss (q+1) q]) (.seq (cx (q+2) k) (.seq (.block (k+1) a) (rg m [oB .add (q+1) 1,o1 (q+1)])))))
variable{P:Program}{f:FuncId}{rs:List RV}
def aV{x:AC}{n:Nat}{fn:Func}(h1:P.funcs[f]?=aa fn)(h:Hint:={})(h2:(fn.name == "runtime.NumGoroutine",fn.body.bind (gl P h),Ba P fn.results.toList,fn.ntmps)=(ak,aa x,aa rs,n):=by kernel_rfl):aU P f x rs n:=by
 simp only[py] at h2;exact⟨fn,h,h1,h2.1,h2.2.1,h2.2.2.1,h2.2.2.2⟩
def aZ:=ah @sl.eq_1 <| ah @sl.eq_2 <| ah @zv.eq_1 <| ah @zv.eq_2 <| ah @zv.eq_3 <| ah @zv.eq_4 <| ah @zv.eq_5 <| ah @zv.eq_6 <| ah @zl.eq_1 <| ah @zl.eq_2 <| ah @wd.eq_1 <| ah @wu.eq_1 <| ah @wn.eq_2 <| ah @wp.eq_2 <| ah @om.eq_1 <| ah @oi.eq_1 <| ah @oz.eq_1 <| ah @ob.eq_1 <| ah @oB.eq_1 <| ah @ou.eq_1 <| ah @oE.eq_1 <| ah @ol.eq_1 <| ah @oo.eq_1 <| ah @ok.eq_1 <| ah @of.eq_1 <| ah @ov.eq_1 <| ah @ow.eq_1 <| ah @oL.eq_1 <| ah @oT.eq_1 <| ah @oA.eq_1 <| ah @oI.eq_1 <| ah @oS.eq_1 <| ah @oe.eq_1 <| ah @oc.eq_1 <| ah @oC.eq_1 <| ah @oO.eq_1 <| ah @oK.eq_1 <| ah @oW.eq_1 <| ah @oG.eq_1 <| ah @oM.eq_1 <| ah @sf.eq_1 <| ah @sf.eq_2 <| ah @oY.eq_1 <| ah @op.eq_1 <| ah @oa.eq_1 <| ah @oy.eq_1 <| ah @on.eq_1 <| ah @oq.eq_1 <| ah @oP.eq_1 <| ah @oQ.eq_1 <| ah @nm.eq_1 <| ah @nB.eq_1 <| ah @nu.eq_1 <| ah @nb.eq_1 <| ah @nE.eq_1 <| ah @nl.eq_1 <| ah @no.eq_1 <| ah @nk.eq_1 <| ah @nf.eq_1 <| ah @nL.eq_1 <| ah @nT.eq_1 <| ah @nA.eq_1 <| ah @nI.eq_1 <| ah @nS.eq_1 <| ah @nn.eq_1 <| ah @nO.eq_1 <| ah @n1.eq_1 <| ah @na.eq_1 <| ah @os.eq_1 <| ah @ot.eq_1 <| ah @oj.eq_1 <| ah @oV.eq_1 <| ah @oU.eq_1 <| ah @ox.eq_1 <| ah @oX.eq_1 <| ah @oZ.eq_1 <| ah @oR.eq_1 <| ah @od.eq_1 <| ah @oN.eq_1 <| ah @o1.eq_1 <| ah @o2.eq_1 <| ah @fo.eq_1 <| ah @nF.eq_1 <| ah @mk.eq_1 <| ah @ic.eq_1 <| ah @mM.eq_1 <| ah @gA.eq_2 <| ah @gB.eq_2 <| ah @gZ.eq_1 <| ah @gZ.eq_2 <| ah @og.eq_1 <| ah @oh.eq_1 <| ah @ru.eq_1 <| ah @ru.eq_2 <| ah @fs.eq_1 <| ah @fs.eq_2 <| ah @rg.eq_1 <| ah @dg.eq_1 <| ah @dA.eq_1 <| ah @rS.eq_1 <| ah @dH.eq_1 <| ah @sq.eq_2 <| ah @sq.eq_3 <| ah @cd.eq_1 <| ah @ci.eq_1 <| ah @cx.eq_1 <| ah @bl.eq_1 <| ah @cr.eq_1 @lp.eq_1
variable{R':V->af->Prop}{args:List V}{D:af}
def aU.go{x:AC}{n:Nat}{q:Prop}(h:aU P f x rs n)(g:q)(k:q->vc P x (DU rs R') ⟨aS n args,[],D⟩:=by intro z;simp only[aS,am,jm,cV,aZ,Nat.reduceAdd,Nat.reduceEqDiff,bL,c7];exact z):cz P f args D R' := h.aT (k g)
variable{c:List V}{ik:IntKind}{k:Nat}{m:List (List V)}
def ix{Z:Tk}{n:Int}{K:V->Prop}(h:m[n.toNat]?=aa c)(hk:K (.elt c 0))(h0:0<=n:=by omega):AW k (.sl Z k m) (.int ik n) K:=qD h0 h hk
variable{l:List (List V)}{t:List V}{v:V}
def rt{w:V}(h:v.erase=w:=by simp[V.erase,aX])(h1:v.cY=true:=by rfl):n8 (λv σ' => v=w/\σ' = D) ⟨t,l,D⟩ v:=aH h h1
def af.Dn{a b c:af}(h:a.sub b)(k:b.sub c):a.sub c:=⟨λx cs hx=>k.1 x cs (h.1 x cs hx),λx n hx=>k.2.1 x n (h.2.1 x n hx),λx n hx=>k.2.2 x n (h.2.2 x n hx)⟩
variable{E:Env}{σ':af}
def Env.ok.eT(h:E.ok D)(ho:bK D σ'):E.ok σ' := by
 refine⟨λb cs hb=>?_,λt n ht=>h.aP t n (ho.aP t n ht),h.fresh,h.nt,λb cs hc=>h.b9 b cs (ho.b9 b cs hc)⟩;obtain⟨ds,h1,h2⟩:=ho.box b cs hb;obtain⟨k1,k2⟩:=h.box b ds h1;exact⟨k1,k2.eT h2⟩
variable{as:List V}
def cz.le{S S' : af}(h:cz P f as D λv' σ' => v' = v/\σ' = S)(ho:bK S S'):cz P f as D λv' σ' => v' = v/\σ' = S' :=
 ⟨h.1,λE vs h1 h2 h3=>(h.2 E vs h1 h2 h3).mono λ_ _ ⟨v',x,E',σ',a,b,c,d,e,f,g⟩=>⟨v',x,E',S',a,b,c,(g.2▸d).eT ho,e,f,g.1,rfl⟩⟩
variable{b:Nat}
def bK.set{A B:List V}(h:cQ A B):bK (D.set b A) (D.set b B):=by
 refine⟨λx cs' hx=>?_,λ_ _ h=>h,λ_ _ h=>h⟩;simp only[af.set] at hx ⊢
 by_cases e:x=b
 .rw[aE e] at hx ⊢;simp only[a9] at hx;subst hx;exact⟨A,Eq.refl _,h⟩
 .rw[aA e] at hx ⊢;exact⟨cs',hx,cQ.rfl⟩
section
variable {D:af}
variable{H:V->af->Prop}
def an1{a b:Int}{k:IntKind}(hk:H (.int k (if b<a then b else a)) D):OQ.bh D H .min [.int k a,.int k b]:=⟨H_,hk⟩
def anY{a b:Int}{k:IntKind}(hk:H (.int k (if a<b then b else a)) D):OQ.bh D H .max [.int k a,.int k b]:=⟨H_,hk⟩
variable{cs ds:List V}
def as3{g:Nat}(h:D.box b=ag)(hg:D.box g=aa ds):(D.set b cs).box g=aa ds:=by
 rw[af.eQ _ _ (by rintro rfl;rw[h] at hg;simp at hg)];exact hg
def iS(h:D.box b=ag):D.sub (D.set b cs) :=
 ⟨λg ds hg=>as3 h hg,λ_ _ h=>h,λ_ _ h=>h⟩
end
section
variable {P:Program} {a:AC} {Q:Exit->St->Prop} {st:St} {U:Type} {F:Nat->U->St} {J:Nat->U->Prop} {n:Nat}
def CI(n:Nat)(J:Nat->U->Prop):={p:Nat × U // p.1<=n/\J p.1 p.2}
def zO(F:Nat->U->St)(J:Nat->U->Prop)(n:Nat)(Q:Exit->St->Prop)(i:Nat):Exit->St->Prop :=
 zR (ι:=CI n J) (λp=>F p.1.1 p.1.2) (λp=>n - p.1.1) Q (n - i)
def BO(F:Nat->U->St)(J:Nat->U->Prop)(st:St):Prop:=bm st λaM => ∃x,J 0 x/\aM = F 0 x
def auD(n:Nat)(F:Nat->U->St)(J J' : Nat->U->Prop)(hJ:∀i x,J i x=J' i x)(h0:BO F J st)
 (hs:∀i x,i<n->J' i x->vc P a (zO F J n Q i) (F i x)) (he:∀x,J' n x->vc P a (zO F J n Q n) (F n x)):vc P (.loop a) Q st:=by
 refine gn (ι:=CI n J) (λp=>F p.1.1 p.1.2) (λp=>n - p.1.1) (bm.mono h0 ?_) ?_
 .rintro aM ⟨x,hx,rfl⟩;exact⟨⟨(0,x),Ka _,hx⟩,rfl⟩
 .rintro⟨⟨i,x⟩,hle,hx⟩
  rcases wP i n with h | h
  .exact hs i x h ((hJ i x)▸hx)
  .have e:i=n:=Nat.le_antisymm hle h;subst e;exact he x ((hJ i x)▸hx)
variable{i:Nat}
theorem acR{id:Nat}:zO F J n Q i (.exit id) st=Q (.exit id) st:=rfl
theorem acT:zO F J n Q i .ret st=Q .ret st:=rfl
def Gd(F:Nat->U->St)(J:Nat->U->Prop)(n i:Nat)(st:St):Prop:=bm st λaM => ∃j:CI n J,aM = F j.1.1 j.1.2/\n - j.1.1<n - i
theorem acS:zO F J n Q i .normal st=Gd F J n i st:=rfl
def a_:=ah @acR <| ah @acT @acS
variable {t:List V} {l:List (List V)} {D:af}
def ent(x:U)(hx:J 0 x)(h:cQ t (F 0 x).t)(hl:cC l (F 0 x).aD)(ho:bK D (F 0 x).out):BO F J ⟨t,l,D⟩ :=
 bm.eT h hl ho ⟨x,hx,rfl⟩
def nxt(x:U)(hi:i<n)(hx:J (i+1) x)(h:cQ t (F (i+1) x).t)(hl:cC l (F (i+1) x).aD)(ho:bK D (F (i+1) x).out):Gd F J n i ⟨t,l,D⟩ :=
 bm.eT h hl ho ⟨⟨(i+1,x),hi,hx⟩,rfl,by simp only;omega⟩
def dK(n:Nat)(F0:Nat->U->St)(J0:Nat->U->Prop)
 (k:∀F:Nat->U->St,(∀i x,F i x=F0 i x)->∀J:Nat->U->Prop,(∀i x,J i x=J0 i x)->BO F J st/\(∀i x,i<n->J0 i x->vc P a (zO F J n Q i) (F i x))/\∀x,J0 n x->vc P a (zO F J n Q n) (F n x)):vc P (.loop a) Q st:=by
 obtain⟨F,hF⟩:∃F:Nat->U->St,∀i x,F i x=F0 i x:=⟨_,λ_ _=>rfl⟩;obtain⟨J,hJ⟩:∃J:Nat->U->Prop,∀i x,J i x=J0 i x:=⟨_,λ_ _=>rfl⟩;obtain⟨a1,a2,a3⟩:=k F hF J hJ;exact auD n F J J0 hJ a1 a2 a3
def en{J' : Nat->U->Prop}(hJ:∀i x,J i x=J' i x)(x:U)(hx:J' 0 x)(h:cQ t (F 0 x).t:=by simp[hF,ar,am,bT])(hl:cC l (F 0 x).aD:=by simp[hF,ar,am,bT])(ho:bK D (F 0 x).out:=by simp[hF,ar,am,bT]):BO F J ⟨t,l,D⟩ :=
 ent x ((hJ _ _).symm▸hx) h hl ho
def nx{J' : Nat->U->Prop}(hJ:∀i x,J i x=J' i x)(x:U)(hi:i<n)(hx:J' (i+1) x)(h:cQ t (F (i+1) x).t:=by simp[hF,ar,am,bT])(hl:cC l (F (i+1) x).aD:=by simp[hF,ar,am,bT])(ho:bK D (F (i+1) x).out:=by simp[hF,ar,am,bT]):Gd F J n i ⟨t,l,D⟩ :=
 nxt x hi ((hJ _ _).symm▸hx) h hl ho
def fK(x:U)(hi:i<n)(hx:J (i+1) x)(h:cQ t (F (i+1) x).t)(hl:cC (l.take (F (i+1) x).aD.length) (F (i+1) x).aD)(ho:bK D (F (i+1) x).out)(h1:bR (F (i+1) x).aD.length (F (i+1) x).t=ab)(h2:dw (F (i+1) x).aD.length (F (i+1) x).aD=ab):Gd F J n i ⟨t,l,D⟩ :=
 bm.Cb h hl ho h1 h2 ⟨⟨(i+1,x),hi,hx⟩,rfl,by simp only;omega⟩
structure Gr(dz D:af)(tk:Tk)(n:Nat):Prop where
 sub:dz.sub D
 tk:tk = .ba\/∃Z,tk = .tk Z/\D.aP Z=aa n/\dz.aP Z=ag
def Gr.nil{D:af}:Gr D D .ba 0:=⟨af.bg _,.inl rfl⟩
variable{u:Tk}
def Gr.app{dz D:af}{tk:Tk}{e:List (List V)}{K:V->af->Prop}(h:Gr dz D tk m.length)(hb:m.length+e.length<=aK)
 (hk:∀ku σ',Gr dz σ' ku (m++e).length->σ'.box=D.box->(∀Z n,D.aP Z=aa n->tk≠.tk Z->σ'.aP Z=aa n)->K (.sl ku k (m++e)) σ'):qV D k (.sl tk k m) (.sl u k e) K:=by
 have hl:(m++e).length=m.length+e.length:=bP
 rcases h.tk with rfl | ⟨Z,rfl,ht,h0⟩
 .refine GJ hb λZ hn=>hk _ _ ⟨⟨λb cs hc=>h.sub.1 b cs hc,λO n hu=>?_,h.sub.2.2⟩,.inr ⟨Z,rfl,by rw[hl];exact O0,?_⟩⟩ rfl λO n hu _=>?_
  .have:=h.sub.2.1 O n hu
   rw[qe];exact this;rintro rfl;rw[hn] at this;simp at this
  .cases hq:dz.aP Z with
   | none=>rfl
   | some n=>have:=h.sub.2.1 Z n hq;rw[hn] at this;simp at this
  .rw[qe];exact hu;rintro rfl;rw[hn] at hu;simp at hu
 .refine iy hb ht (hk _ _ ⟨⟨λb cs hc=>h.sub.1 b cs hc,λO n hu=>?_,h.sub.2.2⟩,.inr ⟨Z,rfl,by rw[hl];exact O0,h0⟩⟩ rfl λO n hu aW=>?_)
  .rw[qe];exact h.sub.2.1 O n hu;rintro rfl;rw[h0] at hu;simp at hu
  .rw[qe];exact hu;rintro rfl;exact aW rfl
def bT{l:List V}:cQ l l=True:=eq_true cQ.rfl
def atY{U:Type}{l:List U}{p:U->Prop}(h:∀k∈l.take i,p k)(hi:i<l.length)(hk:p l[i]):∀k∈l.take (i+1),p k:=by
 rw[jl hi];intro k hm
 rcases jC.1 hm with hm | hm
 .exact h k hm
 .rw[qj.1 hm];exact hk
def SY{U G:Type}{f:G->U->G}{a:G}{l:List U}(hi:i<l.length):(l.take (i+1)).foldl f a=f ((l.take i).foldl f a) l[i]:=by
 rw[jl hi,zT];rfl
variable{j:Nat}
def B2{p:Nat->Prop}(h:∀k,k<j->p k)(hj:p j):∀k,k<j+1->p k:=λk hk=>by
 rcases ZH.1 hk with e | rfl
 .exact h k e
 .exact hj
def dD{i n:Nat}(h:i<n):decide ((i:Int)<(n:Nat))=true:=aJ (by omega)
def dY{n:Nat}:decide ((n:Int)<(n:Nat))=false:=aI (by omega)
def cG{i n:Nat}(h:i<n)(hn:n<=9223372036854775807:=by omega):IntKind.i64.wrap ((i:Int)+1)=((i+1:Nat):Int):=by
 rw[wrap_i64 (by omega) (by omega)];rfl
end
def jM(n b:Nat):V->V
 | .ptr (.aD i) o=>if i=n then .ptr (.out b) o else if i<n then .ptr (.aD i) o else .any
 | v=>if v.lo n=ab then v else .any
def Env.qa(E:Env)(n b:Nat):Env:={w:=E.w,bf:=λx=>if x=b then .qI else E.bf x,aD:=λi=>if i<n then E.aD i else ag,aP:=E.aP}
section
variable {E:Env} {n b:Nat}
def Ok(h2:E.bf b = .jb n):Fr E (E.qa n b):=by
 have lk:∀x,x≠b->(E.qa n b).bf x=E.bf x:=λx hx=>by simp[Env.qa,hx]
 refine⟨rfl,rfl,rfl,bS _,λ_=>rfl,λb' o c hc hv=>?_,λt m h=>⟨m,h,bS _,λ_ b' c hr=>⟨?_,λcs e bV=>⟨cs,bV,rfl⟩⟩⟩,λb' _ hr=>⟨rfl,?_⟩,λb' _ h=>?_,λb' t c _ h=>?_,λb' i _ h=>?_,λ_ c _ h=>⟨c,h,rfl⟩⟩
 .have aW:b' ≠ b:=λe=>by rw[e,h2] at hc;exact hc
  exact⟨by rw[lk _ aW];exact hc,hv⟩
 .have aW:b' ≠ b:=λe=>by rw[e,h2] at hr;simp at hr
  rw[lk _ aW];exact hr
 .have aW:b' ≠ b:=λe=>by rw[e,h2] at hr;simp at hr
  rw[lk _ aW]
 .by_cases e:b' = b
  .rw[e];exact .inr ⟨_,h2⟩
  .rw[lk _ e] at h;exact .inl h
 .by_cases e:b' = b
  .rw[e] at h;simp[Env.qa] at h
  .rw[lk _ e] at h;exact⟨c,h⟩
 .by_cases e:b' = b
  .rw[e] at h;simp[Env.qa] at h
  .rw[lk _ e] at h;exact⟨i,h⟩
def WN(h1:E.aD n=aa b)(h2:E.bf b = .jb n){x:V}{v:Value}(h:R E x v):R (E.qa n b) (jM n b x) v:=by
 have Ct:∀{x:V},R E x v->R (E.qa n b) (if x.lo n=ab then x else .any) v:=λ{x} h=>by
  split
  .rename_i hl;have hc:=R.cut x hl h;refine R.mono x (E:=E.cut n) ⟨(Ok h2).cell,λi c hc=>?_,(Ok h2).tok⟩ hc;simp only[Env.cut] at hc;simp only[Env.qa];exact hc
  .simp only[R]
 unfold jM;split
 .rename_i i o;simp only[R] at h;obtain⟨c,k1,k2⟩:=h;split
  .rename_i e;subst e;rw[h1] at k1;simp only[R];rw[k2];cases k1;rfl
  .split
   .rename_i aC;simp only[R,Env.qa];exact⟨c,by rw[aE aC];exact k1,k2⟩
   .simp only[R]
 .exact Ct h
def WO(h1:E.aD n=aa b)(h2:E.bf b = .jb n):∀{l:List V} {vs:List Value},RL E l vs->RL (E.qa n b) (l.map (jM n b)) vs
 | [],[],_=>by simp[RL]
 | [],_::_,h=>by simp[RL] at h
 | _::_,[],h=>by simp[RL] at h
 | x :: l, v :: vs, h => by
  simp only[RL,ch] at h ⊢;exact⟨WN h1 h2 h.1,WO h1 h2 h.2⟩
end
variable{K:St->Prop}{cs:List V}
def bm.aq8(hn:bO cs=ab)
 (hk:∀b,D.box b=ag->K ⟨t.map (jM l.length b),l.map (List.map (jM l.length b)),D.set b cs⟩):bm ⟨t,l++[cs],D⟩ K:=by
 intro E a hs;obtain⟨b,h1,h2,h3⟩:=hs.dh.box l.length cs (by simp);have bj:=Ok h2;have lk:∀x,x≠b->(E.qa l.length b).bf x=E.bf x:=λx hx=>by simp[Env.qa,hx]
 have Et:D.box b=none:=by
  cases hq:D.box b with
  | none=>rfl
  | some ds=>have:=(hs.ok.box b ds hq).1;rw[h2] at this;simp at this
 have aC:b<E.w.heap.size:=by obtain⟨c,e,k,_⟩:=h3;exact lx (w:=E.w) k
 refine⟨E.qa l.length b,⟨t.map (jM l.length b),l.map (List.map (jM l.length b)),D.set b cs⟩,rfl,bj,⟨⟨λb' ds hd=>?_,hs.ok.aP,λb' cc => ?_,hs.ok.nt,λb cs hc=>eG.mono _ bj.nl (hs.ok.b9 b cs hc)⟩,⟨λi ds hd=>?_,λi hi=>?_⟩,hs.defers,WO h1 h2 hs.slot⟩,hk b Et⟩
 .by_cases e:b' = b
  .subst e;have hd:(D.set b' cs).box b' = aa ds:=hd;rw[jh] at hd;cases hd;refine⟨by simp[Env.qa],?_⟩;obtain⟨c,e,k1,k2,k3⟩:=h3;refine⟨c,e,k1,k2,λj x hx=>?_⟩;obtain⟨v,q1,q2⟩:=k3 j x hx;refine⟨v,q1,R.p7 (E:=E) x (by rw[Env.aom];exact bj.nl) ?_ q2⟩
   have:∀{l:List V} {j:Nat} {x:V},bO l=ab->l[j]?=aa x->x.cY=true:=by
    intro l;induction l with
    | nil=>intro j x _ h;simp at h
    | cons y ys ih =>
     intro j x hl h;simp only[bO,bF] at hl;cases j with
     | zero=>simp at h;rw[<-h];exact hl.1
     | succ j=>exact ih hl.2 (by simpa using h)
   exact this hn hx
  .have hd:(D.set b cs).box b' = aa ds:=hd;rw[qS e] at hd;obtain⟨k1,k2⟩:=hs.ok.box b' ds hd;exact⟨by rw[lk _ e];exact k1,k2.mono bj.nl rfl⟩
 .have cc : E.w.heap.size<=b' := cc;rw[lk b' (by omega)];exact hs.ok.fresh b' cc
 .have hd:(l.map (List.map (jM l.length b)))[i]?=aa ds:=hd;simp only[tU,dk] at hd;obtain⟨R6,HH,rfl⟩:=hd;have hi:i<l.length:=(fv.1 HH).1;obtain⟨bi,k1,k2,c,e,k3,k4,k5⟩:=hs.dh.box i R6 (by rw[tT hi];exact HH);have aW:bi≠b:=λe=>by rw[e,h2] at k2;simp at k2;omega
  refine⟨bi,by simp[Env.qa,hi,k1],by rw[lk _ aW];exact k2,c,e,k3,by simpa using k4,λj x hx=>?_⟩;simp only[tU,dk] at hx;obtain⟨x0,EX,rfl⟩:=hx;obtain⟨v,q1,q2⟩:=k5 j x0 EX;exact⟨v,q1,WN h1 h2 q2⟩
 .have hi:l.length<=i:=by simpa using hi
  simp only[Env.qa];rw[aA (by omega)]
section
variable {n b i o:Nat} {k:IntKind} {z:Int} {q:Bool} {s:List UInt8} {Z:Tk} {m:List (List V)} {c:List V}
def aq0:jM n b .any = .any:=by simp[jM]
def aq3:jM n b (.int k z) = .int k z:=by simp[jM,V.lo]
def aq1:jM n b (.bool q) = .bool q:=by simp[jM,V.lo]
def aq7:jM n b (.aF s) = .aF s:=by simp[jM,V.lo]
def aq6:jM n b (.sl Z i m) = .sl Z i m:=by simp[jM,V.lo]
def aq5:jM n b (.ptr (.out i) o) = .ptr (.out i) o:=by simp[jM,V.lo]
def aq2:jM n b (.elt c o) = .elt c o:=by simp[jM,V.lo]
theorem aq4:jM n b (.ptr (.aD i) o)=if i=n then .ptr (.out b) o else if i<n then .ptr (.aD i) o else .any:=rfl
theorem aqZ:jM n b (.agg c)=if bR n c=ab then .agg c else .any:=rfl
def WQ:∀{l:List V},bR n l=ab->bO l=ab->l.map (jM n b)=l
 | [],_,_=>rfl
 | x :: l, h1, h2 => by
  simp only[bR,bO,bF] at h1 h2;rw[ch,WQ h1.2 h2.2];congr 1;unfold jM;split
  .simp[V.cY] at h2
  .rw[aE h1.1]
def ZZ:=ah @aq0 <| ah @aq3 <| ah @aq1 <| ah @aq7 <| ah @aq6 <| ah @aq5 <| ah @aq2 <| ah @aq4 @aqZ
end
variable{H:V->af->Prop}
def fO.mk1(hv:zc k [v]=aa [c])(hl:c.length=k)(hn:bO c=ab)
 (hk:∀v' σ',fO σ' k v' [c]->vm D σ' v' -> H v' σ'):OQ.bh D H (.new k) [v]:=by
 refine⟨[c],hv,by simpa using hn,λb hb=>hk _ _ ⟨_,1,rfl,bS _,by simpa using hl,.inr ⟨b,c,rfl,by simp[jh],by simpa using hl,by simp[zY,hl]⟩⟩ ⟨?_,?_⟩⟩
 .simpa using iS (cs:=c) hb
 .intro b' cc;simp only[sE,a9] at cc;subst cc;exact hb
variable{ys:List V}
def asV{xs:List V}{n:Nat}(h:n+c.length<=ys.length):setAt (xs++ys) (xs.length+n) c=xs++setAt ys n c:=by
 induction xs with
 | nil=>simp
 | cons x xs ih=>rw[iv,dB,show xs.length+1+n=(xs.length+n)+1 by omega,ka,ih];rfl
def V8{xs:List V}(h:c.length<=xs.length):over (xs++ys) c=over xs c++ys:=by
 induction xs generalizing c with
 | nil=>have:c=[]:=tS (by simpa using h);subst this;simp[mU]
 | cons x xs ih =>
  cases c with
  | nil=>rw[mU,mU]
  | cons d c=>rw[iv,p8,p8,ih (by simpa using h)];rfl
def asW{xs:List V}{n:Nat}(h:n+c.length<=xs.length):setAt (xs++ys) n c=setAt xs n c++ys:=by
 induction xs generalizing n with
 | nil =>
  have h' : n+c.length<=0:=h;obtain rfl:c=[]:=tS (by omega);obtain rfl:n=0:=by omega
  rw[mC,mC,mU,mU]
 | cons x xs ih =>
  cases n with
  | zero=>rw[mC,mC,V8 (by simpa using h)]
  | succ n=>rw[iv,ka,ka,ih (by simp at h;omega)];rfl
def X8{xs:List V}{n:Nat}(h:n+c.length<=xs.length):(setAt xs n c).length=xs.length:=by
 induction xs generalizing n with
 | nil=>cases n<;>rfl
 | cons x xs ih =>
  cases n with
  | zero =>
   rw[mC];clear ih
   have:∀{xs c:List V},c.length<=xs.length->(over xs c).length=xs.length:=by
    intro xs;induction xs with
    | nil=>intro c h;cases c with | nil=>rfl | cons d c=>simp at h
    | cons x xs ih=>intro c h;cases c with | nil=>rw[mU] | cons d c=>rw[p8,dB,dB,ih (by simpa using h)]
   exact this (by simpa using h)
  | succ n=>rw[ka,dB,dB,ih (by simp at h;omega)]
variable{j off:Nat}
def fO.put{rows:List (List V)}{x:List V}(h:fO D k v rows)(hj:rows[j]?=aa c)(hb:sE v=aa b)(hc:D.box b=aa cs)(ho:off+x.length<=k):
 fO (D.set b (setAt cs (j*k+off) x)) k v (rows.set j (setAt c off x))/\Kd D v (D.set b (setAt cs (j*k+off) x)) v:=by
 obtain⟨a,cap,rfl,h1,h2,h3⟩:=h;have aC:=(fv.1 hj).1;have gu:c.length=k:=h2 c (sQ hj)
 rcases h3 with h3 | ⟨b',cs',rfl,h4,h5,h6⟩
 .omega
 .simp only[sE,a9] at hb;subst hb;rw[h4] at hc;cases hc;have lI:=nr h2;have e1:cs=rows.flatten++cs.drop (rows.length*k):=by rw[<-h6];simp
  have e2:rows=rows.take j++c::rows.drop (j+1):=by
   rw[<-(fv.1 hj).2,<-mJ aC,rQ]
  have HN:(rows.take j).flatten.length=j*k:=by
   have:=nr (l:=rows.take j) (k:=k) λr hr=>h2 r (BU hr)
   rw[this,jj,yi (by omega)]
  have e3:rows.flatten=(rows.take j).flatten++(c++(rows.drop (j+1)).flatten):=by
   conv=>lhs;rw[e2]
   rw[vf,lE]
  have e4:setAt cs (j*k+off) x=(rows.set j (setAt c off x)).flatten++cs.drop (rows.length*k):=by
   have hs:rows.set j (setAt c off x)=rows.take j++setAt c off x::rows.drop (j+1):=by
    rw[List.set_eq_take_append_cons_drop,aE aC]
   conv=>lhs;rw[e1,e3]
   rw[e9,<-HN,asV (by simp[gu];omega),e9,asW (by omega),hs,vf,lE];simp only[e9]
  have fY:∀r∈rows.set j (setAt c off x),r.length=k:=λr hr=>by
   rcases List.mem_or_eq_of_mem_set hr with hr | rfl
   .exact h2 r hr
   .rw[X8 (by omega),gu]
  have akC:=nr fY;refine⟨⟨_,cap,by rw[List.length_set],by rw[List.length_set];exact h1,fY,.inr ⟨b',_,rfl,jh,?_,?_⟩⟩,λc' ds hd aW=>?_,rfl,λ_ h=>.inl h,rfl⟩
  .have:(setAt cs (j*k+off) x).length=cs.length:=X8 (by
    rw[h5]
    have:(j+1)*k<=cap*k:=sS _ (by omega)
    rw[jD] at this;omega)
   rw[this,h5]
  .rw[e4,<-akC,List.take_left]
  .have:c' ≠ b' := λe=>aW (by rw[e];rfl)
   rw[qS this];exact hd
def bG(r:Rl):Nat:=min r.n.toNat 64
def h_(r:Rl)(i:Nat):bD:=r.get i&&&j4 (bG r:Nat)
def dj(r:Rl)(i j:Nat):Bool:=decide (i<bG r)&&(h_ r i).getLsbD j
def kQ(r:Rl):Rl:=Rl.of (bG r:Nat) λi=>if i<bG r then h_ r i else 0#64
section
variable {r s:Rl} {i j k:Nat}
def mX:bG r<=64:=Nat.min_le_right _ _
def OI:(h_ r i).getLsbD j=((r.get i).getLsbD j&&decide (j<bG r)):=by
 rw[h_,va,B5]
 by_cases h:j<64
 .simp only[h,bL,lD];congr 1;apply sV.2;omega
 .rw[DF _ _ (by omega)];simp
def AP:dj r i j=(decide (i<bG r)&&(decide (j<bG r)&&(r.get i).getLsbD j)):=by rw[dj,OI,Bool.and_comm (BitVec.getLsbD _ _)]
def xu(h:dj r i j=ab):i<bG r/\j<bG r:=by
 rw[AP] at h;simp only[bF,cn] at h;exact⟨h.1,h.2.1⟩
def apo{n:Nat}{f:Nat->bD}(h:n<=64):bG (Rl.of (n:Nat) f)=n:=by simp only[bG,Rl.of];omega
def IY:bG (kQ r)=bG r:=apo mX
def FD(h:i<64):(kQ r).get i=if i<bG r then h_ r i else 0#64:=Rl.pJ h
def aqJ(h:i<bG r):(kQ r).get i=h_ r i:=by rw[FD (vk h mX),aE h]
def Wy:dj (kQ r) i j=dj r i j:=by
 by_cases h:i<bG r
 .rw[AP,IY,aqJ h,OI,AP];cases decide (i<bG r)<;>cases decide (j<bG r)<;>simp
 .rw[dj,dj,IY];simp[h]
def Wz:kQ r=kQ s↔bG r=bG s/\∀i j,dj r i j=dj s i j:=by
 constructor
 .intro h;exact⟨by rw[<-IY (r:=r),h,IY],λi j=>by rw[<-Wy (r:=r),h,Wy]⟩
 .rintro⟨h1,h2⟩;refine Rl.ext (by simp only[kQ,Rl.of,h1]) λi hi=>?_
  rw[FD hi,FD hi,h1];split
  .rename_i h;apply sW;intro j _
   have:=h2 i j
   rwa [dj,dj,h1,aJ h,lD,lD] at this
  .rfl
def R_(h:bG r=0):kQ r=Rl.of 0 λ_=>0#64:=by
 refine Rl.ext (by simp[kQ,Rl.of,h]) λi hi=>?_
 rw[FD hi,h,aA (by omega),Rl.pJ hi]
inductive mK(r:Rl)(i:Nat):Nat->Prop
 | refl (h:i<bG r):mK r i i
 | tail {j k:Nat} (h:mK r i j) (hs:dj r j k=ab):mK r i k
def mK.lt(h:mK r i j):i<bG r/\j<bG r:=by
 induction h with
 | refl h=>exact⟨h,h⟩
 | tail _ hs ih=>exact⟨ih.1,(xu hs).2⟩
def mK.trans(h:mK r i j)(h' : mK r j k):mK r i k:=by
 induction h' with
 | refl _=>exact h
 | tail _ hs ih=>exact ih.tail hs
def mK.one(h:dj r i j=ab):mK r i j:=(mK.refl (xu h).1).tail h
def vE(r:Rl):Rl:=Rl.of (bG r:Nat) λi=>if i<bG r then kW (h_ r i) (i:Nat) else 0#64
def xS(k:Nat)(o:Rl)(i:Nat):Rl:=if hasB (o.get i) (k:Nat) then o.put i (o.get i|||o.get k) else o
def lN(n k:Nat)(o:Rl):Rl:=(bX n).foldl (xS k) o
def sU(r:Rl):Rl:=(bX (bG r)).foldl (λo k=>lN (bG r) k o) (vE r)
variable{w:bD}
def akk:hasB w (k:Nat)=w.getLsbD k:=by simp[hasB]
variable{U:Type}
def yF{f:U->Nat->U}{a:U}{n:Nat}:(bX (n+1)).foldl f a=f ((bX n).foldl f a) n:=by rw[rP,zT];rfl
theorem aq_:(r.put i w).n=r.n:=rfl
def alj{n:Nat}{o:Rl}:(lN n k o).n=o.n:=by
 unfold lN;induction n with
 | zero=>rfl
 | succ n ih=>rw[yF,xS];split<;>simp[aq_,ih]
def UI{o:Rl}{n:Nat}(h:n<=64):(lN n k o).get i=if i<n/\(o.get i).getLsbD k=ab then o.get i|||o.get k else o.get i:=by
 induction n generalizing i with
 | zero=>simp[lN]
 | succ n MM =>
  have ih:=λi=>@MM i (by omega)
  have hk:(lN n k o).get k=o.get k:=by rw[ih k];split<;>simp
  have e:lN (n+1) k o=xS k (lN n k o) n:=yF;rw[e,xS,akk]
  by_cases hi:i=n
  .subst hi;have T7:(lN i k o).get i=o.get i:=by rw[ih i,aA (by omega)]
   rw[T7,hk];split
   .rename_i hb;rw[Rl.Cl,aE ⟨rfl,by omega⟩,aE ⟨by omega,hb⟩]
   .rename_i hb;rw[T7,aA (λhc=>hb hc.2)]
  .have aW:(if ((lN n k o).get n).getLsbD k=ab then(lN n k o).put n ((lN n k o).get n|||(lN n k o).get k) else lN n k o).get i=(lN n k o).get i:=by
    split
    .rw[Rl.Cl,aA (by omega)]
    .rfl
   rw[aW,ih i]
   by_cases aC:i<n
   .simp[aC,show i<n+1 by omega]
   .simp[aC,show ¬i<n+1 by omega]
def lA(r:Rl)(m:Nat):Rl:=(bX m).foldl (λo k=>lN (bG r) k o) (vE r)
def IS{m:Nat}:lA r (m+1)=lN (bG r) m (lA r m):=yF
def N7{m:Nat}:(lA r m).n=(bG r:Nat):=by
 induction m with
 | zero=>rfl
 | succ m ih=>rw[IS,alj,ih]
def Fy{m:Nat}(hi:i<bG r):((lA r (m+1)).get i).getLsbD j=(((lA r m).get i).getLsbD j||(((lA r m).get i).getLsbD m&&((lA r m).get m).getLsbD j)):=by
 rw[IS,UI mX];cases hq:((lA r m).get i).getLsbD m with
 | false=>simp
 | true=>simp[hi]
def Rq(hi:i<bG r):((vE r).get i).getLsbD j=(dj r i j||decide (j=i)):=by
 have du : i<64:=vk hi mX;rw[vE,Rl.pJ du,aE hi,Jy,dj,aJ hi,lD];congr 1
 by_cases h:j=i
 .subst h;simp[du]
 .simp[h];omega
def apW{m:Nat}(h:bG r<=i)(hi:i<64):(lA r m).get i=0#64:=by
 induction m with
 | zero=>rw[lA];simp only[List.range_zero,List.foldl_nil,vE];rw[Rl.pJ hi,aA (by omega)]
 | succ m ih=>rw[IS,UI mX,aA (by omega),ih]
def apX{m:Nat}(hm:m<=bG r)(hi:i<bG r):∀{j:Nat},((lA r m).get i).getLsbD j=ab->mK r i j:=by
 induction m generalizing i with
 | zero =>
  intro j h;have h:((vE r).get i).getLsbD j=true:=h;rw[Rq hi,nh,cn] at h
  rcases h with h | rfl
  .exact mK.one h
  .exact mK.refl hi
 | succ m ih =>
  intro j h;rw[Fy hi,nh,bF] at h
  rcases h with h | ⟨h1,h2⟩
  .exact ih (by omega) hi h
  .exact(ih (by omega) hi h1).trans (ih (by omega) (by omega) h2)
def N6{m:Nat}(hi:i<bG r)(h:dj r i j=ab\/j=i):((lA r m).get i).getLsbD j=true:=by
 induction m with
 | zero=>show((vE r).get i).getLsbD j=ab;rw[Rq hi];simpa using h
 | succ m ih=>rw[Fy hi,ih];rfl
def apY{m:Nat}(hm:m<=bG r):∀{i k j:Nat},i<bG r->k<m->((lA r m).get i).getLsbD k=ab->((lA r m).get k).getLsbD j=ab->((lA r m).get i).getLsbD j=true:=by
 induction m with
 | zero=>intro i k j _ h;omega
 | succ m ih =>
  intro i k j hi hk h1 h2;have ih:=@ih (by omega);have HV:((lA r m).get m).getLsbD m=true:=N6 (by omega) (.inr rfl);rw[Fy hi] at h1;rw[Fy (by omega)] at h2;rw[Fy hi];simp only[nh,bF] at h1 h2 ⊢
  by_cases T8:k=m
  .subst T8;have a:((lA r k).get i).getLsbD k=true:=h1.elim id (·.1);have b:((lA r k).get k).getLsbD j=true:=h2.elim id (·.2);exact .inr ⟨a,b⟩
  .have kh : k<m:=by omega
   rcases h1 with h1 | ⟨h1,xa⟩
   .rcases h2 with h2 | ⟨h2,xc⟩
    .exact .inl (ih hi kh h1 h2)
    .exact .inr ⟨ih hi kh h1 h2,xc⟩
   .rcases h2 with h2 | ⟨_,xc⟩
    .exact .inr ⟨h1,ih (by omega) kh xa h2⟩
    .exact .inr ⟨h1,xc⟩
def KD(hi:i<bG r):((sU r).get i).getLsbD j=ab↔mK r i j:=by
 show((lA r (bG r)).get i).getLsbD j=ab↔_;constructor
 .exact apX (bS _) hi
 .intro h;induction h with
  | refl h=>exact N6 h (.inr rfl)
  | tail h hs ih=>exact apY (bS _) hi h.lt.2 ih (N6 h.lt.2 (.inl hs))
def D4:bG (sU r)=bG r:=by
 have:(sU r).n=(bG r:Nat):=N7
 rw[bG,this];have:=@mX r;omega
def KE:dj (sU r) i j=ab↔mK r i j:=by
 rw[AP,D4];constructor
 .intro h;simp only[bF,cn] at h;exact(KD h.1).1 h.2.2
 .intro h
  have:=h.lt
  rw[aJ this.1,aJ this.2,(KD this.1).2 h];rfl
def acu:kQ (sU r)=sU r:=by
 refine Rl.ext ?_ λi hi=>?_
 .show((bG (sU r):Nat):Int)=_;rw[D4];exact N7.symm
 .rw[FD hi,D4];split
  .rename_i aC;apply sW;intro j _;rw[OI,D4];cases hq:((sU r).get i).getLsbD j with
   | false=>rfl
   | true=>rw[aJ ((KD aC).1 hq).lt.2];rfl
  .exact(apW (by omega) hi).symm
def vF(r:Rl):Bool:=decide (kQ r=sU r)
def acw:vF r=ab↔(∀i,i<bG r->dj r i i=ab)/\∀i j k,dj r i j=ab->dj r j k=ab->dj r i k=true:=by
 rw[vF,decide_eq_true_iff,<-acu,Wz];constructor
 .rintro⟨_,h⟩;refine⟨λi hi=>?_,λi j k h1 h2=>?_⟩
  .rw[h,KE];exact mK.refl hi
  .rw[h,KE] at h1 h2 ⊢;exact h1.trans h2
 .rintro⟨h1,h2⟩;refine⟨D4.symm,λi j=>?_⟩;rw[DH,KE];refine⟨mK.one,λh=>?_⟩;induction h with
  | refl h=>exact h1 _ h
  | tail _ hs ih=>exact h2 _ _ _ ih hs
def wD(r:Rl)(w:bD):bD:=(gk (w&&&j4 (bG r:Nat))).foldl (λo i=>o|||h_ r i) 0#64
def SZ{f:Nat->bD}:∀{l:List Nat} {o:bD},(l.foldl (λo i=>o|||f i) o).getLsbD j=(o.getLsbD j||l.any λi=>(f i).getLsbD j)
 | [],o=>by simp
 | a::l,o=>by rw[zU,SZ,PW,List.any_cons,Bool.or_assoc]
def YP:(wD r w).getLsbD j=ab↔∃i,w.getLsbD i=ab/\dj r i j=true:=by
 rw[wD,SZ];simp only[BitVec.getLsbD_zero,Gc,BR,VD,va,bF,B5,cn];constructor
 .rintro⟨i,⟨h1,_,h2⟩,h3⟩;exact⟨i,h1,by rw[dj,h3,aJ (by omega)];rfl⟩
 .rintro⟨i,h1,h2⟩
  have:=(xu h2).1;have:=@mX r
  rw[dj,bF] at h2;exact⟨i,⟨h1,by omega,by omega⟩,h2.2⟩
def yA(r:Rl)(w:bD):bD:=(bX (bG r)).foldl (λo i=>if h_ r i&&&w=0#64 then o else kW o (i:Nat)) 0#64
def aod:w≠0#64↔∃j,w.getLsbD j=true:=by
 constructor
 .intro h;exact⟨_,(Fk h).2.1⟩
 .rintro⟨j,h⟩ rfl;simp at h
def adU{n:Nat}(h:n<=64):((bX n).foldl (λo i=>if h_ r i&&&w=0#64 then o else kW o (i:Nat)) 0#64).getLsbD i=ab↔i<n/\h_ r i&&&w≠0#64:=by
 induction n with
 | zero=>simp
 | succ n MM =>
  have ih:=MM (by omega);rw[yF]
  by_cases hi:i=n
  .subst hi;split
   .rename_i h0;rw[ih];constructor
    .intro hc;omega
    .intro hc;exact absurd h0 hc.2
   .rename_i h0;rw[Jy,aJ (show i<64 by omega)];simp[h0]
  .split
   .rw[ih];constructor<;>rintro⟨a,b⟩<;>exact⟨by omega,b⟩
   .rw[Jy,aI (p:=(i:Int)=(n:Nat)) (by omega),Bool.and_false,Bool.or_false,ih];constructor<;>rintro⟨a,b⟩<;>exact⟨by omega,b⟩
def adV:(yA r w).getLsbD i=ab↔∃j,w.getLsbD j=ab/\dj r i j=true:=by
 rw[yA,adU mX,aod];simp only[va,bF,dj,cn];constructor
 .rintro⟨a,j,b,c⟩;exact⟨j,c,a,b⟩
 .rintro⟨j,c,a,b⟩;exact⟨a,j,b,c⟩
def IM{i j:Nat}(h:i<64):(jf [(i:Int)]).getLsbD j=decide (j=i):=by
 rw[Fu]
 by_cases e:j=i
 .subst e;simp[h]
 .simp[e];omega
def apq(h:i<bG r):jf (((bX (bG r)).filter (dj r i)).map Int.ofNat)=h_ r i:=by
 apply sW;intro j hj;rw[Fu,aJ hj,lD,DH,decide_eq_true_iff];simp only[vh,Qi,zW,JO];constructor
 .rintro⟨a,⟨h1,h2⟩,h3⟩;obtain rfl:a=j:=by omega
  rw[dj,bF] at h2;exact h2.2
 .intro h1
  have:dj r i j=true:=by rw[dj,h1,aJ h];rfl
  exact⟨j,⟨(xu this).2,this⟩,rfl⟩
def zm(r:Rl)(i:Nat):bD:=wD r (jf [(i:Int)])&&&yA r (jf [(i:Int)])
def Ac(r:Rl):Bool:=(bX (bG r)).all λi=>(bX i).all λj=>!(dj r i j&&dj r j i)
def Db(r:Rl):Bool:=vF r&&Ac r
def Z3:Ac r=ab↔∀i j,dj r i j=ab->dj r j i=ab->i=j:=by
 simp only[Ac,l7,zW,vb,DG];constructor
 .intro h i j h1 h2
  have:=xu h1
  rcases zZ i j with hc | hc | hc
  .rcases h j this.2 i hc with e | e
   .rw[e] at h2;simp at h2
   .rw[e] at h1;simp at h1
  .exact hc
  .rcases h i this.1 j hc with e | e
   .rw[e] at h1;simp at h1
   .rw[e] at h2;simp at h2
 .intro h i hi j hj;cases h1:dj r i j with
  | false=>exact .inl rfl
  | true =>
   cases h2:dj r j i with
   | false=>exact .inr rfl
   | true=>have:=h i j h1 h2;omega
def VH(hi:i<64):(zm r i).getLsbD j=(dj r i j&&dj r j i):=by
 rw[zm,va,DH,bF,bF,YP,adV];simp only[IM hi,cn];constructor
 .rintro⟨⟨a,rfl,h1⟩,⟨b,rfl,h2⟩⟩;exact⟨h1,h2⟩
 .rintro⟨h1,h2⟩;exact⟨⟨_,rfl,h1⟩,⟨_,rfl,h2⟩⟩
def VI(hc:vF r=ab)(hi:i<bG r):zm r i=jf [(i:Int)]↔∀j,dj r i j=ab->dj r j i=ab->j=i:=by
 have du : i<64:=vk hi mX;have hr:=(acw.1 hc).1 i hi;constructor
 .intro h j h1 h2
  have:=iK (λw:bD=>w.getLsbD j) h
  simp only[VH du,h1,h2,IM du,JJ] at this;simpa using this.symm
 .intro h;apply sW;intro j _;rw[VH du,IM du]
  by_cases e:j=i
  .subst e;simp[hr]
  .rw[aI e];cases h1:dj r i j with
   | false=>rfl
   | true =>
    cases h2:dj r j i with
    | false=>rfl
    | true=>exact absurd (h j h1 h2) e
def QK(hc:vF r=ab):Ac r=ab↔∀i,i<bG r->zm r i=jf [(i:Int)]:=by
 rw[Z3];constructor
 .intro h i hi;exact(VI hc hi).2 λj h1 h2=>(h i j h1 h2).symm
 .intro h i j h1 h2;exact((VI hc (xu h1).1).1 (h i (xu h1).1) j h1 h2).symm
end
section
variable {r:Rl} {w a b:bD} {i j k n o p x y:Nat}
def find_congr{U:Type}{p q:U->Bool}:∀{l:List U},(∀x∈l,p x=q x)->l.find? p=l.find? q
 | [],_=>rfl
 | a :: l, h => by
  have h1:=h a (by simp);have h2:=find_congr (l:=l) λx hx=>h x (by simp[hx])
  simp only[List.find?_cons,h1,h2]
def wS(r:Rl)(i:Nat):bD:=wD r (jf [(i:Int)])
def wT(r:Rl)(i:Nat):bD:=if i<bG r then yA r (jf [(i:Int)]) else 0#64
def ZT:(wS r i).getLsbD j=dj r i j:=by
 rw[DH,wS,YP];constructor
 .rintro⟨k,h1,h2⟩;rw[Fu] at h1;simp only[qj,bF,cn] at h1;obtain rfl:k=i:=by omega
  exact h2
 .intro h
  have:=(xu h).1;have:=@mX r
  exact⟨i,by rw[IM (by omega)];simp,h⟩
def II(f:Nat->bD)(i j:Nat):Option Nat:=(gk (f i&&&f j)).find? λu=>Bu (f i&&&f j) (f u)
def xE(r:Rl)(i j:Nat):Option Nat:=II (wS r) i j
def zj(r:Rl)(i j:Nat):Option Nat:=II (wT r) i j
def sv(r:Rl):Bool:=decide (1<=r.n)&&decide (r.n<=64)&&Db r&&(bX r.n.toNat).all λi=>(bX i).all λj=>(xE r i j).isSome&&(zj r i j).isSome
def WC(r:Rl)(w:bD):Option Nat:=(bX (bG r)).find? λi=>decide (wT r i=w)
def arE(r:Rl)(a b:bD):bD :=
 match WC r a,WC r b with
 | some i,aa j=>(match xE r i j with | some k=>wT r k | none=>a|||b)
 | _,_=>a|||b
def r_(r:Rl):Bool:=decide (1<=r.n)&&decide (r.n<=8)&&vF r
def Tn(h:r_ r=ab):∃n:Nat,r.n=n/\bG r=n/\1<=n/\n<=8:=by
 simp only[r_,bF,cn] at h;exact⟨r.n.toNat,by omega,by rw[bG];omega,by omega,by omega⟩
def IQ(r:Rl)(w:bD)(o:Nat):bD:=(w>>>(8*o))&&&j4 r.n
def Dg(n:Nat)(f:Nat->bD):bD:=(bX n).foldl (λw o=>w|||(f o<<<(8*o))) 0#64
def G0(r:Rl)(w:bD)(o:Nat):bD:=(gk (wS r o)).foldl (λs p=>s|||yA r (IQ r w p)) 0#64
def G1(r:Rl)(w:bD):bD:=if r_ r then Dg r.n.toNat (G0 r w) else 0#64
def xG(r:Rl)(d:bD):bD:=j4 r.n&&&~~~wD r d
def Dh(r:Rl)(o:Nat)(d:bD):bD:=if r_ r&&decide ((o:Int)<r.n) then G1 r (Dg r.n.toNat λk=>if k=o then xG r d else 0#64) else 0#64
def Bp(n k:Int):bD × Bool:=if 1<=n/\n<=64/\0<=k/\k<n then(j4 k,ab) else(0#64,ak)
end
def ae.leaf(kind:Int)(r:ae):Nd × ae:=(.mk kind r.word.1.pos r.word.1.aq [] [],r.word.2)
def ae.pj(r:ae):Nd × ae :=
 (.mk 6 r.word.1.pos r.word.1.aq ((r.word.2.take 58).2.words ab).1.1 [],((r.word.2.take 58).2.words ab).2)
def ae.constant:Nat->ae->Nd × ae
 | 0,r=>r.leaf 2
 | n + 1, r =>
  if r.bW 123=ab then(.mk 3 (r.words ab).1.2 [] (r.words ab).1.1 [],(r.words ab).2)
  else if r.bW 40=ab then(.mk 4 (r.nodes (ae.constant n) 40 ak).1.2 [] [] (r.nodes (ae.constant n) 40 ak).1.1,(r.nodes (ae.constant n) 40 ak).2)
  else if r.bW 91=ab then(.mk 5 (r.nodes ae.pj 91 ab).1.2 [] [] (r.nodes ae.pj 91 ab).1.1,(r.nodes ae.pj 91 ab).2)
  else r.leaf 2
def ae.atom(n:Nat)(r:ae):Nd × ae :=
 if r.bW 35=ab then(.mk 7 (r.take 35).1.tok.pos [] [] [(ae.constant n (r.take 35).2).1],(ae.constant n (r.take 35).2).2) else r.leaf 1
def ae.label:Nat->ae->Nd × ae
 | 0,r=>r.leaf 1
 | n + 1, r =>
  if r.bW 43=ab then(.mk 8 (r.take 43).1.tok.pos [] [] ((r.take 43).2.nodes (ae.label n) 40 ak).1.1,((r.take 43).2.nodes (ae.label n) 40 ak).2)
  else if r.bW 38=ab then(.mk 9 (r.take 38).1.tok.pos [] [] ((r.take 38).2.nodes (ae.label n) 40 ak).1.1,((r.take 38).2.nodes (ae.label n) 40 ak).2)
  else r.atom (n+1)
def ae.field(n:Nat)(r:ae):Nd × ae :=
 (.mk 11 r.word.1.pos r.word.1.aq [] [((r.word.2.take 61).2.atom n).1],((r.word.2.take 61).2.atom n).2)
def l6(r r' : ae):Prop:=r'.l=r.l/\(0<=r.at_->r.at_<=r.l.length->r.at_<=r'.at_/\r'.at_<=r.l.length/\(r'.aG=ag->r.at_+1<=r'.at_))
def l6.trans{a b c:ae}(h:l6 a b)(k:l6 b c):l6 a c:=by
 refine⟨k.1.trans h.1,λh1 h2=>?_⟩;obtain⟨p1,p2,p3⟩:=h.2 h1 h2;obtain⟨q1,q2,q3⟩:=k.2 (by omega) (by rw[h.1];exact p2);rw[h.1] at q2;exact⟨by omega,q2,λhq=>by have:=q3 hq;omega⟩
def ue(r:ae)(k:Int):l6 r (r.take k).2:=by
 refine⟨r.fT k,λh1 h2=>?_⟩
 rcases r.uY k with ⟨_,e,_,h3,h4⟩ | ⟨_,e,hb⟩
 .rw[e];exact⟨by omega,by omega,λ_=>by omega⟩
 .rw[e];exact⟨by omega,h2,λhq=>absurd hq hb⟩
def yH(r:ae):l6 r r.word.2:=ue r 97
def Eh(r:ae)(k:Int):l6 r (r.leaf k).2:=yH r
variable{G:Type}
def Tf(step:ae × List G->ae × List G)(k:Int)(e:Bool)(r:ae):l6 r (r.bracket step k e).2:=by
 have h:=ue r k;unfold ae.bracket;split
 .rename_i cu;have hb:(r.take k).2.aG=none:=by simpa [ae.ok] using cu
  exact⟨h.1,λh1 h2=>by
   obtain⟨p1,p2,p3⟩:=h.2 h1 h2;exact⟨p1,p2,λ_=>p3 hb⟩⟩
 .exact h
def Lk(r:ae)(e:Bool):l6 r (r.words e).2:=Tf _ _ _ _
def Hw(r:ae)(one:ae->Nd × ae)(k:Int)(e:Bool):l6 r (r.nodes one k e).2:=Tf _ _ _ _
def Df{one:ae->Nd × ae}(h:∀r,l6 r (one r).2):Reads one:=⟨λr=>(h r).1,λr=>(h r).2⟩
def aj4(r:ae):l6 r r.pj.2:=((yH r).trans (ue _ _)).trans (Lk _ _)
def Tg:∀(n:Nat) (r:ae),l6 r (ae.constant n r).2
 | 0,r=>Eh r 2
 | n + 1, r => by
  simp only[ae.constant];split
  .exact Lk r ab
  .split
   .exact Hw r _ 40 ak
   .split
    .exact Hw r _ 91 ab
    .exact Eh r 2
def Te(n:Nat)(r:ae):l6 r (r.atom n).2:=by
 simp only[ae.atom];split
 .exact(ue r 35).trans (Tg n _)
 .exact Eh r 1
def Lj:∀(n:Nat) (r:ae),l6 r (ae.label n r).2
 | 0,r=>Eh r 1
 | n + 1, r => by
  simp only[ae.label];split
  .exact(ue r 43).trans (Hw _ _ 40 ak)
  .split
   .exact(ue r 38).trans (Hw _ _ 40 ak)
   .exact Te (n+1) r
def Th(n:Nat)(r:ae):l6 r (r.field n).2:=((yH r).trans (ue _ _)).trans (Te n _)
def ae.nQ(n:Nat)(i:ae):(ae × List Nd) × List aB :=
 let a:=if i.bW 124=ab then(i,[]) else eB (cw (ae.field n)) i
 if a.1.bW 124=ab then(((a.1.take 124).2.word.2,a.2),[(a.1.take 124).2.word.1]) else(a,[])
def ae.rowOf(n:Nat)(t:al):(ae × List Nd) × List aB:=if t.aj.length=0 then((t.inner,[]),[]) else t.inner.nQ n
def ae.row(n:Nat)(r:ae):Nd × ae :=
 if r.bW 91=ab then(.mk 10 (r.take 91).1.tok.pos [] (ae.rowOf n (r.take 91).1).2 (ae.rowOf n (r.take 91).1).1.2,(r.take 91).2.under (ae.rowOf n (r.take 91).1).1.1) else r.leaf 1
def Nd.zero:Nd:=.mk 0 0 [] [] []
def fN(one:ae->Nd × ae)(l:List al)(at_ fin:Int):Nd × Int × Option Int :=
 match (one ⟨l,at_,fin,ag⟩).2.aG with
 | some b=>(.zero,0,aa b)
 | none=>((one ⟨l,at_,fin,ag⟩).1,(one ⟨l,at_,fin,ag⟩).2.at_,ag)
def jS(l:List al)(at_ fin:Int):List aB × Option Int :=
 match ((⟨l,at_,fin,ag⟩:ae).words ak).2.aG with
 | some b=>([],aa b)
 | none=>(((⟨l,at_,fin,ag⟩:ae).words ak).1.1,ag)
structure br where
 node:Nd
 next:Int
 aG:Bool
 pos:Int
def br.enc(g:br):List V:=[.int .i64 g.node.kind,.int .i64 g.node.pos,.aF g.node.aq,.sl .no 2 (g.node.an.map aB.enc),.sl .no 5 (g.node.aj.map Nd.enc),.int .i64 g.next,.bool g.aG,.int .i64 g.pos]
def jP(l:List al)(at_ fin:Int):Int:=if 0<=at_ then(match l[at_.toNat]? with | some t=>t.tok.pos | none=>fin) else fin
def dr(l:List al)(at_ fin:Int):br:=⟨.zero,0,ab,jP l at_ fin⟩
def fC(l:List al)(at_:Int):Tok:=match l[at_.toNat]? with | some t=>t.tok | none=>⟨0,[],0⟩
def nameAt(l:List al)(at_ fin:Int):br :=
 if a8 l at_ 97=ab then ⟨.mk 0 (fC l at_).pos (fC l at_).aq [] [],at_+1,ak,0⟩ else dr l at_ fin
def dq(one:Int->br)(l:List al):Nat->Int->List Nd->List Nd × br
 | 0,_,_=>([],⟨.zero,0,ab,0⟩)
 | n + 1, at_, out =>
  if (one at_).aG=ab then([],one at_)
  else if a8 l (one at_).next 44=ab then dq one l n ((one at_).next+1) (out++[(one at_).node])
  else(out++[(one at_).node],one at_)
def wholeAt(one:List al->Int->Int->br)(t:al)(empty:Bool):List Nd × br :=
 if empty=ab/\t.aj.length=0 then([],⟨.zero,0,ak,0⟩)
 else
  let r:=dq (λi=>one t.aj i t.fin) t.aj (t.aj.length+1) 0 []
  if r.2.aG=ak/\r.2.next<t.aj.length then([],dr t.aj r.2.next t.fin) else r
def jT(l:List Nd):List aB:=l.map λn=>⟨n.aq,n.pos⟩
def bJ(l:List al)(at_:Int):al:=match l[at_.toNat]? with | some t=>t | none=>.zero
def lU(l:List al)(at_ fin:Int):List aB × br :=
 if a8 l at_ 123=ab then(jT (wholeAt nameAt (bJ l at_) ak).1,(wholeAt nameAt (bJ l at_) ak).2) else([],dr l at_ fin)
def Yk{one:Int->br}{l:List al}:∀(n:Nat) (a:Int) (out:List Nd),(dq one l n a out).1.length<=out.length+n
 | 0,_,_=>by simp[dq]
 | n + 1, a, out => by
  simp only[dq];split
  .simp
  .split
   .have:=Yk (one:=one) (l:=l) n ((one a).next+1) (out++[(one a).node])
    simp at this;omega
   .simp
def Py{one:List al->Int->Int->br}(t:al)(e:Bool):(wholeAt one t e).1.length<=t.aj.length+1:=by
 unfold wholeAt;split
 .simp
 .simp only;split
  .simp
  .have:=Yk (one:=λi=>one t.aj i t.fin) (l:=t.aj) (t.aj.length+1) 0 []
   simpa using this
def iB{l:List al}{i k:Int}(h:a8 l i k=ab):∃j t,i=(j:Nat)/\l[j]?=aa t/\t.tok.kind=k/\j<l.length:=by
 simp only[a8,bF,cn] at h;obtain⟨h0,hk⟩:=h;obtain⟨j,rfl⟩:=wK h0;simp only[jW] at hk;cases hq:l[j]? with
 | none=>rw[hq] at hk;simp at hk
 | some t=>rw[hq] at hk;exact⟨j,t,rfl,hq,by simpa using hk,(fv.1 hq).1⟩
def gz{l:List al}{t:al}(h:l[j]?=aa t):(b_ l)[((j:Nat):Int).toNat]?=aa t.enc:=by simp[n_,h]
def o_{l:List Nd}{t:Nd}(h:l[j]?=aa t):(l.map Nd.enc)[((j:Nat):Int).toNat]?=aa t.enc:=by simp[h]
def Dx{l:List aB}{t:aB}(h:l[j]?=aa t):(l.map aB.enc)[((j:Nat):Int).toNat]?=aa t.enc:=by simp[h]
variable{x:al}
def al.c_:x.enc.length=5:=by rw[cJ];rfl
def al.gI{x:al}:cL x.enc=true:=by rw[cJ];rfl
def al.dV{x:al}:bO x.enc=true:=by rw[cJ];rfl
def al.dO{x:al}:aX x.enc=x.enc:=by rw[cJ];rfl
def al.fM:takeN 5 x.enc=aa x.enc:=by rw[cJ];rfl
def al.iF:bI ab 5 x.enc=aa (.agg x.enc):=by rw[cJ];rfl
def al.gV:cg 5 x.enc=true:=by rw[cJ];rfl
variable{z0 z1:V}
def al.gv{z2 z3 z4:V}:over [z0,z1,z2,z3,z4] x.enc=x.enc:=by rw[cJ];rfl
def al.cT{n:Nat}:bR n x.enc=true:=by rw[cJ];rfl
def al.au:=ah @al.c_ <| ah @al.gI <| ah @al.dV <| ah @al.dO <| ah @al.fM <| ah @al.iF <| ah @al.gV <| ah @al.gv @al.cT
def Nd.c_{x:Nd}:x.enc.length=5:=by rw[Nd.cJ];rfl
def Nd.gI{x:Nd}:cL x.enc=true:=by rw[Nd.cJ];rfl
def Nd.dV{x:Nd}:bO x.enc=true:=by rw[Nd.cJ];rfl
def Nd.dO{x:Nd}:aX x.enc=x.enc:=by rw[Nd.cJ];rfl
def Nd.fM{x:Nd}:takeN 5 x.enc=aa x.enc:=by rw[Nd.cJ];rfl
def Nd.iF{x:Nd}:bI ab 5 x.enc=aa (.agg x.enc):=by rw[Nd.cJ];rfl
def Nd.gV{x:Nd}:cg 5 x.enc=true:=by rw[Nd.cJ];rfl
def Nd.gv{x:Nd}{z2 z3 z4:V}:over [z0,z1,z2,z3,z4] x.enc=x.enc:=by rw[Nd.cJ];rfl
def Nd.cT{x:Nd}{n:Nat}:bR n x.enc=true:=by rw[Nd.cJ];rfl
def Nd.au:=ah @Nd.c_ <| ah @Nd.gI <| ah @Nd.dV <| ah @Nd.dO <| ah @Nd.fM <| ah @Nd.iF <| ah @Nd.gV <| ah @Nd.gv @Nd.cT
def aB.c_{x:aB}:x.enc.length=2:=by rw[aB.enc];rfl
def aB.gI{x:aB}:cL x.enc=true:=by rw[aB.enc];rfl
def aB.dV{x:aB}:bO x.enc=true:=by rw[aB.enc];rfl
def aB.dO{x:aB}:aX x.enc=x.enc:=by rw[aB.enc];rfl
def aB.fM{x:aB}:takeN 2 x.enc=aa x.enc:=by rw[aB.enc];rfl
def aB.iF{x:aB}:bI ab 2 x.enc=aa (.agg x.enc):=by rw[aB.enc];rfl
def aB.gV{x:aB}:cg 2 x.enc=true:=by rw[aB.enc];rfl
def aB.gv{x:aB}:over [z0,z1] x.enc=x.enc:=by rw[aB.enc];rfl
def aB.cT{x:aB}{n:Nat}:bR n x.enc=true:=by rw[aB.enc];rfl
def aB.au:=ah @aB.c_ <| ah @aB.gI <| ah @aB.dV <| ah @aB.dO <| ah @aB.fM <| ah @aB.iF <| ah @aB.gV <| ah @aB.gv @aB.cT
def br.c_{x:br}:x.enc.length=8:=by rw[br.enc];rfl
def br.gI{x:br}:cL x.enc=true:=by rw[br.enc];rfl
def br.dV{x:br}:bO x.enc=true:=by rw[br.enc];rfl
def br.dO{x:br}:aX x.enc=x.enc:=by rw[br.enc];rfl
def br.fM{x:br}:takeN 8 x.enc=aa x.enc:=by rw[br.enc];rfl
def br.iF{x:br}:bI ab 8 x.enc=aa (.agg x.enc):=by rw[br.enc];rfl
def br.gV{x:br}:cg 8 x.enc=true:=by rw[br.enc];rfl
def br.gv{x:br}{z2 z3 z4 z5 z6 z7:V}:over [z0,z1,z2,z3,z4,z5,z6,z7] x.enc=x.enc:=by rw[br.enc];rfl
def br.cT{x:br}{n:Nat}:bR n x.enc=true:=by rw[br.enc];rfl
def br.au:=ah @br.c_ <| ah @br.gI <| ah @br.dV <| ah @br.dO <| ah @br.fM <| ah @br.iF <| ah @br.gV <| ah @br.gv @br.cT
def Nd.x1{r:Nd}:r.enc.drop 1=[V.int .i64 r.pos,.aF r.aq,.sl .no 2 (r.an.map aB.enc),.sl .no 5 (r.aj.map Nd.enc)]:=by rw[Nd.cJ];rfl
def Nd.x2{r:Nd}:r.enc.drop 2=[V.aF r.aq,.sl .no 2 (r.an.map aB.enc),.sl .no 5 (r.aj.map Nd.enc)]:=by rw[Nd.cJ];rfl
def Nd.x3{r:Nd}:r.enc.drop 3=[V.sl .no 2 (r.an.map aB.enc),.sl .no 5 (r.aj.map Nd.enc)]:=by rw[Nd.cJ];rfl
def Nd.x4{r:Nd}:r.enc.drop 4=[V.sl .no 5 (r.aj.map Nd.enc)]:=by rw[Nd.cJ];rfl
def Nd.x0{r:Nd}:bI ak 1 r.enc=aa (.int .i64 r.kind):=by rw[Nd.cJ];rfl
def Nd.fl:=ah @Nd.x0 <| ah @Nd.x1 <| ah @Nd.x2 <| ah @Nd.x3 @Nd.x4
def al.x1{r:al}:r.enc.drop 1=[V.aF r.tok.aq,.int .i64 r.tok.pos,.sl .no 5 (b_ r.aj),.int .i64 r.fin]:=by rw[cJ];rfl
def al.x2{r:al}:r.enc.drop 2=[V.int .i64 r.tok.pos,.sl .no 5 (b_ r.aj),.int .i64 r.fin]:=by rw[cJ];rfl
def al.x3{r:al}:r.enc.drop 3=[V.sl .no 5 (b_ r.aj),.int .i64 r.fin]:=by rw[cJ];rfl
def al.x4{r:al}:r.enc.drop 4=[V.int .i64 r.fin]:=by rw[cJ];rfl
def al.x0{r:al}:bI ak 1 r.enc=aa (.int .u8 r.tok.kind):=by rw[cJ];rfl
def al.xt{r:al}:bI ab 3 r.enc=aa (.agg [.int .u8 r.tok.kind,.aF r.tok.aq,.int .i64 r.tok.pos]):=by rw[cJ];rfl
def al.fl:=ah @al.x0 <| ah @al.xt <| ah @al.x1 <| ah @al.x2 <| ah @al.x3 @al.x4
def rD(c:Int):Bool:=decide (97<=c)&&decide (c<=122)
def rf(c:Int):Bool:=rD c||(decide (48<=c)&&decide (c<=57))||decide (c=95)
def uV:List Int:=[35,43,38,40,41,123,125,91,93,44,58,61,124,60]
def kr(c:Int):Bool:=uV.any λs=>decide (s=c)
def closing(c:Int):Int:=if c=40 then 41 else if c=123\/c=91 then c+2 else 0
def j5(c:Int):Bool:=decide (c=41)||decide (c=125)||decide (c=93)
def fq(c:UInt8):Bool:=rf c.toNat
def sA(c:UInt8):Bool:=rD c.toNat
def dx(s:List UInt8):Bool:=decide (s.length<=16)&&(match s with | []=>ak | c::r=>sA c&&r.all fq)
def Tok.enc(t:Tok):List V:=[.int .u8 t.kind,.aF t.aq,.int .i64 t.pos]
def dQ(r:List UInt8):List UInt8:=r.takeWhile fq
def eY:Nat->Nat->List UInt8->List Tok->List Tok × Option Int
 | 0,_,_,acc=>(acc,ag)
 | _,_,[],acc=>(acc,ag)
 | n + 1, p, c :: r, acc =>
  if c.toNat=45/\(r.head?.map UInt8.toNat)=aa 45 then(acc,ag)
  else if 0<(dQ (c::r)).length/\dx (dQ (c::r))=ab then eY n (p+(dQ (c::r)).length) ((c::r).drop (dQ (c::r)).length) (acc++[⟨97,dQ (c::r),p⟩])
  else if kr (c.toNat:Nat)=ab then eY n (p+1) r (acc++[⟨(c.toNat:Nat),[c],p⟩])
  else if c.toNat=32\/c.toNat=9 then eY n (p+1) r acc
  else([],aa p)
def dv(s:List UInt8):List Tok × Option Int:=eY s.length 0 s []
def vv(b:Option Int):V:=.agg [.int .i64 (match b with | some _=>1 | none=>0),.int .i64 (fx b)]
def dn(l:List Tok)(i:Nat):Int:=match l[i]? with | some t=>t.kind | none=>0
def jG(l:List Tok):Nat->Nat->List Nat->Int
 | 0,_,open_=>match open_.getLast? with | some j=>(j:Nat) | none=>-1
 | n + 1, i, open_ =>
  if closing (dn l i)≠0/\24<=open_.length then(i:Nat)
  else
   let o:=if closing (dn l i)≠0 then open_++[i] else open_
   if j5 (dn l i)=ab then
    match o.getLast? with
    | none=>(i:Nat)
    | some j=>if closing (dn l j)=dn l i then jG l n (i+1) o.dropLast else(i:Nat)
   else jG l n (i+1) o
def iu(l:List Tok)(at_:Nat):Nat->Nat->Int->Nat
 | 0,_,_=>at_
 | n + 1, i, deep =>
  let d:=(deep+(if closing (dn l i)≠0 then 1 else 0)) - (if j5 (dn l i)=ab then 1 else 0)
  if d=0 then i else iu l at_ n (i+1) d
def partner(l:List Tok)(at_:Nat):Nat:=iu l at_ (l.length - at_) at_ 0
def p_(l:List Tok)(i:Nat):Int:=match l[i]? with | some t=>t.pos | none=>0
def iG(l:List Tok)(i:Nat):Tok:=match l[i]? with | some t=>t | none=>⟨0,[],0⟩
def jR(l:List Tok):Nat->Nat->Nat->List al
 | 0,_,_=>[]
 | n + 1, i, to =>
  if i<to then
   if closing (dn l i)≠0 then .mk (iG l i) (jR l n (i+1) (partner l i)) (p_ l (partner l i))::jR l n (partner l i+1) to
   else .mk (iG l i) [] (p_ l i)::jR l n (i+1) to
  else []
def gf(l:List Tok):List al × Option Int :=
 if 0<=jG l l.length 0 [] then([],aa (p_ l (jG l l.length 0 []).toNat)) else(jR l l.length 0 l.length,ag)
def jB:Option Int->List Tok->List UInt8
 | _,[]=>[]
 | k,t::ts=>(if k=aa 97/\t.kind=97 then [32] else [])++t.aq++jB (aa t.kind) ts
def fB(l:List Tok):List UInt8:=jB ag l
mutual
def al.flat:al->List Tok
 | .mk t ks e=>t::(if closing t.kind≠0 then bu ks++[⟨closing t.kind,[UInt8.ofNat (closing t.kind).toNat],e⟩] else [])
def bu:List al->List Tok
 | []=>[]
 | t::ts=>t.flat++bu ts
end
def OL(r:List UInt8):(dQ r).length<=r.length:=by
 unfold dQ;exact List.Sublist.length_le (ZE _)
variable{a:Nat}{s:List UInt8}
def Xq:(dQ (s.drop a)).length<=s.length - a:=by
 have:=OL (s.drop a)
 rwa [J5] at this
def YC{U:Type}{f:U->Bool}:∀(r:List U),r.take (r.takeWhile f).length=r.takeWhile f
 | []=>rfl
 | c :: r => by
  simp only[List.takeWhile_cons];split
  .simp[YC r]
  .simp
def KP:(s.take (a+(dQ (s.drop a)).length)).drop a=dQ (s.drop a):=by
 rw[JU,ZG];exact YC _
def RY(h:a<s.length):(s.take (a+1)).drop a=[s[a]]:=by
 rw[JU,ZG,mJ h];rfl
def Wm{l:List Tok}{at_:Nat}:∀(n i:Nat) (d:Int),at_<=i->i+n<=l.length->at_<l.length->at_<=iu l at_ n i d/\iu l at_ n i d<l.length
 | 0,i,d,_,_,h=>⟨bS _,h⟩
 | n + 1, i, d, h1, h2, h3 => by
  simp only[iu];generalize (d+(if closing (dn l i)≠0 then 1 else 0)) - (if j5 (dn l i)=ab then 1 else 0)=e;split
  .exact⟨h1,by omega⟩
  .exact Wm n (i+1) _ (by omega) (by omega) h3
variable{i:Nat}
def FC{l:List Tok}(h:i<l.length):i<=partner l i/\partner l i<l.length:=Wm _ _ _ (bS _) (by omega) h
def K5(l:List Tok):∀(n i:Nat) (o:List Nat),i+n<=l.length->(∀j∈o,j<l.length)->jG l n i o<l.length\/jG l n i o = -1
 | 0, i, o, _, ho => by
  simp only[jG];cases h:o.getLast? with
  | none=>exact .inr rfl
  | some j=>exact .inl (by have:=ho j (List.mem_of_getLast? h);simp only;omega)
 | n + 1, i, o, hi, ho => by
  have pS:∀j∈(if closing (dn l i)≠0 then o++[i] else o),j<l.length:=λj hj=>by
   split at hj
   .rcases jC.1 hj with h | h
    .exact ho j h
    .simp at h;omega
   .exact ho j hj
  simp only[jG];generalize (if closing (dn l i)≠0 then o++[i] else o)=o2 at pS ⊢;split
  .exact .inl (by omega)
  .split
   .cases h:o2.getLast? with
    | none=>exact .inl (by simp only;omega)
    | some j =>
     simp only;split
     .exact K5 l n (i+1) _ (by omega) λk hk=>pS k (P7 _ hk)
     .exact .inl (by omega)
   .exact K5 l n (i+1) o2 (by omega) pS
def It:∀(n p:Nat) (r:List UInt8) (acc:List Tok),r.length<=n->(eY n p r acc).1.length<=acc.length+r.length
 | 0,_,r,acc,_=>by cases r<;>simp[eY]
 | n+1,p,[],acc,_=>by simp[eY]
 | n + 1, p, c :: r, acc, h => by
  simp only[eY];have hr:=OL (c::r);simp only[dB] at h hr ⊢;split
  .simp only;omega
  .split
   .rename_i h1
    have:=It n (p+(dQ (c::r)).length) ((c::r).drop (dQ (c::r)).length) (acc++[⟨97,dQ (c::r),p⟩]) (by simp;omega)
    simp at this;omega
   .split
    .have:=It n (p+1) r (acc++[⟨(c.toNat:Nat),[c],p⟩]) (by omega)
     simp at this;omega
    .split
     .have:=It n (p+1) r acc (by omega);omega
     .simp
def Nq(s:List UInt8):(dv s).1.length<=s.length:=by
 have:=It s.length 0 s [] (bS _)
 simpa [dv] using this
def cO:List (List UInt8)->List UInt8
 | []=>[]
 | x::xs=>x++xs.flatMap λy=>44::y
def UQ(l:List (List UInt8))(y:List UInt8):cO (l++[y])=cO l++(if 0<l.length then [44] else [])++y:=by
 cases l with
 | nil=>simp[cO]
 | cons x xs=>simp[cO]
def UP:∀l:List (List UInt8),(cO l).length<=(l.map λx=>x.length+1).sum
 | []=>by simp[cO]
 | x :: xs => by
  simp only[cO,bP,List.length_flatMap,ch,n7]
  have:(xs.map λy=>(44::y).length)=xs.map λx=>x.length+1:=by simp
  rw[this];omega
def iT(ws:List aB):List UInt8:=cO (ws.map aB.aq)
def rk:List (List UInt8)->List UInt8
 | []=>[]
 | x::_=>x
mutual
def Nd.dy:Nd->List UInt8
 | .mk k _ t ws ks =>
  if k=1\/k=2 then t
  else if k=3 then [123]++iT ws++[125]
  else if k=4 then [40]++cO (eh ks)++[41]
  else if k=5 then [91]++cO (eh ks)++[93]
  else if k=6 then t++[58,123]++iT ws++[125]
  else if k=7 then [35]++rk (eh ks)
  else if k=8 then [43,40]++cO (eh ks)++[41]
  else if k=9 then [38,40]++cO (eh ks)++[41]
  else if k=10 then([91]++cO (eh ks))++(if 0<ws.length then [124]++iT ws else [])++[93]
  else if k=11 then t++[61]++rk (eh ks)
  else []
def eh:List Nd->List (List UInt8)
 | []=>[]
 | n::ns=>n.dy::eh ns
end
def BD:∀l,eh l=l.map Nd.dy
 | []=>rfl
 | n::ns=>by simp[eh,BD ns]
def fu(ws:List aB):Nat:=(ws.map λw=>w.aq.length+1).sum
mutual
def Nd.wt:Nd->Nat
 | .mk _ _ t ws ks=>t.length+fu ws+gg ks+4
def gg:List Nd->Nat
 | []=>0
 | n::ns=>n.wt+1+gg ns
end
def Gb:∀l,gg l=(l.map λn=>n.wt+1).sum
 | []=>rfl
 | n::ns=>by simp[gg,Gb ns]
def Ga(ws:List aB):(iT ws).length<=fu ws:=by
 have:=UP (ws.map aB.aq)
 simpa [iT,fu,DM,wI] using this
def JB{l:List Nd}{n:Nd}(h:n∈l):n.wt+1<=gg l:=by
 induction l with
 | nil=>simp at h
 | cons m ms ih =>
  rcases lF.1 h with rfl | h
  .simp only[gg];omega
  .have:=ih h;simp only[gg];omega
def Ij:∀(l:List Nd),(∀n∈l,n.dy.length<=n.wt)->(cO (eh l)).length<=gg l:=λl h=>by
 refine yh (UP _) ?_;rw[BD,Gb,DM];induction l with
 | nil=>simp
 | cons n ns ih =>
  simp only[ch,n7,Function.comp];have h1:=h n (by simp);have h2:=ih λm hm=>h m (by simp[hm])
  omega
def TX(l:List Nd)(h:∀n∈l,n.dy.length<=n.wt):(rk (eh l)).length<=gg l:=by
 cases l with
 | nil=>simp[eh,rk]
 | cons n ns=>have:=h n (by simp);simp only[eh,rk,gg];omega
mutual
def YO:∀(n:Nd),n.dy.length<=n.wt
 | .mk k p t ws ks => by
  have h1:=Ga ws;have h2:=Ij ks (BC ks);have h3:=TX ks (BC ks);simp only[Nd.dy,Nd.wt]
  repeat' split
  all_goals (try simp only[bP,dB,eM])
  all_goals omega
def BC:∀(l:List Nd),∀n∈l,n.dy.length<=n.wt
 | [],n,h=>by simp at h
 | m :: ms, n, h => by
  rcases lF.1 h with h | h
  .rw[h];exact YO m
  .exact BC ms n h
end
def Cd:List V:=ar 8 (.int .u64 0)
def y8:List V:=.int .i64 0::.int .i64 0::Cd
def cX(l:List (List UInt8)):List (List V):=l.map λs=>[.aF s]
variable{U:Type}
def r9{l:List U}{d:U}(h:i<l.length):l.getD i d=l[i]:=by simp[h]
def ia(l:List (List UInt8)):(cX l).length=l.length:=by simp[cX]
def OR{l:List (List UInt8)}(h:j<l.length):(cX l)[((j:Nat):Int).toNat]?=aa [.aF (l.getD j [])]:=by simp[cX,h]
def XC{l:List (List UInt8)}:(cX l).take j=cX (l.take j):=by simp[cX,Qg]
def dJ:Option Nat->Int
 | some k=>k
 | none=>-1
def iL(l:List (List UInt8))(s:List UInt8):Option Nat:=(bX l.length).find? λi=>decide (l.getD i []=s)
def Pg(l:List (List UInt8)):Option Nat:=(bX l.length).find? λi=>(iL (l.take i) (l.getD i [])).isSome
section
variable {l:List (List UInt8)} {s:List UInt8} {i:Nat}
def N2{o:Option Nat}:decide (0<=dJ o)=o.isSome:=by
 cases o with
 | none=>rfl
 | some k=>exact aJ (by simp only[dJ];omega)
def Da{o:Option Nat}:decide (dJ o<0)=o.isNone:=by
 cases o with
 | none=>rfl
 | some k=>exact aI (by simp only[dJ];omega)
def Hk{p:Nat->Bool}{n:Nat}(h:(bX n).find? p=aa k):k<n/\p k=ab/\∀j,j<k->p j=false:=by
 refine⟨by simpa using Ql h,by simpa using List.find?_some h,λj hj=>?_⟩;obtain⟨_,as,bs,h2,h3⟩:=Gk.1 h;have hl:as.length=k:=by
  have:=iK (λl:List Nat=>l[as.length]?) h2
  simp only[BT (bS _),Nat.sub_self,JZ] at this;rw[J1] at this
  .simpa using this
  .have:=iK List.length h2;simp at this;omega
 have gG : j∈as:=by
  have:=iK (λl:List Nat=>l[j]?) h2
  rw[tT (by omega),J1 (by have:=iK List.length h2;simp at this;omega)] at this;exact sQ this.symm
 have:=h3 j gG
 simpa using this
end
def uH(l:List (List UInt8)):Bool:=decide (1<=l.length)&&decide (l.length<=64)&&(Pg l).isNone&&l.all dx
structure bw where
 kind:Int
 an:List (List UInt8)
 rel:Rl
def bw.enc(f:bw):List V:=.int .i64 f.kind::.sl .no 1 (cX f.an)::f.rel.enc
def bw.zero:bw:=⟨0,[],.zero⟩
section
variable {f g:bw} {m:Nat}
def bw.c_:f.enc.length=67:=by simp[bw.enc,Rl.c_]
def bw.gI:cL f.enc=true:=by simp[bw.enc,cL,V.one,Rl.gI]
def bw.dV:bO f.enc=true:=by simp[bw.enc,bO,V.cY,Rl.dV]
def bw.dO:aX f.enc=f.enc:=by simp[bw.enc,aX,V.erase,Rl.dO]
def bw.cT:bR m f.enc=true:=by simp[bw.enc,bR,V.lo,Rl.cT]
def bw.fM:takeN 67 f.enc=aa f.enc:=by have:=zK (c:=f.enc);rwa [bw.c_] at this
def bw.iF:bI ab 67 f.enc=aa (.agg f.enc):=by rw[zg,bw.fM];rfl
def bw.gV:cg 67 f.enc=true:=by have:=yQ (c:=f.enc);rwa [bw.c_] at this
def bw.gv:over g.enc f.enc=f.enc:=uL (by rw[bw.c_,bw.c_])
theorem bw.Ox:bI ak 1 f.enc=aa (.int .i64 f.kind):=rfl
theorem bw.r_s:bI ak 1 (f.enc.drop 1)=aa (.sl .no 1 (cX f.an)):=rfl
theorem bw.uP:bI ak 1 (f.enc.drop 2)=aa (.int .i64 f.rel.n):=rfl
def bw.r_r:bI ab 65 (f.enc.drop 2)=aa (.agg f.rel.enc):=by
 show bI ab 65 f.rel.enc=_;exact Rl.iF
def bw.arA:takeN 65 (f.enc.drop 2)=aa f.rel.enc:=by
 show takeN 65 f.rel.enc=_;exact Rl.fM
def bw.Zn:over r7 f.enc=f.enc:=uL (by rw[bw.c_];rfl)
theorem bw.awg:cg 67 r7=true:=rfl
def bw.zlo:bR m r7=true:=by
 have:r7 = .int .i64 0::.sl .ba 1 []::Rl.zero.enc:=by rw[<-Rl.xR];rfl
 rw[this];simp[bR,V.lo,Rl.cT]
def bw.au:=ah @bw.c_ <| ah @bw.gI <| ah @bw.dV <| ah @bw.dO <| ah @bw.cT <| ah @bw.fM <| ah @bw.iF <| ah @bw.gV <| ah @bw.gv <| ah @bw.Ox <| ah @bw.r_s <| ah @bw.uP <| ah @bw.r_r <| ah @bw.arA <| ah @bw.Zn <| ah @bw.awg @bw.zlo
end
structure bC where
 tuple:Bool
 bQ:List bw
def bC.enc(s:bC):List V:=[.bool s.tuple,.sl .no 67 (s.bQ.map bw.enc)]
section
variable {s:bC} {g:Bool} {n:Nat} {a b:V}
theorem bC.c_:s.enc.length=2:=rfl
theorem bC.gI:cL s.enc=true:=rfl
theorem bC.dV:bO s.enc=true:=rfl
theorem bC.dO:aX s.enc=s.enc:=rfl
theorem bC.cT:bR n s.enc=true:=rfl
theorem bC.fM:takeN 2 s.enc=aa s.enc:=rfl
theorem bC.iF:bI ab 2 s.enc=aa (.agg s.enc):=rfl
theorem bC.gV:cg 2 s.enc=true:=rfl
theorem bC.gv:over [a,b] s.enc=s.enc:=rfl
theorem bC.Oz:bI ak 1 s.enc=aa (.bool s.tuple):=rfl
theorem bC.FI:bI ak 1 (s.enc.drop 1)=aa (.sl .no 67 (s.bQ.map bw.enc)):=rfl
def bC.au:=ah @bC.c_ <| ah @bC.gI <| ah @bC.dV <| ah @bC.dO <| ah @bC.cT <| ah @bC.fM <| ah @bC.iF <| ah @bC.gV <| ah @bC.gv <| ah @bC.Oz @bC.FI
end
def bC.ok(s:bC):Prop:=s.bQ.length<=100000/\∀f∈s.bQ,f.an.length<=100000
def re(f:bw):Bool:=uH f.an &&
 (if f.kind=1\/f.kind=2 then decide (bG f.rel=0) else if f.kind=3 then decide (f.rel.n=f.an.length)&&r_ f.rel else if f.kind=4 then decide (f.rel.n=f.an.length)&&sv f.rel else ak)
def nR(s:bC):Bool:=decide (1<=s.bQ.length)&&decide (s.bQ.length<=8)&&(s.tuple||decide (s.bQ.length=1))&&s.bQ.all re
def WA{r:Rl}:decide (kQ r=kQ Rl.zero)=decide (bG r=0):=by
 apply sV.2;have hz:bG Rl.zero=0:=by simp[bG,Rl.zero]
 constructor
 .intro h;have:=(Wz.1 h).1;rw[this,hz]
 .intro h;rw[R_ h,R_ hz]
structure bp where
 w:List bD
 len:w.length=8
def bp.ext'{a b:bp}(h:a.w=b.w):a=b:=by cases a;cases b;simp only at h;subst h;rfl
instance:DecidableEq bp:=λa b=>if h:a.w=b.w then isTrue (bp.ext' h) else isFalse λe=>h (e▸rfl)
def bp.enc(e:bp):List V:=im e.w
def bp.zero:bp:=⟨ar 8 0#64,by simp⟩
def bp.get(e:bp)(i:Nat):bD:=e.w.getD i 0#64
def bp.put(e:bp)(i:Nat)(w:bD):bp:=⟨e.w.set i w,by simp[e.len]⟩
def bp.of(f:Nat->bD):bp:=⟨(bX 8).map f,by simp⟩
section
variable {e d:bp} {i m:Nat} {w:bD} {f:Nat->bD}
def bp.Cl:(e.put i w).get j=if i=j/\i<8 then w else e.get j:=by
 simp only[bp.get,bp.put,ij,List.getElem?_set,e.len]
 by_cases h:i=j
 .subst h
  by_cases h2:i<8
  .simp[h2]
  .simp[h2,e.len]
 .simp[h]
def bp.pJ(h:i<8):(bp.of f).get i=f i:=by simp[bp.get,bp.of,ij,h]
def bp.ext(k:∀i,i<8->e.get i=d.get i):e=d:=by
 refine bp.ext' (P_ (by rw[e.len,d.len]) λi h1 h2=>?_)
 have:=k i (by rw[e.len] at h1;exact h1)
 simpa [bp.get,ij,h1,h2] using this
def bp.c_:e.enc.length=8:=by simp[bp.enc,Ha,e.len]
def bp.gI:cL e.enc=true:=Sg
def bp.dV:bO e.enc=true:=Sf
def bp.dO:aX e.enc=e.enc:=Sc
def bp.cT:bR m e.enc=true:=Se
def bp.fM:takeN 8 e.enc=aa e.enc:=by have:=zK (c:=e.enc);rwa [bp.c_] at this
def bp.iF:bI ab 8 e.enc=aa (.agg e.enc):=by rw[zg,bp.fM];rfl
def bp.gV:cg 8 e.enc=true:=by have:=yQ (c:=e.enc);rwa [bp.c_] at this
def bp.gv:over d.enc e.enc=e.enc:=uL (by rw[bp.c_,bp.c_])
def bp.xR:Cd=bp.zero.enc:=by rw[bp.enc,im,bp.zero,List.map_replicate];rfl
def bp.qQ:fQ [1,1,1,1,1,1,1,1] e.enc d.enc=aa (decide (e=d)):=by
 show fQ (ar 8 1) (im e.w) (im d.w)=_;rw[Sb e.len d.len];congr 1;exact sV.2 ⟨bp.ext',λh=>h▸rfl⟩
def bp.BE(h:i<8):cg 1 (e.enc.drop i)=true:=Sd (by rw[e.len];exact h)
def bp.BF(h:i<8):setAt e.enc i [.int .u64 (w.toNat:Nat)]=(e.put i w).enc:=Si (by rw[e.len];exact h)
def bp.fill:(bp.of λj=>if j<i then f j else 0#64).put i (f i)=bp.of λj=>if j<i+1 then f j else 0#64:=by
 refine bp.ext λk hk=>?_
 rw[bp.Cl,bp.pJ hk,bp.pJ hk]
 by_cases h:i=k
 .subst h;simp[hk]
 .rw[aA (by omega)]
  by_cases h2:k<i
  .rw[aE h2,aE (by omega)]
  .rw[aA h2,aA (by omega)]
def bp.awf:bp.zero=bp.of λ_=>0#64:=by
 refine bp.ext λi hi=>?_
 rw[bp.pJ hi];simp only[bp.get,bp.zero,ij,Zz,hi,cm,BX]
def bp.au:=ah @bp.c_ <| ah @bp.gI <| ah @bp.dV <| ah @bp.dO <| ah @bp.cT <| ah @bp.fM <| ah @bp.iF <| ah @bp.gV <| ah @bp.gv <| ah @bp.xR @bp.qQ
end
def alL(s:bC)(a b:bp)(i:Nat):bD :=
 match s.bQ[i]? with
 | some f=>if f.kind=4 then arE f.rel (a.get i) (b.get i) else a.get i|||b.get i
 | none=>a.get i|||b.get i
def alK(s:bC)(a b:bp):bp:=bp.of (alL s a b)
def anZ(a b:bp):bp:=bp.of λi=>a.get i&&&b.get i
def iR(ws:List aB):Bool:=ws.all λw=>dx w.aq
def Nd.lu(n:Nd):Bool:=dx n.aq&&decide ((n.an.length:Int)+n.aj.length=0)
def Nd.lG(n:Nd):Bool:=decide (n.aq=[])&&decide ((n.an.length:Int)=0)
def Nd.qd(n:Nd):Bool:=decide (n.kind=6)&&dx n.aq&&iR n.an&&decide ((n.aj.length:Int)=0)
mutual
def Nd.iY:Nd->Bool
 | .mk k p t ws ks =>
  if k=2 then(Nd.mk k p t ws ks).lu
  else if k=3 then decide (t=[])&&iR ws&&decide ((ks.length:Int)=0)
  else if k=4 then(Nd.mk k p t ws ks).lG&&decide ((0:Int)<ks.length)&&G6 ks
  else if k=5 then(Nd.mk k p t ws ks).lG&&ks.all Nd.qd
  else ak
def G6:List Nd->Bool
 | []=>ab
 | n::ns=>n.iY&&G6 ns
end
def RS:∀l,G6 l=l.all Nd.iY
 | []=>rfl
 | n::ns=>by simp[G6,RS ns]
def Nd.Al(n:Nd):n.iY=if n.kind=2 then n.lu else if n.kind=3 then decide (n.aq=[])&&iR n.an&&decide ((n.aj.length:Int)=0)
 else if n.kind=4 then n.lG&&decide ((0:Int)<n.aj.length)&&n.aj.all Nd.iY else if n.kind=5 then n.lG&&n.aj.all Nd.qd else false:=by
 cases n;rw[<-RS];rw[Nd.iY];rfl
def vV(f:Nd->Bool):List Nd->Bool
 | []=>ak
 | n::_=>f n
mutual
def Nd.fA:Nd->Bool
 | .mk k p t ws ks =>
  if k=1 then(Nd.mk k p t ws ks).lu
  else if k=7 then(Nd.mk k p t ws ks).lG&&decide ((ks.length:Int)=1)&&vV Nd.iY ks
  else if k=8\/k=9 then(Nd.mk k p t ws ks).lG&&decide ((0:Int)<ks.length)&&Io ks
  else ak
def Io:List Nd->Bool
 | []=>ab
 | n::ns=>n.fA&&Io ns
end
def U1:∀l,Io l=l.all Nd.fA
 | []=>rfl
 | n::ns=>by simp[Io,U1 ns]
def Nd.uC(n:Nd):n.fA=if n.kind=1 then n.lu else if n.kind=7 then n.lG&&decide ((n.aj.length:Int)=1)&&vV Nd.iY n.aj
 else if n.kind=8\/n.kind=9 then n.lG&&decide ((0:Int)<n.aj.length)&&n.aj.all Nd.fA else false:=by
 cases n;rw[<-U1];rw[Nd.fA];rfl
def Nd.qo(n:Nd):Bool:=(decide (n.kind=1)||decide (n.kind=7))&&n.fA
def Nd.me(n:Nd):Bool:=decide (n.kind=11)&&dx n.aq&&decide ((n.an.length:Int)=0)&&decide ((n.aj.length:Int)=1)&&vV Nd.qo n.aj
def Nd.jN(n:Nd):Bool :=
 if n.kind=10 then decide (n.aq=[])&&decide ((n.an.length:Int)<=1)&&iR n.an&&n.aj.all Nd.me else decide (n.kind=1)&&n.fA
def ey:List aB->List aB->Bool
 | [],[]=>ab
 | w::ws,u::us=>decide (w.aq=u.aq)&&ey ws us
 | _,_=>ak
mutual
def Nd.c9:Nd->Nd->Bool
 | .mk k _ t ws ks,n=>decide (k=n.kind)&&decide (t=n.aq)&&ey ws n.an&&dP ks n.aj
def dP:List Nd->List Nd->Bool
 | [],[]=>ab
 | n::ns,m::ms=>n.c9 m&&dP ns ms
 | _,_=>ak
end
def Nd.Di(n m:Nd):n.c9 m=(decide (n.kind=m.kind)&&decide (n.aq=m.aq)&&ey n.an m.an&&dP n.aj m.aj):=by cases n;rw[Nd.c9];rfl
def XM:∀l,ey l l=ab
 | []=>rfl
 | w::ws=>by simp[ey,XM ws]
mutual
def Nd.XI:∀n:Nd,n.c9 n=ab
 | .mk k p t ws ks=>by simp[Nd.c9,Nd.kind,Nd.aq,Nd.an,Nd.aj,XM,XT ks]
def XT:∀l:List Nd,dP l l=ab
 | []=>by simp[dP]
 | n::ns=>by simp[dP,Nd.XI n,XT ns]
end
def XK:∀{a b:List aB},ey a b=ab->a.length=b.length
 | [],[],_=>rfl
 | [],_::_,h=>by simp[ey] at h
 | _::_,[],h=>by simp[ey] at h
 | _::ws,_::us,h=>by simp only[ey,bF] at h;simp[XK h.2]
def XR:∀{a b:List Nd},dP a b=ab->a.length=b.length
 | [],[],_=>rfl
 | [],_::_,h=>by simp[dP] at h
 | _::_,[],h=>by simp[dP] at h
 | _::ws,_::us,h=>by simp only[dP,bF] at h;simp[XR h.2]
def XJ:∀{a b:List aB} {i:Nat} (ha:i<a.length) (hb:i<b.length),a.length=b.length->ey (a.take i) (b.take i)=ab->ey (a.take (i+1)) (b.take (i+1))=decide (a[i].aq=b[i].aq)/\(decide (a[i].aq=b[i].aq)=ak->ey a b=ak)
 | w::ws,u::us,0,_,_,_,_=>by simp[ey];intro h1 h2;exact absurd h2 h1
 | w :: ws, u :: us, i + 1, ha, hb, hl, h => by
  simp only[wM,ey,bF] at h ⊢
  have:=XJ (a:=ws) (b:=us) (i:=i) (by simpa using ha) (by simpa using hb) (by simpa using hl) h.2
  simp only[h.1,lD,Gl];exact this
 | [],_,_,ha,_,_,_=>by simp at ha
 | _::_,[],_,_,hb,_,_=>by simp at hb
def XQ:∀{a b:List Nd} {i:Nat} (ha:i<a.length) (hb:i<b.length),a.length=b.length->dP (a.take i) (b.take i)=ab->dP (a.take (i+1)) (b.take (i+1))=a[i].c9 b[i]/\(a[i].c9 b[i]=ak->dP a b=ak)
 | w::ws,u::us,0,_,_,_,_=>by simp[dP];intro h1 h2;rw[h1] at h2;simp at h2
 | w :: ws, u :: us, i + 1, ha, hb, hl, h => by
  simp only[wM,dP,bF] at h ⊢
  have:=XQ (a:=ws) (b:=us) (i:=i) (by simpa using ha) (by simpa using hb) (by simpa using hl) h.2
  simp only[h.1,lD,Gl];exact this
 | [],_,_,ha,_,_,_=>by simp at ha
 | _::_,[],_,_,hb,_,_=>by simp at hb
def qp(o:Option Int):List V:=[.bool o.isSome,.int .i64 (o.getD 0)]
def vP(o:Option Int):List V:=[.int .i64 (if o.isSome then 4 else 0),.int .i64 (o.getD 0)]
def iD(l:List (List UInt8))(s:bD):List aB->bD × Option Int
 | []=>(s,ag)
 | w::ws=>match iL l w.aq with | none=>(0#64,aa w.pos) | some k=>iD l (kW s (k:Nat)) ws
def wo(f:bw)(s:bD):List Nd->bD × Option Int
 | []=>(s,ag)
 | k :: ks => match iL f.an k.aq with
  | none=>(0#64,aa k.pos)
  | some o => match (iD f.an 0#64 k.an).2 with
   | some p=>(0#64,aa p)
   | none=>wo f (s|||Dh f.rel o (iD f.an 0#64 k.an).1) ks
def qR(f:bw)(s:bD)(aG:Option Int):List Nd->bD × Option Int
 | []=>(s,aG)
 | k :: ks => match iL f.an k.aq with
  | none=>(0#64,aG.or (aa k.pos))
  | some o=>qR f (s|||Dh f.rel o (iD f.an 0#64 k.an).1) (aG.or (iD f.an 0#64 k.an).2) ks
def OK{f:bw}{p:Int}:∀{ks:List Nd} {s:bD},(qR f s (aa p) ks).2=aa p
 | [],_=>rfl
 | k :: ks, s => by
  simp only[qR];split
  .rfl
  .exact OK
def Xo{f:bw}:∀{ks:List Nd} {s:bD},(qR f s ag ks).2=(wo f s ks).2/\((wo f s ks).2=ag->(qR f s ag ks).1=(wo f s ks).1)
 | [],_=>⟨rfl,λ_=>rfl⟩
 | k :: ks, s => by
  simp only[qR,wo];split
  .exact⟨rfl,λh=>by simp at h⟩
  .split
   .rename_i o _ p hp;rw[hp];exact⟨OK,λh=>by simp at h⟩
   .rename_i hp;rw[hp];exact Xo
def qP(f:bw)(n:Nd):bD × Option Int :=
 match iL f.an n.aq with
 | none=>(0#64,aa n.pos)
 | some k=>(if f.kind=4 then wT f.rel k else(Bp (f.an.length:Nat) (k:Nat)).1,ag)
def A5(f:bw):Int:=if f.kind=2 then 3 else if f.kind=3 then 5 else 2
def wG(f:bw)(n:Nd):bD × Option Int :=
 if n.kind=A5 f then(if f.kind=2 then iD f.an 0#64 n.an else if f.kind=3 then wo f 0#64 n.aj else qP f n) else(0#64,aa n.pos)
def ng(f:bw)(n:Nd)(aG:Option Int):bD × Option Int :=
 if n.kind=A5 f then(if f.kind=2 then((iD f.an 0#64 n.an).1,aG.or (iD f.an 0#64 n.an).2) else if f.kind=3 then qR f 0#64 aG n.aj else((qP f n).1,aG.or (qP f n).2)) else(0#64,aG.or (aa n.pos))
def Zh{f:bw}{n:Nd}{p:Int}:(ng f n (aa p)).2=aa p:=by
 unfold ng;split
 .split
  .rfl
  .split
   .exact OK
   .rfl
 .rfl
def avW{f:bw}{n:Nd}:(ng f n ag).2=(wG f n).2/\((wG f n).2=ag->(ng f n ag).1=(wG f n).1):=by
 unfold ng wG;split
 .split
  .simp
  .split
   .exact Xo
   .simp
 .simp
def kM:Nd:=.mk 0 0 [] [] []
def kX(s:bC)(ks:List Nd)(i:Nat):bD × Option Int:=wG (s.bQ.getD i .zero) (ks.getD i kM)
def wX(s:bC)(ks:List Nd):bp × Option Int :=
 match (bX s.bQ.length).find? λi=>(kX s ks i).2.isSome with
 | some i=>(.zero,(kX s ks i).2)
 | none=>(bp.of λj=>if j<s.bQ.length then(kX s ks j).1 else 0#64,ag)
def kP(s:bC)(n:Nd):List Nd:=if s.tuple then n.aj else [n]
def qM(s:bC)(n:Nd):Bool:=!s.tuple||(decide (n.kind=4)&&decide (n.aj.length=s.bQ.length))
def iZ(s:bC)(n:Nd):bp × Option Int:=if qM s n&&nR s&&n.iY then wX s (kP s n) else(.zero,aa n.pos)
def Eg(s:bC)(ks:List Nd)(i:Nat)(x:bp × Option Int):Prop :=
 (x.2=ag/\(∀k,k<i->(kX s ks k).2=ag)/\x.1=bp.of λj=>if j<i then(kX s ks j).1 else 0#64) \/
 (x.2.isSome=ab/\∃k,k<i/\(kX s ks k).2=x.2/\∀j,j<k->(kX s ks j).2=ag)
def ajZ{s:bC}{ks:List Nd}:Eg s ks 0 (.zero,ag):=.inl ⟨rfl,λk h=>by omega,bp.awf⟩
def ajY{s:bC}{ks:List Nd}{e:bp}{o:Option Int}(h:Eg s ks i (e,o)):
 Eg s ks (i+1) (e.put i (ng (s.bQ.getD i .zero) (ks.getD i kM) o).1,(ng (s.bQ.getD i .zero) (ks.getD i kM) o).2):=by
 rcases h with ⟨h1,h2,h3⟩ | ⟨h1,k,h2,h3,h4⟩
 .simp only at h1 h3;subst h1;subst h3;obtain⟨e1,e2⟩:=@avW (s.bQ.getD i .zero) (ks.getD i kM);cases hb:(wG (s.bQ.getD i .zero) (ks.getD i kM)).2 with
  | none =>
   left;refine⟨by simp only;rw[e1,hb],λk hk=>?_,?_⟩
   .rcases ZH.1 hk with h | rfl
    .exact h2 k h
    .exact hb
   .simp only;rw[e2 hb];exact bp.fill (f:=λj=>(kX s ks j).1)
  | some p =>
   right;refine⟨by simp only;rw[e1,hb];rfl,i,by omega,by simp only;rw[e1];rfl,h2⟩
 .simp only at h1 h3;obtain⟨p,rfl⟩:=Qu.1 h1;right;exact⟨by simp only;rw[Zh];rfl,k,by omega,by simp only;rw[Zh];exact h3,h4⟩
def ajX{s:bC}{ks:List Nd}{x:bp × Option Int}(h:Eg s ks s.bQ.length x):wX s ks=if x.2.isSome then(.zero,x.2) else(x.1,ag):=by
 rcases h with ⟨h1,h2,h3⟩ | ⟨h1,k,h2,h3,h4⟩
 .have e:(bX s.bQ.length).find? (λi=>(kX s ks i).2.isSome)=none:=by
   rw[JY];intro i hi;rw[h2 i (by simpa using hi)];simp
  rw[wX,e,h1,h3];rfl
 .have e:(bX s.bQ.length).find? (λi=>(kX s ks i).2.isSome)=aa k:=by
   rw[Gk];refine⟨by rw[h3];exact h1,bX k,List.range' (k+1) (s.bQ.length - (k+1)),?_,λa ha=>by rw[h4 a (by simpa using ha)];rfl⟩;rw[vj,vj,<-DN]
   have:=Qn (s:=0) (m:=k) (n:=s.bQ.length - k) (step:=1)
   simp only[yj,jY] at this;rw[show s.bQ.length - (k+1)+1=s.bQ.length - k by omega,this];congr 1;omega
  rw[wX,e,aE h1];simp only[h3]
mutual
def Nd.cI:Nd->Nat
 | .mk _ _ _ ws ks=>1+ws.length+gP ks
def gP:List Nd->Nat
 | []=>0
 | n::ns=>n.cI+gP ns
end
def Rz:∀a b:List Nd,gP (a++b)=gP a+gP b
 | [],b=>by simp[gP]
 | x::xs,b=>by simp only[iv,gP,Rz xs b];omega
def RC(l:List Nd)(i:Nat):gP (l.take i)<=gP l:=by
 have:=Rz (l.take i) (l.drop i)
 rw[rQ] at this;omega
def avk(l:List aB):l.length<=fu l:=by
 unfold fu;induction l with
 | nil=>simp
 | cons w ws ih=>simp only[ch,n7,dB];omega
mutual
def G5:∀n:Nd,n.cI<=n.wt
 | .mk k p t ws ks => by
  have:=RE ks
  have:=avk ws
  simp only[Nd.cI,Nd.wt];omega
def RE:∀l:List Nd,gP l<=gg l
 | []=>by simp[gP,gg]
 | n :: ns => by
  have:=G5 n
  have:=RE ns
  simp only[gP,gg];omega
end
structure ei where
 name:List UInt8
 shape:bC
def ei.enc(l:ei):List V:=.aF l.name::l.shape.enc
structure dC where
 name:List UInt8
 kind:Int
 lat:Int
def dC.enc(v:dC):List V:=[.aF v.name,.int .i64 v.kind,.int .i64 v.lat]
structure aN where
 bz:List ei
 vars:List dC
def aN.enc(s:aN):List V:=[.sl .no 3 (s.bz.map ei.enc),.sl .no 3 (s.vars.map dC.enc)]
section
variable {l:ei} {v:dC} {s:aN} {n:Nat} {a b c:V}
theorem aN.c_:s.enc.length=2:=rfl
theorem aN.gI:cL s.enc=true:=rfl
theorem aN.dV:bO s.enc=true:=rfl
theorem aN.dO:aX s.enc=s.enc:=rfl
theorem aN.cT:bR n s.enc=true:=rfl
theorem aN.fM:takeN 2 s.enc=aa s.enc:=rfl
theorem aN.iF:bI ab 2 s.enc=aa (.agg s.enc):=rfl
theorem aN.gV:cg 2 s.enc=true:=rfl
theorem aN.gv:over [a,b] s.enc=s.enc:=rfl
theorem aN.Oy:bI ak 1 s.enc=aa (.sl .no 3 (s.bz.map ei.enc)):=rfl
theorem aN.OA:bI ak 1 (s.enc.drop 1)=aa (.sl .no 3 (s.vars.map dC.enc)):=rfl
theorem dC.uP:bI ak 1 v.enc=aa (.aF v.name):=rfl
theorem dC.Ox:bI ak 1 (v.enc.drop 1)=aa (.int .i64 v.kind):=rfl
theorem dC.Oy:bI ak 1 (v.enc.drop 2)=aa (.int .i64 v.lat):=rfl
theorem ei.uP:bI ak 1 l.enc=aa (.aF l.name):=rfl
theorem ei.arC:takeN 2 (l.enc.drop 1)=aa l.shape.enc:=rfl
def aN.au:=ah @aN.c_ <| ah @aN.gI <| ah @aN.dV <| ah @aN.dO <| ah @aN.cT <| ah @aN.fM <| ah @aN.iF <| ah @aN.gV <| ah @aN.gv <| ah @aN.Oy <| ah @aN.OA <| ah @dC.uP <| ah @dC.Ox <| ah @dC.Oy <| ah @ei.uP @ei.arC
end
structure bB where
 op:Int
 n:Int
 c:bp
def bB.enc(i:bB):List V:=.int .i64 i.op::.int .i64 i.n::i.c.enc
def bB.zero:bB:=⟨0,0,.zero⟩
def bB.ext'{a b:bB}(h1:a.op=b.op)(h2:a.n=b.n)(h3:a.c=b.c):a=b:=by cases a;cases b;simp only at h1 h2 h3;subst h1;subst h2;subst h3;rfl
instance:DecidableEq bB:=λa b=>if h:a.op=b.op/\a.n=b.n/\a.c=b.c then isTrue (bB.ext' h.1 h.2.1 h.2.2) else isFalse λe=>h (e▸⟨rfl,rfl,rfl⟩)
section
variable {i j:bB} {n:Nat} {x y:Int} {e:bp}
def bB.c_:i.enc.length=10:=by simp[bB.enc,bp.c_]
def bB.gI:cL i.enc=true:=by simp[bB.enc,cL,V.one,bp.gI]
def bB.dV:bO i.enc=true:=by simp[bB.enc,bO,V.cY,bp.dV]
def bB.dO:aX i.enc=i.enc:=by simp[bB.enc,aX,V.erase,bp.dO]
def bB.cT:bR n i.enc=true:=by simp[bB.enc,bR,V.lo,bp.cT]
def bB.fM:takeN 10 i.enc=aa i.enc:=by have:=zK (c:=i.enc);rwa [bB.c_] at this
def bB.iF:bI ab 10 i.enc=aa (.agg i.enc):=by rw[zg,bB.fM];rfl
def bB.gV:cg 10 i.enc=true:=by have:=yQ (c:=i.enc);rwa [bB.c_] at this
def bB.gv:over j.enc i.enc=i.enc:=uL (by rw[bB.c_,bB.c_])
theorem bB.r_o:bI ak 1 i.enc=aa (.int .i64 i.op):=rfl
theorem bB.uP:bI ak 1 (i.enc.drop 1)=aa (.int .i64 i.n):=rfl
def bB.arw:takeN 8 (i.enc.drop 2)=aa i.c.enc:=by show takeN 8 i.c.enc=_;exact bp.fM
def bB.xR:y8=bB.zero.enc:=by
 show V.int .i64 0::V.int .i64 0::Cd=_;rw[bp.xR];rfl
def bB.b_o:over i.enc [.int .i64 x]=(bB.mk x i.n i.c).enc:=by rw[bB.enc,p8,mU];rfl
theorem bB.DZ:cg 1 i.enc=true:=rfl
theorem bB.aa8:cg 1 (i.enc.drop 1)=true:=rfl
def bB.Kv:setAt i.enc 1 [.int .i64 x]=(bB.mk i.op x i.c).enc:=by rw[bB.enc,ka,mC,p8,mU];rfl
def bB.aa9:cg 8 (i.enc.drop 2)=true:=by show cg 8 i.c.enc=ab;exact bp.gV
def bB.Ku:setAt i.enc 2 e.enc=(bB.mk i.op i.n e).enc:=by rw[bB.enc,ka,ka,mC,bp.gv];rfl
def bB.qQ:fQ [1,1,1,1,1,1,1,1,1,1] i.enc j.enc=aa (decide (i=j)):=by
 rw[bB.enc,bB.enc,r5,r5,bp.qQ,qn,qn];congr 1;rw[<-yd,<-yd];exact sV.2 ⟨λh=>bB.ext' h.1 h.2.1 h.2.2,λh=>h▸⟨rfl,rfl,rfl⟩⟩
def bB.au:=ah @bB.c_ <| ah @bB.gI <| ah @bB.dV <| ah @bB.dO <| ah @bB.cT <| ah @bB.fM <| ah @bB.iF <| ah @bB.gV <| ah @bB.gv <| ah @bB.r_o <| ah @bB.uP <| ah @bB.arw <| ah @bB.xR <| ah @bB.b_o <| ah @bB.DZ <| ah @bB.aa8 <| ah @bB.Kv <| ah @bB.aa9 <| ah @bB.Ku @bB.qQ
end
def NM(l:List ei)(t:List UInt8)(i:Nat):Bool:=match l[i]? with | some x=>decide (x.name=t) | none=>ak
def NN(l:List dC)(t:List UInt8)(i:Nat):Bool:=match l[i]? with | some x=>decide (x.name=t) | none=>ak
def i_(l:List ei)(t:List UInt8):Option Nat:=(bX l.length).find? (NM l t)
def lb(l:List dC)(t:List UInt8):Option Nat:=(bX l.length).find? (NN l t)
def x7(s:aN)(lat:Nat)(t:List UInt8):Option bB :=
 match lb s.vars t with
 | none=>ag
 | some k => match s.vars[k]? with
  | some v=>if v.kind=1/\v.lat=(lat:Nat) then aa ⟨1,k,.zero⟩ else ag
  | none=>ag
def wy(s:aN)(lat:Nat):bC:=match s.bz[lat]? with | some l=>l.shape | none=>⟨ak,[]⟩
def o8(s:aN)(lat:Nat)(n:Nd):Option bB :=
 if n.kind=1 then x7 s lat n.aq
 else match (iZ (wy s lat) (n.aj.getD 0 kM)).2 with | none=>aa ⟨2,0,(iZ (wy s lat) (n.aj.getD 0 kM)).1⟩ | some _=>ag
def tJ(n:Nd):bB:=⟨if n.kind=9 then 4 else 3,n.aj.length,.zero⟩
mutual
def n9(s:aN)(lat:Nat):Nd->Option (List bB)
 | .mk k p t ws ks=>if k=1\/k=7 then(o8 s lat (.mk k p t ws ks)).map λi=>[i] else(q_ s lat ks).map λl=>l++[tJ (.mk k p t ws ks)]
def q_(s:aN)(lat:Nat):List Nd->Option (List bB)
 | []=>aa []
 | n::ns=>match n9 s lat n with | none=>ag | some l=>(q_ s lat ns).map λm=>l++m
end
variable{lat:Nat}
def KL{s:aN}(n:Nd):n9 s lat n=if n.kind=1\/n.kind=7 then(o8 s lat n).map λi=>[i] else(q_ s lat n.aj).map λl=>l++[tJ n]:=by
 cases n;rw[n9];rfl
def nq(s:aN)(lat:Int)(n:Nd):Option (List bB):=if 0<=lat/\lat<s.bz.length/\n.fA=ab then n9 s lat.toNat n else ag
def Bn(s:aN)(lat:Nat)(f:Nd × Nat):Option (List bB) :=
 if f.1.kind=1\/f.1.kind=7 then(o8 s lat f.1).map λi=>[i] else(q_ s lat (f.1.aj.drop f.2)).map λl=>l++[tJ f.1]
def W7{s:aN}{n:Nd}:Bn s lat (n,0)=n9 s lat n:=by rw[Bn,KL];simp
def sY(s:aN)(lat:Nat):List (Nd × Nat)->List bB->Option (List bB)
 | [],out=>aa out
 | f::fs,out=>match Bn s lat f with | none=>ag | some l=>sY s lat fs (out++l)
variable{d:Nat}
def arR{s:aN}{n:Nd}{fs:List (Nd × Nat)}{out:List bB}(h:¬(n.kind=1\/n.kind=7))(hd:d<n.aj.length):
 sY s lat ((n,d)::fs) out=sY s lat ((n.aj[d],0)::(n,d+1)::fs) out:=by
 simp only[sY,W7];rw[Bn,aA h,Bn,aA h,mJ hd,q_];cases n9 s lat n.aj[d] with
 | none=>rfl
 | some l =>
  cases q_ s lat (n.aj.drop (d+1)) with
  | none=>rfl
  | some m=>simp only[tW,e9]
def arQ{s:aN}{n:Nd}{fs:List (Nd × Nat)}{out:List bB}(h:¬(n.kind=1\/n.kind=7))(hd:n.aj.length<=d):
 sY s lat ((n,d)::fs) out=sY s lat fs (out++[tJ n]):=by
 simp only[sY];rw[Bn,aA h,P8 hd,q_];rfl
def arS{s:aN}{n:Nd}{fs:List (Nd × Nat)}{out:List bB}(h:n.kind=1\/n.kind=7):
 sY s lat ((n,d)::fs) out=match o8 s lat n with | none=>ag | some i=>sY s lat fs (out++[i]):=by
 simp only[sY];rw[Bn,aE h];cases o8 s lat n<;>rfl
def qH:List (Nd × Nat)->Nat
 | []=>0
 | f::fs=>2*gP (f.1.aj.drop f.2)+1+qH fs
def Nd.ub(n:Nd):1+gP n.aj<=n.cI:=by cases n;simp only[Nd.cI,Nd.aj];omega
def VE{n:Nd}{fs:List (Nd × Nat)}(hd:d<n.aj.length):qH ((n.aj[d],0)::(n,d+1)::fs)<qH ((n,d)::fs):=by
 simp only[qH,JV]
 have:=Nd.ub n.aj[d]
 rw[mJ hd,gP];omega
mutual
def RH{s:aN}{lat:Nat}:∀(n:Nd) {l:List bB},n9 s lat n=aa l->l.length<=n.cI
 | .mk k p t ws ks, l, h => by
  rw[n9] at h;split at h
  .simp only[dk] at h;obtain⟨i,_,rfl⟩:=h;simp only[Nd.cI,dB,eM];omega
  .simp only[dk] at h;obtain⟨m,hm,rfl⟩:=h
   have:=RI ks hm
   simp only[Nd.cI,bP,dB,eM];omega
def RI{s:aN}{lat:Nat}:∀(ks:List Nd) {l:List bB},q_ s lat ks=aa l->l.length<=gP ks
 | [],l,h=>by rw[q_] at h;cases h;simp
 | n :: ns, l, h => by
  rw[q_] at h;cases hn:n9 s lat n with
  | none=>rw[hn] at h;simp at h
  | some a =>
   rw[hn] at h;simp only[dk] at h;obtain⟨b,hb,rfl⟩:=h
   have:=RH n hn
   have:=RI ns hb
   simp only[gP,bP];omega
end
def D5(n:Nd):n.an.length<=n.cI:=by cases n;simp only[Nd.cI,Nd.an];omega
def RA{m:Nd}:∀{l:List Nd},m∈l->m.cI<=gP l
 | [],h=>by simp at h
 | n :: l, h => by
  simp only[gP]
  rcases lF.1 h with rfl | h
  .omega
  .have:=RA h;omega
def rX{n m:Nd}(h:m∈n.aj):m.cI<n.cI:=by
 have:=RA h
 have:=Nd.ub n;omega
def KJ:∀(l:List Nd),l.length<=gP l
 | []=>by simp
 | n :: l => by
  have:=KJ l
  have:=Nd.ub n
  simp only[gP,dB];omega
def Ak(n:Nd):n.aj.length<=n.cI:=by
 have:=KJ n.aj
 have:=Nd.ub n;omega
def aN.ok(s:aN):Prop:=s.bz.length<=100000/\s.vars.length<=100000/\∀l∈s.bz,l.shape.ok
def UY{n:Nd}(h:n.fA=ab)(h1:¬(n.kind=1\/n.kind=7)):∀m∈n.aj,m.fA=true:=by
 rw[Nd.uC,aA (λe=>h1 (.inl e)),aA (λe=>h1 (.inr e))] at h;split at h
 .simp only[bF,l7] at h;exact h.2
 .simp at h
def Fb{n:Nd}(h:n.fA=ab)(h1:n.kind=7):n.aj.length=1:=by
 rw[Nd.uC,aA (by rw[h1];decide),aE h1] at h;simp only[bF,cn] at h;omega
def acK(s:aN)(lat:Int)(n:Nd):((nq s lat n).getD []).length<=n.cI:=by
 cases h:nq s lat n with
 | none=>simp
 | some l =>
  rw[nq] at h;split at h
  .exact RH n h
  .simp at h
def awA(s:bC)(op:Int)(a b:bp):bp:=if op=3 then alK s a b else anZ a b
structure aQ where
 cls:Int
 aD:Int
def aQ.zero:aQ:=⟨0,0⟩
def aQ.ext'{a b:aQ}(h:a.cls=b.cls)(k:a.aD=b.aD):a=b:=by cases a;cases b;simp only at h k;subst h;subst k;rfl
instance:DecidableEq aQ:=λa b=>if h:a.cls=b.cls/\a.aD=b.aD then isTrue (aQ.ext' h.1 h.2) else isFalse λe=>h ⟨e▸rfl,e▸rfl⟩
def aQ.enc(f:aQ):List V:=[.int .i64 f.cls,.int .i64 f.aD]
section
variable {f g:aQ} {n:Nat} {a b:V}
theorem aQ.c_:f.enc.length=2:=rfl
theorem aQ.gI:cL f.enc=true:=rfl
theorem aQ.dV:bO f.enc=true:=rfl
theorem aQ.dO:aX f.enc=f.enc:=rfl
theorem aQ.cT:bR n f.enc=true:=rfl
theorem aQ.fM:takeN 2 f.enc=aa f.enc:=rfl
theorem aQ.iF:bI ab 2 f.enc=aa (.agg f.enc):=rfl
theorem aQ.gV:cg 2 f.enc=true:=rfl
theorem aQ.gv:over g.enc f.enc=f.enc:=rfl
theorem aQ.arz:over [a,b] f.enc=f.enc:=rfl
theorem aQ.Ow:bI ak 1 f.enc=aa (.int .i64 f.cls):=rfl
theorem aQ.r_p:bI ak 1 (f.enc.drop 1)=aa (.int .i64 f.aD):=rfl
def aQ.qQ:fQ [1,1] f.enc g.enc=aa (decide (f=g)):=by
 rw[aQ.enc,aQ.enc,r5,r5,He,qn,qn];congr 1;rw[wH,<-yd];exact sV.2 ⟨λh=>aQ.ext' h.1 h.2,λh=>h▸⟨rfl,rfl⟩⟩
def aQ.au:=ah @aQ.c_ <| ah @aQ.gI <| ah @aQ.dV <| ah @aQ.dO <| ah @aQ.cT <| ah @aQ.fM <| ah @aQ.iF <| ah @aQ.gV <| ah @aQ.gv <| ah @aQ.arz <| ah @aQ.Ow <| ah @aQ.r_p @aQ.qQ
end
def uE(yu f:aQ):Bool:=decide (yu.cls=0)||decide (f.cls<yu.cls)||(decide (f.cls=yu.cls)&&decide (f.aD<yu.aD))
def k_(yu f:aQ):aQ:=if f.cls=0 then yu else if uE yu f then f else yu
def fI(l:List aQ):aQ:=l.foldl k_ .zero
def uD(a b:aQ):Prop:=a.cls<b.cls\/(a.cls=b.cls/\a.aD<=b.aD)
def Ip(a:aQ):uD a a:=.inr ⟨rfl,JN _⟩
def U8{a b c:aQ}(h:uD a b)(k:uD b c):uD a c:=by unfold uD at *;omega
def No:∀(l:List aQ) (o:aQ),(l.foldl k_ o=o\/(l.foldl k_ o∈l/\(l.foldl k_ o).cls≠0))/\(o.cls≠0->(l.foldl k_ o).cls≠0/\uD (l.foldl k_ o) o)/\∀f∈l,f.cls≠0->(l.foldl k_ o).cls≠0/\uD (l.foldl k_ o) f
 | [],o=>⟨.inl rfl,λh=>⟨h,Ip o⟩,by simp⟩
 | f :: l, o => by
  obtain⟨h1,h2,h3⟩:=No l (k_ o f);rw[zU];have hb:k_ o f=o\/(k_ o f=f/\f.cls≠0):=by
   unfold k_
   by_cases h:f.cls=0
   .rw[aE h];exact .inl rfl
   .rw[aA h];split
    .exact .inr ⟨rfl,h⟩
    .exact .inl rfl
  have ho:o.cls≠0->(k_ o f).cls≠0/\uD (k_ o f) o:=λh=>by
   unfold k_
   by_cases hf:f.cls=0
   .rw[aE hf];exact⟨h,Ip o⟩
   .rw[aA hf];split
    .rename_i hl;refine⟨hf,?_⟩;simp only[uE,nh,bF,cn] at hl;unfold uD;omega
    .exact⟨h,Ip o⟩
  have hf:f.cls≠0->(k_ o f).cls≠0/\uD (k_ o f) f:=λh=>by
   unfold k_;rw[aA h];split
   .exact⟨h,Ip f⟩
   .rename_i hl;simp only[uE,nh,bF,cn] at hl;unfold uD;exact⟨by omega,by omega⟩
  refine⟨?_,λh=>?_,λg hg hc=>?_⟩
  .rcases h1 with h1 | ⟨h1,xa⟩
   .rw[h1]
    rcases hb with hb | ⟨hb,cc⟩
    .exact .inl hb
    .rw[hb];exact .inr ⟨by simp,cc⟩
   .exact .inr ⟨by simp[h1],xa⟩
  .obtain⟨k1,k2⟩:=ho h;obtain⟨k3,k4⟩:=h2 k1;exact⟨k3,U8 k4 k2⟩
  .rcases lF.1 hg with rfl | hg
   .obtain⟨k1,k2⟩:=hf hc;obtain⟨k3,k4⟩:=h2 k1;exact⟨k3,U8 k4 k2⟩
   .exact h3 g hg hc
def Nn{a:List aQ}(h:(fI a).cls=0):fI a = .zero/\∀f∈a,f.cls=0:=by
 obtain⟨a1,_,a3⟩:=No a .zero;refine⟨?_,λf hf=>Classical.byContradiction λhc=>(a3 f hf hc).1 h⟩
 rcases a1 with e | ⟨_,e⟩
 .exact e
 .exact absurd h e
def Va{a:List aQ}(h:∀f∈a,f.cls=0):fI a = .zero:=by
 rcases(No a .zero).1 with e | ⟨e,e'⟩
 .exact e
 .exact absurd (h _ e) e'
def amL{l:List aQ}(hi:i<l.length):fI (l.take (i+1))=k_ (fI (l.take i)) l[i]:=by
 rw[fI,jl hi,zT];rfl
def SA{l:List dC}{t:List UInt8}(h:lb l t=aa k):k<l.length:=by
 unfold lb at h;simpa using Ql h
structure Wht where
 lat:Int
 v:List bp
 w:List bp
def Zs(v r:V):List V->List V->Prop
 | [],[]=>True
 | x::xs,y::ys=>(y=x\/(x=v/\y=r)\/y = .any)/\Zs v r xs ys
 | _,_=>False
def Hb{F:Nat->U->St}{J:Nat->U->Prop}(n:Nat)(h:∀Z,D.aP Z=ag->∃x,J 0 x/\eZ Z n t (F 0 x).t/\l=(F 0 x).aD/\(F 0 x).out=D.aY Z n):BO F J ⟨t,l,D⟩ :=
 (bm.sH (ι:={x // J 0 x}) (I:=λx=>F 0 x.1) n λZ bc=>by
   obtain⟨x,h1,h2,h3,h4⟩:=h Z bc;exact⟨⟨x,h1⟩,h2,h3,h4⟩).mono λ_ ⟨x,e⟩=>⟨x.1,x.2,e⟩
def yg(Z n:Nat):List (List V)->List (List V)->Prop
 | [],[]=>True
 | c::l,c' :: l' => eZ Z n c c' /\ yg Z n l l'
 | _,_=>False
variable{Z:Nat}
def yg.spec{n:Nat}:∀{l l' : List (List V)},yg Z n l l' -> l.length=l'.length/\∀(i:Nat) c',l'[i]?=aa c' -> ∃c,l[i]?=aa c/\eZ Z n c c'
 | [],[],_=>⟨rfl,λi c' h=>by simp at h⟩
 | [],_::_,h=>h.elim
 | _::_,[],h=>h.elim
 | c :: l, c' :: l', h => by
  obtain⟨h1,h2⟩:=yg.spec h.2;refine⟨by simp[h1],λi d hd=>?_⟩;cases i with
  | zero=>simp at hd;subst hd;exact⟨c,rfl,h.1⟩
  | succ i=>exact h2 i d (by simpa using hd)
theorem anq{n:Nat}:yg Z n [] []=True:=rfl
variable{l':List (List V)}
theorem anp{n:Nat}{c':List V}:yg Z n (c::l) (c' :: l')=(eZ Z n c c' /\ yg Z n l l'):=rfl
def IA:=ah @anq @anp
def Hc{F:Nat->U->St}{J:Nat->U->Prop}(n:Nat)(h:∀Z,D.aP Z=ag->∃x,J 0 x/\eZ Z n t (F 0 x).t/\yg Z n l (F 0 x).aD/\(F 0 x).out=D.aY Z n):BO F J ⟨t,l,D⟩ :=
 bm.tok n λZ bc=>by
  obtain⟨x,h1,h2,h3,h4⟩:=h Z bc;obtain⟨k1,k2⟩:=h3.spec;exact⟨_,_,D,h2,k1,k2,qY.rfl,x,h1,by rw[<-h4]⟩
def V4:∀{a b:List V},cL (a++b)=(cL a&&cL b)
 | [],b=>by simp[cL]
 | x::a,b=>by simp[cL,V4,Bool.and_assoc]
def delta(l:List Tok)(i:Nat):Int:=(if closing (dn l i)≠0 then 1 else 0) - (if j5 (dn l i)=ab then 1 else 0)
def uM{l:List Tok}{x n:Nat}{d:Int}:iu l x (n+1) i d=if d+delta l i=0 then i else iu l x n (i+1) (d+delta l i):=by
 simp only[iu,delta];have e:d+(if closing (dn l i)≠0 then 1 else 0) - (if j5 (dn l i)=ab then 1 else 0)=d+((if closing (dn l i)≠0 then 1 else 0) - (if j5 (dn l i)=ab then 1 else 0)):=by omega
 rw[e];rfl
def R1(l:List Tok)(i:Nat) : -1<=delta l i:=by unfold delta;split<;>split<;>omega
def D8{l:List Tok}(h:closing (dn l i)≠0):delta l i=1:=by
 unfold delta
 have:j5 (dn l i)=false:=by
  unfold closing at h;unfold j5;split at h
  .rename_i hk;rw[hk];decide
  .split at h
   .rename_i hk;rcases hk with hk | hk<;>rw[hk]<;>decide
   .exact absurd rfl h
 rw[this,aE h];simp
def N_{l:List Tok}{x:Nat}:∀(n i:Nat) (d:Int),iu l x n i d=x\/i<=iu l x n i d
 | 0,_,_=>.inl rfl
 | n + 1, i, d => by
  rw[uM];split
  .exact .inr (bS _)
  .rcases N_ n (i+1) (d+delta l i) with h | h
   .exact .inl h
   .exact .inr (by omega)
def scan{l:List Tok}{x j:Nat}:∀(n i:Nat) (d:Int),i+n=l.length->1<=d->x<i->i<=j->j<iu l x n i d->∃d',1<=d' /\ iu l x n i d=iu l x (l.length - j) j d'
 | 0,i,d,_,_,hx,hj,h=>by simp only[iu] at h;omega
 | n + 1, i, d, hl, hd, hx, hj, h => by
  by_cases L_:i=j
  .subst L_;exact⟨d,hd,by rw[show l.length - i=n+1 by omega]⟩
  rw[uM] at h ⊢;split at h
  .omega
  .rename_i he;rw[aA he]
   have:=R1 l i
   exact scan n (i+1) _ (by omega) (by omega) (by omega) (by omega) h
def less{l:List Tok}{x y:Nat}:∀(n p:Nat) (a b:Int),1<=a->a<b->y<p->x<p->p<=iu l x n p b->iu l y n p a<iu l x n p b
 | 0,p,a,b,_,_,_,hx,h=>by simp only[iu] at h;omega
 | n + 1, p, a, b, ha, hb, hy, hx, h => by
  have hd:=R1 l p;simp only[uM] at h ⊢;rw[aA (show ¬b+delta l p=0 by omega)] at h ⊢;have h2:p+1<=iu l x n (p+1) (b+delta l p):=by rcases N_ (l:=l) (x:=x) n (p+1) (b+delta l p) with e | e<;>omega
  split
  .omega
  .exact less n (p+1) _ _ (by omega) (by omega) (by omega) (by omega) h2
def nest{l:List Tok}(hi:closing (dn l i)≠0)(hj:closing (dn l j)≠0)(h1:i<j)(h2:j<partner l i)(hl:i<l.length):partner l j<partner l i:=by
 have hp:=FC hl;have e:partner l i=iu l i (l.length - i - 1) (i+1) 1:=by
  unfold partner;rw[show l.length - i=(l.length - i - 1)+1 by omega,uM,D8 hi];simp
 rw[e] at h2;obtain⟨d,hd,e2⟩:=scan (l.length - i - 1) (i+1) 1 (by omega) (by omega) (by omega) (by omega) h2;have e3:iu l i (l.length - j) j d=iu l i (l.length - j - 1) (j+1) (d+1):=by
  rw[show l.length - j=(l.length - j - 1)+1 by omega,uM,D8 hj,aA (by omega)];simp
 have e4:partner l j=iu l j (l.length - j - 1) (j+1) 1:=by
  unfold partner;rw[show l.length - j=(l.length - j - 1)+1 by omega,uM,D8 hj];simp
 rw[e,e2,e3,e4];rw[e2,e3] at h2;exact less _ _ _ _ (by omega) (by omega) (by omega) (by omega) (by rcases N_ (l:=l) (x:=i) (l.length - j - 1) (j+1) (d+1) with e | e<;>omega)
def ZP(l:List Tok)(i to:Nat):Prop:=∀j,i<=j->j<to->closing (dn l j)≠0->partner l j<to
def Jp{l:List Tok}:∀(n i to:Nat),to<=l.length->ZP l i to->bd (jR l n i to)<=to - i
 | 0,_,_,_,_=>by simp[jR,bd]
 | n + 1, i, to, hl, hw => by
  rw[jR];split
  .rename_i hi;split
   .rename_i hc;have hp:=FC (l:=l) (i:=i) (by omega);have hq:=hw i (bS _) hi hc;have h1:=Jp n (i+1) (partner l i) (by omega) λj a b c=>nest hc c (by omega) b (by omega)
    have h2:=Jp n (partner l i+1) to hl λj a b c=>hw j (by omega) b c
    simp only[bd,al.many];omega
   .have h2:=Jp n (i+1) to hl λj a b c=>hw j (by omega) b c
    simp only[bd,al.many];omega
  .simp[bd]
def vr(t:Tok):Prop:=(t.kind=97/\dx t.aq=ab)\/(t.kind≠97/\t.aq=[UInt8.ofNat t.kind.toNat])
def C3:∀(n p:Nat) (r:List UInt8) (acc:List Tok),(∀t∈acc,vr t)->∀t∈(eY n p r acc).1,vr t
 | 0,_,r,acc,h=>by cases r<;>simpa [eY] using h
 | n+1,p,[],acc,h=>by simpa [eY] using h
 | n + 1, p, c :: r, acc, h => by
  simp only[eY];split
  .exact h
  .split
   .rename_i hr;refine C3 n _ _ _ λt ht=>?_
    rcases jC.1 ht with ht | ht
    .exact h t ht
    .rw[qj.1 ht];exact .inl ⟨rfl,hr.2⟩
   .split
    .rename_i hs;refine C3 n _ _ _ λt ht=>?_
     rcases jC.1 ht with ht | ht
     .exact h t ht
     .rw[qj.1 ht];refine .inr ⟨λe=>?_,?_⟩
      .simp only at e;rw[e] at hs;revert hs;decide
      .simp
    .split
     .exact C3 n _ _ _ h
     .simp
mutual
def al.Good:al->Prop
 | .mk t ks _=>vr t/\(closing t.kind=0->ks=[])/\fe ks
def fe:List al->Prop
 | []=>True
 | t::ts=>t.Good/\fe ts
end
def Ll:∀{a b:List al},fe (a++b)↔fe a/\fe b
 | [],b=>by simp[fe]
 | t::ts,b=>by simp only[iv,fe,Ll (a:=ts),Kk]
def yI(t:al):t.Good↔vr t.tok/\(closing t.tok.kind=0->t.aj=[])/\fe t.aj:=by cases t;simp only[al.Good,al.tok,al.aj]
def Jo{l:List Tok}(h:∀t∈l,vr t):∀(n i to:Nat),to<=l.length->fe (jR l n i to)
 | 0,_,_,_=>by simp[jR,fe]
 | n + 1, i, to, hl => by
  rw[jR];split
  .rename_i hi;have ht:vr (iG l i):=by
    have e:iG l i=l[i]:=by simp[iG,cS (show i<l.length by omega)]
    rw[e];exact h _ (fg _)
   have hk:(iG l i).kind=dn l i:=by simp only[iG,dn];split<;>rfl
   split
   .rename_i hc;have hp:=FC (l:=l) (i:=i) (by omega);simp only[fe,al.Good];exact⟨⟨ht,λe=>absurd (hk▸e) hc,Jo h n _ _ (by omega)⟩,Jo h n _ _ hl⟩
   .simp only[fe,al.Good];exact⟨⟨ht,λ_=>trivial,trivial⟩,Jo h n _ _ hl⟩
  .exact trivial
def Vn(s:List UInt8):fe (gf (dv s).1).1:=by
 unfold gf;split
 .exact trivial
 .exact Jo (C3 _ _ _ _ (by simp)) _ _ _ (bS _)
def Nv(s:List UInt8):bd (gf (dv s).1).1<=s.length:=by
 have hl:=Nq s;unfold gf;split
 .simp[bd]
 .have:=Jp (l:=(dv s).1) (dv s).1.length 0 (dv s).1.length (bS _) λj _ hj _=>(FC hj).2
  simp only;omega
def auf{t:Tok}(h:vr t):t.aq.length<=16:=by
 rcases h with ⟨_,h⟩ | ⟨_,h⟩
 .unfold dx at h;simp only[bF,cn] at h;exact h.1
 .rw[h];simp
structure iU(r r' : ae)(seg:List al):Prop where
 ex:∃pre post,r.l=pre++seg++post/\r.at_=(pre.length:Nat)/\r'.at_=((pre++seg).length:Nat)
 l:r'.l=r.l
 b:r.aG=ag
 b' : r'.aG=ag
variable{r:ae}
def iU.trans{r' WX:ae}{a b:List al}(h:iU r r' a)(k:iU r' WX b):iU r WX (a++b):=by
 obtain⟨pre,post,e1,e2,e3⟩:=h.ex;obtain⟨Oi,WE,f1,f2,f3⟩:=k.ex;refine⟨⟨pre,WE,?_,e2,?_⟩,k.l.trans h.l,h.b,k.b'⟩
 .have hl:(pre++a).length=Oi.length:=by omega
  have:pre++a++post=Oi ++ (b++WE):=by rw[<-e1,<-h.l,f1,e9]
  obtain⟨g1,g2⟩:=List.append_inj this hl;rw[e1,g2];simp
 .rw[f3];have hl:(pre++a).length=Oi.length:=by omega
  simp only[bP] at hl ⊢;omega
def iU.lf{r':ae}{a:List al}(h:iU r r' a)(hg:fe r.l):fe a:=by
 obtain⟨pre,post,e1,_,_⟩:=h.ex;rw[e1,Ll,Ll] at hg;exact hg.1.2
def po{k:Int}(h:(r.take k).2.aG=ag):iU r (r.take k).2 [(r.take k).1]/\(r.take k).1.tok.kind=k:=by
 rcases r.uY k with ⟨hs,h1,h2,h3,h4⟩ | ⟨_,_,h1⟩
 .have dL := hs;simp only[ae.bW,ae.ok,a8,bF,cn,DQ] at dL;have aC:r.at_.toNat<r.l.length:=by omega
  have e:(r.take k).1=r.l[r.at_.toNat]:=by simp[ae.take,hs,ij,cS aC]
  refine⟨⟨⟨r.l.take r.at_.toNat,r.l.drop (r.at_.toNat+1),?_,?_,?_⟩,r.fT k,dL.1,h2⟩,?_⟩
  .rw[e,e9,n6,<-mJ aC,rQ]
  .rw[jj];omega
  .rw[h1,bP,jj,gM];omega
  .rw[e]
   have:=dL.2.2
   rw[cS aC] at this;simpa using this
 .exact absurd h h1
def jA(l:List al):Nat:=26*bd l
def xU(a b:List al):jA (a++b)=jA a+jA b:=by simp only[jA,tF];omega
def uX(t:al):jA [t]=26+jA t.aj:=by simp only[jA,bd,NH];omega
def YF{t:Tok}(ht:t.kind≠97):∀(a:List Tok) (k:Option Int) (b:List Tok),jB k (a++t::b)=jB k a++t.aq++jB ag b
 | [], k, b => by
  simp only[gN,jB,ht,and_false,bZ];cases b with
  | nil=>rfl
  | cons u us=>simp only[jB,a9,ht,Cg,bZ,reduceCtorEq]
 | x::xs,k,b=>by simp only[iv,jB,YF ht xs (aa x.kind) b,e9]
def Pe{t:Tok}(ht:t.kind≠97)(a b:List Tok):fB (a++t::b)=fB a++t.aq++fB b:=YF ht a ag b
def iM:∀a b:List al,bu (a++b)=bu a++bu b
 | [],b=>rfl
 | t::ts,b=>by simp only[iv,bu,iM ts b,e9]
def Hm(t:al):bu [t]=t.tok::(if closing t.tok.kind≠0 then bu t.aj++[⟨closing t.tok.kind,[UInt8.ofNat (closing t.tok.kind).toNat],t.fin⟩] else []):=by
 cases t;simp only[bu,al.flat,eK,al.tok,al.aj,al.fin];rfl
def xY{t:al}(hk:t.tok.kind≠97)(hc:closing t.tok.kind=0)(a b:List al):fB (bu (a++[t]++b))=fB (bu a)++t.tok.aq++fB (bu b):=by
 rw[iM,iM,Hm,hc];simp only[rE,Bf,bZ,e9,n6];rw[<-e9 (fB (bu a))];exact Pe hk _ _
def aua{t:al}(hk:t.tok.kind=97):fB (bu [t])=t.tok.aq:=by
 rw[Hm,hk,show closing 97=0 from rfl];simp[fB,jB]
def Dp{t:al}(hc:closing t.tok.kind≠0):fB (bu [t])=t.tok.aq++fB (bu t.aj)++[UInt8.ofNat (closing t.tok.kind).toNat]:=by
 have hk:t.tok.kind≠97:=λe=>hc (by rw[e];rfl)
 have s_:closing t.tok.kind≠97:=by unfold closing;split;omega;split;omega;omega
 rw[Hm,aE hc];have h1:=Pe hk [] (bu t.aj++[⟨closing t.tok.kind,[UInt8.ofNat (closing t.tok.kind).toNat],t.fin⟩]);rw[gN] at h1;rw[h1,Pe s_];simp[fB,jB]
def Sound(one:ae->G × ae)(T:G->List UInt8)(Q:G->Prop)(S:G->Nat):Prop :=
 ∀r,fe r.l->(one r).2.aG=ag->∃seg,iU r (one r).2 seg/\fB (bu seg)=T (one r).1/\Q (one r).1/\S (one r).1<=jA seg
def Ta{step:ae × List G->ae × List G}:∀{n:Nat} {a:ae × List G},(jr step n a).1.aG=ag->a.1.aG=ag
 | 0,a,h=>h
 | n + 1, a, h => by
  rw[jr] at h;split at h
  .rename_i hs;simp only[ae.bW,ae.ok,bF,DQ] at hs;exact hs.1
  .exact h
section
variable {G:Type} {one:ae->G × ae} {T:G->List UInt8} {Q:G->Prop} {S:G->Nat}
structure Has(T:G->List UInt8)(Q:G->Prop)(S:G->Nat)(seg:List al)(xs:List G):Prop where
 t:fB (bu seg)=cO (xs.map T)
 q:∀x∈xs,Q x
 s:(xs.map S).sum<=jA seg
 n:0<xs.length
def Td(hs:Sound one T Q S){r:ae}(hg:fe r.l):∀{n:Nat} {a:ae × List G} {seg:List al},iU r a.1 seg->Has T Q S seg a.2->(jr (cw one) n a).1.aG=ag ->
 ∃X0,iU r (jr (cw one) n a).1 X0 /\ Has T Q S X0 (jr (cw one) n a).2
 | 0,a,seg,h,k,_=>⟨seg,h,k⟩
 | n + 1, a, seg, h, k, hb => by
  rw[jr] at hb ⊢;split
  .rename_i ak8;rw[aE ak8] at hb;have e_:=Ta hb;have EA:fe (a.1.take 44).2.l:=by rw[ae.fT,h.l];exact hg
   obtain⟨sg,e1,e2,e3,e4⟩:=hs (a.1.take 44).2 EA e_;obtain⟨t1,t2⟩:=po e1.b;refine Td hs hg (seg:=seg++[(a.1.take 44).1]++sg) ?_ ?_ hb
   .exact(h.trans t1).trans e1
   .have mj:fe [(a.1.take 44).1]:=t1.lf (by rw[h.l];exact hg);have cu:=((yI _).1 mj.1).1;have y6:(a.1.take 44).1.tok.aq=[44]:=by
     rcases cu with ⟨h1,_⟩ | ⟨_,h1⟩
     .omega
     .rw[h1,t2];rfl
    refine⟨?_,?_,?_,?_⟩
    .rw[xY (by rw[t2];decide) (by rw[t2];rfl),k.t,e2,y6];simp only[cw,gy,ch,fh];rw[UQ,aE (by simpa using k.n)]
    .intro x hx
     rcases jC.1 hx with hx | hx
     .exact k.q x hx
     .rw[qj.1 hx];exact e3
    .have:=k.s
     simp only[cw,gy,ch,fh,List.sum_append,n7,sR,xU];omega
    .simp[cw]
  .exact⟨seg,h,k⟩
def Yl(hs:Sound one T Q S)(hg:fe r.l)(hb:(eB (cw one) r).1.aG=ag):∃seg,iU r (eB (cw one) r).1 seg/\Has T Q S seg (eB (cw one) r).2:=by
 unfold eB at hb ⊢;have e_:=Ta hb;obtain⟨sg,e1,e2,e3,e4⟩:=hs r hg e_;refine Td hs hg e1 ?_ hb;refine⟨?_,?_,?_,?_⟩
 .simp only[cw,gN,ch,fh,cO,Qa,eK];exact e2
 .intro x hx;simp only[cw,gN,qj] at hx;rw[hx];exact e3
 .simp only[cw,gN,ch,fh,n7,sR];omega
 .simp[cw]
def KF{i:ae}(h:i.close.aG=ag):i.aG=ag/\¬i.at_<i.l.length:=by
 unfold ae.close at h;split at h
 .exact absurd h i.Hi
 .rename_i hc;refine⟨h,λhl=>hc ⟨by simp[ae.ok,h],hl⟩⟩
def QI{t:al}{i:ae}{seg:List al}(h:iU t.inner i seg)(hc:i.close.aG=ag):seg=t.aj:=by
 obtain⟨pre,post,e1,e2,e3⟩:=h.ex;obtain⟨_,h2⟩:=KF hc;have hp:pre=[]:=by
  have:t.inner.at_=0:=rfl
  rw[this] at e2;exact ke.1 (by omega)
 subst hp;have hq:post=[]:=by
  rw[h.l,e3,e1] at h2;simp only[gN,bP] at h2;exact ke.1 (by omega)
 subst hq;simpa [al.inner] using e1.symm
def Kx(hs:Sound one T Q S){k:Int}{e:Bool}(hg:fe r.l)(hb:(r.bracket (cw one) k e).2.aG=ag):
 ∃t,iU r (r.bracket (cw one) k e).2 [t]/\t.tok.kind=k/\fB (bu t.aj)=cO ((r.bracket (cw one) k e).1.1.map T)/\(∀x∈(r.bracket (cw one) k e).1.1,Q x)/\((r.bracket (cw one) k e).1.1.map S).sum<=jA t.aj /\
  (e=ak->0<(r.bracket (cw one) k e).1.1.length):=by
 unfold ae.bracket at hb ⊢;split
 .rename_i cu;rw[aE cu] at hb;have e_:(r.take k).2.aG=none:=by simpa [ae.ok] using cu
  obtain⟨t1,t2⟩:=po e_;have mj:(r.take k).1.Good:=(t1.lf hg).1;have xl:fe (r.take k).1.aj:=((yI _).1 mj).2.2;have ec:(ae.inside (cw one) e (r.take k).1).1.close.aG=none:=hb;refine⟨(r.take k).1,⟨t1.ex,t1.l,t1.b,hb⟩,t2,?_⟩;simp only;generalize (r.take k).1=t at *;unfold ae.inside at ec ⊢;split
  .rename_i he;have hk:t.aj=[]:=ke.1 he.2;rw[hk];refine⟨rfl,by simp,by simp,λh=>?_⟩;rw[h] at he;simp at he
  .rename_i he;rw[aA he] at ec;obtain⟨seg,e1,e2⟩:=Yl hs (r:=t.inner) xl (KF ec).1;have Mx:=QI e1 ec;subst Mx;exact⟨e2.t,e2.q,e2.s,λ_=>e2.n⟩
 .rename_i cu;rw[aA cu] at hb;exact absurd hb (by simpa [ae.ok] using cu)
end
end Go.Am
