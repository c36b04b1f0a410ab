/-
  Part 3 of the proof of StackPlaysUptoCardSaid: a logic over the model, the forms of the functions that the law reaches, and what they compute.
-/
import Derived.IntWalk
import Derived.Test.YtnpggmhoandloaaGreatDoorPlays2
set_option linter.unusedVariables false
set_option linter.unusedSimpArgs false
set_option linter.defProp false
set_option linter.unusedSectionVars false
set_option maxRecDepth 4000
set_option maxHeartbeats 4000000
open Option renaming some->U,none->ah
open Bool renaming true->aa,false->aq
open List renaming replicate->aj,range->bH,zipWith->ng
open Eq renaming mpr->fF
open Ne renaming symm->gM
namespace Go.Am
section
variable {k:IntKind} {a b:Int} {c e:List V} {n m:Nat} {x y:V} {u v:List UInt8} {p q:Bool} {l:List (List V)} {D:Tk}
def Kh:C7 k k=true:=by cases k<;>rfl
def ae2{op:BinOp}:y8 op (.int k a) (.int k b)=jv k a b op:=by simp[y8,Kh]
theorem amD:jv k a b .add=U (.int k (k.wrap (a+b))):=rfl
theorem amL:jv k a b .sub=U (.int k (k.wrap (a - b))):=rfl
theorem amJ:jv k a b .mul=U (.int k (k.wrap (a*b))):=rfl
theorem amE:jv k a b .eql=U (.bool (decide (a=b))):=rfl
theorem amK:jv k a b .neq=U (.bool (!decide (a=b))):=rfl
theorem amI:jv k a b .lss=U (.bool (decide (a<b))):=rfl
theorem amH:jv k a b .leq=U (.bool (decide (a<=b))):=rfl
theorem amG:jv k a b .gtr=U (.bool (decide (b<a))):=rfl
theorem amF:jv k a b .geq=U (.bool (decide (b<=a))):=rfl
theorem ae3{op:BinOp}:Cj op (.aQ u) (.aQ v)=Ad u v op:=rfl
theorem avi:Ad u v .eql=U (.bool (decide (u=v))):=rfl
theorem avn:Ad u v .neq=U (.bool (!decide (u=v))):=rfl
theorem avm:Ad u v .lss=U (.bool (Op.bytesLess u v)):=rfl
theorem avl:Ad u v .leq=U (.bool (Op.bytesLess u v||decide (u=v))):=rfl
theorem avk:Ad u v .gtr=U (.bool (!(Op.bytesLess u v||decide (u=v)))):=rfl
theorem avj:Ad u v .geq=U (.bool (!Op.bytesLess u v)):=rfl
theorem air:AY aq (.bool p) (.bool q)=U (.bool (decide (p=q))):=rfl
theorem ais:AY aa (.bool p) (.bool q)=U (.bool (!decide (p=q))):=rfl
def Nf(neg:Bool):Option Bool->Option V | some b=>U (.bool (if neg then !b else b)) | none=>ah
theorem aiu:Nf aq (U p)=U (.bool p):=rfl
theorem aiv:Nf aa (U p)=U (.bool (!p)):=rfl
def aiq{neg:Bool}{ks:List Nat}:AX neg ks (.agg c) (.agg e)=Nf neg (hZ ks c e):=by simp only[AX];cases hZ ks c e<;>rfl
def andM(b:Bool):Option Bool->Option Bool | some c=>U (b&&c) | none=>ah
theorem ve:andM p (U q)=U (p&&q):=rfl
theorem Nb:hZ [] [] []=U true:=rfl
def xR{ks:List Nat}:hZ (1::ks) (.int k a::c) (.int k b::e)=andM (decide (a=b)) (hZ ks c e):=by simp only[hZ,Kh,db];cases hZ ks c e<;>rfl
def Nc{ks:List Nat}:hZ (2::ks) (.aQ u::c) (.aQ v::e)=andM (decide (u=v)) (hZ ks c e):=by simp only[hZ];cases hZ ks c e<;>rfl
def ait{ks:List Nat}:hZ (0::ks) (.bool p::c) (.bool q::e)=andM (decide (p=q)) (hZ ks c e):=by simp only[hZ];cases hZ ks c e<;>rfl
theorem awx:(V.agg c).wd=U c.length:=rfl
theorem awB:(V.int k a).wd=U 1:=rfl
theorem awy:(V.bool p).wd=U 1:=rfl
theorem awF:(V.aQ u).wd=U 1:=rfl
theorem awE:(V.sl D n l).wd=U 1:=rfl
variable{o:Pl}
theorem awD:(V.ptr o n).wd=U 1:=rfl
theorem awz:(V.elt c n).wd=U 1:=rfl
theorem awA{f:Fn}:(V.fn f c e).wd=U 1:=rfl
theorem awC:V.kX.wd=U 1:=rfl
theorem afS:(V.agg c).cells=c:=rfl
theorem afW:(V.int k a).cells=[.int k a]:=rfl
theorem afT:(V.bool p).cells=[.bool p]:=rfl
theorem af2:(V.aQ u).cells=[.aQ u]:=rfl
theorem af1:(V.sl D n l).cells=[.sl D n l]:=rfl
theorem af0:(V.ptr o n).cells=[.ptr o n]:=rfl
theorem afU:(V.elt c n).cells=[.elt c n]:=rfl
theorem afV{f:Fn}:(V.fn f c e).cells=[.fn f c e]:=rfl
theorem afX:V.kX.cells=[.kX]:=rfl
theorem aqH:c8 []=true:=rfl
theorem aqG:c8 (x::c)=(x.one&&c8 c):=rfl
theorem QO:(V.int k a).one=true:=rfl
theorem aqI:(V.bool p).one=true:=rfl
theorem Zv:(V.aQ u).one=true:=rfl
theorem aqO:(V.sl D n l).one=true:=rfl
theorem aqN:(V.ptr o n).one=true:=rfl
theorem aqJ:(V.elt c n).one=true:=rfl
theorem aqL{f:Fn}:(V.fn f c e).one=true:=rfl
theorem aqM:V.kX.one=true:=rfl
theorem apz:bK []=true:=rfl
theorem apy:bK (x::c)=(x.cS&&bK c):=rfl
theorem apG:(V.int k a).cS=true:=rfl
theorem apC:(V.bool p).cS=true:=rfl
theorem apL:(V.aQ u).cS=true:=rfl
theorem apK:(V.sl D n l).cS=true:=rfl
theorem apB:V.any.cS=true:=rfl
theorem apI:(V.ptr (.out m) n).cS=true:=rfl
theorem apF:(V.ptr (.nq m) n).cS=true:=rfl
theorem apD:(V.elt c n).cS=true:=rfl
theorem apH:V.kX.cS=true:=rfl
theorem apA:(V.agg c).cS=bK c:=rfl
theorem apM:(V.bw c).cS=bK c:=rfl
theorem apE{f:Fn}:(V.fn f c e).cS=(bK c&&bK e):=rfl
theorem apJ{w:Value}:(V.raw w).cS=true:=rfl
theorem aiF:(V.int k a).erase = .int k a:=rfl
theorem aiC:(V.bool p).erase = .bool p:=rfl
theorem aiJ:(V.aQ u).erase = .aQ u:=rfl
theorem aiI:(V.sl D n l).erase = .sl .no n l:=rfl
theorem aiB:V.any.erase = .any:=rfl
theorem aiH:(V.ptr o n).erase = .ptr o n:=rfl
theorem aiD:(V.elt c n).erase = .elt c n:=rfl
theorem aiG:V.kX.erase = .kX:=rfl
theorem aiA:(V.agg c).erase = .agg (a9 c):=rfl
theorem aiK:(V.bw c).erase = .bw (a9 c):=rfl
theorem aiE{f:Fn}:(V.fn f c e).erase = .fn f c e:=rfl
theorem aiz:a9 []=[]:=rfl
theorem aiy:a9 (x::c)=x.erase::a9 c:=rfl
def alr:cB 0 c=true:=by cases c<;>rfl
theorem alq:cB (n+1) (x::c)=cB n c:=rfl
def w7:over c []=c:=by cases c<;>rfl
theorem yo:over (x::c) (y::e)=y::over c e:=rfl
def mT:setAt c 0 e=over c e:=by cases c<;>rfl
theorem mz:setAt (x::c) (n+1) e=x::setAt c n e:=rfl
theorem anT:([]:List V).length=0:=rfl
theorem anS:(x::c).length=c.length+1:=rfl
theorem akP:(c::l)[0]?=U c:=rfl
def akS:(c::l)[n+1]?=l[n]?:=by simp
theorem aoC:(c::l).set 0 e=e::l:=rfl
theorem aoD:(c::l).set (n+1) e=c::l.set n e:=rfl
theorem adZ : ([]:List (List V))++l=l:=rfl
theorem adX : (c::l)++[e]=c::(l++[e]):=rfl
theorem avY:([]:List V)++c=c:=rfl
theorem avX:(x::c)++e=x::(c++e):=rfl
theorem aom:([]:List (List V)).length=0:=rfl
theorem aol:(c::l).length=l.length+1:=rfl
def wz{a:Nat}:(a=a)=True:=by simp
def eqI{a:Int}:(a=a)=True:=by simp
variable{G:Type}
def auT{x y:G}:(U x=U y)=(x=y):=by simp
def aqK:(1=1)=True:=by simp
def true_eq:(aa=aa)=True:=by simp
def ai2 : (aq=aa)=False:=by simp
theorem avP:(aa&&p)=p:=rfl
theorem aja:(aq&&p)=false:=rfl
def adP:(p&&aa)=p:=by simp
def adO:(p&&aq)=false:=by simp
theorem avQ:(aa||p)=true:=rfl
theorem ajb:(aq||p)=p:=rfl
def aqX:(p||false)=p:=by simp
theorem apP:(!aa)=false:=rfl
theorem apO:(!aq)=true:=rfl
def amO{x y:G}:(if True then x else y)=x:=aL trivial
def amN{x y:G}:(if False then x else y)=y:=aB λh=>h
def amQ{x y:Prop}:(if True then x else y)=x:=aL trivial
def amP{x y:Prop}:(if False then x else y)=y:=aB λh=>h
def avx{q:Prop}:(True/\q)=q:=by simp
def adQ{q:Prop}:(q/\True)=q:=by simp
theorem rlZ{x:V}:aj 0 x=[]:=rfl
theorem rlS{x:V}:aj (n+1) x=x::aj n x:=rfl
def aod{v:V}:c_ (v::c) (.any::e)=c_ c e:=by simp[c_,dv.any]
def aoj{v:V}:c_ (v::c) (v::e)=c_ c e:=by simp[c_,dv.rfl]
def E0:Env:=⟨default,λ_=>.const,λ_=>ah,λ_=>ah⟩
def awh:dv (.int k a) (.int k b)=(a=b):=by
 refine propext ⟨λh=>?_,λh=>h▸dv.rfl⟩
 have:=h E0 (.int k a) (by simp[R])
 simpa [R] using this
def awg:dv (.bool p) (.bool q)=(p=q):=by
 refine propext ⟨λh=>?_,λh=>h▸dv.rfl⟩
 have:=h E0 (.bool p) (by simp[R])
 simpa [R] using this
def awi:dv (.aQ u) (.aQ v)=(u=v):=by
 refine propext ⟨λh=>?_,λh=>h▸dv.rfl⟩
 have:=h E0 (.string ⟨u.toArray⟩) (by simp[R])
 simpa [R] using this
def aof:c_ (.int k a::c) (.int k b::e)=(a=b/\c_ c e):=by simp[c_,awh]
def aoe:c_ (.bool p::c) (.bool q::e)=(p=q/\c_ c e):=by simp[c_,awg]
def aok:c_ (.aQ u::c) (.aQ v::e)=(u=v/\c_ c e):=by simp[c_,awi]
def aoh:c_ (.sl D n l::c) (.sl .no n l::e)=c_ c e:=by simp[c_,dv.no]
theorem aoo:bX [] []=True:=rfl
theorem aon{c e:List V}{l m:List (List V)}:bX (c::l) (e::m)=(c_ c e/\bX l m):=rfl
def aop{l:List (List V)}:bX l l=True:=by simp[bX.rfl]
variable{Z:ab}
def aqx:bp Z Z=True:=by simp[bp.rfl]
theorem aog:c_ [] []=True:=rfl
end
variable{l:List (List V)}{t:List V}{ι:Type}{Z:ab}
def a7.enter{I:ι->St}(j:ι)(h:c_ t (I j).t)(hl:bX l (I j).au)(ho:bp Z (I j).out):a7 ⟨t,l,Z⟩ λaV => ∃i,aV = I i :=
 a7.df h hl ho ⟨j,rfl⟩
def a7.again{I:ι->St}{μ:ι->Nat}{n:Nat}(j:ι)(hm:μ j<n)(h:c_ t (I j).t)(hl:bX l (I j).au)(ho:bp Z (I j).out):
 a7 ⟨t,l,Z⟩ λaV => ∃i,aV = I i/\μ i<n:=a7.df h hl ho ⟨j,rfl,hm⟩
def wrap_i64{x:Int}(h1 : -9223372036854775808<=x:=by omega)(h2:x<=9223372036854775807:=by omega):IntKind.i64.wrap x=x:=IntWalk.i64_in x ⟨h1,h2⟩
variable{b:Nat}{cs:List V}
theorem ab.BN(h:Z.box b=U cs):Z.set b cs=Z:=by
 cases Z;simp only[ab.set,ab.mk.injEq,ln]
 grind
variable{ds:List V}
theorem ab.set_set:(Z.set b cs).set b ds=Z.set b ds:=by
 simp only[ab.set,ab.mk.injEq,ln]
 grind
theorem ab.set_comm{c:Nat}(h:b≠c):(Z.set b cs).set c ds=(Z.set c ds).set b cs:=by
 simp only[ab.set,ab.mk.injEq,ln]
 grind
def km(D n:Nat)(v v' : V):Prop:=∀E E',E.le E' -> E'.aS D=U n->∀u,R E v u->R E' v' u
variable{v:V}{D:Nat}
def km.same{n:Nat}:km D n v v:=λ_ _ h _ _ hr=>hr.mono _ h
def km.le{n:Nat}{v':V}(h:dv v v'):km D n v v' := λ_ _ hl _ _ hr=>(h _ _ hr).mono _ hl
variable{k:Nat}{m:List (List V)}
def km.tok{n:Nat}(h:m.length=n):km D n (.sl .aY k m) (.sl (.tk D) k m):=λE E' hl ht u hr=>by
 have dt := hr.mono _ hl;simp only[R] at dt ⊢;obtain⟨a,cap,h1,h2,h3,h4⟩:=dt;exact⟨a,cap,h1,h2,h3,n,ht,by omega,λ_=>.inl h4⟩
def fG(D n:Nat):List V->List V->Prop
 | [],[]=>True
 | v::l,v' :: l' => km D n v v' /\ fG D n l l'
 | _,_=>False
def fG.rfl{n:Nat}:∀{l:List V},fG D n l l
 | []=>trivial
 | _::_=>⟨km.same,fG.rfl⟩
variable{E:Env}
def fG.mono{n:Nat}{E':Env}(hl:E.le E')(ht:E'.aS D=U n):∀{l l' : List V} {us:List Value},fG D n l l' -> RL E l us->RL E' l' us
 | [],[],[],_,_=>by simp[RL]
 | [],[],_::_,_,h=>by simp[RL] at h
 | [],_::_,_,h,_=>h.elim
 | _::_,[],_,h,_=>h.elim
 | v::l,v' :: l',[],_,h=>by simp[RL] at h
 | v :: l, v' :: l', u :: us, h, hr => by
  simp only[RL] at hr ⊢;exact⟨h.1 _ _ hl ht _ hr.1,fG.mono hl ht h.2 hr.2⟩
def fG.length{n:Nat}:∀{l l' : List V},fG D n l l' -> l.length=l'.length
 | [],[],_=>Eq.refl _
 | [],_::_,h=>h.elim
 | _::_,[],h=>h.elim
 | v::l,v' :: l',h=>by simp[fG.length h.2]
def fG.get{n:Nat}:∀{l l' : List V},fG D n l l' -> ∀(j:Nat) v',l'[j]?=U v' -> ∃v,l[j]?=U v/\km D n v v'
 | [],[],_,j,v',h=>by simp at h
 | [],_::_,h,_,_,_=>h.elim
 | _::_,[],h,_,_,_=>h.elim
 | v :: l, w :: l', h, j, v', hj => by
  cases j with
  | zero=>simp at hj;subst hj;exact⟨v,by simp,h.1⟩
  | succ j=>simp at hj;obtain⟨u,h1,h2⟩:=fG.get h.2 j v' hj;exact⟨u,by simpa using h1,h2⟩
def kF.tok{n:Nat}{E':Env}(hl:E.le E')(ht:E'.aS D=U n){cs':List V}(hw:E'.w=E.w)(h:fG D n cs cs')(k:kF E b cs):kF E' b cs' := by
 obtain⟨c,e,h1,h2,h3⟩:=k;refine⟨c,e,by rw[hw];exact h1,by rw[<-h.length];exact h2,λj x hx=>?_⟩;obtain⟨v,hv,hle⟩:=h.get j x hx;obtain⟨u,k1,k2⟩:=h3 j v hv;exact⟨u,k1,hle _ _ hl ht _ k2⟩
structure rY(D n:Nat)(Z σ' : ab):Prop where
 box:∀b cs',σ'.box b=U cs' -> ∃cs,Z.box b=U cs/\fG D n cs cs'
 aS:∀O m,σ'.aS O=U m->Z.aS O=U m
 cI:∀b cs,σ'.cI b=U cs->Z.cI b=U cs
def rY.rfl{n:Nat}:rY D n Z Z:=⟨λ_ cs h=>⟨cs,h,fG.rfl⟩,λ_ _ h=>h,λ_ _ h=>h⟩
theorem rY.set{n:Nat}{cs':List V}(h:Z.box b=U cs)(k:fG D n cs cs'):rY D n Z (Z.set b cs'):=by
 refine⟨λc ds pg=>?_,λ_ _ h=>h,λ_ _ h=>h⟩;simp only[ab.set] at pg;split at pg
 .grind
 .exact⟨ds,pg,fG.rfl⟩
variable{K:St->Prop}
def a7.tok(n:Nat)(h:∀D,Z.aS D=ah->∃t' l' σ',fG D n t t' /\ l.length=l'.length/\(∀(i:Nat) c',l'[i]?=U c' -> ∃c,l[i]?=U c/\fG D n c c')/\rY D n Z σ' /\ K ⟨t',l',σ'.aU D n⟩):
 a7 ⟨t,l,Z⟩ K:=by
 intro E a hs;obtain⟨N,hN⟩:=hs.ok.nt;have Ov:Z.aS N=none:=by
  cases hq:Z.aS N with
  | none=>rfl
  | some m=>have:=hs.ok.aS N m hq;rw[hN N (bU _)] at this;simp at this
 obtain⟨t',l',σ',h1,h2,h3,h4,h5⟩:=h N Ov
 let E' : Env:={E with aS:=λt=>if t=N then U n else E.aS t}
 have ht:E'.aS N=U n:=by simp[E']
 have bC:Fr E E' := A3 (E' := E') hs.ok.fresh (Ext.refl _) (λ_ _=>rfl) (λt m hm=>by
  simp only[E'];split
  .rename_i hq;subst hq;rw[hN t (bU _)] at hm;simp at hm
  .exact hm)
 have hle:E.le E' := bC.le λ_ _ h=>h
 refine⟨E',_,rfl,bC,⟨⟨λb cs cO=>?_,λD m hm=>?_,hs.ok.fresh,?_,λb cs hc=>fz.mono _ bC.nl (hs.ok.cI b cs (h4.cI b cs hc))⟩,⟨λi cs cO=>?_,λi hi=>hs.dO.none i (by rw[h2];exact hi)⟩,hs.defers,h1.mono hle ht hs.slot⟩,h5⟩
 .obtain⟨Cl,q1,q2⟩:=h4.box b cs cO;obtain⟨k1,k2⟩:=hs.ok.box b Cl q1;exact⟨k1,k2.tok bC.nl ht rfl q2⟩
 .simp only[ab.aU] at hm;simp only[E'];split at hm
  .rename_i hq;rw[aL hq];exact hm
  .rename_i hq;rw[aB hq];exact hs.ok.aS D m (h4.aS D m hm)
 .exact⟨N+1,λt tm => by simp only[E'];rw[aB (by omega)];exact hN t (by omega)⟩
 .obtain⟨c,q1,q2⟩:=h3 i cs cO;obtain⟨b,k1,k2,k3⟩:=hs.dO.box i c q1;exact⟨b,k1,k2,k3.tok hle ht rfl q2⟩
def am:=ag @ab.set_set <| ag @av8 <| ag @ahD <| ag @adS <| ag @adR <| ag @adT <| ag @ag7 <| ag @ahR <| ag (ag (ag (ag (ag (ag (ag @ahq @ane) (ag @ahp (ag @aht @arB))) (ag (ag @arz @arA) (ag @arC (ag @ag1 @ag6)))) (ag (ag (ag @ag9 @ag8) (ag @anD (ag @ahn @auW))) (ag (ag @ahw (ag @ahr @ag4)) (ag @ag5 (ag @ag3 @aha))))) (ag (ag (ag (ag @ahd @ahs) (ag @ahl (ag @ahm @ahf))) (ag (ag @ahg (ag @ahi @ahk)) (ag @anb (ag @ag_ @ag')))) (ag (ag (ag @afG @ag2) (ag @ahe (ag @aho @ahc))) (ag (ag @ahh (ag (ag @akB @akA) @akx)) (ag @akz (ag @aky @af7)))))) (ag (ag (ag (ag (ag @af6 @af5) (ag @af4 (ag @auC @auD))) (ag (ag @aui @auj) (ag @anG (ag @anH (ag @anF @anE))))) (ag (ag (ag @av_ @ama) (ag @awK (ag @awL @aic))) (ag (ag @ahK (ag @ahQ @ahT)) (ag @ahS (ag @ah8 @aid))))) (ag (ag (ag (ag @ah' @ahO) (ag @ahP (ag @ahN @ahW))) (ag (ag @ahZ (ag @aia @ah6)) (ag @ah7 (ag @ah1 @ah2)))) (ag (ag (ag @ah3 @ah5) (ag @ahU (ag @ahV @ahL))) (ag (ag @ahM (ag @ah0 @ah9)) (ag @ahY (ag @ahX @ah_))))))) <| ag @aof <| ag @aoe <| ag @aok <| ag @aoh <| ag @aoo <| ag @aon <| ag @aop <| ag @aqx <| ag @aod <| ag @aoj <| ag @aog <| ag @mc <| ag @yS <| ag @wz <| ag @eqI <| ag @amQ <| ag @amP <| (ag (ag (ag (ag (ag (ag (ag @awd (ag @av' @awe)) (ag (ag @av7 @awc) (ag @av5 @av3))) (ag (ag (ag @av2 @av4) (ag @av9 @awa)) (ag (ag @aew @aev) (ag @aex @ae6)))) (ag (ag (ag @ae7 (ag @ae5 @aoz)) (ag (ag @aoB @aoA) (ag @as0 @asZ))) (ag (ag (ag @aqV @at3) (ag @agw @at2)) (ag (ag @at0 @atV) (ag @aqB @aqA))))) (ag (ag (ag (ag @aqz (ag @aoT @aiP)) (ag (ag @aiN @aiR) (ag @aiQ @akR))) (ag (ag (ag @akQ @auB) (ag @auz @asc)) (ag (ag @asb @aqj) (ag @anf @aqS)))) (ag (ag (ag (ag @aqi @aqn) (ag @arF @arD)) (ag (ag @arE @arG) (ag @apR @apY))) (ag (ag (ag @apS @apZ) (ag @ap1 @aqT)) (ag (ag @ap0 @aqg) (ag @aqU @aqq)))))) (ag (ag (ag (ag (ag @aqk (ag @apq @apn)) (ag (ag @apo @apW) (ag @apX @apV))) (ag (ag (ag @ap4 @afK) (ag @ap7 @aql)) (ag (ag @apN @aqe) (ag @anQ @aqf)))) (ag (ag (ag @anR (ag @ap_ @ajr)) (ag (ag @ajq @ap') (ag @ajs @aqb))) (ag (ag (ag @aqd @ap2) (ag @anc @ap3)) (ag (ag @afH @apT) (ag @ap9 @aiX))))) (ag (ag (ag (ag @aiW (ag @aqh @ap6)) (ag (ag @agY @aqa) (ag (ag @akG @akF) @akC))) (ag (ag (ag @akE @akD) (ag @anK (ag @anL @anJ))) (ag (ag @anI @anB) (ag @Bu @anC)))) (ag (ag (ag (ag @avt @Sg) (ag @aoS @ahG)) (ag (ag @ahF @auZ) (ag @auX @au0))) (ag (ag (ag @auY @j6) (ag (ag (ag @auv @aut) @aus) @auA)) (ag (ag @R2 @ae_) (ag @ae9 @ae4))))))) (ag (ag (ag (ag (ag (ag @atw (ag @atv @atl)) (ag (ag @ath @ae2) (ag @amD @amL))) (ag (ag (ag @amJ @amE) (ag @amK @amI)) (ag (ag @amH @amG) (ag @amF @ae3)))) (ag (ag (ag @avi (ag @avn @avm)) (ag (ag @avl @avk) (ag @avj @air))) (ag (ag (ag @ais @aiu) (ag @aiv @aiq)) (ag (ag @ve @Nb) (ag @xR @Nc))))) (ag (ag (ag (ag @ait (ag @awx @awB)) (ag (ag @awy @awF) (ag @awE @awD))) (ag (ag (ag @awz @awA) (ag @awC @afS)) (ag (ag @afW @afT) (ag @af2 @af1)))) (ag (ag (ag (ag @af0 @afU) (ag @afV @afX)) (ag (ag @aqH @aqG) (ag @QO @aqI))) (ag (ag (ag @Zv @aqO) (ag @aqN @aqJ)) (ag (ag @aqL @aqM) (ag @apz @apy)))))) (ag (ag (ag (ag (ag @apG (ag @apC @apL)) (ag (ag @apK @apB) (ag (ag @apI @apF) @apD))) (ag (ag (ag @apH @apA) (ag @apM @apE)) (ag (ag @apJ @aiF) (ag @aiC @aiJ)))) (ag (ag (ag (ag @aiI @aiB) (ag @aiH @aiD)) (ag (ag @aiG @aiA) (ag @aiK @aiE))) (ag (ag (ag @aiz @aiy) (ag @alr @alq)) (ag (ag @w7 @yo) (ag @mT @mz))))) (ag (ag (ag (ag @anT (ag @anS @akP)) (ag (ag @akS @aoC) (ag @aoD @adZ))) (ag (ag (ag @adX @avY) (ag @avX @aom)) (ag (ag @aol @auT) (ag @aqK @true_eq)))) (ag (ag (ag (ag @ai2 @avP) (ag @aja @adP)) (ag (ag @adO @avQ) (ag @ajb @aqX))) (ag (ag (ag @apP @apO) (ag @amO @amN)) (ag (ag @avx @adQ) (ag @rlZ @rlS))))))))
section
variable {D n k:Nat} {v v' : V} {c e t:List V} {l l' : List (List V)} {Z:ab}
def awk:km D n v .any=True:=by simp[km.le dv.any]
def awl:km D n v v=True:=by simp[km.same]
def awm:km D 0 (.sl .aY k []) (.sl (.tk D) k [])=True:=by simp[km.tok]
theorem aoJ:fG D n (v::c) (v' :: e)=(km D n v v' /\ fG D n c e):=rfl
theorem aoK:fG D n [] []=True:=rfl
def aoL:fG D n c c=True:=by simp[fG.rfl]
def ji:=ag @awk <| ag @awl <| ag @awm <| ag @aoJ <| ag @aoK @aoL
def a7.uQ{I:ι->St}(n:Nat)(h:∀D,Z.aS D=ah->∃i,fG D n t (I i).t/\l=(I i).au/\(I i).out=Z.aU D n):a7 ⟨t,l,Z⟩ λaV => ∃i,aV = I i :=
 a7.tok n λD aW=>by
  obtain⟨i,h1,h2,h3⟩:=h D aW;refine⟨(I i).t,(I i).au,Z,h1,by rw[h2],λj c' hc=>⟨c',by rw[h2];exact hc,fG.rfl⟩,rY.rfl,i,?_⟩;rw[<-h3]
theorem dU{D m n:Nat}:(Z.aU D m).aU D n=Z.aU D n:=by
 simp only[ab.aU,ab.mk.injEq,qq,ln]
 grind
theorem gV{D n:Nat}(h:Z.aS D=ah):Z.sub (Z.aU D n):=by
 refine⟨λ_ _ h=>h,λO m hm=>?_,λ_ _ h=>h⟩
 have:O≠D:=by grind
 simp only[ab.aU];rw[aB this];exact hm
def dD{D n:Nat}:(Z.aU D n).aS D=U n:=by simp[ab.aU]
end
variable{i:Nat}{G:Type}
def BX{l:List G}{x:G}(h:l[i]?=U x):l.take (i+1)=l.take i++[x]:=by rw[List.take_add_one,h];simp
mutual
def V.lo(n:Nat):V->Bool
 | .ptr (.au i) _=>decide (i<n)
 | .agg cs=>bE n cs
 | .bw cs=>bE n cs
 | .fn _ a b=>bE n a&&bE n b
 | _=>aa
def bE(n:Nat):List V->Bool
 | []=>aa
 | x::xs=>x.lo n&&bE n xs
end
def cn(n:Nat):List (List V)->Bool
 | []=>aa
 | x::xs=>bE n x&&cn n xs
def Env.cut(E:Env)(n:Nat):Env:={E with au:=λi=>if i<n then E.au i else ah}
mutual
def R.cut{n:Nat}:∀(x:V) {E:Env} {v:Value},x.lo n=aa->R E x v->R (E.cut n) x v
 | .any,_,_,_,_=>by simp only[R]
 | .bool _,_,_,_,h=>by simp only[R] at h ⊢;exact h
 | .int _ _,_,_,_,h=>by simp only[R] at h ⊢;exact h
 | .aQ _,_,_,_,h=>by simp only[R] at h ⊢;exact h
 | .kX,_,_,_,h=>by simp only[R] at h ⊢;exact h
 | .ptr (.au i) off, E, _, hl, h => by
  simp only[V.lo,cU] at hl;simp only[R] at h ⊢;obtain⟨b,h1,h2⟩:=h;exact⟨b,by simp[Env.cut,hl,h1],h2⟩
 | .ptr (.out _) _,_,_,_,h=>by simp only[R] at h ⊢;exact h
 | .ptr (.nq _) _,_,_,_,h=>by simp only[R] at h ⊢;exact h
 | .elt _ _,_,_,_,h=>by simp only[R] at h ⊢;exact h
 | .sl _ _ _,_,_,_,h=>by simp only[R] at h ⊢;exact h
 | .agg cs, _, _, hl, h => by
  simp only[V.lo] at hl;simp only[R] at h ⊢;obtain⟨vs,h1,h2⟩:=h;exact⟨vs,h1,RL.cut cs hl h2⟩
 | .bw cs, _, _, hl, h => by
  simp only[V.lo] at hl;simp only[R] at h ⊢;obtain⟨vs,h1,h2⟩:=h;exact⟨vs,h1,RL.cut cs hl h2⟩
 | .fn _ a b, _, _, hl, h => by
  simp only[V.lo,bO] at hl;simp only[R] at h ⊢;obtain⟨fs,cs,h1,h2,h3⟩:=h;exact⟨fs,cs,h1,RL.cut a hl.1 h2,RL.cut b hl.2 h3⟩
 | .raw _,_,_,_,h=>by simp only[R] at h ⊢;exact h
def RL.cut{n:Nat}:∀(l:List V) {E:Env} {vs:List Value},bE n l=aa->RL E l vs->RL (E.cut n) l vs
 | [],_,[],_,_=>by simp only[RL]
 | [],_,_::_,_,h=>by simp only[RL] at h
 | _::_,_,[],_,h=>by simp only[RL] at h
 | x :: xs, _, v :: vs, hl, h => by
  simp only[bE,bO] at hl;simp only[RL] at h ⊢;exact⟨R.cut x hl.1 h.1,RL.cut xs hl.2 h.2⟩
end
def YQ{n:Nat}:∀{l:List V} {j:Nat} {x:V},bE n l=aa->l[j]?=U x->x.lo n=aa
 | [],j,x,_,h=>by simp at h
 | y::ys,0,x,hl,h=>by simp only[bE,bO] at hl;simp at h;rw[<-h];exact hl.1
 | y::ys,j+1,x,hl,h=>by simp only[bE,bO] at hl;exact YQ hl.2 (by simpa using h)
def YP{n:Nat}:∀{l:List (List V)} {j:Nat} {x:List V},cn n l=aa->l[j]?=U x->bE n x=aa
 | [],j,x,_,h=>by simp at h
 | y::ys,0,x,hl,h=>by simp only[cn,bO] at hl;simp at h;rw[<-h];exact hl.1
 | y::ys,j+1,x,hl,h=>by simp only[cn,bO] at hl;exact YP hl.2 (by simpa using h)
def kF.cut{n:Nat}(h:bE n cs=aa)(k:kF E b cs):kF (E.cut n) b cs:=by
 obtain⟨c,e,h1,h2,h3⟩:=k;exact⟨c,e,h1,h2,λj x hx=>by
  obtain⟨u,k1,k2⟩:=h3 j x hx;exact⟨u,k1,R.cut x (YQ h hx) k2⟩⟩
def Fr.cut(E:Env)(n:Nat):Fr E (E.cut n) :=
 ⟨rfl,rfl,rfl,bU _,λ_=>rfl,(Env.le.refl E).cell,(Env.le.refl E).tok,λ_ _ _=>⟨rfl,rfl⟩,λ_ _ h=>.inl h,λ_ _ c _ h=>⟨c,h⟩,λ_ i _ h=>⟨i,h⟩,λ_ c _ h=>⟨c,h,rfl⟩⟩
def a7.drop{l2:List (List V)}(ht:bE l.length t=aa)(hl:cn l.length l=aa)(hk:K ⟨t,l,Z⟩):a7 ⟨t,l++l2,Z⟩ K:=by
 intro E a hs;refine⟨E.cut l.length,⟨t,l,Z⟩,rfl,Fr.cut E _,⟨⟨hs.ok.box,hs.ok.aS,hs.ok.fresh,hs.ok.nt,hs.ok.cI⟩,⟨λi cs cO=>?_,λi hi=>?_⟩,hs.defers,RL.cut _ ht hs.slot⟩,hk⟩
 .have hi:i<l.length:=(kG.1 cO).1;obtain⟨b,k1,k2,k3⟩:=hs.dO.box i cs (by rw[B9 hi];exact cO);exact⟨b,by simp[Env.cut,hi,k1],k2,k3.cut (YP hl cO)⟩
 .simp only[Env.cut];rw[aB (by simp only at hi;omega)]
def bX.app:∀{l l' m:List (List V)},bX (l.take l'.length) l' -> bX l (l' ++ l.drop l'.length)
 | [],[],_,_=>trivial
 | [],_::_,_,h=>h.elim
 | v::l,[],m,_=>by simp[bX.rfl]
 | v :: l, w :: l', m, h => by
  simp only[da,yR,bX] at h;simp only[da,gY,FT,bX];exact⟨h.1,bX.app (m:=m) h.2⟩
variable{l':List (List V)}{σ':ab}
def a7.Ee{t':List V}(h:c_ t t')(hl:bX (l.take l'.length) l')(ho:bp Z σ')(h1:bE l'.length t' = aa)(h2:cn l'.length l' = aa)(hk:K ⟨t',l',σ'⟩):a7 ⟨t,l,Z⟩ K :=
 (a7.df (K:=λst=>st=⟨t',l' ++ l.drop l'.length,σ'⟩) h (bX.app (m:=[]) hl) ho rfl).bind λ_ e=>e▸a7.drop h1 h2 hk
def a7.nh{I:ι->St}{μ:ι->Nat}{n:Nat}(j:ι)(hm:μ j<n)(h:c_ t (I j).t)(hl:bX (l.take (I j).au.length) (I j).au)(ho:bp Z (I j).out)(h1:bE (I j).au.length (I j).t=aa)(h2:cn (I j).au.length (I j).au=aa):
 a7 ⟨t,l,Z⟩ λaV => ∃i,aV = I i/\μ i<n:=a7.Ee h hl ho h1 h2 ⟨j,rfl,hm⟩
section
variable {P:Program} {d:Option Nat} {q:OQ} {xs:List X} {r:List AO} {K:St->Prop} {t:List V} {l:List (List V)} {Z:ab}
theorem aqm:de P (⟨d,.own q xs,ah⟩::r) K ⟨t,l,Z⟩=q.bN Z (kC P d r K t l) (fi ⟨t,l,Z⟩ xs):=rfl
variable{H:V->ab->Prop}
theorem aq7:OQ.bN Z H .nil []=H (.raw (.slice ah 0 0)) Z:=rfl
variable{c:List V}
def aoi{u:Value}{e:List V}:c_ (.raw u::c) (.raw u::e)=c_ c e:=by simp[c_,dv.rfl]
variable{ik:IntKind}{off:Nat}
def Pc{n c:Nat}{j:Int}{H:V->Prop}(h0:0<=j)(h:j<n)(hk:H (.ptr (.out b) (off+j.toNat*k))):C6 k (.raw (.slice (U ⟨b,off,ah⟩) n c)) (.int ik j) H:=⟨ik,j,rfl,h0,h,hk⟩
def ax8{n c:Nat}{j:Int}{H:V->Prop}(hk:H (.ptr (.out b) (off+j.toNat*k)))(h0:0<=j:=by omega)(h:j<n:=by omega):C6 k (.raw (.slice (U ⟨b,off,ah⟩) n c)) (.int ik j) H:=Pc h0 h hk
def jo:=ag @aqm <| ag @aq7 @aoi
def fI(Z:ab)(k:Nat)(v:V)(rows:List (List V)):Prop :=
 ∃a cap,v = .raw (.slice a rows.length cap)/\rows.length<=cap/\(∀r∈rows,r.length=k)/\(cap=0\/∃b cs,a=U ⟨b,0,ah⟩/\Z.box b=U cs/\cs.length=cap*k/\cs.take (rows.length*k)=rows.flatten)
def tH:V->Option Nat
 | .raw (.slice (U ⟨b,_,_⟩) _ _)=>U b
 | _=>ah
def fI.none:fI Z k (.raw (.slice ah 0 0)) []:=⟨_,0,rfl,by simp,by simp,.inl rfl⟩
def fI.len{rows:List (List V)}(h:fI Z k v rows)(hk:H (.int .i64 rows.length) Z):OQ.bN Z H .len [v]:=by
 obtain⟨a,cap,rfl,_⟩:=h;exact hk
def fI.frame{rows:List (List V)}(h:fI Z k v rows)(hb:∀b cs,tH v=U b->Z.box b=U cs->σ'.box b=U cs):fI σ' k v rows:=by
 obtain⟨a,cap,rfl,h1,h2,h3⟩:=h;refine⟨a,cap,rfl,h1,h2,?_⟩
 rcases h3 with h3 | ⟨b,cs,rfl,h4,h5⟩
 .omega
 .exact .inr ⟨b,cs,rfl,hb b cs rfl h4,h5⟩
def VU{k:Nat}:∀{rows:List (List V)} {m:Nat},(∀r∈rows,r.length=k)->rows.flatten.take (m*k)=(rows.take m).flatten
 | [],m,_=>by simp
 | r::rows,0,_=>by simp
 | r :: rows, m + 1, h => by
  simp only[gf] at h;rw[lj,yR,lj,lH,F4,List.take_append,h.1,yQ (by omega),show m*k+k - k=m*k by omega,VU h.2]
def Ns{k:Nat}:∀{rows:List (List V)} {m:Nat},(∀r∈rows,r.length=k)->rows.flatten.drop (m*k)=(rows.drop m).flatten
 | [],m,_=>by simp
 | r::rows,0,_=>by simp
 | r :: rows, m + 1, h => by
  simp only[gf] at h;rw[lj,FT,lH,F4,List.drop_append,h.1,L8 (by omega),show m*k+k - k=m*k by omega,gK,Ns h.2]
theorem fI.idx{rows:List (List V)}{j:Int}{i:IntKind}(h:fI Z k v rows)(h0:0<=j)(hj:rows[j.toNat]?=U c)
 (hk:∀b cs rest,tH v=U b->Z.box b=U cs->cs.drop (j.toNat*k)=c++rest->H (.ptr (.out b) (j.toNat*k)) Z):OQ.bN Z H (.idx k) [v,.int i j]:=by
 obtain⟨a,cap,rfl,h1,h2,h3⟩:=h;have az:=(kG.1 hj).1
 rcases h3 with h3 | ⟨b,cs,rfl,h4,h5,h6⟩
 .omega
 .have e1:cs=rows.flatten++cs.drop (rows.length*k):=by rw[<-h6];simp
  have e2:rows.drop j.toNat=c::rows.drop (j.toNat+1):=by rw[mb az,(kG.1 hj).2]
  have nD:=pP h2;have e3:cs.drop (j.toNat*k)=c++((rows.drop (j.toNat+1)).flatten++cs.drop (rows.length*k)):=by
   have hle:j.toNat*k<=rows.length*k:=va _ (by omega);rw[e1,L7 (by rw[nD];exact hle),Ns h2,e2,lj,eY]
   grind
  show 0<=j/\j<(rows.length:Nat)/\H (.ptr (.out b) (0+j.toNat*k)) Z;rw[mc];exact⟨h0,by omega,hk b cs _ rfl h4 e3⟩
theorem fI.take{m:Nat}{rows:List (List V)}{i:IntKind}{j:Int}(h:fI Z k v rows)(h0:0<=j)(hj:j.toNat=m)(hm:m<=rows.length)(hk:∀v',fI Z k v' (rows.take m)->tH v' = tH v->H v' Z):OQ.bN Z H (.qZ k aq aa aq) [v,.int i j]:=by
 obtain⟨a,cap,rfl,h1,h2,h3⟩:=h;show qC aq 0 [.int i j] λm vs=>qC aa rows.length vs λh vs=>qC aq cap vs λM vs=>vs=[]/\m<=h/\h<=M/\M<=cap/\H (.raw (.slice (if M=m then a else a.map (·.add (m*k))) (h - m) (M - m))) Z
 refine⟨h0,rfl,by omega,by omega,bU _,?_⟩;have ea:(if cap=0 then a else a.map (·.add (0*k)))=a:=by
  split
  .rfl
  .rcases h3 with h3 | ⟨b,cs,rfl,_⟩
   .omega
   .simp[rj]
 rw[ea,hj];refine hk _ ⟨a,cap,?_,?_,λr hr=>h2 r (B' hr),?_⟩ (by cases a with
  | none=>rfl
  | some ad=>cases ad;rfl)
 .grind
 .grind
 .rcases h3 with h3 | ⟨b,cs,rfl,h4,h5,h6⟩
  .omega
  .refine .inr ⟨b,cs,rfl,h4,h5,?_⟩;rw[o8,Iz hm,<-VU h2,<-h6,Tq,Iz (va _ hm)]
structure Mo(Z:ab)(v:V)(σ' : ab)(v' : V):Prop where
 po:∀b cs,Z.box b=U cs->tH v≠U b->σ'.box b=U cs
 aS:σ'.aS=Z.aS
 new:∀b,tH v' = U b->tH v=U b\/Z.box b=ah
 cI:σ'.cI=Z.cI
theorem abM{k n:Nat}:∀{cs xs ys:List V},cs.take n=ys->n+xs.length<=cs.length->ys.length=n->(setAt cs n xs).take (n+xs.length)=ys++xs/\(setAt cs n xs).length=cs.length:=by
 intro cs xs ys h1 h2 h3;have ov:∀{cs xs:List V},xs.length<=cs.length->(over cs xs).take xs.length=xs/\(over cs xs).length=cs.length:=by
  intro cs;induction cs with
  | nil=>intro xs h;cases xs with | nil=>simp[over] | cons x xs=>simp at h
  | cons c cs ih =>
   intro xs h;cases xs with
   | nil=>simp[over]
   | cons x xs =>
    obtain⟨k1,k2⟩:=ih (xs:=xs) (by simpa using h);simp[over,k1,k2]
 induction n generalizing cs ys with
 | zero =>
  simp at h3;subst h3;obtain⟨k1,k2⟩:=ov (cs:=cs) (xs:=xs) (by omega);have e:setAt cs 0 xs=over cs xs:=by cases cs<;>rfl
  grind
 | succ n ih =>
  cases cs with
  | nil=>simp at h2
  | cons c cs =>
   cases ys with
   | nil=>simp at h3
   | cons y ys =>
    simp only[yR,mZ] at h1;obtain⟨k1,k2⟩:=ih (cs:=cs) (ys:=ys) h1.2 (by simp at h2;omega) (by simpa using h3);simp only[setAt];rw[show n+1+xs.length=(n+xs.length)+1 by omega];simp[k1,k2,h1.1]
theorem fI.app{rows:List (List V)}{tk:Tk}(h:fI Z k v rows)(hm:∀r∈m,r.length=k)(hn:bK m.flatten=aa)(hb:rows.length+m.length<=aJ)
 (hk:∀v' σ',fI σ' k v' (rows++m)->Mo Z v σ' v' -> H v' σ'):OQ.bN Z H (.app k) [v,.sl tk k m]:=by
 obtain⟨a,cap,rfl,h1,h2,h3⟩:=h;have GO:=pP hm;have bC:=pP h2;refine⟨rfl,h1,hb,hn,λe=>?_,λe hle=>?_,λaz=>?_⟩
 .subst e;refine hk _ _ ⟨a,cap,by simp,by simpa using h1,by simpa using h2,by simpa using h3⟩ ⟨λ_ _ h _=>h,rfl,λb hb=>.inl hb,rfl⟩
 .rcases h3 with h3 | ⟨b,cs,rfl,h4,h5,h6⟩
  .simp_all
  .have s_:rows.length*k+m.length*k<=cs.length:=by rw[h5,<-lH];exact va _ hle
   refine⟨b,cs,rfl,h4,s_,hk _ _ ⟨U ⟨b,0,Option.none⟩,cap,by simp,by simpa using hle,λr hr=>?_,.inr ⟨b,_,rfl,ab.fE _ _ _,?_,?_⟩⟩ ⟨λb' cs' cF bf=>?_,rfl,λb' cF => .inl cF,rfl⟩⟩
   .grind
   .rw[(abM (k:=k) h6 (by rw[GO];exact s_) bC).2];exact h5
   .have:=(abM (k:=k) h6 (by rw[GO];exact s_) bC).1
    grind
   .have:b' ≠ b:=by rintro rfl;exact bf rfl
    rw[ab.fQ _ _ this];exact cF
 .have base:∀cs:List V,cs.take (rows.length*k)=rows.flatten->∀b' wh,Z.box b' = Option.none->rows.length+m.length<=wh -> H (.raw (.slice (U ⟨b',0,Option.none⟩) (rows.length+m.length) wh)) (Z.set b' (cs.take (rows.length*k)++m.flatten++aj ((wh - (rows.length+m.length))*k) .any)):=by
   intro cs h6 b' wh cF hc;refine hk _ _ ⟨U ⟨b',0,Option.none⟩,wh,by simp,by simpa using hc,λr hr=>?_,.inr ⟨b',_,rfl,ab.fE _ _ _,?_,?_⟩⟩ ⟨λUh cs' vw bf=>?_,rfl,λUh vw => ?_,rfl⟩
   .grind
   .rw[h6];simp only[bL,bC,GO,List.length_replicate];rw[<-lH,<-lH];congr 1;omega
   .rw[h6,bL,u0,ads (by simp only[bL,bC,GO];rw[lH];omega),yQ (by simp only[bL,bC,GO];rw[lH];omega)]
   .have:Uh ≠ b' := by grind
    rw[ab.fQ _ _ this];exact vw
   .simp only[tH,bq] at vw;subst vw;exact .inr cF
  rcases h3 with h3 | ⟨b,cs,rfl,h4,h5,h6⟩
  .simp_all
  .refine⟨cs,.inr ⟨b,rfl,h4,?_⟩,base cs h6⟩
   grind
structure sT(dx Z:ab)(v:V):Prop where
 sub:dx.sub Z
 new:∀b,tH v=U b->dx.box b=ah
def sT.start{m n:Nat}:sT Z Z (.raw (.slice ah m n)):=⟨ab.a8 Z,λb h=>by simp[tH] at h⟩
variable{dx:ab}
def sT.step{v':V}(h:sT dx Z v)(f:Mo Z v σ' v'):sT dx σ' v' := by
 refine⟨⟨λb cs hb=>?_,λt n hn=>by rw[f.aS];exact h.sub.2.1 t n hn,λb cs hc=>by rw[f.cI];exact h.sub.2.2 b cs hc⟩,λb hb=>?_⟩
 .exact f.po b cs (h.sub.1 b cs hb) (λe=>by rw[h.new b e] at hb;simp at hb)
 .rcases f.new b hb with e | e
  .exact h.new b e
  .cases hq:dx.box b with
   | none=>rfl
   | some cs=>rw[h.sub.1 b cs hq] at e;simp at e
end
section
variable {P:Program} {d:Option Nat} {K:St->Prop} {st:St} {b w:Bool}
def gO{op:a_}{r:List AO}(h1:b=aa->gL P (.bool aa) w d op r K st)(h2:b=aq->gL P (.bool aq) w d op r K st):gL P (.bool b) w d op r K st:=by cases b with
 | true=>exact h1 rfl
 | false=>exact h2 rfl
def gS{x y:V}{r:List AO}(h1:b=aa->yp P (.bool aa) x y d r K st)(h2:b=aq->yp P (.bool aq) x y d r K st):yp P (.bool b) x y d r K st:=by cases b with
 | true=>exact h1 rfl
 | false=>exact h2 rfl
end
section
variable {P:Program} {d:Option Nat} {K:St->Prop} {t:List V} {l:List (List V)} {Z:ab} {r:List AO}
def vm(st:St):Option X->Option V
 | none=>ah
 | some x=>U (ev st x)
def EP(n:Nat)(ahx:Nat):Option V->Prop
 | none=>n=ahx
 | some v=>∃j,v = .int j n
def R4(v:V)(lo hi:Option V)(H:V->Prop):Prop:=∃s a b,v = .aQ s/\a<=b/\b<=s.length/\EP a 0 lo/\EP b s.length hi/\H (.aQ ((s.take b).drop a))
def H5(k:Nat)(v:V)(lo hi mx:Option V)(H:V->Prop):Prop:=(∃D l a b,v = .sl D k l/\a<=b/\b<=l.length/\EP a 0 lo/\EP b l.length hi /\
 match mx with
 | none=>H (.sl .no k ((l.take b).drop a))
 | some y=>(∃j,y = .int j b)/\H (.sl .aY k ((l.take b).drop a))) \/
 ∃a n cap m h,v = .raw (.slice a n cap)/\m<=h/\h<=cap/\EP m 0 lo/\EP h n hi/\mx.isNone=aa/\H (.raw (.slice (if cap=m then a else a.map (·.add (m*k))) (h - m) (cap - m)))
variable{hi:Option X}
def aqo{x:X}{lo:Option X}:de P (⟨d,.BQ x lo hi,ah⟩::r) K ⟨t,l,Z⟩=R4 (ev ⟨t,l,Z⟩ x) (vm ⟨t,l,Z⟩ lo) (vm ⟨t,l,Z⟩ hi) (kL P d r K ⟨t,l,Z⟩):=by cases lo<;>cases hi<;>rfl
variable{mx:Option X}
def aqp{x:X}{lo:Option X}:de P (⟨d,.qZ k x lo hi mx,ah⟩::r) K ⟨t,l,Z⟩=H5 k (ev ⟨t,l,Z⟩ x) (vm ⟨t,l,Z⟩ lo) (vm ⟨t,l,Z⟩ hi) (vm ⟨t,l,Z⟩ mx) (kL P d r K ⟨t,l,Z⟩):=by cases lo<;>cases hi<;>cases mx<;>rfl
variable{ms:List Nat}
def ahu{x:X}{lo:Option X}{r:List (AO × List Nat)}{SN:List dZ}{L:List (V × Bool × Nat × V × List Nat)}:c9 P ((⟨d,.BQ x lo hi,ah⟩,ms)::r) SN L K ⟨t,l,Z⟩=R4 (ev ⟨t,l,Z⟩ x) (vm ⟨t,l,Z⟩ lo) (vm ⟨t,l,Z⟩ hi) (kD P d r SN L K ⟨t,l,Z⟩):=by cases lo<;>cases hi<;>rfl
def ahv{x:X}{lo:Option X}{r:List (AO × List Nat)}{SN:List dZ}{L:List (V × Bool × Nat × V × List Nat)}:c9 P ((⟨d,.qZ k x lo hi mx,ah⟩,ms)::r) SN L K ⟨t,l,Z⟩=H5 k (ev ⟨t,l,Z⟩ x) (vm ⟨t,l,Z⟩ lo) (vm ⟨t,l,Z⟩ hi) (vm ⟨t,l,Z⟩ mx) (kD P d r SN L K ⟨t,l,Z⟩):=by cases lo<;>cases hi<;>cases mx<;>rfl
theorem aiL{st:St}:vm st ah=none:=rfl
theorem aiM{st:St}{x:X}:vm st (U x)=U (ev st x):=rfl
variable{s:List UInt8}
def Fw{j j' : IntKind}{a:Nat}{H:V->Prop}(h1:a<=b)(h2:b<=s.length)(h:H (.aQ ((s.take b).drop a))):R4 (.aQ s) (U (.int j a)) (U (.int j' b)) H:=⟨s,a,b,rfl,h1,h2,⟨j,rfl⟩,⟨j',rfl⟩,h⟩
def auR{D:Tk}{j:IntKind}{a:Nat}{H:V->Prop}(h2:a<=m.length)(h:H (.sl .no k (m.drop a))):H5 k (.sl D k m) (U (.int j a)) ah ah H:=.inl ⟨D,m,a,m.length,rfl,h2,bU _,⟨j,rfl⟩,rfl,by rw[du];exact h⟩
def abZ{D:Tk}{j:IntKind}{H:V->Prop}(h2:b<=m.length)(h:H (.sl .no k (m.take b))):H5 k (.sl D k m) ah (U (.int j b)) ah H:=.inl ⟨D,m,0,b,rfl,Mj _,h2,rfl,⟨j,rfl⟩,h⟩
def cK:=ag @ap5 <| ag @apU <| ag @aqo <| ag @aqp <| ag @ahu <| ag @ahv <| ag @aiL <| ag @aiM <| ag @aqc <| ag @ahj <| ag @ahb <| ag @awb <| ag @apu <| ag @apt <| ag @apv <| ag @asz <| ag @asy <| ag @asA @ah4
end
def Gj(a b:List UInt8):fS (a++b)=fS a++fS b:=by simp[fS]
def ko(a:List UInt8):(fS a).length=a.length:=by simp[fS]
abbrev bz:=BitVec 64
section
variable {a b c:bz} {n:Int} {m:Nat}
def wrap_u64{x:Int}(h1:0<=x)(h2:x<18446744073709551616):IntKind.u64.wrap x=x:=IntWalk.u64_in x (by omega)
def awt(a:bz):(a.toNat:Int)<18446744073709551616:=by omega
def Sv:BitVec.ofInt 64 (a.toNat:Nat)=a:=by simp
def Sx:IntKind.u64.wrap (a.toNat:Nat)=(a.toNat:Nat):=wrap_u64 (by omega) (awt a)
theorem awq:IntKind.u64.wrap ((a.toNat:Nat)+(b.toNat:Nat))=((a+b).toNat:Nat):=by rfl
def Sw:IntKind.u64.wrap ((a.toNat:Nat) - (b.toNat:Nat))=((a - b).toNat:Nat):=by
 have:=a.isLt;have:=b.isLt
 rw[IntKind.wrap_u64,BitVec.toNat_sub];omega
theorem awu:IntKind.u64.wrap ((a.toNat:Nat)*(b.toNat:Nat))=((a*b).toNat:Nat):=by rfl
def Ao:jv .u64 (a.toNat:Nat) (b.toNat:Nat) .and=U (.int .u64 ((a&&&b).toNat:Nat)):=by(simp only[jv,IntKind.bits,Sv,Sx];rfl)
def DH:jv .u64 (a.toNat:Nat) (b.toNat:Nat) .or=U (.int .u64 ((a|||b).toNat:Nat)):=by(simp only[jv,IntKind.bits,Sv,Sx];rfl)
def acy:jv .u64 (a.toNat:Nat) (b.toNat:Nat) .andNot=U (.int .u64 ((a&&&~~~b).toNat:Nat)):=by(simp only[jv,IntKind.bits,Sv,Sx];rfl)
theorem LJ:jv .u64 (a.toNat:Nat) (m:Nat) .shl=U (.int .u64 ((a<<<m).toNat:Nat)):=by
 simp only[jv,IntKind.bits];rw[aB (by omega),IntKind.wrap_u64,SY,Ts];simp only[iM,bq,V.int.injEq,qq]
 by_cases h:m<=64
 .grind
 .rw[show m.min 64=64 from Nat.min_eq_right (by omega)];obtain⟨k,rfl⟩:∃k,m=64+k:=⟨m - 64,by omega⟩;rw[Nat.pow_add,<-Nat.mul_assoc,Nat.mul_comm _ (2^64),Nat.mul_assoc,Nat.mul_mod_right];omega
theorem LK:jv .u64 (a.toNat:Nat) (m:Nat) .shr=U (.int .u64 ((a>>>m).toNat:Nat)):=by
 simp only[jv,IntKind.bits];rw[aB (by omega),adg,adu];simp only[iM,bq,V.int.injEq,qq];rw[Int.fdiv_eq_ediv_of_nonneg _ (Int.le_of_lt (Int.pow_pos (by decide)))]
 by_cases h:m<=64
 .grind
 .rw[show m.min 64=64 from Nat.min_eq_right (by omega)];have h1:a.toNat / 2^m=0:=Nat.div_eq_of_lt (wa a.isLt (Nat.pow_le_pow_right (by decide) (by omega)));omega
def aws:jv .u64 (a.toNat:Nat) 2 .quo=U (.int .u64 ((a>>>1).toNat:Nat)):=by
 simp only[jv];rw[aB (by decide),adg,adu,Int.tdiv_eq_ediv_of_nonneg (by omega),wrap_u64 (by omega) (by have:=a.isLt;omega)];rfl
def acB:jv .u64 (a.toNat:Nat) 2 .rem=U (.int .u64 ((a.getLsbD 0).toNat:Nat)):=by
 simp only[jv];rw[aB (by decide),Int.tmod_eq_emod_of_nonneg (by omega),BitVec.getLsbD,Nat.testBit_zero];simp only[bq,V.int.injEq,qq]
 rcases Nat.mod_two_eq_zero_or_one a.toNat with h | h<;>simp[h]<;>omega
def acz{p:Bool}:decide (((p.toNat:Nat):Int)=((1#64:bz).toNat:Nat))=p:=by cases p<;>rfl
def acA:IntKind.u64.wrap ((a.toNat:Nat)*2)=((a<<<1).toNat:Nat):=by rw[IntKind.wrap_u64,SY,Ts];omega
def FH:decide ((a.toNat:Int)=(b.toNat:Nat))=decide (a=b):=by
 apply xM.2;rw[<-BitVec.toNat_inj];omega
theorem tR:V.int .u64 0 = .int .u64 ((0#64:bz).toNat:Nat):=rfl
theorem Ii:V.int .u64 1 = .int .u64 ((1#64:bz).toNat:Nat):=rfl
theorem aww:V.int .u64 18446744073709551615 = .int .u64 ((BitVec.allOnes 64:bz).toNat:Nat):=rfl
end
def hasB(s:bz)(i:Int):Bool:=decide (0<=i)&&s.getLsbD i.toNat
def lL(i:Nat):bz:=1#64<<<i
def la(s:bz)(i:Int):bz:=if 0<=i/\i<64 then s|||lL i.toNat else s
def gq(l:List Int):bz:=l.foldl la 0#64
def yz(a b:bz):Bool:=decide (a&&&~~~b=0#64)
def jT(n:Int):bz:=if n<=0 then 0#64 else if 64<=n then BitVec.allOnes 64 else lL n.toNat - 1#64
def iu(s:bz):List Nat:=(bH 64).filter s.getLsbD
def pO{a b:bz}(h:∀k,k<64->a.getLsbD k=b.getLsbD k):a=b:=BitVec.eq_of_getLsbD_eq λk hk=>h k hk
theorem D7(i k:Nat):(lL i).getLsbD k=(decide (k<64)&&decide (k=i)):=by
 simp only[lL,ade,BitVec.getLsbD_one]
 grind
def Un(i:Nat):lL i<<<1=lL (i+1):=by
 apply pO;intro k hk;rw[ade,D7,D7];cases k with
 | zero=>simp
 | succ k=>simp only[hk,Nat.add_sub_cancel,bu,lh,Nat.add_right_cancel_iff];simp[show k<64 by omega]
theorem LL(s:bz)(i:Int)(k:Nat):(la s i).getLsbD k=(s.getLsbD k||(decide (k<64)&&decide ((k:Int)=i))):=by
 unfold la
 split
 .rename_i h;rw[SV,D7]
  grind
 .grind
def V2:∀(l:List Int) (s:bz) (k:Nat),(l.foldl la s).getLsbD k=(s.getLsbD k||(decide (k<64)&&decide ((k:Int)∈l)))
 | [],s,k=>by simp
 | i :: l, s, k => by
  rw[AA,V2 l,LL,Bool.or_assoc,<-Bool.and_or_distrib_left,<-Bool.decide_or];simp only[m_]
def zR(l:List Int)(k:Nat):(gq l).getLsbD k=(decide (k<64)&&decide ((k:Int)∈l)):=by rw[gq,V2];simp
def aqP(k:Nat):(BitVec.allOnes 64).getLsbD k=decide (k<64):=BitVec.getLsbD_allOnes
theorem aeZ(n:Nat)(h:n<=64)(k:Nat):(lL n - 1#64).getLsbD k=(decide (k<64)&&decide (k<n)):=by
 by_cases hk:k<64
 .rw[BitVec.getLsbD,BitVec.toNat_sub,lL,SY,Ts];have e1:(1#64).toNat=1:=rfl;rw[e1,F4]
  by_cases h2:n=64
  .subst h2
   have:(2^64 - 1+2^64 % 2^64) % 2^64=2^64 - 1:=by decide
   rw[this,adv];simp[hk]
  .have hp:2^n<2^64:=Nat.pow_lt_pow_right (by decide) (by omega);have sr:0<2^n:=Nat.two_pow_pos n;rw[Nat.mod_eq_of_lt hp,show 2^64 - 1+2^n=(2^n - 1)+2^64 by omega,Nat.add_mod_right,Nat.mod_eq_of_lt (by omega),adv]
   grind
 .grind
theorem y7(n:Int)(k:Nat):(jT n).getLsbD k=(decide (k<64)&&decide ((k:Int)<n)):=by
 unfold jT;split
 .grind
 .split
  .rw[aqP]
   grind
  .rw[aeZ _ (by omega)];simp
theorem Zq(l:List Int)(i:Nat)(hi:i<64):gq l&&&jT ((i+1:Nat):Int)=if (i:Int)∈l then(gq l&&&jT (i:Int))+lL i else gq l&&&jT (i:Int):=by
 split
 .rename_i h;rw[BitVec.add_eq_or_of_and_eq_zero]
  .apply pO;intro k hk;simp only[SV,uX,y7,D7,hk,bu,lh,zR]
   grind
  .apply pO;intro k hk;simp only[uX,y7,D7,hk,bu,lh]
   grind
 .rename_i h;apply pO;intro k hk;simp only[uX,y7,hk,bu,lh,zR]
  grind
def aqr(l:List Int):gq l&&&jT 64=gq l:=by
 apply pO;intro k hk;rw[uX,y7];simp only[hk,bu,lh];rw[aG (by omega)];simp
def aqs(l:List Int):gq l&&&jT 0=0#64:=by simp[jT]
theorem avo{a b:bz}:yz a b=aa↔∀k,a.getLsbD k=aa->b.getLsbD k=true:=by
 unfold yz;rw[Cm];constructor
 .intro h k hk
  have:=mf (λx:bz=>x.getLsbD k) h
  grind
 .intro h;apply pO;intro k hk;cases hb:a.getLsbD k with
  | false=>simp[hb]
  | true=>simp[hb,h k hb,hk]
theorem Qx{s:bz}:k∈iu s↔s.getLsbD k=true:=by
 simp only[iu,FW,qy,and_iff_right_iff_imp]
 grind
def an9{s:bz}(h:k∈iu s):k<64:=by simp only[iu,FW,qy] at h;exact h.1
def KG(s:bz):(iu s).length<=64:=by have:=Tj s.getLsbD (bH 64);simpa [iu] using this
def vS(s:bz):Nat:=((bH 64).find? s.getLsbD).getD 64
theorem Ht{s:bz}(h:s≠0#64):vS s<64/\s.getLsbD (vS s)=aa/\∀k,k<vS s->s.getLsbD k=false:=by
 unfold vS;cases hf:(bH 64).find? s.getLsbD with
 | none =>
  exfalso;apply h;apply pO;intro k hk
  grind
 | some i =>
  simp_all
theorem apg{s:bz}(h:s≠0#64):s&&&-s=lL (vS s):=by
 obtain⟨h1,h2,h3⟩:=Ht h;apply pO;intro i hi;rw[uX,BitVec.getLsbD_neg,D7]
 grind
theorem M5(s:bz)(i:Nat):(s&&&(s - 1#64)).getLsbD i=(s.getLsbD i&&decide (∃j,j<i/\s.getLsbD j=aa)):=by
 by_cases hi:i<64
 .rw[uX,<-BitVec.not_neg,BitVec.getLsbD_not,BitVec.getLsbD_neg];cases s.getLsbD i<;>simp[hi]
 .grind
theorem YJ{s:bz}(h:s≠0#64):iu s=vS s::iu (s&&&(s - 1#64)):=by
 obtain⟨h1,h2,h3⟩:=Ht h;generalize vS s=k at h1 h2 h3;have hr:bH 64=bH k++k::List.range' (k+1) (64 - (k+1)):=by
  rw[DX,DX,<-Me,show(64:Nat) - (k+1)+1=64 - k by omega]
  have:=List.range'_append (s:=0) (m:=k) (n:=64 - k) (step:=1)
  grind
 unfold iu;rw[hr,DT,DT,DU,DU,h2,M5 s k];have e1:List.filter s.getLsbD (bH k)=[]:=adl.2 λx hx=>by rw[h3 x (by simpa using hx)];simp
 have e2:List.filter (s&&&(s - 1#64)).getLsbD (bH k)=[]:=adl.2 λx hx=>by rw[M5,h3 x (by simpa using hx)];simp
 rw[e1,e2,
  aD (by rintro⟨j,hj,hs⟩;rw[h3 j hj] at hs;simp at hs)]
 simp only[SZ,dK,cz,db,gK,mZ,qq];refine List.filter_congr λx hx=>?_
 have hx:k<x:=by grind
 rw[M5,aG ⟨k,hx,h2⟩,uZ]
theorem an':iu 0#64=[]:=by rfl
def an_{s:bz}(h:iu s≠[]):s≠0#64:=by rintro rfl;exact h an'
def aoa{s:bz}(h:iu s=[]):s=0#64:=by apply Classical.byContradiction;intro hc;rw[YJ hc] at h;simp at h
def LC:List Int:=[0,1,56,2,57,49,28,3,61,58,42,50,38,29,17,4,62,47,59,36,45,43,51,22,53,39,33,30,24,18,12,5,63,55,48,27,60,41,37,16,46,35,44,21,52,32,23,11,54,26,40,15,34,20,31,10,25,14,19,9,13,8,7,6]
def Ak:List V:=LC.map λn=>.int .u8 n
def avT(k:Nat)(h:k<64):((lL k*285870213051353865#64)>>>58).toNat<64/\LC[((lL k*285870213051353865#64)>>>58).toNat]?=U (k:Int):=by revert k;decide +kernel
end Go.Am
namespace Go.Am
structure Tok where
 kind:Int
 an:List UInt8
 pos:Int
inductive aA where
 | mk (tok:Tok) (ae:List aA) (fin:Int)
def aA.tok:aA->Tok | .mk t _ _=>t
def aA.ae:aA->List aA | .mk _ k _=>k
def aA.fin:aA->Int | .mk _ _ e=>e
mutual
def aA.enc:aA->List V
 | .mk t ks e=>[.int .u8 t.kind,.aQ t.an,.int .i64 t.pos,.sl .no 5 (cE ks),.int .i64 e]
def cE:List aA->List (List V)
 | []=>[]
 | t::ts=>t.enc::cE ts
end
def qD:∀l,cE l=l.map aA.enc
 | []=>rfl
 | t::ts=>by simp[cE,qD ts]
def eE(l:List aA):(cE l).length=l.length:=by simp[qD]
def dk(t:aA):t.enc=[.int .u8 t.tok.kind,.aQ t.tok.an,.int .i64 t.tok.pos,.sl .no 5 (cE t.ae),.int .i64 t.fin]:=by cases t;simp only[aA.enc,aA.tok,aA.ae,aA.fin]
mutual
def aA.many:aA->Nat
 | .mk _ ks _=>bj ks
def bj:List aA->Nat
 | []=>0
 | t::ts=>1+t.many+bj ts
end
def Qu(t:aA):t.many=bj t.ae:=by cases t;simp[aA.many,aA.ae]
def vU:∀a b,bj (a++b)=bj a+bj b
 | [],b=>by simp[bj]
 | t::ts,b=>by simp[bj,vU ts b];omega
def iv:∀l,l.length<=bj l
 | []=>by simp[bj]
 | t::ts=>by simp[bj];have:=iv ts;omega
variable{i:Nat}
def aoR{l:List aA}(h:i<l.length):bj l=bj (l.take i)+(1+bj l[i].ae)+bj (l.drop (i+1)):=by
 have:l=l.take i++l[i]::l.drop (i+1):=by simp
 have e:=mf bj this;rw[e,vU];simp only[bj,Qu];omega
def Qv{l:List aA}(h:i<l.length):bj l[i].ae+1<=bj l:=by have:=aoR h;omega
structure aC where
 an:List UInt8
 pos:Int
def aC.enc(w:aC):List V:=[.aQ w.an,.int .i64 w.pos]
inductive Nd where
 | mk (kind pos:Int) (an:List UInt8) (ak:List aC) (ae:List Nd)
namespace Nd
def kind:Nd->Int | .mk k _ _ _ _=>k
def pos:Nd->Int | .mk _ p _ _ _=>p
def an:Nd->List UInt8 | .mk _ _ t _ _=>t
def ak:Nd->List aC | .mk _ _ _ w _=>w
def ae:Nd->List Nd | .mk _ _ _ _ k=>k
end Nd
mutual
def Nd.enc:Nd->List V
 | .mk k p t ws ks=>[.int .i64 k,.int .i64 p,.aQ t,.sl .no 2 (ws.map aC.enc),.sl .no 5 (wV ks)]
def wV:List Nd->List (List V)
 | []=>[]
 | n::ns=>n.enc::wV ns
end
def Dm:∀l,wV l=l.map Nd.enc
 | []=>rfl
 | t::ts=>by simp[wV,Dm ts]
def Nd.dk(n:Nd):n.enc=[.int .i64 n.kind,.int .i64 n.pos,.aQ n.an,.sl .no 2 (n.ak.map aC.enc),.sl .no 5 (n.ae.map Nd.enc)]:=by cases n;simp only[Nd.enc,Nd.kind,Nd.pos,Nd.an,Nd.ak,Nd.ae,Dm]
structure af where
 l:List aA
 at_:Int
 fin:Int
 aO:Option Int
def dS(b:Option Int):Int:=match b with | some _=>2 | none=>0
def gx(b:Option Int):Int:=match b with | some a=>a | none=>0
def af.enc(r:af):List V:=[.sl .no 5 (cE r.l),.int .i64 r.at_,.int .i64 r.fin,.int .i64 (dS r.aO),.int .i64 (gx r.aO)]
def bd(l:List aA)(at_:Int)(k:Int):Bool:=decide (0<=at_)&&match l[at_.toNat]? with | some t=>decide (t.tok.kind=k) | none=>aq
def af.ok(r:af):Bool:=r.aO.isNone
def af.spot(r:af):Int:=if 0<=r.at_ then(match r.l[r.at_.toNat]? with | some t=>t.tok.pos | none=>r.fin) else r.fin
def af.fail(r:af):af:=match r.aO with | some _=>r | none=>{r with aO:=U r.spot}
def af.cH(r:af)(k:Int):Bool:=r.ok&&bd r.l r.at_ k
def aA.zero:aA:=.mk ⟨0,[],0⟩ [] 0
def af.take(r:af)(k:Int):aA × af:=if r.cH k then(r.l.getD r.at_.toNat .zero,{r with at_:=r.at_+1}) else(.zero,r.fail)
def af.word(r:af):aC × af:=(⟨(r.take 97).1.tok.an,(r.take 97).1.tok.pos⟩,(r.take 97).2)
variable{r:af}
theorem af.ex1{n:Nat}:r.enc.drop n=[V.sl .no 5 (cE r.l),.int .i64 r.at_,.int .i64 r.fin,.int .i64 (dS r.aO),.int .i64 (gx r.aO)].drop n:=rfl
theorem af.ex2{n:Nat}{x:List V}:setAt r.enc n x=setAt [V.sl .no 5 (cE r.l),.int .i64 r.at_,.int .i64 r.fin,.int .i64 (dS r.aO),.int .i64 (gx r.aO)] n x:=rfl
theorem af.ex3{n:Nat}{g:Bool}:bP g n r.enc=bP g n [V.sl .no 5 (cE r.l),.int .i64 r.at_,.int .i64 r.fin,.int .i64 (dS r.aO),.int .i64 (gx r.aO)]:=rfl
theorem af.ex4{n:Nat}:cB n r.enc=cB n [V.sl .no 5 (cE r.l),.int .i64 r.at_,.int .i64 r.fin,.int .i64 (dS r.aO),.int .i64 (gx r.aO)]:=rfl
def af.ex:(∀{r:af} {n:Nat},r.enc.drop n=[V.sl .no 5 (cE r.l),.int .i64 r.at_,.int .i64 r.fin,.int .i64 (dS r.aO),.int .i64 (gx r.aO)].drop n) /\
 (∀{r:af} {n:Nat} {x:List V},setAt r.enc n x=setAt [V.sl .no 5 (cE r.l),.int .i64 r.at_,.int .i64 r.fin,.int .i64 (dS r.aO),.int .i64 (gx r.aO)] n x) /\
 (∀{r:af} {n:Nat} {g:Bool},bP g n r.enc=bP g n [V.sl .no 5 (cE r.l),.int .i64 r.at_,.int .i64 r.fin,.int .i64 (dS r.aO),.int .i64 (gx r.aO)]) /\
 (∀{r:af} {n:Nat},cB n r.enc=cB n [V.sl .no 5 (cE r.l),.int .i64 r.at_,.int .i64 r.fin,.int .i64 (dS r.aO),.int .i64 (gx r.aO)]):=⟨af.ex1,af.ex2,af.ex3,af.ex4⟩
def j9{β:Type}(step:af × List β->af × List β):Nat->af × List β->af × List β
 | 0,a=>a
 | n+1,a=>if a.1.cH 44 then j9 step n (step ((a.1.take 44).2,a.2)) else a
variable{β:Type}
def fy(step:af × List β->af × List β)(r:af):af × List β:=j9 step r.l.length (step (r,[]))
def iU(a:af × List aC):af × List aC:=(a.1.word.2,a.2++[a.1.word.1])
def af.gW(r:af)(k:Int):(r.take k).2.l=r.l:=by
 unfold af.take;split
 .rfl
 .unfold af.fail;split<;>rfl
def af.ai0(r:af):r.fail.at_=r.at_:=by unfold af.fail;split<;>rfl
theorem af.Jh(r:af):r.fail.aO≠none:=by
 unfold af.fail
 grind
theorem af.xi(r:af)(k:Int):(r.cH k=aa/\(r.take k).2.at_=r.at_+1/\(r.take k).2.aO=ah/\0<=r.at_/\r.at_<r.l.length)\/(r.cH k=aq/\(r.take k).2.at_=r.at_/\(r.take k).2.aO≠ah):=by
 cases h:r.cH k
 .right;simp only[af.take,h,dK,cz,qq];exact⟨r.ai0,r.Jh⟩
 .left;have h' := h;simp only[af.cH,af.ok,bd,bO,cU,F6] at h';obtain⟨h1,h0,hk⟩:=h';simp only[af.take,h,db,qq]
  grind
def af.yA(r:af)(k:Int):bj (r.take k).1.ae<=bj r.l/\((r.take k).2.aO=ah->bj (r.take k).1.ae+1<=bj r.l):=by
 rcases r.xi k with ⟨h,_,_,h1,h2⟩ | ⟨h,_,h1⟩
 .have az:r.at_.toNat<r.l.length:=by omega
  have:=Qv az
  simp only[af.take,h,db,List.getD,bY az,DZ];omega
 .refine⟨?_,λhb=>absurd hb h1⟩;simp[af.take,h,aA.zero,aA.ae,bj]
def aA.inner(t:aA):af:=⟨t.ae,0,t.fin,ah⟩
def af.close(r:af):af:=if r.ok=aa/\r.at_<r.l.length then r.fail else r
def af.under(r i:af):af:={r with aO:=i.close.aO}
structure Reads{β:Type}(one:af->β × af):Prop where
 l:∀r,(one r).2.l=r.l
 go:∀r,0<=r.at_->r.at_<=r.l.length->r.at_<=(one r).2.at_/\(one r).2.at_<=r.l.length/\((one r).2.aO=ah->r.at_+1<=(one r).2.at_)
def cV(one:af->β × af)(a:af × List β):af × List β:=((one a.1).2,a.2++[(one a.1).1])
def af.inside(step:af × List β->af × List β)(empty:Bool)(t:aA):af × List β:=if empty=aa/\t.ae.length=0 then(t.inner,[]) else fy step t.inner
def af.bracket(step:af × List β->af × List β)(kind:Int)(empty:Bool)(r:af):(List β × Int) × af :=
 if (r.take kind).2.ok=aa then(((af.inside step empty (r.take kind).1).2,(r.take kind).1.tok.pos),(r.take kind).2.under (af.inside step empty (r.take kind).1).1) else(([],0),(r.take kind).2)
def af.nodes(one:af->Nd × af)(kind:Int)(empty:Bool)(r:af):(List Nd × Int) × af:=r.bracket (cV one) kind empty
def af.words(empty:Bool)(r:af):(List aC × Int) × af:=r.bracket iU 123 empty
end Go.Am
namespace Go.Am
def l8:List V:=.int .i64 0::aj 64 (.int .u64 0)
def uh:List V:=.int .i64 0::.sl .aY 1 []::l8
def K7:List Nat:=aj 65 1
def jJ(l:List bz):List V:=l.map λw=>.int .u64 (w.toNat:Nat)
section
variable {l m:List bz} {i n:Nat} {w:bz}
def Jc:(jJ l).length=l.length:=by simp[jJ]
def Vt:c8 (jJ l)=true:=by induction l with | nil=>rfl | cons a l ih=>simpa [jJ,c8,V.one] using ih
def Vs:bK (jJ l)=true:=by induction l with | nil=>rfl | cons a l ih=>simpa [jJ,bK,V.cS] using ih
def Vp:a9 (jJ l)=jJ l:=by induction l with | nil=>rfl | cons a l ih=>simp only[jJ,cQ,a9,V.erase] at ih ⊢;rw[ih]
def Vr:bE n (jJ l)=true:=by induction l with | nil=>rfl | cons a l ih=>simpa [jJ,bE,V.lo] using ih
def aim(h:i<l.length):bP aq 1 ((jJ l).drop i)=U (.int .u64 ((l.getD i 0#64).toNat:Nat)):=by
 have h' : i<(jJ l).length:=by rwa [Jc]
 rw[mb h'];simp only[bP];simp[jJ,List.getD,h]
def Vu(h:i<l.length):setAt (jJ l) i [.int .u64 (w.toNat:Nat)]=jJ (l.set i w):=by
 induction l generalizing i with
 | nil=>simp at h
 | cons a l ih =>
  cases i with
  | zero=>simp only[jJ,cQ,List.set_cons_zero,mT,yo,w7]
  | succ i=>simp only[da,Nat.add_lt_add_iff_right] at h;simp only[jJ,cQ,setAt,List.set_cons_succ] at ih ⊢;rw[ih h]
def Vq(h:i<l.length):cB 1 ((jJ l).drop i)=true:=by
 have h' : i<(jJ l).length:=by rwa [Jc]
 rw[mb h'];rfl
def Vo(h:l.length=n)(h' : m.length=n):hZ (aj n 1) (jJ l) (jJ m)=U (decide (l=m)):=by
 induction n generalizing l m with
 | zero=>obtain rfl:=m0.1 h;obtain rfl:=m0.1 h';rfl
 | succ n ih =>
  cases l with
  | nil=>simp at h
  | cons a l =>
   cases m with
   | nil=>simp at h'
   | cons b m =>
    simp only[jJ,cQ,FZ] at ih ⊢;rw[xR,ih (by simpa using h) (by simpa using h'),ve,FH,<-DQ];simp
def BW:∀{c:List V},takeN c.length c=U c
 | []=>rfl
 | x::c=>by rw[da,Sg,BW];rfl
variable{c:List V}
def Se{e:List V}(h:c.length=n):takeN n (c++e)=U c:=by
 subst h;induction c with
 | nil=>rfl
 | cons x c ih=>rw[da,gY,Sg,ih];rfl
def A':∀{c:List V},cB c.length c=aa
 | []=>rfl
 | x::c=>by rw[da,cB,A']
def rJ:∀{c e:List V},c.length=e.length->over c e=e
 | [],[],_=>rfl
 | x::c,y::e,h=>by rw[over,rJ (by simpa using h)]
 | [],_::_,h=>by simp at h
 | _::_,[],h=>by simp at h
end
structure Rl where
 n:Int
 up:List bz
 len:up.length=64
def Rl.ext'{a b:Rl}(h:a.n=b.n)(k:a.up=b.up):a=b:=by cases a;cases b;simp only at h k;subst h;subst k;rfl
instance:DecidableEq Rl:=λa b=>if h:a.n=b.n/\a.up=b.up then isTrue (Rl.ext' h.1 h.2) else isFalse λe=>h ⟨e▸rfl,e▸rfl⟩
def Rl.zero:Rl:=⟨0,aj 64 0#64,by simp⟩
def Rl.enc(r:Rl):List V:=.int .i64 r.n::jJ r.up
def Rl.get(r:Rl)(i:Nat):bz:=r.up.getD i 0#64
def Rl.put(r:Rl)(i:Nat)(w:bz):Rl:=⟨r.n,r.up.set i w,by simp[r.len]⟩
def Rl.yw(r:Rl)(n:Int):Rl:=⟨n,r.up,r.len⟩
def Rl.of(n:Int)(f:Nat->bz):Rl:=⟨n,(bH 64).map f,by simp⟩
section
variable {r s:Rl} {i n m:Nat} {w:bz} {z:Int}
variable{j:Nat}
theorem Rl.Eo:(r.put i w).get j=if i=j/\i<64 then w else r.get j:=by
 simp only[Rl.get,Rl.put,List.getD,List.getElem?_set,r.len]
 by_cases h:i=j
 .subst h
  by_cases h2:i<64
  .grind
  .simp[h2,r.len]
 .simp[h]
variable{f:Nat->bz}
def Rl.rz(h:i<64):(Rl.of z f).get i=f i:=by simp[Rl.get,Rl.of,List.getD,h]
def Rl.ext(h:r.n=s.n)(k:∀i,i<64->r.get i=s.get i):r=s:=by
 refine Rl.ext' h (Tb (by rw[r.len,s.len]) λi h1 h2=>?_)
 have:=k i (by rw[r.len] at h1;exact h1)
 simpa [Rl.get,List.getD,h1,h2] using this
def Rl.dG:r.enc.length=65:=by simp[Rl.enc,Jc,r.len]
def Rl.iS:c8 r.enc=true:=by simp[Rl.enc,c8,V.one,Vt]
def Rl.dT:bK r.enc=true:=by simp[Rl.enc,bK,V.cS,Vs]
def Rl.dW:a9 r.enc=r.enc:=by simp[Rl.enc,a9,V.erase,Vp]
def Rl.bR:bE m r.enc=true:=by simp[Rl.enc,bE,V.lo,Vr]
def Rl.gI:takeN 65 r.enc=U r.enc:=by have:=BW (c:=r.enc);rwa [Rl.dG] at this
def Rl.jE:bP aa 65 r.enc=U (.agg r.enc):=by rw[Bu,Rl.gI];rfl
def Rl.jc:cB 65 r.enc=true:=by have:=A' (c:=r.enc);rwa [Rl.dG] at this
def Rl.iK:over s.enc r.enc=r.enc:=rJ (by rw[Rl.dG,Rl.dG])
def Rl.asI:setAt s.enc 0 r.enc=r.enc:=by rw[mT,Rl.iK]
theorem Rl.w9:bP aq 1 r.enc=U (.int .i64 r.n):=rfl
theorem Rl.asD:cB 1 r.enc=true:=rfl
def Rl.aam:setAt r.enc 0 [.int .i64 z]=(r.yw z).enc:=by rw[Rl.enc,mT,yo,w7];rfl
def Rl.asF:over r.enc [.int .i64 z]=(r.yw z).enc:=by rw[<-mT,Rl.aam]
theorem Rl.HS:l8=Rl.zero.enc:=by rfl
def Rl.sI:hZ K7 r.enc s.enc=U (decide (r=s)):=by
 show hZ (1::aj 64 1) (.int .i64 r.n::jJ r.up) (.int .i64 s.n::jJ s.up)=_;rw[xR,Vo r.len s.len,ve,<-DQ];congr 1;exact xM.2 ⟨λh=>Rl.ext' h.1 h.2,λh=>h▸⟨rfl,rfl⟩⟩
theorem Rl.zS:(Rl.of z f).n=z:=rfl
theorem Rl.SU:Rl.zero.yw z=Rl.of z λ_=>0#64:=by rfl
theorem Rl.fill:(Rl.of z λj=>if j<i then f j else 0#64).put i (f i)=Rl.of z λj=>if j<i+1 then f j else 0#64:=by
 refine Rl.ext rfl λk hk=>?_
 rw[Rl.Eo,Rl.rz hk,Rl.rz hk]
 grind
def Rl.yG(h:i<64):bP aq 1 (r.enc.drop (1+i))=U (.int .u64 ((r.get i).toNat:Nat)):=by rw[Mg,Rl.enc,FT,aim (by rw[r.len];exact h)];rfl
def Rl.yF(h:i<64):cB 1 (r.enc.drop (1+i))=true:=by rw[Mg,Rl.enc,FT,Vq (by rw[r.len];exact h)]
def Rl.yH(h:i<64):setAt r.enc (1+i) [.int .u64 (w.toNat:Nat)]=(r.put i w).enc:=by rw[Mg,Rl.enc,mz,Vu (by rw[r.len];exact h)];rfl
def Rl.al:=ag @Rl.dG <| ag @Rl.iS <| ag @Rl.dT <| ag @Rl.dW <| ag @Rl.bR <| ag @Rl.gI <| ag @Rl.jE <| ag @Rl.jc <| ag @Rl.iK <| ag @Rl.w9 <| ag @Rl.asD <| ag @Rl.asI <| ag @Rl.aam <| ag @Rl.asF <| ag @Rl.HS @Rl.sI
end
abbrev Mm:=Option (Nat × Bool)->List Nat->Nat->List (AO × List Nat)
abbrev cM:=Mm->Mm
def sl:List Nat->List X
 | []=>[]
 | a::l=>.s a::sl l
def zv:Nat->V
 | 0=>.int .i64 0
 | 1=>.aQ []
 | 2=>.bool aq
 | 3=>.int .u8 0
 | 4=>.int .u64 0
 | n+5=>.sl .aY n []
def sf:List (Nat × Nat × Nat)->List (Nat × Nat × X)
 | []=>[]
 | (a,b,c)::l=>(a,b,.s c)::sf l
def zl:List Nat->List V
 | []=>[]
 | a::l=>zv a::zl l
def wd(p:a_):cM:=λk g m n=>(⟨U n,p,g⟩,m)::k g [] (n+1)
def wu(d:Option Nat)(p:a_):cM:=λk g m n=>(⟨d,p,g⟩,m)::k g [] n
def wn(f:Nat->a_):cM
 | _,_,_,0=>[]
 | k,g,m,n+1=>(⟨U (n+1),f n,g⟩,m)::k g [] (n+2)
def wp(d:Option Nat)(f:Nat->a_):cM
 | _,_,_,0=>[]
 | k,g,m,n+1=>(⟨d,f n,g⟩,m)::k g [] (n+1)
def om(a:Nat):cM:=wd (.mv (.s a))
def oi(z:Int):cM:=wd (.mv (.c (.int .i64 z)))
def oz(i:Nat):cM:=wd (.mv (.c (zv i)))
def ob(p:BinOp)(a b:Nat):cM:=wd (.qB p (.s a) (.s b))
def oB(p:BinOp)(a:Nat)(z:Int):cM:=wd (.qB p (.s a) (.c (.int .i64 z)))
def ou(p:BinOp)(a:Nat)(z:Int):cM:=wd (.qB p (.s a) (.c (.int .u8 z)))
def oE(p:BinOp)(a b:Nat):cM:=wd (.vg p (.s a) (.s b))
def ol(i a:Nat):cM:=wd (.load aa i (.s a))
def oo(a:Nat):cM:=wd (.load aq 1 (.s a))
def ok(a:Nat):cM:=wd (.ym (.s a))
def of(i a:Nat):cM:=wd (.rq i (.s a))
def ov(i j a:Nat):cM:=wd (.xU aa j i (.s a))
def ow(i a:Nat):cM:=wd (.xU aq i 1 (.s a))
def oL(a:Nat):cM:=wd (.yj (.s a))
def oT(a:Nat):cM:=wd (.yk (.s a))
def oA(i a b:Nat):cM:=wd (.vP i (.s a) (.s b))
def oI(i a:Nat)(z:Int):cM:=wd (.vP i (.s a) (.c (.int .i64 z)))
def oS(a b:Nat):cM:=wd (.yg (.s a) (.s b))
def oe(a i:Nat):cM:=wd (.ext (.s a) i)
def oc(f:FuncId)(l:List X):cM:=wd (.call f l)
def oC(f:FuncId)(l:List Nat):cM:=wd (.call f (sl l))
def oO(q:OQ)(l:List Nat):cM:=wd (.own q (sl l))
def oK(a b c:Nat):cM:=wd (.BQ (.s a) (U (.s b)) (U (.s c)))
def oW(z:List Nat)(l:List (Nat × Nat × Nat)):cM:=wd (.build (zl z) (sf l))
def oG(z:List Nat)(l:List (Nat × Nat × X)):cM:=wd (.build (zl z) l)
def oM(l:List Nat):cM:=wd (.alloc (zl l))
def oY(z:List V)(l:List (Nat × Nat × X)):cM:=wd (.build z l)
def op(a b c:Nat):cM:=wd (.pick (.s a) (.s b) (.s c))
def oa(i a b:Nat):cM:=wd (.app i (.s a) (.s b))
def oy(a b:Nat):cM:=wd (.pick (.s a) (.s b) (.c (.bool aq)))
def on(a:Nat):cM:=wd (.not (.s a))
def oq(q:a_):cM:=wd (q)
def oP(m i a b:Nat):cM:=wd (.yf m i (.s a) (.s b))
def oQ(m i a:Nat)(z:Int):cM:=wd (.yf m i (.s a) (.c (.int .i64 z)))
def nm:cM:=wn λn=>.mv (.s n)
def nB(p:BinOp)(z:Int):cM:=wn λn=>.qB p (.s n) (.c (.int .i64 z))
def nu(p:BinOp)(z:Int):cM:=wn λn=>.qB p (.s n) (.c (.int .u8 z))
def nb(p:BinOp)(a:Nat):cM:=wn λn=>.qB p (.s a) (.s n)
def nE(p:BinOp)(a:Nat):cM:=wn λn=>.vg p (.s a) (.s n)
def nl(i:Nat):cM:=wn λn=>.load aa i (.s n)
def no:cM:=wn λn=>.load aq 1 (.s n)
def nk:cM:=wn λn=>.ym (.s n)
def nf(i:Nat):cM:=wn λn=>.rq i (.s n)
def nL:cM:=wn λn=>.yj (.s n)
def nT:cM:=wn λn=>.yk (.s n)
def nA(i a:Nat):cM:=wn λn=>.vP i (.s a) (.s n)
def nI(i:Nat)(z:Int):cM:=wn λn=>.vP i (.s n) (.c (.int .i64 z))
def nS(a:Nat):cM:=wn λn=>.yg (.s a) (.s n)
def nn:cM:=wn λn=>.not (.s n)
def nO(q:OQ):cM:=wn λn=>.own q [.s n]
def n1(i:Nat):cM:=wn λn=>.pd i [.s n]
def na(i a:Nat):cM:=wn λn=>.app i (.s a) (.s n)
def os(i a b:Nat):cM:=wu ah (.store i (.s a) (.s b))
def ot(d a:Nat):cM:=wu (U d) (.mv (.s a))
def oj(d:Nat)(z:Int):cM:=wu (U d) (.mv (.c (.int .i64 z)))
def oV(d:Nat)(v:V):cM:=wu (U d) (.mv (.c v))
def oU(d i:Nat):cM:=wu (U d) (.mv (.c (zv i)))
def ox(d i a:Nat):cM:=wu (U d) (.box i (.s a))
def oX(d i a:Nat):cM:=wu (U d) (.xI i (.s a))
def oZ(d:Nat)(l:List Nat):cM:=wu (U d) (.alloc (zl l))
def oR(d:Nat)(l:List V):cM:=wu (U d) (.alloc l)
def od(d:Option Nat)(q:a_):cM:=wu d (q)
def oN:cM:=wu ah (.mv (.c .any))
def o1(d:Nat):cM:=wp (U d) λn=>.mv (.s n)
def o2(i a:Nat):cM:=wp ah λn=>.store i (.s a) (.s n)
def fo(i a:Nat):cM:=λk=>of i a (no k)
def nF(i:Nat):cM:=λk=>nf i (no k)
def mk(a:Nat):cM:=λk=>om a (nk k)
def ic(a:Nat):cM:=λk=>om a (nB .add 1 (o1 a k))
def mM(l:List Nat):cM:=λk g _ n=>k g l n
def gA:cM
 | _,_,_,0=>[]
 | k,_,m,n+1=>(⟨U (n+1),.mv (.s n),ah⟩,m)::k (U (n+1,aa)) [] (n+2)
def gB:cM
 | _,_,_,0=>[]
 | k,_,m,n+1=>(⟨U (n+1),.mv (.s n),ah⟩,m)::k (U (n+1,aq)) [] (n+2)
def gZ:cM
 | k,U (g,aa),m,n+1=>(⟨U (n+1),.pick (.s g) (.s n) (.c (.bool aq)),ah⟩,m)::k ah [] (n+2)
 | k,U (g,aq),m,n+1=>(⟨U (n+1),.pick (.s g) (.c (.bool aa)) (.s n),ah⟩,m)::k ah [] (n+2)
 | _,_,_,_=>[]
def og(g:Nat)(o:cM):cM:=λk h=>o (λ_=>k h) (U (g,aa))
def oh(g:Nat)(o:cM):cM:=λk h=>o (λ_=>k h) (U (g,aq))
def ru:List cM->Mm
 | []=>λ_ _ _=>[]
 | o::l=>o (ru l)
def fs:List (AO × List Nat)->List AO
 | []=>[]
 | x::l=>x.1::fs l
def rg(n:Nat)(l:List cM):AC:=.HU (fs (ru l ah [] n))
def dg(n:Nat)(l:List cM):AC:=.draw (ru l ah [] n)
def dA(n:Nat)(v:List Nat)(l:List cM):AC:=.I_ v (ru l ah [] n)
def rS(n:Nat)(l:List cM):List AO:=fs (ru l ah [] n)
def dH(n:Nat)(h:HI)(l:List cM):AC:=.hole (ru l ah [] n) h
def sq:List AC->AC
 | []=>.skip
 | [a]=>a
 | a::b::l=>.seq a (sq (b::l))
def cd(n:Nat)(a b:AC):AC:=.cond (.s n) a b
def ci(n:Nat)(a:AC):AC:=.cond (.s n) a .skip
def cx(n k:Nat):AC:=.cond (.s n) .skip (.exit k)
def bl(k:Nat)(a:AC):AC:=.block k (.loop a)
def cr(n m:Nat)(l:List cM):AC:=.cond (.s n) (.seq (.HU (fs (ru l ah [] m))) .ret) .skip
def lp(q k:Nat)(a:AC)(m:Nat):AC:=.block k (.loop (.seq (rg (q+2) [ob .lss (q+1) q]) (.seq (cx (q+2) k) (.seq (.block (k+1) a) (rg m [oB .add (q+1) 1,o1 (q+1)])))))
variable{P:Program}
def fU{f:FuncId}{x:AC}{rs:List RV}{n:Nat}{fn:Func}(h1:P.funcs[f]?=U fn)(h:Hint:={})(h2:(fn.name == "runtime.NumGoroutine",fn.body.bind (ib P h),By P fn.results.toList,fn.ntmps)=(aq,U x,U rs,n):=by kernel_rfl):fm P f x rs n:=by
 simp only[tY] at h2;exact⟨fn,h,h1,h2.1,h2.2.1,h2.2.2.1,h2.2.2.2⟩
def aT:=ag @sl.eq_1 <| ag @sl.eq_2 <| ag @zv.eq_1 <| ag @zv.eq_2 <| ag @zv.eq_3 <| ag @zv.eq_4 <| ag @zv.eq_5 <| ag @zv.eq_6 <| ag @zl.eq_1 <| ag @zl.eq_2 <| ag @wd.eq_1 <| ag @wu.eq_1 <| ag @wn.eq_2 <| ag @wp.eq_2 <| ag @om.eq_1 <| ag @oi.eq_1 <| ag @oz.eq_1 <| ag @ob.eq_1 <| ag @oB.eq_1 <| ag @ou.eq_1 <| ag @oE.eq_1 <| ag @ol.eq_1 <| ag @oo.eq_1 <| ag @ok.eq_1 <| ag @of.eq_1 <| ag @ov.eq_1 <| ag @ow.eq_1 <| ag @oL.eq_1 <| ag @oT.eq_1 <| ag @oA.eq_1 <| ag @oI.eq_1 <| ag @oS.eq_1 <| ag @oe.eq_1 <| ag @oc.eq_1 <| ag @oC.eq_1 <| ag @oO.eq_1 <| ag @oK.eq_1 <| ag @oW.eq_1 <| ag @oG.eq_1 <| ag @oM.eq_1 <| ag @sf.eq_1 <| ag @sf.eq_2 <| ag @oY.eq_1 <| ag @op.eq_1 <| ag @oa.eq_1 <| ag @oy.eq_1 <| ag @on.eq_1 <| ag @oq.eq_1 <| ag @oP.eq_1 <| ag @oQ.eq_1 <| ag @nm.eq_1 <| ag @nB.eq_1 <| ag @nu.eq_1 <| ag @nb.eq_1 <| ag @nE.eq_1 <| ag @nl.eq_1 <| ag @no.eq_1 <| ag @nk.eq_1 <| ag @nf.eq_1 <| ag @nL.eq_1 <| ag @nT.eq_1 <| ag @nA.eq_1 <| ag @nI.eq_1 <| ag @nS.eq_1 <| ag @nn.eq_1 <| ag @nO.eq_1 <| ag @n1.eq_1 <| ag @na.eq_1 <| ag @os.eq_1 <| ag @ot.eq_1 <| ag @oj.eq_1 <| ag @oV.eq_1 <| ag @oU.eq_1 <| ag @ox.eq_1 <| ag @oX.eq_1 <| ag @oZ.eq_1 <| ag @oR.eq_1 <| ag @od.eq_1 <| ag @oN.eq_1 <| ag @o1.eq_1 <| ag @o2.eq_1 <| ag @fo.eq_1 <| ag @nF.eq_1 <| ag @mk.eq_1 <| ag @ic.eq_1 <| ag @mM.eq_1 <| ag @gA.eq_2 <| ag @gB.eq_2 <| ag @gZ.eq_1 <| ag @gZ.eq_2 <| ag @og.eq_1 <| ag @oh.eq_1 <| ag @ru.eq_1 <| ag @ru.eq_2 <| ag @fs.eq_1 <| ag @fs.eq_2 <| ag @rg.eq_1 <| ag @dg.eq_1 <| ag @dA.eq_1 <| ag @rS.eq_1 <| ag @dH.eq_1 <| ag @sq.eq_2 <| ag @sq.eq_3 <| ag @cd.eq_1 <| ag @ci.eq_1 <| ag @cx.eq_1 <| ag @bl.eq_1 <| ag @cr.eq_1 @lp.eq_1
variable{Z:ab}
def fm.go{f:FuncId}{x:AC}{rs:List RV}{n:Nat}{args:List V}{R' : V->ab->Prop}{q:Prop}(h:fm P f x rs n)(g:q)(k:q->vc P x (Ce rs R') ⟨aP n args,[],Z⟩:=by intro z;simp only[aP,am,jo,cK,aT,Nat.reduceAdd,Nat.reduceEqDiff,bu,cX];exact z):cy P f args Z R' := h.fK (k g)
variable{c:List V}{ik:IntKind}{k:Nat}{m:List (List V)}
def ix{D:Tk}{n:Int}{K:V->Prop}(h:m[n.toNat]?=U c)(hk:K (.elt c 0))(h0:0<=n:=by omega):C6 k (.sl D k m) (.int ik n) K:=mG h0 h hk
variable{l:List (List V)}{t:List V}{v:V}
def rt{w:V}(h:v.erase=w:=by simp[V.erase,a9])(h1:v.cS=true:=by rfl):jS (λv σ' => v=w/\σ' = Z) ⟨t,l,Z⟩ v:=aI h h1
def ab.FB{a b c:ab}(h:a.sub b)(k:b.sub c):a.sub c:=⟨λx cs hx=>k.1 x cs (h.1 x cs hx),λx n hx=>k.2.1 x n (h.2.1 x n hx),λx n hx=>k.2.2 x n (h.2.2 x n hx)⟩
variable{E:Env}{σ':ab}
def Env.ok.df(h:E.ok Z)(ho:bp Z σ'):E.ok σ' := by
 refine⟨λb cs hb=>?_,λt n ht=>h.aS t n (ho.aS t n ht),h.fresh,h.nt,λb cs hc=>h.cI b cs (ho.cI b cs hc)⟩;obtain⟨ds,h1,h2⟩:=ho.box b cs hb;obtain⟨k1,k2⟩:=h.box b ds h1;exact⟨k1,k2.df h2⟩
def cy.le{f:FuncId}{as:List V}{S S' : ab}(h:cy P f as Z λv' σ' => v' = v/\σ' = S)(ho:bp S S'):cy P f as Z λv' σ' => v' = v/\σ' = S' :=
 ⟨h.1,λE vs h1 h2 h3=>(h.2 E vs h1 h2 h3).mono λ_ _ ⟨v',x,E',σ',a,b,c,d,e,f,g⟩=>⟨v',x,E',S',a,b,c,(g.2▸d).df ho,e,f,g.1,rfl⟩⟩
variable{b:Nat}
theorem bp.set{A B:List V}(h:c_ A B):bp (Z.set b A) (Z.set b B):=by
 refine⟨λx cs' hx=>?_,λ_ _ h=>h,λ_ _ h=>h⟩;simp only[ab.set] at hx ⊢
 by_cases e:x=b
 .grind
 .rw[aB e] at hx ⊢;exact⟨cs',hx,c_.rfl⟩
section
variable {Z:ab}
variable{H:V->ab->Prop}
def ao0{a b:Int}{k:IntKind}(hk:H (.int k (if b<a then b else a)) Z):OQ.bN Z H .min [.int k a,.int k b]:=⟨Kh,hk⟩
def aoW{a b:Int}{k:IntKind}(hk:H (.int k (if a<b then b else a)) Z):OQ.bN Z H .max [.int k a,.int k b]:=⟨Kh,hk⟩
variable{cs ds:List V}
def auy{g:Nat}(h:Z.box b=ah)(hg:Z.box g=U ds):(Z.set b cs).box g=U ds:=by rw[ab.fQ _ _ (by rintro rfl;rw[h] at hg;simp at hg)];exact hg
def jF(h:Z.box b=ah):Z.sub (Z.set b cs) :=
 ⟨λg ds hg=>auy h hg,λ_ _ h=>h,λ_ _ h=>h⟩
end
section
variable {P:Program} {a:AC} {Q:Exit->St->Prop} {st:St} {G:Type} {F:Nat->G->St} {J:Nat->G->Prop} {n:Nat}
def CI(n:Nat)(J:Nat->G->Prop):={p:Nat × G // p.1<=n/\J p.1 p.2}
def B4(F:Nat->G->St)(J:Nat->G->Prop)(n:Nat)(Q:Exit->St->Prop)(i:Nat):Exit->St->Prop :=
 B6 (ι:=CI n J) (λp=>F p.1.1 p.1.2) (λp=>n - p.1.1) Q (n - i)
def DR(F:Nat->G->St)(J:Nat->G->Prop)(st:St):Prop:=a7 st λaV => ∃x,J 0 x/\aV = F 0 x
def av6(n:Nat)(F:Nat->G->St)(J J' : Nat->G->Prop)(hJ:∀i x,J i x=J' i x)(h0:DR F J st)
 (hs:∀i x,i<n->J' i x->vc P a (B4 F J n Q i) (F i x)) (he:∀x,J' n x->vc P a (B4 F J n Q n) (F n x)):vc P (.loop a) Q st:=by
 refine ep (ι:=CI n J) (λp=>F p.1.1 p.1.2) (λp=>n - p.1.1) (a7.mono h0 ?_) ?_
 .rintro aV ⟨x,hx,rfl⟩;exact⟨⟨(0,x),Mj _,hx⟩,rfl⟩
 .rintro⟨⟨i,x⟩,hle,hx⟩
  rcases Cb i n with h | h
  .exact hs i x h ((hJ i x)▸hx)
  .have e:i=n:=Nat.le_antisymm hle h;subst e;exact he x ((hJ i x)▸hx)
variable{i:Nat}
theorem agC{id:Nat}:B4 F J n Q i (.exit id) st=Q (.exit id) st:=rfl
theorem agE:B4 F J n Q i .ret st=Q .ret st:=rfl
def Iq(F:Nat->G->St)(J:Nat->G->Prop)(n i:Nat)(st:St):Prop:=a7 st λaV => ∃j:CI n J,aV = F j.1.1 j.1.2/\n - j.1.1<n - i
theorem agD:B4 F J n Q i .normal st=Iq F J n i st:=rfl
def aK:=ag @agC <| ag @agE @agD
variable {t:List V} {l:List (List V)} {Z:ab}
def ent(x:G)(hx:J 0 x)(h:c_ t (F 0 x).t)(hl:bX l (F 0 x).au)(ho:bp Z (F 0 x).out):DR F J ⟨t,l,Z⟩ :=
 a7.df h hl ho ⟨x,hx,rfl⟩
def nxt(x:G)(hi:i<n)(hx:J (i+1) x)(h:c_ t (F (i+1) x).t)(hl:bX l (F (i+1) x).au)(ho:bp Z (F (i+1) x).out):Iq F J n i ⟨t,l,Z⟩ :=
 a7.df h hl ho ⟨⟨(i+1,x),hi,hx⟩,rfl,by simp only;omega⟩
def ch(n:Nat)(F0:Nat->G->St)(J0:Nat->G->Prop)
 (k:∀F:Nat->G->St,(∀i x,F i x=F0 i x)->∀J:Nat->G->Prop,(∀i x,J i x=J0 i x)->DR F J st/\(∀i x,i<n->J0 i x->vc P a (B4 F J n Q i) (F i x))/\∀x,J0 n x->vc P a (B4 F J n Q n) (F n x)):vc P (.loop a) Q st:=by
 obtain⟨F,hF⟩:∃F:Nat->G->St,∀i x,F i x=F0 i x:=⟨_,λ_ _=>rfl⟩;obtain⟨J,hJ⟩:∃J:Nat->G->Prop,∀i x,J i x=J0 i x:=⟨_,λ_ _=>rfl⟩;obtain⟨a1,a2,a3⟩:=k F hF J hJ;exact av6 n F J J0 hJ a1 a2 a3
def en{J' : Nat->G->Prop}(hJ:∀i x,J i x=J' i x)(x:G)(hx:J' 0 x)(h:c_ t (F 0 x).t:=by simp[hF,aj,am,ba])(hl:bX l (F 0 x).au:=by simp[hF,aj,am,ba])(ho:bp Z (F 0 x).out:=by simp[hF,aj,am,ba]):DR F J ⟨t,l,Z⟩ :=
 ent x ((hJ _ _).symm▸hx) h hl ho
def nx{J' : Nat->G->Prop}(hJ:∀i x,J i x=J' i x)(x:G)(hi:i<n)(hx:J' (i+1) x)(h:c_ t (F (i+1) x).t:=by simp[hF,aj,am,ba])(hl:bX l (F (i+1) x).au:=by simp[hF,aj,am,ba])(ho:bp Z (F (i+1) x).out:=by simp[hF,aj,am,ba]):Iq F J n i ⟨t,l,Z⟩ :=
 nxt x hi ((hJ _ _).symm▸hx) h hl ho
def c7(x:G)(hi:i<n)(hx:J (i+1) x)(h:c_ t (F (i+1) x).t)(hl:bX (l.take (F (i+1) x).au.length) (F (i+1) x).au)(ho:bp Z (F (i+1) x).out)(h1:bE (F (i+1) x).au.length (F (i+1) x).t=aa)(h2:cn (F (i+1) x).au.length (F (i+1) x).au=aa):Iq F J n i ⟨t,l,Z⟩ :=
 a7.Ee h hl ho h1 h2 ⟨⟨(i+1,x),hi,hx⟩,rfl,by simp only;omega⟩
structure Gr(dx Z:ab)(tk:Tk)(n:Nat):Prop where
 sub:dx.sub Z
 tk:tk = .aY\/∃D,tk = .tk D/\Z.aS D=U n/\dx.aS D=ah
def Gr.nil{Z:ab}:Gr Z Z .aY 0:=⟨ab.a8 _,.inl rfl⟩
theorem Gr.app{dx Z:ab}{tk u:Tk}{e:List (List V)}{K:V->ab->Prop}(h:Gr dx Z tk m.length)(hb:m.length+e.length<=aJ)
 (hk:∀gz σ',Gr dx σ' gz (m++e).length->σ'.box=Z.box->(∀D n,Z.aS D=U n->tk≠.tk D->σ'.aS D=U n)->K (.sl gz k (m++e)) σ'):sR Z k (.sl tk k m) (.sl u k e) K:=by
 have hl:(m++e).length=m.length+e.length:=bL
 rcases h.tk with rfl | ⟨D,rfl,ht,h0⟩
 .refine y6 hb λD hn=>hk _ _ ⟨⟨λb cs hc=>h.sub.1 b cs hc,λO n hu=>?_,h.sub.2.2⟩,.inr ⟨D,rfl,by rw[hl];exact R2,?_⟩⟩ rfl λO n hu _=>?_
  .have:=h.sub.2.1 O n hu
   rw[n_];exact this
   grind
  .cases hq:dx.aS D with
   | none=>rfl
   | some n=>have:=h.sub.2.1 D n hq;rw[hn] at this;simp at this
  .rw[n_];exact hu
   grind
 .refine fg hb ht (hk _ _ ⟨⟨λb cs hc=>h.sub.1 b cs hc,λO n hu=>?_,h.sub.2.2⟩,.inr ⟨D,rfl,by rw[hl];exact R2,h0⟩⟩ rfl λO n hu bf=>?_)
  .rw[n_];exact h.sub.2.1 O n hu
   grind
  .rw[n_];exact hu
   grind
def ba{l:List V}:c_ l l=True:=eq_true c_.rfl
theorem acg{G:Type}{l:List G}{p:G->Prop}(h:∀k∈l.take i,p k)(hi:i<l.length)(hk:p l[i]):∀k∈l.take (i+1),p k:=by
 rw[iB hi]
 grind
def V4{G β:Type}{f:β->G->β}{a:β}{l:List G}(hi:i<l.length):(l.take (i+1)).foldl f a=f ((l.take i).foldl f a) l[i]:=by rw[iB hi,B8];rfl
variable{j:Nat}
theorem kn{p:Nat->Prop}(h:∀k,k<j->p k)(hj:p j):∀k,k<j+1->p k:=λk hk=>by
 grind
def cf{i n:Nat}(h:i<n):decide ((i:Int)<(n:Nat))=true:=aG (by omega)
def ck{n:Nat}:decide ((n:Int)<(n:Nat))=false:=aD (by omega)
def bt{i n:Nat}(h:i<n)(hn:n<=9223372036854775807:=by omega):IntKind.i64.wrap ((i:Int)+1)=((i+1:Nat):Int):=by rw[wrap_i64 (by omega) (by omega)];rfl
end
def py(n b:Nat):V->V
 | .ptr (.au i) o=>if i=n then .ptr (.out b) o else if i<n then .ptr (.au i) o else .any
 | v=>if v.lo n=aa then v else .any
def Env.sH(E:Env)(n b:Nat):Env:={w:=E.w,bg:=λx=>if x=b then .sE else E.bg x,au:=λi=>if i<n then E.au i else ah,aS:=E.aS}
section
variable {E:Env} {n b:Nat}
theorem Q7(h2:E.bg b = .jZ n):Fr E (E.sH n b):=by
 have qI:∀x,x≠b->(E.sH n b).bg x=E.bg x:=λx hx=>by simp[Env.sH,hx]
 refine⟨rfl,rfl,rfl,bU _,λ_=>rfl,λb' o c hc hv=>?_,λt m h=>⟨m,h,bU _,λ_ b' c hr=>⟨?_,λcs e cO=>⟨cs,cO,rfl⟩⟩⟩,λb' _ hr=>⟨rfl,?_⟩,λb' _ h=>?_,λb' t c _ h=>?_,λb' i _ h=>?_,λ_ c _ h=>⟨c,h,rfl⟩⟩
 .have bf:b' ≠ b:=λe=>by rw[e,h2] at hc;exact hc
  exact⟨by rw[qI _ bf];exact hc,hv⟩
 .grind
 .grind
 .grind
 .by_cases e:b' = b
  .rw[e] at h;simp[Env.sH] at h
  .grind
 .grind
theorem aac(h1:E.au n=U b)(h2:E.bg b = .jZ n){x:V}{v:Value}(h:R E x v):R (E.sH n b) (py n b x) v:=by
 have Ol:∀{x:V},R E x v->R (E.sH n b) (if x.lo n=aa then x else .any) v:=λ{x} h=>by
  split
  .rename_i hl;have hc:=R.cut x hl h;refine R.mono x (E:=E.cut n) ⟨(Q7 h2).cell,λi c hc=>?_,(Q7 h2).tok⟩ hc;simp only[Env.cut] at hc;simp only[Env.sH];exact hc
  .simp only[R]
 unfold py;split
 .rename_i i o;simp only[R] at h;obtain⟨c,k1,k2⟩:=h;split
  .rename_i e;subst e;rw[h1] at k1;simp only[R];rw[k2];cases k1;rfl
  .split
   .rename_i az;simp only[R,Env.sH];exact⟨c,by rw[aL az];exact k1,k2⟩
   .simp only[R]
 .grind
def aad(h1:E.au n=U b)(h2:E.bg b = .jZ n):∀{l:List V} {vs:List Value},RL E l vs->RL (E.sH n b) (l.map (py n b)) vs
 | [],[],_=>by simp[RL]
 | [],_::_,h=>by simp[RL] at h
 | _::_,[],h=>by simp[RL] at h
 | x :: l, v :: vs, h => by
  simp only[RL,cQ] at h ⊢;exact⟨aac h1 h2 h.1,aad h1 h2 h.2⟩
end
variable{K:St->Prop}{cs:List V}
theorem a7.ar_(hn:bK cs=aa)
 (hk:∀b,Z.box b=ah->K ⟨t.map (py l.length b),l.map (List.map (py l.length b)),Z.set b cs⟩):a7 ⟨t,l++[cs],Z⟩ K:=by
 intro E a hs;obtain⟨b,h1,h2,h3⟩:=hs.dO.box l.length cs (by simp);have bC:=Q7 h2;have qI:∀x,x≠b->(E.sH l.length b).bg x=E.bg x:=λx hx=>by simp[Env.sH,hx]
 have JJ:Z.box b=none:=by
  cases hq:Z.box b with
  | none=>rfl
  | some ds=>have:=(hs.ok.box b ds hq).1;rw[h2] at this;simp at this
 have az:b<E.w.heap.size:=by obtain⟨c,e,k,_⟩:=h3;exact nX (w:=E.w) k
 refine⟨E.sH l.length b,⟨t.map (py l.length b),l.map (List.map (py l.length b)),Z.set b cs⟩,rfl,bC,⟨⟨λb' ds hd=>?_,hs.ok.aS,λb' cF => ?_,hs.ok.nt,λb cs hc=>fz.mono _ bC.nl (hs.ok.cI b cs hc)⟩,⟨λi ds hd=>?_,λi hi=>?_⟩,hs.defers,aad h1 h2 hs.slot⟩,hk b JJ⟩
 .by_cases e:b' = b
  .subst e;have hd:(Z.set b' cs).box b' = U ds:=hd;rw[j6] at hd;cases hd;refine⟨by simp[Env.sH],?_⟩;obtain⟨c,e,k1,k2,k3⟩:=h3;refine⟨c,e,k1,k2,λj x hx=>?_⟩;obtain⟨v,q1,q2⟩:=k3 j x hx;refine⟨v,q1,R.rI (E:=E) x (by rw[Env.apr];exact bC.nl) ?_ q2⟩
   have:∀{l:List V} {j:Nat} {x:V},bK l=aa->l[j]?=U x->x.cS=true:=by
    intro l;induction l with
    | nil=>intro j x _ h;simp at h
    | cons y ys ih =>
     intro j x hl h;simp only[bK,bO] at hl;cases j with
     | zero=>simp at h;rw[<-h];exact hl.1
     | succ j=>exact ih hl.2 (by simpa using h)
   grind
  .have hd:(Z.set b cs).box b' = U ds:=hd;rw[sL e] at hd;obtain⟨k1,k2⟩:=hs.ok.box b' ds hd;exact⟨by rw[qI _ e];exact k1,k2.mono bC.nl rfl⟩
 .have cF : E.w.heap.size<=b' := cF;rw[qI b' (by omega)];exact hs.ok.fresh b' cF
 .have hd:(l.map (List.map (py l.length b)))[i]?=U ds:=hd;simp only[AD,ec] at hd;obtain⟨Vf,JS,rfl⟩:=hd;have hi:i<l.length:=(kG.1 JS).1;obtain⟨bi,k1,k2,c,e,k3,k4,k5⟩:=hs.dO.box i Vf (by rw[B9 hi];exact JS);have bf:bi≠b:=λe=>by rw[e,h2] at k2;simp at k2;omega
  refine⟨bi,by simp[Env.sH,hi,k1],by rw[qI _ bf];exact k2,c,e,k3,by simpa using k4,λj x hx=>?_⟩;simp only[AD,ec] at hx;obtain⟨x0,Kf,rfl⟩:=hx;obtain⟨v,q1,q2⟩:=k5 j x0 Kf;exact⟨v,q1,aac h1 h2 q2⟩
 .have hi:l.length<=i:=by grind
  simp only[Env.sH];rw[aB (by omega)]
section
variable {n b i o:Nat} {k:IntKind} {z:Int} {q:Bool} {s:List UInt8} {D:Tk} {m:List (List V)} {c:List V}
theorem ar2:py n b .any = .any:=by rfl
theorem ar5:py n b (.int k z) = .int k z:=by rfl
theorem ar3:py n b (.bool q) = .bool q:=by rfl
theorem ar9:py n b (.aQ s) = .aQ s:=by rfl
theorem ar8:py n b (.sl D i m) = .sl D i m:=by rfl
theorem ar7:py n b (.ptr (.out i) o) = .ptr (.out i) o:=by rfl
theorem ar4:py n b (.elt c o) = .elt c o:=by rfl
theorem ar6:py n b (.ptr (.au i) o)=if i=n then .ptr (.out b) o else if i<n then .ptr (.au i) o else .any:=rfl
theorem ar1:py n b (.agg c)=if bE n c=aa then .agg c else .any:=rfl
theorem aae:∀{l:List V},bE n l=aa->bK l=aa->l.map (py n b)=l
 | [],_,_=>rfl
 | x :: l, h1, h2 => by
  simp only[bE,bK,bO] at h1 h2;rw[cQ,aae h1.2 h2.2];congr 1;unfold py;split
  .simp[V.cS] at h2
  .grind
def amp:=ag @ar2 <| ag @ar5 <| ag @ar3 <| ag @ar9 <| ag @ar8 <| ag @ar7 <| ag @ar4 <| ag @ar6 @ar1
end
variable{H:V->ab->Prop}
def fI.mk1(hv:Br k [v]=U [c])(hl:c.length=k)(hn:bK c=aa)
 (hk:∀v' σ',fI σ' k v' [c]->sT Z σ' v' -> H v' σ'):OQ.bN Z H (.new k) [v]:=by
 refine⟨[c],hv,by simpa using hn,λb hb=>hk _ _ ⟨_,1,rfl,bU _,by simpa using hl,.inr ⟨b,c,rfl,by simp[j6],by simpa using hl,by simp[yQ,hl]⟩⟩ ⟨?_,?_⟩⟩
 .simpa using jF (cs:=c) hb
 .intro b' cF;simp only[tH,bq] at cF;subst cF;exact hb
variable{ys:List V}
def RZ{xs:List V}{n:Nat}(h:n+c.length<=ys.length):setAt (xs++ys) (xs.length+n) c=xs++setAt ys n c:=by
 induction xs with
 | nil=>simp
 | cons x xs ih=>rw[gY,da,show xs.length+1+n=(xs.length+n)+1 by omega,mz,ih];rfl
def KU{xs:List V}(h:c.length<=xs.length):over (xs++ys) c=over xs c++ys:=by
 induction xs generalizing c with
 | nil=>have:c=[]:=xx (by simpa using h);subst this;simp[w7]
 | cons x xs ih =>
  cases c with
  | nil=>rw[w7,w7]
  | cons d c=>rw[gY,yo,yo,ih (by simpa using h)];rfl
def auq{xs:List V}{n:Nat}(h:n+c.length<=xs.length):setAt (xs++ys) n c=setAt xs n c++ys:=by
 induction xs generalizing n with
 | nil =>
  have h' : n+c.length<=0:=h;obtain rfl:c=[]:=xx (by omega);obtain rfl:n=0:=by omega
  rw[mT,mT,w7,w7]
 | cons x xs ih =>
  cases n with
  | zero=>rw[mT,mT,KU (by simpa using h)]
  | succ n=>rw[gY,mz,mz,ih (by simp at h;omega)];rfl
theorem abN{xs:List V}{n:Nat}(h:n+c.length<=xs.length):(setAt xs n c).length=xs.length:=by
 induction xs generalizing n with
 | nil=>cases n<;>rfl
 | cons x xs ih =>
  cases n with
  | zero =>
   rw[mT];clear ih
   have:∀{xs c:List V},c.length<=xs.length->(over xs c).length=xs.length:=by
    intro xs;induction xs with
    | nil=>intro c h;cases c with | nil=>rfl | cons d c=>simp at h
    | cons x xs ih=>intro c h;cases c with | nil=>rw[w7] | cons d c=>rw[yo,da,da,ih (by simpa using h)]
   grind
  | succ n=>rw[mz,da,da,ih (by simp at h;omega)]
variable{j off:Nat}
theorem fI.put{rows:List (List V)}{x:List V}(h:fI Z k v rows)(hj:rows[j]?=U c)(hb:tH v=U b)(hc:Z.box b=U cs)(ho:off+x.length<=k):
 fI (Z.set b (setAt cs (j*k+off) x)) k v (rows.set j (setAt c off x))/\Mo Z v (Z.set b (setAt cs (j*k+off) x)) v:=by
 obtain⟨a,cap,rfl,h1,h2,h3⟩:=h;have az:=(kG.1 hj).1;have jh:c.length=k:=h2 c (yP hj)
 rcases h3 with h3 | ⟨b',cs',rfl,h4,h5,h6⟩
 .omega
 .simp only[tH,bq] at hb;subst hb;rw[h4] at hc;cases hc;have nD:=pP h2;have e1:cs=rows.flatten++cs.drop (rows.length*k):=by rw[<-h6];simp
  have e2:rows=rows.take j++c::rows.drop (j+1):=by rw[<-(kG.1 hj).2,<-mb az,u_]
  have CD:(rows.take j).flatten.length=j*k:=by
   have:=pP (l:=rows.take j) (k:=k) λr hr=>h2 r (B' hr)
   grind
  have e3:rows.flatten=(rows.take j).flatten++(c++(rows.drop (j+1)).flatten):=by grind
  have e4:setAt cs (j*k+off) x=(rows.set j (setAt c off x)).flatten++cs.drop (rows.length*k):=by
   have hs:rows.set j (setAt c off x)=rows.take j++setAt c off x::rows.drop (j+1):=by rw[List.set_eq_take_append_cons_drop,aL az]
   conv=>lhs;rw[e1,e3]
   rw[eY,<-CD,RZ (by simp[jh];omega),eY,auq (by omega),hs,u0,lj];simp only[eY]
  have rC:∀r∈rows.set j (setAt c off x),r.length=k:=λr hr=>by
   rcases List.mem_or_eq_of_mem_set hr with hr | rfl
   .exact h2 r hr
   .rw[abN (by omega),jh]
  have alN:=pP rC;refine⟨⟨_,cap,by rw[List.length_set],by rw[List.length_set];exact h1,rC,.inr ⟨b',_,rfl,j6,?_,?_⟩⟩,λc' ds hd bf=>?_,rfl,λ_ h=>.inl h,rfl⟩
  .have:(setAt cs (j*k+off) x).length=cs.length:=abN (by
    rw[h5]
    have:(j+1)*k<=cap*k:=va _ (by omega)
    rw[lH] at this;omega)
   rw[this,h5]
  .rw[e4,<-alN,List.take_left]
  .have:c' ≠ b' := λe=>bf (by rw[e];rfl)
   rw[sL this];exact hd
def bm(r:Rl):Nat:=min r.n.toNat 64
def jm(r:Rl)(i:Nat):bz:=r.get i&&&jT (bm r:Nat)
def bD(r:Rl)(i j:Nat):Bool:=decide (i<bm r)&&(jm r i).getLsbD j
def mO(r:Rl):Rl:=Rl.of (bm r:Nat) λi=>if i<bm r then jm r i else 0#64
section
variable {r s:Rl} {i j k:Nat}
def j1:bm r<=64:=Nat.min_le_right _ _
theorem RB:(jm r i).getLsbD j=((r.get i).getLsbD j&&decide (j<bm r)):=by
 rw[jm,uX,y7]
 grind
def CV:bD r i j=(decide (i<bm r)&&(decide (j<bm r)&&(r.get i).getLsbD j)):=by rw[bD,RB,Bool.and_comm (BitVec.getLsbD _ _)]
def mo(h:bD r i j=aa):i<bm r/\j<bm r:=by rw[CV] at h;simp only[bO,cU] at h;exact⟨h.1,h.2.1⟩
variable{f:Nat->bz}
def aqt{n:Nat}(h:n<=64):bm (Rl.of (n:Nat) f)=n:=by simp only[bm,Rl.of];omega
def KZ:bm (mO r)=bm r:=aqt j1
def HM(h:i<64):(mO r).get i=if i<bm r then jm r i else 0#64:=Rl.rz h
def arK(h:i<bm r):(mO r).get i=jm r i:=by rw[HM (wa h j1),aL h]
def Z0:bD (mO r) i j=bD r i j:=by
 by_cases h:i<bm r
 .rw[CV,KZ,arK h,RB,CV];cases decide (i<bm r)<;>cases decide (j<bm r)<;>simp
 .rw[bD,bD,KZ];simp[h]
def Z1:mO r=mO s↔bm r=bm s/\∀i j,bD r i j=bD s i j:=by
 constructor
 .intro h;exact⟨by rw[<-KZ (r:=r),h,KZ],λi j=>by rw[<-Z0 (r:=r),h,Z0]⟩
 .rintro⟨h1,h2⟩;refine Rl.ext (by simp only[mO,Rl.of,h1]) λi hi=>?_
  rw[HM hi,HM hi,h1];split
  .rename_i h;apply pO;intro j _
   have:=h2 i j
   rwa [bD,bD,h1,aG h,lh,lh] at this
  .rfl
def Vl(h:bm r=0):mO r=Rl.of 0 λ_=>0#64:=by
 refine Rl.ext (by simp[mO,Rl.of,h]) λi hi=>?_
 rw[HM hi,h,aB (by omega),Rl.rz hi]
inductive kl(r:Rl)(i:Nat):Nat->Prop
 | refl (h:i<bm r):kl r i i
 | tail {j k:Nat} (h:kl r i j) (hs:bD r j k=aa):kl r i k
def kl.lt(h:kl r i j):i<bm r/\j<bm r:=by
 induction h with
 | refl h=>exact⟨h,h⟩
 | tail _ hs ih=>exact⟨ih.1,(mo hs).2⟩
def kl.trans(h:kl r i j)(h' : kl r j k):kl r i k:=by
 induction h' with
 | refl _=>exact h
 | tail _ hs ih=>exact ih.tail hs
def kl.one(h:bD r i j=aa):kl r i j:=(kl.refl (mo h).1).tail h
def ud(r:Rl):Rl:=Rl.of (bm r:Nat) λi=>if i<bm r then la (jm r i) (i:Nat) else 0#64
def Ac(k:Nat)(o:Rl)(i:Nat):Rl:=if hasB (o.get i) (k:Nat) then o.put i (o.get i|||o.get k) else o
def mH(n k:Nat)(o:Rl):Rl:=(bH n).foldl (Ac k) o
def kN(r:Rl):Rl:=(bH (bm r)).foldl (λo k=>mH (bm r) k o) (ud r)
variable{w:bz}
theorem JH:hasB w (k:Nat)=w.getLsbD k:=by rfl
variable{G:Type}
def A2{f:G->Nat->G}{a:G}{n:Nat}:(bH (n+1)).foldl f a=f ((bH n).foldl f a) n:=by rw[il,B8];rfl
theorem asa:(r.put i w).n=r.n:=rfl
def amB{n:Nat}{o:Rl}:(mH n k o).n=o.n:=by
 unfold mH;induction n with
 | zero=>rfl
 | succ n ih=>rw[A2,Ac];split<;>simp[asa,ih]
theorem XO{o:Rl}{n:Nat}(h:n<=64):(mH n k o).get i=if i<n/\(o.get i).getLsbD k=aa then o.get i|||o.get k else o.get i:=by
 induction n generalizing i with
 | zero=>simp[mH]
 | succ n Pd =>
  have ih:=λi=>@Pd i (by omega)
  have hk:(mH n k o).get k=o.get k:=by grind
  have e:mH (n+1) k o=Ac k (mH n k o) n:=A2;rw[e,Ac,JH]
  by_cases hi:i=n
  .subst hi;have hii:(mH i k o).get i=o.get i:=by grind
   rw[hii,hk];split
   .rename_i hb;rw[Rl.Eo,aL ⟨rfl,by omega⟩,aL ⟨by omega,hb⟩]
   .grind
  .have bf:(if ((mH n k o).get n).getLsbD k=aa then(mH n k o).put n ((mH n k o).get n|||(mH n k o).get k) else mH n k o).get i=(mH n k o).get i:=by
    split
    .rw[Rl.Eo,aB (by omega)]
    .rfl
   grind
def nZ(r:Rl)(m:Nat):Rl:=(bH m).foldl (λo k=>mH (bm r) k o) (ud r)
def KT{m:Nat}:nZ r (m+1)=mH (bm r) m (nZ r m):=A2
def KS{m:Nat}:(nZ r m).n=(bm r:Nat):=by
 induction m with
 | zero=>rfl
 | succ m ih=>rw[KT,amB,ih]
def HH{m:Nat}(hi:i<bm r):((nZ r (m+1)).get i).getLsbD j=(((nZ r m).get i).getLsbD j||(((nZ r m).get i).getLsbD m&&((nZ r m).get m).getLsbD j)):=by
 rw[KT,XO j1];cases hq:((nZ r m).get i).getLsbD m with
 | false=>simp
 | true=>simp[hi]
theorem UE(hi:i<bm r):((ud r).get i).getLsbD j=(bD r i j||decide (j=i)):=by
 have fL : i<64:=wa hi j1;rw[ud,Rl.rz fL,aL hi,LL,bD,aG hi,lh]
 grind
def ZA{m:Nat}(h:bm r<=i)(hi:i<64):(nZ r m).get i=0#64:=by
 induction m with
 | zero=>rw[nZ];simp only[List.range_zero,Td,ud];rw[Rl.rz hi,aB (by omega)]
 | succ m ih=>rw[KT,XO j1,aB (by omega),ih]
theorem aq1{m:Nat}(hm:m<=bm r)(hi:i<bm r):∀{j:Nat},((nZ r m).get i).getLsbD j=aa->kl r i j:=by
 induction m generalizing i with
 | zero =>
  intro j h;have h:((ud r).get i).getLsbD j=true:=h;rw[UE hi,qx,cU] at h
  rcases h with h | rfl
  .exact kl.one h
  .exact kl.refl hi
 | succ m ih =>
  intro j h;rw[HH hi,qx,bO] at h
  rcases h with h | ⟨h1,h2⟩
  .grind
  .exact(ih (by omega) hi h1).trans (ih (by omega) (by omega) h2)
def QV{m:Nat}(hi:i<bm r)(h:bD r i j=aa\/j=i):((nZ r m).get i).getLsbD j=true:=by
 induction m with
 | zero=>show((ud r).get i).getLsbD j=aa;rw[UE hi];simpa using h
 | succ m ih=>rw[HH hi,ih];rfl
theorem aq2{m:Nat}(hm:m<=bm r):∀{i k j:Nat},i<bm r->k<m->((nZ r m).get i).getLsbD k=aa->((nZ r m).get k).getLsbD j=aa->((nZ r m).get i).getLsbD j=true:=by
 induction m with
 | zero=>intro i k j _ h;omega
 | succ m ih =>
  intro i k j hi hk h1 h2;have ih:=@ih (by omega);have J4:((nZ r m).get m).getLsbD m=true:=QV (by omega) (.inr rfl);rw[HH hi] at h1;rw[HH (by omega)] at h2;rw[HH hi]
  grind
def D_(hi:i<bm r):((kN r).get i).getLsbD j=aa↔kl r i j:=by
 show((nZ r (bm r)).get i).getLsbD j=aa↔_;constructor
 .exact aq1 (bU _) hi
 .intro h;induction h with
  | refl h=>exact QV h (.inr rfl)
  | tail h hs ih=>exact aq2 (bU _) hi h.lt.2 ih (QV h.lt.2 (.inl hs))
theorem af'{o:Rl}(hn:o.n=(bm r:Nat))(h:∀i,i<bm r->∀j,(o.get i).getLsbD j=aa↔kl r i j)(h0:∀i,bm r<=i->i<64->o.get i=0#64):o=kN r:=by
 refine Rl.ext (hn.trans KS.symm) λi hi=>?_
 by_cases az:i<bm r
 .apply pO;intro j _;have h1:=h i az j;rw[<-D_ az] at h1
  grind
 .rw[h0 i (by omega) hi];exact(ZA (by omega) hi).symm
def Gf:bm (kN r)=bm r:=by
 have:(kN r).n=(bm r:Nat):=KS
 rw[bm,this];have:=@j1 r;omega
def MN:bD (kN r) i j=aa↔kl r i j:=by
 rw[CV,Gf];constructor
 .intro h;simp only[bO,cU] at h;exact(D_ h.1).1 h.2.2
 .intro h
  have:=h.lt
  rw[aG this.1,aG this.2,(D_ this.1).2 h];rfl
def UF:mO (kN r)=kN r:=by
 refine Rl.ext ?_ λi hi=>?_
 .show((bm (kN r):Nat):Int)=_;rw[Gf];exact KS.symm
 .rw[HM hi,Gf];split
  .rename_i az;apply pO;intro j _;rw[RB,Gf];cases hq:((kN r).get i).getLsbD j with
   | false=>rfl
   | true=>rw[aG ((D_ az).1 hq).lt.2];rfl
  .exact(ZA (by omega) hi).symm
def wm(r:Rl):Bool:=decide (mO r=kN r)
def agf:wm r=aa↔(∀i,i<bm r->bD r i i=aa)/\∀i j k,bD r i j=aa->bD r j k=aa->bD r i k=true:=by
 rw[wm,Cm,<-UF,Z1];constructor
 .rintro⟨_,h⟩;refine⟨λi hi=>?_,λi j k h1 h2=>?_⟩
  .rw[h,MN];exact kl.refl hi
  .rw[h,MN] at h1 h2 ⊢;exact h1.trans h2
 .rintro⟨h1,h2⟩;refine⟨Gf.symm,λi j=>?_⟩;rw[tW,MN];refine⟨kl.one,λh=>?_⟩;induction h with
  | refl h=>exact h1 _ h
  | tail _ hs ih=>exact h2 _ _ _ ih hs
def xm(r:Rl)(w:bz):bz:=(iu (w&&&jT (bm r:Nat))).foldl (λo i=>o|||jm r i) 0#64
def Jm{f:Nat->bz}:∀{l:List Nat} {o:bz},(l.foldl (λo i=>o|||f i) o).getLsbD j=(o.getLsbD j||l.any λi=>(f i).getLsbD j)
 | [],o=>by simp
 | a::l,o=>by rw[AA,Jm,SV,List.any_cons,Bool.or_assoc]
theorem So:(xm r w).getLsbD j=aa↔∃i,w.getLsbD i=aa/\bD r i j=true:=by
 rw[xm,Jm];simp only[SX,yK,xu,Qx,uX,bO,y7,cU];constructor
 .rintro⟨i,⟨h1,_,h2⟩,h3⟩;exact⟨i,h1,by rw[bD,h3,aG (by omega)];rfl⟩
 .rintro⟨i,h1,h2⟩
  have:=(mo h2).1;have:=@j1 r
  rw[bD,bO] at h2
  grind
def AU(r:Rl)(w:bz):bz:=(bH (bm r)).foldl (λo i=>if jm r i&&&w=0#64 then o else la o (i:Nat)) 0#64
theorem apf:w≠0#64↔∃j,w.getLsbD j=true:=by
 constructor
 .intro h;exact⟨_,(Ht h).2.1⟩
 .grind
theorem ahB{n:Nat}(h:n<=64):((bH n).foldl (λo i=>if jm r i&&&w=0#64 then o else la o (i:Nat)) 0#64).getLsbD i=aa↔i<n/\jm r i&&&w≠0#64:=by
 induction n with
 | zero=>simp
 | succ n Pd =>
  have ih:=Pd (by omega);rw[A2]
  by_cases hi:i=n
  .subst hi;split
   .grind
   .rename_i h0;rw[LL,aG (show i<64 by omega)];simp[h0]
  .split
   .grind
   .rw[LL,aD (p:=(i:Int)=(n:Nat)) (by omega),SZ,Bool.or_false,ih]
    grind
theorem M3:(AU r w).getLsbD i=aa↔∃j,w.getLsbD j=aa/\bD r i j=true:=by
 rw[AU,ahB j1,apf];simp only[uX,bO,bD,cU]
 grind
theorem Fe{i j:Nat}(h:i<64):(gq [(i:Int)]).getLsbD j=decide (j=i):=by
 rw[zR]
 grind
def aqu(h:i<bm r):gq (((bH (bm r)).filter (bD r i)).map Int.ofNat)=jm r i:=by
 apply pO;intro j hj;rw[zR,aG hj,lh,tW,Cm];simp only[AE,FW,qy,Iv];constructor
 .rintro⟨a,⟨h1,h2⟩,h3⟩;obtain rfl:a=j:=by omega
  rw[bD,bO] at h2;exact h2.2
 .intro h1
  have:bD r i j=true:=by rw[bD,h1,aG h];rfl
  exact⟨j,⟨(mo this).2,this⟩,rfl⟩
theorem Zp{l:List Nat}(hj:j<64):(gq (l.map Int.ofNat)).getLsbD j=aa↔j∈l:=by
 rw[zR,aG hj,lh,Cm]
 grind
def agb{l:List Nat}(hi:i<bm r)(h:∀j,j∈l↔kl r i j):gq (l.map Int.ofNat)=(kN r).get i:=by
 apply pO;intro j hj;rw[tW,Zp hj,h,D_ hi]
def aga:(Rl.of (bm r:Nat) λj=>if j<bm r then(kN r).get j else 0#64)=kN r:=by
 refine af' rfl (λi hi j=>?_) λi h1 h2=>?_
 .rw[Rl.rz (wa hi j1),aL hi,D_ hi]
 .rw[Rl.rz h2,aB (by omega)]
theorem QH:∀{n:Nat} {l:List Nat},l.Nodup->(∀x∈l,x<n)->l.length<=n
 | 0, l, _, h => by
  cases l with
  | nil=>simp
  | cons a l=>have:=h a (by simp);omega
 | n + 1, l, hd, h => by
  by_cases hn:n∈l
  .have:=QH (n:=n) (hd.erase n) λx hx=>by
    grind
   grind
  .have:=QH (n:=n) hd λx hx=>by
    grind
   omega
def Dl(r:Rl)(i:Nat):bz:=xm r (gq [(i:Int)])&&&AU r (gq [(i:Int)])
def wc(r:Rl):Bool:=(bH (bm r)).all λi=>(bH i).all λj=>!(bD r i j&&bD r j i)
def wY(r:Rl):Bool:=wm r&&wc r
theorem TO:wc r=aa↔∀i j,bD r i j=aa->bD r j i=aa->i=j:=by
 simp only[wc,ma,qy,v_,LW];constructor
 .intro h i j h1 h2
  have:=mo h1
  grind
 .grind
def Y6(hi:i<64):(Dl r i).getLsbD j=(bD r i j&&bD r j i):=by
 rw[Dl,uX,tW,bO,bO,So,M3];simp only[Fe hi,cU];simp
theorem Y7(hc:wm r=aa)(hi:i<bm r):Dl r i=gq [(i:Int)]↔∀j,bD r i j=aa->bD r j i=aa->j=i:=by
 have fL : i<64:=wa hi j1;have hr:=(agf.1 hc).1 i hi;constructor
 .intro h j h1 h2
  have:=mf (λw:bz=>w.getLsbD j) h
  simp only[Y6 fL,h1,h2,Fe fL,LX] at this
  grind
 .intro h;apply pO;intro j _;rw[Y6 fL,Fe fL]
  grind
def TP(hc:wm r=aa):wc r=aa↔∀i,i<bm r->Dl r i=gq [(i:Int)]:=by
 rw[TO];constructor
 .intro h i hi;exact(Y7 hc hi).2 λj h1 h2=>(h i j h1 h2).symm
 .intro h i j h1 h2;exact((Y7 hc (mo h1).1).1 (h i (mo h1).1) j h1 h2).symm
end
section
variable {r:Rl} {w a b:bz} {i j k n o p x y:Nat}
theorem find_congr{G:Type}{p q:G->Bool}:∀{l:List G},(∀x∈l,p x=q x)->l.find? p=l.find? q
 | [],_=>rfl
 | a :: l, h => by
  have h1:=h a (by simp);have h2:=find_congr (l:=l) λx hx=>h x (by simp[hx])
  grind
theorem find_range{p:Nat->Bool}{n m:Nat}(hp:∀u,p u=aa->u<n)(h:n<=m):(bH m).find? p=(bH n).find? p:=by
 induction m with
 | zero=>rw[show n=0 by omega]
 | succ m ih =>
  by_cases e:n=m+1
  .rw[e]
  .rw[il,DV,ih (by omega)]
   grind
def ajm{p q:Nat->Bool}:∀{l:List Nat},(l.filter p).find? q=l.find? λu=>p u&&q u
 | []=>rfl
 | a :: l => by
  simp
def AM(r:Rl)(i:Nat):bz:=xm r (gq [(i:Int)])
def sU(r:Rl)(i:Nat):bz:=if i<bm r then AU r (gq [(i:Int)]) else 0#64
theorem Mq:(AM r i).getLsbD j=bD r i j:=by
 rw[tW,AM,So];constructor
 .rintro⟨k,h1,h2⟩;rw[zR] at h1
  grind
 .intro h
  have:=(mo h).1;have:=@j1 r
  exact⟨i,by rw[Fe (by omega)];simp,h⟩
theorem Ul:(sU r i).getLsbD j=bD r j i:=by
 unfold sU;split
 .rename_i hi
  have:=@j1 r
  rw[tW,M3];constructor
  .rintro⟨k,h1,h2⟩;rw[Fe (by omega)] at h1
   grind
  .intro h;exact⟨i,by rw[Fe (by omega)];simp,h⟩
 .rename_i hi;cases h:bD r j i with
  | false=>simp
  | true=>exact absurd (mo h).2 hi
def Fa(f:Nat->bz)(i j:Nat):Option Nat:=(iu (f i&&&f j)).find? λu=>yz (f i&&&f j) (f u)
def sA(r:Rl)(i j:Nat):Option Nat:=Fa (AM r) i j
def tD(r:Rl)(i j:Nat):Option Nat:=Fa (sU r) i j
variable{f:Nat->bz}
theorem Zc{g:Nat->Nat->Bool}(hf:∀i j,(f i).getLsbD j=g i j)(hl:∀i j,g i j=aa->j<bm r):
 Fa f i j=(bH (bm r)).find? λu=>(g i u&&g j u)&&(bH (bm r)).all λv=>!(g i v&&g j v&&!g u v):=by
 rw[Fa,iu,ajm];have hg:∀u,(f i&&&f j).getLsbD u=(g i u&&g j u):=λu=>by rw[uX,hf,hf]
 have az:∀u,(g i u&&g j u)=aa->u<bm r:=λu h=>hl i u (bO _ _▸h).1
 have hq:∀u,yz (f i&&&f j) (f u)=(bH (bm r)).all λv=>!(g i v&&g j v&&!g u v):=λu=>by
  rw[tW,avo,ma]
  grind
 rw[find_range (n:=bm r) (λu hu=>az u (by rw[<-hg];exact(bO _ _▸hu).1)) j1]
 grind
def am2:sA r i j=(bH (bm r)).find? λu=>(bD r i u&&bD r j u)&&(bH (bm r)).all λv=>!(bD r i v&&bD r j v&&!bD r u v) :=
 Zc (λ_ _=>Mq) λ_ _ h=>(mo h).2
def aoY:tD r i j=(bH (bm r)).find? λu=>(bD r u i&&bD r u j)&&(bH (bm r)).all λv=>!(bD r v i&&bD r v j&&!bD r v u) :=
 Zc (g:=λi u=>bD r u i) (λ_ _=>Ul) λ_ _ h=>(mo h).1
def lU(r:Rl):Bool:=decide (1<=r.n)&&decide (r.n<=64)&&wY r&&(bH r.n.toNat).all λi=>(bH i).all λj=>(sA r i j).isSome&&(tD r i j).isSome
def Z7(r:Rl)(w:bz):Option Nat:=(bH (bm r)).find? λi=>decide (sU r i=w)
def asL(r:Rl)(a b:bz):bz :=
 match Z7 r a,Z7 r b with
 | some i,U j=>(match sA r i j with | some k=>sU r k | none=>a|||b)
 | _,_=>a|||b
def kT(r:Rl):Bool:=decide (1<=r.n)&&decide (r.n<=8)&&wm r
def xW(h:kT r=aa):∃n:Nat,r.n=n/\bm r=n/\1<=n/\n<=8:=by
 simp only[kT,bO,cU] at h;exact⟨r.n.toNat,by omega,by rw[bm];omega,by omega,by omega⟩
def HG(r:Rl)(w:bz)(o:Nat):bz:=(w>>>(8*o))&&&jT r.n
theorem aqZ:(HG r w o).getLsbD x=(w.getLsbD (8*o+x)&&decide ((x:Int)<r.n)):=by
 rw[HG,uX,adf,y7]
 grind
def yt(n:Nat)(f:Nat->bz):bz:=(bH n).foldl (λw o=>w|||(f o<<<(8*o))) 0#64
theorem aaR(hf:∀o x,(f o).getLsbD x=aa->x<8)(hk:k<64):(yt n f).getLsbD k=(decide (k / 8<n)&&(f (k / 8)).getLsbD (k % 8)):=by
 rw[yt,Jm (f:=λo=>f o<<<(8*o)),SX,yK,tW,xu]
 grind
def D9(r:Rl)(w:bz)(o:Nat):bz:=(iu (AM r o)).foldl (λs p=>s|||AU r (HG r w p)) 0#64
theorem UC:(D9 r w o).getLsbD x=aa↔∃p y,bD r o p=aa/\bD r x y=aa/\w.getLsbD (8*p+y)=aa/\(y:Int)<r.n:=by
 rw[D9,Jm,SX,yK,xu];simp only[Qx,Mq,M3,aqZ,bO,cU]
 grind
def wj(r:Rl)(w:bz):bz:=if kT r then yt r.n.toNat (D9 r w) else 0#64
theorem agd(hk:k<64):(wj r w).getLsbD k=aa↔kT r=aa/\∃p y,bD r (k / 8) p=aa/\bD r (k % 8) y=aa/\w.getLsbD (8*p+y)=true:=by
 unfold wj;split
 .rename_i hg;obtain⟨n,hn,hp,h1,h8⟩:=xW hg;rw[aaR (λo x hx=>by
   obtain⟨p,y,_,h,_⟩:=UC.1 hx
   have:=(mo h).1;omega) hk,bO,UC,cU]
  constructor
  .grind
  .rintro⟨_,p,y,a,b,c⟩
   have:=mo a;have:=mo b
   grind
 .grind
def wA(r:Rl)(w:bz)(o x:Nat):Bool:=(bH r.n.toNat).any λp=>(bH r.n.toNat).any λy=>w.getLsbD (8*p+y)&&(bD r o p&&bD r x y)
theorem V6(hg:kT r=aa):wA r w o x=aa↔∃p y,bD r o p=aa/\bD r x y=aa/\w.getLsbD (8*p+y)=true:=by
 obtain⟨n,hn,hp,h1,h8⟩:=xW hg;simp only[wA,xu,qy,bO];constructor
 .grind
 .rintro⟨p,y,a,b,c⟩
  have:=mo a;have:=mo b
  grind
def sJ(r:Rl)(w:bz)(o m:Nat):List Int:=((bH m).filter (wA r w o)).map λx=>((8*o+x:Nat):Int)
def pQ(r:Rl)(w:bz)(m:Nat):List Int:=(bH m).flatMap λo=>sJ r w o r.n.toNat
def WA{m:Nat}:pQ r w (m+1)=pQ r w m++sJ r w m r.n.toNat:=by simp only[pQ,il,rX,o7,L_,eC]
theorem Rz{m:Nat}:sJ r w o (m+1)=sJ r w o m++if wA r w o m then [((8*o+m:Nat):Int)] else []:=by
 simp only[sJ,il,DT,gm,DU,List.filter_nil]
 grind
def aaK{m:Nat}:(sJ r w o m).length<=m:=by
 have:=Tj (wA r w o) (bH m)
 simpa [sJ] using this
def Wz{m:Nat}:(pQ r w m).length<=m*r.n.toNat:=by
 induction m with
 | zero=>simp[pQ]
 | succ m ih =>
  have:=@aaK r w m r.n.toNat
  rw[WA,bL,lH,F4];omega
theorem alc(hg:kT r=aa):gq (pQ r w r.n.toNat)=wj r w:=by
 obtain⟨n,hn,hp,h1,h8⟩:=xW hg;apply pO;intro k hk;rw[tW,agd hk,zR,aG hk,lh,Cm];simp only[pQ,sJ,FX,qy,AE,FW,V6 hg,hg,qq];constructor
 .grind
 .rintro⟨p,y,a,b,c⟩
  have:=mo a;have:=mo b
  exact⟨k / 8,by omega,k % 8,⟨by omega,p,y,a,b,c⟩,by omega⟩
def uG(r:Rl)(d:bz):bz:=jT r.n&&&~~~xm r d
def uM(r:Rl)(o:Nat)(d:bz):bz:=if kT r&&decide ((o:Int)<r.n) then wj r (yt r.n.toNat λk=>if k=o then uG r d else 0#64) else 0#64
def wT(r:Rl)(d:bz)(x:Nat):Bool:=(bH r.n.toNat).any λy=>d.getLsbD y&&bD r y x
def rR(r:Rl)(o:Nat)(d:bz)(m:Nat):List Int:=((bH m).filter λx=>!wT r d x).map λx=>((8*o+x:Nat):Int)
def RF{d:bz}{m:Nat}:rR r o d (m+1)=rR r o d m++if wT r d m then [] else [((8*o+m:Nat):Int)]:=by
 simp only[rR,il,DT,gm,DU,List.filter_nil];cases wT r d m<;>rfl
def aa8{d:bz}{m:Nat}:(rR r o d m).length<=m:=by
 have:=Tj (λx=>!wT r d x) (bH m)
 simpa [rR] using this
theorem PW{d:bz}(hg:kT r=aa):(uG r d).getLsbD x=aa↔x<r.n.toNat/\wT r d x=false:=by
 obtain⟨n,hn,hp,h1,h8⟩:=xW hg;rw[uG,uX,BitVec.getLsbD_not,y7];have hm:(xm r d).getLsbD x=wT r d x:=by
  rw[tW,So];simp only[wT,xu,qy,bO];constructor
  .rintro⟨i,a,b⟩;exact⟨i,by have:=(mo b).1;omega,a,b⟩
  .grind
 grind
def atF{d:bz}(hg:kT r=aa)(ho:o<r.n.toNat):gq (rR r o d r.n.toNat)=yt r.n.toNat λk=>if k=o then uG r d else 0#64:=by
 obtain⟨n,hn,hp,h1,h8⟩:=xW hg;apply pO;intro k hk;rw[aaR (λo' x hx=>by
  split at hx
  .have:=(PW hg).1 hx;omega
  .simp at hx) hk,tW,zR,aG hk,lh,Cm,bO,Cm]
 simp only[rR,AE,FW,qy,v_];constructor
 .rintro⟨x,⟨h2,h3⟩,h4⟩;have e1:k / 8=o:=by omega
  have e2:k % 8=x:=by omega
  rw[e1,e2,aL rfl];exact⟨ho,(PW hg).2 ⟨h2,h3⟩⟩
 .rintro⟨h2,h3⟩;split at h3
  .rename_i e;obtain⟨h4,h5⟩:=(PW hg).1 h3;exact⟨k % 8,⟨h4,h5⟩,by omega⟩
  .simp at h3
def uN(n k:Int):bz × Bool:=if 1<=n/\n<=64/\0<=k/\k<n then(jT k,aa) else(0#64,aq)
end
def af.leaf(kind:Int)(r:af):Nd × af:=(.mk kind r.word.1.pos r.word.1.an [] [],r.word.2)
def af.rP(r:af):Nd × af :=
 (.mk 6 r.word.1.pos r.word.1.an ((r.word.2.take 58).2.words aa).1.1 [],((r.word.2.take 58).2.words aa).2)
def af.constant:Nat->af->Nd × af
 | 0,r=>r.leaf 2
 | n + 1, r =>
  if r.cH 123=aa then(.mk 3 (r.words aa).1.2 [] (r.words aa).1.1 [],(r.words aa).2)
  else if r.cH 40=aa then(.mk 4 (r.nodes (af.constant n) 40 aq).1.2 [] [] (r.nodes (af.constant n) 40 aq).1.1,(r.nodes (af.constant n) 40 aq).2)
  else if r.cH 91=aa then(.mk 5 (r.nodes af.rP 91 aa).1.2 [] [] (r.nodes af.rP 91 aa).1.1,(r.nodes af.rP 91 aa).2)
  else r.leaf 2
def af.atom(n:Nat)(r:af):Nd × af :=
 if r.cH 35=aa then(.mk 7 (r.take 35).1.tok.pos [] [] [(af.constant n (r.take 35).2).1],(af.constant n (r.take 35).2).2) else r.leaf 1
def af.label:Nat->af->Nd × af
 | 0,r=>r.leaf 1
 | n + 1, r =>
  if r.cH 43=aa then(.mk 8 (r.take 43).1.tok.pos [] [] ((r.take 43).2.nodes (af.label n) 40 aq).1.1,((r.take 43).2.nodes (af.label n) 40 aq).2)
  else if r.cH 38=aa then(.mk 9 (r.take 38).1.tok.pos [] [] ((r.take 38).2.nodes (af.label n) 40 aq).1.1,((r.take 38).2.nodes (af.label n) 40 aq).2)
  else r.atom (n+1)
def af.field(n:Nat)(r:af):Nd × af :=
 (.mk 11 r.word.1.pos r.word.1.an [] [((r.word.2.take 61).2.atom n).1],((r.word.2.take 61).2.atom n).2)
def mY(r r' : af):Prop:=r'.l=r.l/\(0<=r.at_->r.at_<=r.l.length->r.at_<=r'.at_/\r'.at_<=r.l.length/\(r'.aO=ah->r.at_+1<=r'.at_))
theorem mY.trans{a b c:af}(h:mY a b)(k:mY b c):mY a c:=by
 refine⟨k.1.trans h.1,λh1 h2=>?_⟩;obtain⟨p1,p2,p3⟩:=h.2 h1 h2;obtain⟨q1,q2,q3⟩:=k.2 (by omega) (by rw[h.1];exact p2);rw[h.1] at q2
 grind
theorem wB(r:af)(k:Int):mY r (r.take k).2:=by
 refine⟨r.gW k,λh1 h2=>?_⟩
 rcases r.xi k with ⟨_,e,_,h3,h4⟩ | ⟨_,e,hb⟩
 .omega
 .grind
def A4(r:af):mY r r.word.2:=wB r 97
def Gw(r:af)(k:Int):mY r (r.leaf k).2:=A4 r
variable{β:Type}
def Ws(step:af × List β->af × List β)(k:Int)(e:Bool)(r:af):mY r (r.bracket step k e).2:=by
 have h:=wB r k;unfold af.bracket;split
 .rename_i cw;have hb:(r.take k).2.aO=none:=by simpa [af.ok] using cw
  exact⟨h.1,λh1 h2=>by
   obtain⟨p1,p2,p3⟩:=h.2 h1 h2;exact⟨p1,p2,λ_=>p3 hb⟩⟩
 .exact h
def NJ(r:af)(e:Bool):mY r (r.words e).2:=Ws _ _ _ _
def Jx(r:af)(one:af->Nd × af)(k:Int)(e:Bool):mY r (r.nodes one k e).2:=Ws _ _ _ _
def Fo{one:af->Nd × af}(h:∀r,mY r (one r).2):Reads one:=⟨λr=>(h r).1,λr=>(h r).2⟩
def ak8(r:af):mY r r.rP.2:=((A4 r).trans (wB _ _)).trans (NJ _ _)
def Wt:∀(n:Nat) (r:af),mY r (af.constant n r).2
 | 0,r=>Gw r 2
 | n + 1, r => by
  simp only[af.constant];split
  .exact NJ r aa
  .split
   .exact Jx r _ 40 aq
   .split
    .exact Jx r _ 91 aa
    .exact Gw r 2
def Wr(n:Nat)(r:af):mY r (r.atom n).2:=by
 simp only[af.atom];split
 .exact(wB r 35).trans (Wt n _)
 .exact Gw r 1
def NI:∀(n:Nat) (r:af),mY r (af.label n r).2
 | 0,r=>Gw r 1
 | n + 1, r => by
  simp only[af.label];split
  .exact(wB r 43).trans (Jx _ _ 40 aq)
  .split
   .exact(wB r 38).trans (Jx _ _ 40 aq)
   .exact Wr (n+1) r
def Wu(n:Nat)(r:af):mY r (r.field n).2:=((A4 r).trans (wB _ _)).trans (Wr n _)
def af.qj(n:Nat)(i:af):(af × List Nd) × List aC :=
 let a:=if i.cH 124=aa then(i,[]) else fy (cV (af.field n)) i
 if a.1.cH 124=aa then(((a.1.take 124).2.word.2,a.2),[(a.1.take 124).2.word.1]) else(a,[])
def af.rowOf(n:Nat)(t:aA):(af × List Nd) × List aC:=if t.ae.length=0 then((t.inner,[]),[]) else t.inner.qj n
def af.row(n:Nat)(r:af):Nd × af :=
 if r.cH 91=aa then(.mk 10 (r.take 91).1.tok.pos [] (af.rowOf n (r.take 91).1).2 (af.rowOf n (r.take 91).1).1.2,(r.take 91).2.under (af.rowOf n (r.take 91).1).1.1) else r.leaf 1
def Nd.zero:Nd:=.mk 0 0 [] [] []
def gJ(one:af->Nd × af)(l:List aA)(at_ fin:Int):Nd × Int × Option Int :=
 match (one ⟨l,at_,fin,ah⟩).2.aO with
 | some b=>(.zero,0,U b)
 | none=>((one ⟨l,at_,fin,ah⟩).1,(one ⟨l,at_,fin,ah⟩).2.at_,ah)
def kE(l:List aA)(at_ fin:Int):List aC × Option Int :=
 match ((⟨l,at_,fin,ah⟩:af).words aq).2.aO with
 | some b=>([],U b)
 | none=>(((⟨l,at_,fin,ah⟩:af).words aq).1.1,ah)
structure bJ where
 node:Nd
 next:Int
 aO:Bool
 pos:Int
def bJ.enc(g:bJ):List V:=[.int .i64 g.node.kind,.int .i64 g.node.pos,.aQ g.node.an,.sl .no 2 (g.node.ak.map aC.enc),.sl .no 5 (g.node.ae.map Nd.enc),.int .i64 g.next,.bool g.aO,.int .i64 g.pos]
def kA(l:List aA)(at_ fin:Int):Int:=if 0<=at_ then(match l[at_.toNat]? with | some t=>t.tok.pos | none=>fin) else fin
def eB(l:List aA)(at_ fin:Int):bJ:=⟨.zero,0,aa,kA l at_ fin⟩
def gv(l:List aA)(at_:Int):Tok:=match l[at_.toNat]? with | some t=>t.tok | none=>⟨0,[],0⟩
def nameAt(l:List aA)(at_ fin:Int):bJ :=
 if bd l at_ 97=aa then ⟨.mk 0 (gv l at_).pos (gv l at_).an [] [],at_+1,aq,0⟩ else eB l at_ fin
def d_(one:Int->bJ)(l:List aA):Nat->Int->List Nd->List Nd × bJ
 | 0,_,_=>([],⟨.zero,0,aa,0⟩)
 | n + 1, at_, out =>
  if (one at_).aO=aa then([],one at_)
  else if bd l (one at_).next 44=aa then d_ one l n ((one at_).next+1) (out++[(one at_).node])
  else(out++[(one at_).node],one at_)
def wholeAt(one:List aA->Int->Int->bJ)(t:aA)(empty:Bool):List Nd × bJ :=
 if empty=aa/\t.ae.length=0 then([],⟨.zero,0,aq,0⟩)
 else
  let r:=d_ (λi=>one t.ae i t.fin) t.ae (t.ae.length+1) 0 []
  if r.2.aO=aq/\r.2.next<t.ae.length then([],eB t.ae r.2.next t.fin) else r
def lb(l:List Nd):List aC:=l.map λn=>⟨n.an,n.pos⟩
def bT(l:List aA)(at_:Int):aA:=match l[at_.toNat]? with | some t=>t | none=>.zero
def mP(l:List aA)(at_ fin:Int):List aC × bJ :=
 if bd l at_ 123=aa then(lb (wholeAt nameAt (bT l at_) aq).1,(wholeAt nameAt (bT l at_) aq).2) else([],eB l at_ fin)
def ab4{one:Int->bJ}{l:List aA}:∀(n:Nat) (a:Int) (out:List Nd),(d_ one l n a out).1.length<=out.length+n
 | 0,_,_=>by simp[d_]
 | n + 1, a, out => by
  simp only[d_];split
  .simp
  .split
   .have:=ab4 (one:=one) (l:=l) n ((one a).next+1) (out++[(one a).node])
    simp at this;omega
   .simp
theorem SD{one:List aA->Int->Int->bJ}(t:aA)(e:Bool):(wholeAt one t e).1.length<=t.ae.length+1:=by
 unfold wholeAt;split
 .simp
 .simp only;split
  .simp
  .have:=ab4 (one:=λi=>one t.ae i t.fin) (l:=t.ae) (t.ae.length+1) 0 []
   grind
theorem jC{l:List aA}{i k:Int}(h:bd l i k=aa):∃j t,i=(j:Nat)/\l[j]?=U t/\t.tok.kind=k/\j<l.length:=by
 simp only[bd,bO,cU] at h
 grind
def iN{l:List aA}{t:aA}(h:l[j]?=U t):(cE l)[((j:Nat):Int).toNat]?=U t.enc:=by simp[qD,h]
def gH{l:List Nd}{t:Nd}(h:l[j]?=U t):(l.map Nd.enc)[((j:Nat):Int).toNat]?=U t.enc:=by simp[h]
def o5{l:List aC}{t:aC}(h:l[j]?=U t):(l.map aC.enc)[((j:Nat):Int).toNat]?=U t.enc:=by simp[h]
variable{x:aA}
def aA.dG:x.enc.length=5:=by rw[dk];rfl
def aA.iS{x:aA}:c8 x.enc=true:=by rw[dk];rfl
def aA.dT{x:aA}:bK x.enc=true:=by rw[dk];rfl
def aA.dW{x:aA}:a9 x.enc=x.enc:=by rw[dk];rfl
def aA.gI:takeN 5 x.enc=U x.enc:=by rw[dk];rfl
def aA.jE:bP aa 5 x.enc=U (.agg x.enc):=by rw[dk];rfl
def aA.jc:cB 5 x.enc=true:=by rw[dk];rfl
variable{z0 z1:V}
def aA.iK{z2 z3 z4:V}:over [z0,z1,z2,z3,z4] x.enc=x.enc:=by rw[dk];rfl
def aA.bR{n:Nat}:bE n x.enc=true:=by rw[dk];rfl
def aA.al:=ag @aA.dG <| ag @aA.iS <| ag @aA.dT <| ag @aA.dW <| ag @aA.gI <| ag @aA.jE <| ag @aA.jc <| ag @aA.iK @aA.bR
def Nd.dG{x:Nd}:x.enc.length=5:=by rw[Nd.dk];rfl
def Nd.iS{x:Nd}:c8 x.enc=true:=by rw[Nd.dk];rfl
def Nd.dT{x:Nd}:bK x.enc=true:=by rw[Nd.dk];rfl
def Nd.dW{x:Nd}:a9 x.enc=x.enc:=by rw[Nd.dk];rfl
def Nd.gI{x:Nd}:takeN 5 x.enc=U x.enc:=by rw[Nd.dk];rfl
def Nd.jE{x:Nd}:bP aa 5 x.enc=U (.agg x.enc):=by rw[Nd.dk];rfl
def Nd.jc{x:Nd}:cB 5 x.enc=true:=by rw[Nd.dk];rfl
def Nd.iK{x:Nd}{z2 z3 z4:V}:over [z0,z1,z2,z3,z4] x.enc=x.enc:=by rw[Nd.dk];rfl
def Nd.bR{x:Nd}{n:Nat}:bE n x.enc=true:=by rw[Nd.dk];rfl
def Nd.al:=ag @Nd.dG <| ag @Nd.iS <| ag @Nd.dT <| ag @Nd.dW <| ag @Nd.gI <| ag @Nd.jE <| ag @Nd.jc <| ag @Nd.iK @Nd.bR
theorem aC.dG{x:aC}:x.enc.length=2:=by rfl
theorem aC.iS{x:aC}:c8 x.enc=true:=by rfl
theorem aC.dT{x:aC}:bK x.enc=true:=by rfl
theorem aC.dW{x:aC}:a9 x.enc=x.enc:=by rfl
theorem aC.gI{x:aC}:takeN 2 x.enc=U x.enc:=by rfl
theorem aC.jE{x:aC}:bP aa 2 x.enc=U (.agg x.enc):=by rfl
theorem aC.jc{x:aC}:cB 2 x.enc=true:=by rfl
theorem aC.iK{x:aC}:over [z0,z1] x.enc=x.enc:=by rfl
theorem aC.bR{x:aC}{n:Nat}:bE n x.enc=true:=by rfl
def aC.al:=ag @aC.dG <| ag @aC.iS <| ag @aC.dT <| ag @aC.dW <| ag @aC.gI <| ag @aC.jE <| ag @aC.jc <| ag @aC.iK @aC.bR
theorem bJ.dG{x:bJ}:x.enc.length=8:=by rfl
theorem bJ.iS{x:bJ}:c8 x.enc=true:=by rfl
theorem bJ.dT{x:bJ}:bK x.enc=true:=by rfl
theorem bJ.dW{x:bJ}:a9 x.enc=x.enc:=by rfl
theorem bJ.gI{x:bJ}:takeN 8 x.enc=U x.enc:=by rfl
theorem bJ.jE{x:bJ}:bP aa 8 x.enc=U (.agg x.enc):=by rfl
theorem bJ.jc{x:bJ}:cB 8 x.enc=true:=by rfl
theorem bJ.iK{x:bJ}{z2 z3 z4 z5 z6 z7:V}:over [z0,z1,z2,z3,z4,z5,z6,z7] x.enc=x.enc:=by rfl
theorem bJ.bR{x:bJ}{n:Nat}:bE n x.enc=true:=by rfl
def bJ.al:=ag @bJ.dG <| ag @bJ.iS <| ag @bJ.dT <| ag @bJ.dW <| ag @bJ.gI <| ag @bJ.jE <| ag @bJ.jc <| ag @bJ.iK @bJ.bR
def Nd.x1{r:Nd}:r.enc.drop 1=[V.int .i64 r.pos,.aQ r.an,.sl .no 2 (r.ak.map aC.enc),.sl .no 5 (r.ae.map Nd.enc)]:=by rw[Nd.dk];rfl
def Nd.x2{r:Nd}:r.enc.drop 2=[V.aQ r.an,.sl .no 2 (r.ak.map aC.enc),.sl .no 5 (r.ae.map Nd.enc)]:=by rw[Nd.dk];rfl
def Nd.x3{r:Nd}:r.enc.drop 3=[V.sl .no 2 (r.ak.map aC.enc),.sl .no 5 (r.ae.map Nd.enc)]:=by rw[Nd.dk];rfl
def Nd.x4{r:Nd}:r.enc.drop 4=[V.sl .no 5 (r.ae.map Nd.enc)]:=by rw[Nd.dk];rfl
def Nd.x0{r:Nd}:bP aq 1 r.enc=U (.int .i64 r.kind):=by rw[Nd.dk];rfl
def Nd.fl:=ag @Nd.x0 <| ag @Nd.x1 <| ag @Nd.x2 <| ag @Nd.x3 @Nd.x4
def aA.x1{r:aA}:r.enc.drop 1=[V.aQ r.tok.an,.int .i64 r.tok.pos,.sl .no 5 (cE r.ae),.int .i64 r.fin]:=by rw[dk];rfl
def aA.x2{r:aA}:r.enc.drop 2=[V.int .i64 r.tok.pos,.sl .no 5 (cE r.ae),.int .i64 r.fin]:=by rw[dk];rfl
def aA.x3{r:aA}:r.enc.drop 3=[V.sl .no 5 (cE r.ae),.int .i64 r.fin]:=by rw[dk];rfl
def aA.x4{r:aA}:r.enc.drop 4=[V.int .i64 r.fin]:=by rw[dk];rfl
def aA.x0{r:aA}:bP aq 1 r.enc=U (.int .u8 r.tok.kind):=by rw[dk];rfl
def aA.xt{r:aA}:bP aa 3 r.enc=U (.agg [.int .u8 r.tok.kind,.aQ r.tok.an,.int .i64 r.tok.pos]):=by rw[dk];rfl
def aA.fl:=ag @aA.x0 <| ag @aA.xt <| ag @aA.x1 <| ag @aA.x2 <| ag @aA.x3 @aA.x4
def tC(c:Int):Bool:=decide (97<=c)&&decide (c<=122)
def sZ(c:Int):Bool:=tC c||(decide (48<=c)&&decide (c<=57))||decide (c=95)
def xg:List Int:=[35,43,38,40,41,123,125,91,93,44,58,61,124,60]
def lD(c:Int):Bool:=xg.any λs=>decide (s=c)
def closing(c:Int):Int:=if c=40 then 41 else if c=123\/c=91 then c+2 else 0
def lM(c:Int):Bool:=decide (c=41)||decide (c=125)||decide (c=93)
def gh(c:UInt8):Bool:=sZ c.toNat
def uJ(c:UInt8):Bool:=tC c.toNat
def dp(s:List UInt8):Bool:=decide (s.length<=16)&&(match s with | []=>aq | c::r=>uJ c&&r.all gh)
def Tok.enc(t:Tok):List V:=[.int .u8 t.kind,.aQ t.an,.int .i64 t.pos]
def eR(r:List UInt8):List UInt8:=r.takeWhile gh
def fO:Nat->Nat->List UInt8->List Tok->List Tok × Option Int
 | 0,_,_,acc=>(acc,ah)
 | _,_,[],acc=>(acc,ah)
 | n + 1, p, c :: r, acc =>
  if c.toNat=45/\(r.head?.map UInt8.toNat)=U 45 then(acc,ah)
  else if 0<(eR (c::r)).length/\dp (eR (c::r))=aa then fO n (p+(eR (c::r)).length) ((c::r).drop (eR (c::r)).length) (acc++[⟨97,eR (c::r),p⟩])
  else if lD (c.toNat:Nat)=aa then fO n (p+1) r (acc++[⟨(c.toNat:Nat),[c],p⟩])
  else if c.toNat=32\/c.toNat=9 then fO n (p+1) r acc
  else([],U p)
def eH(s:List UInt8):List Tok × Option Int:=fO s.length 0 s []
def xE(b:Option Int):V:=.agg [.int .i64 (match b with | some _=>1 | none=>0),.int .i64 (gx b)]
def eP(l:List Tok)(i:Nat):Int:=match l[i]? with | some t=>t.kind | none=>0
def kS(l:List Tok):Nat->Nat->List Nat->Int
 | 0,_,open_=>match open_.getLast? with | some j=>(j:Nat) | none=>-1
 | n + 1, i, open_ =>
  if closing (eP l i)≠0/\24<=open_.length then(i:Nat)
  else
   let o:=if closing (eP l i)≠0 then open_++[i] else open_
   if lM (eP l i)=aa then
    match o.getLast? with
    | none=>(i:Nat)
    | some j=>if closing (eP l j)=eP l i then kS l n (i+1) o.dropLast else(i:Nat)
   else kS l n (i+1) o
def jy(l:List Tok)(at_:Nat):Nat->Nat->Int->Nat
 | 0,_,_=>at_
 | n + 1, i, deep =>
  let d:=(deep+(if closing (eP l i)≠0 then 1 else 0)) - (if lM (eP l i)=aa then 1 else 0)
  if d=0 then i else jy l at_ n (i+1) d
def partner(l:List Tok)(at_:Nat):Nat:=jy l at_ (l.length - at_) at_ 0
def rL(l:List Tok)(i:Nat):Int:=match l[i]? with | some t=>t.pos | none=>0
def jG(l:List Tok)(i:Nat):Tok:=match l[i]? with | some t=>t | none=>⟨0,[],0⟩
def kB(l:List Tok):Nat->Nat->Nat->List aA
 | 0,_,_=>[]
 | n + 1, i, to =>
  if i<to then
   if closing (eP l i)≠0 then .mk (jG l i) (kB l n (i+1) (partner l i)) (rL l (partner l i))::kB l n (partner l i+1) to
   else .mk (jG l i) [] (rL l i)::kB l n (i+1) to
  else []
def iy(l:List Tok):List aA × Option Int :=
 if 0<=kS l l.length 0 [] then([],U (rL l (kS l l.length 0 []).toNat)) else(kB l l.length 0 l.length,ah)
def kj:Option Int->List Tok->List UInt8
 | _,[]=>[]
 | k,t::ts=>(if k=U 97/\t.kind=97 then [32] else [])++t.an++kj (U t.kind) ts
def gu(l:List Tok):List UInt8:=kj ah l
mutual
def aA.flat:aA->List Tok
 | .mk t ks e=>t::(if closing t.kind≠0 then bM ks++[⟨closing t.kind,[UInt8.ofNat (closing t.kind).toNat],e⟩] else [])
def bM:List aA->List Tok
 | []=>[]
 | t::ts=>t.flat++bM ts
end
def RG(r:List UInt8):(eR r).length<=r.length:=by
 unfold eR;exact List.Sublist.length_le (adr _)
variable{s:List UInt8}
theorem aa_{a:Nat}:(eR (s.drop a)).length<=s.length - a:=by
 have:=RG (s.drop a)
 grind
def acf{G:Type}{f:G->Bool}:∀(r:List G),r.take (r.takeWhile f).length=r.takeWhile f
 | []=>rfl
 | c :: r => by
  simp only[List.takeWhile_cons];split
  .simp[acf r]
  .simp
def MY{a:Nat}:(s.take (a+(eR (s.drop a)).length)).drop a=eR (s.drop a):=by
 rw[Ta,Tr];exact acf _
def U_{a:Nat}(h:a<s.length):(s.take (a+1)).drop a=[s[a]]:=by rw[Ta,Tr,mb h];rfl
def ZQ{l:List Tok}{at_:Nat}:∀(n i:Nat) (d:Int),at_<=i->i+n<=l.length->at_<l.length->at_<=jy l at_ n i d/\jy l at_ n i d<l.length
 | 0,i,d,_,_,h=>⟨bU _,h⟩
 | n + 1, i, d, h1, h2, h3 => by
  simp only[jy];generalize (d+(if closing (eP l i)≠0 then 1 else 0)) - (if lM (eP l i)=aa then 1 else 0)=e;split
  .exact⟨h1,by omega⟩
  .exact ZQ n (i+1) _ (by omega) (by omega) h3
variable{i:Nat}
def HL{l:List Tok}(h:i<l.length):i<=partner l i/\partner l i<l.length:=ZQ _ _ _ (bU _) (by omega) h
theorem Nj(l:List Tok):∀(n i:Nat) (o:List Nat),i+n<=l.length->(∀j∈o,j<l.length)->kS l n i o<l.length\/kS l n i o = -1
 | 0, i, o, _, ho => by
  simp only[kS];cases h:o.getLast? with
  | none=>exact .inr rfl
  | some j=>exact .inl (by have:=ho j (List.mem_of_getLast? h);simp only;omega)
 | n + 1, i, o, hi, ho => by
  have rB:∀j∈(if closing (eP l i)≠0 then o++[i] else o),j<l.length:=λj hj=>by
   grind
  simp only[kS];generalize (if closing (eP l i)≠0 then o++[i] else o)=o2 at rB ⊢;split
  .exact .inl (by omega)
  .split
   .cases h:o2.getLast? with
    | none=>exact .inl (by simp only;omega)
    | some j =>
     simp only;split
     .exact Nj l n (i+1) _ (by omega) λk hk=>rB k (S9 _ hk)
     .exact .inl (by omega)
   .exact Nj l n (i+1) o2 (by omega) rB
def KC:∀(n p:Nat) (r:List UInt8) (acc:List Tok),r.length<=n->(fO n p r acc).1.length<=acc.length+r.length
 | 0,_,r,acc,_=>by cases r<;>simp[fO]
 | n+1,p,[],acc,_=>by simp[fO]
 | n + 1, p, c :: r, acc, h => by
  simp only[fO];have hr:=RG (c::r);simp only[da] at h hr ⊢;split
  .simp only;omega
  .split
   .rename_i h1
    have:=KC n (p+(eR (c::r)).length) ((c::r).drop (eR (c::r)).length) (acc++[⟨97,eR (c::r),p⟩]) (by simp;omega)
    simp at this;omega
   .split
    .have:=KC n (p+1) r (acc++[⟨(c.toNat:Nat),[c],p⟩]) (by omega)
     simp at this;omega
    .split
     .have:=KC n (p+1) r acc (by omega);omega
     .simp
def Qd(s:List UInt8):(eH s).1.length<=s.length:=by
 have:=KC s.length 0 s [] (bU _)
 simpa [eH] using this
def b_:List (List UInt8)->List UInt8
 | []=>[]
 | x::xs=>x++xs.flatMap λy=>44::y
def PQ(l:List (List UInt8))(y:List UInt8):b_ (l++[y])=b_ l++(if 0<l.length then [44] else [])++y:=by
 cases l with
 | nil=>simp[b_]
 | cons x xs=>simp[b_]
def XW:∀l:List (List UInt8),(b_ l).length<=(l.map λx=>x.length+1).sum
 | []=>by simp[b_]
 | x :: xs => by
  simp only[b_,bL,List.length_flatMap,cQ,pJ];simp
def gX(ws:List aC):List UInt8:=b_ (ws.map aC.an)
def pX:List (List UInt8)->List UInt8
 | []=>[]
 | x::_=>x
mutual
def Nd.dn:Nd->List UInt8
 | .mk k _ t ws ks =>
  if k=1\/k=2 then t
  else if k=3 then [123]++gX ws++[125]
  else if k=4 then [40]++b_ (dV ks)++[41]
  else if k=5 then [91]++b_ (dV ks)++[93]
  else if k=6 then t++[58,123]++gX ws++[125]
  else if k=7 then [35]++pX (dV ks)
  else if k=8 then [43,40]++b_ (dV ks)++[41]
  else if k=9 then [38,40]++b_ (dV ks)++[41]
  else if k=10 then([91]++b_ (dV ks))++(if 0<ws.length then [124]++gX ws else [])++[93]
  else if k=11 then t++[61]++pX (dV ks)
  else []
def dV:List Nd->List (List UInt8)
 | []=>[]
 | n::ns=>n.dn::dV ns
end
def Aj:∀l,dV l=l.map Nd.dn
 | []=>rfl
 | n::ns=>by simp[dV,Aj ns]
def fk(ws:List aC):Nat:=(ws.map λw=>w.an.length+1).sum
mutual
def Nd.wt:Nd->Nat
 | .mk _ _ t ws ks=>t.length+fk ws+gd ks+4
def gd:List Nd->Nat
 | []=>0
 | n::ns=>n.wt+1+gd ns
end
def Ip:∀l,gd l=(l.map λn=>n.wt+1).sum
 | []=>rfl
 | n::ns=>by simp[gd,Ip ns]
def FK(ws:List aC):(gX ws).length<=fk ws:=by
 have:=XW (ws.map aC.an)
 simpa [gX,fk,FV,yL] using this
def DM{l:List Nd}{n:Nd}(h:n∈l):n.wt+1<=gd l:=by
 induction l with
 | nil=>simp at h
 | cons m ms ih =>
  rcases m_.1 h with rfl | h
  .simp only[gd];omega
  .have:=ih h;simp only[gd];omega
theorem Hh:∀(l:List Nd),(∀n∈l,n.dn.length<=n.wt)->(b_ (dV l)).length<=gd l:=λl h=>by
 refine yT (XW _) ?_;rw[Aj,Ip,FV];induction l with
 | nil=>simp
 | cons n ns ih =>
  grind
def Oq(l:List Nd)(h:∀n∈l,n.dn.length<=n.wt):(pX (dV l)).length<=gd l:=by
 cases l with
 | nil=>simp[dV,pX]
 | cons n ns=>have:=h n (by simp);simp only[dV,pX,gd];omega
mutual
def acr:∀(n:Nd),n.dn.length<=n.wt
 | .mk k p t ws ks => by
  have h1:=FK ws;have h2:=Hh ks (xl ks);have h3:=Oq ks (xl ks);simp only[Nd.dn,Nd.wt]
  repeat' split
  all_goals (try simp only[bL,da,cZ])
  all_goals omega
def xl:∀(l:List Nd),∀n∈l,n.dn.length<=n.wt
 | [],n,h=>by simp at h
 | m :: ms, n, h => by
  rcases m_.1 h with h | h
  .rw[h];exact acr m
  .exact xl ms n h
end
def AW:List V:=aj 8 (.int .u64 0)
def wM:List V:=.int .i64 0::.int .i64 0::AW
def cu(l:List (List UInt8)):List (List V):=l.map λs=>[.aQ s]
variable{G:Type}
def mB{l:List G}{d:G}(h:i<l.length):l.getD i d=l[i]:=by simp[h]
def gk(l:List (List UInt8)):(cu l).length=l.length:=by simp[cu]
def Ft{l:List (List UInt8)}(h:j<l.length):(cu l)[((j:Nat):Int).toNat]?=U [.aQ (l.getD j [])]:=by simp[cu,h]
def abl{l:List (List UInt8)}:(cu l).take j=cu (l.take j):=by simp[cu,Mc]
def bW:Option Nat->Int
 | some k=>k
 | none=>-1
def dL(l:List (List UInt8))(s:List UInt8):Option Nat:=(bH l.length).find? λi=>decide (l.getD i []=s)
def BY(l:List (List UInt8)):Option Nat:=(bH l.length).find? λi=>(dL (l.take i) (l.getD i [])).isSome
section
variable {l:List (List UInt8)} {s:List UInt8} {i:Nat}
def KQ{o:Option Nat}:decide (0<=bW o)=o.isSome:=by
 cases o with
 | none=>rfl
 | some k=>exact aG (by simp only[bW];omega)
def yn{o:Option Nat}:decide (bW o<0)=o.isNone:=by
 cases o with
 | none=>rfl
 | some k=>exact aD (by simp only[bW];omega)
theorem AZ{p:Nat->Bool}{n:Nat}(h:(bH n).find? p=U k):k<n/\p k=aa/\∀j,j<k->p j=false:=by simp_all
def No{p:Nat->Bool}{n:Nat}:((bH n).find? p).isSome=aa↔∃k,k<n/\p k=true:=by simp
theorem VP(hi:i<l.length):(dL (l.take i) (l.getD i [])).isSome=decide (bW (dL l (l.getD i []))<(i:Nat)):=by
 rw[tW,dL,No,Cm];have az:(l.take i).length=i:=by grind
 have x7:∀k,k<i->(l.take i).getD k []=l.getD k []:=λk hk=>by simp[List.getD,Th hk]
 rw[az];have hs:∃m,dL l (l.getD i [])=U m:=by
  have:=(No (p:=λk=>decide (l.getD k []=l.getD i [])) (n:=l.length)).2 ⟨i,hi,by simp⟩
  exact Mn.1 this
 obtain⟨m,hm⟩:=hs;have uu := AZ hm;rw[hm];simp only[bW,cU] at uu ⊢
 grind
end
def mK(l:List (List UInt8)):Bool:=decide (1<=l.length)&&decide (l.length<=64)&&(BY l).isNone&&l.all dp
structure bh where
 kind:Int
 ak:List (List UInt8)
 rel:Rl
def bh.enc(f:bh):List V:=.int .i64 f.kind::.sl .no 1 (cu f.ak)::f.rel.enc
def bh.zero:bh:=⟨0,[],.zero⟩
section
variable {f g:bh} {m:Nat}
def bh.dG:f.enc.length=67:=by simp[bh.enc,Rl.dG]
def bh.iS:c8 f.enc=true:=by simp[bh.enc,c8,V.one,Rl.iS]
def bh.dT:bK f.enc=true:=by simp[bh.enc,bK,V.cS,Rl.dT]
def bh.dW:a9 f.enc=f.enc:=by simp[bh.enc,a9,V.erase,Rl.dW]
def bh.bR:bE m f.enc=true:=by simp[bh.enc,bE,V.lo,Rl.bR]
def bh.gI:takeN 67 f.enc=U f.enc:=by have:=BW (c:=f.enc);rwa [bh.dG] at this
def bh.jE:bP aa 67 f.enc=U (.agg f.enc):=by rw[Bu,bh.gI];rfl
def bh.jc:cB 67 f.enc=true:=by have:=A' (c:=f.enc);rwa [bh.dG] at this
def bh.iK:over g.enc f.enc=f.enc:=rJ (by rw[bh.dG,bh.dG])
theorem bh.Rh:bP aq 1 f.enc=U (.int .i64 f.kind):=rfl
theorem bh.r_s:bP aq 1 (f.enc.drop 1)=U (.sl .no 1 (cu f.ak)):=rfl
theorem bh.w9:bP aq 1 (f.enc.drop 2)=U (.int .i64 f.rel.n):=rfl
def bh.r_r:bP aa 65 (f.enc.drop 2)=U (.agg f.rel.enc):=by show bP aa 65 f.rel.enc=_;exact Rl.jE
def bh.asH:takeN 65 (f.enc.drop 2)=U f.rel.enc:=by show takeN 65 f.rel.enc=_;exact Rl.gI
def bh.zov:over uh f.enc=f.enc:=rJ (by rw[bh.dG];rfl)
theorem bh.axQ:cB 67 uh=true:=rfl
theorem bh.zlo:bE m uh=true:=by rfl
def bh.al:=ag @bh.dG <| ag @bh.iS <| ag @bh.dT <| ag @bh.dW <| ag @bh.bR <| ag @bh.gI <| ag @bh.jE <| ag @bh.jc <| ag @bh.iK <| ag @bh.Rh <| ag @bh.r_s <| ag @bh.w9 <| ag @bh.r_r <| ag @bh.asH <| ag @bh.zov <| ag @bh.axQ @bh.zlo
end
structure bA where
 tuple:Bool
 bI:List bh
def bA.enc(s:bA):List V:=[.bool s.tuple,.sl .no 67 (s.bI.map bh.enc)]
section
variable {s:bA} {g:Bool} {n:Nat} {a b:V}
theorem bA.dG:s.enc.length=2:=rfl
theorem bA.iS:c8 s.enc=true:=rfl
theorem bA.dT:bK s.enc=true:=rfl
theorem bA.dW:a9 s.enc=s.enc:=rfl
theorem bA.bR:bE n s.enc=true:=rfl
theorem bA.gI:takeN 2 s.enc=U s.enc:=rfl
theorem bA.jE:bP aa 2 s.enc=U (.agg s.enc):=rfl
theorem bA.jc:cB 2 s.enc=true:=rfl
theorem bA.iK:over [a,b] s.enc=s.enc:=rfl
theorem bA.Rj:bP aq 1 s.enc=U (.bool s.tuple):=rfl
theorem bA.HR:bP aq 1 (s.enc.drop 1)=U (.sl .no 67 (s.bI.map bh.enc)):=rfl
def bA.al:=ag @bA.dG <| ag @bA.iS <| ag @bA.dT <| ag @bA.dW <| ag @bA.bR <| ag @bA.gI <| ag @bA.jE <| ag @bA.jc <| ag @bA.iK <| ag @bA.Rj @bA.HR
end
def bA.ok(s:bA):Prop:=s.bI.length<=100000/\∀f∈s.bI,f.ak.length<=100000
def kp(f:bh):Bool:=mK f.ak &&
 (if f.kind=1\/f.kind=2 then decide (bm f.rel=0) else if f.kind=3 then decide (f.rel.n=f.ak.length)&&kT f.rel else if f.kind=4 then decide (f.rel.n=f.ak.length)&&lU f.rel else aq)
def lC(s:bA):Bool:=decide (1<=s.bI.length)&&decide (s.bI.length<=8)&&(s.tuple||decide (s.bI.length=1))&&s.bI.all kp
def Z2{r:Rl}:decide (mO r=mO Rl.zero)=decide (bm r=0):=by
 apply xM.2;have hz:bm Rl.zero=0:=by rfl
 constructor
 .intro h;have:=(Z1.1 h).1;rw[this,hz]
 .intro h;rw[Vl h,Vl hz]
structure br where
 w:List bz
 len:w.length=8
def br.ext'{a b:br}(h:a.w=b.w):a=b:=by cases a;cases b;simp only at h;subst h;rfl
instance:DecidableEq br:=λa b=>if h:a.w=b.w then isTrue (br.ext' h) else isFalse λe=>h (e▸rfl)
def br.enc(e:br):List V:=jJ e.w
def br.zero:br:=⟨aj 8 0#64,by simp⟩
def br.get(e:br)(i:Nat):bz:=e.w.getD i 0#64
def br.put(e:br)(i:Nat)(w:bz):br:=⟨e.w.set i w,by simp[e.len]⟩
def br.of(f:Nat->bz):br:=⟨(bH 8).map f,by simp⟩
section
variable {e d:br} {i m:Nat} {w:bz} {f:Nat->bz}
theorem br.Eo:(e.put i w).get j=if i=j/\i<8 then w else e.get j:=by
 simp only[br.get,br.put,List.getD,List.getElem?_set,e.len]
 by_cases h:i=j
 .subst h
  by_cases h2:i<8
  .grind
  .simp[h2,e.len]
 .simp[h]
def br.rz(h:i<8):(br.of f).get i=f i:=by simp[br.get,br.of,List.getD,h]
def br.ext(k:∀i,i<8->e.get i=d.get i):e=d:=by
 refine br.ext' (Tb (by rw[e.len,d.len]) λi h1 h2=>?_)
 have:=k i (by rw[e.len] at h1;exact h1)
 simpa [br.get,List.getD,h1,h2] using this
def br.dG:e.enc.length=8:=by simp[br.enc,Jc,e.len]
def br.iS:c8 e.enc=true:=Vt
def br.dT:bK e.enc=true:=Vs
def br.dW:a9 e.enc=e.enc:=Vp
def br.bR:bE m e.enc=true:=Vr
def br.gI:takeN 8 e.enc=U e.enc:=by have:=BW (c:=e.enc);rwa [br.dG] at this
def br.jE:bP aa 8 e.enc=U (.agg e.enc):=by rw[Bu,br.gI];rfl
def br.jc:cB 8 e.enc=true:=by have:=A' (c:=e.enc);rwa [br.dG] at this
def br.iK:over d.enc e.enc=e.enc:=rJ (by rw[br.dG,br.dG])
theorem br.HS:AW=br.zero.enc:=by rfl
def br.sI:hZ [1,1,1,1,1,1,1,1] e.enc d.enc=U (decide (e=d)):=by
 show hZ (aj 8 1) (jJ e.w) (jJ d.w)=_;rw[Vo e.len d.len];congr 1;exact xM.2 ⟨br.ext',λh=>h▸rfl⟩
def br.yF(h:i<8):cB 1 (e.enc.drop i)=true:=Vq (by rw[e.len];exact h)
def br.yH(h:i<8):setAt e.enc i [.int .u64 (w.toNat:Nat)]=(e.put i w).enc:=Vu (by rw[e.len];exact h)
theorem br.fill:(br.of λj=>if j<i then f j else 0#64).put i (f i)=br.of λj=>if j<i+1 then f j else 0#64:=by
 refine br.ext λk hk=>?_
 rw[br.Eo,br.rz hk,br.rz hk]
 grind
theorem br.ac8:br.zero=br.of λ_=>0#64:=by rfl
def br.al:=ag @br.dG <| ag @br.iS <| ag @br.dT <| ag @br.dW <| ag @br.bR <| ag @br.gI <| ag @br.jE <| ag @br.jc <| ag @br.iK <| ag @br.HS @br.sI
end
def am1(s:bA)(a b:br)(i:Nat):bz :=
 match s.bI[i]? with
 | some f=>if f.kind=4 then asL f.rel (a.get i) (b.get i) else a.get i|||b.get i
 | none=>a.get i|||b.get i
def am0(s:bA)(a b:br):br:=br.of (am1 s a b)
def aoX(a b:br):br:=br.of λi=>a.get i&&&b.get i
def f_(ws:List aC):Bool:=ws.all λw=>dp w.an
def Nd.lA(n:Nd):Bool:=dp n.an&&decide ((n.ak.length:Int)+n.ae.length=0)
def Nd.kM(n:Nd):Bool:=decide (n.an=[])&&decide ((n.ak.length:Int)=0)
def Nd.kZ(n:Nd):Bool:=decide (n.kind=6)&&dp n.an&&f_ n.ak&&decide ((n.ae.length:Int)=0)
mutual
def Nd.gg:Nd->Bool
 | .mk k p t ws ks =>
  if k=2 then(Nd.mk k p t ws ks).lA
  else if k=3 then decide (t=[])&&f_ ws&&decide ((ks.length:Int)=0)
  else if k=4 then(Nd.mk k p t ws ks).kM&&decide ((0:Int)<ks.length)&&I8 ks
  else if k=5 then(Nd.mk k p t ws ks).kM&&ks.all Nd.kZ
  else aq
def I8:List Nd->Bool
 | []=>aa
 | n::ns=>n.gg&&I8 ns
end
def U7:∀l,I8 l=l.all Nd.gg
 | []=>rfl
 | n::ns=>by simp[I8,U7 ns]
def Nd.AR(n:Nd):n.gg=if n.kind=2 then n.lA else if n.kind=3 then decide (n.an=[])&&f_ n.ak&&decide ((n.ae.length:Int)=0)
 else if n.kind=4 then n.kM&&decide ((0:Int)<n.ae.length)&&n.ae.all Nd.gg else if n.kind=5 then n.kM&&n.ae.all Nd.kZ else false:=by
 cases n;rw[<-U7];rw[Nd.gg];rfl
def se(f:Nd->Bool):List Nd->Bool
 | []=>aq
 | n::_=>f n
mutual
def Nd.ei:Nd->Bool
 | .mk k p t ws ks =>
  if k=1 then(Nd.mk k p t ws ks).lA
  else if k=7 then(Nd.mk k p t ws ks).kM&&decide ((ks.length:Int)=1)&&se Nd.gg ks
  else if k=8\/k=9 then(Nd.mk k p t ws ks).kM&&decide ((0:Int)<ks.length)&&Kx ks
  else aq
def Kx:List Nd->Bool
 | []=>aa
 | n::ns=>n.ei&&Kx ns
end
def X8:∀l,Kx l=l.all Nd.ei
 | []=>rfl
 | n::ns=>by simp[Kx,X8 ns]
def Nd.uI(n:Nd):n.ei=if n.kind=1 then n.lA else if n.kind=7 then n.kM&&decide ((n.ae.length:Int)=1)&&se Nd.gg n.ae
 else if n.kind=8\/n.kind=9 then n.kM&&decide ((0:Int)<n.ae.length)&&n.ae.all Nd.ei else false:=by
 cases n;rw[<-X8];rw[Nd.ei];rfl
def Nd.qA(n:Nd):Bool:=(decide (n.kind=1)||decide (n.kind=7))&&n.ei
def Nd.jr(n:Nd):Bool:=decide (n.kind=11)&&dp n.an&&decide ((n.ak.length:Int)=0)&&decide ((n.ae.length:Int)=1)&&se Nd.qA n.ae
def Nd.jl(n:Nd):Bool :=
 if n.kind=10 then decide (n.an=[])&&decide ((n.ak.length:Int)<=1)&&f_ n.ak&&n.ae.all Nd.jr else decide (n.kind=1)&&n.ei
def eX:List aC->List aC->Bool
 | [],[]=>aa
 | w::ws,u::us=>decide (w.an=u.an)&&eX ws us
 | _,_=>aq
mutual
def Nd.dm:Nd->Nd->Bool
 | .mk k _ t ws ks,n=>decide (k=n.kind)&&decide (t=n.an)&&eX ws n.ak&&dY ks n.ae
def dY:List Nd->List Nd->Bool
 | [],[]=>aa
 | n::ns,m::ms=>n.dm m&&dY ns ms
 | _,_=>aq
end
def Nd.DB(n m:Nd):n.dm m=(decide (n.kind=m.kind)&&decide (n.an=m.an)&&eX n.ak m.ak&&dY n.ae m.ae):=by cases n;rw[Nd.dm];rfl
def abu:∀l,eX l l=aa
 | []=>rfl
 | w::ws=>by simp[eX,abu ws]
mutual
def Nd.HY:∀n:Nd,n.dm n=aa
 | .mk k p t ws ks=>by simp[Nd.dm,Nd.kind,Nd.an,Nd.ak,Nd.ae,abu,aby ks]
def aby:∀l:List Nd,dY l l=aa
 | []=>by simp[dY]
 | n::ns=>by simp[dY,Nd.HY n,aby ns]
end
def RQ:∀{a b:List aC},eX a b=aa->a.length=b.length
 | [],[],_=>rfl
 | [],_::_,h=>by simp[eX] at h
 | _::_,[],h=>by simp[eX] at h
 | _::ws,_::us,h=>by simp only[eX,bO] at h;simp[RQ h.2]
def RT:∀{a b:List Nd},dY a b=aa->a.length=b.length
 | [],[],_=>rfl
 | [],_::_,h=>by simp[dY] at h
 | _::_,[],h=>by simp[dY] at h
 | _::ws,_::us,h=>by simp only[dY,bO] at h;simp[RT h.2]
theorem RO:∀{a b:List aC} {i:Nat} (ha:i<a.length) (hb:i<b.length),a.length=b.length->eX (a.take i) (b.take i)=aa->eX (a.take (i+1)) (b.take (i+1))=decide (a[i].an=b[i].an)/\(decide (a[i].an=b[i].an)=aq->eX a b=aq)
 | w::ws,u::us,0,_,_,_,_=>by simp[eX];intro h1 h2;exact absurd h2 h1
 | w :: ws, u :: us, i + 1, ha, hb, hl, h => by
  simp only[yR,eX,bO] at h ⊢
  have:=RO (a:=ws) (b:=us) (i:=i) (by simpa using ha) (by simpa using hb) (by simpa using hl) h.2
  grind
 | [],_,_,ha,_,_,_=>by simp at ha
 | _::_,[],_,_,hb,_,_=>by simp at hb
theorem RS:∀{a b:List Nd} {i:Nat} (ha:i<a.length) (hb:i<b.length),a.length=b.length->dY (a.take i) (b.take i)=aa->dY (a.take (i+1)) (b.take (i+1))=a[i].dm b[i]/\(a[i].dm b[i]=aq->dY a b=aq)
 | w::ws,u::us,0,_,_,_,_=>by simp[dY];intro h1 h2;rw[h1] at h2;simp at h2
 | w :: ws, u :: us, i + 1, ha, hb, hl, h => by
  simp only[yR,dY,bO] at h ⊢
  have:=RS (a:=ws) (b:=us) (i:=i) (by simpa using ha) (by simpa using hb) (by simpa using hl) h.2
  grind
 | [],_,_,ha,_,_,_=>by simp at ha
 | _::_,[],_,_,hb,_,_=>by simp at hb
def r6(o:Option Int):List V:=[.bool o.isSome,.int .i64 (o.getD 0)]
def pf(o:Option Int):List V:=[.int .i64 (if o.isSome then 4 else 0),.int .i64 (o.getD 0)]
def zi(g:bz × Option Int):List V:=[.int .u64 (g.1.toNat:Nat),.bool g.2.isSome,.int .i64 (g.2.getD 0)]
def gU(l:List (List UInt8))(s:bz):List aC->bz × Option Int
 | []=>(s,ah)
 | w::ws=>match dL l w.an with | none=>(0#64,U w.pos) | some k=>gU l (la s (k:Nat)) ws
theorem Z4{l:List (List UInt8)}{p:Int}:∀{ws:List aC} {s:bz},(gU l s ws).2=U p->gU l s ws=(0#64,U p)
 | [],s,h=>by simp[gU] at h
 | w :: ws, s, h => by
  simp only[gU] at h ⊢;split
  .grind
  .rename_i k hf;rw[hf] at h;exact Z4 h
def sK(f:bh)(s:bz):List Nd->bz × Option Int
 | []=>(s,ah)
 | k :: ks => match dL f.ak k.an with
  | none=>(0#64,U k.pos)
  | some o => match (gU f.ak 0#64 k.ak).2 with
   | some p=>(0#64,U p)
   | none=>sK f (s|||uM f.rel o (gU f.ak 0#64 k.ak).1) ks
def tK(f:bh)(s:bz)(aO:Option Int):List Nd->bz × Option Int
 | []=>(s,aO)
 | k :: ks => match dL f.ak k.an with
  | none=>(0#64,aO.or (U k.pos))
  | some o=>tK f (s|||uM f.rel o (gU f.ak 0#64 k.ak).1) (aO.or (gU f.ak 0#64 k.ak).2) ks
def RE{f:bh}{p:Int}:∀{ks:List Nd} {s:bz},(tK f s (U p) ks).2=U p
 | [],_=>rfl
 | k :: ks, s => by
  simp only[tK];split
  .rfl
  .exact RE
def aa7{f:bh}:∀{ks:List Nd} {s:bz},(tK f s ah ks).2=(sK f s ks).2/\((sK f s ks).2=ah->(tK f s ah ks).1=(sK f s ks).1)
 | [],_=>⟨rfl,λ_=>rfl⟩
 | k :: ks, s => by
  simp only[tK,sK];split
  .simp
  .split
   .rename_i o _ p hp;rw[hp];exact⟨RE,λh=>by simp at h⟩
   .rename_i hp;rw[hp];exact aa7
def px(f:bh)(n:Nd):bz × Option Int :=
 match dL f.ak n.an with
 | none=>(0#64,U n.pos)
 | some k=>(if f.kind=4 then sU f.rel k else(uN (f.ak.length:Nat) (k:Nat)).1,ah)
def uH(f:bh):Int:=if f.kind=2 then 3 else if f.kind=3 then 5 else 2
def mU(f:bh)(n:Nd):bz × Option Int :=
 if n.kind=uH f then(if f.kind=2 then gU f.ak 0#64 n.ak else if f.kind=3 then sK f 0#64 n.ae else px f n) else(0#64,U n.pos)
def pC(f:bh)(n:Nd)(aO:Option Int):bz × Option Int :=
 if n.kind=uH f then(if f.kind=2 then((gU f.ak 0#64 n.ak).1,aO.or (gU f.ak 0#64 n.ak).2) else if f.kind=3 then tK f 0#64 aO n.ae else((px f n).1,aO.or (px f n).2)) else(0#64,aO.or (U n.pos))
variable{p:Int}
def acZ{f:bh}{n:Nd}:(pC f n (U p)).2=U p:=by
 unfold pC;split
 .split
  .rfl
  .split
   .exact RE
   .rfl
 .rfl
def axr{f:bh}{n:Nd}:(pC f n ah).2=(mU f n).2/\((mU f n).2=ah->(pC f n ah).1=(mU f n).1):=by
 unfold pC mU;split
 .split
  .simp
  .split
   .exact aa7
   .simp
 .simp
def iJ:Nd:=.mk 0 0 [] [] []
def iL(s:bA)(ks:List Nd)(i:Nat):bz × Option Int:=mU (s.bI.getD i .zero) (ks.getD i iJ)
def wy(s:bA)(ks:List Nd):br × Option Int :=
 match (bH s.bI.length).find? λi=>(iL s ks i).2.isSome with
 | some i=>(.zero,(iL s ks i).2)
 | none=>(br.of λj=>if j<s.bI.length then(iL s ks j).1 else 0#64,ah)
def jb(s:bA)(n:Nd):List Nd:=if s.tuple then n.ae else [n]
def mN(s:bA)(n:Nd):Bool:=!s.tuple||(decide (n.kind=4)&&decide (n.ae.length=s.bI.length))
def gN(s:bA)(n:Nd):br × Option Int:=if mN s n&&lC s&&n.gg then wy s (jb s n) else(.zero,U n.pos)
def Gv(s:bA)(ks:List Nd)(i:Nat)(x:br × Option Int):Prop :=
 (x.2=ah/\(∀k,k<i->(iL s ks k).2=ah)/\x.1=br.of λj=>if j<i then(iL s ks j).1 else 0#64) \/
 (x.2.isSome=aa/\∃k,k<i/\(iL s ks k).2=x.2/\∀j,j<k->(iL s ks j).2=ah)
variable{ks:List Nd}
def akV{s:bA}:Gv s ks 0 (.zero,ah):=.inl ⟨rfl,λk h=>by omega,br.ac8⟩
theorem akU{s:bA}{e:br}{o:Option Int}(h:Gv s ks i (e,o)):
 Gv s ks (i+1) (e.put i (pC (s.bI.getD i .zero) (ks.getD i iJ) o).1,(pC (s.bI.getD i .zero) (ks.getD i iJ) o).2):=by
 rcases h with ⟨h1,h2,h3⟩ | ⟨h1,k,h2,h3,h4⟩
 .simp only at h1 h3;subst h1;subst h3;obtain⟨e1,e2⟩:=@axr (s.bI.getD i .zero) (ks.getD i iJ);cases hb:(mU (s.bI.getD i .zero) (ks.getD i iJ)).2 with
  | none =>
   left;refine⟨by simp only;rw[e1,hb],λk hk=>?_,?_⟩
   .rcases adt.1 hk with h | rfl
    .grind
    .exact hb
   .simp only;rw[e2 hb];exact br.fill (f:=λj=>(iL s ks j).1)
  | some p =>
   right;refine⟨by simp only;rw[e1,hb];rfl,i,by omega,by simp only;rw[e1];rfl,h2⟩
 .simp only at h1 h3;obtain⟨p,rfl⟩:=Mn.1 h1;right;exact⟨by simp only;rw[acZ];rfl,k,by omega,by simp only;rw[acZ];exact h3,h4⟩
theorem NF{s:bA}{x:br × Option Int}(h:Gv s ks s.bI.length x):wy s ks=if x.2.isSome then(.zero,x.2) else(x.1,ah):=by
 rcases h with ⟨h1,h2,h3⟩ | ⟨h1,k,h2,h3,h4⟩
 .have e:(bH s.bI.length).find? (λi=>(iL s ks i).2.isSome)=none:=by grind
  rw[wy,e,h1,h3];rfl
 .have e:(bH s.bI.length).find? (λi=>(iL s ks i).2.isSome)=U k:=by simp_all
  rw[wy,e,aL h1]
  grind
theorem aif{s:bA}(hi:i<s.bI.length)(h:∀k,k<i->(iL s ks k).2=ah)(hb:(iL s ks i).2=U p):wy s ks=(.zero,U p):=by
 have:=NF (s:=s) (ks:=ks) (x:=(.zero,U p)) (.inr ⟨rfl,i,hi,hb,h⟩)
 grind
theorem aii{s:bA}(h:∀k,k<s.bI.length->(iL s ks k).2=ah):wy s ks=(br.of λj=>if j<s.bI.length then(iL s ks j).1 else 0#64,ah):=by
 have:=NF (s:=s) (ks:=ks) (x:=(br.of λj=>if j<s.bI.length then(iL s ks j).1 else 0#64,ah)) (.inl ⟨rfl,h,rfl⟩)
 grind
def aik{s:bA}:(br.of λj=>if j<i then(iL s ks j).1 else 0#64).put i (iL s ks i).1=br.of λj=>if j<i+1 then(iL s ks j).1 else 0#64:=br.fill (f:=λj=>(iL s ks j).1)
mutual
def Nd.cW:Nd->Nat
 | .mk _ _ _ ws ks=>1+ws.length+iD ks
def iD:List Nd->Nat
 | []=>0
 | n::ns=>n.cW+iD ns
end
def UO:∀a b:List Nd,iD (a++b)=iD a+iD b
 | [],b=>by simp[iD]
 | x::xs,b=>by simp only[gY,iD,UO xs b];omega
theorem MS(l:List Nd)(i:Nat):iD (l.take i)<=iD l:=by
 have:=UO (l.take i) (l.drop i)
 simp_all
def awN(l:List aC):l.length<=fk l:=by
 unfold fk;induction l with
 | nil=>simp
 | cons w ws ih=>simp only[cQ,pJ,da];omega
mutual
def Eb:∀n:Nd,n.cW<=n.wt
 | .mk k p t ws ks => by
  have:=US ks
  have:=awN ws
  simp only[Nd.cW,Nd.wt];omega
def US:∀l:List Nd,iD l<=gd l
 | []=>by simp[iD,gd]
 | n :: ns => by
  have:=Eb n
  have:=US ns
  simp only[iD,gd];omega
end
structure eh where
 name:List UInt8
 shape:bA
def eh.enc(l:eh):List V:=.aQ l.name::l.shape.enc
structure dR where
 name:List UInt8
 kind:Int
 lat:Int
def dR.enc(v:dR):List V:=[.aQ v.name,.int .i64 v.kind,.int .i64 v.lat]
structure aH where
 bc:List eh
 vars:List dR
def aH.enc(s:aH):List V:=[.sl .no 3 (s.bc.map eh.enc),.sl .no 3 (s.vars.map dR.enc)]
section
variable {l:eh} {v:dR} {s:aH} {n:Nat} {a b c:V}
theorem aH.dG:s.enc.length=2:=rfl
theorem aH.iS:c8 s.enc=true:=rfl
theorem aH.dT:bK s.enc=true:=rfl
theorem aH.dW:a9 s.enc=s.enc:=rfl
theorem aH.bR:bE n s.enc=true:=rfl
theorem aH.gI:takeN 2 s.enc=U s.enc:=rfl
theorem aH.jE:bP aa 2 s.enc=U (.agg s.enc):=rfl
theorem aH.jc:cB 2 s.enc=true:=rfl
theorem aH.iK:over [a,b] s.enc=s.enc:=rfl
theorem aH.Ri:bP aq 1 s.enc=U (.sl .no 3 (s.bc.map eh.enc)):=rfl
theorem aH.Rk:bP aq 1 (s.enc.drop 1)=U (.sl .no 3 (s.vars.map dR.enc)):=rfl
theorem dR.w9:bP aq 1 v.enc=U (.aQ v.name):=rfl
theorem dR.Rh:bP aq 1 (v.enc.drop 1)=U (.int .i64 v.kind):=rfl
theorem dR.Ri:bP aq 1 (v.enc.drop 2)=U (.int .i64 v.lat):=rfl
theorem eh.w9:bP aq 1 l.enc=U (.aQ l.name):=rfl
theorem eh.asJ:takeN 2 (l.enc.drop 1)=U l.shape.enc:=rfl
def aH.al:=ag @aH.dG <| ag @aH.iS <| ag @aH.dT <| ag @aH.dW <| ag @aH.bR <| ag @aH.gI <| ag @aH.jE <| ag @aH.jc <| ag @aH.iK <| ag @aH.Ri <| ag @aH.Rk <| ag @dR.w9 <| ag @dR.Rh <| ag @dR.Ri <| ag @eh.w9 @eh.asJ
end
structure bF where
 op:Int
 n:Int
 c:br
def bF.enc(i:bF):List V:=.int .i64 i.op::.int .i64 i.n::i.c.enc
def bF.zero:bF:=⟨0,0,.zero⟩
def bF.ext'{a b:bF}(h1:a.op=b.op)(h2:a.n=b.n)(h3:a.c=b.c):a=b:=by cases a;cases b;simp only at h1 h2 h3;subst h1;subst h2;subst h3;rfl
instance:DecidableEq bF:=λa b=>if h:a.op=b.op/\a.n=b.n/\a.c=b.c then isTrue (bF.ext' h.1 h.2.1 h.2.2) else isFalse λe=>h (e▸⟨rfl,rfl,rfl⟩)
section
variable {i j:bF} {n:Nat} {x y:Int} {e:br}
def bF.dG:i.enc.length=10:=by simp[bF.enc,br.dG]
def bF.iS:c8 i.enc=true:=by simp[bF.enc,c8,V.one,br.iS]
def bF.dT:bK i.enc=true:=by simp[bF.enc,bK,V.cS,br.dT]
def bF.dW:a9 i.enc=i.enc:=by simp[bF.enc,a9,V.erase,br.dW]
def bF.bR:bE n i.enc=true:=by simp[bF.enc,bE,V.lo,br.bR]
def bF.gI:takeN 10 i.enc=U i.enc:=by have:=BW (c:=i.enc);rwa [bF.dG] at this
def bF.jE:bP aa 10 i.enc=U (.agg i.enc):=by rw[Bu,bF.gI];rfl
def bF.jc:cB 10 i.enc=true:=by have:=A' (c:=i.enc);rwa [bF.dG] at this
def bF.iK:over j.enc i.enc=i.enc:=rJ (by rw[bF.dG,bF.dG])
theorem bF.r_o:bP aq 1 i.enc=U (.int .i64 i.op):=rfl
theorem bF.w9:bP aq 1 (i.enc.drop 1)=U (.int .i64 i.n):=rfl
def bF.asB:takeN 8 (i.enc.drop 2)=U i.c.enc:=by show takeN 8 i.c.enc=_;exact br.gI
theorem bF.HS:wM=bF.zero.enc:=by rfl
theorem bF.b_o:over i.enc [.int .i64 x]=(bF.mk x i.n i.c).enc:=by rfl
theorem bF.Gb:cB 1 i.enc=true:=rfl
theorem bF.aeR:cB 1 (i.enc.drop 1)=true:=rfl
def bF.MC:setAt i.enc 1 [.int .i64 x]=(bF.mk i.op x i.c).enc:=by rw[bF.enc,mz,mT,yo,w7];rfl
def bF.aeS:cB 8 (i.enc.drop 2)=true:=by show cB 8 i.c.enc=aa;exact br.jc
def bF.MB:setAt i.enc 2 e.enc=(bF.mk i.op i.n e).enc:=by rw[bF.enc,mz,mz,mT,br.iK];rfl
def bF.sI:hZ [1,1,1,1,1,1,1,1,1,1] i.enc j.enc=U (decide (i=j)):=by
 rw[bF.enc,bF.enc,xR,xR,br.sI,ve,ve];congr 1;rw[<-DQ,<-DQ];exact xM.2 ⟨λh=>bF.ext' h.1 h.2.1 h.2.2,λh=>h▸⟨rfl,rfl,rfl⟩⟩
def bF.al:=ag @bF.dG <| ag @bF.iS <| ag @bF.dT <| ag @bF.dW <| ag @bF.bR <| ag @bF.gI <| ag @bF.jE <| ag @bF.jc <| ag @bF.iK <| ag @bF.r_o <| ag @bF.w9 <| ag @bF.asB <| ag @bF.HS <| ag @bF.b_o <| ag @bF.Gb <| ag @bF.aeR <| ag @bF.MC <| ag @bF.aeS <| ag @bF.MB @bF.sI
end
def E9(l:List eh)(t:List UInt8)(i:Nat):Bool:=match l[i]? with | some x=>decide (x.name=t) | none=>aq
def E_(l:List dR)(t:List UInt8)(i:Nat):Bool:=match l[i]? with | some x=>decide (x.name=t) | none=>aq
def fD(l:List eh)(t:List UInt8):Option Nat:=(bH l.length).find? (E9 l t)
def jt(l:List dR)(t:List UInt8):Option Nat:=(bH l.length).find? (E_ l t)
def sN(s:aH)(lat:Nat)(t:List UInt8):Option bF :=
 match jt s.vars t with
 | none=>ah
 | some k => match s.vars[k]? with
  | some v=>if v.kind=1/\v.lat=(lat:Nat) then U ⟨1,k,.zero⟩ else ah
  | none=>ah
def yy(s:aH)(lat:Nat):bA:=match s.bc[lat]? with | some l=>l.shape | none=>⟨aq,[]⟩
def pr(s:aH)(lat:Nat)(n:Nd):Option bF :=
 if n.kind=1 then sN s lat n.an
 else match (gN (yy s lat) (n.ae.getD 0 iJ)).2 with | none=>U ⟨2,0,(gN (yy s lat) (n.ae.getD 0 iJ)).1⟩ | some _=>ah
def qT(n:Nd):bF:=⟨if n.kind=9 then 4 else 3,n.ae.length,.zero⟩
mutual
def kQ(s:aH)(lat:Nat):Nd->Option (List bF)
 | .mk k p t ws ks=>if k=1\/k=7 then(pr s lat (.mk k p t ws ks)).map λi=>[i] else(lq s lat ks).map λl=>l++[qT (.mk k p t ws ks)]
def lq(s:aH)(lat:Nat):List Nd->Option (List bF)
 | []=>U []
 | n::ns=>match kQ s lat n with | none=>ah | some l=>(lq s lat ns).map λm=>l++m
end
variable{lat:Nat}
def Ec{s:aH}(n:Nd):kQ s lat n=if n.kind=1\/n.kind=7 then(pr s lat n).map λi=>[i] else(lq s lat n.ae).map λl=>l++[qT n]:=by cases n;rw[kQ];rfl
def kR(s:aH)(lat:Int)(n:Nd):Option (List bF):=if 0<=lat/\lat<s.bc.length/\n.ei=aa then kQ s lat.toNat n else ah
def DA(s:aH)(lat:Nat)(f:Nd × Nat):Option (List bF) :=
 if f.1.kind=1\/f.1.kind=7 then(pr s lat f.1).map λi=>[i] else(lq s lat (f.1.ae.drop f.2)).map λl=>l++[qT f.1]
def aaz{s:aH}{n:Nd}:DA s lat (n,0)=kQ s lat n:=by rw[DA,Ec];simp
def vo(s:aH)(lat:Nat):List (Nd × Nat)->List bF->Option (List bF)
 | [],out=>U out
 | f::fs,out=>match DA s lat f with | none=>ah | some l=>vo s lat fs (out++l)
variable{d:Nat}{out:List bF}
def asX{s:aH}{n:Nd}{fs:List (Nd × Nat)}(h:¬(n.kind=1\/n.kind=7))(hd:d<n.ae.length):
 vo s lat ((n,d)::fs) out=vo s lat ((n.ae[d],0)::(n,d+1)::fs) out:=by
 simp only[vo,aaz];rw[DA,aB h,DA,aB h,mb hd,lq];cases kQ s lat n.ae[d] with
 | none=>rfl
 | some l =>
  cases lq s lat (n.ae.drop (d+1)) with
  | none=>rfl
  | some m=>simp only[yX,eY]
def asW{s:aH}{n:Nd}{fs:List (Nd × Nat)}(h:¬(n.kind=1\/n.kind=7))(hd:n.ae.length<=d):
 vo s lat ((n,d)::fs) out=vo s lat fs (out++[qT n]):=by
 simp only[vo];rw[DA,aB h,L8 hd,lq];rfl
def asY{s:aH}{n:Nd}{fs:List (Nd × Nat)}(h:n.kind=1\/n.kind=7):
 vo s lat ((n,d)::fs) out=match pr s lat n with | none=>ah | some i=>vo s lat fs (out++[i]):=by
 simp only[vo];rw[DA,aL h];cases pr s lat n<;>rfl
def sC:List (Nd × Nat)->Nat
 | []=>0
 | f::fs=>2*iD (f.1.ae.drop f.2)+1+sC fs
def Nd.sW(n:Nd):1+iD n.ae<=n.cW:=by cases n;simp only[Nd.cW,Nd.ae];omega
def Y3{n:Nd}{fs:List (Nd × Nat)}(hd:d<n.ae.length):sC ((n.ae[d],0)::(n,d+1)::fs)<sC ((n,d)::fs):=by
 simp only[sC,L9]
 have:=Nd.sW n.ae[d]
 rw[mb hd,iD];omega
mutual
def MT{s:aH}{lat:Nat}:∀(n:Nd) {l:List bF},kQ s lat n=U l->l.length<=n.cW
 | .mk k p t ws ks, l, h => by
  rw[kQ] at h;split at h
  .simp only[ec] at h;obtain⟨i,_,rfl⟩:=h;simp only[Nd.cW,da,cZ];omega
  .simp only[ec] at h;obtain⟨m,hm,rfl⟩:=h
   have:=I7 ks hm
   simp only[Nd.cW,bL,da,cZ];omega
def I7{s:aH}{lat:Nat}:∀(ks:List Nd) {l:List bF},lq s lat ks=U l->l.length<=iD ks
 | [],l,h=>by rw[lq] at h;cases h;simp
 | n :: ns, l, h => by
  rw[lq] at h;cases hn:kQ s lat n with
  | none=>rw[hn] at h;simp at h
  | some a =>
   rw[hn] at h;simp only[ec] at h;obtain⟨b,hb,rfl⟩:=h
   have:=MT n hn
   have:=I7 ns hb
   simp only[iD,bL];omega
end
def UY{s:aH}{lat:Nat}{n:Nd}:∀{l:List Nd} {a b:List bF},lq s lat l=U a->kQ s lat n=U b->lq s lat (l++[n])=U (a++b)
 | [],a,b,h1,h2=>by rw[lq] at h1;cases h1;simp[lq,h2]
 | m :: l, a, b, h1, h2 => by
  rw[lq] at h1;cases hm:kQ s lat m with
  | none=>rw[hm] at h1;simp at h1
  | some c =>
   rw[hm] at h1;simp only[ec] at h1;obtain⟨d,hd,rfl⟩:=h1;rw[gY,lq,hm,UY hd h2];simp
def UX{s:aH}{lat:Nat}{n:Nd}:∀{l:List Nd},n∈l->kQ s lat n=ah->lq s lat l=ah
 | [],h,_=>by simp at h
 | m :: l, h, h2 => by
  rw[lq]
  rcases m_.1 h with rfl | h
  .rw[h2]
  .cases kQ s lat m with
   | none=>rfl
   | some a=>simp only;rw[UX h h2];rfl
def Ea(n:Nd):n.ak.length<=n.cW:=by cases n;simp only[Nd.cW,Nd.ak];omega
def UP{m:Nd}:∀{l:List Nd},m∈l->m.cW<=iD l
 | [],h=>by simp at h
 | n :: l, h => by
  simp only[iD]
  rcases m_.1 h with rfl | h
  .omega
  .have:=UP h;omega
def me{n m:Nd}(h:m∈n.ae):m.cW<n.cW:=by
 have:=UP h
 have:=Nd.sW n;omega
def MR:∀(l:List Nd),l.length<=iD l
 | []=>by simp
 | n :: l => by
  have:=MR l
  have:=Nd.sW n
  simp only[iD,da];omega
def xK(n:Nd):n.ae.length<=n.cW:=by
 have:=MR n.ae
 have:=Nd.sW n;omega
def aH.ok(s:aH):Prop:=s.bc.length<=100000/\s.vars.length<=100000/\∀l∈s.bc,l.shape.ok
theorem PZ{n:Nd}(h:n.ei=aa)(h1:¬(n.kind=1\/n.kind=7)):∀m∈n.ae,m.ei=true:=by
 rw[Nd.uI,aB (λe=>h1 (.inl e)),aB (λe=>h1 (.inr e))] at h
 grind
theorem Da{n:Nd}(h:n.ei=aa)(h1:n.kind=7):n.ae.length=1:=by
 rw[Nd.uI,aB (by rw[h1];decide),aL h1] at h
 grind
theorem agv(s:aH)(lat:Int)(n:Nd):((kR s lat n).getD []).length<=n.cW:=by
 cases h:kR s lat n with
 | none=>simp
 | some l =>
  rw[kR] at h;split at h
  .exact MT n h
  .grind
def ayc(s:bA)(op:Int)(a b:br):br:=if op=3 then am0 s a b else aoX a b
structure aM where
 cls:Int
 au:Int
def aM.zero:aM:=⟨0,0⟩
def aM.ext'{a b:aM}(h:a.cls=b.cls)(k:a.au=b.au):a=b:=by cases a;cases b;simp only at h k;subst h;subst k;rfl
instance:DecidableEq aM:=λa b=>if h:a.cls=b.cls/\a.au=b.au then isTrue (aM.ext' h.1 h.2) else isFalse λe=>h ⟨e▸rfl,e▸rfl⟩
def aM.enc(f:aM):List V:=[.int .i64 f.cls,.int .i64 f.au]
section
variable {f g:aM} {n:Nat} {a b:V}
theorem aM.dG:f.enc.length=2:=rfl
theorem aM.iS:c8 f.enc=true:=rfl
theorem aM.dT:bK f.enc=true:=rfl
theorem aM.dW:a9 f.enc=f.enc:=rfl
theorem aM.bR:bE n f.enc=true:=rfl
theorem aM.gI:takeN 2 f.enc=U f.enc:=rfl
theorem aM.jE:bP aa 2 f.enc=U (.agg f.enc):=rfl
theorem aM.jc:cB 2 f.enc=true:=rfl
theorem aM.iK:over g.enc f.enc=f.enc:=rfl
theorem aM.asG:over [a,b] f.enc=f.enc:=rfl
theorem aM.Rg:bP aq 1 f.enc=U (.int .i64 f.cls):=rfl
theorem aM.r_p:bP aq 1 (f.enc.drop 1)=U (.int .i64 f.au):=rfl
def aM.sI:hZ [1,1] f.enc g.enc=U (decide (f=g)):=by
 rw[aM.enc,aM.enc,xR,xR,Nb,ve,ve];congr 1;rw[uZ,<-DQ];exact xM.2 ⟨λh=>aM.ext' h.1 h.2,λh=>h▸⟨rfl,rfl⟩⟩
def aM.al:=ag @aM.dG <| ag @aM.iS <| ag @aM.dT <| ag @aM.dW <| ag @aM.bR <| ag @aM.gI <| ag @aM.jE <| ag @aM.jc <| ag @aM.iK <| ag @aM.asG <| ag @aM.Rg <| ag @aM.r_p @aM.sI
end
def qN(AQ f:aM):Bool:=decide (AQ.cls=0)||decide (f.cls<AQ.cls)||(decide (f.cls=AQ.cls)&&decide (f.au<AQ.au))
def j7(AQ f:aM):aM:=if f.cls=0 then AQ else if qN AQ f then f else AQ
def fH(l:List aM):aM:=l.foldl j7 .zero
def tB(a b:aM):Prop:=a.cls<b.cls\/(a.cls=b.cls/\a.au<=b.au)
def Ky(a:aM):tB a a:=.inr ⟨rfl,Int.le_refl _⟩
def Yk{a b c:aM}(h:tB a b)(k:tB b c):tB a c:=by unfold tB at *;omega
def anM{a b:aM}(h:tB a b)(k:tB b a):a=b:=by unfold tB at *;exact aM.ext' (by omega) (by omega)
theorem Ho:∀(l:List aM) (o:aM),(l.foldl j7 o=o\/(l.foldl j7 o∈l/\(l.foldl j7 o).cls≠0))/\(o.cls≠0->(l.foldl j7 o).cls≠0/\tB (l.foldl j7 o) o)/\∀f∈l,f.cls≠0->(l.foldl j7 o).cls≠0/\tB (l.foldl j7 o) f
 | [],o=>⟨.inl rfl,λh=>⟨h,Ky o⟩,by simp⟩
 | f :: l, o => by
  obtain⟨h1,h2,h3⟩:=Ho l (j7 o f);rw[AA];have hb:j7 o f=o\/(j7 o f=f/\f.cls≠0):=by
   unfold j7
   grind
  have ho:o.cls≠0->(j7 o f).cls≠0/\tB (j7 o f) o:=λh=>by
   unfold j7
   by_cases hf:f.cls=0
   .rw[aL hf];exact⟨h,Ky o⟩
   .rw[aB hf];split
    .rename_i hl;refine⟨hf,?_⟩;simp only[qN,qx,bO,cU] at hl;unfold tB;omega
    .exact⟨h,Ky o⟩
  have hf:f.cls≠0->(j7 o f).cls≠0/\tB (j7 o f) f:=λh=>by
   unfold j7;rw[aB h];split
   .exact⟨h,Ky f⟩
   .rename_i hl;simp only[qN,qx,bO,cU] at hl;unfold tB;omega
  refine⟨?_,λh=>?_,λg hg hc=>?_⟩
  .grind
  .obtain⟨k1,k2⟩:=ho h;obtain⟨k3,k4⟩:=h2 k1;exact⟨k3,Yk k4 k2⟩
  .rcases m_.1 hg with rfl | hg
   .obtain⟨k1,k2⟩:=hf hc;obtain⟨k3,k4⟩:=h2 k1;exact⟨k3,Yk k4 k2⟩
   .grind
def Yq{a b:List aM}(h:∀f,f.cls≠0->(f∈a↔f∈b)):fH a=fH b:=by
 obtain⟨a1,_,a3⟩:=Ho a .zero;obtain⟨b1,_,b3⟩:=Ho b .zero;show a.foldl j7 .zero=b.foldl j7 .zero;generalize a.foldl j7 .zero=x at a1 a3;generalize b.foldl j7 .zero=y at b1 b3
 rcases a1 with rfl | ⟨a1,a2⟩
 .rcases b1 with rfl | ⟨b1,b2⟩
  .rfl
  .exact absurd rfl (a3 y ((h y b2).2 b1) b2).1
 .rcases b1 with rfl | ⟨b1,b2⟩
  .exact absurd rfl (b3 x ((h x a2).1 a1) a2).1
  .exact anM (a3 y ((h y b2).2 b1) b2).2 (b3 x ((h x a2).1 a1) a2).2
def P_{a:List aM}(h:(fH a).cls=0):fH a = .zero/\∀f∈a,f.cls=0:=by
 obtain⟨a1,_,a3⟩:=Ho a .zero;refine⟨?_,λf hf=>Classical.byContradiction λhc=>(a3 f hf hc).1 h⟩
 rcases a1 with e | ⟨_,e⟩
 .exact e
 .exact absurd h e
theorem Yr{a:List aM}(h:∀f∈a,f.cls=0):fH a = .zero:=by
 rcases(Ho a .zero).1 with e | ⟨e,e'⟩
 .exact e
 .grind
def Ys{l:List aM}(hi:i<l.length):fH (l.take (i+1))=j7 (fH (l.take i)) l[i]:=by rw[fH,iB hi,B8];rfl
theorem Nn{l:List dR}{t:List UInt8}(h:jt l t=U k):k<l.length:=by
 unfold jt at h
 grind
structure Wht where
 lat:Int
 v:List br
 w:List br
def pG(v r:V):List V->List V->Prop
 | [],[]=>True
 | x::xs,y::ys=>(y=x\/(x=v/\y=r)\/y = .any)/\pG v r xs ys
 | _,_=>False
theorem pG.RL{E E' : Env}{v r:V}(hle:E.le E')(h:∀u,R E v u->R E' r u):∀{t t' : List V} {vs:List Value},pG v r t t' -> RL E t vs->RL E' t' vs
 | [],[],[],_,_=>by simp only[Go.Am.RL]
 | [],[],_::_,_,k=>by simp[Go.Am.RL] at k
 | [],_::_,_,k,_=>by simp[pG] at k
 | _::_,[],_,k,_=>by simp[pG] at k
 | _::_,_::_,[],_,k=>by simp[Go.Am.RL] at k
 | x :: xs, y :: ys, u :: us, k, k2 => by
  simp only[pG] at k;simp only[Go.Am.RL] at k2 ⊢;refine⟨?_,pG.RL hle h k.2 k2.2⟩
  rcases k.1 with rfl | ⟨rfl,rfl⟩ | rfl
  .exact R.mono _ hle k2.1
  .grind
  .simp only[R]
theorem aks{r:V}:pG v r [] []=True:=rfl
theorem V'{r x y:V}{xs:List V}:pG v r (x::xs) (y::ys)=((y=x\/(x=v/\y=r)\/y = .any)/\pG v r xs ys):=rfl
def Wa{v r:V}:∀{l:List V},pG v r l l=True
 | []=>rfl
 | x::l=>by rw[V',Wa];simp
def xP{F:Nat->G->St}{J:Nat->G->Prop}(n:Nat)(h:∀D,Z.aS D=ah->∃x,J 0 x/\fG D n t (F 0 x).t/\l=(F 0 x).au/\(F 0 x).out=Z.aU D n):DR F J ⟨t,l,Z⟩ :=
 (a7.uQ (ι:={x // J 0 x}) (I:=λx=>F 0 x.1) n λD aW=>by
   obtain⟨x,h1,h2,h3,h4⟩:=h D aW;exact⟨⟨x,h1⟩,h2,h3,h4⟩).mono λ_ ⟨x,e⟩=>⟨x.1,x.2,e⟩
def Ay(D n:Nat):List (List V)->List (List V)->Prop
 | [],[]=>True
 | c::l,c' :: l' => fG D n c c' /\ Ay D n l l'
 | _,_=>False
variable{D:Nat}
def Ay.spec{n:Nat}:∀{l l' : List (List V)},Ay D n l l' -> l.length=l'.length/\∀(i:Nat) c',l'[i]?=U c' -> ∃c,l[i]?=U c/\fG D n c c'
 | [],[],_=>⟨rfl,λi c' h=>by simp at h⟩
 | [],_::_,h=>h.elim
 | _::_,[],h=>h.elim
 | c :: l, c' :: l', h => by
  obtain⟨h1,h2⟩:=Ay.spec h.2;refine⟨by simp[h1],λi d hd=>?_⟩;cases i with
  | zero=>simp at hd;subst hd;exact⟨c,rfl,h.1⟩
  | succ i=>exact h2 i d (by simpa using hd)
theorem aor{n:Nat}:Ay D n [] []=True:=rfl
variable{l':List (List V)}
theorem aoq{n:Nat}{c':List V}:Ay D n (c::l) (c' :: l')=(fG D n c c' /\ Ay D n l l'):=rfl
def De:=ag @aor @aoq
def Cp{F:Nat->G->St}{J:Nat->G->Prop}(n:Nat)(h:∀D,Z.aS D=ah->∃x,J 0 x/\fG D n t (F 0 x).t/\Ay D n l (F 0 x).au/\(F 0 x).out=Z.aU D n):DR F J ⟨t,l,Z⟩ :=
 a7.tok n λD aW=>by
  obtain⟨x,h1,h2,h3,h4⟩:=h D aW;obtain⟨k1,k2⟩:=h3.spec;exact⟨_,_,Z,h2,k1,k2,rY.rfl,x,h1,by rw[<-h4]⟩
def a7.apk(h:∀D,Z.aS D=ah->K ⟨t,l,Z.aU D 0⟩):a7 ⟨t,l,Z⟩ K :=
 a7.tok 0 λD aW=>⟨t,l,Z,fG.rfl,rfl,λ_ c' hc=>⟨c',hc,fG.rfl⟩,rY.rfl,h D aW⟩
def Gu:=ag @aks <| ag @V' @Wa
theorem Tv{E:Env}{b:Nat}{cs:List V}(hc:∀(j:Nat) x,cs[j]?=U x->∃v,E.w.cell? ⟨b,j,ah⟩=U v/\(E.bg b).jq j/\R E x v) :
 ∀(xs:List V) (p:Nat),(∀(j:Nat) x,xs[j]?=U x->cs[p+j]?=U x)->c8 xs=aa->fz E xs b p
 | [],_,_,_=>by simp[fz]
 | x :: xs, p, hp, ho => by
  simp only[c8,bO] at ho;simp only[fz];obtain⟨v,v1,v2,v3⟩:=hc p x (by have:=hp 0 x rfl;simpa using this);refine⟨⟨v,v1,v2,Dr (E:=E) (xs:=[x]) (vs:=[v]) (by simp only[RL];exact⟨v3,trivial⟩) (by simp[c8,ho.1]) v (by simp),v3⟩,Tv hc xs (p+1) (λj y hy=>?_) ho.2⟩
  have:=hp (j+1) y (by simpa using hy)
  grind
def HD:∀{a b:List V},c8 (a++b)=(c8 a&&c8 b)
 | [],b=>by simp[c8]
 | x::a,b=>by simp[c8,HD,LV]
theorem Tw{E:Env}{b k:Nat}{cs:List V}(hc:∀(j:Nat) x,cs[j]?=U x->∃v,E.w.cell? ⟨b,j,ah⟩=U v/\(E.bg b).jq j/\R E x v) :
 ∀(rows:List (List V)) (p:Nat),(∀(j:Nat) x,rows.flatten[j]?=U x->cs[p+j]?=U x)->c8 rows.flatten=aa->(∀r∈rows,r.length=k)->iC E k rows b p
 | [],_,_,_,_=>by simp[iC]
 | r :: rows, p, hp, ho, hr => by
  rw[lj,HD,bO] at ho;have hl:=hr r (by simp);simp only[iC];refine⟨hl,Tv hc r p (λj x hx=>?_) ho.1,Tw hc rows (p+k) (λj x hx=>?_) ho.2 λq hq=>hr q (by simp[hq])⟩
  .grind
  .have:=hp (k+j) x (by rw[lj,Te (by omega),hl,Tr];exact hx)
   grind
def delta(l:List Tok)(i:Nat):Int:=(if closing (eP l i)≠0 then 1 else 0) - (if lM (eP l i)=aa then 1 else 0)
theorem w8{l:List Tok}{x n:Nat}{d:Int}:jy l x (n+1) i d=if d+delta l i=0 then i else jy l x n (i+1) (d+delta l i):=by
 simp only[jy,delta]
 grind
def Vb(l:List Tok)(i:Nat) : -1<=delta l i:=by unfold delta;split<;>split<;>omega
theorem Gi{l:List Tok}(h:closing (eP l i)≠0):delta l i=1:=by
 unfold delta
 have:lM (eP l i)=false:=by
  unfold closing at h;unfold lM
  grind
 grind
def QY{l:List Tok}{x:Nat}:∀(n i:Nat) (d:Int),jy l x n i d=x\/i<=jy l x n i d
 | 0,_,_=>.inl rfl
 | n + 1, i, d => by
  rw[w8];split
  .simp
  .rcases QY n (i+1) (d+delta l i) with h | h
   .exact .inl h
   .omega
theorem scan{l:List Tok}{x j:Nat}:∀(n i:Nat) (d:Int),i+n=l.length->1<=d->x<i->i<=j->j<jy l x n i d->∃d',1<=d' /\ jy l x n i d=jy l x (l.length - j) j d'
 | 0,i,d,_,_,hx,hj,h=>by simp only[jy] at h;omega
 | n + 1, i, d, hl, hd, hx, hj, h => by
  by_cases Xb:i=j
  .grind
  rw[w8] at h ⊢;split at h
  .omega
  .rename_i he;rw[aB he]
   have:=Vb l i
   exact scan n (i+1) _ (by omega) (by omega) (by omega) (by omega) h
def less{l:List Tok}{x y:Nat}:∀(n p:Nat) (a b:Int),1<=a->a<b->y<p->x<p->p<=jy l x n p b->jy l y n p a<jy l x n p b
 | 0,p,a,b,_,_,_,hx,h=>by simp only[jy] at h;omega
 | n + 1, p, a, b, ha, hb, hy, hx, h => by
  have hd:=Vb l p;simp only[w8] at h ⊢;rw[aB (show ¬b+delta l p=0 by omega)] at h ⊢;have h2:p+1<=jy l x n (p+1) (b+delta l p):=by rcases QY (l:=l) (x:=x) n (p+1) (b+delta l p) with e | e<;>omega
  split
  .omega
  .exact less n (p+1) _ _ (by omega) (by omega) (by omega) (by omega) h2
def nest{l:List Tok}(hi:closing (eP l i)≠0)(hj:closing (eP l j)≠0)(h1:i<j)(h2:j<partner l i)(hl:i<l.length):partner l j<partner l i:=by
 have hp:=HL hl;have e:partner l i=jy l i (l.length - i - 1) (i+1) 1:=by
  unfold partner;rw[show l.length - i=(l.length - i - 1)+1 by omega,w8,Gi hi];simp
 rw[e] at h2;obtain⟨d,hd,e2⟩:=scan (l.length - i - 1) (i+1) 1 (by omega) (by omega) (by omega) (by omega) h2;have e3:jy l i (l.length - j) j d=jy l i (l.length - j - 1) (j+1) (d+1):=by
  rw[show l.length - j=(l.length - j - 1)+1 by omega,w8,Gi hj,aB (by omega)];simp
 have e4:partner l j=jy l j (l.length - j - 1) (j+1) 1:=by
  unfold partner;rw[show l.length - j=(l.length - j - 1)+1 by omega,w8,Gi hj];simp
 rw[e,e2,e3,e4];rw[e2,e3] at h2;exact less _ _ _ _ (by omega) (by omega) (by omega) (by omega) (by rcases QY (l:=l) (x:=i) (l.length - j - 1) (j+1) (d+1) with e | e<;>omega)
def adC(l:List Tok)(i to:Nat):Prop:=∀j,i<=j->j<to->closing (eP l j)≠0->partner l j<to
def LA{l:List Tok}:∀(n i to:Nat),to<=l.length->adC l i to->bj (kB l n i to)<=to - i
 | 0,_,_,_,_=>by simp[kB,bj]
 | n + 1, i, to, hl, hw => by
  rw[kB];split
  .rename_i hi;split
   .rename_i hc;have hp:=HL (l:=l) (i:=i) (by omega);have hq:=hw i (bU _) hi hc;have h1:=LA n (i+1) (partner l i) (by omega) λj a b c=>nest hc c (by omega) b (by omega)
    have h2:=LA n (partner l i+1) to hl λj a b c=>hw j (by omega) b c
    simp only[bj,aA.many];omega
   .have h2:=LA n (i+1) to hl λj a b c=>hw j (by omega) b c
    simp only[bj,aA.many];omega
  .simp[bj]
def xB(t:Tok):Prop:=(t.kind=97/\dp t.an=aa)\/(t.kind≠97/\t.an=[UInt8.ofNat t.kind.toNat])
theorem EY:∀(n p:Nat) (r:List UInt8) (acc:List Tok),(∀t∈acc,xB t)->∀t∈(fO n p r acc).1,xB t
 | 0,_,r,acc,h=>by cases r<;>simpa [fO] using h
 | n+1,p,[],acc,h=>by simpa [fO] using h
 | n + 1, p, c :: r, acc, h => by
  simp only[fO];split
  .exact h
  .split
   .rename_i hr;refine EY n _ _ _ λt ht=>?_
    rcases lk.1 ht with ht | ht
    .grind
    .rw[u7.1 ht];exact .inl ⟨rfl,hr.2⟩
   .split
    .rename_i hs;refine EY n _ _ _ λt ht=>?_
     rcases lk.1 ht with ht | ht
     .grind
     .rw[u7.1 ht];refine .inr ⟨λe=>?_,?_⟩
      .simp only at e;rw[e] at hs;revert hs;decide
      .simp
    .split
     .exact EY n _ _ _ h
     .simp
mutual
def aA.Good:aA->Prop
 | .mk t ks _=>xB t/\(closing t.kind=0->ks=[])/\fV ks
def fV:List aA->Prop
 | []=>True
 | t::ts=>t.Good/\fV ts
end
def NK:∀{a b:List aA},fV (a++b)↔fV a/\fV b
 | [],b=>by simp[fV]
 | t::ts,b=>by simp only[gY,fV,NK (a:=ts),Mu]
def A5(t:aA):t.Good↔xB t.tok/\(closing t.tok.kind=0->t.ae=[])/\fV t.ae:=by cases t;simp only[aA.Good,aA.tok,aA.ae]
theorem Lz{l:List Tok}(h:∀t∈l,xB t):∀(n i to:Nat),to<=l.length->fV (kB l n i to)
 | 0,_,_,_=>by simp[kB,fV]
 | n + 1, i, to, hl => by
  rw[kB];split
  .rename_i hi;have ht:xB (jG l i):=by
    have e:jG l i=l[i]:=by simp[jG,bY (show i<l.length by omega)]
    grind
   have hk:(jG l i).kind=eP l i:=by simp only[jG,eP];split<;>rfl
   split
   .rename_i hc;have hp:=HL (l:=l) (i:=i) (by omega);simp only[fV,aA.Good];exact⟨⟨ht,λe=>absurd (hk▸e) hc,Lz h n _ _ (by omega)⟩,Lz h n _ _ hl⟩
   .simp only[fV,aA.Good];exact⟨⟨ht,λ_=>trivial,trivial⟩,Lz h n _ _ hl⟩
  .exact trivial
def YG(s:List UInt8):fV (iy (eH s).1).1:=by
 unfold iy;split
 .exact trivial
 .exact Lz (EY _ _ _ _ (by simp)) _ _ _ (bU _)
theorem Qi(s:List UInt8):bj (iy (eH s).1).1<=s.length:=by
 have hl:=Qd s;unfold iy;split
 .simp[bj]
 .have:=LA (l:=(eH s).1) (eH s).1.length 0 (eH s).1.length (bU _) λj _ hj _=>(HL hj).2
  grind
theorem avI{t:Tok}(h:xB t):t.an.length<=16:=by
 rcases h with ⟨_,h⟩ | ⟨_,h⟩
 .unfold dp at h;simp only[bO,cU] at h;exact h.1
 .grind
structure jQ(r r' : af)(seg:List aA):Prop where
 ex:∃pre post,r.l=pre++seg++post/\r.at_=(pre.length:Nat)/\r'.at_=((pre++seg).length:Nat)
 l:r'.l=r.l
 b:r.aO=ah
 b' : r'.aO=ah
variable{r:af}
theorem jQ.trans{r' r'':af}{a b:List aA}(h:jQ r r' a)(k:jQ r' r'' b):jQ r r'' (a++b):=by
 obtain⟨pre,post,e1,e2,e3⟩:=h.ex;obtain⟨Z_,Z9,f1,f2,f3⟩:=k.ex;refine⟨⟨pre,Z9,?_,e2,?_⟩,k.l.trans h.l,h.b,k.b'⟩
 .have hl:(pre++a).length=Z_.length:=by omega
  have:pre++a++post=Z_ ++ (b++Z9):=by rw[<-e1,<-h.l,f1,eY]
  obtain⟨g1,g2⟩:=List.append_inj this hl
  grind
 .grind
theorem jQ.lu{r':af}{a:List aA}(h:jQ r r' a)(hg:fV r.l):fV a:=by
 obtain⟨pre,post,e1,_,_⟩:=h.ex;rw[e1,NK,NK] at hg
 grind
theorem q_{k:Int}(h:(r.take k).2.aO=ah):jQ r (r.take k).2 [(r.take k).1]/\(r.take k).1.tok.kind=k:=by
 rcases r.xi k with ⟨hs,h1,h2,h3,h4⟩ | ⟨_,_,h1⟩
 .have eG := hs;simp only[af.cH,af.ok,bd,bO,cU,F6] at eG;have az:r.at_.toNat<r.l.length:=by omega
  have e:(r.take k).1=r.l[r.at_.toNat]:=by simp[af.take,hs,List.getD,bY az]
  refine⟨⟨⟨r.l.take r.at_.toNat,r.l.drop (r.at_.toNat+1),?_,?_,?_⟩,r.gW k,eG.1,h2⟩,?_⟩
  .simp_all
  .grind
  .grind
  .grind
 .grind
def kg(l:List aA):Nat:=26*bj l
def Ae(a b:List aA):kg (a++b)=kg a+kg b:=by simp only[kg,vU];omega
def xh(t:aA):kg [t]=26+kg t.ae:=by simp only[kg,bj,Qu];omega
def acj{t:Tok}(ht:t.kind≠97):∀(a:List Tok) (k:Option Int) (b:List Tok),kj k (a++t::b)=kj k a++t.an++kj ah b
 | [], k, b => by
  simp only[gK,kj,ht,and_false,cz];cases b with
  | nil=>rfl
  | cons u us=>simp only[kj,bq,ht,Ej,cz,reduceCtorEq]
 | x::xs,k,b=>by simp only[gY,kj,acj ht xs (U x.kind) b,eY]
def Sk{t:Tok}(ht:t.kind≠97)(a b:List Tok):gu (a++t::b)=gu a++t.an++gu b:=acj ht a ah b
def jK:∀a b:List aA,bM (a++b)=bM a++bM b
 | [],b=>rfl
 | t::ts,b=>by simp only[gY,bM,jK ts b,eY]
def Jj(t:aA):bM [t]=t.tok::(if closing t.tok.kind≠0 then bM t.ae++[⟨closing t.tok.kind,[UInt8.ofNat (closing t.tok.kind).toNat],t.fin⟩] else []):=by
 cases t;simp only[bM,aA.flat,eC,aA.tok,aA.ae,aA.fin];rfl
def Ai{t:aA}(hk:t.tok.kind≠97)(hc:closing t.tok.kind=0)(a b:List aA):gu (bM (a++[t]++b))=gu (bM a)++t.tok.an++gu (bM b):=by
 rw[jK,jK,Jj,hc];simp only[tE,Dp,cz,eY,rf];rw[<-eY (gu (bM a))];exact Sk hk _ _
def avD{t:aA}(hk:t.tok.kind=97):gu (bM [t])=t.tok.an:=by
 rw[Jj,hk,show closing 97=0 from rfl];simp[gu,kj]
def FC{t:aA}(hc:closing t.tok.kind≠0):gu (bM [t])=t.tok.an++gu (bM t.ae)++[UInt8.ofNat (closing t.tok.kind).toNat]:=by
 have hk:t.tok.kind≠97:=λe=>hc (by rw[e];rfl)
 have si:closing t.tok.kind≠97:=by unfold closing;split;omega;split;omega;omega
 rw[Jj,aL hc];have h1:=Sk hk [] (bM t.ae++[⟨closing t.tok.kind,[UInt8.ofNat (closing t.tok.kind).toNat],t.fin⟩]);rw[gK] at h1;rw[h1,Sk si];simp[gu,kj]
def Sound(one:af->β × af)(T:β->List UInt8)(Q:β->Prop)(S:β->Nat):Prop :=
 ∀r,fV r.l->(one r).2.aO=ah->∃seg,jQ r (one r).2 seg/\gu (bM seg)=T (one r).1/\Q (one r).1/\S (one r).1<=kg seg
theorem Wk{step:af × List β->af × List β}:∀{n:Nat} {a:af × List β},(j9 step n a).1.aO=ah->a.1.aO=ah
 | 0,a,h=>h
 | n + 1, a, h => by
  rw[j9] at h;split at h
  .rename_i hs;simp only[af.cH,af.ok,bO,F6] at hs
   grind
  .exact h
section
variable {β:Type} {one:af->β × af} {T:β->List UInt8} {Q:β->Prop} {S:β->Nat}
structure Has(T:β->List UInt8)(Q:β->Prop)(S:β->Nat)(seg:List aA)(xs:List β):Prop where
 t:gu (bM seg)=b_ (xs.map T)
 q:∀x∈xs,Q x
 s:(xs.map S).sum<=kg seg
 n:0<xs.length
theorem Wn(hs:Sound one T Q S){r:af}(hg:fV r.l):∀{n:Nat} {a:af × List β} {seg:List aA},jQ r a.1 seg->Has T Q S seg a.2->(j9 (cV one) n a).1.aO=ah ->
 ∃abF,jQ r (j9 (cV one) n a).1 abF /\ Has T Q S abF (j9 (cV one) n a).2
 | 0,a,seg,h,k,_=>⟨seg,h,k⟩
 | n + 1, a, seg, h, k, hb => by
  rw[j9] at hb ⊢;split
  .rename_i amg;rw[aL amg] at hb;have dX:=Wk hb;have zu:fV (a.1.take 44).2.l:=by rw[af.gW,h.l];exact hg
   obtain⟨sg,e1,e2,e3,e4⟩:=hs (a.1.take 44).2 zu dX;obtain⟨t1,t2⟩:=q_ e1.b;refine Wn hs hg (seg:=seg++[(a.1.take 44).1]++sg) ?_ ?_ hb
   .exact(h.trans t1).trans e1
   .have nG:fV [(a.1.take 44).1]:=t1.lu (by rw[h.l];exact hg);have cw:=((A5 _).1 nG.1).1;have wK:(a.1.take 44).1.tok.an=[44]:=by
     rcases cw with ⟨h1,_⟩ | ⟨_,h1⟩
     .omega
     .simp_all
    refine⟨?_,?_,?_,?_⟩
    .rw[Ai (by rw[t2];decide) (by rw[t2];rfl),k.t,e2,wK];simp only[cV,gm,cQ,fp];rw[PQ,aL (by simpa using k.n)]
    .intro x hx
     rcases lk.1 hx with hx | hx
     .exact k.q x hx
     .grind
    .have:=k.s
     simp only[cV,gm,cQ,fp,List.sum_append,pJ,u9,Ae];omega
    .simp[cV]
  .grind
theorem ab5(hs:Sound one T Q S)(hg:fV r.l)(hb:(fy (cV one) r).1.aO=ah):∃seg,jQ r (fy (cV one) r).1 seg/\Has T Q S seg (fy (cV one) r).2:=by
 unfold fy at hb ⊢;have dX:=Wk hb;obtain⟨sg,e1,e2,e3,e4⟩:=hs r hg dX;refine Wn hs hg e1 ?_ hb;refine⟨?_,?_,?_,?_⟩
 .simp only[cV,gK,cQ,fp,b_,L_,eC];exact e2
 .intro x hx;simp only[cV,gK,u7] at hx
  grind
 .simp only[cV,gK,cQ,fp,pJ,u9];omega
 .simp[cV]
def MO{i:af}(h:i.close.aO=ah):i.aO=ah/\¬i.at_<i.l.length:=by
 unfold af.close at h;split at h
 .exact absurd h i.Jh
 .rename_i hc;refine⟨h,λhl=>hc ⟨by simp[af.ok,h],hl⟩⟩
def TN{t:aA}{i:af}{seg:List aA}(h:jQ t.inner i seg)(hc:i.close.aO=ah):seg=t.ae:=by
 obtain⟨pre,post,e1,e2,e3⟩:=h.ex;obtain⟨_,h2⟩:=MO hc;have hp:pre=[]:=by
  have:t.inner.at_=0:=rfl
  rw[this] at e2;exact m0.1 (by omega)
 subst hp;have hq:post=[]:=by
  rw[h.l,e3,e1] at h2;simp only[gK,bL] at h2;exact m0.1 (by omega)
 subst hq;simpa [aA.inner] using e1.symm
variable{e:Bool}
theorem MI(hs:Sound one T Q S){k:Int}(hg:fV r.l)(hb:(r.bracket (cV one) k e).2.aO=ah):
 ∃t,jQ r (r.bracket (cV one) k e).2 [t]/\t.tok.kind=k/\gu (bM t.ae)=b_ ((r.bracket (cV one) k e).1.1.map T)/\(∀x∈(r.bracket (cV one) k e).1.1,Q x)/\((r.bracket (cV one) k e).1.1.map S).sum<=kg t.ae /\
  (e=aq->0<(r.bracket (cV one) k e).1.1.length):=by
 unfold af.bracket at hb ⊢;split
 .rename_i cw;rw[aL cw] at hb;have dX:(r.take k).2.aO=none:=by simpa [af.ok] using cw
  obtain⟨t1,t2⟩:=q_ dX;have nG:(r.take k).1.Good:=(t1.lu hg).1;have wH:fV (r.take k).1.ae:=((A5 _).1 nG).2.2;have fv:(af.inside (cV one) e (r.take k).1).1.close.aO=none:=hb;refine⟨(r.take k).1,⟨t1.ex,t1.l,t1.b,hb⟩,t2,?_⟩;simp only;generalize (r.take k).1=t at *;unfold af.inside at fv ⊢;split
  .rename_i he;have hk:t.ae=[]:=m0.1 he.2;rw[hk];refine⟨rfl,by simp,by simp,λh=>?_⟩
   grind
  .rename_i he;rw[aB he] at fv;obtain⟨seg,e1,e2⟩:=ab5 hs (r:=t.inner) wH (MO fv).1;have O1:=TN e1 fv;subst O1;exact⟨e2.t,e2.q,e2.s,λ_=>e2.n⟩
 .rename_i cw;rw[aB cw] at hb;exact absurd hb (by simpa [af.ok] using cw)
end
variable{ws:List aC}
def ast(h:f_ ws=aa):(Nd.mk 3 p [] ws []).gg=true:=by rw[Nd.AR];simp[Nd.kind,Nd.an,Nd.ak,Nd.ae,h]
theorem asu(h:∀x∈ks,x.gg=aa)(h0:0<ks.length):(Nd.mk 4 p [] [] ks).gg=true:=by
 rw[Nd.AR];simp[Nd.kM,Nd.kind,Nd.an,Nd.ak,Nd.ae]
 grind
def asr(h:∀x∈ks,x.kZ=aa):(Nd.mk 5 p [] [] ks).gg=true:=by
 rw[Nd.AR];simp[Nd.kM,Nd.kind,Nd.an,Nd.ak,Nd.ae];exact h
def aal{n:Nd}(hk:n.kind=2)(h:n.lA=aa):n.gg=true:=by rw[Nd.AR,aL hk];exact h
def Rc{n:Nd}(hk:n.kind=1)(h:n.lA=aa):n.ei=true:=by rw[Nd.uI,aL hk];exact h
def asq{c:Nd}(h:c.gg=aa):(Nd.mk 7 p [] [] [c]).ei=true:=by rw[Nd.uI];simp[Nd.kM,Nd.kind,Nd.an,Nd.ak,Nd.ae,se,h]
def aak{k:Int}(hk:k=8\/k=9)(h:∀x∈ks,x.ei=aa)(h0:0<ks.length):(Nd.mk k p [] [] ks).ei=true:=by
 rw[Nd.uI]
 rcases hk with rfl | rfl
 all_goals
  simp[Nd.kM,Nd.kind,Nd.an,Nd.ak,Nd.ae];exact⟨h0,h⟩
theorem tN{t:aA}{k:Int}(hg:t.Good)(hk:t.tok.kind=k)(dy:k≠97):t.tok.an=[UInt8.ofNat k.toNat]:=by
 rcases((A5 _).1 hg).1 with ⟨h,_⟩ | ⟨_,h⟩
 .omega
 .grind
def Sm{t:aA}(hg:t.Good):t.tok.an.length<=16:=avI ((A5 _).1 hg).1
def SW(w:aC):Nat:=w.an.length+1
def SN(n:Nd):Nat:=n.wt+1
def yI:Sound af.word aC.an (λw=>dp w.an=aa) SW:=by
 intro r hg hb;obtain⟨t1,t2⟩:=q_ (show(r.take 97).2.aO=ah from hb);have nG:=(t1.lu hg).1;refine⟨[(r.take 97).1],t1,avD t2,?_,?_⟩
 .rcases((A5 _).1 nG).1 with ⟨_,h⟩ | ⟨h,_⟩
  .exact h
  .omega
 .have:=Sm nG
  rw[xh];simp only[SW,af.word];omega
theorem Hn{k:Int}(hk:k=1\/k=2):Sound (af.leaf k) Nd.dn (λn=>n.kind=k/\n.lA=aa) SN:=by
 intro r hg hb;obtain⟨seg,e1,e2,e3,e4⟩:=yI r hg hb;refine⟨seg,e1,?_,⟨rfl,?_⟩,?_⟩
 .rw[e2];simp only[af.leaf];rw[Nd.dn,aL hk]
 .simp only[af.leaf,Nd.lA,Nd.an,Nd.ak,Nd.ae];rw[e3];rfl
 .simp only[SW] at e4;simp only[af.leaf,SN,Nd.wt,fk,gd,fp,u9];obtain⟨t1,t2⟩:=q_ (show(r.take 97).2.aO=ah from hb);have hl:=Sm (t1.lu hg).1;have h0:26<=kg seg:=by
   obtain⟨pre,post,q1,q2,q3⟩:=e1.ex
   rcases seg with _ | ⟨t,ts⟩
   .exfalso
    obtain⟨p,q,r1,r2,r3⟩:=t1.ex
    have:r.word.2.at_=(r.take 97).2.at_:=rfl
    grind
   .simp only[kg,bj];omega
  have:r.word.1.an.length<=16:=hl
  omega
theorem axt(l:List aC):(l.map SW).sum=fk l:=rfl
def ac1(l:List Nd):(l.map SN).sum=gd l:=by rw[Ip];rfl
def Rx{l:List aC}(h:∀w∈l,dp w.an=aa):f_ l=true:=ma.2 h
variable{e:Bool}
def SG(hg:fV r.l)(hb:(r.words e).2.aO=ah):
 ∃t,jQ r (r.words e).2 [t]/\t.Good/\gu (bM [t])=[123]++gX (r.words e).1.1++[125]/\f_ (r.words e).1.1=aa/\fk (r.words e).1.1+26<=kg [t]:=by
 obtain⟨t,h1,h2,h3,h4,h5,_⟩:=MI (one:=af.word) yI (k:=123) (e:=e) hg hb;have nG:=(h1.lu hg).1;refine⟨t,h1,nG,?_,Rx h4,?_⟩
 .rw[FC (by rw[h2];decide),h3,tN nG h2 (by decide),h2];rfl
 .rw[axt] at h5;rw[xh];have e:fk (r.words e).1.1=fk (r.bracket (cV af.word) 123 e).1.1:=rfl;omega
def KO{one:af->Nd × af}{Q:Nd->Prop}(hs:Sound one Nd.dn Q SN){k:Int}(hk:k=40\/k=91)(hg:fV r.l)(hb:(r.nodes one k e).2.aO=ah):
 ∃t,jQ r (r.nodes one k e).2 [t]/\t.Good/\gu (bM [t])=[UInt8.ofNat k.toNat]++b_ (dV (r.nodes one k e).1.1)++[UInt8.ofNat (closing k).toNat]/\(∀x∈(r.nodes one k e).1.1,Q x)/\gd (r.nodes one k e).1.1+26<=kg [t] /\
  (e=aq->0<(r.nodes one k e).1.1.length):=by
 obtain⟨t,h1,h2,h3,h4,h5,h6⟩:=MI hs (k:=k) (e:=e) hg hb;have nG:=(h1.lu hg).1;refine⟨t,h1,nG,?_,h4,?_,h6⟩
 .rw[FC (by rw[h2];rcases hk with rfl | rfl<;>decide),h3,tN nG h2 (by omega),h2,Aj];rfl
 .rw[ac1] at h5;rw[xh];have e:gd (r.nodes one k e).1.1=gd (r.bracket (cV one) k e).1.1:=rfl;omega
theorem atO:Sound af.rP Nd.dn (λn=>n.kZ=aa) SN:=by
 intro r hg hb;have cF : ((r.word.2.take 58).2.words aa).2.aO=none:=hb;have l1:r.word.2.l=r.l:=r.gW 97;have l2:(r.word.2.take 58).2.l=r.l:=(af.gW _ 58).trans l1;obtain⟨t,h1,h2,h3,h4,h5⟩:=SG (by rw[l2];exact hg) cF;obtain⟨c1,c2⟩:=q_ h1.b;obtain⟨seg,e1,e2,e3,e4⟩:=yI r hg c1.b;have pY:=(c1.lu (by rw[l1];exact hg)).1;refine⟨seg++[(r.word.2.take 58).1]++[t],(e1.trans c1).trans h1,?_,?_,?_⟩
 .rw[Ai (by rw[c2];decide) (by rw[c2];rfl),e2,h3,tN pY c2 (by decide)];simp only[af.rP];rw[Nd.dn];simp
 .simp only[af.rP,Nd.kZ,Nd.kind,Nd.an,Nd.ak,Nd.ae]
  grind
 .simp only[af.rP,SN,Nd.wt,gd,Ae,xh];simp only[SW] at e4;simp only[xh] at h5;omega
def U6:∀n,Sound (af.constant n) Nd.dn (λm=>m.gg=aa) SN
 | 0 => λr hg hb => by
  obtain⟨seg,e1,e2,⟨e3,e5⟩,e4⟩:=Hn (.inr rfl) r hg hb;refine⟨seg,e1,e2,?_,e4⟩;exact aal e3 e5
 | n + 1 => λr hg hb => by
  simp only[af.constant] at hb ⊢;split
  .rename_i hs;rw[aL hs] at hb;obtain⟨t,h1,h2,h3,h4,h5⟩:=SG hg hb;refine⟨[t],h1,?_,?_,?_⟩
   .rw[h3,Nd.dn];simp
   .exact ast h4
   .simp only[SN,Nd.wt,gd,cZ];omega
  .rename_i hs;rw[aB hs] at hb;split
   .rename_i hs;rw[aL hs] at hb;obtain⟨t,h1,h2,h3,h4,h5,h6⟩:=KO (U6 n) (.inl rfl) hg hb;refine⟨[t],h1,?_,?_,?_⟩
    .rw[h3,Nd.dn];simp only[show(closing 40).toNat=41 from rfl];rfl
    .exact asu h4 (h6 rfl)
    .simp only[SN,Nd.wt,fk,fp,u9,cZ];omega
   .rename_i hs;rw[aB hs] at hb;split
    .rename_i hs;rw[aL hs] at hb;obtain⟨t,h1,h2,h3,h4,h5,h6⟩:=KO atO (.inr rfl) hg hb;refine⟨[t],h1,?_,?_,?_⟩
     .rw[h3,Nd.dn];simp only[show(closing 91).toNat=93 from rfl];rfl
     .exact asr h4
     .simp only[SN,Nd.wt,fk,fp,u9,cZ];omega
    .rename_i hs;rw[aB hs] at hb;obtain⟨seg,e1,e2,⟨e3,e5⟩,e4⟩:=Hn (.inr rfl) r hg hb;refine⟨seg,e1,e2,?_,e4⟩;exact aal e3 e5
def Uc(n:Nat):Sound (af.atom n) Nd.dn (λm=>m.qA=aa) SN:=by
 intro r hg hb;simp only[af.atom] at hb ⊢;split
 .rename_i hs;rw[aL hs] at hb;have l1:(r.take 35).2.l=r.l:=r.gW 35;obtain⟨seg,e1,e2,e3,e4⟩:=U6 n (r.take 35).2 (by rw[l1];exact hg) hb;obtain⟨c1,c2⟩:=q_ e1.b;have pY:=(c1.lu hg).1;refine⟨[(r.take 35).1]++seg,c1.trans e1,?_,?_,?_⟩
  .have:=Ai (t:=(r.take 35).1) (by rw[c2];decide) (by rw[c2];rfl) [] seg
   rw[gK] at this;rw[this,tN pY c2 (by decide),e2,Nd.dn];simp[bM,gu,kj,dV,pX]
  .simp only[Nd.qA,asq e3,Nd.kind];rfl
  .simp only[SN,Nd.wt,fk,gd,fp,u9,cZ,Ae,xh] at e4 ⊢;omega
 .rename_i hs;rw[aB hs] at hb;obtain⟨seg,e1,e2,⟨e3,e5⟩,e4⟩:=Hn (.inl rfl) r hg hb;refine⟨seg,e1,e2,?_,e4⟩;simp only[Nd.qA,Rc e3 e5,e3];rfl
def IV{n:Nd}(h:n.qA=aa):n.ei=true:=by simp only[Nd.qA,bO] at h;exact h.2
def Kw:∀n,Sound (af.label n) Nd.dn (λm=>m.ei=aa) SN
 | 0 => λr hg hb => by
  obtain⟨seg,e1,e2,⟨e3,e5⟩,e4⟩:=Hn (.inl rfl) r hg hb;refine⟨seg,e1,e2,?_,e4⟩;exact Rc e3 e5
 | n + 1 => λr hg hb => by
  simp only[af.label] at hb ⊢;split
  .rename_i hs;rw[aL hs] at hb;have l1:(r.take 43).2.l=r.l:=r.gW 43;obtain⟨t,h1,h2,h3,h4,h5,h6⟩:=KO (Kw n) (.inl rfl) (by rw[l1];exact hg) hb;obtain⟨c1,c2⟩:=q_ h1.b;have pY:=(c1.lu hg).1;refine⟨[(r.take 43).1]++[t],c1.trans h1,?_,?_,?_⟩
   .have:=Ai (t:=(r.take 43).1) (by rw[c2];decide) (by rw[c2];rfl) [] [t]
    rw[gK] at this;rw[this,tN pY c2 (by decide),h3,Nd.dn];simp only[show(closing 40).toNat=41 from rfl];rfl
   .exact aak (.inl rfl) h4 (h6 rfl)
   .simp only[SN,Nd.wt,fk,fp,u9,cZ,Ae,xh] at h5 ⊢;omega
  .rename_i hs;rw[aB hs] at hb;split
   .rename_i hs;rw[aL hs] at hb;have l1:(r.take 38).2.l=r.l:=r.gW 38;obtain⟨t,h1,h2,h3,h4,h5,h6⟩:=KO (Kw n) (.inl rfl) (by rw[l1];exact hg) hb;obtain⟨c1,c2⟩:=q_ h1.b;have pY:=(c1.lu hg).1;refine⟨[(r.take 38).1]++[t],c1.trans h1,?_,?_,?_⟩
    .have:=Ai (t:=(r.take 38).1) (by rw[c2];decide) (by rw[c2];rfl) [] [t]
     rw[gK] at this;rw[this,tN pY c2 (by decide),h3,Nd.dn];simp only[show(closing 40).toNat=41 from rfl];rfl
    .exact aak (.inr rfl) h4 (h6 rfl)
    .simp only[SN,Nd.wt,fk,fp,u9,cZ,Ae,xh] at h5 ⊢;omega
   .rename_i hs;rw[aB hs] at hb;obtain⟨seg,e1,e2,e3,e4⟩:=Uc (n+1) r hg hb;exact⟨seg,e1,e2,IV e3,e4⟩
theorem ajk(n:Nat):Sound (af.field n) Nd.dn (λm=>m.jr=aa) SN:=by
 intro r hg hb;have cF : ((r.word.2.take 61).2.atom n).2.aO=none:=hb;have l1:r.word.2.l=r.l:=r.gW 97;have l2:(r.word.2.take 61).2.l=r.l:=(af.gW _ 61).trans l1;obtain⟨sg,h1,h2,h3,h4⟩:=Uc n (r.word.2.take 61).2 (by rw[l2];exact hg) cF;obtain⟨c1,c2⟩:=q_ h1.b;obtain⟨seg,e1,e2,e3,e4⟩:=yI r hg c1.b;have pY:=(c1.lu (by rw[l1];exact hg)).1;refine⟨seg++[(r.word.2.take 61).1]++sg,(e1.trans c1).trans h1,?_,?_,?_⟩
 .rw[Ai (by rw[c2];decide) (by rw[c2];rfl),e2,h2,tN pY c2 (by decide)];rfl
 .simp only[af.field,Nd.jr,Nd.kind,Nd.an,Nd.ak,Nd.ae,se]
  grind
 .simp only[af.field,SN,Nd.wt,gd,fk,fp,u9,Ae,xh] at h4 ⊢;simp only[SW] at e4;omega
theorem ass(h1:ws.length<=1)(h2:f_ ws=aa)(h3:∀x∈ks,x.jr=aa):(Nd.mk 10 p [] ws ks).jl=true:=by
 unfold Nd.jl;simp[Nd.kind,Nd.an,Nd.ak,Nd.ae,h2]
 grind
def XP(t:aA):jQ t.inner t.inner []:=⟨⟨[],t.ae,rfl,rfl,rfl⟩,rfl,rfl,rfl⟩
def VN{n:Nat}{t:aA}(hg:fV t.ae){a:af × List Nd}(ha:a=if t.inner.cH 124=aa then(t.inner,[]) else fy (cV (af.field n)) t.inner)(hb:a.1.aO=ah):
 ∃seg,jQ t.inner a.1 seg/\gu (bM seg)=b_ (dV a.2)/\(∀x∈a.2,x.jr=aa)/\gd a.2<=kg seg:=by
 split at ha
 .subst ha;exact⟨[],XP t,rfl,by simp,by simp[gd]⟩
 .subst ha;obtain⟨seg,e1,e2⟩:=ab5 (ajk n) (r:=t.inner) hg hb;refine⟨seg,e1,?_,e2.q,?_⟩
  .rw[e2.t,Aj]
  .have:=e2.s;rwa [ac1] at this
theorem atk{n:Nat}{t:aA}(hg:fV t.ae)(hb:(af.rowOf n t).1.1.aO=ah):
 ∃seg,jQ t.inner (af.rowOf n t).1.1 seg/\gu (bM seg)=b_ (dV (af.rowOf n t).1.2)++(if 0<(af.rowOf n t).2.length then [124]++gX (af.rowOf n t).2 else []) /\
  (∀x∈(af.rowOf n t).1.2,x.jr=aa)/\(af.rowOf n t).2.length<=1/\f_ (af.rowOf n t).2=aa/\gd (af.rowOf n t).1.2+fk (af.rowOf n t).2<=kg seg:=by
 unfold af.rowOf at hb ⊢;split
 .exact⟨[],XP t,rfl,by simp,by simp,rfl,by simp[gd,fk]⟩
 rename_i bf;rw[aB bf] at hb;unfold af.qj at hb ⊢;simp only at hb ⊢;generalize ha:(if t.inner.cH 124=aa then(t.inner,[]) else fy (cV (af.field n)) t.inner)=a at hb ⊢;split
 .rename_i hs;rw[aL hs] at hb;have hba:a.1.aO=none:=by
   simp only[af.cH,af.ok,bO,F6] at hs
   grind
  obtain⟨seg,e1,e2,e3,e4⟩:=VN hg ha.symm hba;have l1:a.1.l=t.inner.l:=e1.l;have l2:(a.1.take 124).2.l=t.inner.l:=(af.gW _ 124).trans l1;obtain⟨sw,w1,w2,w3,w4⟩:=yI (a.1.take 124).2 (by rw[l2];exact hg) hb;obtain⟨c1,c2⟩:=q_ w1.b;have pY:=(c1.lu (by rw[l1];exact hg)).1;refine⟨seg++[(a.1.take 124).1]++sw,(e1.trans c1).trans w1,?_,e3,by simp,?_,?_⟩
  .rw[Ai (by rw[c2];decide) (by rw[c2];rfl),e2,tN pY c2 (by decide),w2];simp[gX,b_]
  .simp only[f_,yO,S7,uZ];exact w3
  .simp only[Ae,xh,fk,cQ,fp,pJ,u9];simp only[SW] at w4;omega
 .rename_i hs;rw[aB hs] at hb;obtain⟨seg,e1,e2,e3,e4⟩:=VN hg ha.symm hb;exact⟨seg,e1,by simpa using e2,e3,by simp,rfl,by simpa [fk] using e4⟩
theorem aaQ(n:Nat):Sound (af.row n) Nd.dn (λm=>m.jl=aa) SN:=by
 intro r hg hb;simp only[af.row] at hb ⊢;split
 .rename_i hs;rw[aL hs] at hb;have dX:(r.take 91).2.aO=none:=by
   rcases r.xi 91 with ⟨_,_,h,_⟩ | ⟨h,_⟩
   .exact h
   .grind
  obtain⟨c1,c2⟩:=q_ dX;have pY:=(c1.lu hg).1;have wH:fV (r.take 91).1.ae:=((A5 _).1 pY).2.2;have fv:(af.rowOf n (r.take 91).1).1.1.close.aO=none:=hb;obtain⟨seg,e1,e2,e3,e4,e5,e6⟩:=atk (n:=n) wH (MO fv).1;have O1:=TN e1 fv;subst O1;refine⟨[(r.take 91).1],⟨c1.ex,c1.l,c1.b,hb⟩,?_,ass e4 e5 e3,?_⟩
  .rw[FC (by rw[c2];decide),tN pY c2 (by decide),c2,e2,Nd.dn];rfl
  .simp only[SN,Nd.wt,xh,cZ];omega
 .rename_i hs;rw[aB hs] at hb;obtain⟨seg,e1,e2,⟨e3,e5⟩,e4⟩:=Hn (.inl rfl) r hg hb;refine⟨seg,e1,e2,?_,e4⟩
  have:=Rc e3 e5
  show(r.leaf 1).1.jl=aa;unfold Nd.jl
  grind
abbrev Sh:=Int × List UInt8
def Tok.sh(t:Tok):Sh:=(t.kind,t.an)
def bZ(c:UInt8):Sh:=((c.toNat:Nat),[c])
def ig(t:List UInt8):Sh:=(97,t)
def fW:List (List Sh)->List Sh
 | []=>[]
 | x::xs=>x++xs.flatMap λy=>bZ 44::y
def JV:List (List Sh)->List Sh
 | []=>[]
 | x::_=>x
def mV(ws:List aC):List Sh:=fW (ws.map λw=>[ig w.an])
mutual
def Nd.jd:Nd->List Sh
 | .mk k _ t ws ks =>
  if k=1\/k=2 then [ig t]
  else if k=3 then [bZ 123]++mV ws++[bZ 125]
  else if k=4 then [bZ 40]++fW (je ks)++[bZ 41]
  else if k=5 then [bZ 91]++fW (je ks)++[bZ 93]
  else if k=6 then [ig t]++[bZ 58]++([bZ 123]++mV ws++[bZ 125])
  else if k=7 then [bZ 35]++JV (je ks)
  else if k=8 then [bZ 43]++([bZ 40]++fW (je ks)++[bZ 41])
  else if k=9 then [bZ 38]++([bZ 40]++fW (je ks)++[bZ 41])
  else if k=10 then [bZ 91]++(fW (je ks)++(if 0<ws.length then [bZ 124]++mV ws else []))++[bZ 93]
  else if k=11 then [ig t]++[bZ 61]++JV (je ks)
  else []
def je:List Nd->List (List Sh)
 | []=>[]
 | n::ns=>n.jd::je ns
end
def H4:∀l,je l=l.map Nd.jd
 | []=>rfl
 | n::ns=>by simp[je,H4 ns]
def o6(s:List UInt8)(ks:List Sh):Prop:=∀(n p:Nat) (acc:List Tok),s.length<=n->∃toks,fO n p s acc=(acc++toks,ah)/\toks.map Tok.sh=ks
def Stop:List UInt8->Prop
 | []=>True
 | c::_=>gh c=aq
def lex_nil:o6 [] []:=λn p acc _=>⟨[],by cases n<;>simp[fO],rfl⟩
def Ld{c:UInt8}(h:gh c=aq):eR (c::s)=[]:=by simp[eR,h]
theorem Yy{c:UInt8}(h1:lD (c.toNat:Nat)=aa)(h2:gh c=aq)(h3:c.toNat≠45){ks:List Sh}(h:o6 s ks):o6 ([c]++s) ([bZ c]++ks):=by
 intro n p acc hn
 rcases n with _ | n
 .grind
 obtain⟨toks,e1,e2⟩:=h n (p+1) (acc++[⟨(c.toNat:Nat),[c],p⟩]) (by simpa using hn);refine⟨⟨(c.toNat:Nat),[c],p⟩::toks,?_,by simp[Tok.sh,bZ,e2]⟩;rw[rf,fO];rw[aB (λh=>h3 h.1),Ld h2,aB (by simp),aL h1,e1];simp
def ace{G:Type}{f:G->Bool}:∀{t s:List G},t.all f=aa->(∀c r,s=c::r->f c=aq)->(t++s).takeWhile f=t
 | [], s, _, h => by
  cases s with
  | nil=>rfl
  | cons c r=>simp[h c r rfl]
 | x :: t, s, ht, h => by
  simp only[yO,bO] at ht;simp[ht.1,ace ht.2 h]
theorem ao7{t:List UInt8}(h:dp t=aa):t.all gh=aa/\(∃c r,t=c::r/\uJ c=aa):=by
 unfold dp at h
 rcases t with _ | ⟨c,r⟩
 .grind
 .simp only[bO] at h;refine⟨?_,c,r,rfl,h.2.1⟩;simp only[yO,bO];refine⟨?_,h.2.2⟩
  have:=h.2.1
  simp only[uJ,gh,tC,sZ] at this ⊢
  simp_all
theorem Yw{t:List UInt8}(ht:dp t=aa){ks:List Sh}(hs:Stop s)(h:o6 s ks):o6 (t++s) ([ig t]++ks):=by
 intro n p acc hn;obtain⟨dd,c,r,rfl,hc⟩:=ao7 ht
 rcases n with _ | n
 .grind
 have e9:eR (c::r++s)=c::r:=ace dd λc' r' e=>by subst e;exact hs
 obtain⟨toks,e1,e2⟩:=h n (p+(c::r).length) (acc++[⟨97,c::r,p⟩]) (by simp at hn ⊢;omega);refine⟨⟨97,c::r,p⟩::toks,?_,by simp[Tok.sh,ig,e2]⟩;have vq:c.toNat≠45:=λe=>by
  simp only[uJ,tC,e] at hc
  grind
 rw[gY] at e9 ⊢;rw[fO,aB (λh=>vq h.1),e9,aL ⟨by simp,ht⟩]
 grind
def lG(tx:List UInt8)(sh:List Sh):Prop:=∀s ks,Stop s->o6 s ks->o6 (tx++s) (sh++ks)
def tX(tx:List UInt8)(sh:List Sh):Prop:=∀s ks,o6 s ks->o6 (tx++s) (sh++ks)
def tX.n{t:List UInt8}{k:List Sh}(h:tX t k):lG t k:=λs ks _ hl=>h s ks hl
def yl(c:UInt8)(h:(lD (c.toNat:Nat)&&!gh c&&decide (c.toNat≠45))=aa):tX [c] [bZ c]:=λ_ _ hl=>by
 simp only[bO,v_,cU] at h;exact Yy h.1.1 h.1.2 h.2 hl
def zO{t:List UInt8}(h:dp t=aa):lG t [ig t]:=λ_ _ hs hl=>Yw h hs hl
def tX.app{a b:List UInt8}{x y:List Sh}(h:tX a x)(k:tX b y):tX (a++b) (x++y):=λs ks hl=>by
 rw[eY,eY];exact h _ _ (k _ _ hl)
def lG.sign{a:List UInt8}{c:UInt8}{x:List Sh}(h:lG a x)(hc:(lD (c.toNat:Nat)&&!gh c&&decide (c.toNat≠45))=aa):tX (a++[c]) (x++[bZ c]):=λs ks hl=>by
 rw[eY,eY]
 have:=hc
 simp only[bO,v_,cU] at this;exact h _ _ this.1.2 (yl c hc _ _ hl)
def tX.nn{a b:List UInt8}{x y:List Sh}(h:tX a x)(k:lG b y):lG (a++b) (x++y):=λs ks hs hl=>by
 rw[eY,eY];exact h _ _ (k _ _ hs hl)
def YA{β:Type}{T:β->List UInt8}{S:β->List Sh}:∀{l:List β},(∀x∈l,lG (T x) (S x))->∀s ks,Stop s->o6 s ks->Stop ((l.map T).flatMap (λy=>44::y)++s)/\o6 ((l.map T).flatMap (λy=>44::y)++s) ((l.map S).flatMap (λy=>bZ 44::y)++ks)
 | [],_,s,ks,hs,hl=>⟨hs,hl⟩
 | x :: xs, h, s, ks, hs, hl => by
  obtain⟨h1,h2⟩:=YA (l:=xs) (λy hy=>h y (by simp[hy])) s ks hs hl;simp only[cQ,o7,eY,gY];refine⟨rfl,?_⟩;exact yl 44 (by decide) _ _ (h x (by simp) _ _ h1 h2)
def KF{T:β->List UInt8}{S:β->List Sh}{l:List β}(h:∀x∈l,lG (T x) (S x)):lG (b_ (l.map T)) (fW (l.map S)):=by
 intro s ks hs hl;cases l with
 | nil=>exact hl
 | cons x xs =>
  obtain⟨h1,h2⟩:=YA (l:=xs) (λy hy=>h y (by simp[hy])) s ks hs hl;simp only[cQ,b_,fW,eY];exact h x (by simp) _ _ h1 h2
def Qg(h:f_ ws=aa):lG (gX ws) (mV ws):=KF (T:=aC.an) (S:=λw=>[ig w.an]) λw hw=>zO (ma.1 h w hw)
def Qf(h:f_ ws=aa):tX ([123]++gX ws++[125]) ([bZ 123]++mV ws++[bZ 125]):=lG.sign ((yl 123 (by decide)).nn (Qg h)) (by decide)
def Qe{a b:UInt8}(ha:(lD (a.toNat:Nat)&&!gh a&&decide (a.toNat≠45))=aa)(hb:(lD (b.toNat:Nat)&&!gh b&&decide (b.toNat≠45))=aa)(h:∀n∈ks,lG n.dn n.jd):
 tX ([a]++b_ (dV ks)++[b]) ([bZ a]++fW (je ks)++[bZ b]):=by
 rw[Aj,H4];exact lG.sign ((yl a ha).nn (KF h)) hb
def Nd.xk(n:Nd):n.dn=if n.kind=1\/n.kind=2 then n.an else if n.kind=3 then [123]++gX n.ak++[125] else if n.kind=4 then [40]++b_ (dV n.ae)++[41] else if n.kind=5 then [91]++b_ (dV n.ae)++[93]
 else if n.kind=6 then n.an++[58,123]++gX n.ak++[125] else if n.kind=7 then [35]++pX (dV n.ae) else if n.kind=8 then [43,40]++b_ (dV n.ae)++[41] else if n.kind=9 then [38,40]++b_ (dV n.ae)++[41]
 else if n.kind=10 then([91]++b_ (dV n.ae))++(if 0<n.ak.length then [124]++gX n.ak else [])++[93] else if n.kind=11 then n.an++[61]++pX (dV n.ae) else []:=by cases n;rw[Nd.dn];rfl
def Nd.l_(n:Nd):n.jd=if n.kind=1\/n.kind=2 then [ig n.an] else if n.kind=3 then [bZ 123]++mV n.ak++[bZ 125] else if n.kind=4 then [bZ 40]++fW (je n.ae)++[bZ 41] else if n.kind=5 then [bZ 91]++fW (je n.ae)++[bZ 93]
 else if n.kind=6 then [ig n.an]++[bZ 58]++([bZ 123]++mV n.ak++[bZ 125]) else if n.kind=7 then [bZ 35]++JV (je n.ae) else if n.kind=8 then [bZ 43]++([bZ 40]++fW (je n.ae)++[bZ 41]) else if n.kind=9 then [bZ 38]++([bZ 40]++fW (je n.ae)++[bZ 41])
 else if n.kind=10 then [bZ 91]++(fW (je n.ae)++(if 0<n.ak.length then [bZ 124]++mV n.ak else []))++[bZ 93] else if n.kind=11 then [ig n.an]++[bZ 61]++JV (je n.ae) else []:=by cases n;rw[Nd.jd];rfl
def Ks{n m:Nd}(hm:m∈n.ae):m.wt+5<=n.wt:=by
 have h1:=DM hm;have h2:gd n.ae+4<=n.wt:=by cases n;simp only[Nd.wt,Nd.ae];omega
 omega
def Lx(n:Nd):Prop:=lG n.dn n.jd
def YY{n:Nd}(hk:n.kind=1\/n.kind=2)(h:n.lA=aa):Lx n:=by
 unfold Lx;rw[Nd.xk,Nd.l_,aL hk,aL hk];simp only[Nd.lA,bO] at h;exact zO h.1
theorem aa9{n:Nd}(h:n.kZ=aa):n.kind=6/\dp n.an=aa/\f_ n.ak=aa/\n.ae=[]:=by
 simp only[Nd.kZ,bO,cU] at h
 simp_all
def aoP{n:Nd}(h:n.kZ=aa):Lx n:=by
 obtain⟨k,h1,h2,_⟩:=aa9 h;unfold Lx;rw[Nd.xk,Nd.l_];simp only[k,show ¬((6:Int)=1\/(6:Int)=2) by omega,show ¬(6:Int)=3 by omega,show ¬(6:Int)=4 by omega,show ¬(6:Int)=5 by omega,cz,db];have e:n.an++[58,123]++gX n.ak++[125]=(n.an++[58])++([123]++gX n.ak++[125]):=by simp
 rw[e];exact(((zO h1).sign (by decide)).app (Qf h2)).n
theorem U5{n:Nd}(h:n.gg=aa):(n.kind=2/\n.lA=aa)\/(n.kind=3/\n.an=[]/\f_ n.ak=aa/\n.ae=[])\/(n.kind=4/\n.an=[]/\n.ak=[]/\n.ae≠[]/\∀x∈n.ae,x.gg=aa)\/(n.kind=5/\n.an=[]/\n.ak=[]/\∀x∈n.ae,x.kZ=aa):=by
 rw[Nd.AR] at h;split at h
 .grind
 split at h
 .simp_all
 split at h
 .rename_i k;simp only[Nd.kM,bO,cU] at h;exact .inr (.inr (.inl ⟨k,h.1.1.1,m0.1 (by omega),λe=>by rw[e] at h;simp at h,ma.1 h.2⟩))
 split at h
 .rename_i k;simp only[Nd.kM,bO,cU] at h
  simp_all
 .grind
def aoM:∀(k:Nat) (n:Nd),n.wt<=k->n.gg=aa->Lx n:=by
 intro k;induction k with
 | zero=>intro n h _;cases n;simp only[Nd.wt] at h;omega
 | succ k ih =>
  intro n hk h
  rcases U5 h with ⟨h1,h2⟩ | ⟨h1,_,h2,_⟩ | ⟨h1,_,_,_,h2⟩ | ⟨h1,_,_,h2⟩
  .exact YY (.inr h1) h2
  .unfold Lx;rw[Nd.xk,Nd.l_,h1];exact(Qf h2).n
  .unfold Lx;rw[Nd.xk,Nd.l_,h1];exact(Qe (by decide) (by decide) λm hm=>ih m (by have:=Ks hm;omega) (h2 m hm)).n
  .unfold Lx;rw[Nd.xk,Nd.l_,h1];exact(Qe (by decide) (by decide) λm hm=>aoP (h2 m hm)).n
theorem Hm{n:Nd}(h:n.ei=aa):(n.kind=1/\n.lA=aa)\/(n.kind=7/\n.an=[]/\n.ak=[]/\∃c,n.ae=[c]/\c.gg=aa)\/((n.kind=8\/n.kind=9)/\n.an=[]/\n.ak=[]/\n.ae≠[]/\∀x∈n.ae,x.ei=aa):=by
 rw[Nd.uI] at h;split at h
 .grind
 split at h
 .rename_i k;simp only[Nd.kM,bO,cU] at h;refine .inr (.inl ⟨k,h.1.1.1,m0.1 (by omega),?_⟩)
  match hq:n.ae,h.1.2 with
  | [c],_=>exact⟨c,rfl,by have:=h.2;rw[hq] at this;exact this⟩
  | [],e=>simp at e
  | _::_::_,e=>simp at e;omega
 split at h
 .rename_i k;simp only[Nd.kM,bO,cU] at h;exact .inr (.inr ⟨k,h.1.1.1,m0.1 (by omega),λe=>by rw[e] at h;simp at h,ma.1 h.2⟩)
 .grind
def Qt:∀(k:Nat) (n:Nd),n.wt<=k->n.ei=aa->Lx n:=by
 intro k;induction k with
 | zero=>intro n h _;cases n;simp only[Nd.wt] at h;omega
 | succ k ih =>
  intro n hk h
  rcases Hm h with ⟨h1,h2⟩ | ⟨h1,_,_,c,h2,h3⟩ | ⟨h1,_,_,_,h2⟩
  .exact YY (.inl h1) h2
  .unfold Lx;rw[Nd.xk,Nd.l_,h1,h2];exact(yl 35 (by decide)).nn (aoM _ c (bU _) h3)
  .have eM:=Qe (a:=40) (b:=41) (by decide) (by decide) λm hm=>ih m (by have:=Ks hm;omega) (h2 m hm)
   unfold Lx;rw[Nd.xk,Nd.l_]
   rcases h1 with h1 | h1
   .rw[h1];exact((yl 43 (by decide)).app eM).n
   .rw[h1];exact((yl 38 (by decide)).app eM).n
def Ji{n:Nd}(h:n.jr=aa):n.kind=11/\dp n.an=aa/\n.ak=[]/\∃c,n.ae=[c]/\c.qA=true:=by
 simp only[Nd.jr,bO,cU] at h;refine⟨h.1.1.1.1,h.1.1.1.2,m0.1 (by omega),?_⟩
 match hq:n.ae,h.1.2 with
 | [c],_=>exact⟨c,rfl,by have:=h.2;rw[hq] at this;exact this⟩
 | [],e=>simp at e
 | _::_::_,e=>simp at e;omega
def aoN{n:Nd}(h:n.jr=aa):Lx n:=by
 obtain⟨k,h1,_,c,h2,h3⟩:=Ji h;unfold Lx;rw[Nd.xk,Nd.l_,k,h2];exact((zO h1).sign (by decide)).nn (Qt _ c (bU _) (IV h3))
theorem HV{n:Nd}(h:n.jl=aa):(n.kind=10/\n.an=[]/\(n.ak=[]\/∃w,n.ak=[w]/\dp w.an=aa)/\∀x∈n.ae,x.jr=aa)\/(n.kind=1/\n.ei=aa):=by
 unfold Nd.jl at h;split at h
 .rename_i k;simp only[bO,cU] at h;refine .inl ⟨k,h.1.1.1,?_,ma.1 h.2⟩
  match hq:n.ak,h.1.1.2 with
  | [],_=>exact .inl rfl
  | [w],_=>exact .inr ⟨w,rfl,by have:=h.1.2;rw[hq] at this;simpa [f_] using this⟩
  | _::_::_,e=>simp at e;omega
 .grind
def aoO{n:Nd}(h:n.jl=aa):Lx n:=by
 rcases HV h with ⟨k,_,hn,hf⟩ | ⟨_,h⟩
 .have hk:lG (b_ (dV n.ae)) (fW (je n.ae)):=by rw[Aj,H4];exact KF λm hm=>aoN (hf m hm)
  unfold Lx;rw[Nd.xk,Nd.l_,k]
  rcases hn with hn | ⟨w,hn,hw⟩
  .rw[hn];have e1:([91]:List UInt8)++b_ (dV n.ae)++[]=[91]++b_ (dV n.ae):=by simp
   have e2:[bZ 91]++(fW (je n.ae)++[])++[bZ 93]=[bZ 91]++fW (je n.ae)++[bZ 93]:=by simp
   show lG (([91]++b_ (dV n.ae))++[]++[93]) ([bZ 91]++(fW (je n.ae)++[])++[bZ 93]);rw[e1,e2];exact(((yl 91 (by decide)).nn hk).sign (by decide)).n
  .rw[hn];have e1:(([91]:List UInt8)++b_ (dV n.ae))++([124]++gX [w])++[93]=(([91]++b_ (dV n.ae))++[124])++(gX [w]++[93]):=by simp
   have e2:[bZ 91]++(fW (je n.ae)++([bZ 124]++mV [w]))++[bZ 93]=(([bZ 91]++fW (je n.ae))++[bZ 124])++(mV [w]++[bZ 93]):=by simp
   show lG (([91]++b_ (dV n.ae))++([124]++gX [w])++[93]) ([bZ 91]++(fW (je n.ae)++([bZ 124]++mV [w]))++[bZ 93]);rw[e1,e2];exact((((yl 91 (by decide)).nn hk).sign (by decide)).app ((Qg (by simp[f_,hw])).sign (by decide))).n
 .exact Qt _ n (bU _) h
mutual
def aA.WF:aA->Prop
 | .mk t ks e=>lM t.kind=aq/\(closing t.kind=0->ks=[]/\e=t.pos)/\gC ks
def gC:List aA->Prop
 | []=>True
 | t::ts=>t.WF/\gC ts
end
def lJ:∀{a b:List aA},gC (a++b)↔gC a/\gC b
 | [],b=>by simp[gC]
 | t::ts,b=>by simp only[gY,gC,lJ (a:=ts),Mu]
variable{a:List Tok}
def C'{r:List Tok}{t:Tok}:eP (a++t::r) a.length=t.kind:=by simp[eP]
def acn{r:List Tok}{t:Tok}:jG (a++t::r) a.length=t:=by simp[jG]
def Z8{r:List Tok}{t:Tok}:rL (a++t::r) a.length=t.pos:=by simp[rL]
def UJ{c:Int}(h:closing c≠0):lM (closing c)=aa/\closing (closing c)=0:=by
 have:c=40\/c=123\/c=91:=by
  unfold closing at h;omega
 rcases this with rfl | rfl | rfl<;>decide
theorem VT(t:aA)(ts:List aA):bM (t::ts)=t.flat++bM ts:=rfl
theorem IY{l:List Tok}{x:Nat}:∀(k:Nat) (us:List aA) (a b:List Tok) (n:Nat) (d:Int),bj us<=k->gC us->l=a++bM us++b->1<=d->jy l x (n+(bM us).length) a.length d=jy l x n (a++bM us).length d
 | _,[],a,b,n,d,_,_,_,_=>by simp[bM]
 | 0,t::ts,a,b,n,d,h,_,_,_=>by simp[bj] at h
 | k + 1, .mk t ks e :: ts, a, b, n, d, h, hw, hl, hd => by
  simp only[bj,aA.many] at h;obtain⟨⟨w1,w2,w3⟩,w4⟩:=hw;rw[VT] at hl ⊢
  by_cases hc:closing t.kind=0
  .have ef:(aA.mk t ks e).flat=[t]:=by simp[aA.flat,hc]
   rw[ef] at hl ⊢;have hk:eP l a.length=t.kind:=by rw[hl];simp only[eY,gY];exact C'
   have JS:delta l a.length=0:=by unfold delta;rw[hk,hc,w1];simp
   rw[show n+([t]++bM ts).length=(n+(bM ts).length)+1 by simp;omega,w8,JS,aB (by omega),Int.add_zero]
   have:=IY (l:=l) (x:=x) k ts (a++[t]) b n d (by omega) w4 (by rw[hl];simp) hd
   grind
  .have ef:(aA.mk t ks e).flat=t::(bM ks++[⟨closing t.kind,[UInt8.ofNat (closing t.kind).toNat],e⟩]):=by simp[aA.flat,hc]
   generalize jh:(⟨closing t.kind,[UInt8.ofNat (closing t.kind).toNat],e⟩:Tok)=c at ef;have xZ:c.kind=closing t.kind:=by grind
   obtain⟨c1,c2⟩:=UJ hc;rw[ef] at hl ⊢;have hk:eP l a.length=t.kind:=by rw[hl];simp only[eY,gY];exact C'
   have GL:delta l a.length=1:=Gi (by rw[hk];exact hc);have si:eP l (a++[t]++bM ks).length=c.kind:=by
    rw[hl]
    have:a++(t::(bM ks++[c])++bM ts)++b=(a++[t]++bM ks)++c::(bM ts++b):=by simp
    rw[this];exact C'
   have Cz:delta l (a++[t]++bM ks).length = -1:=by unfold delta;rw[si,xZ,c2,c1];simp
   rw[show n+(t::(bM ks++[c])++bM ts).length=((n+(bM ts).length+1)+(bM ks).length)+1 by simp;omega,w8,GL,aB (by omega)];have h1:=IY (l:=l) (x:=x) k ks (a++[t]) ([c]++bM ts++b) (n+(bM ts).length+1) (d+1) (by omega) w3 (by rw[hl];simp) (by omega);rw[show(a++[t]).length=a.length+1 by simp] at h1;rw[h1,w8,Cz,aB (by omega),show d+1 + -1=d by omega];have h2:=IY (l:=l) (x:=x) k ts (a++[t]++bM ks++[c]) b n d (by omega) w4 (by rw[hl];simp) hd
   grind
def ars{l:List Tok}{t c:Tok}{ks:List aA}{b:List Tok}(hl:l=a++[t]++bM ks++c::b)(hw:gC ks)(hc:closing t.kind≠0)(xZ:c.kind=closing t.kind):partner l a.length=(a++[t]++bM ks).length:=by
 obtain⟨c1,c2⟩:=UJ hc;have hk:eP l a.length=t.kind:=by rw[hl];simp only[eY,rf];exact C'
 have GL:delta l a.length=1:=Gi (by rw[hk];exact hc);have si:eP l (a++[t]++bM ks).length=c.kind:=by rw[hl];exact C'
 have Cz:delta l (a++[t]++bM ks).length = -1:=by unfold delta;rw[si,xZ,c2,c1];simp
 unfold partner;rw[show l.length - a.length=((b.length+1)+(bM ks).length)+1 by rw[hl];simp;omega,w8,GL,aB (by omega)];have h1:=IY (l:=l) (x:=a.length) _ ks (a++[t]) (c::b) (b.length+1) (0+1) (bU _) hw hl (by omega);rw[show(a++[t]).length=a.length+1 by simp] at h1;rw[h1,w8,Cz,aL (by omega)]
theorem Ly{l:List Tok}:∀(k:Nat) (us:List aA) (a b:List Tok) (n:Nat),bj us<=k->gC us->l=a++bM us++b->(bM us).length<=n->kB l n a.length (a.length+(bM us).length)=us
 | _,[],a,b,n,_,_,_,_=>by cases n<;>simp[bM,kB]
 | 0,t::ts,a,b,n,h,_,_,_=>by simp[bj] at h
 | k + 1, .mk t ks e :: ts, a, b, n, h, hw, hl, hn => by
  simp only[bj,aA.many] at h;obtain⟨⟨w1,w2,w3⟩,w4⟩:=hw;rw[VT] at hl hn ⊢
  by_cases hc:closing t.kind=0
  .have ef:(aA.mk t ks e).flat=[t]:=by simp[aA.flat,hc]
   obtain⟨w5,w6⟩:=w2 hc;rw[ef] at hl hn ⊢;have jM : l=a++t::(bM ts++b):=by grind
   have hk:eP l a.length=t.kind:=by rw[jM];exact C'
   have ht:jG l a.length=t:=by rw[jM];exact acn
   have hp:rL l a.length=t.pos:=by rw[jM];exact Z8
   simp only[bL,eZ] at hn ⊢;obtain⟨m,rfl⟩:∃m,n=m+1:=⟨n - 1,by omega⟩;rw[kB,aL (by omega),aB (by rw[hk];simpa using hc),ht,hp]
   have:=Ly (l:=l) k ts (a++[t]) b m (by omega) w4 (by rw[hl];simp) (by omega)
   grind
  .have ef:(aA.mk t ks e).flat=t::(bM ks++[⟨closing t.kind,[UInt8.ofNat (closing t.kind).toNat],e⟩]):=by simp[aA.flat,hc]
   generalize jh:(⟨closing t.kind,[UInt8.ofNat (closing t.kind).toNat],e⟩:Tok)=c at ef;have xZ:c.kind=closing t.kind:=by grind
   have zp:c.pos=e:=by grind
   rw[ef] at hl hn ⊢;have zw:l=a++t::(bM ks++[c]++bM ts++b):=by grind
   have iW:l=a++[t]++bM ks++c::(bM ts++b):=by grind
   have hk:eP l a.length=t.kind:=by rw[zw];exact C'
   have ht:jG l a.length=t:=by rw[zw];exact acn
   have GZ:=ars iW w3 hc xZ;have hp:rL l (a++[t]++bM ks).length=e:=by rw[<-zp,iW];exact Z8
   simp only[bL,da,cZ] at hn;obtain⟨m,rfl⟩:∃m,n=m+1:=⟨n - 1,by omega⟩;rw[kB,aL (by simp),aL (by rw[hk];exact hc),ht,GZ,hp];have h1:=Ly (l:=l) k ks (a++[t]) (c::(bM ts++b)) m (by omega) w3 iW (by omega);have h2:=Ly (l:=l) k ts (a++[t]++bM ks++[c]) b m (by omega) w4 (by rw[hl];simp) (by omega)
   grind
theorem aco{us:List aA}(hw:gC us)(h:(iy (bM us)).2=ah):(iy (bM us)).1=us:=by
 unfold iy at h ⊢;split
 .grind
 .have:=Ly (l:=bM us) _ us [] [] (bM us).length (bU _) hw (by simp) (bU _)
  grind
def iT:List Tok->List (Tok × List aA)->List aA->List aA × Option Int
 | [],op,row=>match op.getLast? with | some (t,_)=>([],U t.pos) | none=>(row,ah)
 | t :: ts, op, row =>
  if closing t.kind≠0 then(if 24<=op.length then([],U t.pos) else iT ts (op++[(t,row)]) [])
  else if lM t.kind=aa then
   match op.getLast? with
   | none=>([],U t.pos)
   | some (u,ahead)=>if closing u.kind=t.kind then iT ts op.dropLast (ahead++[.mk u row t.pos]) else([],U t.pos)
  else iT ts op (row++[.mk t [] t.pos])
def Tk.ok(dx Z:ab)(n:Nat):Tk->Prop
 | .aY=>True
 | .tk D=>dx.aS D=ah/\Z.aS D=U n
 | .no=>False
def Tk.name:Tk->Option Nat
 | .tk D=>U D
 | _=>ah
def kI(dx Z:ab)(L:List (Tk × Nat)):Prop:=dx.sub Z/\(∀p∈L,p.1.ok dx Z p.2)/\(L.filterMap λp=>p.1.name).Nodup
variable{L:List (Tk × Nat)}
theorem kI.init(h:∀p∈L,p.1 = .aY):kI Z Z L:=by
 refine⟨ab.a8 Z,λp hp=>by rw[h p hp];trivial,?_⟩
 have:L.filterMap (λp=>p.1.name)=[]:=by rw[List.filterMap_eq_nil_iff];intro p hp;rw[h p hp];rfl
 grind
variable{dx:ab}
def kI.perm{L':List (Tk × Nat)}(h:kI dx Z L)(hp:L.Perm L'):kI dx Z L' :=
 ⟨h.1,λp hm=>h.2.1 p (hp.mem_iff.2 hm),(hp.filterMap _).nodup_iff.1 h.2.2⟩
theorem kI.tail{p:Tk × Nat}(h:kI dx Z (p::L)):kI dx Z L:=by
 refine⟨h.1,λq hq=>h.2.1 q (by simp[hq]),?_⟩
 have:=h.2.2
 grind
def kI.aY{n:Nat}(h:kI dx Z L):kI dx Z ((.aY,n)::L) :=
 ⟨h.1,λq hq=>by rcases m_.1 hq with rfl | hq;exact trivial;exact h.2.1 q hq,by simpa [Tc,Tk.name] using h.2.2⟩
theorem kI.put{tk:Tk}{n m:Nat}(h:kI dx Z ((tk,n)::L))(h0:dx.aS D=ah)(ht:tk = .tk D\/Z.aS D=ah):kI dx (Z.aU D m) ((.tk D,m)::L):=by
 have J5:D∉L.filterMap λp=>p.1.name:=λhm=>by
  obtain⟨⟨t,k⟩,hq,hn⟩:=To.1 hm;cases t with
  | no=>simp[Tk.name] at hn
  | aY=>simp[Tk.name] at hn
  | tk O =>
   simp only[Tk.name,bq] at hn;subst hn
   rcases ht with rfl | ht
   .have:=h.2.2
    simp only[Tc,Tk.name] at this
    grind
   .have:=(h.2.1 (.tk O,k) (by simp[hq])).2
    grind
 refine⟨⟨h.1.1,λt k hk=>?_,h.1.2.2⟩,λp hp=>?_,?_⟩
 .have bf:t≠D:=by grind
  simp only[ab.aU,aB bf];exact h.1.2.1 t k hk
 .rcases m_.1 hp with rfl | EF
  .exact⟨h0,by simp[ab.aU]⟩
  .have:=h.2.1 p (by simp[EF])
   obtain⟨t,k⟩:=p;cases t with
   | no=>exact this
   | aY=>trivial
   | tk O =>
    have bf:O≠D:=by rintro rfl;exact J5 (To.2 ⟨(.tk O,k),EF,rfl⟩)
    exact⟨this.1,by simp only[ab.aU,aB bf];exact this.2⟩
 .simp only[Tc,Tk.name];exact List.nodup_cons.2 ⟨J5,h.tail.2.2⟩
def kI.fresh(h:kI dx Z L)(ht:Z.aS D=ah):dx.aS D=none:=by
 cases hq:dx.aS D with
 | none=>rfl
 | some n=>rw[h.1.2.1 D n hq] at ht;simp at ht
def Mw{tk u:Tk}{n:List (List V)}{K:V->ab->Prop}(h:kI dx Z ((tk,m.length)::L))(hb:m.length+n.length<=aJ)
 (hk:∀D,kI dx (Z.aU D (m.length+n.length)) ((.tk D,m.length+n.length)::L)->K (.sl (.tk D) k (m++n)) (Z.aU D (m.length+n.length))):sR Z k (.sl tk k m) (.sl u k n) K:=by
 have hh:=h.2.1 (tk,m.length) (by simp);cases tk with
 | no=>exact hh.elim
 | aY=>exact y6 hb λD aW=>hk D (h.put (h.fresh aW) (.inr aW))
 | tk D=>exact fg hb hh.2 (hk D (h.put hh.1 (.inl rfl)))
theorem aq6:OQ.bN Z H (.po k) [.agg cs]=(cs.length=k/\bK cs=aa/\c8 cs=aa/\H (.sl .aY k [cs]) Z):=by
 simp only[OQ.bN,PU,Br,V.wd,V.cells,bq]
 grind
def Li{D:Tk}{j j' : IntKind}{H:V->Prop}(h2:b<=m.length)(h:H (.sl .aY k (m.take b))):H5 k (.sl D k m) ah (U (.int j b)) (U (.int j' b)) H:=.inl ⟨D,m,0,b,rfl,Mj _,h2,rfl,⟨j,rfl⟩,⟨j',rfl⟩,h⟩
end Go.Am
