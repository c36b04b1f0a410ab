/-
  Part 2 of the proof of StackNobodyUptoCardSaid: a logic over the model, the forms of the functions that the law reaches, and what they compute.
-/
import Derived.Lib.Bytealg
import Derived.Laws.Pointers
import Derived.Scope
import Derived.Test.YtnpggmhoandloaaGreatDoorNobody1
set_option linter.unusedVariables false
set_option linter.unusedSimpArgs false
set_option linter.defProp false
set_option linter.unusedSectionVars false
set_option maxRecDepth 4000
set_option maxHeartbeats 4000000
open Option renaming some->U,none->af
open Bool renaming true->aa,false->ak
open List renaming replicate->au,range->bU,getD->gU,zipWith->lq
open Eq renaming mpr->eQ
open Ne renaming symm->fi
namespace Go.Am
def FF{P:Program}{SN:List c8}{p:Nat->DI->Bool}{S:Nat->Bool}:∀{l:List (AO × List Nat)} {b:List Nat} {tr:List TR} {t:List V} {s:c8} {i:Nat},xe P SN l tr t s->b.length=l.length ->
 (∀(j:Nat) x,l[j]?=U x->x.1.op.bg=aa->S (i+j)=p (i+j) (e_ x (b.getD j 0)))->cy S i tr=(((lq e_ l b).zipIdx i).filter λ(x,j)=>x.bg&&p j x).length
 | [],b,[],_,_,_,_,_,_=>by simp[cy]
 | [],_,_::_,_,_,_,h,_,_=>h.elim
 | (_,_)::_,_,[],_,_,_,h,_,_=>h.elim
 | (o,ms)::l,[],_::_,_,_,_,_,hb,_=>by simp at hb
 | (o, ms) :: l, m :: b, r :: tr, t, s, i, h, hb, hp => by
  have ih:=FF (p:=p) (S:=S) (i:=i+1) h.2 (by simpa using hb) λj x hx he=>by
   have:=hp (j+1) x (by simpa using hx) he
   rw[show i+(j+1)=i+1+j from by omega] at this;simpa using this
  have he:r.bg=o.op.bg:=h.1.2.1;have h0:o.op.bg=aa->S i=p i (e_ (o,ms) m):=λhe=>by simpa using hp 0 (o,ms) (by simp) he
  simp only[cy,List.zipWith_cons_cons,List.zipIdx_cons,ES];rw[ih];have hd:(e_ (o,ms) m).bg=o.op.bg:=rfl;cases hq:o.op.bg
  .simp[he,hq,hd]
  .rw[h0 hq];simp only[he,hd,hq,vp,lj];cases p i (e_ (o,ms) m)
   .simp
   .simp;omega
section
variable {P:Program} {ops:Array Oper} {l:List (AO × List Nat)} {b:List Nat} {SN:List c8} {tr:List TR} {t0:List V} {s0:c8}
structure Ci(ops:Array Oper)(tr:List TR)(t0:List V)(s0:c8)(E0:Env)(X:Array Bool->Env->Act->Prop)(listed:Array Bool)(a:Act)(w:World):Prop where
 size:listed.size=ops.size
 closed:∀(i:Nat) o,ops[i]?=U o->listed.getD i ak=aa->∀e∈o.after,Region.binds .any e=aa->listed.getD e.on ak=aa
 rel:∃E,E.w=w/\bE E (bX (runT (cu (λj=>listed.getD j ak) 0 tr) t0) (dx (cu (λj=>listed.getD j ak) 0 tr) s0)) a/\Fr E0 E/\X listed E a
def Jl(F:yG ops l b){S:Nat->Bool}(hc:∀(i:Nat) o,ops[i]?=U o->S i=aa->∀e∈o.after,Region.binds .any e=aa->S e.on=aa):
 ∀(n i:Nat),i<n->i<ops.size->S i=aa->∀j,(b.getD i 0).testBit j=aa->S j=true:=by
 intro n;induction n with
 | zero=>intro i h;omega
 | succ n ih =>
  intro i hi aB hS j hj;obtain⟨e,h1,h2,h3⟩:=F.mask i ops[i] (lU aB) j hj;have he:=hc i _ (lU aB) hS e h1 h2;have hb:=F.back i _ (lU aB) e h1 h2
  rcases h3 with rfl | h3
  .exact he
  .exact ih e.on (by omega) (by omega) he j h3
def F'(listed:Array Bool)(i:Nat)(h:i<listed.size):listed.getD i aa=listed.getD i false:=by simp[h]
def Spec(P:Program)(l:List (AO × List Nat))(b:List Nat)(t0:List V)(E0:Env)(X:Array Bool->Env->Act->Prop)(i:Nat)(o:Oper)(ao:AO):Prop :=
 o.guard=af/\ao.guard=af/\∀(E:Env) (a:Act) (t:List V) (s:c8) (v:V) (s' : c8) (listed:Array Bool) (Q:Exit->Act->World->Prop),i<listed.size->listed.getD i ak=ak->(∀j,(b.getD i 0).testBit j=aa->listed.getD j ak=aa) ->
  (∀j,j<b.length->(b.getD j 0).testBit i=aa->listed.getD j ak=ak)->(∀d,(∀(j:Nat) x,l[j]?=U x->x.1.dst=U d->listed.getD j ak=ak)->t.getD d .any=t0.getD d .any) ->
  bE E (bX t s) a->Fr E0 E->X listed E a->ao.op.ba P (bX t s) (Exact t v s') ->
  o.wp P a E.w (λa' w' => ∃E',E'.w=w' /\ bE E' (bX (j9 t ao.dst v) s') a' /\ Fr E0 E' /\ X (listed.setIfInBounds i aa) E' a') Q
def QF(F:yG ops l b)(py:b.length=ops.size)(sP:SN=s0::kg tr)(ht:xe P SN l tr t0 s0)
 {E0:Env} {X:Array Bool->Env->Act->Prop} {Q:Exit->Act->World->Prop} {listed:Array Bool} {a:Act} {w:World} (h:Ci ops tr t0 s0 E0 X listed a w) {i:Nat} (hi:i∈Region.ready .any ops listed)
 (uK:∀o,ops[i]?=U o->∃x:AO × List Nat,l[i]?=U x/\((th P ops o=U x.1/\∀listed E E' a u,X listed E a->Fr E E' -> X (listed.setIfInBounds i aa) E' (a.put o.dst u))\/Spec P l b t0 E0 X i o x.1)) {K:Act->World->Prop}
 (hK:∀a w,Ci ops tr t0 s0 E0 X (listed.setIfInBounds i aa) a w->K a w):wpOp P ops Q i K a w:=by
 obtain⟨xS,o,ho,dp⟩:=mem_ready.1 hi;have aB:i<ops.size:=(kG.1 ho).1;have lD : i<listed.size:=by rw[h.size];exact aB
 obtain⟨E,rfl,hs,bf,hX⟩:=h.rel
 let S:Nat->Bool:=λj=>listed.getD j ak
 have C9:S i=false:=by show listed.getD i ak=ak;rw[<-F' _ _ lD];exact xS
 obtain⟨x,hx,K1⟩:=uK o ho;obtain⟨ao,ms⟩:=x;have hlen:=Fg ht;have ai9:i<tr.length:=by rw[<-hlen,F.size];exact aB
 obtain⟨r,hr⟩:∃r,tr[i]?=U r:=⟨tr[i],cL ai9⟩;have ec:=Fh (i:=0) (k:=i) ht hx hr;rw[jy] at ec;obtain⟨hd,he,run,Br,cT,ai3⟩:=ec
 -- who is done,who is not
 have Bm:∀j,(b.getD i 0).testBit j=aa->S j=true:=λj hj=>by
  obtain⟨e,h1,h2,h3⟩:=F.mask i o ho j hj;have hb:=dp e h1 h2
  rcases h3 with rfl | h3
  .exact hb
  .exact Jl F (S:=S) h.closed ops.size e.on (by have:=F.back i o ho e h1 h2;omega) (by have:=F.back i o ho e h1 h2;omega) hb j h3
 have Dc:∀j,j<ops.size->(b.getD j 0).testBit i=aa->S j=false:=λj hj hb=>by
  cases hq:S j with
  | false=>rfl
  | true =>
   have:=Jl F (S:=S) h.closed ops.size j hj hj hq i hb
   rw[this] at C9;simp at C9
 have vX:∀(j:Nat) r',tr[j]?=U r' -> ∃y,l[j]?=U y/\r'.dst=y.1.dst/\r'.bg=y.1.op.bg/\j<ops.size:=λj r' ck => by
  have hj:=(fg.1 ck).1;have zy:j<l.length:=by omega
  have:=Fh (i:=0) (k:=j) ht (cL zy) ck
  exact⟨l[j],cL zy,this.1,this.2.1,by rw[<-F.size];exact zy⟩
 -- what it reads is what it read in the text's order
 have BC:∀n,n∈ym ao->(runT (cu S 0 tr) t0).getD n .any=(runT (cu (dX i) 0 tr) t0).getD n .any:=λn hn=>by
  refine yv rfl rfl λj r' ck hd' => ?_
  rw[jy];obtain⟨y,hy,zJ,_,lC⟩:=vX j r' ck;obtain⟨aX,jj⟩:=F.slot i j (ao,ms) y hx hy n (by rw[<-zJ];exact hd') hn
  rcases vw j i with fC | fC
  .have hu:dX i j=true:=by simp[dX,fC]
   rw[hu]
   rcases jj with h1 | h1
   .exact Bm j h1
   .exfalso
    obtain⟨e,k1,k2,k3⟩:=F.mask j _ (lU lC) i h1
    have:=F.back j _ (lU lC) e k1 k2
    have key:∀n q,q<n->q<ops.size->∀z,(b.getD q 0).testBit z=aa->z<q:=by
     intro n;induction n with
     | zero=>intro q h;omega
     | succ n ih =>
      intro q hq DA z hz;obtain⟨e',m1,m2,m3⟩:=F.mask q _ (lU DA) z hz;have b9 := F.back q _ (lU DA) e' m1 m2
      rcases m3 with rfl | m3
      .exact b9
      .have:=ih e'.on (by omega) (by omega) z m3;omega
    have:=key (j+1) j (by omega) lC i h1
    omega
  .have hu:dX i j=false:=by simp[dX];omega
   rw[hu]
   rcases jj with h1 | h1
   .exfalso
    have key:∀n q,q<n->q<ops.size->∀z,(b.getD q 0).testBit z=aa->z<q:=by
     intro n;induction n with
     | zero=>intro q h;omega
     | succ n ih =>
      intro q hq DA z hz;obtain⟨e',m1,m2,m3⟩:=F.mask q _ (lU DA) z hz;have b9 := F.back q _ (lU DA) e' m1 m2
      rcases m3 with rfl | m3
      .exact b9
      .have:=ih e'.on (by omega) (by omega) z m3;omega
    have:=key (i+1) i (by omega) aB j h1
    omega
   .exact Dc j lC h1
 -- memory
 have uM:∀T:Nat->Bool,(∀(j k:Nat),j<ops.size->k<ops.size->(∀y z,l[j]?=U y->l[k]?=U z->y.1.op.bg=aa->z.1.op.bg=aa->j<k->T k=aa->T j=aa)) ->
  dx (cu T 0 tr) s0=SN.getD (cy T 0 tr) B3:=λT hT=>by
  rw[sP];refine VZ λj k r1 r2 h1 h2 e1 e2 zw hk=>?_
  obtain⟨y,hy,_,ye,lC⟩:=vX j r1 h1;obtain⟨z,hz,_,ze,fP⟩:=vX k r2 h2;rw[jy] at hk ⊢;exact hT j k lC fP y z hy hz (by rw[<-ye];exact e1) (by rw[<-ze];exact e2) zw hk
 have Gh:∀(j k:Nat),j<ops.size->k<ops.size->(∀y z,l[j]?=U y->l[k]?=U z->y.1.op.bg=aa->z.1.op.bg=aa->j<k->S k=aa->S j=aa):=λj k _ hk y z hy hz e1 e2 zw Bl =>
  Jl F (S:=S) h.closed ops.size k hk hk Bl j (F.bg j k y z hy hz zw e1 e2)
 have Lk:∀q (j k:Nat),j<ops.size->k<ops.size->(∀y z,l[j]?=U y->l[k]?=U z->y.1.op.bg=aa->z.1.op.bg=aa->j<k->dX q k=aa->dX q j=aa):=λq j k _ _ _ _ _ _ _ _ zw hk=>by
  simp[dX] at hk ⊢;omega
 have SU:ao.op.bg=aa->dx (cu S 0 tr) s0=dx (cu (dX i) 0 tr) s0:=λrM=>by
  rw[uM S Gh,uM (dX i) (Lk i)];congr 1;refine FG λj r' ck xP=>?_
  rw[jy];obtain⟨y,hy,_,ye,lC⟩:=vX j r' ck
  rcases yR j i with fC | fC | fC
  .have:dX i j=true:=by simp[dX,fC]
   rw[this];exact Bm j (F.bg j i y (ao,ms) hy hx fC (by rw[<-ye];exact xP) rM)
  .subst fC
   have:dX j j=false:=by simp[dX]
   rw[this];exact C9
  .have:dX i j=false:=by simp[dX];omega
   rw[this];exact Dc j lC (F.bg i j (ao,ms) y hx hy fC rM (by rw[<-ye];exact xP))
 -- the next state
 have Kq:(λj=>(listed.setIfInBounds i aa).getD j ak)=add S i:=by
  funext j;simp only[add,S]
  by_cases fC:j=i
  .subst fC;simp[lD]
  .rw[pY,AK (fi fC),<-pY];simp[fC]
 have hT:runT (cu (add S i) 0 tr) t0=j9 (runT (cu S 0 tr) t0) r.dst r.val :=
  V1 (by omega) (by simpa using hr) C9 λj r' ck aX n hn K4 => by
   obtain⟨y,hy,zJ,_,_⟩:=vX j r' ck;exact F.dst j i y (ao,ms) hy hx (by omega) n (by rw[<-hd];exact hn) (by rw[<-zJ];exact K4)
 have ah':∀(j k:Nat),j<ops.size->k<ops.size->(∀y z,l[j]?=U y->l[k]?=U z->y.1.op.bg=aa->z.1.op.bg=aa->j<k->add S i k=aa->add S i j=aa):=λj k hj hk y z hy hz e1 e2 zw Bl=>by
  simp only[add,mn,ca] at Bl ⊢
  rcases Bl with Bl | rfl
  .exact .inl (Gh j k hj hk y z hy hz e1 e2 zw Bl)
  .exact .inl (Bm j (F.bg j k y z hy hz zw e1 e2))
 have Kn:dx (cu (add S i) 0 tr) s0=if ao.op.bg then r.yA else dx (cu S 0 tr) s0:=by
  rw[uM (add S i) ah'];cases rM:ao.op.bg
  .simp only[dm,cn];rw[uM S Gh];congr 1;refine FG λj r' ck xP=>?_
   rw[jy];obtain⟨y,hy,_,ye,_⟩:=vX j r' ck;have fC:j≠i:=by
    rintro rfl;rw[hx] at hy;simp at hy;subst hy;rw[ye,rM] at xP;simp at xP
   simp[add,fC]
  .simp only[cD];have h1:cy (add S i) 0 tr=cy (dX (i+1)) 0 tr:=FG λj r' ck xP=>by
    rw[jy];obtain⟨y,hy,_,ye,lC⟩:=vX j r' ck
    rcases yR j i with fC | fC | fC
    .have:dX (i+1) j=true:=by simp[dX];omega
     rw[this]
     have:=Bm j (F.bg j i y (ao,ms) hy hx fC (by rw[<-ye];exact xP) rM)
     simp[add,this]
    .subst fC;simp[add,dX]
    .have:dX (i+1) j=false:=by simp[dX];omega
     rw[this]
     have:=Dc j lC (F.bg i j (ao,ms) y hx hy fC rM (by rw[<-ye];exact xP))
     simp[add,this];omega
   rw[h1,<-uM (dX (i+1)) (Lk (i+1))];have atK : dX (i+1)=add (dX i) i:=by
    funext j;simp only[dX,add];rw[Cl];simp;omega
   -- the run up to and with i
   have key:∀(tr:List TR) (q:Nat) (s:c8),q<=i->tr[i - q]?=U r->dx (cu (dX (i+1)) q tr) s=r.yA:=by
    intro tr;induction tr with
    | nil=>intro q s _ h;simp at h
    | cons r' tr ih =>
     intro q s hq h;have hu:dX (i+1) q=true:=by simp[dX];omega
     simp only[cu,hu,cD,dx]
     by_cases hqi:q=i
     .subst hqi;simp at h;subst h;rw[NI (by omega)];simp[dx,he,rM]
     .exact ih (q+1) _ (by omega) (by rw[show i - q=(i - (q+1))+1 from by omega] at h;simpa using h)
   exact key tr 0 s0 (by omega) (by simpa using hr)
 -- the closure
 have ail : ∀(j:Nat) o',ops[j]?=U o' -> (listed.setIfInBounds i aa).getD j ak=aa->∀e∈o'.after,Region.binds .any e=aa->(listed.setIfInBounds i aa).getD e.on ak=true:=λj o' fD hj e h1 h2=>by
  have ej:(listed.setIfInBounds i aa).getD j ak=add S i j:=congrFun Kq j;have ee:(listed.setIfInBounds i aa).getD e.on ak=add S i e.on:=congrFun Kq e.on;rw[ee];rw[ej] at hj;simp only[add,mn,ca] at hj ⊢
  rcases hj with hj | rfl
  .exact .inl (h.closed j o' fD hj e h1 h2)
  .rw[ho] at fD;simp only[aZ] at fD;subst fD;exact .inl (dp e h1 h2)
 have Ur:∀E' a' t' s',E'.w=E'.w->t' = runT (cu (add S i) 0 tr) t0->s' = dx (cu (add S i) 0 tr) s0->bE E' (bX t' s') a' -> Fr E0 E' -> X (listed.setIfInBounds i aa) E' a' -> K a' E'.w:=λE' a' t' s' _ e1 e2 dj jX jC => by
  refine hK a' E'.w ⟨by simp[h.size],ail,E',rfl,?_,jX,jC⟩;rw[Kq,<-e1,<-e2];exact dj
 -- the machine's step
 unfold wpOp;rw[ho];simp only;have aiM:∀g n y,ao.op = .load g n y->run=aa->re (dx (cu S 0 tr) s0) g n (ev (bX (runT (cu (dX i) 0 tr) t0) (dx (cu (dX i) 0 tr) s0)) y)=U r.val:=λg n y hy jl=>by
  obtain⟨kp,v5⟩:=cT jl;rw[uM S Gh];have aiH:ao.op.BM=true:=by rw[hy];rfl
  have hm:=F.load i (ao,ms) hx aiH (cy S 0 tr);have aiL : oH (lq e_ l b) (e_ (ao,ms) (b.getD i 0))<=cy S 0 tr:=by
   have e:oH (lq e_ l b) (e_ (ao,ms) (b.getD i 0))=cy (λj=>(b.getD i 0).testBit j) 0 tr:=by
    unfold oH A6;exact(FF (p:=λj _=>(b.getD i 0).testBit j) (S:=λj=>(b.getD i 0).testBit j) ht (by rw[py,F.size]) (λj y _ _=>rfl)).symm
   rw[e];exact Jn λj r' _ _ hb=>by rw[jy] at hb ⊢;exact Bm j hb
  have aiD : cy S 0 tr<=xJ (lq e_ l b) i:=by
   have e:xJ (lq e_ l b) i=cy (λj=>!((b.getD j 0).testBit i)) 0 tr:=by
    unfold xJ A6;exact(FF (p:=λ_ y=>!(y.mask.testBit i)) (S:=λj=>!((b.getD j 0).testBit i)) ht (by rw[py,F.size]) (λj y _ _=>by simp[e_])).symm
   rw[e];refine Jn λj r' ck _ Km=>?_
   rw[jy] at Km ⊢;obtain⟨y,_,_,_,lC⟩:=vX j r' ck;cases hb:(b.getD j 0).testBit i with
   | false=>rfl
   | true=>rw[Dc j lC hb] at Km;simp at Km
  rcases hm aiL aiD with hm | hm
  .exact v5 g n y hy _ hm
  .have e:Ac (lq e_ l b) i=cy (dX i) 0 tr:=by
    unfold Ac A6;exact(FF (p:=λj _=>decide (j<i)) (S:=dX i) ht (by rw[py,F.size]) (λj y _ _=>rfl)).symm
   rw[hm,e,<-uM (dX i) (Lk i)];rw[hy] at kp;simp only[aI.ba] at kp;rw[Ty] at kp;cases hq:re (dx (cu (dX i) 0 tr) s0) g n (ev (bX (runT (cu (dX i) 0 tr) t0) (dx (cu (dX i) 0 tr) s0)) y) with
   | none=>rw[hq] at kp;exact kp.elim
   | some u=>rw[hq] at kp;rw[kp.1]
 have pF:∀y∈ao.op.xs,ev (bX (runT (cu S 0 tr) t0) (dx (cu S 0 tr) s0)) y=ev (bX (runT (cu (dX i) 0 tr) t0) (dx (cu (dX i) 0 tr) s0)) y:=λy hy =>
  adn λn hn=>BC n (by simp only[ym,jw,O4];exact .inl ⟨y,hy,hn⟩)
 have SP : run=aa->ao.op.ba P (bX (runT (cu S 0 tr) t0) (dx (cu S 0 tr) s0)) (Exact (runT (cu S 0 tr) t0) r.val (if ao.op.bg then(if ao.op.bg then r.yA else dx (cu (dX i) 0 tr) s0) else dx (cu S 0 tr) s0)):=λjl =>
  aql (P:=P) (op:=ao.op) (t:=runT (cu (dX i) 0 tr) t0) (t2:=runT (cu S 0 tr) t0) (s:=dx (cu (dX i) 0 tr) s0) (s2:=dx (cu S 0 tr) s0) pF SU (λg n y hy=>aiM g n y hy jl) (cT jl).1
 rcases K1 with ⟨K1,hXg⟩ | ai4
 case' inr =>
  obtain⟨Gx,vY,rX⟩:=ai4;rw[aE (by simp[Region.wanted,Gx])];left;have jl:run=true:=by rw[vY] at Br;exact Br
  have lH:∀d,(∀(j:Nat) x,l[j]?=U x->x.1.dst=U d->listed.getD j ak=ak)->(runT (cu S 0 tr) t0).getD d .any=t0.getD d .any:=λd hd=>by
   have h1:=yv (S:=S) (S' := λ_=>ak) (x:=d) (tr:=tr) (i:=0) (t:=t0) (t' := t0) rfl rfl λj r' ck hrd=>by
    obtain⟨y,hy,zJ,_,_⟩:=vX j r' ck;rw[jy];exact hd j y hy (by rw[<-zJ];exact hrd)
   rw[h1]
   have:∀(tr:List TR) (q:Nat),cu (λ_=>ak) q tr=[]:=by
    intro tr;induction tr with
    | nil=>intro q;rfl
    | cons r tr ih=>intro q;simp only[cu,dm,cn];exact ih _
   rw[this];rfl
  refine Oper.wp_mono ?_ (rX E a _ _ _ _ listed Q lD C9 Bm (λj hj=>Dc j (by omega)) lH hs bf hX (SP jl));rintro a' w' ⟨E',rfl,dj,jX,jC⟩;refine Ur E' a' _ _ rfl ?_ ?_ dj jX jC
  .rw[hT,hd]
  .rw[Kn];cases rM:ao.op.bg<;>simp
 have next:∀E' u t' s',t' = runT (cu (add S i) 0 tr) t0->s' = dx (cu (add S i) 0 tr) s0->bE E' (bX t' s') (a.put o.dst u)->Fr E E' -> K (a.put o.dst u) E'.w:=λE' u t' s' e1 e2 dj jX => Ur E' _ t' s' rfl e1 e2 dj (bf.trans jX) (hXg _ _ _ _ _ hX jX)
 have dK:=K1;unfold th at dK;split at dK
 .simp at dK
 rename_i op l8;have ai':Region.wanted o (yielded ops a.tmps)=run/\op=ao.op/\o.dst=ao.dst:=by
  cases hg:o.guard with
  | none =>
   rw[hg] at dK;simp only[aZ] at dK;subst dK;simp only at Br;exact⟨by simp[Region.wanted,hg,Br],rfl,rfl⟩
  | some p =>
   obtain⟨j,want⟩:=p;rw[hg] at dK;simp only at dK;split at dK
   case h_2=>simp at dK
   rename_i g n7;simp only[aZ] at dK;subst dK;simp only at Br;refine⟨?_,rfl,rfl⟩;have xI:=BC g (by simp[ym])
   rcases Br with ⟨bb,fv,dD⟩ | ⟨fv,dD⟩
   case' inr =>
    rw[fv] at xI;have hR:=Fc hs.slot g undef;have px : R E (.bt []) (a.tmps.toList.getD g undef):=by
     have:(bX (runT (cu S 0 tr) t0) (dx (cu S 0 tr) s0)).t.getD g .any = .bt []:=xI
     rw[<-this];exact hR
    have hu:=Pf px;rw[dD];simp only[Region.wanted,hg,yielded,n7,vA];cases hq:a.tmps[g]? with
    | none=>rfl
    | some u =>
     have:u=undef:=by rw[gU] at hu;simp[hq] at hu;exact hu
     rw[this];rfl
   rw[fv] at xI;have hR:=Fc hs.slot g undef;have px : R E (.bool bb) (a.tmps.toList.getD g undef):=by
    have:(bX (runT (cu S 0 tr) t0) (dx (cu S 0 tr) s0)).t.getD g .any = .bool bb:=xI
    rw[<-this];exact hR
   simp only[R] at px;have sV:a.tmps[g]?=U (.bool bb):=by
    rw[gU] at px;cases hq:a.tmps.toList[g]? with
    | none=>rw[hq] at px;simp[undef] at px
    | some u=>rw[hq] at px;simp at px;subst px;simpa using hq
   simp only[Region.wanted,hg,yielded,n7,vA,sV];rw[dD];cases bb<;>cases want<;>rfl
 obtain⟨wc,rfl,lz⟩:=ai';rw[wc];cases jl:run with
 | true =>
  rw[aE rfl];left;refine Oper.wp_mono ?_ (D0 (Q:=Q) l8 hs (SP jl));rintro a' w' ⟨E',v,u,aJ,rfl,jX,dj,hv,rfl,GP,rfl⟩;subst GP
  have:=bE.put dj hv o.dst
  rw[Ec] at this;refine next E' u _ _ ?_ ?_ this jX
  .rw[hT,hd,lz]
  .rw[Kn];cases rM:ao.op.bg<;>simp
 | false =>
  rw[aC (by simp)];obtain⟨hv,hsk⟩:=ai3 jl
  have:=bE.put hs (v:=.bt []) (x:=undef) IZ o.dst
  rw[Ec] at this;refine next E undef _ _ ?_ ?_ this (Fr.refl E)
  .rw[hT,hd,lz,hv]
  .rw[Kn];cases rM:ao.op.bg
   .rw[aC (by simp)]
   .simp only[cD];rw[hsk (by rw[he,rM])];exact SU rM
def count_set:∀(l:List Bool) (i:Nat),l[i]?=U ak->(l.set i aa).count ak+1=l.count ak
 | [],i,h=>by simp at h
 | x::l,0,h=>by simp at h;subst h;simp
 | x :: l, i + 1, h => by
  simp at h
  have:=count_set l i h
  cases x<;>simp<;>omega
variable{E:Env}{K:St->Prop}{a:Act}{st:St}
def QE{ops:Array Oper}{l:List (AO × List Nat)}{b:List Nat}(F:yG ops l b)(py:b.length=ops.size)(hf:P.follows .mixedOrders=aa){id:Nat}(h:ch P l [(st.aD,st.out)] [] K st)(hs:bE E st a){X:Array Bool->Env->Act->Prop}
 (hX0:∀E',X (Array.replicate ops.size ak) E' a)
 (uK:∀(i:Nat) o,ops[i]?=U o->∃x:AO × List Nat,l[i]?=U x/\((th P ops o=U x.1/\∀listed E E' a u,X listed E a->Fr E E' -> X (listed.setIfInBounds i aa) E' (a.put o.dst u))\/Spec P l b st.t E X i o x.1)) :
 (Code.region id ops aa).wp P (λe a' w' => ∃E' aJ,E'.w=w' /\ bE E' aJ a' /\ Fr E E' /\ e = .normal/\K aJ) a E.w:=by
 refine wp_region_any hf ?_;obtain⟨bf,_,oD⟩:=Er hs ((Ext.refl E.w).drew);obtain⟨tr,ht,_,hK⟩:=Ij (t:=st.t) (s:=(st.aD,st.out)) h;have sP:[(st.aD,st.out)]++kg tr=(st.aD,st.out)::kg tr:=rfl;rw[sP] at ht;have hlen:=Fg ht;have key:∀(fuel:Nat) (listed:Array Bool) (a:Act) (w:World),Ci ops tr st.t (st.aD,st.out) E X listed a w->listed.toList.count ak<=fuel ->
  wpAny P .any ops (λe a' w' => ∃E' aJ,E'.w=w' /\ bE E' aJ a' /\ Fr E E' /\ e = .normal/\K aJ) fuel listed a w:=by
  have done:∀(listed:Array Bool) (a:Act) (w:World),Ci ops tr st.t (st.aD,st.out) E X listed a w->Region.ready .any ops listed=[] ->
   ∃E' aJ,E'.w=w/\bE E' aJ a/\Fr E E' /\ Exit.normal = .normal/\K aJ := λlisted a w h hr=>by
   have dp:∀n j,j<n->j<ops.size->listed.getD j ak=true:=by
    intro n;induction n with
    | zero=>intro j h;omega
    | succ n ih =>
     intro j hj lC;cases hq:listed.getD j ak with
     | true=>rfl
     | false =>
      have:j∈Region.ready .any ops listed:=mem_ready.2 ⟨by rw[F' _ _ (by rw[h.size];exact lC)];exact hq,ops[j],lU lC,λe he hb=>by
       have:=F.back j _ (lU lC) e he hb
       exact ih e.on (by omega) (by omega)⟩
      rw[hr] at this;simp at this
   obtain⟨E',h1,h2,h3,_⟩:=h.rel;rw[Wt (λj hj=>by rw[jy];exact dp (j+1) j (by omega) (by rw[<-F.size,hlen];exact hj))] at h2;exact⟨E',_,h1,h2,h3,rfl,hK⟩
  intro fuel;induction fuel with
  | zero =>
   intro listed a w h hc;have hr:Region.ready .any ops listed=[]:=by
    cases hq:Region.ready .any ops listed with
    | nil=>rfl
    | cons j js =>
     obtain⟨h1,o,ho,_⟩:=mem_ready.1 (show j∈Region.ready .any ops listed by rw[hq];simp);have aB:j<listed.size:=by rw[h.size];exact(kG.1 ho).1
     have:ak∈listed.toList:=by
      have e:listed[j]?=U false:=by
       rw[lU aB];simpa [aB] using h1
      exact rA (by simpa using e)
     have:=List.count_pos_iff.2 this
     omega
   exact⟨hr,done listed a w h hr⟩
  | succ fuel ih =>
   intro listed a w h hc;refine⟨λhr=>done listed a w h hr,λi hi=>?_⟩;refine QF F py rfl ht h hi (uK i) λa w h' => ih _ a w h' ?_
   obtain⟨h1,o,ho,_⟩:=mem_ready.1 hi;have aB:i<listed.size:=by rw[h.size];exact(kG.1 ho).1
   have e:listed.toList[i]?=U false:=by
    have:listed[i]?=U false:=by
     rw[lU aB];simpa [aB] using h1
    simpa using this
   have:=count_set listed.toList i e
   simp only[OE];omega
 have xO:∀j,(Array.replicate ops.size ak).getD j ak=false:=λj=>by
  by_cases hj:j<ops.size<;>simp[hj]
 have pC:∀(tr:List TR) (q:Nat),cu (λj=>(Array.replicate ops.size ak).getD j ak) q tr=[]:=by
  intro tr;induction tr with
  | nil=>intro q;rfl
  | cons r tr ih=>intro q;rw[cu,aC (by rw[xO];simp)];exact ih _
 refine key ops.size _ a _ ⟨by simp,λi o _ hi=>by rw[xO] at hi;simp at hi,{E with w:=E.w.drew},rfl,?_,bf,hX0 _⟩ (by simp);rw[pC];exact oD
def acf{ops:Array Oper}{l:List (AO × List Nat)}{id:Nat}(hl:Hk P ops=U l)(h:ch P l [(st.aD,st.out)] [] K st):
 iF P (.region id ops aa) (λe aJ => e = .normal/\K aJ) st:=by
 obtain⟨b,F,py,hf,uK⟩:=alc hl;intro E a hs;exact QE (X:=λ_ _ _=>True) F py hf h hs (λ_=>trivial) λi o ho=>by
  obtain⟨x,h1,h2⟩:=uK i o ho;exact⟨x,h1,.inl ⟨h2,λ_ _ _ _ _ _ _=>trivial⟩⟩
end
section
variable {P:Program} {E:Env} {st:St} {a:Act} {o:Oper} {K:V->St->Prop} {Q:Exit->Act->World->Prop}
variable{c:Array Value}{e:TypeId}{zs:List V}
def XB(hs:bE E st a)(hr:(execOp a.eval o).run P E.w = .ok (.value (.pointer (U ⟨E.w.heap.size,0,af⟩))) (E.w.alloc (.cells c e)))
 (hz:RL E zs c.toList) (qh:bK zs=aa) (hk:∀b,st.out.box b=af->K (.ptr (.out b) 0) ⟨st.t,st.aD,st.out.set b zs⟩):o.wp P a E.w (dJ E a o.dst K) Q:=by
 unfold Oper.wp;rw[hr]
 let E' : Env:={w:=E.w.alloc (.cells c e),a7:=λb=>if b=E.w.heap.size then .pJ else E.a7 b,aD:=E.aD,aK:=E.aK}
 have hx:Ext E.w E'.w:=(Ext.refl _).alloc _ _;have bf:Fr E E' := xw hs.ok.fresh hx (λb hb=>by simp only[E'];rw[aC (by omega)]) (λ_ _ h=>h);have hle:E.le E' := bf.le λi b h=>h
 have iM:st.out.box E.w.heap.size=none:=by
  cases hq:st.out.box E.w.heap.size with
  | none=>rfl
  | some cs =>
   obtain⟨_,c',e',h3,_⟩:=hs.ok.box _ cs hq
   have:=kx (w:=E.w) h3
   omega
 refine⟨E',_,_,⟨st.t,st.aD,st.out.set E.w.heap.size zs⟩,rfl,bf,⟨⟨?_,?_,?_,hs.ok.nt,λb cs hc=>dZ.mono _ bf.nl (hs.ok.bY b cs hc)⟩,?_,hs.defers,RL.mono _ hle hs.slot⟩,?_,rfl,hk _ iM⟩
 .intro b cs bR;simp only[ag.set] at bR;split at bR
  .rename_i hb;subst hb;simp only[aZ] at bR;subst bR;have DG := RL.o7 (E:=E) (E' := E'.nl) _ bf.nl qh hz;have hl:=fI DG;refine⟨by simp[E'],c,e,heap_alloc_new _ _,by simp at hl;omega,λj x hx=>?_⟩;obtain⟨v,hv,ck⟩:=qC DG j x hx;exact⟨v,by simpa using hv,ck⟩
  .rename_i hb;obtain⟨h1,h2⟩:=hs.ok.box b cs bR;have aB:b<E.w.heap.size:=by obtain⟨c,e,h3,_⟩:=h2;exact kx (w:=E.w) h3
   exact⟨by simp only[E'];rw[aC hb];exact h1,h2.mono bf.nl (hx.block b aB)⟩
 .exact hs.ok.aK
 .intro b hb;simp only[E',World.size_alloc] at hb ⊢;rw[aC (by omega)];exact hs.ok.fresh b (by omega)
 .exact pK hs.cV hle (λb i h hb=>⟨by simp only[E'];rw[aC (by omega)];exact h,hx.block b hb⟩) hs.cV.none
 .simp only[R]
variable{t:TypeId}
def asN(hs:bE E st a)(ho:o.op = .alloc t)(hz:jK P t=U zs)(hk:aI.ba P st K (.nP zs)):o.wp P a E.w (dJ E a o.dst K) Q:=by
 obtain⟨i,z,h1,h2,h3,_⟩:=sy hz;refine XB hs (c:=z.cells) (e:=t) ?_ (qH h3) hk.1 hk.2;simp[execOp,ho,Instr.alloc,zeroValue,typeInfo,h1,h2,newVar,newRow]
variable{x:Operand}
def asR(hs:bE E st a){n:Nat}{y:X}(ho:o.op = .box t x)(hx:R E (ev st y) (a.eval x))(hk:aI.ba P st K (.gf n y)):o.wp P a E.w (dJ E a o.dst K) Q:=by
 refine XB hs (c:=(a.eval x).cells) (e:=t) ?_ (xc hx hk.1).1 hk.2.1 hk.2.2;simp[execOp,ho,Instr.box,newVar,newRow]
def Om(hs:bE E st a){w1:World}(GR:Ext E.w w1)(ai_:w1.heap.size=E.w.heap.size){x:Value}{v:Nat->V}
 (hr:(execOp a.eval o).run P E.w = .ok (.value x) (w1.alloc (.cells c e)))
 (hz:RL E.nl zs c.toList) (hv:R E (v E.w.heap.size) x) (qh:(v E.w.heap.size).cI=aa) (hk:∀b,st.out.box b=af->K (v b) ⟨st.t,st.aD,st.out.set b zs⟩):o.wp P a E.w (dJ E a o.dst K) Q:=by
 unfold Oper.wp;rw[hr]
 let E' : Env:={w:=w1.alloc (.cells c e),a7:=λb=>if b=E.w.heap.size then .pJ else E.a7 b,aD:=E.aD,aK:=E.aK}
 have hx:Ext E.w E'.w:=GR.alloc _ _;have bf:Fr E E' := xw hs.ok.fresh hx (λb hb=>by simp only[E'];rw[aC (by omega)]) (λ_ _ h=>h);have hle:E.le E' := bf.le λi b h=>h
 have iM:st.out.box E.w.heap.size=none:=by
  cases hq:st.out.box E.w.heap.size with
  | none=>rfl
  | some cs =>
   obtain⟨_,c',e',h3,_⟩:=hs.ok.box _ cs hq
   have:=kx (w:=E.w) h3
   omega
 refine⟨E',_,_,⟨st.t,st.aD,st.out.set E.w.heap.size zs⟩,rfl,bf,⟨⟨?_,?_,?_,hs.ok.nt,λb cs hc=>dZ.mono _ bf.nl (hs.ok.bY b cs hc)⟩,?_,hs.defers,RL.mono _ hle hs.slot⟩,hv.mono _ hle,rfl,hk _ iM⟩
 .intro b cs bR;simp only[ag.set] at bR;split at bR
  .rename_i hb;subst hb;simp only[aZ] at bR;subst bR;have DG : RL E'.nl zs c.toList:=RL.mono _ bf.nl hz;have hl:=fI DG;refine⟨by simp[E'],c,e,?_,by simp at hl;omega,λj x hx=>?_⟩
   .show(w1.alloc (.cells c e)).heap[E.w.heap.size]?=_;rw[<-ai_];exact heap_alloc_new _ _
   .obtain⟨v,hv,ck⟩:=qC DG j x hx;exact⟨v,by simpa using hv,ck⟩
  .rename_i hb;obtain⟨h1,h2⟩:=hs.ok.box b cs bR;have aB:b<E.w.heap.size:=by obtain⟨c,e,h3,_⟩:=h2;exact kx (w:=E.w) h3
   exact⟨by simp only[E'];rw[aC hb];exact h1,h2.mono bf.nl (hx.block b aB)⟩
 .exact hs.ok.aK
 .intro b hb;simp only[E',World.size_alloc] at hb ⊢;rw[aC (by omega)];exact hs.ok.fresh b (by omega)
 .exact pK hs.cV hle (λb i h hb=>⟨by simp only[E'];rw[aC (by omega)];exact h,hx.block b hb⟩) hs.cV.none
variable{ty u:TypeId}
def Ol(hs:bE E st a){i:TypeInfo}{z:Value}(ht:P.underlying t=U (.slice e))(hi:P.info? e=U i)(hz:i.zero=U z)(iN:z.cells.size=i.size)
 (mA:i.bytes<=4096) {base:Option Addr} {n cap:Nat} {vx:Value} {m:List (List V)}
 (cT:(execOp a.eval o).run P E.w=((Builtin.append_ #[t,u] ty #[.slice base n cap,vx]).run P E.w).andThen λv w' => .ok (.value v) w')
 {news:List Value} (qW:Src P E.w i.size m.length u vx news) (rT:RL E.nl m.flatten news) (fL:∀v∈news,v.oneCell' = aa) (hm:∀y∈m,y.length=i.size)
 (hk:yH st.out i.size base n cap m λv Z=>K v ⟨st.t,st.aD,Z⟩):o.wp P a E.w (dJ E a o.dst K) Q:=by
 obtain⟨zp,jV,n8,Dm,rN,rO⟩:=hk;have rQ:=qW.size;have Df:(n+m.length)*i.bytes<=140737488355328:=by
  have:=O_ jV mA
  simp only[aO] at this;omega
 have DD:n+m.length<=9223372036854775807:=by simp only[aO] at jV;omega
 by_cases qg:m=[]
 .have hK0:K (V.raw (Value.slice base n cap)) st:=Dm qg;subst qg
  have:news=[]:=sz (by simpa using rQ)
  subst this;refine cR hs (v:=.raw (.slice base n cap)) (x:=.slice base n cap) ?_ (by simp only[R]) hK0;rw[cT,V5 (P:=P) ht hi zp qW];rfl
 rcases vw cap (n+m.length) with aB | n_
 .obtain⟨cs,bR,rO⟩:=rO aB;have hold:∃gG:List Value,(Builtin.firstCells i.size n (.slice base n cap)).run P E.w.drew = .ok gG.toArray E.w.drew/\RL E.nl (cs.take (n*i.size)) gG/\gG.length=n*i.size/\(cs.take (n*i.size)).length=n*i.size:=by
   rcases bR with ⟨rfl,rfl⟩ | ⟨b,rfl,nZ,hle⟩
   .refine⟨[],?_,by simp[RL],by simp,by simp⟩;cases base<;>simp[Builtin.firstCells,loadCells,loadCellsFrom]
   .obtain⟨dv,c,e',eX,hlen,n5⟩:=hs.ok.box b cs nZ;have eX:E.w.heap[b]?=U (.cells c e' (0,0)):=eX;refine⟨c.toList.take (n*i.size),?_,CA (by simp;omega) λj x u hx hu=>?_,by simp;omega,by simp;omega⟩
    .have hl:(c.toList.take (n*i.size)).length=n*i.size:=by simp;omega
     have:=run_loadCells_list (P:=P) E.w.drew ⟨b,0,af⟩ (c.toList.take (n*i.size)) (λj v hv=>by
      rw[mr];have Gl : E.w.drew.heap[b]?=U (.cells c e' (0,0)):=eX;have hj:j<n*i.size:=by have:=(fg.1 hv).1;omega
      rw[yN hj] at hv;simpa [World.cell?,Gl] using hv)
     rw[hl] at this;simp only[Builtin.firstCells];exact this
    .have hj:j<n*i.size:=by have:=(fg.1 hx).1;simp at this;omega
     rw[yN hj] at hx;rw[yN hj] at hu;obtain⟨v,h1,h2⟩:=n5 j x hx
     have:v=u:=by simp at hu;rw[hu] at h1;simpa using h1.symm
     exact this▸h2
  obtain⟨gG,Dv,rU,mZ,ho4⟩:=hold;have qf:=grownCap_ge E.w (n+m.length) cap e;have hr:(execOp a.eval o).run P E.w = .ok (.value (.slice (U ⟨E.w.heap.size,0,af⟩) (n+m.length) (grownCap E.w (n+m.length) cap e)))
   (E.w.drew.alloc (.cells (gG++(news++(Builtin.zeroCells z.cells (grownCap E.w (n+m.length) cap e - (n+m.length))).toList)).toArray e)):=by
   rw[cT,Ns (P:=P) ht hi hz Dv qW aB Df DD];rfl
  have Lp:(Builtin.zeroCells z.cells (grownCap E.w (n+m.length) cap e - (n+m.length))).toList.length=(grownCap E.w (n+m.length) cap e - (n+m.length))*i.size:=by
   simp only[AL,size_zeroCells,iN]
  generalize grownCap E.w (n+m.length) cap e=nc at hr qf Lp;generalize (Builtin.zeroCells z.cells (nc - (n+m.length))).toList=rest at hr Lp;refine Om hs (v:=λb=>.raw (.slice (U ⟨b,0,af⟩) (n+m.length) nc)) (zs:=cs.take (n*i.size)++m.flatten++au ((nc - (n+m.length))*i.size) .any) ((Ext.refl E.w).drew) rfl hr ?_ (by simp only[R]) rfl (λb hb=>rO b nc hb qf);simp only[eB];refine tZ rU (tZ rT ?_);rw[<-Lp];exact Pd rest
 .obtain⟨b,cs,rfl,nZ,n6,hK⟩:=rN qg n_;obtain⟨dv,c,e',eX,hlen,n5⟩:=hs.ok.box b cs nZ;have eX:E.w.heap[b]?=U (.cells c e' (0,0)):=eX;have kQ:=my hm;have KK : n*i.size+news.length<=c.size:=by rw[rQ];omega
  have jl:=Nt (P:=P) (ty:=ty) ht hi eX qW fL n_ KK;have bf:=F7 (E:=E) (new:=(c.toList.take (n*i.size)++news++c.toList.drop (n*i.size+news.length)).toArray) eX (.inr dv) (by simp;omega);have hle:=bf.le λ_ _ h=>h
  have gw:=setRow_heap E.w b c (c.toList.take (n*i.size)++news++c.toList.drop (n*i.size+news.length)).toArray e' _ eX;have zo:=FB (E' := Env.nl {E with w:=E.w.setRow b (c.toList.take (n*i.size)++news++c.toList.drop (n*i.size+news.length)).toArray}) hlen
   (λj x hj=>let ⟨u,h1,h2⟩:=n5 j x hj;⟨u,h1,h2.mono _ bf.nl⟩) (RL.mono _ bf.nl rT) (by omega) gw
  generalize (c.toList.take (n*i.size)++news++c.toList.drop (n*i.size+news.length)).toArray=new at jl gw bf hle zo;have jY : ∀b',b' ≠ b->(E.w.setRow b new).heap[b']?=E.w.heap[b']?:=λb' aX=>setRow_other E.w b b' new aX
  unfold Oper.wp;rw[cT,jl];refine⟨{E with w:=E.w.setRow b new},.raw (.slice (U ⟨b,0,af⟩) (n+m.length) cap),.slice (U ⟨b,0,af⟩) (n+m.length) cap,⟨st.t,st.aD,st.out.set b (setAt cs (n*i.size) m.flatten)⟩,rfl,bf,⟨⟨?_,hs.ok.aK,λb' b9 => hs.ok.fresh b' (by simpa using b9),hs.ok.nt,λb cs hc=>dZ.mono _ bf.nl (hs.ok.bY b cs hc)⟩,
   pK hs.cV hle (λb' i hr _=>⟨hr,jY b' (by rintro rfl;rw[dv] at hr;simp at hr)⟩) hs.cV.none,hs.defers,RL.mono _ hle hs.slot⟩,by simp only[R],rfl,hK⟩
  intro b' ds jW
  by_cases cq:b' = b
  .subst cq;rw[ag.d_] at jW;simp only[aZ] at jW;subst jW;exact⟨dv,zo⟩
  .rw[ag.eg _ _ cq] at jW;obtain⟨k1,k2⟩:=hs.ok.box b' ds jW;exact⟨k1,k2.mono bf.nl (jY b' cq)⟩
variable{k:Nat}
def alC{z:Array Value}{n:Nat}(hz:z.size=k)(hk:0<k):(madeCells z (n*k)).toList=(au n z.toList).flatten:=by
 apply OU;intro j;have e:∀(n j:Nat),j<n*k->(au n z.toList).flatten[j]?=z[j % k]?:=by
  intro n;induction n with
  | zero=>intro j hj;simp at hj
  | succ n ih =>
   intro j hj;rw[yP,kH]
   by_cases h:j<k
   .rw[sA (by simpa [hz] using h),O9 h];simp
   .rw[AR (by simp[hz];omega)];have hl:z.toList.length=k:=by simpa using hz
    have gM : j - k<n*k:=by rw[je,w9] at hj;omega
    rw[hl,ih (j - k) gM,show(j - k) % k=j % k from(Nat.mod_eq_sub_mod (by omega)).symm]
 by_cases hj:j<n*k
 .rw[e n j hj];have hm:j % k<z.size:=by rw[hz];exact Nat.mod_lt _ hk
  rw[getElem?_pos z _ hm];have hg:z[j % k]! = z[j % k]:=getElem!_pos z (j % k) hm;simp[madeCells,hj,hz,hg]
 .rw[yM (by simp[madeCells];omega),yM (by simp[hz];omega)]
def Nz:Operand->Operand->Bool
 | .tmp a,.tmp b=>decide (a=b)
 | .const (.int k a),.const (.int k' b)=>decide (k=k')&&decide (a=b)
 | _,_=>ak
def aqa{y:Operand}(h:Nz x y=aa):x=y:=by
 unfold Nz at h;split at h
 .simp at h;rw[h]
 .simp at h;rw[h.1,h.2]
 .simp at h
variable{d:Nat}
def y2{b:Option X}{vs:List V}{K:Nat->List V->Prop}(h:kM b.isSome d (cX st b.toList++vs) K):∃m,K m vs/\match (generalizing:=false) b with | none=>m=d | some y=>∃j,ev st y = .int j m:=by
 cases b with
 | none=>simp only[Option.isSome,Option.toList,cX,gd,kM] at h;exact⟨d,h,rfl⟩
 | some y =>
  simp only[Option.isSome,Option.toList,cX,gI,gd] at h;unfold kM at h;split at h
  .rename_i e;simp at e
  .rename_i j n r e1 e2;simp only[gz] at e2;obtain⟨e3,rfl⟩:=e2;exact⟨n.toNat,h.2,j,by rw[e3];simp;omega⟩
  .exact h.elim
def FW{xs ys:List X}:cX st (xs++ys)=cX st xs++cX st ys:=by
 induction xs with
 | nil=>rfl
 | cons x xs ih=>simp[cX,ih]
def Mh(P:Program)(o:Oper):Option aI :=
 match o.op with
 | .move (.const (.slice af 0 0)) | .assign (.const (.slice af 0 0))=>U (.own .nil [])
 | .makeSlice t l c =>
  if Nz l c=aa then
   match P.underlying t with
   | some (.slice e) =>
    match P.info? e,jK P e,cw P 0 l with
    | some i,U z,U x=>if i.bytes<=4096/\0<i.size/\z.length=i.size then U (.own (.mk z) [x]) else af
    | _,_,_=>af
   | _=>af
  else af
 | .buildSlice t len ps =>
  match P.underlying t with
  | some (.slice e) =>
   match dW P e,jK P e,iV P (au len e) (ps.toList.map (·.2)) with
   | some k,U _,U xs=>if ps.toList.map (·.1)=bU len/\len*k<=16777216 then U (.own (.lI k) xs) else af
   | _,_,_=>af
  | _=>af
 | .slice t x lo hi mx =>
  match P.underlying t with
  | some (.slice e) =>
   match cw P t x,ku P t lo,ku P t hi,ku P t mx,dW P e with
   | some x,U lo,U hi,U mx,U k=>if mx.isSome=aa->hi.isSome=aa then U (.own (.kF k lo.isSome hi.isSome mx.isSome) (x::(lo.toList++hi.toList++mx.toList))) else af
   | _,_,_,_,_=>af
  | _=>af
 | .indexAddr t x i =>
  match P.underlying t,cw P t x,cw P t i with
  | some (.slice e),U x,U i=>(dW P e).map λk=>.own (.idx k) [x,i]
  | _,_,_=>af
 | .call c =>
  match c.callee with
  | .builtin .len =>
   match c.argTypes.toList,c.args.toList with
   | [t], [x] =>
    match P.underlying t,cw P t x with
    | some (.slice _),U y=>U (.own .len [y])
    | _,_=>af
   | _,_=>af
  | .builtin .append =>
   match c.argTypes.toList,c.args.toList with
   | [t, u], [s, x] =>
    match P.underlying t,P.underlying u,cw P t s,cw P u x with
    | some (.slice e), U (.slice e'), U s, U x =>
     match P.info? e,jK P e with
     | some i,U _=>if e=e' /\ i.bytes<=4096/\0<i.size then U (.own (.app i.size) [s,x]) else af
     | _,_=>af
    | _,_,_,_=>af
   | _,_=>af
  | _=>af
 | _=>af
variable{ao:aI}
def anQ(hl:Mh P o=U ao)(hs:bE E st a)(h:ao.ba P st K):o.wp P a E.w (dJ E a o.dst K) Q:=by
 have X:=λ{t:TypeId} {x:Operand} {y:X} (hx:cw P t x=U y)=>mG (E:=E) (st:=st) (a:=a) hs.slot hx
 unfold Mh at hl;split at hl
 .rename_i ho;simp only[aZ] at hl;subst hl;refine cR hs (v:=.raw (.slice af 0 0)) (x:=.slice af 0 0) ?_ (by simp only[R]) h;simp[execOp,ho,Act.eval]
 .rename_i ho;simp only[aZ] at hl;subst hl;refine cR hs (v:=.raw (.slice af 0 0)) (x:=.slice af 0 0) ?_ (by simp only[R]) h;simp[execOp,ho,Act.eval]
 .rename_i t l c ho;split at hl
  case isFalse=>simp at hl
  rename_i Dr;have Dr:=aqa Dr;subst Dr;split at hl
  case h_2=>simp at hl
  rename_i e ht;split at hl
  case h_2=>simp at hl
  rename_i i z x hi hz hx;split at hl
  case isFalse=>simp at hl
  rename_i hc;simp only[aZ] at hl;subst hl;obtain⟨i',z',q1,q2,q3,q4⟩:=sy hz;obtain rfl:i=i' := by rw[hi] at q1;simpa using q1
  have jC := X hx;simp only[aI.ba,cX] at h;unfold OQ.ba at h;split at h<;>try (exfalso;simp_all;done)
  .rename_i z0 k n e1 e2;simp only[OQ.mk.injEq] at e1;subst e1;simp only[gz,ij] at e2;rw[e2] at jC;simp only[R] at jC;obtain⟨g1,g2,g3,g4,g5⟩:=h;have iN:z'.cells.size=i.size:=by have:=fI (qH (E:=E) q3);simp at this;omega
   have cT:=run_make (P:=P) E.w t e i z' ht hi q2 k k n n g1 (IB _) (by
    have:(i.bytes:Int)*n<=4096*aO:=Int.mul_le_mul (by omega) (by omega) g1 (by omega)
    simp only[aO] at this;omega) (by simp only[aO] at g2;omega)
   refine Om hs (w1:=E.w) (Ext.refl _) rfl (v:=λb=>.raw (.slice (U ⟨b,0,af⟩) n.toNat n.toNat)) (zs:=(au n.toNat z).flatten) (x:=.slice (U ⟨E.w.heap.size,0,af⟩) n.toNat n.toNat) (c:=madeCells z'.cells (n.toNat*i.size)) (e:=e) ?_ ?_ (by simp only[R]) rfl (λb hb=>g5 b hb)
   .simp[execOp,ho,jC,cT]
   .rw[alC iN hc.2.1];have hr:=qH (E:=E.nl) q3;induction n.toNat with
    | zero=>simp[RL]
    | succ m ih=>simp only[yP,kH];exact tZ hr ih
 .rename_i t len ps ho;split at hl
  case h_2=>simp at hl
  rename_i e ht;split at hl
  case h_2=>simp at hl
  rename_i k z xs hk hz pF;split at hl
  case isFalse=>simp at hl
  rename_i hc;simp only[aZ] at hl;subst hl;simp only[aI.ba] at h;unfold OQ.ba at h;split at h<;>try (exfalso;simp_all;done)
  .rename_i k0 vs e1;simp only[OQ.lI.injEq] at e1;subst e1;obtain⟨l,h1,h2⟩:=h;exact Xu hs ho ht hk hz hc.1 hc.2 (LS (E:=E) hs.slot pF h1) h2
 .rename_i t x lo hi mx ho;split at hl
  case h_2=>simp at hl
  rename_i e ht;split at hl
  case h_2=>simp at hl
  rename_i x' mF db mx' k h1 h2 h3 h4 hk;split at hl
  case isFalse=>simp at hl
  rename_i uL;simp only[aZ] at hl;subst hl;have hx:=X h1;simp only[aI.ba,cX] at h;unfold OQ.ba at h;split at h<;>try (exfalso;simp_all;done)
  .rename_i k0 b1 b2 b3 base n cap vs e1 e2;simp only[OQ.kF.injEq] at e1;obtain⟨rfl,rfl,rfl,rfl⟩:=e1;simp only[gz] at e2;obtain⟨e2,rfl⟩:=e2;rw[e2] at hx;simp only[R] at hx;rw[FW,FW,eB] at h;obtain⟨m,h,g1⟩:=y2 h;obtain⟨hh,h,g2⟩:=y2 h;rw[<-eD (cX st mx'.toList)] at h;obtain⟨M,h,g3⟩:=y2 h;obtain⟨_,k1,k2,k3,h⟩:=h;have hb:=Nu (P:=P) hs h2 h3 h4 uL g1 g2 g3 k1 k2 k3;refine cR hs (v:=.raw _) (x:=.slice (if M=m then base else base.map (·.add (m*k))) (hh - m) (M - m)) ?_ (by simp only[R]) h;simp only[execOp,ho,Sem.run_bind,hx];simp[Instr.sliceAt,run_underlying ht,Instr.slice,hb,ny hk]
 .rename_i t x i ho;split at hl
  case h_2=>simp at hl
  rename_i e x' i' ht h1 h2;simp only[c7] at hl;obtain⟨k,hk,rfl⟩:=hl;have hx:=X h1;have hi:=X h2;simp only[aI.ba,cX] at h;unfold OQ.ba at h;split at h<;>try (exfalso;simp_all;done)
  .rename_i k0 b off n cap kk j e1 e2;simp only[OQ.idx.injEq] at e1;subst e1;simp only[gz,ij] at e2;obtain⟨e2,e3⟩:=e2;rw[e2] at hx;rw[e3] at hi;simp only[R] at hx hi;obtain⟨g1,g2,h⟩:=h;refine cR hs (v:=.ptr (.out b) (off+j.toNat*k)) (x:=.pointer (U ⟨b,off+j.toNat*k,af⟩)) ?_ (by simp only[R]) h;simp[execOp,ho,hx,hi,Instr.indexAt,asIntOf,run_underlying ht,g1,g2,ny hk,mr]
 .rename_i c ho;obtain⟨callee,args,argTypes⟩:=c;simp only at hl;split at hl
  .split at hl
   case h_2=>simp at hl
   rename_i t x ht hx;have e1:argTypes=#[t]:=by cases argTypes;simpa using ht
   have e2:args=#[x]:=by cases args;simpa using hx
   subst e1;subst e2;split at hl
   case h_2=>simp at hl
   rename_i e y hu h1;simp only[aZ] at hl;subst hl;have hx:=X h1;simp only[aI.ba,cX] at h;unfold OQ.ba at h;split at h<;>try (exfalso;simp_all;done)
   .rename_i base n cap e1 e2;simp only[gz,ij] at e2;rw[e2] at hx;simp only[R] at hx;refine cR hs (v:=.int .i64 n) (x:=.int .i64 n) ?_ (by simp only[R]) h;simp[execOp,ho,resolve,invoke,builtin,Builtin.len_,run_underlying hu,hx,goInt]
  .split at hl
   case h_2=>simp at hl
   rename_i t u s x ht hx;have e1:argTypes=#[t,u]:=by cases argTypes;simpa using ht
   have e2:args=#[s,x]:=by cases args;simpa using hx
   subst e1;subst e2;split at hl
   case h_2=>simp at hl
   rename_i e e' s' x' hu zF dj jC;split at hl
   case h_2=>simp at hl
   rename_i i z hi hz;split at hl
   case isFalse=>simp at hl
   rename_i hc;simp only[aZ] at hl;subst hl;obtain⟨rfl,mA,lF⟩:=hc;obtain⟨i',z',q1,q2,q3,q4⟩:=sy hz;obtain rfl:i=i' := by rw[hi] at q1;simpa using q1
   have iN:z'.cells.size=i.size:=by have:=fI (qH (E:=E) q3);simp at this;omega
   have uN:=X dj;have fM:=X jC;simp only[aI.ba,cX] at h;unfold OQ.ba at h;split at h<;>try (exfalso;simp_all;done)
   .rename_i k0 base n cap tk k1 m e1 e2;simp only[OQ.app.injEq] at e1;subst e1;simp only[gz,ij] at e2;obtain⟨e2,e3⟩:=e2;obtain⟨rfl,h⟩:=h;rw[e2] at uN;rw[e3] at fM;obtain⟨news,g1,g2,g3,g4⟩:=HZ (P:=P) zF fM;simp only[R] at uN;refine Ol hs hu hi q2 iN mA (ty:=o.type) (vx:=a.eval x) ?_ g1 g2 g3 g4 h;simp[execOp,ho,resolve,invoke,builtin,uN]
  .simp at hl
 .simp at hl
def Mg(P:Program)(h:List Nat)(o:Oper):Option aI :=
 match o.dst with
 | some d =>
  if h.contains d=aa then
   match o.op with
   | .alloc t=>(jK P t).map .nP
   | .box t x=>match dW P t,cw P t x with | some n,U y=>U (.gf n y) | _,_=>af
   | _=>match Mh P o with | some x=>U x | none=>yb P o
  else yb P o
 | none=>yb P o
def alg{h:List Nat}(hl:Mg P h o=U ao)(hs:bE E st a)(hk:ao.ba P st K):o.wp P a E.w (dJ E a o.dst K) Q:=by
 unfold Mg at hl;split at hl
 case h_2=>exact D0 hl hs hk
 split at hl
 case isFalse=>exact D0 hl hs hk
 split at hl
 .rename_i t ho;simp only[c7] at hl;obtain⟨z,h1,rfl⟩:=hl;exact asN hs ho h1 hk
 .rename_i t x ho;split at hl
  case h_2=>simp at hl
  rename_i n y hn hy;simp only[aZ] at hl;subst hl;exact asR hs ho (mG hs.slot hy) hk
 .split at hl
  .rename_i x hx;simp only[aZ] at hl;subst hl;exact anQ hx hs hk
  .exact D0 hl hs hk
end
structure AP(E:Env)(Y k:Nat)(l:List (List V))(b cap:Nat):Prop where
 aK:E.aK Y=U l.length
 a7:E.a7 b = .gl Y (l.length*k)
 PW:∃cs e,E.w.heap[b]?=U (.cells cs e (0,0))/\cs.size=cap*k
 cap:l.length+1<=cap
 JC:gq E.nl k l b 0
variable{E:Env}{b cap k Y:Nat}
def AP.mono{E':Env}{l:List (List V)}(h:AP E Y k l b cap)(hf:Fr E E')(ht:E'.aK Y=U l.length):AP E' Y k l b cap:=by
 obtain⟨n',h1,_,h3⟩:=hf.tok Y _ h.aK;rw[ht] at h1;simp only[aZ] at h1;obtain⟨r1,r2⟩:=h3 h1.symm b _ h.a7;obtain⟨cs,e,k1,k2⟩:=h.PW;obtain⟨cs',q1,q2⟩:=r2 cs e k1;exact⟨ht,r1,⟨cs',e,q1,q2.trans k2⟩,h.cap,gq.mono _ hf.nl h.JC⟩
section
variable {P:Program} {E:Env} {st:St} {a:Act} {o:Oper}
variable{e t ty u:TypeId}
def aiW(hs:bE E st a){i:TypeInfo}{z:Value}(ht:P.underlying t=U (.slice e))(hi:P.info? e=U i)(hz:i.zero=U z)(iN:z.cells.size=i.size)
 (mA:i.bytes<=4096) {vs vx:Value} {Y:Nat} {l:List (List V)}
 (cT:(execOp a.eval o).run P E.w=((Builtin.append_ #[t,u] ty #[vs,vx]).run P E.w).andThen λv w' => .ok (.value v) w')
 (cY:R E (.sl (.tk Y) i.size l) vs) {news:List Value} (qW:Src P E.w i.size 1 u vx news) (fL:∀v∈news,v.oneCell' = aa)
 (jV:l.length+1<=aO) (hE:E.aK Y=U l.length) :
 ∃b cap E',AP E' Y i.size l b cap/\(execOp a.eval o).run P E.w = .ok (.value (.slice (U ⟨b,0,af⟩) (l.length+1) cap)) E'.w/\Fr E E' /\ bE E' st a/\(∀j,E'.aD j=E.aD j):=by
 simp only[R] at cY;obtain⟨base,cap,rfl,zp,sR,uO⟩:=cY;obtain⟨gG,hold,Kl,J8,dK,hlen⟩:=UE (P:=P) (cap:=cap) sR;have Df:(l.length+1)*i.bytes<=140737488355328:=by
  have:=O_ jV mA
  simp only[aO] at this;omega
 have DD:l.length+1<=9223372036854775807:=by simp only[aO] at jV;omega
 have rQ:=qW.size;obtain⟨n',h1,_,h3⟩:=uO;rw[hE] at h1;simp only[aZ] at h1;subst h1
 rcases vw cap (l.length+1) with aB | n_
 .have qf:=grownCap_ge E.w (l.length+1) cap e;have size:(gG++(news++(Builtin.zeroCells z.cells (grownCap E.w (l.length+1) cap e - (l.length+1))).toList)).toArray.size=grownCap E.w (l.length+1) cap e*i.size:=by
   simp only[O8,bN,AL,size_zeroCells,iN,hlen,rQ];rw[<-EY,<-je,<-je];congr 1;omega
  have hr:=Ns (P:=P) (ty:=ty) ht hi hz hold qW aB Df DD;generalize grownCap E.w (l.length+1) cap e=nc at hr qf size;generalize news++(Builtin.zeroCells z.cells (nc - (l.length+1))).toList=rest at hr size
  let E' : Env:={w:=E.w.drew.alloc (.cells (gG++rest).toArray e),a7:=λb=>if b=E.w.heap.size then .gl Y (l.length*i.size) else E.a7 b,aD:=E.aD,aK:=E.aK}
  have hx:Ext E.w E'.w:=((Ext.refl _).drew).alloc _ _;have gw:∀b,b<E.w.heap.size->E'.a7 b=E.a7 b:=λb hb=>by simp only[E'];rw[aC (by omega)]
  have bf:Fr E E' := xw hs.ok.fresh hx gw (λ_ _ h=>h);have hle:E.le E' := bf.le λ_ _ h=>h
  have Lg:E'.w.heap.size=E.w.heap.size+1:=by simp[E']
  have rR:E'.w.heap[E.w.heap.size]?=U (.cells (gG++rest).toArray e (0,0)):=heap_alloc_new E.w.drew _;have fE:E'.a7 E.w.heap.size = .gl Y (l.length*i.size):=by simp[E']
  refine⟨E.w.heap.size,nc,E',⟨hE,fE,⟨_,_,rR,size⟩,qf,Fb dK (RL.mono _ bf.nl Kl) J8 rR (λj hj=>by rw[fE];simpa [eT.gW] using hj)⟩,?_,bf,⟨?_,?_,hs.defers,RL.mono _ hle hs.slot⟩,λ_=>rfl⟩
  .rw[cT,hr];rfl
  .refine BR hs.ok bf.nl (λb h hb=>⟨by rw[gw b hb];exact h,hx.block b hb⟩) (λ_ _ h=>h) (λb hb=>?_) hs.ok.nt;rw[Lg] at hb;simp only[E'];rw[aC (by omega)];exact hs.ok.fresh b (by omega)
  .exact pK hs.cV hle (λb i' h hb=>⟨by rw[gw b hb];exact h,hx.block b hb⟩) hs.cV.none
 .rcases h3 rfl with hc | ⟨b,cs,e',rfl,dv,eX,cG⟩
  .omega
  .have n6:l.length*i.size+news.length<=cs.size:=by
    rw[rQ,cG,<-je];exact rC _ n_
   have jl:=Nt (P:=P) (ty:=ty) ht hi eX qW fL n_ n6;have uH:∀j:Nat,j<l.length*i.size->(cs.toList.take (l.length*i.size)++news++cs.toList.drop (l.length*i.size+news.length)).toArray[j]?=cs[j]?:=λj hj=>by
    have:=Ep (c:=cs.toList) (vs:=news) (off:=l.length*i.size) (by simpa using n6) j
    rw[aE hj] at this;simpa using this
   have rY:(cs.toList.take (l.length*i.size)++news++cs.toList.drop (l.length*i.size+news.length)).toArray.size=cs.size:=by
    simp;omega
   generalize (cs.toList.take (l.length*i.size)++news++cs.toList.drop (l.length*i.size+news.length)).toArray=new at jl uH rY
   let E' : Env:={E with w:=E.w.setRow b new}
   have iy:∀b',b' ≠ b->E'.w.heap[b']?=E.w.heap[b']?:=λb' aX=>setRow_other E.w b b' new aX
   have b9 : E'.w.heap[b]?=U (.cells new e' (0,0)):=setRow_heap E.w b cs new e' _ eX;have aX:∀b' r,E.a7 b' = r->(∀c,r≠.gl Y c)->b' ≠ b:=λb' r h h' => by rintro rfl;rw[dv] at h;exact h' _ h.symm
   have bf:Fr E E' := by
    refine⟨rfl,rfl,rfl,by simp[E'],C3 eX,?_,?_,?_,λ_ _ h=>.inl h,λ_ _ c _ h=>⟨c,h⟩,λ_ i _ h=>⟨i,h⟩,λb' c' A9 hc=>by
     by_cases cq:b' = b
     .subst cq;rw[eX] at hc;simp only[aZ,Obj.cells.injEq] at hc;obtain⟨rfl,rfl,_⟩:=hc;exact⟨new,b9,rY⟩
     .exact⟨c',(iy b' cq).trans hc,rfl⟩⟩
    .intro b' o' c hc hv
     by_cases cq:b' = b
     .subst cq;refine⟨hc,?_⟩;rw[dv] at hc;simp only[eT.gW] at hc;simp only[World.cell?,eX] at hv;simp only[World.cell?,b9,uH _ hc];exact hv
     .exact⟨hc,by rw[A5 (iy b' cq)];exact hv⟩
    .intro t n hn;refine⟨n,hn,bP _,λ_ b' c zn=>⟨zn,λcs' A9 bR=>?_⟩⟩
     by_cases cq:b' = b
     .subst cq;rw[eX] at bR;simp only[aZ,Obj.cells.injEq] at bR;obtain⟨rfl,rfl,_⟩:=bR;exact⟨new,b9,rY⟩
     .exact⟨cs',by rw[iy b' cq];exact bR,rfl⟩
    .intro b' _ hr;have cq:b' ≠ b:=by rcases hr with hr | hr<;>exact aX b' _ hr (λc h=>by simp at h)
     exact⟨iy b' cq,rfl⟩
   have hle:E.le E' := bf.le λ_ _ h=>h
   have Dt:gq E.nl i.size l b 0:=by
    rcases sR with h | ⟨b2,o2,h,hr⟩
    .subst h;simp[gq]
    .simp only[aZ,Addr.mk.injEq] at h;obtain⟨rfl,rfl,_⟩:=h;exact hr
   refine⟨b,cap,E',⟨hE,dv,⟨new,e',b9,rY.trans cG⟩,n_,gq.mono _ bf.nl Dt⟩,?_,bf,⟨?_,?_,hs.defers,RL.mono _ hle hs.slot⟩,λ_=>rfl⟩
   .rw[cT,jl];rfl
   .exact BR hs.ok bf.nl (λb' hr _=>⟨hr,iy b' (aX b' _ hr (λc h=>by simp at h))⟩) (λ_ _ h=>h) (λb' qc => hs.ok.fresh b' (by simpa [E'] using qc)) hs.ok.nt
   .exact pK hs.cV hle (λb' i' hr _=>⟨hr,iy b' (aX b' _ hr (λc h=>by simp at h))⟩) hs.cV.none
def aiZ(hs:bE E st a){l:List (List V)}(hh:AP E Y k l b cap)(hn:dW P t=U k){xs:List V}{v:Value}(hx:RL E.nl xs v.cells.toList)(hv:v.cells.size=k)(h1:∀u∈v.cells.toList,u.oneCell' = aa):
 ∃E',(storeVar t ⟨b,l.length*k,af⟩ v).run P E.w = .ok () E'.w/\Fr E E' /\ bE E' ⟨st.t,st.aD,st.out.aY Y (l.length+1)⟩ a /\
  R E'.nl (.sl (.tk Y) k (l++[xs])) (.slice (U ⟨b,0,af⟩) (l.length+1) cap)/\(∀j,E'.aD j=E.aD j):=by
 obtain⟨cs,e',eX,cG⟩:=hh.PW;have dv:=hh.a7;have hE:=hh.aK;have n_:=hh.cap;obtain⟨dK,_⟩:=qB.1 hh.JC;have we:xs.length=k:=by have:=fI hx;simp at this;omega
 have jl:=Nv (P:=P) (off:=l.length*k) hn eX hv (by rw[cG,<-E5];exact rC _ n_) h1;generalize rT:v.cells.toList=news at hx h1 jl;have rQ:news.length=k:=by rw[<-rT];simpa using hv
 have n6:l.length*k+news.length<=cs.size:=by rw[rQ,cG,<-E5];exact rC _ n_
 have uH:∀j:Nat,(cs.toList.take (l.length*k)++news++cs.toList.drop (l.length*k+k)).toArray[j]?=if j<l.length*k then cs[j]? else if j<l.length*k+news.length then news[j - l.length*k]? else cs[j]?:=λj=>by
  have:=Ep (c:=cs.toList) (vs:=news) (off:=l.length*k) (by simpa using n6) j
  rw[rQ] at this ⊢;simpa using this
 have rY:(cs.toList.take (l.length*k)++news++cs.toList.drop (l.length*k+k)).toArray.size=cs.size:=by
  simp;omega
 generalize (cs.toList.take (l.length*k)++news++cs.toList.drop (l.length*k+k)).toArray=new at jl uH rY;have aii:l.length*k<=(l.length+1)*k:=rC _ (by omega)
 let E' : Env:={w:=E.w.setRow b new,a7:=λb' => if b' = b then .gl Y ((l.length+1)*k) else E.a7 b',aD:=E.aD,aK:=λt=>if t=Y then U (l.length+1) else E.aK t}
 have iy:∀b',b' ≠ b->E'.w.heap[b']?=E.w.heap[b']?:=λb' aX=>setRow_other E.w b b' new aX
 have l9:∀b',b' ≠ b->E'.a7 b' = E.a7 b' := λb' aX=>by simp only[E'];rw[aC aX]
 have b9 : E'.w.heap[b]?=U (.cells new e' (0,0)):=setRow_heap E.w b cs new e' _ eX;have pB:E'.a7 b = .gl Y ((l.length+1)*k):=by simp[E']
 have aX:∀b' r,E.a7 b' = r->(∀c,r≠.gl Y c)->b' ≠ b:=λb' r h h' => by rintro rfl;rw[dv] at h;exact h' _ h.symm
 have bf:Fr E E' := by
  refine⟨rfl,rfl,rfl,by simp[E'],C3 eX,?_,?_,?_,?_,?_,?_,λb' c' A9 hc=>by
   by_cases cq:b' = b
   .subst cq;rw[eX] at hc;simp only[aZ,Obj.cells.injEq] at hc;obtain⟨rfl,rfl,_⟩:=hc;exact⟨new,b9,rY⟩
   .exact⟨c',(iy b' cq).trans hc,rfl⟩⟩
  .intro b' o' c hc hv
   by_cases cq:b' = b
   .subst cq;rw[dv] at hc;simp only[eT.gW] at hc;refine⟨by rw[pB];simp only[eT.gW];omega,?_⟩;simp only[World.cell?,eX] at hv;simp only[World.cell?,b9,uH,aE hc];exact hv
   .exact⟨by rw[l9 b' cq];exact hc,by rw[A5 (iy b' cq)];exact hv⟩
  .intro t n hn
   by_cases qX:t=Y
   .subst qX;rw[hE] at hn;simp only[aZ] at hn;exact⟨l.length+1,by simp[E'],by omega,λh=>by omega⟩
   .refine⟨n,by simp only[E'];rw[aC qX];exact hn,bP _,λ_ b' c zn=>?_⟩;have cq:b' ≠ b:=aX b' _ zn (λc' h=>by simp at h;exact qX h.1);exact⟨by rw[l9 b' cq];exact zn,λcs' A9 bR=>⟨cs',by rw[iy b' cq];exact bR,rfl⟩⟩
  .intro b' _ hr;have cq:b' ≠ b:=by rcases hr with hr | hr<;>exact aX b' _ hr (λc h=>by simp at h)
   exact⟨iy b' cq,l9 b' cq⟩
  .intro b' _ h;have cq:b' ≠ b:=by rintro rfl;rw[pB] at h;simp at h
   rw[l9 b' cq] at h;exact .inl h
  .intro b' t c _ h
   by_cases cq:b' = b
   .subst cq;rw[pB] at h;simp at h;obtain⟨rfl,_⟩:=h;exact⟨_,dv⟩
   .rw[l9 b' cq] at h;exact⟨c,h⟩
  .intro b' i' _ h;have cq:b' ≠ b:=by rintro rfl;rw[pB] at h;simp at h
   rw[l9 b' cq] at h;exact⟨_,h⟩
 have hle:E.le E' := bf.le λ_ _ h=>h
 refine⟨E',jl,bf,⟨⟨?_,?_,?_,?_,λb cs hc=>dZ.mono _ bf.nl (hs.ok.bY b cs hc)⟩,?_,hs.defers,RL.mono _ hle hs.slot⟩,?_,λ_=>rfl⟩
 .intro b' cs' bR;obtain⟨k1,k2⟩:=hs.ok.box b' cs' bR;have cq:b' ≠ b:=aX b' _ k1 (λc h=>by simp at h);exact⟨by rw[l9 b' cq];exact k1,k2.mono bf.nl (iy b' cq)⟩
 .intro t n kU;simp only[ag.aY] at kU;simp only[E'];split at kU
  .rename_i h;rw[aE h];exact kU
  .rename_i h;rw[aC h];exact hs.ok.aK t n kU
 .intro b' qc;have cq:b' ≠ b:=by
   rintro rfl
   have:=kx eX
   simp[E'] at qc;omega
  rw[l9 b' cq];exact hs.ok.fresh b' (by simpa [E'] using qc)
 .obtain⟨N,hN⟩:=hs.ok.nt;exact⟨max N (Y+1),λt qi => by simp only[E'];rw[aC (by omega)];exact hN t (by omega)⟩
 .refine pK hs.cV hle (λb' i' hr _=>?_) hs.cV.none;have cq:b' ≠ b:=aX b' _ hr (λc h=>by simp at h);exact⟨by rw[l9 b' cq];exact hr,iy b' cq⟩
 .have Kj:gq E'.nl k (l++[xs]) b 0:=by
   have Dt:=hh.JC;refine qB.2 ⟨λy hy=>?_,?_⟩
   .rcases jw.1 hy with h | h
    .exact dK y h
    .simp at h;subst h;exact we
   rw[tU];refine xa.2 ⟨(qB.1 (gq.mono _ bf.nl Dt)).2,Cz (vs:=news) (by simpa using RL.mono _ bf.nl hx) h1 (λj v hv=>?_) (λj hj=>?_)⟩
   .have hj:=(fg.1 hv).1;rw[my dK];simp only[Env.Uu,World.cell?,b9,uH];simp only[Cx,dm,cn];rw[aC (show ¬(0+l.length*k+j<l.length*k) by omega),aE (show 0+l.length*k+j<l.length*k+news.length by omega)];rw[show 0+l.length*k+j - l.length*k=j from by omega];exact hv
   .rw[my dK];simp only[kH,OW,eD,we] at hj;simp only[Env.Ut,pB,eT.gW];rw[je];omega
  simp only[R,bN,dd,eM];exact⟨U ⟨b,0,af⟩,cap,rfl,n_,.inr ⟨b,0,rfl,Kj⟩,l.length+1,by simp[E'],bP _,λ_=>.inr ⟨b,new,e',rfl,pB,b9,rY.trans cG⟩⟩
end
structure HI where
 k:Nat
 s:X
 z:X
 len:X
 x:X
 addr:X
 fo:Option Nat
 d9:Nat
 d10:Nat
 dF:Nat
def jU(o:Oper)(j:Nat):Bool:=o.after.toList.any λe=>Region.binds .any e&&e.on == j
def K5(P:Program)(t2:TypeId)(qD:Operand)(other:Nat):Option Oper->Option (X × Option Nat × Nat)
 | none=>(cw P t2 qD).map λy=>(y,af,other)
 | some F =>
  match F.dst,qD,yb P F with
  | some dF,.tmp p,U (.nW off y)=>if p=dF/\F.guard=af then U (y,U off,dF) else af
  | _,_,_=>af
def K6(P:Program)(A I S O'':Oper)(oF:Option Oper):Option HI :=
 match A.op,A.dst,I.op,I.dst,S.op,O''.op with
 | .call c, U d9, .indexAddr t q1 wq, U d10, .store e q2 wU, .store t2 qD q3 =>
  match c,q1,q2,q3 with
  | { callee := .builtin .append, args := args, argTypes := N7 }, .tmp p1, .tmp p2, .tmp p3 =>
   match N7.toList,args.toList with
   | [t', u], [tF, tO] =>
    match P.underlying t,P.underlying u,P.info? e,jK P e with
    | some (.slice e1), U (.slice e2), U i, U _ =>
     match cw P t tF,cw P u tO,cw P t wq,cw P e wU,K5 P t2 qD (d9+d10+1) oF with
     | some s, U z, U len, U x, U (addr, fo, dF) =>
      if (t' = t/\e1=e/\e2=e/\i.bytes<=4096/\0<i.size)/\(p1=d9/\p2=d10/\p3=d9/\dW P t2=U 1)/\(A.guard=af/\I.guard=af/\S.guard=af/\O''.guard=af/\S.dst=af/\O''.dst=af)/\d9≠d10/\d9≠dF/\d10≠dF then
       U ⟨i.size,s,z,len,x,addr,fo,d9,d10,dF⟩
      else af
     | _,_,_,_,_=>af
    | _,_,_,_=>af
   | _,_=>af
  | _,_,_,_=>af
 | _,_,_,_,_,_=>af
def rV(ops:Array Oper):Option Oper :=
 match ops[ops.size - 2]? with
 | some F=>match F.op with | .fieldAddr _ _ _=>U F | _=>af
 | none=>af
def gj(ops:Array Oper):Nat:=if (rV ops).isSome then ops.size - 5 else ops.size - 4
def dummy(o:Oper):AO:=⟨o.dst,.mv (.c .any),af⟩
def EE(l1:List AO)(b:List Nat):List (AO × List Nat) :=
 let d:=lq e_ (l1.map λo=>(o,[])) b
 (l1.zip d).zipIdx.map λ((o,x),i)=>(o,if o.op.BM then((bU (xJ d i+1 - oH d x)).map (oH d x+·)).filter (· != Ac d i) else [])
variable{i:Nat}
def Xl{l1:List AO}{b:List Nat}{y:AO}(hy:l1[i]?=U y)(aB:i<(EE l1 b).length):∃ms,(EE l1 b)[i]?=U (y,ms):=by
 unfold EE at aB ⊢
 simp only at aB ⊢;generalize lq e_ (l1.map λo=>(o,[])) b=d at aB ⊢;generalize hL:l1.zip d=z at aB ⊢;have hz:i<z.length:=by simpa using aB
 have e:z[i]?=U z[i]:=cL hz;have e1:z[i].1=y:=by
  subst hL;rw[IP,hy] at e;exact(tY e.1).symm
 rw[vt,OY,e];simp only[vB,e1];exact⟨_,rfl⟩
def SC(P:Program)(ops:Array Oper)(l:List (AO × List Nat))(b:List Nat)(nA:Nat)(A I S O'':Oper)(oF:Option Oper):Bool :=
 (xo ops l b&&P.follows .mixedOrders)&&decide (nA+(if oF.isSome then 5 else 4)=ops.size)&&((bU nA).all λj=>jU A j) &&
  (jU I nA&&jU S nA&&jU S (nA+1)&&jU O'' nA)&&(match oF with | some F=>jU F nA&&jU O'' (nA+3) | none=>aa)
def Hm(P:Program)(ops:Array Oper):Option (List (AO × List Nat) × HI) :=
 match ops[gj ops]?,ops[gj ops+1]?,ops[gj ops+2]?,ops[ops.size - 1]?,zV P ops (ops.toList.take (gj ops)) with
 | some A, U I, U S, U O'', U l0 =>
  match K6 P A I S O'' (rV ops) with
  | some hi =>
   if SC P ops (EE (l0++(ops.toList.drop (gj ops)).map dummy) (wx ops.toList [])) (wx ops.toList []) (gj ops) A I S O'' (rV ops)=aa then
    U (EE (l0++(ops.toList.drop (gj ops)).map dummy) (wx ops.toList []),hi) else af
  | none=>af
 | _,_,_,_,_=>af
def C0:Option Nat->V->Option V
 | none,v=>U v
 | some n,.ptr p o=>U (.ptr p (o+n))
 | some _,_=>af
def Iz(hi:HI)(K:St->Prop)(st:St):Prop :=
 ∃Y l c t' j,ev st hi.s = .sl (.tk Y) hi.k l/\ev st hi.z = .sl t' hi.k [c]/\ev st hi.len = .int j l.length/\l.length+1<=aO/\st.out.aK Y=U l.length /\
  (ev st hi.x).wd=U hi.k/\cC (ev st hi.x).cells=aa/\bK (ev st hi.x).cells=aa/\hi.d9<st.t.length/\hi.d10<st.t.length/\(hi.fo.isSome=aa->hi.dF<st.t.length) /\
  ∃p,C0 hi.fo (ev st hi.addr)=U p/\∃aJ,dq st 1 (.sl (.tk Y) hi.k (l++[bx (ev st hi.x).cells])) p=U aJ /\ K ⟨aJ.t,aJ.aD,aJ.out.aY Y (l.length+1)⟩
structure HF(P:Program)(A I S O'':Oper)(oF:Option Oper)(hi:HI):Prop where
 app:∃c t u e i z tF tO wq wU,A.op = .call c/\c.callee = .builtin .append/\c.argTypes=#[t,u]/\c.args=#[tF,tO]/\P.underlying t=U (.slice e)/\P.underlying u=U (.slice e) /\
  P.info? e=U i/\jK P e=U z/\i.bytes<=4096/\i.size=hi.k/\0<hi.k/\cw P t tF=U hi.s/\cw P u tO=U hi.z /\
  I.op = .indexAddr t (.tmp hi.d9) wq/\cw P t wq=U hi.len/\S.op = .store e (.tmp hi.d10) wU/\cw P e wU=U hi.x
 out:∃t2 qD,O''.op = .store t2 qD (.tmp hi.d9)/\dW P t2=U 1/\(match oF with
  | none=>hi.fo=af/\cw P t2 qD=U hi.addr
  | some F=>∃off,hi.fo=U off/\qD = .tmp hi.dF/\F.dst=U hi.dF/\F.guard=af/\yb P F=U (.nW off hi.addr))
 dst:A.dst=U hi.d9/\I.dst=U hi.d10/\S.dst=af/\O''.dst=af
 guard:A.guard=af/\I.guard=af/\S.guard=af/\O''.guard=af
 ne:hi.d9≠hi.d10/\hi.d9≠hi.dF/\hi.d10≠hi.dF
variable{P:Program}{hi:HI}
def aiU{A I S O'':Oper}{oF:Option Oper}(h:K6 P A I S O'' oF=U hi):HF P A I S O'' oF hi:=by
 unfold K6 at h;split at h
 case h_2=>simp at h
 rename_i c d9 t q1 wq d10 e q2 wU t2 qD q3 e1 e2 e3 e4 e5 e6;split at h
 case h_2=>simp at h
 rename_i args N7 p1 p2 p3;split at h
 case h_2=>simp at h
 rename_i t' u tF tO e7 e8;split at h
 case h_2=>simp at h
 rename_i et eu i z g1 g2 g3 g4;split at h
 case h_2=>simp at h
 rename_i s zx len x addr fo dF k1 k2 k3 k4 k5;split at h
 case isFalse=>simp at h
 rename_i hc;obtain⟨⟨rfl,rfl,rfl,m1,m2⟩,⟨rfl,rfl,rfl,m3⟩,⟨m4,m5,m6,m7,m8,m9⟩,m10⟩:=hc;simp only[aZ] at h;subst h;have ht:N7=#[t',u]:=Ch (by simpa using e7);have ha:args=#[tF,tO]:=Ch (by simpa using e8);refine⟨⟨_,t',u,_,i,z,tF,tO,wq,wU,e1,rfl,ht,ha,g1,g2,g3,g4,m1,rfl,m2,k1,k2,e3,k3,e5,k4⟩,⟨t2,qD,e6,m3,?_⟩,⟨e2,e4,m8,m9⟩,⟨m4,m5,m6,m7⟩,m10⟩;cases oF with
 | none =>
  simp only[K5,c7,nN] at k5;obtain⟨y,h1,rfl,rfl,rfl⟩:=k5;exact⟨rfl,h1⟩
 | some F =>
  simp only[K5] at k5;split at k5
  case h_2=>simp at k5
  rename_i dF' p off y h1 h2;split at k5
  case isFalse=>simp at k5
  rename_i hc;simp only[aZ,nN] at k5;obtain⟨rfl,rfl,rfl⟩:=k5;obtain⟨rfl,hg⟩:=hc;exact⟨off,rfl,rfl,h1,hg,h2⟩
def Gk{o:Oper}{j:Nat}(h:jU o j=aa):∃e∈o.after,Region.binds .any e=aa/\e.on=j:=by
 simp only[jU,EP,bC,A2] at h;obtain⟨e,h1,h2,h3⟩:=h;exact⟨e,by simpa using h1,h2,h3⟩
variable{a:Act}{d:Nat}
def Ai{n:Nat}{v u:Value}(hd:d<a.tmps.size):(a.put (U d) v).tmps.getD n u=if n=d then v else a.tmps.getD n u:=by
 simp only[Act.put]
 by_cases h:n=d
 .subst h;simp[hd]
 .rw[aC h,pY,AK (fi h),<-pY]
def yT{E:Env}:∀{l:List V} {vs:List Value} (n:Nat),RL E l vs->RL E (l.set n .any) vs
 | [],[],_,h=>by simpa using h
 | [],_::_,_,h=>by simp[RL] at h
 | _::_,[],_,h=>by simp[RL] at h
 | x :: xs, v :: vs, n, h => by
  simp only[RL] at h;cases n with
  | zero=>simp only[List.set_cons_zero,RL];exact⟨by simp[R],h.2⟩
  | succ n=>simp only[List.set_cons_succ,RL];exact⟨h.1,yT n h.2⟩
variable{st:St}{y:V}
def aqX{mO mP:St}{u:Value}{p:V}(h1:dq st 1 (.raw u) p=U mO)(h2:dq st 1 y p=U mP)(hy:R E.nl y u)(S6:y.cells=[y])(hyE:R E y u)
 (hs:bE E mO a):bE E mP a:=by
 have NM:∀(cs:List V) (off:Nat) (z:V) (j:Nat),(setAt cs off [z])[j]?=if j=off then(cs[j]?).map λ_=>z else cs[j]?:=by
  intro cs;induction cs with
  | nil=>intro off z j;cases off<;>simp[setAt,over]
  | cons c cs ih =>
   intro off z j;cases off with
   | zero=>cases j<;>simp[setAt,over]<;>(cases cs<;>simp[over])
   | succ off=>cases j<;>simp[setAt,ih]
 have aqt:∀(cs:List V) (off:Nat) (z:V),(setAt cs off [z]).length=cs.length:=by
  intro cs;induction cs with
  | nil=>intro off z;cases off<;>simp[setAt,over]
  | cons c cs ih=>intro off z;cases off<;>simp[setAt,over,ih]<;>(cases cs<;>simp[over])
 have box:∀(E1:Env) (b:Nat) (cs:List V) (off:Nat),R E1 y u->jc E1 b (setAt cs off [.raw u])->jc E1 b (setAt cs off [y]):=λE1 b cs off hR ⟨c,e,k1,k2,k3⟩=>by
  refine⟨c,e,k1,by rw[aqt] at k2 ⊢;exact k2,λj x hx=>?_⟩;rw[NM] at hx
  by_cases hj:j=off
  .rw[aE hj] at hx;simp only[c7] at hx;obtain⟨z,hz,rfl⟩:=hx;obtain⟨v,hv,hr⟩:=k3 j (.raw u) (by rw[NM,aE hj,hz];rfl);simp only[R] at hr;subst hr;exact⟨v,hv,hR⟩
  .rw[aC hj] at hx;exact k3 j x (by rw[NM,aC hj];exact hx)
 cases p with
 | ptr p off =>
  cases p with
  | jT b=>simp[dq] at h1
  | aD i =>
   simp only[dq,iI] at h1 h2;obtain⟨cs,e1,e2⟩:=h1;obtain⟨cs',e3,e4⟩:=h2;rw[e1] at e3;simp only[aZ] at e3;subst e3;split at e2<;>simp at e2;split at e4<;>simp at e4;subst e2 e4;refine⟨hs.ok,⟨λj ds hj=>?_,λj hj=>hs.cV.none j (by simpa using hj)⟩,hs.defers,hs.slot⟩;have aB:=(fg.1 e1).1
   by_cases fC:j=i
   .subst fC;simp only[OX aB,aZ] at hj;subst hj;obtain⟨b,q1,q2,q3⟩:=hs.cV.box j (setAt cs off [.raw u]) (by simp[V.cells,aB]);rw[S6];exact⟨b,q1,q2,box E b cs off hyE q3⟩
   .simp only[Cr (fi fC)] at hj;exact hs.cV.box j ds (by simp only[Cr (fi fC)];exact hj)
  | out i =>
   simp only[dq,iI] at h1 h2;obtain⟨cs,e1,e2⟩:=h1;obtain⟨cs',e3,e4⟩:=h2;rw[e1] at e3;simp only[aZ] at e3;subst e3;split at e2<;>simp at e2;split at e4<;>simp at e4;subst e2 e4;refine⟨⟨λj ds hj=>?_,hs.ok.aK,hs.ok.fresh,hs.ok.nt,hs.ok.bY⟩,hs.cV,hs.defers,hs.slot⟩
   by_cases fC:j=i
   .subst fC;rw[ag.d_] at hj;simp only[aZ] at hj;subst hj;obtain⟨q2,q3⟩:=hs.ok.box j (setAt cs off [.raw u]) (by simp[V.cells,ag.set]);rw[S6];exact⟨q2,box E.nl j cs off hy q3⟩
   .rw[ag.eg _ _ fC] at hj;exact hs.ok.box j ds (by rw[ag.eg _ _ fC];exact hj)
 | _=>simp[dq] at h1
def WT{mP:St}{u:Value}{p:V}(h2:dq st 1 y p=U mP)(hu:u.oneCell' = aa):∃mO,dq st 1 (.raw u) p=U mO/\mO.t=st.t:=by
 cases p with
 | ptr p off =>
  cases p with
  | jT b=>simp[dq] at h2
  | aD i =>
   simp only[dq,iI] at h2;obtain⟨cs',e3,e4⟩:=h2;split at e4<;>simp at e4;rename_i hc;exact⟨⟨st.t,st.aD.set i (setAt cs' off (V.raw u).cells),st.out⟩,by simp only[dq,e3,vA];rw[aE ⟨hc.1,by simp[V.wd,hu],by simp[V.cells,cC,V.one,hu]⟩],rfl⟩
  | out i =>
   simp only[dq,iI] at h2;obtain⟨cs',e3,e4⟩:=h2;split at e4<;>simp at e4;rename_i hc;exact⟨⟨st.t,st.aD,st.out.set i (setAt cs' off (V.raw u).cells)⟩,by simp only[dq,e3,vA];rw[aE ⟨hc.1,by simp[V.wd,hu],by simp[V.cells,cC,V.one,hu],by simp[V.cells,bK,V.cI]⟩],rfl⟩
 | _=>simp[dq] at h2
variable{m:Nat}
def NV{p:V}{n:Nat}:dq ⟨st.t,st.aD,st.out.aY Y m⟩ n y p=(dq st n y p).map λs=>⟨s.t,s.aD,s.out.aY Y m⟩:=by
 cases p with
 | ptr p off =>
  cases p with
  | jT b=>simp[dq]
  | aD i =>
   simp only[dq];cases st.aD[i]? with
   | none=>rfl
   | some cs=>simp only[vA];split<;>rfl
  | out i =>
   simp only[dq];show((st.out.box i).bind _)=_;cases st.out.box i with
   | none=>rfl
   | some cs=>simp only[vA];split<;>rfl
 | _=>rfl
def WU{aJ:St}{p:V}{n:Nat}(h:dq st n y p=U aJ):aJ.out.aK=st.out.aK/\aJ.t=st.t:=by
 cases p with
 | ptr p off =>
  cases p with
  | jT b=>simp[dq] at h
  | aD i =>
   simp only[dq,iI] at h;obtain⟨cs,_,e2⟩:=h;split at e2<;>simp at e2;subst e2;exact⟨rfl,rfl⟩
  | out i =>
   simp only[dq,iI] at h;obtain⟨cs,_,e2⟩:=h;split at e2<;>simp at e2;subst e2;exact⟨rfl,rfl⟩
 | _=>simp[dq] at h
section
variable {P:Program} {ops:Array Oper}
structure Tl(ops:Array Oper)(hi:HI)(nA Y:Nat)(l:List (List V))(xs:List V)(p:V)(hF:Bool)(E0:Env)(tw:List V)(s1:St)(listed:Array Bool)(a:Act)(w:World):Prop where
 size:listed.size=ops.size
 pre:∀j,j<=nA->listed.getD j ak=aa
 rel:∃E st b cap,E.w=w/\Fr E0 E/\bE E st a/\st.t=tw/\a.tmps.getD hi.d9 undef = .slice (U ⟨b,0,af⟩) (l.length+1) cap /\
  (listed.getD (nA+1) ak=aa->a.tmps.getD hi.d10 undef = .pointer (U ⟨b,l.length*hi.k,af⟩)) /\
  (hF=aa->listed.getD (nA+3) ak=aa->listed.getD (ops.size - 1) ak=ak->R E p (a.tmps.getD hi.dF undef)) /\
  (listed.getD (nA+2) ak=ak->AP E Y hi.k l b cap) /\
  (listed.getD (nA+2) ak=aa->R E.nl (.sl (.tk Y) hi.k (l++[xs])) (.slice (U ⟨b,0,af⟩) (l.length+1) cap)) /\
  (if listed.getD (ops.size - 1) ak=aa then dq (if listed.getD (nA+2) ak=aa then ⟨s1.t,s1.aD,s1.out.aY Y (l.length+1)⟩ else s1) 1 (.raw (.slice (U ⟨b,0,af⟩) (l.length+1) cap)) p=U st
    else st=if listed.getD (nA+2) ak=aa then ⟨s1.t,s1.aD,s1.out.aY Y (l.length+1)⟩ else s1)
def WA{l:List V}{n:Nat}{x:V}(h:l[n]?=U x):l.set n x=l:=by
 have:=(fg.1 h)
 obtain⟨h1,h2⟩:=this;rw[<-h2,X3]
variable{listed:Array Bool}
def yr(hi:i<listed.size)(j:Nat):(listed.setIfInBounds i aa).getD j ak=if j=i then aa else listed.getD j false:=by
 by_cases h:j=i
 .subst h;simp[hi]
 .rw[aC h,pY,AK (fi h),<-pY]
def FV{aJ:St}(h:st.t=aJ.t)(x:X):ev st x=ev aJ x:=by cases x<;>simp[ev,h]
structure TF(P:Program)(ops:Array Oper)(hi:HI)(nA:Nat)(hF:Bool)(Y:Nat)(l:List (List V))(xs:List V)(p:V)(s1:St):Prop where
 hf:HF P (ops.getD nA default) (ops.getD (nA+1) default) (ops.getD (nA+2) default) (ops.getD (ops.size - 1) default) (if hF then U (ops.getD (nA+3) default) else af) hi
 size:nA+(if hF then 5 else 4)=ops.size
 eI:jU (ops.getD (nA+1) default) nA=aa
 eS:jU (ops.getD (nA+2) default) nA=aa/\jU (ops.getD (nA+2) default) (nA+1)=aa
 eO:jU (ops.getD (ops.size - 1) default) nA=aa
 eF:hF=aa->jU (ops.getD (nA+3) default) nA=aa/\jU (ops.getD (ops.size - 1) default) (nA+3)=aa
 len:∃j,ev s1 hi.len = .int j l.length
 aK:s1.out.aK Y=U l.length
 wd:(ev s1 hi.x).wd=U hi.k
 one:cC (ev s1 hi.x).cells=aa
 cI:bK (ev s1 hi.x).cells=aa
 exs:xs=bx (ev s1 hi.x).cells
 d9:s1.t[hi.d9]?=U .any
 d10:s1.t[hi.d10]?=U .any
 dF:hF=aa->s1.t[hi.dF]?=U .any
 nW:C0 hi.fo (ev s1 hi.addr)=U p
 st:∃mP,dq s1 1 (.sl (.tk Y) hi.k (l++[xs])) p=U mP
def yh{ops:Array Oper}{o:Oper}(h:ops[i]?=U o):ops.getD i default=o:=by simp[pY,h]
def ED{o:Oper}(h:o.guard=af):Region.wanted o (yielded ops a.tmps)=true:=by simp[Region.wanted,h]
variable{w:World}
def arj{nA:Nat}{hF:Bool}{l:List (List V)}{xs:List V}{p:V}{s1:St}(T:TF P ops hi nA hF Y l xs p s1){E0:Env}{Q:Exit->Act->World->Prop}
 (h:Tl ops hi nA Y l xs p hF E0 s1.t s1 listed a w) {i:Nat} (hr:i∈Region.ready .any ops listed) {K:Act->World->Prop}
 (hK:∀a w,Tl ops hi nA Y l xs p hF E0 s1.t s1 (listed.setIfInBounds i aa) a w->K a w):wpOp P ops Q i K a w:=by
 obtain⟨xS,o,ho,dp⟩:=mem_ready.1 hr;have aB:i<ops.size:=(kG.1 ho).1;have lD : i<listed.size:=by rw[h.size];exact aB
 have BE : listed.getD i ak=false:=by rw[<-F' _ _ lD];exact xS
 have hgt:nA<i:=by
  rcases vw nA i with hq | hq
  .exact hq
  .rw[h.pre i hq] at BE;simp at BE
 have mD:=yr lD;have l7:=yh ho;have xQ : (listed.setIfInBounds i aa).size=ops.size:=by simp[h.size]
 have GJ : ∀j,j<=nA->(listed.setIfInBounds i aa).getD j ak=true:=λj hj=>by rw[mD,aC (by omega)];exact h.pre j hj
 obtain⟨E,st,bk,cap,rfl,bf,hs,ec,Bo,Gs,KF,Gz,KM,hO⟩:=h.rel;have cG:=T.size;have Ds:s1.t.length=a.tmps.size:=by have:=fI hs.slot;rw[ec] at this;simpa using this
 have Si:hi.d9<a.tmps.size:=by rw[<-Ds];exact(fg.1 T.d9).1
 have Ku:hi.d10<a.tmps.size:=by rw[<-Ds];exact(fg.1 T.d10).1
 have atQ:nA+2<ops.size - 1:=by rw[<-cG];cases hF<;>simp<;>omega
 have lI:∀j,j≠i->(listed.setIfInBounds i aa).getD j ak=listed.getD j false:=λj hj=>by rw[mD,aC hj]
 have made:(listed.setIfInBounds i aa).getD i ak=true:=by rw[mD,aE rfl]
 unfold wpOp;rw[ho];simp only;have Px:∀(E' : Env) (aJ : St) (a:Act) (d:Nat) (v:Value),aJ.t=s1.t->s1.t[d]?=U .any->bE E' aJ a->bE E' aJ (a.put (U d) v):=λE' aJ a d v e1 e2 h=>by
  have:=bE.put h (v:=.any) (x:=v) (by simp[R]) (U d)
  have e:aJ.put (U d) .any=aJ := by
   simp only[St.put];rw[e1,WA e2,<-e1]
  rw[e] at this;exact this
 by_cases hI:i=nA+1
 ·-- the element's address
  subst hI;obtain⟨c,t,u,e,inf,z,tF,tO,wq,wU,_,_,_,_,q5,_,q7,_,_,Aj,_,_,_,Vq,q15,_,_⟩:=T.hf.app;rw[l7] at Vq;have hg:=T.hf.guard.2.1;rw[l7] at hg;have lz:=T.hf.dst.2.1;rw[l7] at lz;rw[ED hg,aE rfl];left;obtain⟨jk,hlen⟩:=T.len;have Kc:=mG (E:=E) (st:=st) (a:=a) hs.slot q15;rw[FV ec,hlen] at Kc;simp only[R] at Kc;have hn:dW P e=U hi.k:=by simp[dW,q7,Aj]
  have cT:(execOp a.eval o).run P E.w = .ok (.value (.pointer (U ⟨bk,l.length*hi.k,af⟩))) E.w:=by
   have air : a.eval (.tmp hi.d9) = .slice (U ⟨bk,0,af⟩) (l.length+1) cap:=Bo;simp[execOp,Vq,air,Kc,Instr.indexAt,asIntOf,run_underlying q5,ny hn,mr]
  unfold Oper.wp;rw[cT];refine hK _ _ ⟨xQ,GJ,E,st,bk,cap,rfl,bf,?_,ec,?_,?_,?_,?_,?_,?_⟩
  .rw[lz];exact Px E st a hi.d10 _ ec T.d10 hs
  .rw[lz,Ai Ku,aC T.hf.ne.1];exact Bo
  .intro _;rw[lz,Ai Ku,aE rfl]
  .intro h1 h2 h3;rw[mD,aC (by omega)] at h2;rw[lI _ (by omega)] at h3;rw[lz,Ai Ku,aC (fi T.hf.ne.2.2)];exact KF h1 h2 h3
  .intro h1;rw[mD,aC (by omega)] at h1;exact Gz h1
  .intro h1;rw[mD,aC (by omega)] at h1;exact KM h1
  .rw[lI _ (by omega),lI _ (by omega)];exact hO
 by_cases hS:i=nA+2
 ·-- the element is filled in
  subst hS;obtain⟨c,t,u,e,inf,z,tF,tO,wq,wU,_,_,_,_,_,_,q7,_,_,Aj,_,_,_,_,_,Vr,q17⟩:=T.hf.app;rw[l7] at Vr;have hg:=T.hf.guard.2.2.1;rw[l7] at hg;have lz:=T.hf.dst.2.2.1;rw[l7] at lz;rw[ED hg,aE rfl];left;have R1 : listed.getD (nA+1) ak=true:=by
   have:=T.eS.2
   rw[l7] at this;obtain⟨e,h1,h2,h3⟩:=Gk this;rw[<-h3];exact dp e h1 h2
  have hX:=mG (E:=E) (st:=st) (a:=a) hs.slot q17;rw[FV ec] at hX;have hn:dW P e=U hi.k:=by simp[dW,q7,Aj]
  obtain⟨r1,r2⟩:=xc hX T.wd;have r3:=RL.o7 (E:=E) (E' := E.nl) _ (Env.le.refl E.nl) T.cI r1;have r4:=yg r1 T.one;obtain⟨E',k1,k2,k3,k4,k5⟩:=aiZ (P:=P) hs (Gz BE) hn (RL.erase _ r3) r2 r4;rw[<-T.exs] at k4;have cT:(execOp a.eval o).run P E.w = .ok .skip E'.w:=by
   have e1:a.eval (.tmp hi.d10) = .pointer (U ⟨bk,l.length*hi.k,af⟩):=Gs R1;simp[execOp,Vr,e1,HT k1]
  unfold Oper.wp;rw[cT];show K (a.put o.dst undef) E'.w;rw[lz];have hle:E.le E' := k2.le λj b hb=>by rw[k5];exact hb
  refine hK _ _ ⟨xQ,GJ,E',_,bk,cap,rfl,bf.trans k2,k3,ec,Bo,?_,?_,?_,?_,?_⟩
  .intro _;exact Gs R1
  .intro h1 h2 h3;rw[mD,aC (by omega)] at h2;rw[lI _ (by omega)] at h3;exact R.mono _ hle (KF h1 h2 h3)
  .intro h1;rw[mD,aE rfl] at h1;simp at h1
  .intro _;exact k4
  .rw[lI (ops.size - 1) (by omega),made];rw[BE] at hO;simp only[dm,cn] at hO;simp only[cD];split at hO
   .rename_i h1;rw[aE h1,NV,hO];rfl
   .rename_i h1;rw[aC h1,hO]
 by_cases hOi:i=ops.size - 1
 ·-- the list is laid down
  subst hOi;obtain⟨t2,qD,q1,q2,q3⟩:=T.hf.out;rw[l7] at q1;have hg:=T.hf.guard.2.2.2;rw[l7] at hg;have lz:=T.hf.dst.2.2.2;rw[l7] at lz;rw[ED hg,aE rfl];left;rw[BE] at hO;simp only[dm,cn] at hO;have aia:R E p (a.eval qD):=by
   cases qP:hF with
   | false =>
    rw[qP] at q3;simp only[dm,cn] at q3;have kQ:=T.nW;rw[q3.1] at kQ;simp only[C0,aZ] at kQ
    have:=mG (E:=E) (st:=st) (a:=a) hs.slot q3.2
    rw[FV ec,kQ] at this;exact this
   | true =>
    rw[qP] at q3;simp only[cD] at q3;obtain⟨off,_,ha,_⟩:=q3;subst ha
    have:=(T.eF qP).2
    rw[l7] at this;obtain⟨e,h1,h2,h3⟩:=Gk this;exact KF qP (by rw[<-h3];exact dp e h1 h2) BE
  obtain⟨mP,rW⟩:=T.st
  let v:Value:=.slice (U ⟨bk,0,af⟩) (l.length+1) cap
  have fL:v.oneCell' = true:=rfl;obtain⟨aJ,DE,ai6⟩:∃aJ,dq st 1 (.raw v) p=U aJ /\ aJ.t=st.t:=by
   rw[hO];split
   .exact WT (by rw[NV,rW];rfl) fL
   .exact WT rW fL
  refine Oper.wp_mono ?_ (XC (Q:=Q) (K:=λ_ s=>s=aJ) hs (by omega) q1 q2 aia (ay:=.raw v) (by simp only[R];exact Bo) DE rfl);rintro a' w' ⟨E',v',u',s',rfl,jX,dj,_,rfl,rfl⟩;rw[lz];simp only[Act.put];have rZ:listed.getD (nA+2) ak=ak->E'.aK Y=U l.length:=λhq=>by
   refine dj.ok.aK Y _ ?_;rw[(WU DE).1,hO,hq];simpa using T.aK
  refine hK _ _ ⟨xQ,GJ,E',_,bk,cap,rfl,bf.trans jX,dj,by rw[ai6,ec],Bo,?_,?_,?_,?_,?_⟩
  .intro h1;rw[lI _ (by omega)] at h1;exact Gs h1
  .intro _ _ h3;rw[mD,aE rfl] at h3;simp at h3
  .intro h1;rw[lI _ (by omega)] at h1;exact(Gz h1).mono jX (rZ h1)
  .intro h1;rw[lI _ (by omega)] at h1;exact R.mono _ jX.nl (KM h1)
  .rw[made,lI _ (by omega)];simp only[cD];rw[<-hO];exact DE
 -- the field's address
 have qP:hF=true:=by
  cases hq:hF with
  | true=>rfl
  | false=>rw[hq] at cG;simp at cG;omega
 have KP:i=nA+3:=by rw[qP] at cG;simp at cG;omega
 subst KP;obtain⟨t2,qD,_,_,q3⟩:=T.hf.out;rw[qP] at q3;simp only[cD] at q3;obtain⟨off,q4,_,q5,q6,q7⟩:=q3;rw[l7] at q5 q6 q7;rw[ED q6,aE rfl];left;have Kv:hi.dF<a.tmps.size:=by rw[<-Ds];exact(fg.1 (T.dF qP)).1
 have kQ:=T.nW;rw[q4] at kQ;have kp:(aI.nW off hi.addr).ba P st (λv s=>v=p/\s=st):=by
  simp only[aI.ba];rw[FV ec];cases hq:ev s1 hi.addr<;>rw[hq] at kQ<;>simp[C0] at kQ ⊢;exact kQ
 refine Oper.wp_mono ?_ (D0 (Q:=Q) q7 hs kp);rintro a' w' ⟨E',v',u',s',rfl,jX,dj,hv,rfl,rfl,rfl⟩;rw[q5];have rZ:listed.getD (nA+2) ak=ak->E'.aK Y=U l.length:=λhq=>by
  refine dj.ok.aK Y _ ?_;rw[hq] at hO;simp only[dm,cn] at hO;split at hO
  .rw[(WU hO).1];exact T.aK
  .rw[hO];exact T.aK
 refine hK _ _ ⟨xQ,GJ,E',_,bk,cap,rfl,bf.trans jX,Px E' _ a hi.dF _ ec (T.dF qP) dj,ec,?_,?_,?_,?_,?_,?_⟩
 .rw[Ai Kv,aC T.hf.ne.2.1];exact Bo
 .intro h1;rw[mD,aC (by omega)] at h1;rw[Ai Kv,aC T.hf.ne.2.2];exact Gs h1
 .intro _ _ _;rw[Ai Kv,aE rfl];exact hv
 .intro h1;rw[mD,aC (by omega)] at h1;exact(Gz h1).mono jX (rZ h1)
 .intro h1;rw[mD,aC (by omega)] at h1;exact R.mono _ jX.nl (KM h1)
 .have h5:nA+5=ops.size:=by rw[qP] at cG;simpa using cG
  rw[lI _ (by omega),lI _ (by omega)];exact hO
end
def Cc(fo:Option Nat)(d:Nat)(t:List V):List V:=match fo with | some _=>t.set d .any | none=>t
def qw(hi:HI)(t:List V):List V:=Cc hi.fo hi.dF ((t.set hi.d9 .any).set hi.d10 .any)
def EO(hi:HI)(K:St->Prop)(st:St):Prop:=Iz hi K ⟨qw hi st.t,st.aD,st.out⟩
def Pw{t:List V}{e:Nat}(h:t[e]?=U .any):(t.set d .any)[e]?=U .any:=by
 have aB:=(fg.1 h).1
 by_cases hd:d=e
 .subst hd;simp[aB]
 .rw[Cr hd];exact h
def I4{t:List V}(h:d<t.length):(t.set d .any)[d]?=U .any:=by simp[h]
def Oh(hi:HI)(t:List V):(qw hi t).length=t.length:=by
 unfold qw Cc;cases hi.fo<;>simp
def Xm{fo:Option Nat}{e:Nat}{t:List V}(h:t[e]?=U .any):(Cc fo d t)[e]?=U .any:=by
 unfold Cc;cases fo
 .exact h
 .exact Pw h
def asz{t:List V}(h:hi.d9<t.length):(qw hi t)[hi.d9]?=U .any:=Xm (Pw (I4 h))
def asy{t:List V}(h:hi.d10<t.length):(qw hi t)[hi.d10]?=U .any:=Xm (I4 (by simpa using h))
def asA{t:List V}{off:Nat}(hf:hi.fo=U off)(h:hi.dF<t.length):(qw hi t)[hi.dF]?=U .any:=by
 unfold qw Cc;rw[hf];exact I4 (by simpa using h)
def asB{t:List V}{us:List Value}(h:RL E t us):RL E (qw hi t) us:=by
 unfold qw Cc;cases hi.fo
 .exact yT _ (yT _ h)
 .exact yT _ (yT _ (yT _ h))
def Wu{S:Nat->Bool}{n:Nat}:∀{tr:List TR} {i:Nat},(∀j,S (i+j)=decide (i+j<n))->cu S i tr=tr.take (n - i)
 | [],i,_=>by simp[cu]
 | r :: tr, i, h => by
  have h0:=h 0;rw[wZ] at h0;have ih:=Wu (S:=S) (n:=n) (tr:=tr) (i:=i+1) λj=>by
   have:=h (j+1)
   rw[show i+(j+1)=i+1+j from by omega] at this;exact this
  simp only[cu,h0]
  by_cases hi:i<n
  .simp only[hi,bM,cD,ih];rw[show n - i=(n - (i+1))+1 from by omega,vu]
  .simp only[hi,fk,dm,cn,ih];rw[show n - (i+1)=0 from by omega,show n - i=0 from by omega];simp
def V3:∀{a b:List TR} {t:List V},runT (a++b) t=runT b (runT a t)
 | [],_,_=>rfl
 | r::a,b,t=>by simp only[gI,runT];exact V3
def VY:∀{a b:List TR} {s:c8},dx (a++b) s=dx b (dx a s)
 | [],_,_=>rfl
 | r::a,b,t=>by simp only[gI,dx];exact VY
def V2{E:Env}{us:List Value}:∀{tr:List TR} {t:List V},(∀r∈tr,r.val = .any)->RL E t us->RL E (runT tr t) us
 | [],_,_,h=>h
 | r :: tr, t, hv, h => by
  simp only[eE] at hv;simp only[runT];refine V2 hv.2 ?_;cases hd:r.dst with
  | none=>exact h
  | some d=>simp only[j9,hv.1];exact yT d h
def VX:∀{tr:List TR} {s:c8},(∀r∈tr,r.bg=ak)->dx tr s=s
 | [],_,_=>rfl
 | r :: tr, s, h => by
  simp only[eE] at h;simp only[dx,h.1,dm,cn];exact VX h.2
section
variable {P:Program} {ops:Array Oper}
variable{l:List (AO × List Nat)}
def ald(h:Hm P ops=U (l,hi)):
 ∃b,yG ops l b/\b.length=ops.size/\P.follows .mixedOrders=aa/\(∀(i:Nat) o,i<gj ops->ops[i]?=U o->∃x:AO × List Nat,l[i]?=U x/\th P ops o=U x.1) /\
  (∀(i:Nat) o,gj ops<=i->ops[i]?=U o->∃ms,l[i]?=U (dummy o,ms)) /\
  HF P (ops.getD (gj ops) default) (ops.getD (gj ops+1) default) (ops.getD (gj ops+2) default) (ops.getD (ops.size - 1) default) (rV ops) hi /\
  gj ops+(if (rV ops).isSome then 5 else 4)=ops.size/\(∀j,j<gj ops->jU (ops.getD (gj ops) default) j=aa) /\
  jU (ops.getD (gj ops+1) default) (gj ops)=aa/\(jU (ops.getD (gj ops+2) default) (gj ops)=aa/\jU (ops.getD (gj ops+2) default) (gj ops+1)=aa) /\
  jU (ops.getD (ops.size - 1) default) (gj ops)=aa/\(∀F,rV ops=U F->jU F (gj ops)=aa/\jU (ops.getD (ops.size - 1) default) (gj ops+3)=aa):=by
 unfold Hm at h;split at h
 case h_2=>simp at h
 rename_i A I S O'' l0 a1 a2 a3 a4 a5;split at h
 case h_2=>simp at h
 rename_i db aik;split at h
 case isFalse=>simp at h
 rename_i hc;simp only[aZ,nN] at h;obtain⟨rfl,rfl⟩:=h;unfold SC at hc;simp only[bC,ca] at hc;obtain⟨⟨⟨⟨⟨c1,c2⟩,c3⟩,c4⟩,c5⟩,c6⟩:=hc;rw[yh a1,yh a2,yh a3,yh a4];have hlen:=(facts c1).size;have hA:gj ops<ops.size:=(kG.1 a1).1;obtain⟨g1,g2⟩:=Me a5;have hl0:l0.length=gj ops:=by rw[g1];simp;omega
 refine⟨_,facts c1,?_,c2,λi o hi ho=>?_,λi o hi ho=>?_,aiU aik,c3,λj hj=>?_,c5.1.1.1,⟨c5.1.1.2,c5.1.2⟩,c5.2,λF hF=>?_⟩
 .unfold xo at c1;simp only[bC,ca] at c1;exact c1.1.1.2
 .obtain⟨x,k1,k2⟩:=g2 i o (by rw[IN,aE hi];simpa using ho);obtain⟨ms,hm⟩:=Xl (l1:=l0++(ops.toList.drop (gj ops)).map dummy) (b:=wx ops.toList []) (i:=i) (y:=x) (by rw[sA (by omega)];exact k1) (by rw[hlen];omega);exact⟨_,hm,k2⟩
 .have aB:=(kG.1 ho).1;exact Xl (by rw[AR (by omega),vt,tV,hl0,show gj ops+(i - gj ops)=i from by omega];simp[ho]) (by rw[hlen];exact aB)
 .simp only[ln,yO] at c4;exact c4 j hj
 .rw[hF] at c6;simpa using c6
end
section
variable {P:Program} {ops:Array Oper}
def aiV(cG:gj ops+(if (rV ops).isSome then 5 else 4)=ops.size):rV ops=if (rV ops).isSome=aa then U (ops.getD (gj ops+3) default) else none:=by
 cases hq:rV ops with
 | none=>rfl
 | some F =>
  rw[hq] at cG;simp only[E9,cD] at cG ⊢;unfold rV at hq;split at hq
  case h_2=>simp at hq
  rename_i F0 h0;split at hq
  .simp only[aZ] at hq;subst hq;rw[yh (i:=gj ops+3) (by rw[<-h0];congr 1;omega)]
  .simp at hq
variable{K:St->Prop}{l:List (AO × List Nat)}
def aiY{id:Nat}(hl:Hm P ops=U (l,hi))(h:ch P l [(st.aD,st.out)] [] (EO hi K) st):
 iF P (.region id ops aa) (λe aJ => e = .normal/\K aJ) st:=by
 obtain⟨b,F,py,hf,uK,ais,Bk,cG,eA,eI,eS,eO,eF⟩:=ald hl;have Bj:=aiV cG;intro E a hs;refine wp_region_any hf ?_;obtain⟨bf,_,oD⟩:=Er hs ((Ext.refl E.w).drew);obtain⟨tr,ht,_,hK⟩:=Ij (t:=st.t) (s:=(st.aD,st.out)) h;have sP:[(st.aD,st.out)]++kg tr=(st.aD,st.out)::kg tr:=rfl;rw[sP] at ht;have hlen:=Fg ht;generalize hnA:gj ops=nA at *;generalize hhF:(rV ops).isSome=hF at *;have atJ:nA+3<ops.size:=by rw[<-cG];split<;>omega
 have hoA:ops[nA]?=U (ops.getD nA default):=by
  rw[lU (by omega)];simp[show nA<ops.size by omega]
 -- the tail's steps in the run say nothing
 have SX:∀r∈tr.drop nA,r.val = .any/\r.bg=false:=λr hr=>by
  obtain⟨j,hj⟩:=X1.1 hr;rw[tV] at hj;have zy:nA+j<ops.size:=by rw[<-F.size,hlen];exact(fg.1 hj).1
  obtain⟨ms,hm⟩:=ais (nA+j) _ (by omega) (lU zy);obtain⟨_,e2,run,e3,e4,_⟩:=Fh (i:=0) (k:=nA+j) ht hm hj;simp only[dummy] at e3;subst e3;obtain⟨e5,_⟩:=e4 rfl;simp only[dummy,aI.ba,Exact,ev] at e5;exact⟨e5.1.symm,e2⟩
 have Lh:∀{E' : Env} {us:List Value},RL E' (runT (tr.take nA) st.t) us->RL E' (runT tr st.t) us:=λ{E' us} h=>by
  have e:runT tr st.t=runT (tr.drop nA) (runT (tr.take nA) st.t):=by rw[<-V3,qA]
  rw[e];exact V2 (λr hr=>(SX r hr).1) h
 have SR:dx tr (st.aD,st.out)=dx (tr.take nA) (st.aD,st.out):=by
  have e:dx tr (st.aD,st.out)=dx (tr.drop nA) (dx (tr.take nA) (st.aD,st.out)):=by rw[<-VY,qA]
  rw[e];exact VX (λr hr=>(SX r hr).2)
 -- what the tail asks
 obtain⟨Y,ll,c,t',j,es,ez,QJ,jV,rZ,qY,fL,n8,h9,iL,R0,p,hp,mP,rW,hKK⟩:=hK;generalize SM:(⟨qw hi (bX (runT tr st.t) (dx tr (st.aD,st.out))).t,(bX (runT tr st.t) (dx tr (st.aD,st.out))).aD,(bX (runT tr st.t) (dx tr (st.aD,st.out))).out⟩:St)=s1 at es ez QJ rZ qY fL n8 h9 iL R0 hp rW;have zC:s1.t=qw hi (runT tr st.t):=by rw[<-SM];rfl
 have SO:s1.aD=(dx tr (st.aD,st.out)).1/\s1.out=(dx tr (st.aD,st.out)).2:=by rw[<-SM];exact⟨rfl,rfl⟩
 have uG:hF=aa->∃off,hi.fo=U off:=λhq=>by
  obtain⟨_,_,_,_,q3⟩:=Bk.out;rw[Bj,aE hq] at q3;obtain⟨off,h1,_⟩:=q3;exact⟨off,h1⟩
 have C8 : hi.d9<(runT tr st.t).length:=by rw[zC,Oh] at h9;exact h9
 have ah4 : hi.d10<(runT tr st.t).length:=by rw[zC,Oh] at iL;exact iL
 have T:TF P ops hi nA hF Y ll (bx (ev s1 hi.x).cells) p s1:=by
  refine⟨by rw[Bj] at Bk;exact Bk,cG,eI,eS,eO,λhq=>?_,⟨j,QJ⟩,rZ,qY,fL,n8,rfl,by rw[zC];exact asz C8,by rw[zC];exact asy ah4,λhq=>?_,hp,⟨mP,rW⟩⟩
  .rw[aE hq] at Bj;exact eF _ Bj
  .obtain⟨off,ho⟩:=uG hq
   have:=R0 (by rw[ho];rfl)
   rw[zC,Oh] at this;rw[zC];exact asA ho this
 let Q' : Exit->Act->World->Prop:=λe a' w' => ∃E' aJ,E'.w=w' /\ bE E' aJ a' /\ Fr E E' /\ e = .normal/\K aJ
 -- the end
 have fin:∀(listed:Array Bool) (a:Act) (w:World),Tl ops hi nA Y ll (bx (ev s1 hi.x).cells) p hF E s1.t s1 listed a w->(∀j,j<ops.size->listed.getD j ak=aa)->Q' .normal a w:=λlisted a w h dp=>by
  obtain⟨E',aJ,bk,cap,h1,h2,h3,h4,_,_,_,_,h5,h6⟩:=h.rel;rw[dp _ (by omega),dp _ (by omega)] at h6;simp only[cD] at h6;have h5:=h5 (dp _ (by omega));have ai7 : dq ⟨s1.t,s1.aD,s1.out.aY Y (ll.length+1)⟩ 1 (.sl (.tk Y) hi.k (ll++[bx (ev s1 hi.x).cells])) p=U ⟨mP.t,mP.aD,mP.out.aY Y (ll.length+1)⟩:=by rw[NV,rW];rfl
  have h7:R E' (.sl (.tk Y) hi.k (ll++[bx (ev s1 hi.x).cells])) (.slice (U ⟨bk,0,af⟩) (ll.length+1) cap):=by
   simp only[R] at h5 ⊢;exact h5
  exact⟨E',_,h1,aqX h6 ai7 h5 rfl h7 h3,h2,rfl,hKK⟩
 have KB:∀(listed:Array Bool) (i:Nat),listed.size=ops.size->i∈Region.ready .any ops listed->∀fuel,listed.toList.count ak<=fuel+1->(listed.setIfInBounds i aa).toList.count ak<=fuel:=λlisted i cG hi fuel hc=>by
  obtain⟨h1,o,ho,_⟩:=mem_ready.1 hi;have aB:i<listed.size:=by rw[cG];exact(kG.1 ho).1
  have e:listed.toList[i]?=U false:=by
   have:listed[i]?=U false:=by
    rw[lU aB];simpa [aB] using h1
   simpa using this
  have:=count_set listed.toList i e
  simp only[OE];omega
 have Gt:∀(listed:Array Bool),listed.size=ops.size->Region.ready .any ops listed=[]->∀n j,j<n->j<ops.size->listed.getD j ak=true:=λlisted cG hr n=>by
  induction n with
  | zero=>intro j h;omega
  | succ n ih =>
   intro j hj lC;cases hq:listed.getD j ak with
   | true=>rfl
   | false =>
    have:j∈Region.ready .any ops listed:=mem_ready.2 ⟨by rw[F' _ _ (by rw[cG];exact lC)];exact hq,ops[j],lU lC,λe he hb=>by
     have:=F.back j _ (lU lC) e he hb
     exact ih e.on (by omega) (by omega)⟩
    rw[hr] at this;simp at this
 have hzero:∀(listed:Array Bool),listed.size=ops.size->listed.toList.count ak<=0->Region.ready .any ops listed=[]:=λlisted cG hc=>by
  cases hq:Region.ready .any ops listed with
  | nil=>rfl
  | cons j js =>
   obtain⟨h1,o,ho,_⟩:=mem_ready.1 (show j∈Region.ready .any ops listed by rw[hq];simp);have aB:j<listed.size:=by rw[cG];exact(kG.1 ho).1
   have:ak∈listed.toList:=by
    have e:listed[j]?=U false:=by
     rw[lU aB];simpa [aB] using h1
    exact rA (by simpa using e)
   have:=List.count_pos_iff.2 this
   omega
 -- the tail,in every order
 have tail:∀(fuel:Nat) (listed:Array Bool) (a:Act) (w:World),Tl ops hi nA Y ll (bx (ev s1 hi.x).cells) p hF E s1.t s1 listed a w->listed.toList.count ak<=fuel->wpAny P .any ops Q' fuel listed a w:=by
  intro fuel;induction fuel with
  | zero =>
   intro listed a w h hc;have hr:=hzero listed h.size hc;exact⟨hr,fin listed a w h λj hj=>Gt listed h.size hr (j+1) j (by omega) hj⟩
  | succ fuel ih =>
   intro listed a w h hc;refine⟨λhr=>fin listed a w h λj hj=>Gt listed h.size hr (j+1) j (by omega) hj,λi db => ?_⟩;exact arj T h db λa w h' => ih _ a w h' (KB listed i h.size db fuel hc)
 -- what comes before
 have key:∀(fuel:Nat) (listed:Array Bool) (a:Act) (w:World),Ci ops tr st.t (st.aD,st.out) E (λ_ _ _=>True) listed a w->(∀j,nA<=j->listed.getD j ak=ak)->listed.toList.count ak<=fuel->wpAny P .any ops Q' fuel listed a w:=by
  intro fuel;induction fuel with
  | zero =>
   intro listed a w h hn hc;have hr:=hzero listed h.size hc
   have:=Gt listed h.size hr (nA+1) nA (by omega) (by omega)
   rw[hn nA (bP _)] at this;simp at this
  | succ fuel ih =>
   intro listed a w h hn hc;refine⟨λhr=>?_,λi db => ?_⟩
   .have:=Gt listed h.size hr (nA+1) nA (by omega) (by omega)
    rw[hn nA (bP _)] at this;simp at this
   obtain⟨xS,o,ho,dp⟩:=mem_ready.1 db;have aiE:i<ops.size:=(kG.1 ho).1;have zu : i<listed.size:=by rw[h.size];exact aiE
   rcases yR i nA with aB | rfl | hgt
   .refine QF F py rfl ht h db (λo ho=>let ⟨x,h1,h2⟩:=uK i o aB ho;⟨x,h1,.inl ⟨h2,λ_ _ _ _ _ _ _=>trivial⟩⟩) λa w h' => ih _ a w h' (λj hj=>?_) (KB listed i h.size db fuel hc)
    rw[yr zu,aC (by omega)];exact hn j hj
   ·-- the row grows
    have l7:=yh ho;have uM:∀j,j<i->listed.getD j ak=true:=λj hj=>by
     have:=eA j hj
     rw[l7] at this;obtain⟨e,h1,h2,h3⟩:=Gk this;rw[<-h3];exact dp e h1 h2
    obtain⟨E1,rfl,dj,xH,_⟩:=h.rel;have hS:∀j,(λj=>listed.getD j ak) (0+j)=decide (0+j<i):=λj=>by
     rw[jy]
     by_cases hj:j<i
     .simp only[hj,bM];exact uM j hj
     .simp only[hj,fk];exact hn j (by omega)
    rw[Wu hS,Nat.sub_zero] at dj;have DC:bE E1 s1 a:=by
     refine⟨?_,?_,dj.defers,?_⟩
     .rw[SO.2,SR];exact dj.ok
     .rw[SO.1,SR];exact dj.cV
     .rw[zC];exact asB (Lh dj.slot)
    obtain⟨c',t,u,e,inf,z,tF,tO,wq,wU,q1,q2,q3,q4,q5,q6,q7,q8,q9,Aj,q11,q12,q13,_⟩:=Bk.app;rw[l7] at q1;have hg:=Bk.guard.1;rw[l7] at hg;have lz:=Bk.dst.1;rw[l7] at lz;unfold wpOp;rw[ho];simp only;rw[ED hg,aE rfl];left;have cT:(execOp a.eval o).run P E1.w=((Builtin.append_ #[t,u] o.type #[a.eval tF,a.eval tO]).run P E1.w).andThen λv w' => .ok (.value v) w' := by
     simp[execOp,q1,q2,q3,q4,resolve,invoke,builtin]
    have R_:=mG (E:=E1) (st:=s1) (a:=a) DC.slot q12;have Se:=mG (E:=E1) (st:=s1) (a:=a) DC.slot q13;rw[es] at R_;rw[ez] at Se;obtain⟨news,r1,r2,r3,r4⟩:=HZ (P:=P) q6 Se;obtain⟨i',zv,k1,k2,k3,k4⟩:=sy q8;rw[q7] at k1;simp only[aZ] at k1;subst k1;have iN:zv.cells.size=inf.size:=by have:=fI (qH (E:=E1) k3);simp at this;omega
    obtain⟨bk,cap,E2,m1,m2,m3,m4,m5⟩:=aiW (P:=P) DC q5 q7 k2 iN q9 cT (by rw[Aj];exact R_) (by rw[Aj];exact r1) r3 jV (DC.ok.aK Y _ rZ);unfold Oper.wp;rw[m2];have Ds:s1.t.length=a.tmps.size:=by have:=fI DC.slot;simpa using this
    have Si:hi.d9<a.tmps.size:=by rw[<-Ds];exact h9
    refine tail fuel _ _ _ ⟨by simp[h.size],λj hj=>?_,E2,s1,bk,cap,rfl,xH.trans m3,?_,rfl,?_,?_,?_,?_,?_,?_⟩ (KB listed i h.size db fuel hc)
    .rw[yr zu];split
     .rfl
     .exact uM j (by omega)
    .rw[lz]
     have:=bE.put m4 (v:=.any) (x:=.slice (U ⟨bk,0,af⟩) (ll.length+1) cap) (by simp[R]) (U hi.d9)
     have e:s1.put (U hi.d9) .any=s1:=by
      simp only[St.put];rw[WA T.d9]
     rw[e] at this;exact this
    .rw[lz,Ai Si,aE rfl]
    .intro h1;rw[yr zu,aC (by omega),hn _ (by omega)] at h1;simp at h1
    .intro _ h1;rw[yr zu,aC (by omega),hn _ (by omega)] at h1;simp at h1
    .intro _;rw[<-Aj];exact m1
    .intro h1;rw[yr zu,aC (by omega),hn _ (by omega)] at h1;simp at h1
    .have z1:(listed.setIfInBounds i aa).getD (ops.size - 1) ak=false:=by rw[yr zu,aC (by omega)];exact hn _ (by omega)
     have z2:(listed.setIfInBounds i aa).getD (i+2) ak=false:=by rw[yr zu,aC (by omega)];exact hn _ (by omega)
     rw[z1,z2];simp
   .exfalso
    have l7:=yh ho;have aiv:jU o nA=true:=by
     rw[<-l7]
     by_cases h1:i=nA+1
     .rw[h1];exact eI
     by_cases h2:i=nA+2
     .rw[h2];exact eS.1
     by_cases h3:i=ops.size - 1
     .rw[h3];exact eO
     have qP:hF=true:=by
      cases hq:hF with
      | true=>rfl
      | false=>rw[hq] at cG;simp at cG;omega
     have h4:i=nA+3:=by rw[qP] at cG;simp at cG;omega
     rw[aE qP] at Bj;rw[h4];exact(eF _ Bj).1
    obtain⟨e,h1,h2,h3⟩:=Gk aiv
    have:=dp e h1 h2
    rw[h3,hn nA (bP _)] at this;simp at this
 have xO:∀j,(Array.replicate ops.size ak).getD j ak=false:=λj=>by
  by_cases hj:j<ops.size<;>simp[hj]
 have pC:∀(tr:List TR) (q:Nat),cu (λj=>(Array.replicate ops.size ak).getD j ak) q tr=[]:=by
  intro tr;induction tr with
  | nil=>intro q;rfl
  | cons r tr ih=>intro q;rw[cu,aC (by rw[xO];simp)];exact ih _
 refine key ops.size _ a _ ⟨by simp,λi o _ hi=>by rw[xO] at hi;simp at hi,{E with w:=E.w.drew},rfl,?_,bf,trivial⟩ (λj _=>xO j) (by simp);rw[pC];exact oD
end
section
variable {P:Program} {E:Env} {st:St} {a:Act} {o:Oper} {K:V->St->Prop} {Q:Exit->Act->World->Prop}
def Env.gu(E:Env)(b:Nat):Env:={E with a7:=λx=>if x=b then .const else E.a7 x}
def ahr{cs:List V}(hs:bE E st a)(hb:st.out.box b=U cs):
 Fr E (E.gu b)/\bE (E.gu b) ⟨st.t,st.aD,st.out.del b⟩ a/\∀(j:Nat) x,cs[j]?=U x->∃v,(E.gu b).w.cell? ⟨b,j,af⟩=U v/\((E.gu b).a7 b).gW j/\R (E.gu b).nl x v:=by
 obtain⟨dv,c,e,hc,hlen,n5⟩:=hs.ok.box b cs hb;have hc:E.w.heap[b]?=U (.cells c e (0,0)):=hc;have aX:∀b',E.a7 b' ≠ .pJ->b' ≠ b:=λb' h e=>h (by rw[e];exact dv)
 have lH:∀b',b' ≠ b->(E.gu b).a7 b' = E.a7 b' := λb' h=>by simp[Env.gu,h]
 have aB:=kx (w:=E.w) hc;have bf:Fr E (E.gu b):=by
  refine⟨rfl,rfl,rfl,bP _,λ_=>rfl,λb' o c' xD hv=>?_,λt n h=>⟨n,h,bP _,λ_ b' c' hr=>⟨?_,λcs e bR=>⟨cs,bR,rfl⟩⟩⟩,λb' _ hr=>⟨rfl,?_⟩,λb' _ h=>?_,λb' t c' _ h=>?_,λb' i _ h=>?_,λb' c' e h=>⟨c',h,rfl⟩⟩
  .have:b' ≠ b:=aX b' (λe=>by rw[e] at xD;exact xD)
   exact⟨by rw[lH b' this];exact xD,hv⟩
  .rw[lH b' (aX b' (by rw[hr];simp))];exact hr
  .rw[lH b' (aX b' (by rcases hr with h | h<;>rw[h]<;>simp))]
  .by_cases e:b' = b
   .rw[e];exact .inl dv
   .rw[lH _ e] at h;exact .inl h
  .by_cases e:b' = b
   .rw[e] at h;simp[Env.gu] at h
   .rw[lH _ e] at h;exact⟨c',h⟩
  .by_cases e:b' = b
   .rw[e] at h;simp[Env.gu] at h
   .rw[lH _ e] at h;exact⟨i,h⟩
 have hle:E.le (E.gu b):=bf.le λi b h=>h
 refine⟨bf,⟨⟨λb' cs' h=>?_,hs.ok.aK,λb' b9 => ?_,hs.ok.nt,λb cs hc=>dZ.mono _ bf.nl (hs.ok.bY b cs hc)⟩,pK hs.cV hle (λb' i h _=>⟨by rw[lH b' (aX b' (by rw[h];simp))];exact h,rfl⟩) hs.cV.none,hs.defers,RL.mono _ hle hs.slot⟩,λj x hx=>?_⟩
 .simp only[ag.del] at h;split at h
  .simp at h
  .rename_i zA;obtain⟨h1,h2⟩:=hs.ok.box b' cs' h;exact⟨by rw[lH b' zA];exact h1,jc.mono hle.nl rfl h2⟩
 .have b9 : E.w.heap.size<=b' := b9;rw[lH b' (by omega)];exact hs.ok.fresh b' b9
 .obtain⟨v,hv,hr⟩:=n5 j x hx;refine⟨v,?_,by simp[Env.gu,eT.gW],R.mono x bf.nl hr⟩;show E.w.cell? ⟨b,j,af⟩=U v;simp[World.cell?,hc,hv]
def nH(s:List UInt8):List Value:=s.map λb=>Value.int .u8 b.toNat
variable{base:Option Addr}
def Vy{Z:ag}{n:Nat}{s:List UInt8}(b_:E.ok Z)(h:HO Z base n s){w0:World}(hw:w0.heap=E.w.heap):
 n=0/\s=[]\/∃b off,base=U ⟨b,off,af⟩/\(loadCells ⟨b,off,af⟩ n).run P w0 = .ok (nH s).toArray w0:=by
 obtain⟨hl,h⟩:=h
 rcases h with rfl | ⟨b,off,cs,rfl,hb,bR⟩
 .exact .inl ⟨rfl,jv.1 hl⟩
 .right;obtain⟨_,c,e,hc,hlen,n5⟩:=b_.box b cs hb;have hc:w0.heap[b]?=U (.cells c e (0,0)):=by rw[hw];exact hc
  refine⟨b,off,rfl,?_⟩
  have:=run_loadCells_list (P:=P) w0 ⟨b,off,af⟩ (nH s) (λj u hu=>by
   rw[mr];simp only[nH,vt,c7] at hu;obtain⟨x,hx,rfl⟩:=hu;have hj:j<n:=by rw[<-hl];exact(fg.1 hx).1
   have hcj:cs[off+j]?=U (.int .u8 x.toNat):=by
    have:=gX (λl:List V=>l[j]?) bR
    simp only[vt,hx,vB,yN hj,tV] at this;exact this
   obtain⟨v,h1,h2⟩:=n5 (off+j) _ hcj;simp only[R] at h2;simp[World.cell?,hc,h1,h2])
  rw[show(nH s).length=n by simp[nH,hl]] at this;exact this
variable{e u:TypeId}
def aqQ{n:Nat}{s:List UInt8}(b_:E.ok st.out)(h:HO st.out base n s)(hu:P.underlying u=U (.slice e)):
 Src P E.w 1 (de s).length u (.slice base n cap) (nH s)/\RL E.nl (de s).flatten (nH s)/\(∀v∈nH s,v.oneCell' = aa)/\∀y∈de s,y.length=1:=by
 have hl:=h.1;have hlen:(de s).length=n:=by simp[de,hl]
 have cell:∀w0:World,w0.heap=E.w.heap->(Builtin.firstCells 1 n (.slice base n cap)).run P w0 = .ok (nH s).toArray w0:=λw0 hw=>by
  rcases Vy (P:=P) b_ h hw with ⟨rfl,rfl⟩ | ⟨b,off,rfl,hr⟩
  .cases base<;>simp[Builtin.firstCells,loadCells,loadCellsFrom,nH]
  .simp only[Builtin.firstCells,sB];exact hr
 refine⟨⟨⟨_,hu,λ_ h=>by simp at h⟩,λw' => by simp[Builtin.lenOf,hlen],?_,?_,by simp[nH,de]⟩,?_,?_,?_⟩
 .rw[hlen];exact cell E.w rfl
 .rw[hlen];exact cell E.w.drew rfl
 .rw[JD];clear hl hlen cell h;induction s with
  | nil=>simp[RL,nH]
  | cons b s ih=>simp only[b8,RL,R,nH] at ih ⊢;exact⟨trivial,ih⟩
 .intro v hv;simp only[nH,tW] at hv;obtain⟨b,_,rfl⟩:=hv;rfl
 .intro y hy;simp only[de,tW] at hy;obtain⟨b,_,rfl⟩:=hy;rfl
variable{t:TypeId}
def apX{lo hi:Option Operand}{mF db : Option X}(hs:bE E st a)(h1:ku P t lo=U mF)(h2:ku P t hi=U db){len n:Nat}
 (dK:match (generalizing:=false) mF with | none=>m=0 | some y=>∃j,ev st y = .int j m) (mC:match (generalizing:=false) db with | none=>n=len | some y=>∃j,ev st y = .int j n) (sY:m<=n) (qh:n<=len) :
 (Instr.sliceBounds ak len len (lo.map a.eval) (hi.map a.eval) af).run P E.w = .ok (m,n,len) E.w:=by
 rcases lL (E:=E) hs.slot h2 with ⟨rfl,rfl⟩ | ⟨u,v,rfl,rfl,hr⟩
 .simp only at mC;subst mC
  rcases lL (E:=E) hs.slot h1 with ⟨rfl,rfl⟩ | ⟨u',v',rfl,rfl,ck⟩
  .simp only at dK;subst dK;simp[Instr.sliceBounds]
  .obtain⟨j',gM⟩:=dK;rw[gM] at ck;simp only[R] at ck;have e2:=qq (P:=P) (w:=E.w) (j:=j') (c:=.sliceB) sY;simp[Instr.sliceBounds,ck,e2]
 .obtain⟨j,hj⟩:=mC;rw[hj] at hr;simp only[R] at hr;have e2:=qq (P:=P) (w:=E.w) (j:=j) (c:=.sliceAlen) qh
  rcases lL (E:=E) hs.slot h1 with ⟨rfl,rfl⟩ | ⟨u',v',rfl,rfl,ck⟩
  .simp only at dK;subst dK;simp[Instr.sliceBounds,hr,e2]
  .obtain⟨j',gM⟩:=dK;rw[gM] at ck;simp only[R] at ck;have e3:=qq (P:=P) (w:=E.w) (j:=j') (c:=.sliceB) sY;simp[Instr.sliceBounds,hr,ck,e2,e3]
def Mi(P:Program)(o:Oper):Option aI :=
 match o.op with
 | .slice t x lo hi af =>
  match cw P t x,ku P t lo,ku P t hi with
  | some y, U mF, U db =>
   match P.underlying t with
   | some (.array m e)=>(dW P e).map λk=>.own (.HV m k mF.isSome db.isSome) (y::(mF.toList++db.toList))
   | some (.slice e)=>if dW P e=U 1 then U (.own (.gu 1 mF.isSome db.isSome) (y::(mF.toList++db.toList))) else af
   | _=>af
  | _,_,_=>af
 | .buildSlice t len ps =>
  match P.underlying t with
  | some (.slice e) =>
   match dW P e,jK P e,iV P (au len e) (ps.toList.map (·.2)) with
   | some k,U _,U xs=>if ps.toList.map (·.1)=bU len/\len*k<=16777216 then U (.own (.new k) xs) else af
   | _,_,_=>af
  | _=>af
 | .convert src dst x =>
  match P.underlying src,P.underlying dst,cw P src x with
  | some (.slice e),U .string,U y=>match P.underlying e with | some (.int .u8)=>U (.own .Ju [y]) | _=>af
  | _,_,_=>af
 | .call c =>
  match c.callee with
  | .builtin .append =>
   match c.argTypes.toList,c.args.toList with
   | [t, u], [s, x] =>
    match P.underlying t,cw P t s,cw P u x with
    | some (.slice e), U s', U x' =>
     match P.info? e,jK P e with
     | some i, U _ =>
      if i.size=1/\i.bytes<=4096 then
       match P.underlying u with
       | some .string=>U (.own .mu [s',x'])
       | some (.slice _)=>U (.own .I5 [s',x'])
       | _=>af
      else af
     | _,_=>af
    | _,_,_=>af
   | _,_=>af
  | _=>af
 | _=>af
def asT(hs:bE E st a){len:Nat}{parts:Array (Nat × Operand)}{z:List V}(ho:o.op = .buildSlice t len parts)(ht:P.underlying t=U (.slice e))(hn:dW P e=U k)(hz:jK P e=U z)
 (hr:parts.toList.map (·.1)=bU len) (cG:len*k<=16777216) {l:List (List V)}
 (hf:(parts.toList.map (·.2)).length=len/\l.length=len/\(∀x∈parts.toList.map (·.2),(a.eval x).cells.size=k)/\(∀y∈l,y.length=k)/\RL E.nl l.flatten ((parts.toList.map (·.2)).map λx=>(a.eval x).cells.toList).flatten/\∀v∈((parts.toList.map (·.2)).map λx=>(a.eval x).cells.toList).flatten,v.oneCell' = aa)
 (hk:∀b,st.out.box b=af->K (V.raw (.slice (U ⟨b,0,af⟩) l.length l.length)) ⟨st.t,st.aD,st.out.set b l.flatten⟩):o.wp P a E.w (dJ E a o.dst K) Q:=by
 obtain⟨k1,k2,k3,k4,k5,k6⟩:=hf;obtain⟨i,zv,h1,h2,h3,h4⟩:=sy hz;have hlen:parts.toList.length=len:=by simpa using k1
 let ps:List (Nat × Value):=parts.toList.map λ(i,x)=>(i,a.eval x)
 have K_:ps.map (·.1)=List.range' 0 ps.length:=by
  have:ps.map (·.1)=parts.toList.map (·.1):=by simp[ps,vq]
  rw[this,hr,tX];congr 1;simp[ps];simpa using hlen.symm
 have La:(ps.map λp=>p.2.cells.toList)=(parts.toList.map (·.2)).map λx=>(a.eval x).cells.toList:=by simp[ps,vq]
 have dp:∀p∈ps,p.2.cells.size=k:=λp hp=>by
  simp only[ps,tW] at hp;obtain⟨q,hq,rfl⟩:=hp;exact k3 q.2 (tW.2 ⟨q,hq,rfl⟩)
 have n9:ps.length=len:=by simp[ps];simpa using hlen
 have fill:∀cells:Array Value,cells.size=len*k->Instr.fill (λi=>U (i*k,k)) cells ps=U ((parts.toList.map (·.2)).map λx=>(a.eval x).cells.toList).flatten.toArray:=λcells hc=>by
  have:=JN ps 0 cells K_ dp (by rw[n9];simpa using hc)
  rw[this,La];simp
 generalize rT:((parts.toList.map (·.2)).map λx=>(a.eval x).cells.toList).flatten=news at fill k5 k6;refine Om hs (w1:=E.w) (Ext.refl _) rfl (x:=.slice (U ⟨E.w.heap.size,0,af⟩) len len) (v:=λb=>.raw (.slice (U ⟨b,0,af⟩) l.length l.length)) (zs:=l.flatten) (c:=news.toArray) (e:=e) ?_ (by simpa using k5) (by simp only[R,k2]) rfl hk;have iN:(zeroValue e).run P E.w = .ok zv E.w:=by simp[zeroValue,typeInfo,h1,h2]
 have Dz:(parts.map λ(i,x)=>(i,a.eval x)).toList=ps:=by simp[ps]
 have xQ : ¬(16777216<len*k):=by omega
 simp only[execOp,ho,Sem.run_bind];have key:(Instr.buildSlice t len (parts.map λ(i,x)=>(i,a.eval x))).run P E.w = .ok (.slice (U ⟨E.w.heap.size,0,af⟩) len len) (E.w.alloc (.cells news.toArray e)):=by
  unfold Instr.buildSlice;simp only[Sem.run_bind,run_underlying ht,Result.andThen_ok,ny hn];rw[aC (by simpa using xQ)];rw[Dz]
  by_cases h0:len*k=0
  .rw[aE h0];simp only[Sem.run_bind,Sem.run_pure,Result.andThen_ok];rw[fill _ (by simp)];simp[newRow]
  .rw[aC h0];simp only[Sem.run_bind,iN,Result.andThen_ok,Sem.run_pure];rw[fill _ (by simp)];simp[newRow]
 rw[key];rfl
variable{ao:aI}
def anN(hl:Mi P o=U ao)(hs:bE E st a)(h:ao.ba P st K):o.wp P a E.w (dJ E a o.dst K) Q:=by
 have X:=λ{t:TypeId} {x:Operand} {y:X} (hx:cw P t x=U y)=>mG (E:=E) (st:=st) (a:=a) hs.slot hx
 unfold Mi at hl;split at hl
 .rename_i t x lo hi ho;split at hl
  case h_2=>simp at hl
  rename_i y mF db h1 h2 h3;have hx:=X h1;split at hl
  .rename_i m e ht;simp only[c7] at hl;obtain⟨k,hk,rfl⟩:=hl;simp only[aI.ba,cX] at h;unfold OQ.ba at h;split at h<;>try (exfalso;simp_all;done)
   .rename_i m0 k0 b1 b2 b off vs e1 e2;simp only[OQ.HV.injEq] at e1;obtain⟨rfl,rfl,rfl,rfl⟩:=e1;simp only[gz] at e2;obtain⟨e2,rfl⟩:=e2;rw[e2] at hx;simp only[R] at hx;rw[FW] at h;obtain⟨l,h,g1⟩:=y2 h;rw[<-eD (cX st db.toList)] at h;obtain⟨hh,h,g2⟩:=y2 h;obtain⟨_,k1,k2,h⟩:=h;have hb:=apX (P:=P) hs h2 h3 g1 g2 k1 k2;refine cR hs (v:=.raw _) (x:=.slice (U (if m=l then ⟨b,off,af⟩ else ⟨b,off+l*k,af⟩)) (hh - l) (m - l)) ?_ (by simp only[R]) h;simp only[execOp,ho,Sem.run_bind,hx];simp[Instr.sliceAt,run_underlying ht,Instr.sureAddr,hb,ny hk,mr]
  .rename_i e ht;split at hl
   case isFalse=>simp at hl
   rename_i hk;simp only[aZ] at hl;subst hl;simp only[aI.ba,cX] at h;unfold OQ.ba at h;split at h<;>try (exfalso;simp_all;done)
   .rename_i k0 b1 b2 b off n cap vs e1 e2;simp only[OQ.gu.injEq] at e1;obtain⟨rfl,rfl,rfl⟩:=e1;simp only[gz] at e2;obtain⟨e2,rfl⟩:=e2;rw[e2] at hx;simp only[R] at hx;rw[FW] at h;obtain⟨l,h,g1⟩:=y2 h;rw[<-eD (cX st db.toList)] at h;obtain⟨hh,h,g2⟩:=y2 h;obtain⟨_,k1,k2,_,cs,zo,hlen,fL,n8,h⟩:=h;have hb:=Nu (P:=P) (mx:=none) (mx' := af) (M:=cap) hs h2 h3 rfl (by simp) g1 g2 rfl k1 k2 (bP _);obtain⟨hf,dj,hc⟩:=ahr hs zo;unfold Oper.wp;rw[show(execOp a.eval o).run P E.w = .ok (.value (.slice (if cap=l then U ⟨b,off,af⟩ else U ⟨b,off+l,af⟩) (hh - l) (cap - l))) E.w by
     simp only[execOp,ho,Sem.run_bind,hx];simp only[Option.map_none] at hb;simp[Instr.sliceAt,run_underlying ht,Instr.slice,hb,ny hk,mr]]
    refine⟨E.gu b,_,_,⟨st.t,st.aD,st.out.del b⟩,rfl,hf,dj,?_,rfl,h⟩;have fE:(A4 (((cs.drop off).take hh).drop l)).length=hh - l:=by simp[A4];omega
    simp only[R];refine⟨_,_,by rw[fE],by rw[fE];omega,?_,trivial⟩
    by_cases hz:hh=l
    .left;exact jv.1 (by rw[fE];omega)
    .right;refine⟨b,off+l,by rw[aC (by omega)],?_⟩;have key:∀(xs:List V) (p:Nat),(∀(j:Nat) x,xs[j]?=U x->cs[p+j]?=U x)->cC xs=aa->gq (E.gu b).nl 1 (A4 xs) b p:=by
      intro xs;induction xs with
      | nil=>intro p _ _;simp[A4,gq]
      | cons x xs ih =>
       intro p hp Dv;simp only[cC,bC] at Dv;simp only[A4,b8,gq,dZ];obtain⟨v,v1,v2,v3⟩:=hc p x (by have:=hp 0 x rfl;simpa using this);refine⟨rfl,⟨⟨v,v1,v2,yg (E:=(E.gu b).nl) (xs:=[x]) (vs:=[v]) (by simp only[RL];exact⟨v3,trivial⟩) (by simp[cC,Dv.1]) v (by simp),by simpa using v3⟩,trivial⟩,?_⟩;refine ih (p+1) (λj y hy=>?_) Dv.2
       have:=hp (j+1) y (by simpa using hy)
       rwa [show p+1+j=p+(j+1) by omega]
     refine key _ _ (λj x jC => ?_) fL;rw[tV,yN (by
      have:=(fg.1 jC).1
      simp at this;omega),tV] at jC
     rwa [show off+l+j=off+(l+j) by omega]
  .simp at hl
 .rename_i t len ps ho;split at hl
  case h_2=>simp at hl
  rename_i e ht;split at hl
  case h_2=>simp at hl
  rename_i k z xs hk hz pF;split at hl
  case isFalse=>simp at hl
  rename_i hc;simp only[aZ] at hl;subst hl;simp only[aI.ba] at h;unfold OQ.ba at h;split at h<;>try (exfalso;simp_all;done)
  .rename_i k0 vs e1;simp only[OQ.new.injEq] at e1;subst e1;obtain⟨l,h1,qh,h2⟩:=h;exact asT hs ho ht hk hz hc.1 hc.2 (LS (E:=E) hs.slot pF h1) h2
 .rename_i src dst x ho;split at hl
  case h_2=>simp at hl
  rename_i e y h1 h2 h3;split at hl
  case h_2=>simp at hl
  rename_i h4;simp only[aZ] at hl;subst hl;have hx:=X h3;simp only[aI.ba,cX] at h;unfold OQ.ba at h;split at h<;>try (exfalso;simp_all;done)
  .rename_i base n cap e1 e2;simp only[gz,ij] at e2;rw[e2] at hx;simp only[R] at hx;obtain⟨s,ht,h⟩:=h;refine cR hs (v:=.aF s) (x:=.string ⟨s.toArray⟩) ?_ (by simp only[R]) h;have key:(Conv.bytesToString (a.eval x)).run P E.w = .ok (.string ⟨s.toArray⟩) E.w:=by
    rw[hx]
    rcases Vy (P:=P) hs.ok ht rfl with ⟨rfl,rfl⟩ | ⟨b,off,rfl,hr⟩
    .cases base with
     | none=>simp[Conv.bytesToString];rfl
     | some ad =>
      have:=run_bytesToString (P:=P) E.w ad 0 cap [] (by simp[loadCells,loadCellsFrom])
      simp at this ⊢;exact this
    .rw[show nH s=(s.map λb=>(b.toNat:Int)).map (Value.int .u8) by simp[nH]] at hr
     have:=run_bytesToString (P:=P) E.w ⟨b,off,af⟩ n cap _ hr
     rw[this];have hp:=M1 s [];simp only[gd] at hp;exact gX (λz=>Result.ok (Value.string z) E.w) hp
   rw[hx] at key;simp only[execOp,ho,Sem.run_bind,hx];simp[convert,run_underlying h1,run_underlying h2,run_underlying h4,key]
 .rename_i c ho;obtain⟨callee,args,argTypes⟩:=c;simp only at hl;split at hl
  .split at hl
   case h_2=>simp at hl
   rename_i t u s x ht hx;have e1:argTypes=#[t,u]:=by cases argTypes;simpa using ht
   have e2:args=#[s,x]:=by cases args;simpa using hx
   subst e1;subst e2;split at hl
   case h_2=>simp at hl
   rename_i e s' x' hu dj jC;split at hl
   case h_2=>simp at hl
   rename_i i z hi hz;split at hl
   case isFalse=>simp at hl
   rename_i hc;obtain⟨pA,mA⟩:=hc;obtain⟨i',z',q1,q2,q3,q4⟩:=sy hz;obtain rfl:i=i' := by rw[hi] at q1;simpa using q1
   have iN:z'.cells.size=i.size:=by have:=fI (qH (E:=E) q3);simp at this;omega
   have uN:=X dj;have fM:=X jC;split at hl
   .rename_i zF;simp only[aZ] at hl;subst hl;simp only[aI.ba,cX] at h;unfold OQ.ba at h;split at h<;>try (exfalso;simp_all;done)
    .rename_i base n cap sx e1 e2;simp only[gz,ij] at e2;obtain⟨e2,e3⟩:=e2;rw[e2] at uN;rw[e3] at fM;simp only[R] at uN fM;obtain⟨news,g1,g2,g3,g4⟩:=WM (P:=P) (E:=E.nl) (w:=E.w) zF sx;refine Ol hs hu hi q2 iN mA (ty:=o.type) (base:=base) (n:=n) (cap:=cap) (u:=u) (vx:=a.eval x) (m:=de sx) (news:=news) ?_ ?_ g2 g3 ?_ ?_
     .simp[execOp,ho,resolve,invoke,builtin,uN]
     .rw[pA,fM];exact g1
     .rw[pA];exact g4
     .rw[pA];exact h
   .rename_i e' zF;simp only[aZ] at hl;subst hl;simp only[aI.ba,cX] at h;unfold OQ.ba at h;split at h<;>try (exfalso;simp_all;done)
    .rename_i base n cap ZE n' nR e1 e2;simp only[gz,ij] at e2;obtain⟨e2,e3⟩:=e2;rw[e2] at uN;rw[e3] at fM;simp only[R] at uN fM;obtain⟨sx,hr,h⟩:=h;obtain⟨g1,g2,g3,g4⟩:=aqQ (P:=P) (cap:=nR) hs.ok hr zF;refine Ol hs hu hi q2 iN mA (ty:=o.type) (base:=base) (n:=n) (cap:=cap) (u:=u) (vx:=a.eval x) (m:=de sx) (news:=nH sx) ?_ ?_ g2 g3 ?_ ?_
     .simp[execOp,ho,resolve,invoke,builtin,uN]
     .rw[pA,fM];exact g1
     .rw[pA];exact g4
     .rw[pA];exact h
   .simp at hl
  .simp at hl
 .simp at hl
variable{ty:TypeId}
def Xw(hs:bE E st a){i:TypeInfo}(ht:P.underlying t=U (.slice e))(hi:P.info? e=U i){n:Nat}{vx:Value}{xs:List V}
 (cT:(execOp a.eval o).run P E.w=((Builtin.copy_ #[t,u] ty #[.slice base n cap,vx]).run P E.w).andThen λv w' => .ok (.value v) w')
 {len:Nat} (hlen:(Builtin.lenOf vx).run P E.w = .ok len E.w) (hm:min len n=m) {news:List Value} (n5:(Builtin.firstCells i.size m vx).run P E.w = .ok news.toArray E.w)
 (rT:RL E.nl xs news) (fL:∀v∈news,v.oneCell' = aa) (cG:news.length=m*i.size)
 (hk:AN st.out i.size base m xs λv Z=>K v ⟨st.t,st.aD,Z⟩):o.wp P a E.w (dJ E a o.dst K) Q:=by
 obtain⟨Dm,rN⟩:=hk;have hm:Nat.min len n=m:=hm
 by_cases h0:m=0
 .subst h0
  have:news=[]:=sz (by simpa using cG)
  subst this;refine cR hs (v:=.int .i64 0) (x:=.int .i64 0) ?_ (by simp only[R]) (Dm rfl);rw[cT];cases base<;>simp[Builtin.copy_,run_underlying ht,sizeOf,typeInfo,hi,hlen,hm,n5,storeCells,goInt]
 .obtain⟨b,off,cs,rfl,nZ,n6,hK⟩:=rN h0;obtain⟨dv,c,e',eX,hln,hc⟩:=hs.ok.box b cs nZ;have eX:E.w.heap[b]?=U (.cells c e' (0,0)):=eX;have we:=fI rT;have KK : off+news.length<=c.size:=by omega
  have ec:=run_storeCells_at (P:=P) b off e' news 0 c E.w eX (by simpa using KK) fL;simp only[wZ] at ec;have jl:(Builtin.copy_ #[t,u] ty #[.slice (U ⟨b,off,af⟩) n cap,vx]).run P E.w = .ok (.int .i64 m) (E.w.setRow b (c.toList.take off++news++c.toList.drop (off+news.length)).toArray):=by
   simp[Builtin.copy_,run_underlying ht,sizeOf,typeInfo,hi,hlen,hm,n5,ec,goInt]
  have bf:=F7 (E:=E) (new:=(c.toList.take off++news++c.toList.drop (off+news.length)).toArray) eX (.inr dv) (by simp;omega);have hle:=bf.le λ_ _ h=>h
  have gw:=setRow_heap E.w b c (c.toList.take off++news++c.toList.drop (off+news.length)).toArray e' _ eX;have zo:=FB (E' := Env.nl {E with w:=E.w.setRow b (c.toList.take off++news++c.toList.drop (off+news.length)).toArray}) hln
   (λj x hj=>let ⟨u,h1,h2⟩:=hc j x hj;⟨u,h1,h2.mono _ bf.nl⟩) (RL.mono _ bf.nl rT) (by omega) gw
  generalize (c.toList.take off++news++c.toList.drop (off+news.length)).toArray=new at jl gw bf hle zo;have jY : ∀b',b' ≠ b->(E.w.setRow b new).heap[b']?=E.w.heap[b']?:=λb' aX=>setRow_other E.w b b' new aX
  unfold Oper.wp;rw[cT,jl];refine⟨{E with w:=E.w.setRow b new},.int .i64 m,.int .i64 m,⟨st.t,st.aD,st.out.set b (setAt cs off xs)⟩,rfl,bf,⟨⟨?_,hs.ok.aK,λb' b9 => hs.ok.fresh b' (by simpa using b9),hs.ok.nt,λb cs hc=>dZ.mono _ bf.nl (hs.ok.bY b cs hc)⟩,
   pK hs.cV hle (λb' i hr _=>⟨hr,jY b' (by rintro rfl;rw[dv] at hr;simp at hr)⟩) hs.cV.none,hs.defers,RL.mono _ hle hs.slot⟩,by simp only[R],rfl,hK⟩
  intro b' cs' xE;simp only[ag.set] at xE;split at xE
  .rename_i e2;subst e2;simp only[aZ] at xE;subst xE;exact⟨dv,zo⟩
  .rename_i aX;obtain⟨h1,h2⟩:=hs.ok.box b' cs' xE;exact⟨h1,h2.mono bf.nl (jY b' aX)⟩
def abx(b_:E.ok st.out){n:Nat}{xs:List V}(h:OI st.out base n xs):∃news:List Value,news.length=n/\RL E.nl xs news/\(∀v∈news,v.oneCell' = aa) /\
 ∀(k m len cap:Nat),m*k=n->(Builtin.firstCells k m (.slice base len cap)).run P E.w = .ok news.toArray E.w:=by
 rcases h with ⟨rfl,rfl⟩ | ⟨b,o,cs,rfl,hb,hl,rfl,h1⟩
 .refine⟨[],rfl,by simp[RL],by simp,λk m len cap e=>?_⟩;cases base with
  | none=>simp[Builtin.firstCells]
  | some ad=>simp[Builtin.firstCells,e,loadCells,loadCellsFrom]
 .obtain⟨_,c,e,hc,hlen,n5⟩:=b_.box b cs hb;have hc:E.w.heap[b]?=U (.cells c e (0,0)):=hc;have fE:RL E.nl ((cs.drop o).take n) ((c.toList.drop o).take n):=by
   refine CA (by simp;omega) λj x u hx hu=>?_
   have hj:j<n:=by have:=(fg.1 hx).1;simp at this;omega
   rw[yN hj,tV] at hx;rw[yN hj,tV] at hu;obtain⟨v,h1,h2⟩:=n5 (o+j) x hx
   have:v=u:=by simp at hu;rw[hu] at h1;simpa using h1.symm
   exact this▸h2
  have kR:((c.toList.drop o).take n).length=n:=by simp;omega
  refine⟨(c.toList.drop o).take n,kR,fE,yg fE h1,λk m len cap e2=>?_⟩
  have:=run_loadCells_list (P:=P) E.w ⟨b,o,af⟩ ((c.toList.drop o).take n) (λj v hv=>by
   have hj:j<n:=by have:=(fg.1 hv).1;omega
   rw[mr];rw[yN hj,tV] at hv;simpa [World.cell?,hc] using hv)
  rw[kR] at this;simp only[Builtin.firstCells,e2];exact this
def Mf(P:Program)(o:Oper):Option aI :=
 match o.op with
 | .index t x i =>
  match P.underlying t,cw P t x,cw P t i with
  | some (.array m e), U y, U z =>
   match gJ P e,dW P e with
   | some ak,U 1=>U (.own (.GU m) [y,z])
   | _,_=>af
  | _,_,_=>af
 | .binOp op t x y _ =>
  match P.underlying t,cw P t x,cw P t y with
  | some (.pointer _),U x',U y' => match op with | .eql=>U (.qK ak x' y') | .neq=>U (.qK aa x' y') | _=>af
  | _,_,_=>af
 | .unOp .neg t x=>match P.underlying t,cw P t x with | some (.int k),U y=>U (.ek .sub (.c (.int k 0)) y) | _,_=>af
 | .unOp .xor t x=>match P.underlying t,cw P t x with | some (.int k),U y=>U (.ek .xor (.c (.int k (if k.signed then -1 else k.max))) y) | _,_=>af
 | .call c =>
  match c.callee with
  | .builtin .min =>
   match c.argTypes.toList,c.args.toList with
   | [t,u],[x,y]=>match P.underlying t,cw P t x,cw P u y with | some (.int _),U x',U y' => U (.own .min [x',y']) | _,_,_=>af
   | _,_=>af
  | .builtin .max =>
   match c.argTypes.toList,c.args.toList with
   | [t,u],[x,y]=>match P.underlying t,cw P t x,cw P u y with | some (.int _),U x',U y' => U (.own .max [x',y']) | _,_,_=>af
   | _,_=>af
  | .builtin .copy =>
   match c.argTypes.toList,c.args.toList with
   | [t, u], [x, y] =>
    match P.underlying t,P.underlying u,cw P t x,cw P u y with
    | some (.slice e),U (.slice e'),U x',U y' => match P.info? e with | some i=>if e=e' /\ 0<i.size then U (.own (.A7 i.size) [x',y']) else af | none=>af
    | _,_,_,_=>af
   | _,_=>af
  | _=>af
 | _=>af
variable{x:Operand}
def Xx(hs:bE E st a){neg:Bool}{op:BinOp}(l8:op=if neg then .neq else .eql){t':TypeId}(ht:P.underlying t=U (.pointer e)){y:Operand}{vx vy:V}(ho:o.op = .binOp op t x y t')(hx:R E vx (a.eval x))(hy:R E vy (a.eval y))
 (hk:match (generalizing:=false) isNil vx,vy with | some g,.fV=>K (.bool (if neg then !g else g)) st | _,_=>False):o.wp P a E.w (dJ E a o.dst K) Q:=by
 split at hk
 case h_2=>exact hk.elim
 rename_i g hg;have hp:P.underlying t=U (.pointer (P.pointee t)):=by rw[ht];simp[Program.pointee,ht]
 obtain⟨p,hv,qe⟩:∃p,a.eval x = .pointer p/\p.isNone=g:=by
  unfold isNil at hg;split at hg
  .simp only[R] at hx;exact⟨af,hx,by simpa using hg⟩
  .rename_i q off;cases q with
   | aD i=>simp only[R] at hx;obtain⟨b,_,h⟩:=hx;exact⟨_,h,by simpa using hg⟩
   | out b=>simp only[R] at hx;exact⟨_,hx,by simpa using hg⟩
   | jT b=>simp only[R] at hx;exact⟨_,hx,by simpa using hg⟩
  .simp at hg
 simp only[R] at hy;subst l8;subst qe;cases neg
 .refine cR hs (x:=.bool p.isNone) ?_ (by simp[R]) hk;simp only[execOp,ho,hv,hy];simp[eqGuard,run_eql_pointer_nil E.w t p hp]
 .refine cR hs (x:=.bool (!p.isNone)) ?_ (by simp[R]) hk;simp only[execOp,ho,hv,hy];simp[eqGuard,run_neq_pointer_nil E.w t p hp]
def alO(hl:Mf P o=U ao)(hs:bE E st a)(h:ao.ba P st K):o.wp P a E.w (dJ E a o.dst K) Q:=by
 have X:=λ{t:TypeId} {x:Operand} {y:X} (hx:cw P t x=U y)=>mG (E:=E) (st:=st) (a:=a) hs.slot hx
 unfold Mf at hl;split at hl
 .rename_i t x i ho;split at hl
  case h_2=>simp at hl
  rename_i m e y z ht hx hi;split at hl
  case h_2=>simp at hl
  rename_i hg hn;simp only[aZ] at hl;subst hl;have fM:=X hx;have Bt:=X hi;simp only[aI.ba,cX] at h;unfold OQ.ba at h;split at h<;>try (exfalso;simp_all;done)
  .rename_i m0 cs k j e1 e2;simp only[OQ.GU.injEq] at e1;subst e1;simp only[gz,ij] at e2;obtain⟨e2,e3⟩:=e2;rw[e2] at fM;rw[e3] at Bt;simp only[R] at fM Bt;obtain⟨vs,h4,h5⟩:=fM;obtain⟨g1,g2,h⟩:=h;unfold D8 at h;split at h
   .rename_i c hc;obtain⟨u,h6,h7⟩:=qC h5 j.toNat c hc;have h6' : vs[j.toNat]?=U u:=by simpa using h6
    refine cR hs (v:=c) (x:=u) ?_ h7 h.2;simp[execOp,ho,h4,Bt,Instr.index,asIntOf,run_underlying ht,g1,g2,part,An hg,ny hn,h6']
   .exact h.elim
 .rename_i op t x y t' ho;split at hl
  case h_2=>simp at hl
  rename_i e x' y' ht hx hy;split at hl
  .simp only[aZ] at hl;subst hl;exact Xx hs (neg:=false) rfl ht ho (X hx) (X hy) h
  .simp only[aZ] at hl;subst hl;exact Xx hs (neg:=true) rfl ht ho (X hx) (X hy) h
  .simp at hl
 .rename_i t x ho;split at hl
  case h_2=>simp at hl
  rename_i k y ht hx;simp only[aZ] at hl;subst hl;have hx:=X hx;simp only[aI.ba,ev,opt,K2] at h;split at h
  case h_2=>exact h.elim
  rename_i v hv;unfold ug at hv;split at hv
  case h_2=>simp at hv
  rename_i k' n k2 m e1 e2;simp only[V.int.injEq] at e1;obtain⟨rfl,rfl⟩:=e1;split at hv
  case isFalse=>simp at hv
  rename_i iw;obtain rfl:=GV (iw.resolve_right (by simp[zO]));simp only[hD,aZ] at hv;subst hv;have e2:ev st y = .int k m:=e2;rw[e2] at hx;simp only[R] at hx;refine cR hs (x:=.int k (k.wrap (0 - m))) ?_ (by simp only[R]) h;simp only[execOp,ho,hx];simp only[Op.unary,Op.intArith];simp
 .rename_i t x ho;split at hl
  case h_2=>simp at hl
  rename_i k y ht hx;simp only[aZ] at hl;subst hl;have hx:=X hx;simp only[aI.ba,ev,opt,K2] at h;split at h
  case h_2=>exact h.elim
  rename_i v hv;unfold ug at hv;split at hv
  case h_2=>simp at hv
  rename_i k' n k2 m e1 e2;simp only[V.int.injEq] at e1;obtain⟨rfl,rfl⟩:=e1;split at hv
  case isFalse=>simp at hv
  rename_i iw;obtain rfl:=GV (iw.resolve_right (by simp[zO]));simp only[hD,aZ] at hv;subst hv;have e2:ev st y = .int k m:=e2;rw[e2] at hx;simp only[R] at hx;refine cR hs (x:=.int k (k.wrap ((BitVec.ofInt k.bits (if k.signed then -1 else k.max) ^^^ BitVec.ofInt k.bits m).toNat:Nat))) ?_ (by simp only[R]) h;simp only[execOp,ho,hx];simp only[Op.unary,Op.intBits];simp
 .rename_i c ho;obtain⟨callee,args,argTypes⟩:=c;simp only at hl;split at hl
  .split at hl
   case h_2=>simp at hl
   rename_i t u x y ht hx;have e1:argTypes=#[t,u]:=by cases argTypes;simpa using ht
   have e2:args=#[x,y]:=by cases args;simpa using hx
   subst e1;subst e2;split at hl
   case h_2=>simp at hl
   rename_i k0 x' y' hu jC zI;simp only[aZ] at hl;subst hl;have fM:=X jC;have qj:=X zI;simp only[aI.ba,cX] at h;unfold OQ.ba at h;split at h<;>try (exfalso;simp_all;done)
   .rename_i k n k' m e1 e2;simp only[gz,ij] at e2;obtain⟨e2,e3⟩:=e2;rw[e2] at fM;rw[e3] at qj;simp only[R] at fM qj;obtain⟨iw,h⟩:=h;refine cR hs (v:=.int k (if m<n then m else n)) (x:=.int k (if m<n then m else n)) ?_ (by simp only[R]) h;simp[execOp,ho,resolve,invoke,builtin,Builtin.min_,Builtin.min2,fM,qj]
  .split at hl
   case h_2=>simp at hl
   rename_i t u x y ht hx;have e1:argTypes=#[t,u]:=by cases argTypes;simpa using ht
   have e2:args=#[x,y]:=by cases args;simpa using hx
   subst e1;subst e2;split at hl
   case h_2=>simp at hl
   rename_i k0 x' y' hu jC zI;simp only[aZ] at hl;subst hl;have fM:=X jC;have qj:=X zI;simp only[aI.ba,cX] at h;unfold OQ.ba at h;split at h<;>try (exfalso;simp_all;done)
   .rename_i k n k' m e1 e2;simp only[gz,ij] at e2;obtain⟨e2,e3⟩:=e2;rw[e2] at fM;rw[e3] at qj;simp only[R] at fM qj;obtain⟨iw,h⟩:=h;refine cR hs (v:=.int k (if n<m then m else n)) (x:=.int k (if n<m then m else n)) ?_ (by simp only[R]) h;simp[execOp,ho,resolve,invoke,builtin,Builtin.max_,Builtin.max2,fM,qj]
  .split at hl
   case h_2=>simp at hl
   rename_i t u x y ht hx;have e1:argTypes=#[t,u]:=by cases argTypes;simpa using ht
   have e2:args=#[x,y]:=by cases args;simpa using hx
   subst e1;subst e2;split at hl
   case h_2=>simp at hl
   rename_i e e' x' y' hu zF jC zI;split at hl
   case h_2=>simp at hl
   rename_i i hi;split at hl
   case isFalse=>simp at hl
   rename_i hc;simp only[aZ] at hl;subst hl;obtain⟨rfl,lF⟩:=hc;have fM:=X jC;have qj:=X zI;simp only[aI.ba,cX] at h;unfold OQ.ba at h;split at h<;>try (exfalso;simp_all;done)
   .rename_i k0 base n cap ZE n' nR e1 e2;simp only[OQ.A7.injEq] at e1;subst e1;simp only[gz,ij] at e2;obtain⟨e2,e3⟩:=e2;rw[e2] at fM;rw[e3] at qj;simp only[R] at fM qj;obtain⟨xs,KC,h⟩:=h;obtain⟨news,g1,g2,g3,g4⟩:=abx (P:=P) hs.ok KC;refine Xw hs (u:=u) (ty:=o.type) (vx:=a.eval y) (news:=news) (base:=base) (n:=n) (cap:=cap) hu hi ?_ (len:=n') ?_ rfl ?_ g2 g3 g1 h
    .simp[execOp,ho,resolve,invoke,builtin,fM]
    .rw[qj];simp[Builtin.lenOf]
    .rw[qj];exact g4 _ _ _ _ rfl
   .rename_i k0 base n cap tk k1 m e1 e2;simp only[OQ.A7.injEq] at e1;subst e1;simp only[gz,ij] at e2;obtain⟨e2,e3⟩:=e2;obtain⟨rfl,hle,h⟩:=h;rw[e2] at fM;rw[e3] at qj;obtain⟨news,g1,g2,g3,g4⟩:=HZ (P:=P) zF qj;simp only[R] at fM;refine Xw hs (u:=u) (ty:=o.type) (vx:=a.eval y) (news:=news) (base:=base) (n:=n) (cap:=cap) (m:=m.length) hu hi ?_ (len:=m.length) (g1.len _) (by omega) g1.cells g2 g3 g1.size h;simp[execOp,ho,resolve,invoke,builtin,fM]
  .simp at hl
 .simp at hl
def Md(P:Program)(o:Oper):Option aI :=
 match o.op with
 | .call c =>
  match c.callee with
  | .value (.func f) =>
   match P.funcs[f]?,iV P c.argTypes.toList c.args.toList with
   | some fn,U xs=>if fn.body.isNone=aa/\fn.origin = "" then(if fn.name = "internal/bytealg.CountString" then U (.own .Jm xs) else if fn.name = "internal/bytealg.IndexByteString" then U (.own .Lr xs) else af) else af
   | _,_=>af
  | _=>af
 | _=>af
def adZ(s:List UInt8)(c:UInt8):zd s c=Lib.indexByte s c:=by
 induction s with
 | nil=>rfl
 | cons b l ih=>simp only[zd,Lib.indexByte,ih]
variable{fn:Func}
def ad2(h:fn.name = "internal/bytealg.CountString")(ho:fn.origin = ""):Extern.findNext fn=af/\Extern.find fn=U Extern.BytealgCount.count:=by
 have k1:Extern.allNextRows.lookup "internal/bytealg.CountString" = none:=by kernel_rfl
 have k2:Extern.allNextRows.lookup "" = none:=by kernel_rfl
 have k3:Extern.allGenericRows.lookup "internal/bytealg.CountString" = none:=by kernel_rfl
 have k4:Extern.allTypedRows.lookup "internal/bytealg.CountString" = none:=by kernel_rfl
 have k5:Extern.allRows.lookup "internal/bytealg.CountString" = U Extern.BytealgCount.count:=by kernel_rfl
 exact⟨by simp[Extern.findNext,h,ho,k1,k2],by simp[Extern.find,h,k3,k4,k5]⟩
def ad3(h:fn.name = "internal/bytealg.IndexByteString")(ho:fn.origin = ""):Extern.findNext fn=af/\Extern.find fn=U Extern.BytealgIndexByte.indexByte:=by
 have k1:Extern.allNextRows.lookup "internal/bytealg.IndexByteString" = none:=by kernel_rfl
 have k2:Extern.allNextRows.lookup "" = none:=by kernel_rfl
 have k3:Extern.allGenericRows.lookup "internal/bytealg.IndexByteString" = none:=by kernel_rfl
 have k4:Extern.allTypedRows.lookup "internal/bytealg.IndexByteString" = none:=by kernel_rfl
 have k5:Extern.allRows.lookup "internal/bytealg.IndexByteString" = U Extern.BytealgIndexByte.indexByte:=by kernel_rfl
 exact⟨by simp[Extern.findNext,h,ho,k1,k2],by simp[Extern.find,h,k3,k4,k5]⟩
def W_{α:Type}{l:Array α}{x y:α}(h:l.toList=[x,y]):l=#[x,y]:=by cases l;simpa using h
def ady(hl:Md P o=U ao)(hs:bE E st a)(h:ao.ba P st K):o.wp P a E.w (dJ E a o.dst K) Q:=by
 unfold Md at hl;split at hl
 case h_2=>simp at hl
 rename_i c ho;obtain⟨callee,args,argTypes⟩:=c;simp only at hl;split at hl
 case h_2=>simp at hl
 rename_i f;split at hl
 case h_2=>simp at hl
 rename_i fn xs hf pF;split at hl
 case isFalse=>simp at hl
 rename_i hc;have fE:=Mk (E:=E) hs.slot pF;split at hl
 .rename_i hn;simp only[aZ] at hl;subst hl;simp only[aI.ba] at h;unfold OQ.ba at h;split at h<;>try (exfalso;simp_all;done)
  .rename_i s n e1 e2;rw[e2] at fE;obtain⟨q1,q2⟩:=ad2 hn hc.2;cases hq:args.toList.map a.eval with
   | nil=>rw[hq] at fE;simp[RL] at fE
   | cons v1 vs =>
    rw[hq] at fE;cases vs with
    | nil=>simp[RL] at fE
    | cons v2 N_ =>
     cases N_ with
     | cons _ _=>simp[RL] at fE
     | nil =>
      simp only[RL,R,ij] at fE;obtain⟨rfl,rfl⟩:=fE;have ha:args.map a.eval=#[.string ⟨s.toArray⟩,.int .u8 n]:=W_ (by simpa using hq);refine cR hs (v:=.int .i64 (s.count n.toNat.toUInt8:Nat)) (x:=.int .i64 (s.count n.toNat.toUInt8:Nat)) ?_ (by simp only[R]) h;have cT:=run_callFunc_extern (P:=P) hf (by rw[hn];decide) hc.1 q1 q2 #[.string ⟨s.toArray⟩,.int .u8 n] E.w;rw[Lib.run_countString] at cT;simp[execOp,ho,resolve,Act.eval,Deferred.ofValue,invoke,ha,cT,Lib.countByte,Result.andThen]
 .split at hl
  case isFalse=>simp at hl
  rename_i hn;simp only[aZ] at hl;subst hl;simp only[aI.ba] at h;unfold OQ.ba at h;split at h<;>try (exfalso;simp_all;done)
  .rename_i s n e1 e2;rw[e2] at fE;obtain⟨q1,q2⟩:=ad3 hn hc.2;cases hq:args.toList.map a.eval with
   | nil=>rw[hq] at fE;simp[RL] at fE
   | cons v1 vs =>
    rw[hq] at fE;cases vs with
    | nil=>simp[RL] at fE
    | cons v2 N_ =>
     cases N_ with
     | cons _ _=>simp[RL] at fE
     | nil =>
      simp only[RL,R,ij] at fE;obtain⟨rfl,rfl⟩:=fE;have ha:args.map a.eval=#[.string ⟨s.toArray⟩,.int .u8 n]:=W_ (by simpa using hq);refine cR hs (v:=.int .i64 (zd s n.toNat.toUInt8)) (x:=.int .i64 (zd s n.toNat.toUInt8)) ?_ (by simp only[R]) h;have cT:=run_callFunc_extern (P:=P) hf (by rw[hn];decide) hc.1 q1 q2 #[.string ⟨s.toArray⟩,.int .u8 n] E.w;rw[Lib.run_indexByteString] at cT;simp[execOp,ho,resolve,Act.eval,Deferred.ofValue,invoke,ha,cT,adZ,Result.andThen]
def DZ(P:Program)(h:List Nat)(o:Oper):aI :=
 match (match o.dst with | some d=>if h.contains (d+100000)=aa then Mi P o else af | none=>af) with
 | some x=>x
 | none => match (match Md P o with | some x => U x | none => Mg P h o) with
  | some x=>x
  | none => match Mf P o with
   | some x=>x
   | none=>.own .aG []
def alf{h:List Nat}(hs:bE E st a)(hk:(DZ P h o).ba P st K):o.wp P a E.w (dJ E a o.dst K) Q:=by
 unfold DZ at hk;split at hk
 .rename_i x hx;split at hx
  .split at hx
   .exact anN hx hs hk
   .simp at hx
  .simp at hx
 .split at hk
  .rename_i x hx;split at hx
   .rename_i y hy;simp only[aZ] at hx;subst hx;exact ady hy hs hk
   .exact alg hx hs hk
  .split at hk
   .rename_i x hx;exact alO hx hs hk
   .simp only[aI.ba,cX] at hk;unfold OQ.ba at hk;simp at hk
def T8(P:Program)(h:List Nat)(ops:Array Oper)(o:Oper):Option AO :=
 match o.guard with
 | none=>U ⟨o.dst,DZ P h o,af⟩
 | some (j, want) =>
  match (ops[j]?).bind (·.dst) with
  | some g=>U ⟨o.dst,DZ P h o,U (g,want)⟩
  | none=>af
def zW(P:Program)(h:List Nat)(ops:Array Oper):List Oper->Option (List AO)
 | []=>U []
 | o::os=>(T8 P h ops o).bind λx=>(zW P h ops os).map (x::·)
end
variable{s:ByteArray}{t:TypeId}{w:World}
def apZ(h:P.underlying t=U .string):(Instr.range t (.string s)).run P w = .ok (.pointer (U ⟨w.heap.size,0,af⟩)) (w.alloc (.stringIter s 0)):=by
 simp[Instr.range,run_underlying h]
def jq(w:World)(b:Nat)(o:Obj):World:={w with heap:=w.heap.setIfInBounds b o}
variable{p:Nat}
def V6(h:w.heap[b]?=U (.stringIter s p)):(getObj b).run P w = .ok (.stringIter s p) w:=by
 simp only[getObj,Sem.run,h]
variable{o:Obj}
def ap0(h:w.heap[b]?=U (.stringIter s p)):(setObj b o).run P w = .ok () (jq w b o):=by
 simp only[setObj,Sem.run,h];rfl
def run_next_end(h:w.heap[b]?=U (.stringIter s p))(hp:¬p<s.size):(Instr.next (.pointer (U ⟨b,0,af⟩)) aa t).run P w = .ok (.tuple #[.bool ak]) w:=by
 unfold Instr.next;simp only[Sem.run_bind,V6 h,Result.andThen,hp,cn];rfl
def apY(h:w.heap[b]?=U (.stringIter s p))(hp:p<s.size)(hc:(s.get! p).toNat<128):(Instr.next (.pointer (U ⟨b,0,af⟩)) aa t).run P w = .ok (.tuple #[.bool aa,.int .i64 p,.int .i32 (s.get! p).toNat]) (jq w b (.stringIter s (p+1))):=by
 have hd:Utf8.decode s p=((s.get! p).toNat,1):=by simp[Utf8.decode,hc]
 unfold Instr.next;simp only[Sem.run_bind,V6 h,Result.andThen,hp,cD,hd,ap0 h];rfl
def yp{b':Nat}(h:b' ≠ b):(jq w b o).heap[b']?=w.heap[b']?:=by
 simp only[jq];rw[XP];simp[fi h]
def Wy{o':Obj}(h:w.heap[b]?=U o'):(jq w b o).heap[b]?=U o:=by
 obtain⟨h1,_⟩:=kG.1 h;simp only[jq];rw[XP];simp[h1]
def Wz:(jq w b o).heap.size=w.heap.size:=by simp[jq]
def Wx{b':Nat}(h:b' ≠ b):(jq w b o).cell? ⟨b',i,af⟩=w.cell? ⟨b',i,af⟩:=by
 simp only[World.cell?,yp h]
def Env.jq(E:Env)(b:Nat)(o:Obj):Env:={E with w:=Go.Am.jq E.w b o}
def Env.aqo(hr:E.a7 b = .l6):E.le (E.jq b o):=by
 refine⟨λb' i c hc hv=>⟨hc,?_⟩,λ_ _ h=>h,λt n h=>⟨n,h,bP _,λ_ b' c b9 => ⟨b9,λcs e bR=>⟨cs,?_,rfl⟩⟩⟩⟩
 .have aX:b' ≠ b:=λe=>by rw[e,hr] at hc;exact hc
  exact(Wx aX).trans hv
 .have aX:b' ≠ b:=λe=>by rw[e,hr] at b9;simp at b9
  exact(yp aX).trans bR
def bE.jq(hr:E.a7 b = .l6)(hs:bE E st a):bE (E.jq b o) st a:=by
 have hle:=Env.aqo (o:=o) hr;refine⟨⟨λb' cs h=>?_,hs.ok.aK,λb' h=>hs.ok.fresh b' (by rw[<-Wz (b:=b) (o:=o)];exact h),hs.ok.nt,λb cs hc=>dZ.mono _ hle.nl (hs.ok.bY b cs hc)⟩,⟨λi cs h=>?_,hs.cV.none⟩,hs.defers,RL.mono _ hle hs.slot⟩
 .obtain⟨h1,h2⟩:=hs.ok.box b' cs h;have aX:b' ≠ b:=λe=>by rw[e,hr] at h1;simp at h1
  exact⟨h1,jc.mono hle.nl (yp aX) h2⟩
 .obtain⟨b',h1,h2,h3⟩:=hs.cV.box i cs h;have aX:b' ≠ b:=λe=>by rw[e,hr] at h2;simp at h2
  exact⟨b',h1,h2,jc.mono hle (yp aX) h3⟩
def Fr.jq{E0:Env}{q:Nat}(hf:Fr E0 E)(hr:E.a7 b = .l6)(hn:E0.w.heap.size<=b)(hb:E.w.heap[b]?=U (.stringIter s p)):Fr E0 (E.jq b (.stringIter s q)):=by
 refine⟨hf.os,hf.output,hf.tape,by rw[show(E.jq b (.stringIter s q)).w.heap.size=E.w.heap.size from Wz];exact hf.size,λa=>?_,λb' i c hc hv=>?_,λt n h=>?_,λb' aB h=>?_,hf.CH,hf.CJ,hf.A0,λb' c e h=>by
  obtain⟨c',h1,h2⟩:=hf.shape b' c e h;have aX:b' ≠ b:=λe=>by rw[e,hb] at h1;simp at h1
  exact⟨c',(yp aX).trans h1,h2⟩⟩
 .rw[<-hf.gu a]
  by_cases e:a.block=b
  .have e1:(E.jq b (.stringIter s q)).w.heap[a.block]?=U (.stringIter s q):=by rw[e];exact Wy hb
   rw[<-e] at hb;simp only[World.frozen?,e1,hb]
  .simp only[World.frozen?,show(E.jq b (.stringIter s q)).w.heap[a.block]?=E.w.heap[a.block]? from yp e]
 .obtain⟨h1,h2⟩:=hf.cell b' i c hc hv;have aX:b' ≠ b:=λe=>by rw[e,hr] at h1;exact h1
  exact⟨h1,(Wx aX).trans h2⟩
 .obtain⟨n',h1,h2,h3⟩:=hf.tok t n h;refine⟨n',h1,h2,λe b' c b9 => ?_⟩;obtain⟨h4,h5⟩:=h3 e b' c b9;refine⟨h4,λcs e' bR=>?_⟩;obtain⟨cs',h6,h7⟩:=h5 cs e' bR;have aX:b' ≠ b:=λe=>by rw[e,hr] at h4;simp at h4
  exact⟨cs',(yp aX).trans h6,h7⟩
 .obtain⟨h1,h2⟩:=hf.same b' aB h;have aX:b' ≠ b:=by omega
  exact⟨(yp aX).trans h1,h2⟩
def Env.mc(E:Env)(o:Obj):Env:={w:=E.w.alloc o,a7:=λb=>if b=E.w.heap.size then .l6 else E.a7 b,aD:=E.aD,aK:=E.aK}
def al2(hs:bE E st a):Fr E (E.mc (.stringIter s p))/\bE (E.mc (.stringIter s p)) st a/\(E.mc (.stringIter s p)).a7 E.w.heap.size = .l6/\(E.mc (.stringIter s p)).w.heap[E.w.heap.size]?=U (.stringIter s p):=by
 have hold:∀b,b<E.w.heap.size->(E.mc (.stringIter s p)).w.heap[b]?=E.w.heap[b]?:=λb hb=>heap_alloc_old E.w (.stringIter s p) hb
 have dv:∀b,b<E.w.heap.size->(E.mc (.stringIter s p)).a7 b=E.a7 b:=λb hb=>by simp only[Env.mc];rw[aC (by omega)]
 have gw:(E.mc (.stringIter s p)).w.heap[E.w.heap.size]?=U (.stringIter s p):=heap_alloc_new E.w _;have Bn:∀b i c,E.w.cell? ⟨b,i,af⟩=U c->b<E.w.heap.size:=λb i c h=>by
  simp only[World.cell?] at h;split at h
  .rename_i h1;exact(kG.1 h1).1
  .simp at h
 have KA:∀b i,b<E.w.heap.size->(E.mc (.stringIter s p)).w.cell? ⟨b,i,af⟩=E.w.cell? ⟨b,i,af⟩:=λb i hb=>by simp only[World.cell?,hold b hb]
 have bf:Fr E (E.mc (.stringIter s p)):=by
  refine⟨rfl,rfl,rfl,by simp[Env.mc],λa=>?_,λb i c hc hv=>?_,λt n h=>⟨n,h,bP _,λ_ b c hb=>?_⟩,λb hb _=>⟨hold b hb,dv b hb⟩,λb hb h=>?_,λb t c hb h=>?_,λb i hb h=>?_,λb c e h=>⟨c,(hold b (kx h)).trans h,rfl⟩⟩
  .by_cases h:a.block<E.w.heap.size
   .simp only[World.frozen?,hold _ h]
   .by_cases h2:a.block=E.w.heap.size
    .have e2:E.w.heap[a.block]?=none:=by simp;omega
     rw[<-h2] at gw;simp only[World.frozen?,gw,e2]
    .have e2:E.w.heap[a.block]?=none:=by simp;omega
     have e1:(E.mc (.stringIter s p)).w.heap[a.block]?=none:=by simp[Env.mc];omega
     simp only[World.frozen?,e1,e2]
  .have hb:=Bn b i c hv;exact⟨by rw[dv b hb];exact hc,(KA b i hb).trans hv⟩
  .by_cases aB:b<E.w.heap.size
   .exact⟨(dv b aB).trans hb,λcs e bR=>⟨cs,(hold b aB).trans bR,rfl⟩⟩
   .have:=hs.ok.fresh b (by omega)
    rw[this] at hb;simp at hb
  .rw[dv b hb] at h;exact .inl h
  .rw[dv b hb] at h;exact⟨c,h⟩
  .rw[dv b hb] at h;exact⟨i,h⟩
 have hle:E.le (E.mc (.stringIter s p)):=bf.le λi b h=>h
 refine⟨bf,⟨⟨λb cs h=>?_,hs.ok.aK,λb hb=>?_,hs.ok.nt,λb cs hc=>dZ.mono _ bf.nl (hs.ok.bY b cs hc)⟩,⟨λi cs h=>?_,hs.cV.none⟩,hs.defers,RL.mono _ hle hs.slot⟩,by simp[Env.mc],gw⟩
 .obtain⟨h1,h2⟩:=hs.ok.box b cs h;have aB:b<E.w.heap.size:=by obtain⟨c,e,h3,_⟩:=h2;exact kx (w:=E.w) h3
  exact⟨by rw[dv b aB];exact h1,jc.mono hle.nl (hold b aB) h2⟩
 .have b9 : E.w.heap.size+1<=b:=by simpa [Env.mc] using hb
  simp only[Env.mc];rw[aC (by omega)];exact hs.ok.fresh b (by omega)
 .obtain⟨b,h1,h2,h3⟩:=hs.cV.box i cs h;have aB:b<E.w.heap.size:=by obtain⟨c,e,h4,_⟩:=h3;exact kx (w:=E.w) h4
  exact⟨b,h1,by rw[dv b aB];exact h2,jc.mono hle (hold b aB) h3⟩
def mS(o:Oper):Option (Nat × TypeId):=match o.op,o.dst,o.guard with | .alloc t,U d,af=>U (d,t) | _,_,_=>af
def mT(o:Oper):Option (Nat × TypeId × Operand):=match o.op,o.dst,o.guard with | .store t (.tmp d) x,af,af=>U (d,t,x) | _,_,_=>af
def N8{o:Oper}(h:mS o=U (d,t)):o.op = .alloc t/\o.dst=U d/\o.guard=none:=by
 unfold mS at h;split at h
 .rename_i h1 h2 h3;simp only[aZ,nN] at h;obtain⟨rfl,rfl⟩:=h;exact⟨h1,h2,h3⟩
 .simp at h
variable{x:Operand}
def Xe{o:Oper}(h:mT o=U (d,t,x)):o.op = .store t (.tmp d) x/\o.dst=af/\o.guard=none:=by
 unfold mT at h;split at h
 .rename_i h1 h2 h3;simp only[aZ,nN] at h;obtain⟨rfl,rfl,rfl⟩:=h;exact⟨h1,h2,h3⟩
 .simp at h
def isVar(ops:Array Oper)(d:Nat)(t:TypeId):Bool:=ops.toList.any λo=>match mS o with | some (d',t')=>d' == d&&t' == t | none=>ak
def DX(P:Program)(ops:Array Oper)(o:Oper):Option AO :=
 match mS o with
 | some (_,t)=>match jK P t,dW P t with | some z,U n=>if z.length=n then U ⟨af,.mv (.c .any),af⟩ else af | _,_=>af
 | none =>
  match mT o with
  | some (d,t,x)=>if isVar ops d t=aa then(match dW P t,cw P t x with | some n,U y=>U ⟨U d,.uh n y,af⟩ | _,_=>af) else th P ops o
  | none=>th P ops o
def BP(P:Program)(ops:Array Oper):List Oper->Option (List AO)
 | []=>U []
 | o::os=>(DX P ops o).bind λx=>(BP P ops os).map (x::·)
def Jh(ops:Array Oper)(b:List Nat):Bool :=
 ops.toList.zipIdx.all λ(o,i)=>match mS o with
  | some (d,t)=>(ops.toList.zipIdx.any λ(o',j)=>match mT o' with | some (d',t',_)=>d' == d&&t' == t&&(b.getD j 0).testBit i | none=>ak) &&
   (ops.toList.zipIdx.all λ(o',j)=>i == j||match mS o' with | some (d',_)=>!(d' == d) | none=>aa)
  | none=>aa
def Hr(ops:Array Oper):List Nat:=ops.toList.filterMap λo=>(mS o).map (·.1)
def Hl(P:Program)(ops:Array Oper):Option (List Nat × List (AO × List Nat)) :=
 match BP P ops ops.toList with
 | none=>af
 | some l0 =>
  let b:=wx ops.toList []
  let d:=lq e_ (l0.map λo=>(o,[])) b
  let l:=(l0.zip d).zipIdx.map λ((o,x),i)=>(o,if o.op.BM then((bU (xJ d i+1 - oH d x)).map (oH d x+·)).filter (· != Ac d i) else [])
  if xo ops l b=aa/\P.follows .mixedOrders=aa/\Jh ops b=aa then U (Hr ops,l) else af
def T9{P:Program}{ops:Array Oper}:∀{os:List Oper} {l:List AO},BP P ops os=U l->l.length=os.length/\∀i:Nat,∀o,os[i]?=U o->∃x,l[i]?=U x/\DX P ops o=U x
 | [],l,h=>by simp only[BP,aZ] at h;subst h;exact⟨rfl,λi o h=>by simp at h⟩
 | o :: os, l, h => by
  simp only[BP,iI,c7] at h;obtain⟨x,h1,l',h2,rfl⟩:=h;obtain⟨h3,h4⟩:=T9 h2;refine⟨by simp[h3],λi q hq=>?_⟩;cases i with
  | zero=>simp at hq;subst hq;exact⟨x,by simp,h1⟩
  | succ i=>simp at hq;obtain⟨y,k1,k2⟩:=h4 i q hq;exact⟨y,by simpa using k1,k2⟩
structure OK(ops:Array Oper)(b:List Nat):Prop where
 st:∀(i:Nat) o d t,ops[i]?=U o->mS o=U (d,t)->∃(j:Nat) (o' : Oper) (x:Operand),ops[j]?=U o' /\ mT o' = U (d,t,x)/\(b.getD j 0).testBit i=aa
 uniq:∀(i j:Nat) o o' d t t',ops[i]?=U o->ops[j]?=U o' -> mS o=U (d,t)->mS o' = U (d,t')->i=j
variable{ops:Array Oper}
def adA{b:List Nat}(h:Jh ops b=aa):OK ops b:=by
 unfold Jh at h;rw[ln] at h;have mem:∀(i:Nat) o,ops[i]?=U o->(o,i)∈ops.toList.zipIdx:=λi o ho=>by
  rw[IS];simpa using ho
 refine⟨λi o d t ho hv=>?_,λi j o o' d t t' ho fD hv gx => ?_⟩
 .have:=h _ (mem i o ho)
  simp only[hv,bC,EP] at this;obtain⟨⟨q,hq,h1⟩,_⟩:=this;obtain⟨o',j⟩:=q;simp only at h1;split at h1
  .rename_i d' t' x gx;simp only[bC,A2] at h1;obtain⟨⟨rfl,rfl⟩,h2⟩:=h1;rw[IS] at hq;exact⟨j,o',x,by simpa using hq,gx,h2⟩
  .simp at h1
 .have:=h _ (mem i o ho)
  simp only[hv,bC,ln] at this;have h2:=this.2 _ (mem j o' fD);simp only[gx,mn,A2,tR] at h2
  rcases h2 with h2 | h2
  .exact h2
  .simp at h2
variable{l:List (AO × List Nat)}{nv:List Nat}
def alb(h:Hl P ops=U (nv,l)):
 ∃b,yG ops l b/\b.length=ops.size/\P.follows .mixedOrders=aa/\OK ops b/\nv=Hr ops/\∀(i:Nat) o,ops[i]?=U o->∃x:AO × List Nat,l[i]?=U x/\DX P ops o=U x.1:=by
 unfold Hl at h;cases h0:BP P ops ops.toList with
 | none=>rw[h0] at h;simp at h
 | some l0 =>
 rw[h0] at h;simp only at h;split at h
 case isFalse=>simp at h
 rename_i hc;simp only[aZ,nN] at h;obtain⟨rfl,rfl⟩:=h;refine⟨_,facts hc.1,?_,hc.2.1,adA hc.2.2,rfl,λi o ho=>?_⟩
 .have:=hc.1
  unfold xo at this;simp only[bC,ca] at this;exact this.1.1.2
 .have hlen:=(facts hc.1).size;obtain⟨h1,h2⟩:=T9 h0;obtain⟨x,k1,k2⟩:=h2 i o (by simpa using ho);have aB:=(kG.1 ho).1;generalize hL:(l0.zip (lq e_ (l0.map λo=>(o,[])) (wx ops.toList [])))=z at hlen ⊢;have hz:i<z.length:=by simp at hlen;omega
  refine⟨_,by rw[vt,OY,cL hz];rfl,?_⟩
  have:z[i].1=x:=by
   have e:z[i]?=U z[i]:=cL hz;subst hL;rw[IP] at e;rw[k1] at e;exact(tY e.1).symm
  simpa [this] using k2
def Env.rh(E:Env)(c:Array Value)(t:TypeId):Env:={w:=E.w.alloc (.cells c t),a7:=λb=>if b=E.w.heap.size then .l6 else E.a7 b,aD:=E.aD,aK:=E.aK}
variable{c:Array Value}
def al1(hs:bE E st a):Fr E (E.rh c t)/\bE (E.rh c t) st a:=by
 have hx:=(Ext.refl E.w).alloc c t;have hold:∀b,b<E.w.heap.size->(E.rh c t).w.heap[b]?=E.w.heap[b]?:=λb hb=>hx.block b hb
 have dv:∀b,b<E.w.heap.size->(E.rh c t).a7 b=E.a7 b:=λb hb=>by simp only[Env.rh];rw[aC (by omega)]
 have bf:Fr E (E.rh c t):=xw hs.ok.fresh hx dv λ_ _ h=>h
 have hle:E.le (E.rh c t):=bf.le λ_ _ h=>h
 refine⟨bf,BR hs.ok bf.nl (λb h hb=>⟨by rw[dv b hb];exact h,hold b hb⟩) (λ_ _ h=>h) (λb hb=>?_) hs.ok.nt,
  pK hs.cV hle (λb i h hb=>⟨by rw[dv b hb];exact h,hold b hb⟩) hs.cV.none,hs.defers,RL.mono _ hle hs.slot⟩
 have b9 : E.w.heap.size+1<=b:=by simpa [Env.rh] using hb
 simp only[Env.rh];rw[aC (by omega)];exact hs.ok.fresh b (by omega)
def aqr{t:List V}(h:t.getD d .any = .any):t.set d .any=t:=by
 by_cases hd:d<t.length
 .have:t[d] = .any:=by simpa [gU,hd] using h
  rw[<-this];simp
 .exact List.set_eq_of_length_le (by omega)
def Env.bare(E:Env)(b k:Nat)(new:Array Value):Env :=
 {w:=E.w.setRow b new,a7:=λx=>if x=b then .iB k else E.a7 x,aD:=λi=>if i=k then U b else E.aD i,aK:=E.aK}
variable{e:TypeId}
def ZD{E0:Env}(hs:bE E st a)(hf:Fr E0 E)(hr:E.a7 b = .l6)(hn:E0.w.heap.size<=b)(hb:E.w.heap[b]?=U (.cells c e (0,0))){cs:List V}{vs:List Value}(hv:RL E cs vs)
 {d:Nat} (hd:a.tmps[d]?=U (.pointer (U ⟨b,0,af⟩))) :
 Fr E0 (E.bare b st.aD.length vs.toArray)/\bE (E.bare b st.aD.length vs.toArray) ⟨st.t.set d (.ptr (.aD st.aD.length) 0),st.aD++[cs],st.out⟩ a:=by
 generalize hE:E.bare b st.aD.length vs.toArray=E';have iy:∀b',b' ≠ b->E'.w.heap[b']?=E.w.heap[b']?:=λb' aX=>by rw[<-hE];exact setRow_other E.w b b' _ aX
 have lH:E'.w.heap[b]?=U (.cells vs.toArray e (0,0)):=by rw[<-hE];exact setRow_heap E.w b c _ e _ hb
 have ko:∀b',b' ≠ b->E'.a7 b' = E.a7 b' := λb' aX=>by rw[<-hE];simp only[Env.bare];rw[aC aX]
 have pB:E'.a7 b = .iB st.aD.length:=by rw[<-hE];simp[Env.bare]
 have cG:E'.w.heap.size=E.w.heap.size:=by rw[<-hE];simp[Env.bare]
 have dK:∀i,i≠st.aD.length->E'.aD i=E.aD i:=λi hi=>by rw[<-hE];simp only[Env.bare];rw[aC hi]
 have Sx:E'.aD st.aD.length=U b:=by rw[<-hE];simp[Env.bare]
 have xO:E.aD st.aD.length=none:=hs.cV.none _ (bP _);have rZ:E'.aK=E.aK:=by rw[<-hE];rfl
 have Bn:∀b' o',b' ≠ b->E'.w.cell? ⟨b',o',af⟩=E.w.cell? ⟨b',o',af⟩:=λb' o' aX=>by simp only[World.cell?,iy b' aX]
 have KN:∀x,E'.w.frozen? x=E.w.frozen? x:=λx=>by rw[<-hE];exact C3 hb x
 have hle:E.le E' := by
  refine⟨λb' o' c' hc hv=>?_,λi b' h=>?_,λt n h=>⟨n,by rw[rZ];exact h,bP _,λ_ b' c' b9 => ?_⟩⟩
  .have aX:b' ≠ b:=λe=>by rw[e,hr] at hc;exact hc
   exact⟨by rw[ko b' aX];exact hc,(Bn b' o' aX).trans hv⟩
  .rw[dK i (λe=>by rw[e,xO] at h;simp at h)];exact h
  .have aX:b' ≠ b:=λe=>by rw[e,hr] at b9;simp at b9
   exact⟨by rw[ko b' aX];exact b9,λcs' e' bR=>⟨cs',(iy b' aX).trans bR,rfl⟩⟩
 refine⟨⟨?_,?_,?_,by rw[cG];exact hf.size,λx=>(KN x).trans (hf.gu x),λb' o' c' hc hv=>?_,λt n h=>?_,λb' aB h=>?_,λb' aB h=>?_,λb' t c' aB h=>?_,λb' i aB h=>?_,λb' c' e' h=>by
  have aB:=kx (w:=E0.w) h;have aX:b' ≠ b:=by omega
  obtain⟨c1,h1,h2⟩:=hf.shape b' c' e' h;exact⟨c1,(iy b' aX).trans h1,h2⟩⟩,⟨⟨λb' ds h=>?_,λt n h=>by rw[rZ];exact hs.ok.aK t n h,λb' h=>?_,by rw[rZ];exact hs.ok.nt,λb cs hc=>dZ.mono _ hle.nl (hs.ok.bY b cs hc)⟩,⟨λi ds h=>?_,λi hi=>?_⟩,hs.defers,?_⟩⟩
 .rw[<-hf.os,<-hE];rfl
 .rw[<-hf.output,<-hE];rfl
 .rw[<-hf.tape,<-hE];rfl
 .obtain⟨h1,h2⟩:=hf.cell b' o' c' hc hv;have aX:b' ≠ b:=λe=>by rw[e,hr] at h1;exact h1
  exact⟨by rw[ko b' aX];exact h1,(Bn b' o' aX).trans h2⟩
 .obtain⟨n',h1,h2,h3⟩:=hf.tok t n h;refine⟨n',by rw[rZ];exact h1,h2,λe b' c' b9 => ?_⟩;obtain⟨h4,h5⟩:=h3 e b' c' b9;have aX:b' ≠ b:=λe=>by rw[e,hr] at h4;simp at h4
  refine⟨by rw[ko b' aX];exact h4,λcs' e' bR=>?_⟩;obtain⟨Jt,h6,h7⟩:=h5 cs' e' bR;exact⟨Jt,(iy b' aX).trans h6,h7⟩
 .obtain⟨h1,h2⟩:=hf.same b' aB h;have aX:b' ≠ b:=by omega
  exact⟨(iy b' aX).trans h1,(ko b' aX).trans h2⟩
 .have aX:b' ≠ b:=by omega
  rw[ko b' aX] at h;exact hf.CH b' aB h
 .have aX:b' ≠ b:=by omega
  rw[ko b' aX] at h;exact hf.CJ b' t c' aB h
 .have aX:b' ≠ b:=by omega
  rw[ko b' aX] at h;exact hf.A0 b' i aB h
 .obtain⟨h1,h2⟩:=hs.ok.box b' ds h;have aX:b' ≠ b:=λe=>by rw[e,hr] at h1;simp at h1
  exact⟨by rw[ko b' aX];exact h1,jc.mono hle.nl (iy b' aX) h2⟩
 .rw[cG] at h;have aB:b<E.w.heap.size:=kx hb;rw[ko b' (by omega)];exact hs.ok.fresh b' h
 .by_cases hi:i=st.aD.length
  .subst hi;simp only[List.getElem?_concat_length,aZ] at h;subst h;refine⟨b,Sx,pB,vs.toArray,e,lH,by have:=fI hv;simp;omega,λj x hj=>?_⟩;obtain⟨u,h1,h2⟩:=qC hv j x hj;exact⟨u,by simpa using h1,h2.mono _ hle⟩
  .have aB:i<st.aD.length:=by
    have:=(fg.1 h).1
    simp at this;omega
   rw[sA aB] at h;obtain⟨b',h1,h2,h3⟩:=hs.cV.box i ds h;have aX:b' ≠ b:=λe=>by rw[e,hr] at h2;simp at h2
   exact⟨b',by rw[dK i hi];exact h1,by rw[ko b' aX];exact h2,jc.mono hle (iy b' aX) h3⟩
 .simp at hi;rw[dK i (by omega)];exact hs.cV.none i (by omega)
 .have h1:=RL.mono _ hle hs.slot;have hp:R E' (.ptr (.aD st.aD.length) 0) (.pointer (U ⟨b,0,af⟩)):=by simp only[R];exact⟨b,Sx,rfl⟩
  have h2:=Fe h1 d hp
  have:a.tmps.toList.set d (.pointer (U ⟨b,0,af⟩))=a.tmps.toList:=by
   have aB:=(kG.1 hd).1
   have:a.tmps.toList[d]'(by simpa using aB) = .pointer (U ⟨b,0,af⟩):=by
    have:=(kG.1 hd).2;simpa using this
   rw[<-this];exact X3 (by simpa using aB)
  rw[this] at h2;exact h2
section
variable {P:Program} {ops:Array Oper} {l:List (AO × List Nat)} {b:List Nat}
def X9(P:Program)(ops:Array Oper)(N:Nat)(E0:Env)(listed:Array Bool)(E:Env)(a:Act):Prop :=
 a.tmps.size=N/\∃B:Nat->Nat,∀(i:Nat) o d t,ops[i]?=U o->mS o=U (d,t)->listed.getD i ak=aa->(∀(j:Nat) o' x,ops[j]?=U o' -> mT o' = U (d,t,x)->listed.getD j ak=ak) ->
  a.tmps[d]?=U (.pointer (U ⟨B i,0,af⟩))/\E.a7 (B i) = .l6/\(∃c e,E.w.heap[B i]?=U (.cells c e (0,0))/\dW P t=U c.size)/\E0.w.heap.size<=B i /\
  ∀(i' : Nat) o' d' t',ops[i']?=U o' -> mS o' = U (d',t')->listed.getD i' ak=aa->(∀(j:Nat) o' x,ops[j]?=U o' -> mT o' = U (d',t',x)->listed.getD j ak=ak)->i≠i' -> B i≠B i'
variable{listed:Array Bool}
def ve{j:Nat}(h:i<listed.size):(listed.setIfInBounds i aa).getD j ak=(decide (j=i)||listed.getD j ak):=by
 by_cases fC:j=i
 .subst fC;simp[h]
 .rw[pY,AK (fi fC),<-pY];simp[fC]
def T7{o:Oper}{x:AO}(h:DX P ops o=U x):(∃d t z n,mS o=U (d,t)/\jK P t=U z/\dW P t=U n/\z.length=n/\x=⟨af,.mv (.c .any),af⟩) \/
 (∃d t y n q,mT o=U (d,t,y)/\isVar ops d t=aa/\dW P t=U n/\cw P t y=U q/\x=⟨U d,.uh n q,af⟩)\/(th P ops o=U x/\mS o=af/\∀d t y,mT o=U (d,t,y)->isVar ops d t=ak):=by
 unfold DX at h;split at h
 .rename_i d t hv;split at h
  .rename_i z n hz hn;split at h
   .rename_i hl;simp only[aZ] at h;exact .inl ⟨d,t,z,n,hv,hz,hn,hl,h.symm⟩
   .simp at h
  .simp at h
 .rename_i hv;split at h
  .rename_i d t y hs;split at h
   .rename_i hi;split at h
    .rename_i n q hn hq;simp only[aZ] at h;exact .inr (.inl ⟨d,t,y,n,q,hs,hi,hn,hq,h.symm⟩)
    .simp at h
   .rename_i hi;exact .inr (.inr ⟨h,hv,λd' t' y' e=>by rw[hs] at e;simp only[aZ,nN] at e;obtain⟨rfl,rfl,_⟩:=e;simpa using hi⟩)
  .rename_i hs;exact .inr (.inr ⟨h,hv,λd t y e=>by rw[hs] at e;simp at e⟩)
variable{K:St->Prop}
def acd{id:Nat}(hl:Hl P ops=U (nv,l))(SB:∀d∈nv,d<st.t.length/\st.t.getD d .any = .any)(h:ch P l [(st.aD,st.out)] [] K st):
 iF P (.region id ops aa) (λe aJ => e = .normal/\K aJ) st:=by
 obtain⟨b,F,py,hf,FA,rfl,uK⟩:=alb hl;intro E0 a0 GL;have atU:=F.size
 -- what a pair of a new variable and its store is like
 have Dx:∀(i:Nat) o d t,ops[i]?=U o->mS o=U (d,t)->isVar ops d t=true:=λi o d t ho hv=>by
  unfold isVar;rw[EP];exact⟨o,by simpa using OD ho,by simp[hv]⟩
 have aiS:∀d t,isVar ops d t=aa->∃(i:Nat) (o:Oper),ops[i]?=U o/\mS o=U (d,t):=λd t h=>by
  unfold isVar at h;rw[EP] at h;obtain⟨o,h1,h2⟩:=h;split at h2
  .rename_i d' t' hv;simp only[bC,A2] at h2;obtain⟨rfl,rfl⟩:=h2;obtain⟨i,hi⟩:=X1.1 h1;exact⟨i,o,by simpa using hi,hv⟩
  .simp at h2
 -- a store that is one of these has the variable's slot
 have GN:∀(j:Nat) o d t x,ops[j]?=U o->mT o=U (d,t,x)->isVar ops d t=aa->∃y:AO × List Nat,l[j]?=U y/\y.1.dst=U d:=λj o d t x ho hv hi=>by
  obtain⟨y,h1,h2⟩:=uK j o ho
  rcases T7 h2 with ⟨d',t',z,n,k1,_⟩ | ⟨d',t',y',n,q,k1,_,_,_,k2⟩ | ⟨_,_,k3⟩
  .obtain⟨e1,_⟩:=N8 k1;obtain⟨e2,_⟩:=Xe hv;rw[e1] at e2;simp at e2
  .rw[hv] at k1;simp only[aZ,nN] at k1;obtain⟨rfl,_⟩:=k1;exact⟨y,h1,by rw[k2]⟩
  .rw[k3 d t x hv] at hi;simp at hi
 refine QE (X:=X9 P ops a0.tmps.size E0) F py hf h GL (λE' => ⟨rfl,λ_=>0,λi o d t _ _ hC => by
  exfalso
  by_cases hj:i<ops.size<;>simp[hj] at hC⟩) λi o ho=>?_
 obtain⟨x,hx,hxo⟩:=uK i o ho;have atM:i<ops.size:=(kG.1 ho).1;refine⟨x,hx,?_⟩
 rcases T7 hxo with ⟨d,t,z,n,hv,hz,hn,hzn,uP⟩ | ⟨d,t,y,n,q,hv,Lm,hn,hq,uP⟩ | ⟨sU,S0,BG⟩
 ·-- a variable is made
  right;obtain⟨v1,v2,v3⟩:=N8 hv;obtain⟨iz,zv,z1,z2,z3,z4⟩:=sy hz;refine⟨v3,by rw[uP],λE a t' s v s' listed Q sW xS Kx Sf lH hs bf hX kp=>?_⟩;rw[uP] at kp ⊢;obtain⟨rfl,kp⟩:=kp;obtain rfl:s=s' := by have:=gX (λq:St=>(q.aD,q.out)) kp;simp only[bX,nN] at this;exact Prod.ext this.1 this.2
  simp only[j9];have Sn:d∈Hr ops:=by unfold Hr;rw[O3];exact⟨o,by simpa using OD ho,by simp[hv]⟩
  have aib:t'.getD d .any = .any:=by
   rw[lH d λj y hy zJ=>?_]
   .exact(SB d Sn).2
   .obtain⟨j0,o0,x0,k1,k2,k3⟩:=FA.st i o d t ho hv;obtain⟨y0,k4,k5⟩:=GN j0 o0 d t x0 k1 k2 (Dx i o d t ho hv)
    have:j=j0:=by
     rcases Nat.decEq j j0 with aX | he
     .exact absurd zJ (F.dst j j0 y y0 hy k4 aX d k5)
     .exact he
    subst this;exact Sf j (by rw[py];exact(kG.1 k1).1) k3
  obtain⟨xH,dj⟩:=al1 (c:=zv.cells) (t:=t) hs;have cT:(execOp a.eval o).run P E.w = .ok (.value (.pointer (U ⟨E.w.heap.size,0,af⟩))) (E.w.alloc (.cells zv.cells t)):=by
   simp[execOp,v1,Instr.alloc,zeroValue,typeInfo,z1,z2,newVar,newRow]
  unfold Oper.wp;rw[cT];simp only[Oper.upon,v2];refine⟨E.rh zv.cells t,rfl,?_,bf.trans xH,?_⟩
  .have:=bE.put dj (v:=.any) (x:=.pointer (U ⟨E.w.heap.size,0,af⟩)) (by simp[R]) (U d)
   rw[Ec] at this;simp only[j9,aqr aib] at this;exact this
  .obtain⟨hN,B,hB⟩:=hX;have gw:(E.rh zv.cells t).w.heap[E.w.heap.size]?=U (.cells zv.cells t (0,0)):=heap_alloc_new E.w _;have iN:zv.cells.size=n:=by have:=fI (qH (E:=E) z3);rw[<-hzn];simp at this;omega
   refine⟨by simp[Act.put,hN],λk=>if k=i then E.w.heap.size else B k,λk o' d' rm fD gx hC ec=>?_⟩;have DE : ∀(j:Nat) o' x,ops[j]?=U o' -> mT o' = U (d',rm,x)->listed.getD j ak=false:=λj o2 x2 h1 h2=>by
    have:=ec j o2 x2 h1 h2
    rw[ve sW] at this;simp only[Cm] at this;exact this.2
   rw[ve sW] at hC
   by_cases qU:k=i
   .subst qU;rw[ho] at fD;simp only[aZ] at fD;subst fD;rw[hv] at gx;simp only[aZ,nN] at gx;obtain⟨rfl,rfl⟩:=gx;simp only[cD];have Sm:d<a.tmps.size:=by
     have:=(SB d Sn).1
     have h0:=fI GL.slot;simp at h0;omega
    refine⟨by simp[Act.put,Sm],by simp[Env.rh],⟨_,_,gw,by rw[iN];exact hn⟩,w7 bf.size (bP _),λi' o' d' t' fD gx Sw ai5 aX=>?_⟩;simp only[aC (fi aX)];have Li:∀(j:Nat) o' x,ops[j]?=U o' -> mT o' = U (d',t',x)->listed.getD j ak=false:=λj o2 x2 h1 h2=>by
     have:=ai5 j o2 x2 h1 h2
     rw[ve sW] at this;simp only[Cm] at this;exact this.2
    rw[ve sW] at Sw;have uJ:listed.getD i' ak=true:=by simpa [fi aX] using Sw
    obtain⟨_,_,⟨c,e,hc,_⟩,_⟩:=hB i' o' d' t' fD gx uJ Li
    have:=kx hc
    omega
   .simp only[aC qU];have kR:listed.getD k ak=true:=by simpa [qU] using hC
    obtain⟨g1,g2,⟨c,e,g3,g4⟩,g5,g6⟩:=hB k o' d' rm fD gx kR DE;have aB:=kx g3;have zq:d' ≠ d:=λe=>by subst e;exact qU (FA.uniq k i o' o d' rm t fD ho gx hv)
    refine⟨by simp only[Act.put];rw[AK (fi zq)];exact g1,by simp only[Env.rh];rw[aC (by omega)];exact g2,⟨c,e,((Ext.refl E.w).alloc zv.cells t).block _ aB |>.trans g3,g4⟩,g5,λi' o2 d2 t2 rU r5 uJ rW aX=>?_⟩;have Li:∀(j:Nat) o' x,ops[j]?=U o' -> mT o' = U (d2,t2,x)->listed.getD j ak=false:=λj o3 x3 h1 h2=>by
     have:=rW j o3 x3 h1 h2
     rw[ve sW] at this;simp only[Cm] at this;exact this.2
    by_cases db : i' = i
    .simp only[aE db];omega
    .simp only[aC db];rw[ve sW] at uJ;exact g6 i' o2 d2 t2 rU r5 (by simpa [db] using uJ) Li aX
 ·-- its first store
  right;obtain⟨v1,v2,v3⟩:=Xe hv;refine⟨v3,by rw[uP],λE a t' s v s' listed Q sW xS Kx Sf lH hs bf hX kp=>?_⟩;rw[uP] at kp ⊢;simp only[aI.ba] at kp;obtain⟨qY,fL,rfl,kp⟩:=kp;obtain rfl:(s.1++[(ev (bX t' s) q).cells],s.2)=s' := by have:=gX (λq:St=>(q.aD,q.out)) kp;simp only[bX,nN] at this;exact Prod.ext this.1 this.2
  simp only[j9];obtain⟨i0,o0,k1,k2⟩:=aiS d t Lm;obtain⟨j0,oj,xj,m1,m2,m3⟩:=FA.st i0 o0 d t k1 k2;have KQ:j0=i:=by
   obtain⟨y0,k4,k5⟩:=GN j0 oj d t xj m1 m2 Lm
   rcases Nat.decEq j0 i with aX | he
   .have:=F.dst i j0 x y0 hx k4 (fi aX) d k5
    rw[uP] at this;exact absurd rfl this
   .exact he
  subst KQ;rw[ho] at m1;simp only[aZ] at m1;subst m1;have SV:∀(j:Nat) o' x,ops[j]?=U o' -> mT o' = U (d,t,x)->j=j0:=λj o' x' h1 h2=>by
   obtain⟨y0,k4,k5⟩:=GN j o' d t x' h1 h2 Lm
   rcases Nat.decEq j j0 with aX | he
   .have:=F.dst j0 j x y0 hx k4 (fi aX) d k5
    rw[uP] at this;exact absurd rfl this
   .exact he
  obtain⟨hN,B,hB⟩:=hX;obtain⟨g1,g2,⟨c,e,g3,g4⟩,g5,g6⟩:=hB i0 o0 d t k1 k2 (Kx i0 m3) λj o' x' h1 h2=>by rw[SV j o' x' h1 h2];exact xS
  have hR:=mG (E:=E) (st:=bX t' s) (a:=a) hs.slot hq;obtain⟨rL,cG⟩:=xc hR qY;have bR:c.size=n:=by rw[hn] at g4;simpa using g4.symm
  have cT:=Nv (P:=P) (off:=0) hn g3 cG (by omega) (yg rL fL);obtain⟨f1,f2⟩:=ZD hs bf g2 g5 g3 rL g1;have gw:(c.toList.take 0++(a.eval y).cells.toList++c.toList.drop (0+n)).toArray=(a.eval y).cells.toList.toArray:=by
   rw[OP (by simp;omega)];simp
  rw[gw] at cT;have hde:a.eval (.tmp d) = .pointer (U ⟨B i0,0,af⟩):=by simp[Act.eval,pY,g1]
  unfold Oper.wp;rw[show(execOp a.eval o).run P E.w = .ok .skip (E.w.setRow (B i0) (a.eval y).cells.toList.toArray) from by simp[execOp,v1,hde,HT cT]];simp only[Oper.upon,v2];refine⟨_,rfl,f2,f1,hN,B,λk o' d' rm fD gx hC ec=>?_⟩;have hkd:d' ≠ d:=λe=>by
   subst e;have e1:=FA.uniq k i0 o' o0 d' rm t fD k1 gx k2;subst e1;rw[k1] at fD;simp only[aZ] at fD;subst fD;rw[k2] at gx;simp only[aZ,nN] at gx;obtain⟨_,rfl⟩:=gx
   have:=ec j0 o y ho hv
   rw[ve sW] at this;simp at this
  have Dm:k≠i0:=by rintro rfl;rw[k1] at fD;simp only[aZ] at fD;subst fD;rw[k2] at gx;simp only[aZ,nN] at gx;exact hkd gx.1.symm
  have Sz:∀(k:Nat) o',ops[k]?=U o' -> (mS o').isSome=aa->k≠j0:=λk o' fD dj => by
   rintro rfl;rw[ho] at fD;simp only[aZ] at fD;subst fD;cases hq:mS o with
   | none=>rw[hq] at dj;simp at dj
   | some p=>obtain⟨p1,p2⟩:=p;rw[(N8 hq).1] at v1;simp at v1
  have conv:∀{d t},(∀(j:Nat) o' x,ops[j]?=U o' -> mT o' = U (d,t,x)->(listed.setIfInBounds j0 aa).getD j ak=ak)->∀(j:Nat) o' x,ops[j]?=U o' -> mT o' = U (d,t,x)->listed.getD j ak=false:=λ{d t} h j o2 x2 h1 h2=>by
   have:=h j o2 x2 h1 h2
   rw[ve sW] at this;simp only[Cm] at this;exact this.2
  have KV:=Sz k o' fD (by simp[gx]);rw[ve sW] at hC;have kR:listed.getD k ak=true:=by simpa [KV] using hC
  obtain⟨p1,p2,⟨c',e',p3,p4⟩,p5,p6⟩:=hB k o' d' rm fD gx kR (conv ec);have rR:B k≠B i0:=p6 i0 o0 d t k1 k2 (Kx i0 m3) (λj o' x' h1 h2=>by rw[SV j o' x' h1 h2];exact xS) Dm;refine⟨p1,by simp only[Env.bare];rw[aC rR];exact p2,⟨c',e',by simp only[Env.bare];rw[setRow_other E.w (B i0) (B k) _ rR];exact p3,p4⟩,p5,λi' o2 d2 t2 rU r5 uJ rW aX=>?_⟩;rw[ve sW] at uJ;exact p6 i' o2 d2 t2 rU r5 (by simpa [Sz i' o2 rU (by simp[r5])] using uJ) (conv rW) aX
 ·-- any other step
  left;refine⟨sU,λlisted E E' a u hX jX => ?_⟩;obtain⟨hN,B,hB⟩:=hX;have lz:x.1.dst=o.dst:=by
   unfold th at sU;split at sU
   .simp at sU
   .split at sU
    .simp only[aZ] at sU;rw[<-sU]
    .split at sU
     .simp only[aZ] at sU;rw[<-sU]
     .simp at sU
  have cG:(a.put o.dst u).tmps.size=a.tmps.size:=by cases o.dst<;>simp[Act.put]
  refine⟨by rw[cG];exact hN,B,λk o' d' rm fD gx hC ec=>?_⟩;have qU:k≠i:=by rintro rfl;rw[ho] at fD;simp only[aZ] at fD;subst fD;rw[S0] at gx;simp at gx
  have K0 : ∀k,k≠i->(listed.setIfInBounds i aa).getD k ak=listed.getD k false:=λk hk=>by
   rw[pY,AK (fi hk),<-pY]
  have conv:∀{d t},isVar ops d t=aa->(∀(j:Nat) o' x,ops[j]?=U o' -> mT o' = U (d,t,x)->(listed.setIfInBounds i aa).getD j ak=ak)->∀(j:Nat) o' x,ops[j]?=U o' -> mT o' = U (d,t,x)->listed.getD j ak=false:=λ{d t} Bt h j o2 x2 h1 h2=>by
   have:=h j o2 x2 h1 h2
   rw[K0 j (by rintro rfl;rw[ho] at h1;simp only[aZ] at h1;subst h1;rw[BG _ _ _ h2] at Bt;simp at Bt)] at this;exact this
  rw[K0 k qU] at hC;obtain⟨g1,g2,⟨c,e,g3,g4⟩,g5,g6⟩:=hB k o' d' rm fD gx hC (conv (Dx k o' d' rm fD gx) ec);have aB:=kx g3;obtain⟨h1,h2⟩:=jX.same _ aB (.inr g2);obtain⟨j0,oj,xj,m1,m2,m3⟩:=FA.st k o' d' rm fD gx;obtain⟨y0,k4,k5⟩:=GN j0 oj d' rm xj m1 m2 (Dx k o' d' rm fD gx);have zq:o.dst≠U d' := λhd=>by
   have aX:i≠j0:=by rintro rfl;rw[ho] at m1;simp only[aZ] at m1;subst m1;have:=BG _ _ _ m2;rw[Dx k o' d' rm fD gx] at this;simp at this
   exact F.dst i j0 x y0 hx k4 aX d' k5 (by rw[lz];exact hd)
  refine⟨?_,h2.trans g2,⟨c,e,h1.trans g3,g4⟩,g5,λi' o2 d2 t2 rU r5 uJ rW aX=>?_⟩
  .cases hod:o.dst with
   | none=>exact g1
   | some m=>simp only[Act.put];rw[AK (by rintro rfl;exact zq hod)];exact g1
  .have db : i' ≠ i:=by rintro rfl;rw[ho] at rU;simp only[aZ] at rU;subst rU;rw[S0] at r5;simp at r5
   rw[K0 i' db] at uJ;exact g6 i' o2 d2 t2 rU r5 uJ (conv (Dx i' o2 d2 t2 rU r5) rW) aX
end
inductive AC where
 | skip
 | Eg (l:List AO)
 | pf (x:AC)
 | draw (l:List (AO × List Nat))
 | FL (nv:List Nat) (l:List (AO × List Nat))
 | hole (l:List (AO × List Nat)) (h:HI)
 | seq (x y:AC)
 | cond (c:X) (x y:AC)
 | block (id:Nat) (x:AC)
 | loop (x:AC)
 | scope (x:AC)
 | BX (l:List AO) (x:X) (dI dN dM out nxt:Nat) (y:AC)
 | exit (id:Nat)
 | ret
structure Hint where
 out:List Nat:=[]
 pf:List Nat:=[]
def AC.Ez(b:Bool)(x:AC):AC:=if b then .pf x else x
def Hn(P:Program)(h:Hint)(ky kz:Array Oper)(sJ out tt nxt:Nat)(y:Option AC):Option AC :=
 match ky.toList.getLast?,kz.toList,y with
 | some oR, [oN, oM], U y =>
  match oR.op,oR.dst,oR.guard,oN.op,oN.dst,oN.guard,oM.op,oM.dst,oM.guard with
  | .range xt ox, U dI, af, .next (.tmp Qz) aa, U dN, af, .extract (.tmp QA) 0, U dM, af =>
   match P.underlying xt,zW P h.out ky ky.toList.dropLast,cw P xt ox with
   | some .string,U l,U x=>if Qz = dI/\QA = dN/\sJ = dM/\tt = out then U (.BX l x dI dN dM out nxt y) else af
   | _,_,_=>af
  | _,_,_,_,_,_,_,_,_=>af
 | _,_,_=>af
def fO(P:Program)(h:Hint):Code->Option AC
 | .skip=>U .skip
 | .region id ops ak=>(zW P h.out ops ops.toList).map λl=>AC.Ez (h.pf.contains id) (.Eg l)
 | .region id ops aa =>
  match Hk P ops with
  | some l=>U (AC.Ez (h.pf.contains id) (.draw l))
  | none =>
   match Hm P ops with
   | some p=>U (AC.Ez (h.pf.contains id) (.hole p.1 p.2))
   | none=>(Hl P ops).map λp=>AC.Ez (h.pf.contains id) (.FL p.1 p.2)
 | .seq (.region i0 ky ak) (.block out (.loop (.seq (.region i1 kz ak) (.seq (.cond (.tmp sJ) .skip (.exit tt)) (.block nxt b))))) =>
  match Hn P h ky kz sJ out tt nxt (fO P h b) with
  | some r=>U r
  | none=>match fO P h (.region i0 ky ak),fO P h (.block out (.loop (.seq (.region i1 kz ak) (.seq (.cond (.tmp sJ) .skip (.exit tt)) (.block nxt b))))) with | some x,U y=>U (.seq x y) | _,_=>af
 | .seq a b=>match fO P h a,fO P h b with | some x,U y=>U (.seq x y) | _,_=>af
 | .cond c a b=>match cw P 0 c,fO P h a,fO P h b with | some c,U x,U y=>U (.cond c x y) | _,_,_=>af
 | .block id a=>(fO P h a).map (.block id)
 | .loop a=>(fO P h a).map .loop
 | .scope a=>(fO P h a).map .scope
 | .exit id=>U (.exit id)
 | .ret=>U .ret
 | .label _=>U .skip
 | _=>af
def bq(st:St)(K:St->Prop):Prop:=∀E a,bE E st a->∃E' aJ,E'.w=E.w/\Fr E E' /\ bE E' aJ a/\K aJ
variable{K:St->Prop}
def bq.id(h:K st):bq st K:=λE _ hs=>⟨E,st,rfl,Fr.refl E,hs,h⟩
variable{K':St->Prop}
def bq.bind(h:bq st K)(k:∀aJ,K aJ -> bq aJ K'):bq st K' := λE a hs =>
 let ⟨E',aJ,h1,h2,h3,h4⟩:=h E a hs
 let ⟨mo,Es,k1,k2,k3,k4⟩:=k aJ h4 E' a h3
 ⟨mo,Es,k1.trans h1,h2.trans k2,k3,k4⟩
def bq.mono(h:bq st K)(k:∀aJ,K aJ -> K' aJ):bq st K' := h.bind λaJ hk=>bq.id (k aJ hk)
def sE:List Nat->List V->Option (List V)
 | [],t=>U t
 | d::ds,t=>if d<t.length then sE ds (t.set d .any) else af
def Pv:∀{ds:List Nat} {t t' : List V},sE ds t=U t' -> t'.length=t.length/\(∀d∈ds,d<t'.length/\t'.getD d .any = .any)/\(∀d,t.getD d .any = .any->t'.getD d .any = .any)/\∀(E:Env) vs,RL E t vs->RL E t' vs
 | [],t,t',h=>by simp only[sE,aZ] at h;subst h;exact⟨rfl,by simp,λ_ h=>h,λ_ _ h=>h⟩
 | d :: ds, t, t', h => by
  simp only[sE] at h;split at h
  case isFalse=>simp at h
  rename_i hd;obtain⟨h1,h2,h3,h4⟩:=Pv h;have hlen:t'.length=t.length:=by rw[h1];simp
  refine⟨hlen,λx hx=>?_,λx hx=>h3 x ?_,λE vs hr=>h4 E vs ?_⟩
  .rcases kI.1 hx with rfl | hx
   .exact⟨by omega,h3 x (by simp[gU,hd])⟩
   .exact h2 x hx
  .by_cases e:x=d
   .subst e;simp[gU,hd]
   .simpa [gU,Cr (fi e)] using hx
  .have hl:=fI hr;have hdv:d<vs.length:=by omega
   have:=Fe hr d (x:=.any) (v:=vs[d]) (by simp[R])
   simpa using this
def yJ{ι:Type}(I:ι->St)(μ:ι->Nat)(Q:Exit->St->Prop)(n:Nat):Exit->St->Prop
 | .normal,st=>bq st λaJ => ∃j,aJ = I j/\μ j<n
 | e,st=>Q e st
def Cf(K:St->Prop)(Q:Exit->St->Prop):Exit->St->Prop
 | .normal,st=>K st
 | e,st=>Q e st
def xb(out:Nat)(J:St->Prop)(Q:Exit->St->Prop):Exit->St->Prop
 | .normal,st=>bq st J
 | .exit id,st=>if id=out then Q .normal st else Q (.exit id) st
 | e,st=>Q e st
def AT(Q:Exit->St->Prop):Exit->St->Prop
 | .goto _,_=>False
 | e,st=>Q e st
def vc(P:Program):AC->(Exit->St->Prop)->St->Prop
 | .skip,Q,st=>Q .normal st
 | .Eg l,Q,st=>bV P l (Q .normal) st
 | .draw l,Q,st=>ch P l [(st.aD,st.out)] [] (Q .normal) st
 | .hole l h,Q,st=>ch P l [(st.aD,st.out)] [] (EO h (Q .normal)) st
 | .FL nv l,Q,st=>∃t,sE nv st.t=U t/\ch P l [(st.aD,st.out)] [] (Q .normal) ⟨t,st.aD,st.out⟩
 | .pf x,Q,st=>bq st λaJ => vc P x Q aJ
 | .seq x y,Q,st=>vc P x (Cf (vc P y Q) Q) st
 | .cond c x y,Q,st=>match ev st c with | .bool b=>(b=aa->vc P x Q st)/\(b=ak->vc P y Q st) | _=>False
 | .block id x,Q,st=>vc P x (rz id Q) st
 | .loop x,Q,st=>∃(ι:Type) (I:ι->St) (μ:ι->Nat),(bq st λaJ => ∃i,aJ = I i)/\∀i,vc P x (yJ I μ Q (μ i)) (I i)
 | .scope x,Q,st=>vc P x (AT Q) st
 | .BX l x dI dN dM out nxt y,Q,st=>bV P l (λmO=>∃s:List UInt8,ev mO x = .aF s/\(∀c∈s,c.toNat<128)/\∃I:Nat->Nat->St->Prop,
  (∀b,bq (mO.put (U dI) (.raw (.pointer (U ⟨b,0,af⟩)))) (I b 0)) /\
  (∀b i aJ,I b i aJ -> aJ.t.getD dI .any = .raw (.pointer (U ⟨b,0,af⟩))/\dN<aJ.t.length/\dM<aJ.t.length) /\
  (∀b i c aJ,s[i]?=U c->I b i aJ -> vc P y (rz nxt (xb out (I b (i+1)) Q)) ((aJ.put (U dN) (.bt [.bool aa,.int .i64 (i:Nat),.int .i32 (c.toNat:Nat)])).put (U dM) (.bool aa))) /\
  (∀b aJ,I b s.length aJ -> Q .normal ((aJ.put (U dN) (.bt [.bool ak])).put (U dM) (.bool ak)))) st
 | .exit id,Q,st=>Q (.exit id) st
 | .ret,Q,st=>Q .ret st
variable{Q:Exit->St->Prop}
def aoZ{c:Code}(h:bq st (iF P c Q)):iF P c Q st:=by
 intro E a hs;obtain⟨E',aJ,h1,h2,h3,h4⟩:=h E a hs;rw[<-h1];exact wp_mono (h4 E' a h3) λ_ _ _ ⟨mo,Es,k1,k2,k3,k4⟩=>⟨mo,Es,k1,k2,h2.trans k3,k4⟩
def akw{N:Nat->Prop}:∀n,N n->∃m,N m/\∀k,N k->m<=k:=λn=>by
 induction n using Nat.strongRecOn with
 | ind n ih =>
  intro h
  by_cases hq:∃k,N k/\k<n
  .obtain⟨k,h1,h2⟩:=hq;exact ih k h2 h1
  .refine⟨n,h,λk hk=>?_⟩
   by_cases aB:k<n
   .exact absurd ⟨k,hk,aB⟩ hq
   .omega
def aoT{c:Code}{ι:Type}(I:ι->St)(μ:ι->Nat)(h0:bq st λaJ => ∃i,aJ = I i)(hr:∀i,iF P c (yJ I μ Q (μ i)) (I i)):iF P (.loop c) Q st:=by
 intro E a hs;obtain⟨E1,mO,h1,h2,h3,i0,rfl⟩:=h0 E a hs
 classical
 let J:Act->World->Prop:=λa w=>∃i E',E'.w=w/\bE E' (I i) a/\Fr E E'
 let N:Act->World->Nat->Prop:=λa w n=>∃i E',E'.w=w/\bE E' (I i) a/\Fr E E' /\ μ i=n
 have hL:∀a w,(∃n,N a w n)->∃m,N a w m/\∀k,N a w k->m<=k:=λa w h=>akw _ h.choose_spec
 let M:Act->World->Nat:=λa w=>if h:∃n,N a w n then(hL a w h).choose else 0
 refine wp_loop J M ⟨i0,E1,h1,h3,h2⟩ ?_;intro a w hJ;have hex:∃n,N a w n:=by obtain⟨i,E',k1,k2,k3⟩:=hJ;exact⟨μ i,i,E',k1,k2,k3,rfl⟩
 obtain⟨i,E',k1,k2,k3,k4⟩:=(hL a w hex).choose_spec.1;have hM:M a w=μ i:=by show(if h:∃n,N a w n then(hL a w h).choose else 0)=_;rw[CT hex];exact k4.symm
 subst k1;refine wp_mono (hr i E' a k2) ?_;rintro e a' w' ⟨E2,mP,rfl,m2,m3,m4⟩;cases e with
 | normal =>
  obtain⟨E3,yy,n1,n2,n3,j,rfl,aB⟩:=m4 E2 a' m2;have hN:N a' E2.w (μ j):=⟨j,E3,n1,n3,(k3.trans m3).trans n2,rfl⟩;refine⟨⟨j,E3,n1,n3,(k3.trans m3).trans n2⟩,?_⟩;have atT : M a' E2.w<=μ j:=by
   show(if h:∃n,N a' E2.w n then(hL a' E2.w h).choose else 0)<=_;rw[CT ⟨_,hN⟩];exact(hL a' E2.w ⟨_,hN⟩).choose_spec.2 _ hN
  rw[hM];omega
 | exit id=>exact⟨E2,mP,rfl,m2,k3.trans m3,m4⟩
 | goto l=>exact⟨E2,mP,rfl,m2,k3.trans m3,m4⟩
 | ret=>exact⟨E2,mP,rfl,m2,k3.trans m3,m4⟩
 | panic c=>exact⟨E2,mP,rfl,m2,k3.trans m3,m4⟩
 | outgrown=>exact⟨E2,mP,rfl,m2,k3.trans m3,m4⟩
section
variable {P:Program}
def MG{hn:List Nat}{ops:Array Oper}{K:St->Prop}{Q:Exit->Act->World->Prop}{E0:Env}{rest:List Nat}(hQ:∀E st a,bE E st a->Fr E0 E->K st->wpOps P ops Q rest a E.w):∀(os:List Oper) (l:List AO) (i:Nat),zW P hn ops os=U l ->
 (∀j:Nat,j<os.length->os[j]?=ops[i+j]?)->∀E st a,bE E st a->Fr E0 E->bV P l K st->wpOps P ops Q (List.range' i os.length++rest) a E.w
 | [], l, i, hl, _, E, st, a, hs, hf, h => by
  simp only[zW,aZ] at hl;subst hl;exact hQ E st a hs hf h
 | o :: os, l, i, hl, sV, E, st, a, hs, hf, h => by
  simp only[zW,iI,c7] at hl;obtain⟨x,hx,l',hC,rfl⟩:=hl;have ho:ops[i]?=U o:=by have:=sV 0 (by simp);simpa using this.symm
  have aiz : ∀j:Nat,j<os.length->os[j]?=ops[i+1+j]?:=λj hj=>by
   have:=sV (j+1) (by simp;omega)
   rw[show i+(j+1)=i+1+j from by omega] at this;simpa using this
  have ih:=MG hQ os l' (i+1) hC aiz;have key:∀{ao:aI} {d:Option Tmp},DZ P hn o=ao->d=o.dst->ao.ba P st (λv aJ => bV P l' K (aJ.put d v))->o.wp P a E.w (wpOps P ops Q (List.range' (i+1) os.length++rest)) Q:=λ{ao d} hao hd kp=>by
   subst hd;subst hao;refine Oper.wp_mono ?_ (alf (Q:=Q) hs kp);rintro a' w' ⟨E',v,u,aJ,rfl,jX,dj,hv,rfl,hk⟩;exact ih E' _ _ (bE.put dj hv o.dst) (hf.trans jX) hk
  simp only[dd,Ct,gI,wpOps,ho];unfold T8 at hx;cases hg:o.guard with
  | none =>
   rw[hg] at hx;simp only[aZ] at hx;subst hx;simp only[bV] at h;rw[aE (by simp[Region.wanted,hg])];exact .inl (key rfl rfl h)
  | some p =>
   obtain⟨j,want⟩:=p;rw[hg] at hx;simp only at hx;split at hx
   case h_2=>simp at hx
   rename_i g n7;simp only[aZ] at hx;subst hx;simp only[bV] at h;split at h
   .rename_i b hb;have hR:=Ba hs.slot g;rw[hb] at hR;simp only[R,Act.eval] at hR;have sV:a.tmps[g]?=U (.bool b):=by
     rw[pY] at hR;cases hq:a.tmps[g]? with
     | none=>rw[hq] at hR;simp[undef] at hR
     | some u=>rw[hq] at hR;simp at hR;rw[hR]
    have hw:Region.wanted o (yielded ops a.tmps)=(b == want):=by
     simp only[Region.wanted,hg,yielded,n7,vA,sV];cases b<;>cases want<;>rfl
    split at h
    .rename_i Kz;rw[hw,aE (by simp[Kz])];exact .inl (key rfl rfl h)
    .rename_i Kz;rw[hw,aC (by simp[Kz])];exact ih E _ _ (bE.put hs (v:=.bt []) (x:=undef) IZ o.dst) hf h
   .rename_i hb;have hR:=Ba hs.slot g;rw[hb] at hR;have hu:=Pf hR;have hw:Region.wanted o (yielded ops a.tmps)=false:=by
     simp only[Region.wanted,hg,yielded,n7,vA];simp only[Act.eval] at hu;cases hq:a.tmps[g]? with
     | none=>rfl
     | some u =>
      rw[pY,hq] at hu;simp at hu;rw[hu];rfl
    rw[hw,aC (by simp)];exact ih E _ _ (bE.put hs (v:=.bt []) (x:=undef) IZ o.dst) hf h
   .exact h.elim
def Ih{c:Code}{x:AC}(ih:∀(Q:Exit->St->Prop) (st:St),vc P x Q st->iF P c Q st)(b:Bool)(Q:Exit->St->Prop)(st:St)(h:vc P (AC.Ez b x) Q st):iF P c Q st:=by
 cases b with
 | false=>exact ih Q st h
 | true=>exact aoZ (h.mono λaJ h' => ih Q aJ h')
def eval_put{x:Value}(h:d<a.tmps.size):(a.put (U d) x).eval (.tmp d)=x:=by
 simp[Act.put,Act.eval,h]
variable{cb:Code}{i1 out:Nat}{kz:Array Oper}
def rounds{oN oM:Oper}{dI dN dM nxt:Nat}{E0:Env}{s:List UInt8}{I:Nat->St->Prop}
 (h1:kz.toList=[oN,oM]) (hN:oN.op = .next (.tmp dI) aa) (Kg:oN.dst=U dN) (Kh:oN.guard=af) (hM:oM.op = .extract (.tmp dN) 0) (Ke:oM.dst=U dM) (Kf:oM.guard=af)
 (Dd:E0.w.heap.size<=b) (Kt:∀c∈s,c.toNat<128) (BC:∀i aJ,I i aJ -> aJ.t.getD dI .any = .raw (.pointer (U ⟨b,0,af⟩))/\dN<aJ.t.length/\dM<aJ.t.length)
 (Ky:∀i c aJ,s[i]?=U c->I i aJ -> iF P cb (rz nxt (xb out (I (i+1)) Q)) ((aJ.put (U dN) (.bt [.bool aa,.int .i64 (i:Nat),.int .i32 (c.toNat:Nat)])).put (U dM) (.bool aa)))
 (iv:∀aJ,I s.length aJ -> Q .normal ((aJ.put (U dN) (.bt [.bool ak])).put (U dM) (.bool ak)))
 {E:Env} {st:St} {a:Act} (hs:bE E st a) (hf:Fr E0 E) (hr:E.a7 b = .l6) (hh:E.w.heap[b]?=U (.stringIter ⟨s.toArray⟩ 0)) (hI:I 0 st) :
 (Code.block out (.loop (.seq (.region i1 kz ak) (.seq (.cond (.tmp dM) .skip (.exit out)) (.block nxt cb))))).wp P (λe a' w' => ∃E' aJ,E'.w=w' /\ bE E' aJ a' /\ Fr E0 E' /\ Q e aJ) a E.w:=by
 refine wp_block ?_;refine wp_loop (λa w=>∃i aJ E',E'.w=w/\i<=s.length/\I i aJ /\ bE E' aJ a/\Fr E0 E' /\ E'.a7 b = .l6/\E'.w.heap[b]?=U (.stringIter ⟨s.toArray⟩ i)) (λa w=>match w.heap[b]? with | some (.stringIter z p)=>z.size - p | _=>0) ⟨0,st,E,rfl,by omega,hI,hs,hf,hr,hh⟩ ?_;rintro a _ ⟨i,aJ,E',rfl,hi,hI,dj,jX,ck,Dk⟩;obtain⟨hsl,Bv,kR⟩:=BC i aJ hI;have hlen:aJ.t.length=a.tmps.size:=by have:=fI dj.slot;simpa using this
 have hdI:a.eval (.tmp dI) = .pointer (U ⟨b,0,af⟩):=by
  have:=Ba dj.slot dI
  rw[show ev aJ (.s dI)=aJ.t.getD dI .any from rfl,hsl] at this;simpa [R] using this
 have hg0:kz[0]?=U oN:=by rw[<-OC,h1];rfl
 have Gx:kz[1]?=U oM:=by rw[<-OC,h1];rfl
 have cG:kz.size=2:=by rw[<-AL,h1];rfl
 refine wp_seq (wp_region ?_);rw[cG];show wpOps P kz _ [0,1] a E'.w;have step:∀(y:Value) (t:V) (us:Array Value) (bb:Bool) (w1:World) (E1:Env),(Instr.next (.pointer (U ⟨b,0,af⟩)) aa oN.type).run P E'.w = .ok y w1->y = .tuple us->us[0]?=U (.bool bb)->E1.w=w1->bE E1 aJ a->R E1 t y ->
  ∀(QQ:Exit->Act->World->Prop),(∀a',bE E1 ((aJ.put (U dN) t).put (U dM) (.bool bb)) a' -> a'.eval (.tmp dM) = .bool bb->QQ .normal a' w1)->wpOps P kz QQ [0,1] a E'.w:=by
  intro y t us bb w1 E1 cT hy Ll hw oD hR QQ hQ;subst hy;simp only[wpOps,hg0,Gx];rw[aE (by simp[Region.wanted,Kh])];left;unfold Oper.wp;rw[show(execOp a.eval oN).run P E'.w = .ok (.value (.tuple us)) w1 by simp[execOp,hN,hdI,cT]];simp only[Oper.upon];rw[aE (by simp[Region.wanted,Kf])];left;have he:(a.put (U dN) (.tuple us)).eval (.tmp dN) = .tuple us:=eval_put (by omega);rw[Kg,show(execOp (a.put (U dN) (.tuple us)).eval oM).run P w1 = .ok (.value (.bool bb)) w1 by simp[execOp,hM,he,Instr.extract,Ll]];simp only[Ke];refine hQ _ ?_ (eval_put (by simp[Act.put];omega));exact bE.put (bE.put oD hR (U dN)) (by simp[R]) (U dM)
 by_cases aB:i<s.length
 .have sV:s[i]?=U s[i]:=cL aB;have mA:(⟨s.toArray⟩:ByteArray).get! i=s[i]:=by simp[ByteArray.get!,aB]
  have cT:=apY (P:=P) (t:=oN.type) Dk (by simpa [ByteArray.size] using aB) (by rw[mA];exact Kt _ (fh aB));rw[mA] at cT;refine step _ (.bt [.bool aa,.int .i64 (i:Nat),.int .i32 (s[i].toNat:Nat)]) _ aa _ (E'.jq b (.stringIter ⟨s.toArray⟩ (i+1))) cT rfl rfl rfl (bE.jq ck dj) (by simp[R,RL]) _ ?_;intro a' Ld KH;refine wp_seq (wp_cond_true KH (wp_skip ?_));refine wp_block ?_;have qT:Fr E0 (E'.jq b (.stringIter ⟨s.toArray⟩ (i+1))):=Fr.jq jX ck Dd Dk;have Gy:(E'.jq b (.stringIter ⟨s.toArray⟩ (i+1))).w.heap[b]?=U (.stringIter ⟨s.toArray⟩ (i+1)):=Wy Dk;have K3:b<(E'.jq b (.stringIter ⟨s.toArray⟩ (i+1))).w.heap.size:=(kG.1 Gy).1;refine wp_mono (Ky i s[i] aJ sV hI _ a' Ld) ?_;rintro e a2 w2 ⟨E3,yy,rfl,zD,xG,hq⟩;have Bu:=xG.same b K3 (.inr ck);have norm:bq yy (I (i+1))->(∃i aJ E',E'.w=E3.w/\i<=s.length/\I i aJ /\ bE E' aJ a2/\Fr E0 E' /\ E'.a7 b = .l6/\E'.w.heap[b]?=U (.stringIter ⟨s.toArray⟩ i)) /\
   (match E3.w.heap[b]? with | some (.stringIter z p)=>z.size - p | _=>0)<(match E'.w.heap[b]? with | some (.stringIter z p)=>z.size - p | _=>0):=by
   intro hU;obtain⟨E4,WO,Ln,Dh,Lc,J_⟩:=hU E3 a2 zD;have qR:b<E3.w.heap.size:=by rw[Gy] at Bu;exact(kG.1 Bu.1).1
   have Dn:=Dh.same b qR (.inr (Bu.2.trans ck));refine⟨⟨i+1,WO,E4,Ln,aB,J_,Lc,(qT.trans xG).trans Dh,Dn.2.trans (Bu.2.trans ck),Dn.1.trans (Bu.1.trans Gy)⟩,?_⟩;rw[Bu.1,Gy,Dk];simp only[ByteArray.size,O8];omega
  cases e with
  | normal=>exact norm hq
  | exit id =>
   simp only[rz,xb] at hq;simp only[Exit.inBlock,Exit.then]
   by_cases e1:id=nxt
   .rw[aE e1] at hq ⊢;exact norm hq
   .rw[aC e1] at hq ⊢
    by_cases e2:id=out
    .rw[aE e2] at hq ⊢;exact⟨E3,yy,rfl,zD,qT.trans xG,hq⟩
    .rw[aC e2] at hq ⊢;exact⟨E3,yy,rfl,zD,qT.trans xG,hq⟩
  | goto l=>exact⟨E3,yy,rfl,zD,qT.trans xG,hq⟩
  | ret=>exact⟨E3,yy,rfl,zD,qT.trans xG,hq⟩
  | panic c=>exact⟨E3,yy,rfl,zD,qT.trans xG,hq⟩
  | outgrown=>exact⟨E3,yy,rfl,zD,qT.trans xG,hq⟩
 .have zt:i=s.length:=by omega
  subst zt;have cT:=run_next_end (P:=P) (t:=oN.type) Dk (by simp[ByteArray.size]);refine step _ (.bt [.bool ak]) _ ak _ E' cT rfl rfl rfl dj (by simp[R,RL]) _ ?_;intro a' Ld KH;refine wp_seq (wp_cond_false KH (wp_exit ?_));simp only[Exit.then,Exit.inBlock,cD];exact⟨E',_,rfl,Ld,jX,iv aJ hI⟩
variable{ky:Array Oper}
def aoU{VB:(Exit->St->Prop)->St->Prop}{hn:List Nat}{os:List Oper}{oR oN oM:Oper}{l0:List AO}{xt:TypeId}{ox:Operand}{x:X}{dI dN dM i0 nxt:Nat}
 (h0:ky.toList=os++[oR]) (hR:oR.op = .range xt ox) (hRd:oR.dst=U dI) (hRg:oR.guard=af) (ht:P.underlying xt=U .string) (hl:zW P hn ky os=U l0) (hx:cw P xt ox=U x)
 (h1:kz.toList=[oN,oM]) (hN:oN.op = .next (.tmp dI) aa) (Kg:oN.dst=U dN) (Kh:oN.guard=af) (hM:oM.op = .extract (.tmp dN) 0) (Ke:oM.dst=U dM) (Kf:oM.guard=af)
 (hVB:∀Q st,VB Q st->iF P cb Q st) (h:bV P l0 (λmO=>∃s:List UInt8,ev mO x = .aF s/\(∀c∈s,c.toNat<128)/\∃I:Nat->Nat->St->Prop,
   (∀b,bq (mO.put (U dI) (.raw (.pointer (U ⟨b,0,af⟩)))) (I b 0)) /\
   (∀b i aJ,I b i aJ -> aJ.t.getD dI .any = .raw (.pointer (U ⟨b,0,af⟩))/\dN<aJ.t.length/\dM<aJ.t.length) /\
   (∀b i c aJ,s[i]?=U c->I b i aJ -> VB (rz nxt (xb out (I b (i+1)) Q)) ((aJ.put (U dN) (.bt [.bool aa,.int .i64 (i:Nat),.int .i32 (c.toNat:Nat)])).put (U dM) (.bool aa))) /\
   (∀b aJ,I b s.length aJ -> Q .normal ((aJ.put (U dN) (.bt [.bool ak])).put (U dM) (.bool ak)))) st) :
 iF P (.seq (.region i0 ky ak) (.block out (.loop (.seq (.region i1 kz ak) (.seq (.cond (.tmp dM) .skip (.exit out)) (.block nxt cb)))))) Q st:=by
 intro E a hs;refine wp_seq (wp_region ?_);have cG:ky.size=os.length+1:=by rw[<-AL,h0];simp
 have sV:∀j:Nat,ky[j]?=(os++[oR])[j]?:=λj=>by rw[<-h0];simp
 rw[tX,cG,List.range'_concat,show 0+1*os.length=os.length by omega];refine MG (rest:=[os.length]) (K:=_) (E0:=E) ?_ os l0 0 hl ?_ E st a hs (Fr.refl E) h
 .rintro E1 mO a1 oD Bp ⟨s,KI,Kt,I,hU,BC,Ky,iv⟩;have ho:ky[os.length]?=U oR:=by rw[sV];simp
  simp only[wpOps,ho];rw[aE (by simp[Region.wanted,hRg])];left;have fM:=mG (E:=E1) (st:=mO) (a:=a1) oD.slot hx;rw[KI] at fM;simp only[R] at fM;have cT:(execOp a1.eval oR).run P E1.w = .ok (.value (.pointer (U ⟨E1.w.heap.size,0,af⟩))) (E1.w.alloc (.stringIter ⟨s.toArray⟩ 0)):=by simp[execOp,hR,fM,apZ ht]
  unfold Oper.wp;rw[cT];simp only[Oper.upon,hRd];obtain⟨f2,s2,r2,b2⟩:=al2 (s:=⟨s.toArray⟩) (p:=0) oD;have s3:bE (E1.mc (.stringIter ⟨s.toArray⟩ 0)) (mO.put (U dI) (.raw (.pointer (U ⟨E1.w.heap.size,0,af⟩)))) (a1.put (U dI) (.pointer (U ⟨E1.w.heap.size,0,af⟩))):=bE.put s2 (by simp[R]) (U dI);obtain⟨E4,WO,Ln,Dh,Lc,J_⟩:=hU E1.w.heap.size _ _ s3;have K3:E1.w.heap.size<(E1.mc (.stringIter ⟨s.toArray⟩ 0)).w.heap.size:=(kG.1 b2).1;have Dn:=Dh.same E1.w.heap.size K3 (.inr r2)
  have:=rounds (i1:=i1) (out:=out) (nxt:=nxt) (I:=I E1.w.heap.size) h1 hN Kg Kh hM Ke Kf Bp.size Kt (BC E1.w.heap.size) (λi c aJ hc hI=>hVB _ _ (Ky E1.w.heap.size i c aJ hc hI)) (iv E1.w.heap.size) Lc ((Bp.trans f2).trans Dh) (Dn.2.trans r2) (Dn.1.trans b2) J_
  rw[Ln] at this;exact this
 .intro j hj;rw[jy,sV,sA hj]
def aoW{P:Program}{c:Code}(h:iF P c (AT Q) st):iF P (.scope c) Q st:=by
 intro E a hs;refine wp_scope_straight (wp_mono (h E a hs) ?_);rintro e a' w' ⟨E',aJ,rfl,h2,h3,h4⟩;cases e with
 | goto l=>exact h4.elim
 | _=>exact⟨E',aJ,rfl,h2,h3,h4⟩
variable{h:Hint}
def ale{sJ tt nxt i0:Nat}{y:Option AC}{z:AC}(hz:Hn P h ky kz sJ out tt nxt y=U z)(ih:∀y',y=U y' -> ∀(Q:Exit->St->Prop) (st:St),vc P y' Q st->iF P cb Q st)
 (Q:Exit->St->Prop) (st:St) (hv:vc P z Q st):iF P (.seq (.region i0 ky ak) (.block out (.loop (.seq (.region i1 kz ak) (.seq (.cond (.tmp sJ) .skip (.exit tt)) (.block nxt cb)))))) Q st:=by
 unfold Hn at hz;split at hz
 case h_2=>simp at hz
 rename_i oR oN oM y' hl h1;split at hz
 case h_2=>simp at hz
 rename_i xt ox dI Qz dN QA dM g1 g2 g3 g4 g5 g6 g7 g8 g9;split at hz
 case h_2=>simp at hz
 rename_i l x k1 k2 k3;split at hz
 case isFalse=>simp at hz
 rename_i he;obtain⟨rfl,rfl,rfl,rfl⟩:=he;simp only[aZ] at hz;subst hz;have h0:ky.toList=ky.toList.dropLast++[oR]:=by
  obtain⟨ys,pG⟩:=List.getLast?_eq_some_iff.1 hl;rw[pG];simp
 exact aoU (VB:=vc P y') h0 g1 g2 g3 k1 k2 k3 h1 g4 g5 g6 g7 g8 g9 (ih y' rfl) hv
def ala{a b:Code}{z:AC}(hz:fO P h (.seq a b)=U z):(∃x y,fO P h a=U x/\fO P h b=U y/\z = .seq x y) \/
 (∃i0 ky out i1 kz sJ tt nxt cb,a = .region i0 ky ak/\b = .block out (.loop (.seq (.region i1 kz ak) (.seq (.cond (.tmp sJ) .skip (.exit tt)) (.block nxt cb))))/\Hn P h ky kz sJ out tt nxt (fO P h cb)=U z):=by
 have gen:(match fO P h a,fO P h b with | some x,U y=>U (AC.seq x y) | _,_=>af)=U z->∃x y,fO P h a=U x/\fO P h b=U y/\z = .seq x y:=by
  intro e;split at e
  .rename_i x y hx hy;simp only[aZ] at e;exact⟨x,y,hx,hy,e.symm⟩
  .simp at e
 unfold fO at hz;split at hz
 all_goals (try (exfalso;simp_all;done))
 .rename_i heq;simp only[Code.seq.injEq] at heq;obtain⟨rfl,rfl⟩:=heq;split at hz
  .rename_i r hr;exact .inr ⟨_,_,_,_,_,_,_,_,_,rfl,rfl,by rw[hr];exact hz⟩
  .exact .inl (gen hz)
 .rename_i heq;simp only[Code.seq.injEq] at heq;obtain⟨rfl,rfl⟩:=heq;exact .inl (gen hz)
def wQ{h:Hint}:∀(c:Code) (x:AC),fO P h c=U x->∀(Q:Exit->St->Prop) (st:St),vc P x Q st->iF P c Q st
 | .skip,x,hl,Q,st,h=>by simp only[fO,aZ] at hl;subst hl;exact aoY h
 | .region id ops ak, x, hl, Q, st, h => by
  simp only[fO,c7] at hl;obtain⟨l,hl,rfl⟩:=hl;refine Ih (λQ st h E a hs=>?_) _ Q st h;refine wp_region ?_
  have:=MG (P:=P) (ops:=ops) (K:=Q .normal) (E0:=E) (Q:=λe a' w' => ∃E' aJ,E'.w=w' /\ bE E' aJ a' /\ Fr E E' /\ Q e aJ) (rest:=[]) (λE' aJ a' h1 h2 h3=>⟨E',aJ,rfl,h1,h2,h3⟩) ops.toList l 0 hl (λj _=>by simp) E st a hs (Fr.refl E) h
  rw[tX];simpa using this
 | .region id ops aa, x, hl, Q, st, h => by
  simp only[fO] at hl;split at hl
  .rename_i l hC;simp only[aZ] at hl;subst hl;refine Ih (λQ st h=>?_) _ Q st h;exact M3 (acf hC h) λe aJ ⟨h1,h2⟩=>by subst h1;exact h2
  .split at hl
   .rename_i p hC;obtain⟨l,hi⟩:=p;simp only[aZ] at hl;subst hl;refine Ih (λQ st h=>?_) _ Q st h;exact M3 (aiY hC h) λe aJ ⟨h1,h2⟩=>by subst h1;exact h2
   .simp only[c7] at hl;obtain⟨⟨nv,l⟩,hl,rfl⟩:=hl;refine Ih (λQ st h=>?_) _ Q st h;obtain⟨t,h1,h2⟩:=h;obtain⟨_,k2,_,k4⟩:=Pv h1;intro E a hs
    have:=acd (st:=⟨t,st.aD,st.out⟩) (id:=id) hl k2 h2 E a ⟨hs.ok,hs.cV,hs.defers,k4 E _ hs.slot⟩
    exact wp_mono this λe a' w' ⟨E',aJ,m1,m2,m3,m4,m5⟩=>⟨E',aJ,m1,m2,m3,by subst m4;exact m5⟩
 | .seq a b, x, hl, Q, st, h => by
  rcases ala hl with ⟨y,z,hy,hz,rfl⟩ | ⟨i0,ky,out,i1,kz,sJ,tt,nxt,cb,rfl,rfl,hz⟩
  .refine aoX (M3 (wQ a y hy _ st h) λe aJ he=>?_);cases e with
   | normal=>exact wQ b z hz Q aJ he
   | _=>exact he
  .exact ale hz (λy' hy=>wQ cb y' hy) Q st h
 | .cond c a b, x, hl, Q, st, h => by
  simp only[fO] at hl;split at hl
  case h_2=>simp at hl
  rename_i ax y z hx hy hz;simp only[aZ] at hl;subst hl;simp only[vc] at h;split at h
  case h_2=>exact h.elim
  rename_i b' hb;intro E ac hs;have hR:=mG (E:=E) (st:=st) (a:=ac) hs.slot hx;rw[hb] at hR;simp only[R] at hR;exact wp_cond_split hR (λht=>wQ a y hy Q st (h.1 ht) E ac hs) (λht=>wQ b z hz Q st (h.2 ht) E ac hs)
 | .block id a, x, hl, Q, st, h => by
  simp only[fO,c7] at hl;obtain⟨y,hy,rfl⟩:=hl;exact aoQ (wQ a y hy _ st h)
 | .loop a, x, hl, Q, st, h => by
  simp only[fO,c7] at hl;obtain⟨y,hy,rfl⟩:=hl;obtain⟨ι,I,μ,h0,hr⟩:=h;exact aoT I μ h0 λi=>wQ a y hy _ (I i) (hr i)
 | .exit id,x,hl,Q,st,h=>by simp only[fO,aZ] at hl;subst hl;exact aoR h
 | .ret,x,hl,Q,st,h=>by simp only[fO,aZ] at hl;subst hl;exact aoV h
 | .label l,x,hl,Q,st,h=>by simp only[fO,aZ] at hl;subst hl;exact aoS h
 | .goto l,x,hl,Q,st,h=>by simp[fO] at hl
 | .scope a, x, hl, Q, st, h => by
  simp only[fO,c7] at hl;obtain⟨y,hy,rfl⟩:=hl;exact aoW (wQ a y hy _ st h)
 | .refuse w,x,hl,Q,st,h=>by simp[fO] at hl
 | .rangeFunc f p a b,x,hl,Q,st,h=>by simp[fO] at hl
inductive RV where
 | tmp (t:Nat)
 | cell (t:Nat) (agg:Bool) (n:Nat)
def Mj(P:Program):ResultVar->Option RV
 | .tmp t=>U (.tmp t)
 | .cell a t=>match gJ P t,dW P t with | some g,U n=>U (.cell a g n) | _,_=>af
def zY(P:Program):List ResultVar->Option (List RV)
 | []=>U []
 | r::rs=>(Mj P r).bind λx=>(zY P rs).map (x::·)
def rv(st:St):RV->Option V
 | .tmp t=>U (st.t.getD t .any)
 | .cell t g n=>kW st g n (st.t.getD t .any)
def tE(st:St):List RV->Option (List V)
 | []=>U []
 | r::rs=>(rv st r).bind λx=>(tE st rs).map (x::·)
def tq:List V->V
 | [x]=>x
 | xs=>.bt xs
def ag.sub(σ' Z:ag):Prop:=(∀b cs,σ'.box b=U cs->Z.box b=U cs)/\(∀t n,σ'.aK t=U n->Z.aK t=U n)/\∀b cs,σ'.bY b=U cs->Z.bY b=U cs
def ag.bc(Z:ag):Z.sub Z:=⟨λ_ _ h=>h,λ_ _ h=>h,λ_ _ h=>h⟩
def mV(R' : V->ag->Prop)(st:St):V->Prop:=λv=>v.cI=aa/\∃(σ' : ag) (w:V),σ'.sub st.out/\(w=v.erase\/w=v)/\R' w σ'
def Ff(rs:List RV)(R' : V->ag->Prop):Exit->St->Prop
 | .normal,st | .ret,st=>opt ((tE st rs).map tq) (mV R' st)
 | _,_=>False
def V7{E:Env}{st:St}{a:Act}(hs:bE E st a):∀{rs:List ResultVar} {ys:List RV} {vs:List V},zY P rs=U ys->tE st ys=U vs ->
 ∃us:List Value,(rs.mapM λ| .tmp t=>pure (a.tmps.getD t undef) | .cell ad t=>do loadVar t (<-asAddr (a.tmps.getD ad undef)):Sem (List Value)).run P E.w = .ok us E.w/\RL E vs us
 | [], ys, vs, h1, h2 => by
  simp only[zY,aZ] at h1;subst h1;simp only[tE,aZ] at h2;subst h2;exact⟨[],by simp,by simp[RL]⟩
 | r :: rs, ys, vs, h1, h2 => by
  simp only[zY,iI,c7] at h1;obtain⟨y,hy,XL,pG,rfl⟩:=h1;simp only[tE,iI,c7] at h2;obtain⟨v,hv,B9,BG,rfl⟩:=h2;obtain⟨us,k1,k2⟩:=V7 hs pG BG;cases r with
  | tmp t =>
   simp only[Mj,aZ] at hy;subst hy;simp only[rv,aZ] at hv;subst hv;have hR:=Ba hs.slot t;refine⟨a.tmps.getD t undef::us,?_,by simp only[RL];exact⟨hR,k2⟩⟩;rw[List.mapM_cons];simp only[Sem.run_bind,Sem.run_pure,Result.andThen_ok,k1]
  | cell ad t =>
   simp only[Mj] at hy;split at hy
   case h_2=>simp at hy
   rename_i g n hg hn;simp only[aZ] at hy;subst hy;simp only[rv] at hv;have hR:=Ba hs.slot ad;have px : R E (st.t.getD ad .any) (a.tmps.getD ad undef):=hR;obtain⟨b,off,cs,e1,e2,e3⟩:=Tx hs hv px;obtain⟨u,e4,e5⟩:=run_load (P:=P) hg hn e2 e3;refine⟨u::us,?_,by simp only[RL];exact⟨e5,k2⟩⟩;rw[List.mapM_cons];have e6:((do loadVar t (<-asAddr (a.tmps.getD ad undef)):Sem Value)).run P E.w = .ok u E.w:=by
    rw[e1];simp only[asAddr,Sem.run_bind,Sem.run_pure,Result.andThen_ok,e4]
   rw[Sem.run_bind];show((do loadVar t (<-asAddr (a.tmps.getD ad undef)):Sem Value).run P E.w).andThen _=_;rw[e6,Result.andThen_ok,Sem.run_bind,k1,Result.andThen_ok,Sem.run_pure]
variable{f:FuncId}{fn:Func}
def ac0(hf:P.funcs[f]?=U fn)(hn:(fn.name == "runtime.NumGoroutine")=ak)(hb:fn.body.isNone=ak):OJ P f:=λargs w=>by
 have b9 : fn.body.isNone=false:=hb;simp only[callFunc,Sem.run_bind,run_program,Result.andThen_ok,hf];split
 .rename_i h;simp[hn] at h
 .split
  .rename_i h;simp at h;rw[h] at b9;simp at b9
  .rfl
def aoa{c:Code}{x:AC}{rs:List RV}(hf:P.funcs[f]?=U fn)(aiQ:(fn.name == "runtime.NumGoroutine")=ak)(hb:fn.body=U c)(hl:fO P h c=U x)(hr:zY P fn.results.toList=U rs)
 {n:Nat} (hn:fn.ntmps=n) {args:List V} {Z:ag} {R' : V->ag->Prop} (hv:vc P x (Ff rs R') ⟨args++au (n - args.length) .any,[],Z⟩):cg P f args Z R' := by
 refine⟨ac0 hf aiQ (by rw[hb];rfl),λE vs KZ b_ Kr=>?_⟩;refine calls_of_wp hf hb ?_;have hlen:=fI Kr;have hs:bE E ⟨args++au (n - args.length) .any,[],Z⟩ {tmps:=vs++Array.replicate (fn.ntmps - vs.size) undef,defers:=[]}:=by
  refine⟨b_,⟨λi cs h=>by simp at h,λi _=>KZ i⟩,rfl,?_⟩;simp only[Array.toList_append,Array.toList_replicate];refine tZ Kr ?_;rw[hn,show args.length=vs.size from by simpa using hlen]
  have:=Pd (E:=E) (au (n - vs.size) undef)
  simpa using this
 refine wp_mono (wQ c x hl _ _ hv E _ hs) ?_;rintro e a' w' ⟨E',aJ,rfl,dj,bf,hq⟩;have fin:opt ((tE aJ rs).map tq) (mV R' aJ)->a'.defers=[]/\∃v,(results fn a'.tmps).run P E'.w = .ok v E'.w /\
  ∃v' x mo σ',Ending.returned v = .returned x/\mo.w=E'.w/\(∀i,mo.aD i=af)/\mo.ok σ' /\ R mo v' x/\Fr E mo /\ R' v' σ' := λhq=>by
  refine⟨dj.defers,?_⟩;unfold opt at hq;split at hq
  case h_2=>exact hq.elim
  rename_i v hv;simp only[c7] at hv;obtain⟨B9,BG,rfl⟩:=hv;obtain⟨us,k1,k2⟩:=V7 (P:=P) dj hr BG;obtain⟨n8,σ',w,pD,hw,px⟩:=hq;have fL:∃u,(results fn a'.tmps).run P E'.w = .ok u E'.w/\R E' (tq B9) u:=by
   have iA:(results fn a'.tmps).run P E'.w = .ok (if h:us.toArray.size=1 then us.toArray[0] else .tuple us.toArray) E'.w:=by
    unfold results;rw[<-Array.toArray_toList (xs:=fn.results),List.mapM_toArray];simp only[Sem.run_bind,Sem.run_map]
    erw [k1]
    simp only[Result.andThen_ok,Sem.run_pure]
   refine⟨_,iA,?_⟩;have kR:=fI k2
   match B9,us,k2 with
   | [y], [u], k2 =>
    simp only[RL] at k2;simp[tq,k2.1]
   | [],[],k2=>simp[tq,R];exact k2
   | y :: z :: ys, u :: u' :: lT, k2 =>
    simp only[tq];rw[dif_neg (by simp)];simp only[R];exact⟨_,rfl,by simpa using k2⟩
  obtain⟨u,hu,R8⟩:=fL
  let mo : Env:={E' with aD:=λ_=>af,a7:=λb=>match E'.a7 b with | .iB _=>.l6 | r=>r}
  have dv:∀b,mo.a7 b=match E'.a7 b with | .iB _=>.l6 | r=>r:=λ_=>rfl
  have ain:∀b o,(mo.a7 b).gW o↔(E'.a7 b).gW o:=λb o=>by rw[dv];cases E'.a7 b<;>simp[eT.gW]
  have KY:∀b t c,E'.a7 b = .gl t c->mo.a7 b = .gl t c:=λb t c h=>by rw[dv,h]
  have hle:E'.nl.le mo.nl:=⟨λb o _ hc hv=>⟨(ain b o).2 hc,hv⟩,λ_ _ h=>by simp at h,λt n hn=>⟨n,hn,bP _,λ_ b c hb=>⟨KY b t c hb,λcs _ hc=>⟨cs,hc,rfl⟩⟩⟩⟩;have xH : Fr E' mo := by
   refine⟨rfl,rfl,rfl,bP _,λ_=>rfl,hle.cell,hle.tok,λb _ hr=>⟨rfl,?_⟩,λb _ h=>?_,λb t c _ h=>?_,λb i _ h=>?_,λ_ c _ h=>⟨c,h,rfl⟩⟩
   .rw[dv];rcases hr with hr | hr<;>rw[hr]
   .rw[dv] at h;cases hq:E'.a7 b<;>rw[hq] at h<;>simp at h;exact .inl rfl
   .rw[dv] at h;cases hq:E'.a7 b<;>rw[hq] at h<;>simp at h;exact⟨_,by rw[h.1]⟩
   .rw[dv] at h;cases hq:E'.a7 b<;>rw[hq] at h<;>simp at h
  refine⟨u,hu,w,u,mo,σ',rfl,rfl,λ_=>rfl,⟨λb cs bR=>?_,λt m ht=>dj.ok.aK t m (pD.2.1 t m ht),λb hb=>?_,dj.ok.nt,λb cs hc=>dZ.mono _ hle (dj.ok.bY b cs (pD.2.2 b cs hc))⟩,?_,bf.trans xH,px⟩
  .obtain⟨h1,h2⟩:=dj.ok.box b cs (pD.1 b cs bR);exact⟨by rw[dv,h1],h2.mono hle rfl⟩
  .rw[dv,dj.ok.fresh b hb]
  .rcases hw with rfl | rfl
   .exact R.erase _ (R8.o7 _ hle n8)
   .exact R8.o7 _ hle n8
 cases e with
 | normal=>exact fin hq
 | ret=>exact fin hq
 | _=>exact hq.elim
end
structure aT(P:Program)(f:FuncId)(x:AC)(rs:List RV)(n:Nat):Prop where
 is:∃fn h,P.funcs[f]?=U fn/\(fn.name == "runtime.NumGoroutine")=ak/\fn.body.bind (fO P h)=U x/\zY P fn.results.toList=U rs/\fn.ntmps=n
def aR(n:Nat)(args:List V):List V:=args++au (n - args.length) .any
variable{f:FuncId}
def aT.aS{x:AC}{rs:List RV}{n:Nat}(h:aT P f x rs n){args:List V}{Z:ag}{R' : V->ag->Prop}(hv:vc P x (Ff rs R') ⟨aR n args,[],Z⟩):cg P f args Z R' := by
 obtain⟨fn,hi,h1,h2,h3,h4,h5⟩:=h.is;simp only[iI] at h3;obtain⟨c,hb,hl⟩:=h3;exact aoa h1 h2 hb hl h4 h5 hv
end Go.Am
