/-
  Part 2 of the proof of StackFramesUptoCardSaid: a logic over the model, the forms of the functions that the law reaches, and what they compute.
-/
import Derived.Lib.Bytealg
import Derived.Laws.Pointers
import Derived.Scope
import Derived.Test.YtnpggmhoandloaaGreatDoorFrames1
set_option linter.unusedVariables false
set_option linter.unusedSimpArgs false
set_option linter.defProp false
set_option linter.unusedSectionVars false
set_option maxRecDepth 4000
set_option maxHeartbeats 4000000
open Option renaming some->aa,none->ag
open Bool renaming true->ab,false->ak
open List renaming replicate->ar,range->bX,getD->ij,zipWith->l8
open Eq renaming mpr->eU
open Ne renaming symm->fF
namespace Go.Am
def G3{P:Program}{SN:List dm}{p:Nat->DI->Bool}{S:Nat->Bool}:∀{l:List (AO × List Nat)} {b:List Nat} {tr:List TR} {t:List V} {s:dm} {i:Nat},yo P SN l tr t s->b.length=l.length ->
 (∀(j:Nat) x,l[j]?=aa x->x.1.op.bq=ab->S (i+j)=p (i+j) (fD x (b.getD j 0)))->cI S i tr=(((l8 fD l b).zipIdx i).filter λ(x,j)=>x.bq&&p j x).length
 | [],b,[],_,_,_,_,_,_=>by simp[cI]
 | [],_,_::_,_,_,_,h,_,_=>h.elim
 | (_,_)::_,_,[],_,_,_,h,_,_=>h.elim
 | (o,ms)::l,[],_::_,_,_,_,_,hb,_=>by simp at hb
 | (o, ms) :: l, m :: b, r :: tr, t, s, i, h, hb, hp => by
  have ih:=G3 (p:=p) (S:=S) (i:=i+1) h.2 (by simpa using hb) λj x hx he=>by
   have:=hp (j+1) x (by simpa using hx) he
   rw[show i+(j+1)=i+1+j from by omega] at this;simpa using this
  have he:r.bq=o.op.bq:=h.1.2.1;have h0:o.op.bq=ab->S i=p i (fD (o,ms) m):=λhe=>by simpa using hp 0 (o,ms) (by simp) he
  simp only[cI,List.zipWith_cons_cons,List.zipIdx_cons,Gj];rw[ih];have hd:(fD (o,ms) m).bq=o.op.bq:=rfl;cases hq:o.op.bq
  .simp[he,hq,hd]
  .rw[h0 hq];simp only[he,hd,hq,wH,lD];cases p i (fD (o,ms) m)
   .simp
   .simp;omega
section
variable {P:Program} {ops:Array Oper} {l:List (AO × List Nat)} {b:List Nat} {SN:List dm} {tr:List TR} {t0:List V} {s0:dm}
structure DE(ops:Array Oper)(tr:List TR)(t0:List V)(s0:dm)(E0:Env)(X:Array Bool->Env->Act->Prop)(listed:Array Bool)(a:Act)(w:World):Prop where
 size:listed.size=ops.size
 closed:∀(i:Nat) o,ops[i]?=aa o->listed.getD i ak=ab->∀e∈o.after,Region.binds .any e=ab->listed.getD e.on ak=ab
 rel:∃E,E.w=w/\bH E (cf (runT (cF (λj=>listed.getD j ak) 0 tr) t0) (dW (cF (λj=>listed.getD j ak) 0 tr) s0)) a/\Fr E0 E/\X listed E a
def KG(F:zP ops l b){S:Nat->Bool}(hc:∀(i:Nat) o,ops[i]?=aa o->S i=ab->∀e∈o.after,Region.binds .any e=ab->S e.on=ab):
 ∀(n i:Nat),i<n->i<ops.size->S i=ab->∀j,(b.getD i 0).testBit j=ab->S j=true:=by
 intro n;induction n with
 | zero=>intro i h;omega
 | succ n ih =>
  intro i hi aC hS j hj;obtain⟨e,h1,h2,h3⟩:=F.mask i ops[i] (mH aC) j hj;have he:=hc i _ (mH aC) hS e h1 h2;have hb:=F.back i _ (mH aC) e h1 h2
  rcases h3 with rfl | h3
  .exact he
  .exact ih e.on (by omega) (by omega) he j h3
def Hu(listed:Array Bool)(i:Nat)(h:i<listed.size):listed.getD i ab=listed.getD i false:=by simp[h]
def Spec(P:Program)(l:List (AO × List Nat))(b:List Nat)(t0:List V)(E0:Env)(X:Array Bool->Env->Act->Prop)(i:Nat)(o:Oper)(ao:AO):Prop :=
 o.guard=ag/\ao.guard=ag/\∀(E:Env) (a:Act) (t:List V) (s:dm) (v:V) (s' : dm) (listed:Array Bool) (Q:Exit->Act->World->Prop),i<listed.size->listed.getD i ak=ak->(∀j,(b.getD i 0).testBit j=ab->listed.getD j ak=ab) ->
  (∀j,j<b.length->(b.getD j 0).testBit i=ab->listed.getD j ak=ak)->(∀d,(∀(j:Nat) x,l[j]?=aa x->x.1.dst=aa d->listed.getD j ak=ak)->t.getD d .any=t0.getD d .any) ->
  bH E (cf t s) a->Fr E0 E->X listed E a->ao.op.bh P (cf t s) (Exact t v s') ->
  o.wp P a E.w (λa' w' => ∃E',E'.w=w' /\ bH E' (cf (kS t ao.dst v) s') a' /\ Fr E0 E' /\ X (listed.setIfInBounds i ab) E' a') Q
def R5(F:zP ops l b)(lg:b.length=ops.size)(ui:SN=s0::la tr)(ht:yo P SN l tr t0 s0)
 {E0:Env} {X:Array Bool->Env->Act->Prop} {Q:Exit->Act->World->Prop} {listed:Array Bool} {a:Act} {w:World} (h:DE ops tr t0 s0 E0 X listed a w) {i:Nat} (hi:i∈Region.ready .any ops listed)
 (v7:∀o,ops[i]?=aa o->∃x:AO × List Nat,l[i]?=aa x/\((uF P ops o=aa x.1/\∀listed E E' a u,X listed E a->Fr E E' -> X (listed.setIfInBounds i ab) E' (a.put o.dst u))\/Spec P l b t0 E0 X i o x.1)) {K:Act->World->Prop}
 (hK:∀a w,DE ops tr t0 s0 E0 X (listed.setIfInBounds i ab) a w->K a w):wpOp P ops Q i K a w:=by
 obtain⟨y7,o,ho,cK⟩:=mem_ready.1 hi;have aC:i<ops.size:=(lC.1 ho).1;have mn : i<listed.size:=by rw[h.size];exact aC
 obtain⟨E,rfl,hs,bj,hX⟩:=h.rel
 let S:Nat->Bool:=λj=>listed.getD j ak
 have Em:S i=false:=by show listed.getD i ak=ak;rw[<-Hu _ _ mn];exact y7
 obtain⟨x,hx,Mk⟩:=v7 o ho;obtain⟨ao,ms⟩:=x;have hlen:=GB ht;have ald:i<tr.length:=by rw[<-hlen,F.size];exact aC
 obtain⟨r,hr⟩:∃r,tr[i]?=aa r:=⟨tr[i],cS ald⟩;have eP:=GC (i:=0) (k:=i) ht hx hr;rw[jY] at eP;obtain⟨hd,he,run,Cx,dc,ak9⟩:=eP
 -- who is done,who is not
 have Cs:∀j,(b.getD i 0).testBit j=ab->S j=true:=λj hj=>by
  obtain⟨e,h1,h2,h3⟩:=F.mask i o ho j hj;have hb:=cK e h1 h2
  rcases h3 with rfl | h3
  .exact hb
  .exact KG F (S:=S) h.closed ops.size e.on (by have:=F.back i o ho e h1 h2;omega) (by have:=F.back i o ho e h1 h2;omega) hb j h3
 have Es:∀j,j<ops.size->(b.getD j 0).testBit i=ab->S j=false:=λj hj hb=>by
  cases hq:S j with
  | false=>rfl
  | true =>
   have:=KG F (S:=S) h.closed ops.size j hj hj hq i hb
   rw[this] at Em;simp at Em
 have xi:∀(j:Nat) r',tr[j]?=aa r' -> ∃y,l[j]?=aa y/\r'.dst=y.1.dst/\r'.bq=y.1.op.bq/\j<ops.size:=λj r' cB => by
  have hj:=(fv.1 cB).1;have ur:j<l.length:=by omega
  have:=GC (i:=0) (k:=j) ht (cS ur) cB
  exact⟨l[j],cS ur,this.1,this.2.1,by rw[<-F.size];exact ur⟩
 -- what it reads is what it read in the text's order
 have CO:∀n,n∈zu ao->(runT (cF S 0 tr) t0).getD n .any=(runT (cF (eE i) 0 tr) t0).getD n .any:=λn hn=>by
  refine zF rfl rfl λj r' cB hd' => ?_
  rw[jY];obtain⟨y,hy,AT,_,mm⟩:=xi j r' cB;obtain⟨aW,j7⟩:=F.slot i j (ao,ms) y hx hy n (by rw[<-AT];exact hd') hn
  rcases wP j i with fV | fV
  .have hu:eE i j=true:=by simp[eE,fV]
   rw[hu]
   rcases j7 with h1 | h1
   .exact Cs j h1
   .exfalso
    obtain⟨e,k1,k2,k3⟩:=F.mask j _ (mH mm) i h1
    have:=F.back j _ (mH mm) e k1 k2
    have key:∀n q,q<n->q<ops.size->∀z,(b.getD q 0).testBit z=ab->z<q:=by
     intro n;induction n with
     | zero=>intro q h;omega
     | succ n ih =>
      intro q hq EP z hz;obtain⟨e',m1,m2,m3⟩:=F.mask q _ (mH EP) z hz;have cc := F.back q _ (mH EP) e' m1 m2
      rcases m3 with rfl | m3
      .exact cc
      .have:=ih e'.on (by omega) (by omega) z m3;omega
    have:=key (j+1) j (by omega) mm i h1
    omega
  .have hu:eE i j=false:=by simp[eE];omega
   rw[hu]
   rcases j7 with h1 | h1
   .exfalso
    have key:∀n q,q<n->q<ops.size->∀z,(b.getD q 0).testBit z=ab->z<q:=by
     intro n;induction n with
     | zero=>intro q h;omega
     | succ n ih =>
      intro q hq EP z hz;obtain⟨e',m1,m2,m3⟩:=F.mask q _ (mH EP) z hz;have cc := F.back q _ (mH EP) e' m1 m2
      rcases m3 with rfl | m3
      .exact cc
      .have:=ih e'.on (by omega) (by omega) z m3;omega
    have:=key (i+1) i (by omega) aC j h1
    omega
   .exact Es j mm h1
 -- memory
 have qv:∀T:Nat->Bool,(∀(j k:Nat),j<ops.size->k<ops.size->(∀y z,l[j]?=aa y->l[k]?=aa z->y.1.op.bq=ab->z.1.op.bq=ab->j<k->T k=ab->T j=ab)) ->
  dW (cF T 0 tr) s0=SN.getD (cI T 0 tr) Dm:=λT hT=>by
  rw[ui];refine Xt λj k r1 r2 h1 h2 e1 e2 AI hk=>?_
  obtain⟨y,hy,_,ye,mm⟩:=xi j r1 h1;obtain⟨z,hz,_,ze,fW⟩:=xi k r2 h2;rw[jY] at hk ⊢;exact hT j k mm fW y z hy hz (by rw[<-ye];exact e1) (by rw[<-ze];exact e2) AI hk
 have Hz:∀(j k:Nat),j<ops.size->k<ops.size->(∀y z,l[j]?=aa y->l[k]?=aa z->y.1.op.bq=ab->z.1.op.bq=ab->j<k->S k=ab->S j=ab):=λj k _ hk y z hy hz e1 e2 AI Cr =>
  KG F (S:=S) h.closed ops.size k hk hk Cr j (F.bq j k y z hy hz AI e1 e2)
 have ME:∀q (j k:Nat),j<ops.size->k<ops.size->(∀y z,l[j]?=aa y->l[k]?=aa z->y.1.op.bq=ab->z.1.op.bq=ab->j<k->eE q k=ab->eE q j=ab):=λq j k _ _ _ _ _ _ _ _ AI hk=>by
  simp[eE] at hk ⊢;omega
 have Uq:ao.op.bq=ab->dW (cF S 0 tr) s0=dW (cF (eE i) 0 tr) s0:=λs7=>by
  rw[qv S Hz,qv (eE i) (ME i)];congr 1;refine G4 λj r' cB y4=>?_
  rw[jY];obtain⟨y,hy,_,ye,mm⟩:=xi j r' cB
  rcases zZ j i with fV | fV | fV
  .have:eE i j=true:=by simp[eE,fV]
   rw[this];exact Cs j (F.bq j i y (ao,ms) hy hx fV (by rw[<-ye];exact y4) s7)
  .subst fV
   have:eE j j=false:=by simp[eE]
   rw[this];exact Em
  .have:eE i j=false:=by simp[eE];omega
   rw[this];exact Es j mm (F.bq i j (ao,ms) y hx hy fV s7 (by rw[<-ye];exact y4))
 -- the next state
 have LJ:(λj=>(listed.setIfInBounds i ab).getD j ak)=add S i:=by
  funext j;simp only[add,S]
  by_cases fV:j=i
  .subst fV;simp[mn]
  .rw[qW,BL (fF fV),<-qW];simp[fV]
 have hT:runT (cF (add S i) 0 tr) t0=kS (runT (cF S 0 tr) t0) r.dst r.val :=
  Xv (by omega) (by simpa using hr) Em λj r' cB aW n hn Mm => by
   obtain⟨y,hy,AT,_,_⟩:=xi j r' cB;exact F.dst j i y (ao,ms) hy hx (by omega) n (by rw[<-hd];exact hn) (by rw[<-AT];exact Mm)
 have akh:∀(j k:Nat),j<ops.size->k<ops.size->(∀y z,l[j]?=aa y->l[k]?=aa z->y.1.op.bq=ab->z.1.op.bq=ab->j<k->add S i k=ab->add S i j=ab):=λj k hj hk y z hy hz e1 e2 AI Cr=>by
  simp only[add,nh,cn] at Cr ⊢
  rcases Cr with Cr | rfl
  .exact .inl (Hz j k hj hk y z hy hz e1 e2 AI Cr)
  .exact .inl (Cs j (F.bq j k y z hy hz AI e1 e2))
 have LH:dW (cF (add S i) 0 tr) s0=if ao.op.bq then r.zJ else dW (cF S 0 tr) s0:=by
  rw[qv (add S i) akh];cases s7:ao.op.bq
  .simp only[da,bZ];rw[qv S Hz];congr 1;refine G4 λj r' cB y4=>?_
   rw[jY];obtain⟨y,hy,_,ye,_⟩:=xi j r' cB;have fV:j≠i:=by
    rintro rfl;rw[hx] at hy;simp at hy;subst hy;rw[ye,s7] at y4;simp at y4
   simp[add,fV]
  .simp only[cm];have h1:cI (add S i) 0 tr=cI (eE (i+1)) 0 tr:=G4 λj r' cB y4=>by
    rw[jY];obtain⟨y,hy,_,ye,mm⟩:=xi j r' cB
    rcases zZ j i with fV | fV | fV
    .have:eE (i+1) j=true:=by simp[eE];omega
     rw[this]
     have:=Cs j (F.bq j i y (ao,ms) hy hx fV (by rw[<-ye];exact y4) s7)
     simp[add,this]
    .subst fV;simp[add,eE]
    .have:eE (i+1) j=false:=by simp[eE];omega
     rw[this]
     have:=Es j mm (F.bq i j (ao,ms) y hx hy fV s7 (by rw[<-ye];exact y4))
     simp[add,this];omega
   rw[h1,<-qv (eE (i+1)) (ME (i+1))];have awm : eE (i+1)=add (eE i) i:=by
    funext j;simp only[eE,add];rw[DH];simp;omega
   -- the run up to and with i
   have key:∀(tr:List TR) (q:Nat) (s:dm),q<=i->tr[i - q]?=aa r->dW (cF (eE (i+1)) q tr) s=r.zJ:=by
    intro tr;induction tr with
    | nil=>intro q s _ h;simp at h
    | cons r' tr ih =>
     intro q s hq h;have hu:eE (i+1) q=true:=by simp[eE];omega
     simp only[cF,hu,cm,dW]
     by_cases hqi:q=i
     .subst hqi;simp at h;subst h;rw[OX (by omega)];simp[dW,he,s7]
     .exact ih (q+1) _ (by omega) (by rw[show i - q=(i - (q+1))+1 from by omega] at h;simpa using h)
   exact key tr 0 s0 (by omega) (by simpa using hr)
 -- the closure
 have aks : ∀(j:Nat) o',ops[j]?=aa o' -> (listed.setIfInBounds i ab).getD j ak=ab->∀e∈o'.after,Region.binds .any e=ab->(listed.setIfInBounds i ab).getD e.on ak=true:=λj o' fX hj e h1 h2=>by
  have ej:(listed.setIfInBounds i ab).getD j ak=add S i j:=congrFun LJ j;have ee:(listed.setIfInBounds i ab).getD e.on ak=add S i e.on:=congrFun LJ e.on;rw[ee];rw[ej] at hj;simp only[add,nh,cn] at hj ⊢
  rcases hj with hj | rfl
  .exact .inl (h.closed j o' fX hj e h1 h2)
  .rw[ho] at fX;simp only[a9] at fX;subst fX;exact .inl (cK e h1 h2)
 have VR:∀E' a' t' s',E'.w=E'.w->t' = runT (cF (add S i) 0 tr) t0->s' = dW (cF (add S i) 0 tr) s0->bH E' (cf t' s') a' -> Fr E0 E' -> X (listed.setIfInBounds i ab) E' a' -> K a' E'.w:=λE' a' t' s' _ e1 e2 dL kG kl => by
  refine hK a' E'.w ⟨by simp[h.size],aks,E',rfl,?_,kG,kl⟩;rw[LJ,<-e1,<-e2];exact dL
 -- the machine's step
 unfold wpOp;rw[ho];simp only;have akT:∀g n y,ao.op = .load g n y->run=ab->sy (dW (cF S 0 tr) s0) g n (ev (cf (runT (cF (eE i) 0 tr) t0) (dW (cF (eE i) 0 tr) s0)) y)=aa r.val:=λg n y hy j8=>by
  obtain⟨ln,xn⟩:=dc j8;rw[qv S Hz];have akO:ao.op.C1=true:=by rw[hy];rfl
  have hm:=F.load i (ao,ms) hx akO (cI S 0 tr);have akS : pX (l8 fD l b) (fD (ao,ms) (b.getD i 0))<=cI S 0 tr:=by
   have e:pX (l8 fD l b) (fD (ao,ms) (b.getD i 0))=cI (λj=>(b.getD i 0).testBit j) 0 tr:=by
    unfold pX B_;exact(G3 (p:=λj _=>(b.getD i 0).testBit j) (S:=λj=>(b.getD i 0).testBit j) ht (by rw[lg,F.size]) (λj y _ _=>rfl)).symm
   rw[e];exact KI λj r' _ _ hb=>by rw[jY] at hb ⊢;exact Cs j hb
  have akK : cI S 0 tr<=yW (l8 fD l b) i:=by
   have e:yW (l8 fD l b) i=cI (λj=>!((b.getD j 0).testBit i)) 0 tr:=by
    unfold yW B_;exact(G3 (p:=λ_ y=>!(y.mask.testBit i)) (S:=λj=>!((b.getD j 0).testBit i)) ht (by rw[lg,F.size]) (λj y _ _=>by simp[fD])).symm
   rw[e];refine KI λj r' cB _ LG=>?_
   rw[jY] at LG ⊢;obtain⟨y,_,_,_,mm⟩:=xi j r' cB;cases hb:(b.getD j 0).testBit i with
   | false=>rfl
   | true=>rw[Es j mm hb] at LG;simp at LG
  rcases hm akS akK with hm | hm
  .exact xn g n y hy _ hm
  .have e:Bg (l8 fD l b) i=cI (eE i) 0 tr:=by
    unfold Bg B_;exact(G3 (p:=λj _=>decide (j<i)) (S:=eE i) ht (by rw[lg,F.size]) (λj y _ _=>rfl)).symm
   rw[hm,e,<-qv (eE i) (ME i)];rw[hy] at ln;simp only[aO.bh] at ln;rw[U7] at ln;cases hq:sy (dW (cF (eE i) 0 tr) s0) g n (ev (cf (runT (cF (eE i) 0 tr) t0) (dW (cF (eE i) 0 tr) s0)) y) with
   | none=>rw[hq] at ln;exact ln.elim
   | some u=>rw[hq] at ln;rw[ln.1]
 have qB:∀y∈ao.op.xs,ev (cf (runT (cF S 0 tr) t0) (dW (cF S 0 tr) s0)) y=ev (cf (runT (cF (eE i) 0 tr) t0) (dW (cF (eE i) 0 tr) s0)) y:=λy hy =>
  ae3 λn hn=>CO n (by simp only[zu,jC,Qk];exact .inl ⟨y,hy,hn⟩)
 have Un : run=ab->ao.op.bh P (cf (runT (cF S 0 tr) t0) (dW (cF S 0 tr) s0)) (Exact (runT (cF S 0 tr) t0) r.val (if ao.op.bq then(if ao.op.bq then r.zJ else dW (cF (eE i) 0 tr) s0) else dW (cF S 0 tr) s0)):=λj8 =>
  asU (P:=P) (op:=ao.op) (t:=runT (cF (eE i) 0 tr) t0) (t2:=runT (cF S 0 tr) t0) (s:=dW (cF (eE i) 0 tr) s0) (s2:=dW (cF S 0 tr) s0) qB Uq (λg n y hy=>akT g n y hy j8) (dc j8).1
 rcases Mk with ⟨Mk,hXg⟩ | ak_
 case' inr =>
  obtain⟨HO,xk,tq⟩:=ak_;rw[aE (by simp[Region.wanted,HO])];left;have j8:run=true:=by rw[xk] at Cx;exact Cx
  have mu:∀d,(∀(j:Nat) x,l[j]?=aa x->x.1.dst=aa d->listed.getD j ak=ak)->(runT (cF S 0 tr) t0).getD d .any=t0.getD d .any:=λd hd=>by
   have h1:=zF (S:=S) (S' := λ_=>ak) (x:=d) (tr:=tr) (i:=0) (t:=t0) (t' := t0) rfl rfl λj r' cB hrd=>by
    obtain⟨y,hy,AT,_,_⟩:=xi j r' cB;rw[jY];exact hd j y hy (by rw[<-AT];exact hrd)
   rw[h1]
   have:∀(tr:List TR) (q:Nat),cF (λ_=>ak) q tr=[]:=by
    intro tr;induction tr with
    | nil=>intro q;rfl
    | cons r tr ih=>intro q;simp only[cF,da,bZ];exact ih _
   rw[this];rfl
  refine Oper.wp_mono ?_ (tq E a _ _ _ _ listed Q mn Em Cs (λj hj=>Es j (by omega)) mu hs bj hX (Un j8));rintro a' w' ⟨E',rfl,dL,kG,kl⟩;refine VR E' a' _ _ rfl ?_ ?_ dL kG kl
  .rw[hT,hd]
  .rw[LH];cases s7:ao.op.bq<;>simp
 have next:∀E' u t' s',t' = runT (cF (add S i) 0 tr) t0->s' = dW (cF (add S i) 0 tr) s0->bH E' (cf t' s') (a.put o.dst u)->Fr E E' -> K (a.put o.dst u) E'.w:=λE' u t' s' e1 e2 dL kG => VR E' _ t' s' rfl e1 e2 dL (bj.trans kG) (hXg _ _ _ _ _ hX kG)
 have eg:=Mk;unfold uF at eg;split at eg
 .simp at eg
 rename_i op mo;have alf:Region.wanted o (yielded ops a.tmps)=run/\op=ao.op/\o.dst=ao.dst:=by
  cases hg:o.guard with
  | none =>
   rw[hg] at eg;simp only[a9] at eg;subst eg;simp only at Cx;exact⟨by simp[Region.wanted,hg,Cx],rfl,rfl⟩
  | some p =>
   obtain⟨j,want⟩:=p;rw[hg] at eg;simp only at eg;split at eg
   case h_2=>simp at eg
   rename_i g pP;simp only[a9] at eg;subst eg;simp only at Cx;refine⟨?_,rfl,rfl⟩;have yV:=CO g (by simp[zu])
   rcases Cx with ⟨bb,e_,ec⟩ | ⟨e_,ec⟩
   case' inr =>
    rw[e_] at yV;have hR:=Gz hs.slot g undef;have oD : R E (.bt []) (a.tmps.toList.getD g undef):=by
     have:(cf (runT (cF S 0 tr) t0) (dW (cF S 0 tr) s0)).t.getD g .any = .bt []:=yV
     rw[<-this];exact hR
    have hu:=Qz oD;rw[ec];simp only[Region.wanted,hg,yielded,pP,wQ];cases hq:a.tmps[g]? with
    | none=>rfl
    | some u =>
     have:u=undef:=by rw[ij] at hu;simp[hq] at hu;exact hu
     rw[this];rfl
   rw[e_] at yV;have hR:=Gz hs.slot g undef;have oD : R E (.bool bb) (a.tmps.toList.getD g undef):=by
    have:(cf (runT (cF S 0 tr) t0) (dW (cF S 0 tr) s0)).t.getD g .any = .bool bb:=yV
    rw[<-this];exact hR
   simp only[R] at oD;have uo:a.tmps[g]?=aa (.bool bb):=by
    rw[ij] at oD;cases hq:a.tmps.toList[g]? with
    | none=>rw[hq] at oD;simp[undef] at oD
    | some u=>rw[hq] at oD;simp at oD;subst oD;simpa using hq
   simp only[Region.wanted,hg,yielded,pP,wQ,uo];rw[ec];cases bb<;>cases want<;>rfl
 obtain⟨xy,rfl,mh⟩:=alf;rw[xy];cases j8:run with
 | true =>
  rw[aE rfl];left;refine Oper.wp_mono ?_ (Fm (Q:=Q) mo hs (Un j8));rintro a' w' ⟨E',v,u,aM,rfl,kG,dL,hv,rfl,H6,rfl⟩;subst H6
  have:=bH.put dL hv o.dst
  rw[FF] at this;refine next E' u _ _ ?_ ?_ this kG
  .rw[hT,hd,mh]
  .rw[LH];cases s7:ao.op.bq<;>simp
 | false =>
  rw[aA (by simp)];obtain⟨hv,CN⟩:=ak9 j8
  have:=bH.put hs (v:=.bt []) (x:=undef) Ke o.dst
  rw[FF] at this;refine next E undef _ _ ?_ ?_ this (Fr.refl E)
  .rw[hT,hd,mh,hv]
  .rw[LH];cases s7:ao.op.bq
   .rw[aA (by simp)]
   .simp only[cm];rw[CN (by rw[he,s7])];exact Uq s7
def count_set:∀(l:List Bool) (i:Nat),l[i]?=aa ak->(l.set i ab).count ak+1=l.count ak
 | [],i,h=>by simp at h
 | x::l,0,h=>by simp at h;subst h;simp
 | x :: l, i + 1, h => by
  simp at h
  have:=count_set l i h
  cases x<;>simp<;>omega
variable{E:Env}{K:St->Prop}{a:Act}{st:St}
def R4{ops:Array Oper}{l:List (AO × List Nat)}{b:List Nat}(F:zP ops l b)(lg:b.length=ops.size)(hf:P.follows .mixedOrders=ab){id:Nat}(h:cy P l [(st.aD,st.out)] [] K st)(hs:bH E st a){X:Array Bool->Env->Act->Prop}
 (hX0:∀E',X (Array.replicate ops.size ak) E' a)
 (v7:∀(i:Nat) o,ops[i]?=aa o->∃x:AO × List Nat,l[i]?=aa x/\((uF P ops o=aa x.1/\∀listed E E' a u,X listed E a->Fr E E' -> X (listed.setIfInBounds i ab) E' (a.put o.dst u))\/Spec P l b st.t E X i o x.1)) :
 (Code.region id ops ab).wp P (λe a' w' => ∃E' aM,E'.w=w' /\ bH E' aM a' /\ Fr E E' /\ e = .normal/\K aM) a E.w:=by
 refine wp_region_any hf ?_;obtain⟨bj,_,pW⟩:=FT hs ((Ext.refl E.w).drew);obtain⟨tr,ht,_,hK⟩:=Jv (t:=st.t) (s:=(st.aD,st.out)) h;have ui:[(st.aD,st.out)]++la tr=(st.aD,st.out)::la tr:=rfl;rw[ui] at ht;have hlen:=GB ht;have key:∀(fuel:Nat) (listed:Array Bool) (a:Act) (w:World),DE ops tr st.t (st.aD,st.out) E X listed a w->listed.toList.count ak<=fuel ->
  wpAny P .any ops (λe a' w' => ∃E' aM,E'.w=w' /\ bH E' aM a' /\ Fr E E' /\ e = .normal/\K aM) fuel listed a w:=by
  have done:∀(listed:Array Bool) (a:Act) (w:World),DE ops tr st.t (st.aD,st.out) E X listed a w->Region.ready .any ops listed=[] ->
   ∃E' aM,E'.w=w/\bH E' aM a/\Fr E E' /\ Exit.normal = .normal/\K aM := λlisted a w h hr=>by
   have cK:∀n j,j<n->j<ops.size->listed.getD j ak=true:=by
    intro n;induction n with
    | zero=>intro j h;omega
    | succ n ih =>
     intro j hj mm;cases hq:listed.getD j ak with
     | true=>rfl
     | false =>
      have:j∈Region.ready .any ops listed:=mem_ready.2 ⟨by rw[Hu _ _ (by rw[h.size];exact mm)];exact hq,ops[j],mH mm,λe he hb=>by
       have:=F.back j _ (mH mm) e he hb
       exact ih e.on (by omega) (by omega)⟩
      rw[hr] at this;simp at this
   obtain⟨E',h1,h2,h3,_⟩:=h.rel;rw[X5 (λj hj=>by rw[jY];exact cK (j+1) j (by omega) (by rw[<-F.size,hlen];exact hj))] at h2;exact⟨E',_,h1,h2,h3,rfl,hK⟩
  intro fuel;induction fuel with
  | zero =>
   intro listed a w h hc;have hr:Region.ready .any ops listed=[]:=by
    cases hq:Region.ready .any ops listed with
    | nil=>rfl
    | cons j js =>
     obtain⟨h1,o,ho,_⟩:=mem_ready.1 (show j∈Region.ready .any ops listed by rw[hq];simp);have aC:j<listed.size:=by rw[h.size];exact(lC.1 ho).1
     have:ak∈listed.toList:=by
      have e:listed[j]?=aa false:=by
       rw[mH aC];simpa [aC] using h1
      exact sQ (by simpa using e)
     have:=List.count_pos_iff.2 this
     omega
   exact⟨hr,done listed a w h hr⟩
  | succ fuel ih =>
   intro listed a w h hc;refine⟨λhr=>done listed a w h hr,λi hi=>?_⟩;refine R5 F lg rfl ht h hi (v7 i) λa w h' => ih _ a w h' ?_
   obtain⟨h1,o,ho,_⟩:=mem_ready.1 hi;have aC:i<listed.size:=by rw[h.size];exact(lC.1 ho).1
   have e:listed.toList[i]?=aa false:=by
    have:listed[i]?=aa false:=by
     rw[mH aC];simpa [aC] using h1
    simpa using this
   have:=count_set listed.toList i e
   simp only[PV];omega
 have y3:∀j,(Array.replicate ops.size ak).getD j ak=false:=λj=>by
  by_cases hj:j<ops.size<;>simp[hj]
 have qx:∀(tr:List TR) (q:Nat),cF (λj=>(Array.replicate ops.size ak).getD j ak) q tr=[]:=by
  intro tr;induction tr with
  | nil=>intro q;rfl
  | cons r tr ih=>intro q;rw[cF,aA (by rw[y3];simp)];exact ih _
 refine key ops.size _ a _ ⟨by simp,λi o _ hi=>by rw[y3] at hi;simp at hi,{E with w:=E.w.drew},rfl,?_,bj,hX0 _⟩ (by simp);rw[qx];exact pW
def adY{ops:Array Oper}{l:List (AO × List Nat)}{id:Nat}(hl:IB P ops=aa l)(h:cy P l [(st.aD,st.out)] [] K st):
 jg P (.region id ops ab) (λe aM => e = .normal/\K aM) st:=by
 obtain⟨b,F,lg,hf,v7⟩:=ant hl;intro E a hs;exact R4 (X:=λ_ _ _=>True) F lg hf h hs (λ_=>trivial) λi o ho=>by
  obtain⟨x,h1,h2⟩:=v7 i o ho;exact⟨x,h1,.inl ⟨h2,λ_ _ _ _ _ _ _=>trivial⟩⟩
end
section
variable {P:Program} {E:Env} {st:St} {a:Act} {o:Oper} {K:V->St->Prop} {Q:Exit->Act->World->Prop}
variable{c:Array Value}{e:TypeId}{zs:List V}
def Zb(hs:bH E st a)(hr:(execOp a.eval o).run P E.w = .ok (.value (.pointer (aa ⟨E.w.heap.size,0,ag⟩))) (E.w.alloc (.cells c e)))
 (hz:RL E zs c.toList) (rr:bO zs=ab) (hk:∀b,st.out.box b=ag->K (.ptr (.out b) 0) ⟨st.t,st.aD,st.out.set b zs⟩):o.wp P a E.w (eb E a o.dst K) Q:=by
 unfold Oper.wp;rw[hr]
 let E' : Env:={w:=E.w.alloc (.cells c e),bf:=λb=>if b=E.w.heap.size then .qI else E.bf b,aD:=E.aD,aP:=E.aP}
 have hx:Ext E.w E'.w:=(Ext.refl _).alloc _ _;have bj:Fr E E' := yG hs.ok.fresh hx (λb hb=>by simp only[E'];rw[aA (by omega)]) (λ_ _ h=>h);have hle:E.le E' := bj.le λi b h=>h
 have j6:st.out.box E.w.heap.size=none:=by
  cases hq:st.out.box E.w.heap.size with
  | none=>rfl
  | some cs =>
   obtain⟨_,c',e',h3,_⟩:=hs.ok.box _ cs hq
   have:=lx (w:=E.w) h3
   omega
 refine⟨E',_,_,⟨st.t,st.aD,st.out.set E.w.heap.size zs⟩,rfl,bj,⟨⟨?_,?_,?_,hs.ok.nt,λb cs hc=>eG.mono _ bj.nl (hs.ok.b9 b cs hc)⟩,?_,hs.defers,RL.mono _ hle hs.slot⟩,?_,rfl,hk _ j6⟩
 .intro b cs bV;simp only[af.set] at bV;split at bV
  .rename_i hb;subst hb;simp only[a9] at bV;subst bV;have EY := RL.p7 (E:=E) (E' := E'.nl) _ bj.nl rr hz;have hl:=gh EY;refine⟨by simp[E'],c,e,heap_alloc_new _ _,by simp at hl;omega,λj x hx=>?_⟩;obtain⟨v,hv,cB⟩:=rT EY j x hx;exact⟨v,by simpa using hv,cB⟩
  .rename_i hb;obtain⟨h1,h2⟩:=hs.ok.box b cs bV;have aC:b<E.w.heap.size:=by obtain⟨c,e,h3,_⟩:=h2;exact lx (w:=E.w) h3
   exact⟨by simp only[E'];rw[aA hb];exact h1,h2.mono bj.nl (hx.block b aC)⟩
 .exact hs.ok.aP
 .intro b hb;simp only[E',World.size_alloc] at hb ⊢;rw[aA (by omega)];exact hs.ok.fresh b (by omega)
 .exact qJ hs.dh hle (λb i h hb=>⟨by simp only[E'];rw[aA (by omega)];exact h,hx.block b hb⟩) hs.dh.none
 .simp only[R]
variable{t:TypeId}
def avr(hs:bH E st a)(ho:o.op = .alloc t)(hz:kv P t=aa zs)(hk:aO.bh P st K (.qm zs)):o.wp P a E.w (eb E a o.dst K) Q:=by
 obtain⟨i,z,h1,h2,h3,_⟩:=tR hz;refine Zb hs (c:=z.cells) (e:=t) ?_ (rY h3) hk.1 hk.2;simp[execOp,ho,Instr.alloc,zeroValue,typeInfo,h1,h2,newVar,newRow]
variable{x:Operand}
def avv(hs:bH E st a){n:Nat}{y:X}(ho:o.op = .box t x)(hx:R E (ev st y) (a.eval x))(hk:aO.bh P st K (.gO n y)):o.wp P a E.w (eb E a o.dst K) Q:=by
 refine Zb hs (c:=(a.eval x).cells) (e:=t) ?_ (ym hx hk.1).1 hk.2.1 hk.2.2;simp[execOp,ho,Instr.box,newVar,newRow]
def PE(hs:bH E st a){w1:World}(H7:Ext E.w w1)(ale:w1.heap.size=E.w.heap.size){x:Value}{v:Nat->V}
 (hr:(execOp a.eval o).run P E.w = .ok (.value x) (w1.alloc (.cells c e)))
 (hz:RL E.nl zs c.toList) (hv:R E (v E.w.heap.size) x) (rr:(v E.w.heap.size).cY=ab) (hk:∀b,st.out.box b=ag->K (v b) ⟨st.t,st.aD,st.out.set b zs⟩):o.wp P a E.w (eb E a o.dst K) Q:=by
 unfold Oper.wp;rw[hr]
 let E' : Env:={w:=w1.alloc (.cells c e),bf:=λb=>if b=E.w.heap.size then .qI else E.bf b,aD:=E.aD,aP:=E.aP}
 have hx:Ext E.w E'.w:=H7.alloc _ _;have bj:Fr E E' := yG hs.ok.fresh hx (λb hb=>by simp only[E'];rw[aA (by omega)]) (λ_ _ h=>h);have hle:E.le E' := bj.le λi b h=>h
 have j6:st.out.box E.w.heap.size=none:=by
  cases hq:st.out.box E.w.heap.size with
  | none=>rfl
  | some cs =>
   obtain⟨_,c',e',h3,_⟩:=hs.ok.box _ cs hq
   have:=lx (w:=E.w) h3
   omega
 refine⟨E',_,_,⟨st.t,st.aD,st.out.set E.w.heap.size zs⟩,rfl,bj,⟨⟨?_,?_,?_,hs.ok.nt,λb cs hc=>eG.mono _ bj.nl (hs.ok.b9 b cs hc)⟩,?_,hs.defers,RL.mono _ hle hs.slot⟩,hv.mono _ hle,rfl,hk _ j6⟩
 .intro b cs bV;simp only[af.set] at bV;split at bV
  .rename_i hb;subst hb;simp only[a9] at bV;subst bV;have EY : RL E'.nl zs c.toList:=RL.mono _ bj.nl hz;have hl:=gh EY;refine⟨by simp[E'],c,e,?_,by simp at hl;omega,λj x hx=>?_⟩
   .show(w1.alloc (.cells c e)).heap[E.w.heap.size]?=_;rw[<-ale];exact heap_alloc_new _ _
   .obtain⟨v,hv,cB⟩:=rT EY j x hx;exact⟨v,by simpa using hv,cB⟩
  .rename_i hb;obtain⟨h1,h2⟩:=hs.ok.box b cs bV;have aC:b<E.w.heap.size:=by obtain⟨c,e,h3,_⟩:=h2;exact lx (w:=E.w) h3
   exact⟨by simp only[E'];rw[aA hb];exact h1,h2.mono bj.nl (hx.block b aC)⟩
 .exact hs.ok.aP
 .intro b hb;simp only[E',World.size_alloc] at hb ⊢;rw[aA (by omega)];exact hs.ok.fresh b (by omega)
 .exact qJ hs.dh hle (λb i h hb=>⟨by simp only[E'];rw[aA (by omega)];exact h,hx.block b hb⟩) hs.dh.none
variable{ty u:TypeId}
def PD(hs:bH E st a){i:TypeInfo}{z:Value}(ht:P.underlying t=aa (.slice e))(hi:P.info? e=aa i)(hz:i.zero=aa z)(jv:z.cells.size=i.size)
 (nC:i.bytes<=4096) {base:Option Addr} {n cap:Nat} {vx:Value} {m:List (List V)}
 (dc:(execOp a.eval o).run P E.w=((Builtin.append_ #[t,u] ty #[.slice base n cap,vx]).run P E.w).andThen λv w' => .ok (.value v) w')
 {news:List Value} (sk:Src P E.w i.size m.length u vx news) (ti:RL E.nl m.flatten news) (fE:∀v∈news,v.oneCell' = ab) (hm:∀y∈m,y.length=i.size)
 (hk:zQ st.out i.size base n cap m λv D=>K v ⟨st.t,st.aD,D⟩):o.wp P a E.w (eb E a o.dst K) Q:=by
 obtain⟨AD,mg,pR,xm,s9,s_⟩:=hk;have tg:=sk.size;have Ev:(n+m.length)*i.bytes<=140737488355328:=by
  have:=Qr mg nC
  simp only[aK] at this;omega
 have EU:n+m.length<=9223372036854775807:=by simp only[aK] at mg;omega
 by_cases rp:m=[]
 .have hK0:K (V.raw (Value.slice base n cap)) st:=xm rp;subst rp
  have:news=[]:=tS (by simpa using tg)
  subst this;refine dd hs (v:=.raw (.slice base n cap)) (x:=.slice base n cap) ?_ (by simp only[R]) hK0;rw[dc,Xz (P:=P) ht hi AD sk];rfl
 rcases wP cap (n+m.length) with aC | pU
 .obtain⟨cs,bV,s_⟩:=s_ aC;have hold:∃ir:List Value,(Builtin.firstCells i.size n (.slice base n cap)).run P E.w.drew = .ok ir.toArray E.w.drew/\RL E.nl (cs.take (n*i.size)) ir/\ir.length=n*i.size/\(cs.take (n*i.size)).length=n*i.size:=by
   rcases bV with ⟨rfl,rfl⟩ | ⟨b,rfl,pM,hle⟩
   .refine⟨[],?_,by simp[RL],by simp,by simp⟩;cases base<;>simp[Builtin.firstCells,loadCells,loadCellsFrom]
   .obtain⟨dU,c,e',fj,hlen,pN⟩:=hs.ok.box b cs pM;have fj:E.w.heap[b]?=aa (.cells c e' (0,0)):=fj;refine⟨c.toList.take (n*i.size),?_,DT (by simp;omega) λj x u hx hu=>?_,by simp;omega,by simp;omega⟩
    .have hl:(c.toList.take (n*i.size)).length=n*i.size:=by simp;omega
     have:=run_loadCells_list (P:=P) E.w.drew ⟨b,0,ag⟩ (c.toList.take (n*i.size)) (λj v hv=>by
      rw[l9];have HB : E.w.drew.heap[b]?=aa (.cells c e' (0,0)):=fj;have hj:j<n*i.size:=by have:=(fv.1 hv).1;omega
      rw[zV hj] at hv;simpa [World.cell?,HB] using hv)
     rw[hl] at this;simp only[Builtin.firstCells];exact this
    .have hj:j<n*i.size:=by have:=(fv.1 hx).1;simp at this;omega
     rw[zV hj] at hx;rw[zV hj] at hu;obtain⟨v,h1,h2⟩:=pN j x hx
     have:v=u:=by simp at hu;rw[hu] at h1;simpa using h1.symm
     exact this▸h2
  obtain⟨ir,EK,pS,oJ,ho4⟩:=hold;have rm:=grownCap_ge E.w (n+m.length) cap e;have hr:(execOp a.eval o).run P E.w = .ok (.value (.slice (aa ⟨E.w.heap.size,0,ag⟩) (n+m.length) (grownCap E.w (n+m.length) cap e)))
   (E.w.drew.alloc (.cells (ir++(news++(Builtin.zeroCells z.cells (grownCap E.w (n+m.length) cap e - (n+m.length))).toList)).toArray e)):=by
   rw[dc,OM (P:=P) ht hi hz EK sk aC Ev EU];rfl
  have MJ:(Builtin.zeroCells z.cells (grownCap E.w (n+m.length) cap e - (n+m.length))).toList.length=(grownCap E.w (n+m.length) cap e - (n+m.length))*i.size:=by
   simp only[BM,size_zeroCells,jv]
  generalize grownCap E.w (n+m.length) cap e=nc at hr rm MJ;generalize (Builtin.zeroCells z.cells (nc - (n+m.length))).toList=rest at hr MJ;refine PE hs (v:=λb=>.raw (.slice (aa ⟨b,0,ag⟩) (n+m.length) nc)) (zs:=cs.take (n*i.size)++m.flatten++ar ((nc - (n+m.length))*i.size) .any) ((Ext.refl E.w).drew) rfl hr ?_ (by simp only[R]) rfl (λb hb=>s_ b nc hb rm);simp only[e9];refine vn pS (vn ti ?_);rw[<-MJ];exact Qx rest
 .obtain⟨b,cs,rfl,pM,pO,hK⟩:=s9 rp pU;obtain⟨dU,c,e',fj,hlen,pN⟩:=hs.ok.box b cs pM;have fj:E.w.heap[b]?=aa (.cells c e' (0,0)):=fj;have lI:=nr hm;have L3 : n*i.size+news.length<=c.size:=by rw[tg];omega
  have j8:=ON (P:=P) (ty:=ty) ht hi fj sk fE pU L3;have bj:=Hq (E:=E) (new:=(c.toList.take (n*i.size)++news++c.toList.drop (n*i.size+news.length)).toArray) fj (.inr dU) (by simp;omega);have hle:=bj.le λ_ _ h=>h
  have hD:=setRow_heap E.w b c (c.toList.take (n*i.size)++news++c.toList.drop (n*i.size+news.length)).toArray e' _ fj;have AB:=GX (E' := Env.nl {E with w:=E.w.setRow b (c.toList.take (n*i.size)++news++c.toList.drop (n*i.size+news.length)).toArray}) hlen
   (λj x hj=>let ⟨u,h1,h2⟩:=pN j x hj;⟨u,h1,h2.mono _ bj.nl⟩) (RL.mono _ bj.nl ti) (by omega) hD
  generalize (c.toList.take (n*i.size)++news++c.toList.drop (n*i.size+news.length)).toArray=new at j8 hD bj hle AB;have kh : ∀b',b' ≠ b->(E.w.setRow b new).heap[b']?=E.w.heap[b']?:=λb' aW=>setRow_other E.w b b' new aW
  unfold Oper.wp;rw[dc,j8];refine⟨{E with w:=E.w.setRow b new},.raw (.slice (aa ⟨b,0,ag⟩) (n+m.length) cap),.slice (aa ⟨b,0,ag⟩) (n+m.length) cap,⟨st.t,st.aD,st.out.set b (setAt cs (n*i.size) m.flatten)⟩,rfl,bj,⟨⟨?_,hs.ok.aP,λb' cc => hs.ok.fresh b' (by simpa using cc),hs.ok.nt,λb cs hc=>eG.mono _ bj.nl (hs.ok.b9 b cs hc)⟩,
   qJ hs.dh hle (λb' i hr _=>⟨hr,kh b' (by rintro rfl;rw[dU] at hr;simp at hr)⟩) hs.dh.none,hs.defers,RL.mono _ hle hs.slot⟩,by simp only[R],rfl,hK⟩
  intro b' ds kF
  by_cases cE:b' = b
  .subst cE;rw[af.eH] at kF;simp only[a9] at kF;subst kF;exact⟨dU,AB⟩
  .rw[af.eQ _ _ cE] at kF;obtain⟨k1,k2⟩:=hs.ok.box b' ds kF;exact⟨k1,k2.mono bj.nl (kh b' cE)⟩
variable{k:Nat}
def anS{z:Array Value}{n:Nat}(hz:z.size=k)(hk:0<k):(madeCells z (n*k)).toList=(ar n z.toList).flatten:=by
 apply P';intro j;have e:∀(n j:Nat),j<n*k->(ar n z.toList).flatten[j]?=z[j % k]?:=by
  intro n;induction n with
  | zero=>intro j hj;simp at hj
  | succ n ih =>
   intro j hj;rw[zX,lE]
   by_cases h:j<k
   .rw[tT (by simpa [hz] using h),Qq h];simp
   .rw[BT (by simp[hz];omega)];have hl:z.toList.length=k:=by simpa using hz
    have gG : j - k<n*k:=by rw[jD,yj] at hj;omega
    rw[hl,ih (j - k) gG,show(j - k) % k=j % k from(Nat.mod_eq_sub_mod (by omega)).symm]
 by_cases hj:j<n*k
 .rw[e n j hj];have hm:j % k<z.size:=by rw[hz];exact Nat.mod_lt _ hk
  rw[getElem?_pos z _ hm];have hg:z[j % k]! = z[j % k]:=getElem!_pos z (j % k) hm;simp[madeCells,hj,hz,hg]
 .rw[sP (by simp[madeCells];omega),sP (by simp[hz];omega)]
def OT:Operand->Operand->Bool
 | .tmp a,.tmp b=>decide (a=b)
 | .const (.int k a),.const (.int k' b)=>decide (k=k')&&decide (a=b)
 | _,_=>ak
def asI{y:Operand}(h:OT x y=ab):x=y:=by
 unfold OT at h;split at h
 .simp at h;rw[h]
 .simp at h;rw[h.1,h.2]
 .simp at h
variable{d:Nat}
def Ai{b:Option X}{vs:List V}{K:Nat->List V->Prop}(h:lH b.isSome d (di st b.toList++vs) K):∃m,K m vs/\match (generalizing:=false) b with | none=>m=d | some y=>∃j,ev st y = .int j m:=by
 cases b with
 | none=>simp only[Option.isSome,Option.toList,di,gN,lH] at h;exact⟨d,h,rfl⟩
 | some y =>
  simp only[Option.isSome,Option.toList,di,iv,gN] at h;unfold lH at h;split at h
  .rename_i e;simp at e
  .rename_i j n r e1 e2;simp only[ig] at e2;obtain⟨e3,rfl⟩:=e2;exact⟨n.toNat,h.2,j,by rw[e3];simp;omega⟩
  .exact h.elim
def Hg{xs ys:List X}:di st (xs++ys)=di st xs++di st ys:=by
 induction xs with
 | nil=>rfl
 | cons x xs ih=>simp[di,ih]
def NA(P:Program)(o:Oper):Option aO :=
 match o.op with
 | .move (.const (.slice ag 0 0)) | .assign (.const (.slice ag 0 0))=>aa (.own .nil [])
 | .makeSlice t l c =>
  if OT l c=ab then
   match P.underlying t with
   | some (.slice e) =>
    match P.info? e,kv P e,cH P 0 l with
    | some i,aa z,aa x=>if i.bytes<=4096/\0<i.size/\z.length=i.size then aa (.own (.mk z) [x]) else ag
    | _,_,_=>ag
   | _=>ag
  else ag
 | .buildSlice t len ps =>
  match P.underlying t with
  | some (.slice e) =>
   match eD P e,kv P e,jJ P (ar len e) (ps.toList.map (·.2)) with
   | some k,aa _,aa xs=>if ps.toList.map (·.1)=bX len/\len*k<=16777216 then aa (.own (.my k) xs) else ag
   | _,_,_=>ag
  | _=>ag
 | .slice t x lo hi mx =>
  match P.underlying t with
  | some (.slice e) =>
   match cH P t x,lv P t lo,lv P t hi,lv P t mx,eD P e with
   | some x,aa lo,aa hi,aa mx,aa k=>if mx.isSome=ab->hi.isSome=ab then aa (.own (.kV k lo.isSome hi.isSome mx.isSome) (x::(lo.toList++hi.toList++mx.toList))) else ag
   | _,_,_,_,_=>ag
  | _=>ag
 | .indexAddr t x i =>
  match P.underlying t,cH P t x,cH P t i with
  | some (.slice e),aa x,aa i=>(eD P e).map λk=>.own (.idx k) [x,i]
  | _,_,_=>ag
 | .call c =>
  match c.callee with
  | .builtin .len =>
   match c.argTypes.toList,c.args.toList with
   | [t], [x] =>
    match P.underlying t,cH P t x with
    | some (.slice _),aa y=>aa (.own .len [y])
    | _,_=>ag
   | _,_=>ag
  | .builtin .append =>
   match c.argTypes.toList,c.args.toList with
   | [t, u], [s, x] =>
    match P.underlying t,P.underlying u,cH P t s,cH P u x with
    | some (.slice e), aa (.slice e'), aa s, aa x =>
     match P.info? e,kv P e with
     | some i,aa _=>if e=e' /\ i.bytes<=4096/\0<i.size then aa (.own (.app i.size) [s,x]) else ag
     | _,_=>ag
    | _,_,_,_=>ag
   | _,_=>ag
  | _=>ag
 | _=>ag
variable{ao:aO}
def ap4(hl:NA P o=aa ao)(hs:bH E st a)(h:ao.bh P st K):o.wp P a E.w (eb E a o.dst K) Q:=by
 have X:=λ{t:TypeId} {x:Operand} {y:X} (hx:cH P t x=aa y)=>nK (E:=E) (st:=st) (a:=a) hs.slot hx
 unfold NA at hl;split at hl
 .rename_i ho;simp only[a9] at hl;subst hl;refine dd hs (v:=.raw (.slice ag 0 0)) (x:=.slice ag 0 0) ?_ (by simp only[R]) h;simp[execOp,ho,Act.eval]
 .rename_i ho;simp only[a9] at hl;subst hl;refine dd hs (v:=.raw (.slice ag 0 0)) (x:=.slice ag 0 0) ?_ (by simp only[R]) h;simp[execOp,ho,Act.eval]
 .rename_i t l c ho;split at hl
  case isFalse=>simp at hl
  rename_i EF;have EF:=asI EF;subst EF;split at hl
  case h_2=>simp at hl
  rename_i e ht;split at hl
  case h_2=>simp at hl
  rename_i i z x hi hz hx;split at hl
  case isFalse=>simp at hl
  rename_i hc;simp only[a9] at hl;subst hl;obtain⟨i',z',q1,q2,q3,q4⟩:=tR hz;obtain rfl:i=i' := by rw[hi] at q1;simpa using q1
  have kl := X hx;simp only[aO.bh,di] at h;unfold OQ.bh at h;split at h<;>try (exfalso;simp_all;done)
  .rename_i z0 k n e1 e2;simp only[OQ.mk.injEq] at e1;subst e1;simp only[ig,il] at e2;rw[e2] at kl;simp only[R] at kl;obtain⟨g1,g2,g3,g4,g5⟩:=h;have jv:z'.cells.size=i.size:=by have:=gh (rY (E:=E) q3);simp at this;omega
   have dc:=run_make (P:=P) E.w t e i z' ht hi q2 k k n n g1 (JN _) (by
    have:(i.bytes:Int)*n<=4096*aK:=Int.mul_le_mul (by omega) (by omega) g1 (by omega)
    simp only[aK] at this;omega) (by simp only[aK] at g2;omega)
   refine PE hs (w1:=E.w) (Ext.refl _) rfl (v:=λb=>.raw (.slice (aa ⟨b,0,ag⟩) n.toNat n.toNat)) (zs:=(ar n.toNat z).flatten) (x:=.slice (aa ⟨E.w.heap.size,0,ag⟩) n.toNat n.toNat) (c:=madeCells z'.cells (n.toNat*i.size)) (e:=e) ?_ ?_ (by simp only[R]) rfl (λb hb=>g5 b hb)
   .simp[execOp,ho,kl,dc]
   .rw[anS jv hc.2.1];have hr:=rY (E:=E.nl) q3;induction n.toNat with
    | zero=>simp[RL]
    | succ m ih=>simp only[zX,lE];exact vn hr ih
 .rename_i t len ps ho;split at hl
  case h_2=>simp at hl
  rename_i e ht;split at hl
  case h_2=>simp at hl
  rename_i k z xs hk hz qB;split at hl
  case isFalse=>simp at hl
  rename_i hc;simp only[a9] at hl;subst hl;simp only[aO.bh] at h;unfold OQ.bh at h;split at h<;>try (exfalso;simp_all;done)
  .rename_i k0 vs e1;simp only[OQ.my.injEq] at e1;subst e1;obtain⟨l,h1,h2⟩:=h;exact Y6 hs ho ht hk hz hc.1 hc.2 (M9 (E:=E) hs.slot qB h1) h2
 .rename_i t x lo hi mx ho;split at hl
  case h_2=>simp at hl
  rename_i e ht;split at hl
  case h_2=>simp at hl
  rename_i x' nJ du mx' k h1 h2 h3 h4 hk;split at hl
  case isFalse=>simp at hl
  rename_i v8;simp only[a9] at hl;subst hl;have hx:=X h1;simp only[aO.bh,di] at h;unfold OQ.bh at h;split at h<;>try (exfalso;simp_all;done)
  .rename_i k0 b1 b2 b3 base n cap vs e1 e2;simp only[OQ.kV.injEq] at e1;obtain⟨rfl,rfl,rfl,rfl⟩:=e1;simp only[ig] at e2;obtain⟨e2,rfl⟩:=e2;rw[e2] at hx;simp only[R] at hx;rw[Hg,Hg,e9] at h;obtain⟨m,h,g1⟩:=Ai h;obtain⟨hh,h,g2⟩:=Ai h;rw[<-eK (di st mx'.toList)] at h;obtain⟨M,h,g3⟩:=Ai h;obtain⟨_,k1,k2,k3,h⟩:=h;have hb:=OO (P:=P) hs h2 h3 h4 v8 g1 g2 g3 k1 k2 k3;refine dd hs (v:=.raw _) (x:=.slice (if M=m then base else base.map (·.add (m*k))) (hh - m) (M - m)) ?_ (by simp only[R]) h;simp only[execOp,ho,Sem.run_bind,hx];simp[Instr.sliceAt,run_underlying ht,Instr.slice,hb,pk hk]
 .rename_i t x i ho;split at hl
  case h_2=>simp at hl
  rename_i e x' i' ht h1 h2;simp only[dk] at hl;obtain⟨k,hk,rfl⟩:=hl;have hx:=X h1;have hi:=X h2;simp only[aO.bh,di] at h;unfold OQ.bh at h;split at h<;>try (exfalso;simp_all;done)
  .rename_i k0 b off n cap kk j e1 e2;simp only[OQ.idx.injEq] at e1;subst e1;simp only[ig,il] at e2;obtain⟨e2,e3⟩:=e2;rw[e2] at hx;rw[e3] at hi;simp only[R] at hx hi;obtain⟨g1,g2,h⟩:=h;refine dd hs (v:=.ptr (.out b) (off+j.toNat*k)) (x:=.pointer (aa ⟨b,off+j.toNat*k,ag⟩)) ?_ (by simp only[R]) h;simp[execOp,ho,hx,hi,Instr.indexAt,asIntOf,run_underlying ht,g1,g2,pk hk,l9]
 .rename_i c ho;obtain⟨callee,args,argTypes⟩:=c;simp only at hl;split at hl
  .split at hl
   case h_2=>simp at hl
   rename_i t x ht hx;have e1:argTypes=#[t]:=by cases argTypes;simpa using ht
   have e2:args=#[x]:=by cases args;simpa using hx
   subst e1;subst e2;split at hl
   case h_2=>simp at hl
   rename_i e y hu h1;simp only[a9] at hl;subst hl;have hx:=X h1;simp only[aO.bh,di] at h;unfold OQ.bh at h;split at h<;>try (exfalso;simp_all;done)
   .rename_i base n cap e1 e2;simp only[ig,il] at e2;rw[e2] at hx;simp only[R] at hx;refine dd hs (v:=.int .i64 n) (x:=.int .i64 n) ?_ (by simp only[R]) h;simp[execOp,ho,resolve,invoke,builtin,Builtin.len_,run_underlying hu,hx,goInt]
  .split at hl
   case h_2=>simp at hl
   rename_i t u s x ht hx;have e1:argTypes=#[t,u]:=by cases argTypes;simpa using ht
   have e2:args=#[s,x]:=by cases args;simpa using hx
   subst e1;subst e2;split at hl
   case h_2=>simp at hl
   rename_i e e' s' x' hu AQ dL kl;split at hl
   case h_2=>simp at hl
   rename_i i z hi hz;split at hl
   case isFalse=>simp at hl
   rename_i hc;simp only[a9] at hl;subst hl;obtain⟨rfl,nC,gi⟩:=hc;obtain⟨i',z',q1,q2,q3,q4⟩:=tR hz;obtain rfl:i=i' := by rw[hi] at q1;simpa using q1
   have jv:z'.cells.size=i.size:=by have:=gh (rY (E:=E) q3);simp at this;omega
   have v9:=X dL;have gj:=X kl;simp only[aO.bh,di] at h;unfold OQ.bh at h;split at h<;>try (exfalso;simp_all;done)
   .rename_i k0 base n cap tk k1 m e1 e2;simp only[OQ.app.injEq] at e1;subst e1;simp only[ig,il] at e2;obtain⟨e2,e3⟩:=e2;obtain⟨rfl,h⟩:=h;rw[e2] at v9;rw[e3] at gj;obtain⟨news,g1,g2,g3,g4⟩:=Je (P:=P) AQ gj;simp only[R] at v9;refine PD hs hu hi q2 jv nC (ty:=o.type) (vx:=a.eval x) ?_ g1 g2 g3 g4 h;simp[execOp,ho,resolve,invoke,builtin,v9]
  .simp at hl
 .simp at hl
def Nz(P:Program)(h:List Nat)(o:Oper):Option aO :=
 match o.dst with
 | some d =>
  if h.contains d=ab then
   match o.op with
   | .alloc t=>(kv P t).map .qm
   | .box t x=>match eD P t,cH P t x with | some n,aa y=>aa (.gO n y) | _,_=>ag
   | _=>match NA P o with | some x=>aa x | none=>zi P o
  else zi P o
 | none=>zi P o
def anx{h:List Nat}(hl:Nz P h o=aa ao)(hs:bH E st a)(hk:ao.bh P st K):o.wp P a E.w (eb E a o.dst K) Q:=by
 unfold Nz at hl;split at hl
 case h_2=>exact Fm hl hs hk
 split at hl
 case isFalse=>exact Fm hl hs hk
 split at hl
 .rename_i t ho;simp only[dk] at hl;obtain⟨z,h1,rfl⟩:=hl;exact avr hs ho h1 hk
 .rename_i t x ho;split at hl
  case h_2=>simp at hl
  rename_i n y hn hy;simp only[a9] at hl;subst hl;exact avv hs ho (nK hs.slot hy) hk
 .split at hl
  .rename_i x hx;simp only[a9] at hl;subst hl;exact ap4 hx hs hk
  .exact Fm hl hs hk
end
structure BQ(E:Env)(Z k:Nat)(l:List (List V))(b cap:Nat):Prop where
 aP:E.aP Z=aa l.length
 bf:E.bf b = .gU Z (l.length*k)
 Rb:∃cs e,E.w.heap[b]?=aa (.cells cs e (0,0))/\cs.size=cap*k
 cap:l.length+1<=cap
 vJ:gq E.nl k l b 0
variable{E:Env}{b cap k Z:Nat}
def BQ.mono{E':Env}{l:List (List V)}(h:BQ E Z k l b cap)(hf:Fr E E')(ht:E'.aP Z=aa l.length):BQ E' Z k l b cap:=by
 obtain⟨n',h1,_,h3⟩:=hf.tok Z _ h.aP;rw[ht] at h1;simp only[a9] at h1;obtain⟨r1,r2⟩:=h3 h1.symm b _ h.bf;obtain⟨cs,e,k1,k2⟩:=h.Rb;obtain⟨cs',q1,q2⟩:=r2 cs e k1;exact⟨ht,r1,⟨cs',e,q1,q2.trans k2⟩,h.cap,gq.mono _ hf.nl h.vJ⟩
section
variable {P:Program} {E:Env} {st:St} {a:Act} {o:Oper}
variable{e t ty u:TypeId}
def ak2(hs:bH E st a){i:TypeInfo}{z:Value}(ht:P.underlying t=aa (.slice e))(hi:P.info? e=aa i)(hz:i.zero=aa z)(jv:z.cells.size=i.size)
 (nC:i.bytes<=4096) {vs vx:Value} {Z:Nat} {l:List (List V)}
 (dc:(execOp a.eval o).run P E.w=((Builtin.append_ #[t,u] ty #[vs,vx]).run P E.w).andThen λv w' => .ok (.value v) w')
 (dj:R E (.sl (.tk Z) i.size l) vs) {news:List Value} (sk:Src P E.w i.size 1 u vx news) (fE:∀v∈news,v.oneCell' = ab)
 (mg:l.length+1<=aK) (hE:E.aP Z=aa l.length) :
 ∃b cap E',BQ E' Z i.size l b cap/\(execOp a.eval o).run P E.w = .ok (.value (.slice (aa ⟨b,0,ag⟩) (l.length+1) cap)) E'.w/\Fr E E' /\ bH E' st a/\(∀j,E'.aD j=E.aD j):=by
 simp only[R] at dj;obtain⟨base,cap,rfl,AD,mi,fZ⟩:=dj;obtain⟨ir,hold,LF,Ln,eg,hlen⟩:=V3 (P:=P) (cap:=cap) mi;have Ev:(l.length+1)*i.bytes<=140737488355328:=by
  have:=Qr mg nC
  simp only[aK] at this;omega
 have EU:l.length+1<=9223372036854775807:=by simp only[aK] at mg;omega
 have tg:=sk.size;obtain⟨n',h1,_,h3⟩:=fZ;rw[hE] at h1;simp only[a9] at h1;subst h1
 rcases wP cap (l.length+1) with aC | pU
 .have rm:=grownCap_ge E.w (l.length+1) cap e;have size:(ir++(news++(Builtin.zeroCells z.cells (grownCap E.w (l.length+1) cap e - (l.length+1))).toList)).toArray.size=grownCap E.w (l.length+1) cap e*i.size:=by
   simp only[Qo,bP,BM,size_zeroCells,jv,hlen,tg];rw[<-Gq,<-jD,<-jD];congr 1;omega
  have hr:=OM (P:=P) (ty:=ty) ht hi hz hold sk aC Ev EU;generalize grownCap E.w (l.length+1) cap e=nc at hr rm size;generalize news++(Builtin.zeroCells z.cells (nc - (l.length+1))).toList=rest at hr size
  let E' : Env:={w:=E.w.drew.alloc (.cells (ir++rest).toArray e),bf:=λb=>if b=E.w.heap.size then .gU Z (l.length*i.size) else E.bf b,aD:=E.aD,aP:=E.aP}
  have hx:Ext E.w E'.w:=((Ext.refl _).drew).alloc _ _;have hD:∀b,b<E.w.heap.size->E'.bf b=E.bf b:=λb hb=>by simp only[E'];rw[aA (by omega)]
  have bj:Fr E E' := yG hs.ok.fresh hx hD (λ_ _ h=>h);have hle:E.le E' := bj.le λ_ _ h=>h
  have Mz:E'.w.heap.size=E.w.heap.size+1:=by simp[E']
  have th:E'.w.heap[E.w.heap.size]?=aa (.cells (ir++rest).toArray e (0,0)):=heap_alloc_new E.w.drew _;have fY:E'.bf E.w.heap.size = .gU Z (l.length*i.size):=by simp[E']
  refine⟨E.w.heap.size,nc,E',⟨hE,fY,⟨_,_,th,size⟩,rm,Gy eg (RL.mono _ bj.nl LF) Ln th (λj hj=>by rw[fY];simpa [fw.iJ] using hj)⟩,?_,bj,⟨?_,?_,hs.defers,RL.mono _ hle hs.slot⟩,λ_=>rfl⟩
  .rw[dc,hr];rfl
  .refine C' hs.ok bj.nl (λb h hb=>⟨by rw[hD b hb];exact h,hx.block b hb⟩) (λ_ _ h=>h) (λb hb=>?_) hs.ok.nt;rw[Mz] at hb;simp only[E'];rw[aA (by omega)];exact hs.ok.fresh b (by omega)
  .exact qJ hs.dh hle (λb i' h hb=>⟨by rw[hD b hb];exact h,hx.block b hb⟩) hs.dh.none
 .rcases h3 rfl with hc | ⟨b,cs,e',rfl,dU,fj,cW⟩
  .omega
  .have pO:l.length*i.size+news.length<=cs.size:=by
    rw[tg,cW,<-jD];exact sS _ pU
   have j8:=ON (P:=P) (ty:=ty) ht hi fj sk fE pU pO;have vY:∀j:Nat,j<l.length*i.size->(cs.toList.take (l.length*i.size)++news++cs.toList.drop (l.length*i.size+news.length)).toArray[j]?=cs[j]?:=λj hj=>by
    have:=FR (c:=cs.toList) (vs:=news) (off:=l.length*i.size) (by simpa using pO) j
    rw[aE hj] at this;simpa using this
   have tt:(cs.toList.take (l.length*i.size)++news++cs.toList.drop (l.length*i.size+news.length)).toArray.size=cs.size:=by
    simp;omega
   generalize (cs.toList.take (l.length*i.size)++news++cs.toList.drop (l.length*i.size+news.length)).toArray=new at j8 vY tt
   let E' : Env:={E with w:=E.w.setRow b new}
   have ja:∀b',b' ≠ b->E'.w.heap[b']?=E.w.heap[b']?:=λb' aW=>setRow_other E.w b b' new aW
   have cc : E'.w.heap[b]?=aa (.cells new e' (0,0)):=setRow_heap E.w b cs new e' _ fj;have aW:∀b' r,E.bf b' = r->(∀c,r≠.gU Z c)->b' ≠ b:=λb' r h h' => by rintro rfl;rw[dU] at h;exact h' _ h.symm
   have bj:Fr E E' := by
    refine⟨rfl,rfl,rfl,by simp[E'],Ef fj,?_,?_,?_,λ_ _ h=>.inl h,λ_ _ c _ h=>⟨c,h⟩,λ_ i _ h=>⟨i,h⟩,λb' c' Cc hc=>by
     by_cases cE:b' = b
     .subst cE;rw[fj] at hc;simp only[a9,Obj.cells.injEq] at hc;obtain⟨rfl,rfl,_⟩:=hc;exact⟨new,cc,tt⟩
     .exact⟨c',(ja b' cE).trans hc,rfl⟩⟩
    .intro b' o' c hc hv
     by_cases cE:b' = b
     .subst cE;refine⟨hc,?_⟩;rw[dU] at hc;simp only[fw.iJ] at hc;simp only[World.cell?,fj] at hv;simp only[World.cell?,cc,vY _ hc];exact hv
     .exact⟨hc,by rw[B9 (ja b' cE)];exact hv⟩
    .intro t n hn;refine⟨n,hn,bS _,λ_ b' c AA=>⟨AA,λcs' Cc bV=>?_⟩⟩
     by_cases cE:b' = b
     .subst cE;rw[fj] at bV;simp only[a9,Obj.cells.injEq] at bV;obtain⟨rfl,rfl,_⟩:=bV;exact⟨new,cc,tt⟩
     .exact⟨cs',by rw[ja b' cE];exact bV,rfl⟩
    .intro b' _ hr;have cE:b' ≠ b:=by rcases hr with hr | hr<;>exact aW b' _ hr (λc h=>by simp at h)
     exact⟨ja b' cE,rfl⟩
   have hle:E.le E' := bj.le λ_ _ h=>h
   have EH:gq E.nl i.size l b 0:=by
    rcases mi with h | ⟨b2,o2,h,hr⟩
    .subst h;simp[gq]
    .simp only[a9,Addr.mk.injEq] at h;obtain⟨rfl,rfl,_⟩:=h;exact hr
   refine⟨b,cap,E',⟨hE,dU,⟨new,e',cc,tt.trans cW⟩,pU,gq.mono _ bj.nl EH⟩,?_,bj,⟨?_,?_,hs.defers,RL.mono _ hle hs.slot⟩,λ_=>rfl⟩
   .rw[dc,j8];rfl
   .exact C' hs.ok bj.nl (λb' hr _=>⟨hr,ja b' (aW b' _ hr (λc h=>by simp at h))⟩) (λ_ _ h=>h) (λb' ri => hs.ok.fresh b' (by simpa [E'] using ri)) hs.ok.nt
   .exact qJ hs.dh hle (λb' i' hr _=>⟨hr,ja b' (aW b' _ hr (λc h=>by simp at h))⟩) hs.dh.none
def ak5(hs:bH E st a){l:List (List V)}(hh:BQ E Z k l b cap)(hn:eD P t=aa k){xs:List V}{v:Value}(hx:RL E.nl xs v.cells.toList)(hv:v.cells.size=k)(h1:∀u∈v.cells.toList,u.oneCell' = ab):
 ∃E',(storeVar t ⟨b,l.length*k,ag⟩ v).run P E.w = .ok () E'.w/\Fr E E' /\ bH E' ⟨st.t,st.aD,st.out.aY Z (l.length+1)⟩ a /\
  R E'.nl (.sl (.tk Z) k (l++[xs])) (.slice (aa ⟨b,0,ag⟩) (l.length+1) cap)/\(∀j,E'.aD j=E.aD j):=by
 obtain⟨cs,e',fj,cW⟩:=hh.Rb;have dU:=hh.bf;have hE:=hh.aP;have pU:=hh.cap;obtain⟨eg,_⟩:=rR.1 hh.vJ;have xz:xs.length=k:=by have:=gh hx;simp at this;omega
 have j8:=OP (P:=P) (off:=l.length*k) hn fj hv (by rw[cW,<-Gt];exact sS _ pU) h1;generalize ti:v.cells.toList=news at hx h1 j8;have tg:news.length=k:=by rw[<-ti];simpa using hv
 have pO:l.length*k+news.length<=cs.size:=by rw[tg,cW,<-Gt];exact sS _ pU
 have vY:∀j:Nat,(cs.toList.take (l.length*k)++news++cs.toList.drop (l.length*k+k)).toArray[j]?=if j<l.length*k then cs[j]? else if j<l.length*k+news.length then news[j - l.length*k]? else cs[j]?:=λj=>by
  have:=FR (c:=cs.toList) (vs:=news) (off:=l.length*k) (by simpa using pO) j
  rw[tg] at this ⊢;simpa using this
 have tt:(cs.toList.take (l.length*k)++news++cs.toList.drop (l.length*k+k)).toArray.size=cs.size:=by
  simp;omega
 generalize (cs.toList.take (l.length*k)++news++cs.toList.drop (l.length*k+k)).toArray=new at j8 vY tt;have akp:l.length*k<=(l.length+1)*k:=sS _ (by omega)
 let E' : Env:={w:=E.w.setRow b new,bf:=λb' => if b' = b then .gU Z ((l.length+1)*k) else E.bf b',aD:=E.aD,aP:=λt=>if t=Z then aa (l.length+1) else E.aP t}
 have ja:∀b',b' ≠ b->E'.w.heap[b']?=E.w.heap[b']?:=λb' aW=>setRow_other E.w b b' new aW
 have mR:∀b',b' ≠ b->E'.bf b' = E.bf b' := λb' aW=>by simp only[E'];rw[aA aW]
 have cc : E'.w.heap[b]?=aa (.cells new e' (0,0)):=setRow_heap E.w b cs new e' _ fj;have qw:E'.bf b = .gU Z ((l.length+1)*k):=by simp[E']
 have aW:∀b' r,E.bf b' = r->(∀c,r≠.gU Z c)->b' ≠ b:=λb' r h h' => by rintro rfl;rw[dU] at h;exact h' _ h.symm
 have bj:Fr E E' := by
  refine⟨rfl,rfl,rfl,by simp[E'],Ef fj,?_,?_,?_,?_,?_,?_,λb' c' Cc hc=>by
   by_cases cE:b' = b
   .subst cE;rw[fj] at hc;simp only[a9,Obj.cells.injEq] at hc;obtain⟨rfl,rfl,_⟩:=hc;exact⟨new,cc,tt⟩
   .exact⟨c',(ja b' cE).trans hc,rfl⟩⟩
  .intro b' o' c hc hv
   by_cases cE:b' = b
   .subst cE;rw[dU] at hc;simp only[fw.iJ] at hc;refine⟨by rw[qw];simp only[fw.iJ];omega,?_⟩;simp only[World.cell?,fj] at hv;simp only[World.cell?,cc,vY,aE hc];exact hv
   .exact⟨by rw[mR b' cE];exact hc,by rw[B9 (ja b' cE)];exact hv⟩
  .intro t n hn
   by_cases sn:t=Z
   .subst sn;rw[hE] at hn;simp only[a9] at hn;exact⟨l.length+1,by simp[E'],by omega,λh=>by omega⟩
   .refine⟨n,by simp only[E'];rw[aA sn];exact hn,bS _,λ_ b' c AA=>?_⟩;have cE:b' ≠ b:=aW b' _ AA (λc' h=>by simp at h;exact sn h.1);exact⟨by rw[mR b' cE];exact AA,λcs' Cc bV=>⟨cs',by rw[ja b' cE];exact bV,rfl⟩⟩
  .intro b' _ hr;have cE:b' ≠ b:=by rcases hr with hr | hr<;>exact aW b' _ hr (λc h=>by simp at h)
   exact⟨ja b' cE,mR b' cE⟩
  .intro b' _ h;have cE:b' ≠ b:=by rintro rfl;rw[qw] at h;simp at h
   rw[mR b' cE] at h;exact .inl h
  .intro b' t c _ h
   by_cases cE:b' = b
   .subst cE;rw[qw] at h;simp at h;obtain⟨rfl,_⟩:=h;exact⟨_,dU⟩
   .rw[mR b' cE] at h;exact⟨c,h⟩
  .intro b' i' _ h;have cE:b' ≠ b:=by rintro rfl;rw[qw] at h;simp at h
   rw[mR b' cE] at h;exact⟨_,h⟩
 have hle:E.le E' := bj.le λ_ _ h=>h
 refine⟨E',j8,bj,⟨⟨?_,?_,?_,?_,λb cs hc=>eG.mono _ bj.nl (hs.ok.b9 b cs hc)⟩,?_,hs.defers,RL.mono _ hle hs.slot⟩,?_,λ_=>rfl⟩
 .intro b' cs' bV;obtain⟨k1,k2⟩:=hs.ok.box b' cs' bV;have cE:b' ≠ b:=aW b' _ k1 (λc h=>by simp at h);exact⟨by rw[mR b' cE];exact k1,k2.mono bj.nl (ja b' cE)⟩
 .intro t n lL;simp only[af.aY] at lL;simp only[E'];split at lL
  .rename_i h;rw[aE h];exact lL
  .rename_i h;rw[aA h];exact hs.ok.aP t n lL
 .intro b' ri;have cE:b' ≠ b:=by
   rintro rfl
   have:=lx fj
   simp[E'] at ri;omega
  rw[mR b' cE];exact hs.ok.fresh b' (by simpa [E'] using ri)
 .obtain⟨N,hN⟩:=hs.ok.nt;exact⟨max N (Z+1),λt ry => by simp only[E'];rw[aA (by omega)];exact hN t (by omega)⟩
 .refine qJ hs.dh hle (λb' i' hr _=>?_) hs.dh.none;have cE:b' ≠ b:=aW b' _ hr (λc h=>by simp at h);exact⟨by rw[mR b' cE];exact hr,ja b' cE⟩
 .have LC:gq E'.nl k (l++[xs]) b 0:=by
   have EH:=hh.vJ;refine rR.2 ⟨λy hy=>?_,?_⟩
   .rcases jC.1 hy with h | h
    .exact eg y h
    .simp at h;subst h;exact xz
   rw[vf];refine yk.2 ⟨(rR.1 (gq.mono _ bj.nl EH)).2,BZ (vs:=news) (by simpa using RL.mono _ bj.nl hx) h1 (λj v hv=>?_) (λj hj=>?_)⟩
   .have hj:=(fv.1 hv).1;rw[nr eg];simp only[Env.VU,World.cell?,cc,vY];simp only[DS,da,bZ];rw[aA (show ¬(0+l.length*k+j<l.length*k) by omega),aE (show 0+l.length*k+j<l.length*k+news.length by omega)];rw[show 0+l.length*k+j - l.length*k=j from by omega];exact hv
   .rw[nr eg];simp only[lE,Qb,eK,xz] at hj;simp only[Env.VT,qw,fw.iJ];rw[jD];omega
  simp only[R,bP,dB,eM];exact⟨aa ⟨b,0,ag⟩,cap,rfl,pU,.inr ⟨b,0,rfl,LC⟩,l.length+1,by simp[E'],bS _,λ_=>.inr ⟨b,new,e',rfl,qw,cc,tt.trans cW⟩⟩
end
structure HI where
 k:Nat
 s:X
 z:X
 len:X
 x:X
 addr:X
 fo:Option Nat
 d9:Nat
 d10:Nat
 dF:Nat
def kE(o:Oper)(j:Nat):Bool:=o.after.toList.any λe=>Region.binds .any e&&e.on == j
def Mo(P:Program)(t2:TypeId)(rU:Operand)(other:Nat):Option Oper->Option (X × Option Nat × Nat)
 | none=>(cH P t2 rU).map λy=>(y,ag,other)
 | some F =>
  match F.dst,rU,zi P F with
  | some dF,.tmp p,aa (.pH off y)=>if p=dF/\F.guard=ag then aa (y,aa off,dF) else ag
  | _,_,_=>ag
def Mp(P:Program)(A I S O'':Oper)(oF:Option Oper):Option HI :=
 match A.op,A.dst,I.op,I.dst,S.op,O''.op with
 | .call c, aa d9, .indexAddr t q1 xI, aa d10, .store e q2 yc, .store t2 rU q3 =>
  match c,q1,q2,q3 with
  | { callee := .builtin .append, args := args, argTypes := Ph }, .tmp p1, .tmp p2, .tmp p3 =>
   match Ph.toList,args.toList with
   | [t', u], [uS, u_] =>
    match P.underlying t,P.underlying u,P.info? e,kv P e with
    | some (.slice e1), aa (.slice e2), aa i, aa _ =>
     match cH P t uS,cH P u u_,cH P t xI,cH P e yc,Mo P t2 rU (d9+d10+1) oF with
     | some s, aa z, aa len, aa x, aa (addr, fo, dF) =>
      if (t' = t/\e1=e/\e2=e/\i.bytes<=4096/\0<i.size)/\(p1=d9/\p2=d10/\p3=d9/\eD P t2=aa 1)/\(A.guard=ag/\I.guard=ag/\S.guard=ag/\O''.guard=ag/\S.dst=ag/\O''.dst=ag)/\d9≠d10/\d9≠dF/\d10≠dF then
       aa ⟨i.size,s,z,len,x,addr,fo,d9,d10,dF⟩
      else ag
     | _,_,_,_,_=>ag
    | _,_,_,_=>ag
   | _,_=>ag
  | _,_,_,_=>ag
 | _,_,_,_,_,_=>ag
def tj(ops:Array Oper):Option Oper :=
 match ops[ops.size - 2]? with
 | some F=>match F.op with | .fieldAddr _ _ _=>aa F | _=>ag
 | none=>ag
def gQ(ops:Array Oper):Nat:=if (tj ops).isSome then ops.size - 5 else ops.size - 4
def dummy(o:Oper):AO:=⟨o.dst,.mv (.c .any),ag⟩
def F7(l1:List AO)(b:List Nat):List (AO × List Nat) :=
 let d:=l8 fD (l1.map λo=>(o,[])) b
 (l1.zip d).zipIdx.map λ((o,x),i)=>(o,if o.op.C1 then((bX (yW d i+1 - pX d x)).map (pX d x+·)).filter (· != Bg d i) else [])
variable{i:Nat}
def YX{l1:List AO}{b:List Nat}{y:AO}(hy:l1[i]?=aa y)(aC:i<(F7 l1 b).length):∃ms,(F7 l1 b)[i]?=aa (y,ms):=by
 unfold F7 at aC ⊢
 simp only at aC ⊢;generalize l8 fD (l1.map λo=>(o,[])) b=d at aC ⊢;generalize hL:l1.zip d=z at aC ⊢;have hz:i<z.length:=by simpa using aC
 have e:z[i]?=aa z[i]:=cS hz;have e1:z[i].1=y:=by
  subst hL;rw[J3,hy] at e;exact(vl e.1).symm
 rw[tU,Qd,e];simp only[tW,e1];exact⟨_,rfl⟩
def Uc(P:Program)(ops:Array Oper)(l:List (AO × List Nat))(b:List Nat)(nA:Nat)(A I S O'':Oper)(oF:Option Oper):Bool :=
 (yB ops l b&&P.follows .mixedOrders)&&decide (nA+(if oF.isSome then 5 else 4)=ops.size)&&((bX nA).all λj=>kE A j) &&
  (kE I nA&&kE S nA&&kE S (nA+1)&&kE O'' nA)&&(match oF with | some F=>kE F nA&&kE O'' (nA+3) | none=>ab)
def ID(P:Program)(ops:Array Oper):Option (List (AO × List Nat) × HI) :=
 match ops[gQ ops]?,ops[gQ ops+1]?,ops[gQ ops+2]?,ops[ops.size - 1]?,A9 P ops (ops.toList.take (gQ ops)) with
 | some A, aa I, aa S, aa O'', aa l0 =>
  match Mp P A I S O'' (tj ops) with
  | some hi =>
   if Uc P ops (F7 (l0++(ops.toList.drop (gQ ops)).map dummy) (xK ops.toList [])) (xK ops.toList []) (gQ ops) A I S O'' (tj ops)=ab then
    aa (F7 (l0++(ops.toList.drop (gQ ops)).map dummy) (xK ops.toList []),hi) else ag
  | none=>ag
 | _,_,_,_,_=>ag
def Eb:Option Nat->V->Option V
 | none,v=>aa v
 | some n,.ptr p o=>aa (.ptr p (o+n))
 | some _,_=>ag
def JL(hi:HI)(K:St->Prop)(st:St):Prop :=
 ∃Z l c t' j,ev st hi.s = .sl (.tk Z) hi.k l/\ev st hi.z = .sl t' hi.k [c]/\ev st hi.len = .int j l.length/\l.length+1<=aK/\st.out.aP Z=aa l.length /\
  (ev st hi.x).wd=aa hi.k/\cL (ev st hi.x).cells=ab/\bO (ev st hi.x).cells=ab/\hi.d9<st.t.length/\hi.d10<st.t.length/\(hi.fo.isSome=ab->hi.dF<st.t.length) /\
  ∃p,Eb hi.fo (ev st hi.addr)=aa p/\∃aM,dR st 1 (.sl (.tk Z) hi.k (l++[aX (ev st hi.x).cells])) p=aa aM /\ K ⟨aM.t,aM.aD,aM.out.aY Z (l.length+1)⟩
structure HF(P:Program)(A I S O'':Oper)(oF:Option Oper)(hi:HI):Prop where
 app:∃c t u e i z uS u_ xI yc,A.op = .call c/\c.callee = .builtin .append/\c.argTypes=#[t,u]/\c.args=#[uS,u_]/\P.underlying t=aa (.slice e)/\P.underlying u=aa (.slice e) /\
  P.info? e=aa i/\kv P e=aa z/\i.bytes<=4096/\i.size=hi.k/\0<hi.k/\cH P t uS=aa hi.s/\cH P u u_=aa hi.z /\
  I.op = .indexAddr t (.tmp hi.d9) xI/\cH P t xI=aa hi.len/\S.op = .store e (.tmp hi.d10) yc/\cH P e yc=aa hi.x
 out:∃t2 rU,O''.op = .store t2 rU (.tmp hi.d9)/\eD P t2=aa 1/\(match oF with
  | none=>hi.fo=ag/\cH P t2 rU=aa hi.addr
  | some F=>∃off,hi.fo=aa off/\rU = .tmp hi.dF/\F.dst=aa hi.dF/\F.guard=ag/\zi P F=aa (.pH off hi.addr))
 dst:A.dst=aa hi.d9/\I.dst=aa hi.d10/\S.dst=ag/\O''.dst=ag
 guard:A.guard=ag/\I.guard=ag/\S.guard=ag/\O''.guard=ag
 ne:hi.d9≠hi.d10/\hi.d9≠hi.dF/\hi.d10≠hi.dF
variable{P:Program}{hi:HI}
def ak0{A I S O'':Oper}{oF:Option Oper}(h:Mp P A I S O'' oF=aa hi):HF P A I S O'' oF hi:=by
 unfold Mp at h;split at h
 case h_2=>simp at h
 rename_i c d9 t q1 xI d10 e q2 yc t2 rU q3 e1 e2 e3 e4 e5 e6;split at h
 case h_2=>simp at h
 rename_i args Ph p1 p2 p3;split at h
 case h_2=>simp at h
 rename_i t' u uS u_ e7 e8;split at h
 case h_2=>simp at h
 rename_i et eu i z g1 g2 g3 g4;split at h
 case h_2=>simp at h
 rename_i s zx len x addr fo dF k1 k2 k3 k4 k5;split at h
 case isFalse=>simp at h
 rename_i hc;obtain⟨⟨rfl,rfl,rfl,m1,m2⟩,⟨rfl,rfl,rfl,m3⟩,⟨m4,m5,m6,m7,m8,m9⟩,m10⟩:=hc;simp only[a9] at h;subst h;have ht:Ph=#[t',u]:=DD (by simpa using e7);have ha:args=#[uS,u_]:=DD (by simpa using e8);refine⟨⟨_,t',u,_,i,z,uS,u_,xI,yc,e1,rfl,ht,ha,g1,g2,g3,g4,m1,rfl,m2,k1,k2,e3,k3,e5,k4⟩,⟨t2,rU,e6,m3,?_⟩,⟨e2,e4,m8,m9⟩,⟨m4,m5,m6,m7⟩,m10⟩;cases oF with
 | none =>
  simp only[Mo,dk,py] at k5;obtain⟨y,h1,rfl,rfl,rfl⟩:=k5;exact⟨rfl,h1⟩
 | some F =>
  simp only[Mo] at k5;split at k5
  case h_2=>simp at k5
  rename_i dF' p off y h1 h2;split at k5
  case isFalse=>simp at k5
  rename_i hc;simp only[a9,py] at k5;obtain⟨rfl,rfl,rfl⟩:=k5;obtain⟨rfl,hg⟩:=hc;exact⟨off,rfl,rfl,h1,hg,h2⟩
def HA{o:Oper}{j:Nat}(h:kE o j=ab):∃e∈o.after,Region.binds .any e=ab/\e.on=j:=by
 simp only[kE,BR,bF,B6] at h;obtain⟨e,h1,h2,h3⟩:=h;exact⟨e,by simpa using h1,h2,h3⟩
variable{a:Act}{d:Nat}
def Bk{n:Nat}{v u:Value}(hd:d<a.tmps.size):(a.put (aa d) v).tmps.getD n u=if n=d then v else a.tmps.getD n u:=by
 simp only[Act.put]
 by_cases h:n=d
 .subst h;simp[hd]
 .rw[aA h,qW,BL (fF h),<-qW]
def Aa{E:Env}:∀{l:List V} {vs:List Value} (n:Nat),RL E l vs->RL E (l.set n .any) vs
 | [],[],_,h=>by simpa using h
 | [],_::_,_,h=>by simp[RL] at h
 | _::_,[],_,h=>by simp[RL] at h
 | x :: xs, v :: vs, n, h => by
  simp only[RL] at h;cases n with
  | zero=>simp only[List.set_cons_zero,RL];exact⟨by simp[R],h.2⟩
  | succ n=>simp only[List.set_cons_succ,RL];exact⟨h.1,Aa n h.2⟩
variable{st:St}{y:V}
def atw{nU nV:St}{u:Value}{p:V}(h1:dR st 1 (.raw u) p=aa nU)(h2:dR st 1 y p=aa nV)(hy:R E.nl y u)(UD:y.cells=[y])(hyE:R E y u)
 (hs:bH E nU a):bH E nV a:=by
 have O1:∀(cs:List V) (off:Nat) (z:V) (j:Nat),(setAt cs off [z])[j]?=if j=off then(cs[j]?).map λ_=>z else cs[j]?:=by
  intro cs;induction cs with
  | nil=>intro off z j;cases off<;>simp[setAt,over]
  | cons c cs ih =>
   intro off z j;cases off with
   | zero=>cases j<;>simp[setAt,over]<;>(cases cs<;>simp[over])
   | succ off=>cases j<;>simp[setAt,ih]
 have as2:∀(cs:List V) (off:Nat) (z:V),(setAt cs off [z]).length=cs.length:=by
  intro cs;induction cs with
  | nil=>intro off z;cases off<;>simp[setAt,over]
  | cons c cs ih=>intro off z;cases off<;>simp[setAt,over,ih]<;>(cases cs<;>simp[over])
 have box:∀(E1:Env) (b:Nat) (cs:List V) (off:Nat),R E1 y u->jV E1 b (setAt cs off [.raw u])->jV E1 b (setAt cs off [y]):=λE1 b cs off hR ⟨c,e,k1,k2,k3⟩=>by
  refine⟨c,e,k1,by rw[as2] at k2 ⊢;exact k2,λj x hx=>?_⟩;rw[O1] at hx
  by_cases hj:j=off
  .rw[aE hj] at hx;simp only[dk] at hx;obtain⟨z,hz,rfl⟩:=hx;obtain⟨v,hv,hr⟩:=k3 j (.raw u) (by rw[O1,aE hj,hz];rfl);simp only[R] at hr;subst hr;exact⟨v,hv,hR⟩
  .rw[aA hj] at hx;exact k3 j x (by rw[O1,aA hj];exact hx)
 cases p with
 | ptr p off =>
  cases p with
  | kB b=>simp[dR] at h1
  | aD i =>
   simp only[dR,iI] at h1 h2;obtain⟨cs,e1,e2⟩:=h1;obtain⟨cs',e3,e4⟩:=h2;rw[e1] at e3;simp only[a9] at e3;subst e3;split at e2<;>simp at e2;split at e4<;>simp at e4;subst e2 e4;refine⟨hs.ok,⟨λj ds hj=>?_,λj hj=>hs.dh.none j (by simpa using hj)⟩,hs.defers,hs.slot⟩;have aC:=(fv.1 e1).1
   by_cases fV:j=i
   .subst fV;simp only[Qc aC,a9] at hj;subst hj;obtain⟨b,q1,q2,q3⟩:=hs.dh.box j (setAt cs off [.raw u]) (by simp[V.cells,aC]);rw[UD];exact⟨b,q1,q2,box E b cs off hyE q3⟩
   .simp only[DL (fF fV)] at hj;exact hs.dh.box j ds (by simp only[DL (fF fV)];exact hj)
  | out i =>
   simp only[dR,iI] at h1 h2;obtain⟨cs,e1,e2⟩:=h1;obtain⟨cs',e3,e4⟩:=h2;rw[e1] at e3;simp only[a9] at e3;subst e3;split at e2<;>simp at e2;split at e4<;>simp at e4;subst e2 e4;refine⟨⟨λj ds hj=>?_,hs.ok.aP,hs.ok.fresh,hs.ok.nt,hs.ok.b9⟩,hs.dh,hs.defers,hs.slot⟩
   by_cases fV:j=i
   .subst fV;rw[af.eH] at hj;simp only[a9] at hj;subst hj;obtain⟨q2,q3⟩:=hs.ok.box j (setAt cs off [.raw u]) (by simp[V.cells,af.set]);rw[UD];exact⟨q2,box E.nl j cs off hy q3⟩
   .rw[af.eQ _ _ fV] at hj;exact hs.ok.box j ds (by rw[af.eQ _ _ fV];exact hj)
 | _=>simp[dR] at h1
def Yt{nV:St}{u:Value}{p:V}(h2:dR st 1 y p=aa nV)(hu:u.oneCell' = ab):∃nU,dR st 1 (.raw u) p=aa nU/\nU.t=st.t:=by
 cases p with
 | ptr p off =>
  cases p with
  | kB b=>simp[dR] at h2
  | aD i =>
   simp only[dR,iI] at h2;obtain⟨cs',e3,e4⟩:=h2;split at e4<;>simp at e4;rename_i hc;exact⟨⟨st.t,st.aD.set i (setAt cs' off (V.raw u).cells),st.out⟩,by simp only[dR,e3,wQ];rw[aE ⟨hc.1,by simp[V.wd,hu],by simp[V.cells,cL,V.one,hu]⟩],rfl⟩
  | out i =>
   simp only[dR,iI] at h2;obtain⟨cs',e3,e4⟩:=h2;split at e4<;>simp at e4;rename_i hc;exact⟨⟨st.t,st.aD,st.out.set i (setAt cs' off (V.raw u).cells)⟩,by simp only[dR,e3,wQ];rw[aE ⟨hc.1,by simp[V.wd,hu],by simp[V.cells,cL,V.one,hu],by simp[V.cells,bO,V.cY]⟩],rfl⟩
 | _=>simp[dR] at h2
variable{m:Nat}
def O8{p:V}{n:Nat}:dR ⟨st.t,st.aD,st.out.aY Z m⟩ n y p=(dR st n y p).map λs=>⟨s.t,s.aD,s.out.aY Z m⟩:=by
 cases p with
 | ptr p off =>
  cases p with
  | kB b=>simp[dR]
  | aD i =>
   simp only[dR];cases st.aD[i]? with
   | none=>rfl
   | some cs=>simp only[wQ];split<;>rfl
  | out i =>
   simp only[dR];show((st.out.box i).bind _)=_;cases st.out.box i with
   | none=>rfl
   | some cs=>simp only[wQ];split<;>rfl
 | _=>rfl
def Yu{aM:St}{p:V}{n:Nat}(h:dR st n y p=aa aM):aM.out.aP=st.out.aP/\aM.t=st.t:=by
 cases p with
 | ptr p off =>
  cases p with
  | kB b=>simp[dR] at h
  | aD i =>
   simp only[dR,iI] at h;obtain⟨cs,_,e2⟩:=h;split at e2<;>simp at e2;subst e2;exact⟨rfl,rfl⟩
  | out i =>
   simp only[dR,iI] at h;obtain⟨cs,_,e2⟩:=h;split at e2<;>simp at e2;subst e2;exact⟨rfl,rfl⟩
 | _=>simp[dR] at h
section
variable {P:Program} {ops:Array Oper}
structure Tl(ops:Array Oper)(hi:HI)(nA Z:Nat)(l:List (List V))(xs:List V)(p:V)(hF:Bool)(E0:Env)(tw:List V)(s1:St)(listed:Array Bool)(a:Act)(w:World):Prop where
 size:listed.size=ops.size
 pre:∀j,j<=nA->listed.getD j ak=ab
 rel:∃E st b cap,E.w=w/\Fr E0 E/\bH E st a/\st.t=tw/\a.tmps.getD hi.d9 undef = .slice (aa ⟨b,0,ag⟩) (l.length+1) cap /\
  (listed.getD (nA+1) ak=ab->a.tmps.getD hi.d10 undef = .pointer (aa ⟨b,l.length*hi.k,ag⟩)) /\
  (hF=ab->listed.getD (nA+3) ak=ab->listed.getD (ops.size - 1) ak=ak->R E p (a.tmps.getD hi.dF undef)) /\
  (listed.getD (nA+2) ak=ak->BQ E Z hi.k l b cap) /\
  (listed.getD (nA+2) ak=ab->R E.nl (.sl (.tk Z) hi.k (l++[xs])) (.slice (aa ⟨b,0,ag⟩) (l.length+1) cap)) /\
  (if listed.getD (ops.size - 1) ak=ab then dR (if listed.getD (nA+2) ak=ab then ⟨s1.t,s1.aD,s1.out.aY Z (l.length+1)⟩ else s1) 1 (.raw (.slice (aa ⟨b,0,ag⟩) (l.length+1) cap)) p=aa st
    else st=if listed.getD (nA+2) ak=ab then ⟨s1.t,s1.aD,s1.out.aY Z (l.length+1)⟩ else s1)
def Ya{l:List V}{n:Nat}{x:V}(h:l[n]?=aa x):l.set n x=l:=by
 have:=(fv.1 h)
 obtain⟨h1,h2⟩:=this;rw[<-h2,ZD]
variable{listed:Array Bool}
def zC(hi:i<listed.size)(j:Nat):(listed.setIfInBounds i ab).getD j ak=if j=i then ab else listed.getD j false:=by
 by_cases h:j=i
 .subst h;simp[hi]
 .rw[aA h,qW,BL (fF h),<-qW]
def Hf{aM:St}(h:st.t=aM.t)(x:X):ev st x=ev aM x:=by cases x<;>simp[ev,h]
structure TF(P:Program)(ops:Array Oper)(hi:HI)(nA:Nat)(hF:Bool)(Z:Nat)(l:List (List V))(xs:List V)(p:V)(s1:St):Prop where
 hf:HF P (ops.getD nA default) (ops.getD (nA+1) default) (ops.getD (nA+2) default) (ops.getD (ops.size - 1) default) (if hF then aa (ops.getD (nA+3) default) else ag) hi
 size:nA+(if hF then 5 else 4)=ops.size
 eI:kE (ops.getD (nA+1) default) nA=ab
 eS:kE (ops.getD (nA+2) default) nA=ab/\kE (ops.getD (nA+2) default) (nA+1)=ab
 eO:kE (ops.getD (ops.size - 1) default) nA=ab
 eF:hF=ab->kE (ops.getD (nA+3) default) nA=ab/\kE (ops.getD (ops.size - 1) default) (nA+3)=ab
 len:∃j,ev s1 hi.len = .int j l.length
 aP:s1.out.aP Z=aa l.length
 wd:(ev s1 hi.x).wd=aa hi.k
 one:cL (ev s1 hi.x).cells=ab
 cY:bO (ev s1 hi.x).cells=ab
 exs:xs=aX (ev s1 hi.x).cells
 d9:s1.t[hi.d9]?=aa .any
 d10:s1.t[hi.d10]?=aa .any
 dF:hF=ab->s1.t[hi.dF]?=aa .any
 pH:Eb hi.fo (ev s1 hi.addr)=aa p
 st:∃nV,dR s1 1 (.sl (.tk Z) hi.k (l++[xs])) p=aa nV
def zp{ops:Array Oper}{o:Oper}(h:ops[i]?=aa o):ops.getD i default=o:=by simp[qW,h]
def F6{o:Oper}(h:o.guard=ag):Region.wanted o (yielded ops a.tmps)=true:=by simp[Region.wanted,h]
variable{w:World}
def atW{nA:Nat}{hF:Bool}{l:List (List V)}{xs:List V}{p:V}{s1:St}(T:TF P ops hi nA hF Z l xs p s1){E0:Env}{Q:Exit->Act->World->Prop}
 (h:Tl ops hi nA Z l xs p hF E0 s1.t s1 listed a w) {i:Nat} (hr:i∈Region.ready .any ops listed) {K:Act->World->Prop}
 (hK:∀a w,Tl ops hi nA Z l xs p hF E0 s1.t s1 (listed.setIfInBounds i ab) a w->K a w):wpOp P ops Q i K a w:=by
 obtain⟨y7,o,ho,cK⟩:=mem_ready.1 hr;have aC:i<ops.size:=(lC.1 ho).1;have mn : i<listed.size:=by rw[h.size];exact aC
 have CQ : listed.getD i ak=false:=by rw[<-Hu _ _ mn];exact y7
 have hgt:nA<i:=by
  rcases wP nA i with hq | hq
  .exact hq
  .rw[h.pre i hq] at CQ;simp at CQ
 have nH:=zC mn;have mQ:=zp ho;have y5 : (listed.setIfInBounds i ab).size=ops.size:=by simp[h.size]
 have HY : ∀j,j<=nA->(listed.setIfInBounds i ab).getD j ak=true:=λj hj=>by rw[nH,aA (by omega)];exact h.pre j hj
 obtain⟨E,st,bk,cap,rfl,bj,hs,eP,Cu,HJ,LY,HP,L5,hO⟩:=h.rel;have cW:=T.size;have EG:s1.t.length=a.tmps.size:=by have:=gh hs.slot;rw[eP] at this;simpa using this
 have TO:hi.d9<a.tmps.size:=by rw[<-EG];exact(fv.1 T.d9).1
 have LN:hi.d10<a.tmps.size:=by rw[<-EG];exact(fv.1 T.d10).1
 have awt:nA+2<ops.size - 1:=by rw[<-cW];cases hF<;>simp<;>omega
 have my:∀j,j≠i->(listed.setIfInBounds i ab).getD j ak=listed.getD j false:=λj hj=>by rw[nH,aA hj]
 have made:(listed.setIfInBounds i ab).getD i ak=true:=by rw[nH,aE rfl]
 unfold wpOp;rw[ho];simp only;have QN:∀(E' : Env) (aM : St) (a:Act) (d:Nat) (v:Value),aM.t=s1.t->s1.t[d]?=aa .any->bH E' aM a->bH E' aM (a.put (aa d) v):=λE' aM a d v e1 e2 h=>by
  have:=bH.put h (v:=.any) (x:=v) (by simp[R]) (aa d)
  have e:aM.put (aa d) .any=aM := by
   simp only[St.put];rw[e1,Ya e2,<-e1]
  rw[e] at this;exact this
 by_cases hI:i=nA+1
 ·-- the element's address
  subst hI;obtain⟨c,t,u,e,inf,z,uS,u_,xI,yc,_,_,_,_,q5,_,q7,_,_,Bl,_,_,_,WT,q15,_,_⟩:=T.hf.app;rw[mQ] at WT;have hg:=T.hf.guard.2.1;rw[mQ] at hg;have mh:=T.hf.dst.2.1;rw[mQ] at mh;rw[F6 hg,aE rfl];left;obtain⟨jk,hlen⟩:=T.len;have Lu:=nK (E:=E) (st:=st) (a:=a) hs.slot q15;rw[Hf eP,hlen] at Lu;simp only[R] at Lu;have hn:eD P e=aa hi.k:=by simp[eD,q7,Bl]
  have dc:(execOp a.eval o).run P E.w = .ok (.value (.pointer (aa ⟨bk,l.length*hi.k,ag⟩))) E.w:=by
   have akx : a.eval (.tmp hi.d9) = .slice (aa ⟨bk,0,ag⟩) (l.length+1) cap:=Cu;simp[execOp,WT,akx,Lu,Instr.indexAt,asIntOf,run_underlying q5,pk hn,l9]
  unfold Oper.wp;rw[dc];refine hK _ _ ⟨y5,HY,E,st,bk,cap,rfl,bj,?_,eP,?_,?_,?_,?_,?_,?_⟩
  .rw[mh];exact QN E st a hi.d10 _ eP T.d10 hs
  .rw[mh,Bk LN,aA T.hf.ne.1];exact Cu
  .intro _;rw[mh,Bk LN,aE rfl]
  .intro h1 h2 h3;rw[nH,aA (by omega)] at h2;rw[my _ (by omega)] at h3;rw[mh,Bk LN,aA (fF T.hf.ne.2.2)];exact LY h1 h2 h3
  .intro h1;rw[nH,aA (by omega)] at h1;exact HP h1
  .intro h1;rw[nH,aA (by omega)] at h1;exact L5 h1
  .rw[my _ (by omega),my _ (by omega)];exact hO
 by_cases hS:i=nA+2
 ·-- the element is filled in
  subst hS;obtain⟨c,t,u,e,inf,z,uS,u_,xI,yc,_,_,_,_,_,_,q7,_,_,Bl,_,_,_,_,_,WU,q17⟩:=T.hf.app;rw[mQ] at WU;have hg:=T.hf.guard.2.2.1;rw[mQ] at hg;have mh:=T.hf.dst.2.2.1;rw[mQ] at mh;rw[F6 hg,aE rfl];left;have Tu : listed.getD (nA+1) ak=true:=by
   have:=T.eS.2
   rw[mQ] at this;obtain⟨e,h1,h2,h3⟩:=HA this;rw[<-h3];exact cK e h1 h2
  have hX:=nK (E:=E) (st:=st) (a:=a) hs.slot q17;rw[Hf eP] at hX;have hn:eD P e=aa hi.k:=by simp[eD,q7,Bl]
  obtain⟨r1,r2⟩:=ym hX T.wd;have r3:=RL.p7 (E:=E) (E' := E.nl) _ (Env.le.refl E.nl) T.cY r1;have r4:=zo r1 T.one;obtain⟨E',k1,k2,k3,k4,k5⟩:=ak5 (P:=P) hs (HP CQ) hn (RL.erase _ r3) r2 r4;rw[<-T.exs] at k4;have dc:(execOp a.eval o).run P E.w = .ok .skip E'.w:=by
   have e1:a.eval (.tmp hi.d10) = .pointer (aa ⟨bk,l.length*hi.k,ag⟩):=HJ Tu;simp[execOp,WU,e1,I9 k1]
  unfold Oper.wp;rw[dc];show K (a.put o.dst undef) E'.w;rw[mh];have hle:E.le E' := k2.le λj b hb=>by rw[k5];exact hb
  refine hK _ _ ⟨y5,HY,E',_,bk,cap,rfl,bj.trans k2,k3,eP,Cu,?_,?_,?_,?_,?_⟩
  .intro _;exact HJ Tu
  .intro h1 h2 h3;rw[nH,aA (by omega)] at h2;rw[my _ (by omega)] at h3;exact R.mono _ hle (LY h1 h2 h3)
  .intro h1;rw[nH,aE rfl] at h1;simp at h1
  .intro _;exact k4
  .rw[my (ops.size - 1) (by omega),made];rw[CQ] at hO;simp only[da,bZ] at hO;simp only[cm];split at hO
   .rename_i h1;rw[aE h1,O8,hO];rfl
   .rename_i h1;rw[aA h1,hO]
 by_cases hOi:i=ops.size - 1
 ·-- the list is laid down
  subst hOi;obtain⟨t2,rU,q1,q2,q3⟩:=T.hf.out;rw[mQ] at q1;have hg:=T.hf.guard.2.2.2;rw[mQ] at hg;have mh:=T.hf.dst.2.2.2;rw[mQ] at mh;rw[F6 hg,aE rfl];left;rw[CQ] at hO;simp only[da,bZ] at hO;have aki:R E p (a.eval rU):=by
   cases sb:hF with
   | false =>
    rw[sb] at q3;simp only[da,bZ] at q3;have lI:=T.pH;rw[q3.1] at lI;simp only[Eb,a9] at lI
    have:=nK (E:=E) (st:=st) (a:=a) hs.slot q3.2
    rw[Hf eP,lI] at this;exact this
   | true =>
    rw[sb] at q3;simp only[cm] at q3;obtain⟨off,_,ha,_⟩:=q3;subst ha
    have:=(T.eF sb).2
    rw[mQ] at this;obtain⟨e,h1,h2,h3⟩:=HA this;exact LY sb (by rw[<-h3];exact cK e h1 h2) CQ
  obtain⟨nV,tm⟩:=T.st
  let v:Value:=.slice (aa ⟨bk,0,ag⟩) (l.length+1) cap
  have fE:v.oneCell' = true:=rfl;obtain⟨aM,EV,ala⟩:∃aM,dR st 1 (.raw v) p=aa aM /\ aM.t=st.t:=by
   rw[hO];split
   .exact Yt (by rw[O8,tm];rfl) fE
   .exact Yt tm fE
  refine Oper.wp_mono ?_ (Zc (Q:=Q) (K:=λ_ s=>s=aM) hs (by omega) q1 q2 aki (ay:=.raw v) (by simp only[R];exact Cu) EV rfl);rintro a' w' ⟨E',v',u',s',rfl,kG,dL,_,rfl,rfl⟩;rw[mh];simp only[Act.put];have tu:listed.getD (nA+2) ak=ak->E'.aP Z=aa l.length:=λhq=>by
   refine dL.ok.aP Z _ ?_;rw[(Yu EV).1,hO,hq];simpa using T.aP
  refine hK _ _ ⟨y5,HY,E',_,bk,cap,rfl,bj.trans kG,dL,by rw[ala,eP],Cu,?_,?_,?_,?_,?_⟩
  .intro h1;rw[my _ (by omega)] at h1;exact HJ h1
  .intro _ _ h3;rw[nH,aE rfl] at h3;simp at h3
  .intro h1;rw[my _ (by omega)] at h1;exact(HP h1).mono kG (tu h1)
  .intro h1;rw[my _ (by omega)] at h1;exact R.mono _ kG.nl (L5 h1)
  .rw[made,my _ (by omega)];simp only[cm];rw[<-hO];exact EV
 -- the field's address
 have sb:hF=true:=by
  cases hq:hF with
  | true=>rfl
  | false=>rw[hq] at cW;simp at cW;omega
 have L9:i=nA+3:=by rw[sb] at cW;simp at cW;omega
 subst L9;obtain⟨t2,rU,_,_,q3⟩:=T.hf.out;rw[sb] at q3;simp only[cm] at q3;obtain⟨off,q4,_,q5,q6,q7⟩:=q3;rw[mQ] at q5 q6 q7;rw[F6 q6,aE rfl];left;have LO:hi.dF<a.tmps.size:=by rw[<-EG];exact(fv.1 (T.dF sb)).1
 have lI:=T.pH;rw[q4] at lI;have ln:(aO.pH off hi.addr).bh P st (λv s=>v=p/\s=st):=by
  simp only[aO.bh];rw[Hf eP];cases hq:ev s1 hi.addr<;>rw[hq] at lI<;>simp[Eb] at lI ⊢;exact lI
 refine Oper.wp_mono ?_ (Fm (Q:=Q) q7 hs ln);rintro a' w' ⟨E',v',u',s',rfl,kG,dL,hv,rfl,rfl,rfl⟩;rw[q5];have tu:listed.getD (nA+2) ak=ak->E'.aP Z=aa l.length:=λhq=>by
  refine dL.ok.aP Z _ ?_;rw[hq] at hO;simp only[da,bZ] at hO;split at hO
  .rw[(Yu hO).1];exact T.aP
  .rw[hO];exact T.aP
 refine hK _ _ ⟨y5,HY,E',_,bk,cap,rfl,bj.trans kG,QN E' _ a hi.dF _ eP (T.dF sb) dL,eP,?_,?_,?_,?_,?_,?_⟩
 .rw[Bk LO,aA T.hf.ne.2.1];exact Cu
 .intro h1;rw[nH,aA (by omega)] at h1;rw[Bk LO,aA T.hf.ne.2.2];exact HJ h1
 .intro _ _ _;rw[Bk LO,aE rfl];exact hv
 .intro h1;rw[nH,aA (by omega)] at h1;exact(HP h1).mono kG (tu h1)
 .intro h1;rw[nH,aA (by omega)] at h1;exact R.mono _ kG.nl (L5 h1)
 .have h5:nA+5=ops.size:=by rw[sb] at cW;simpa using cW
  rw[my _ (by omega),my _ (by omega)];exact hO
end
def Dz(fo:Option Nat)(d:Nat)(t:List V):List V:=match fo with | some _=>t.set d .any | none=>t
def rN(hi:HI)(t:List V):List V:=Dz hi.fo hi.dF ((t.set hi.d9 .any).set hi.d10 .any)
def Gh(hi:HI)(K:St->Prop)(st:St):Prop:=JL hi K ⟨rN hi st.t,st.aD,st.out⟩
def QM{t:List V}{e:Nat}(h:t[e]?=aa .any):(t.set d .any)[e]?=aa .any:=by
 have aC:=(fv.1 h).1
 by_cases hd:d=e
 .subst hd;simp[aC]
 .rw[DL hd];exact h
def Km{t:List V}(h:d<t.length):(t.set d .any)[d]?=aa .any:=by simp[h]
def Pv(hi:HI)(t:List V):(rN hi t).length=t.length:=by
 unfold rN Dz;cases hi.fo<;>simp
def YY{fo:Option Nat}{e:Nat}{t:List V}(h:t[e]?=aa .any):(Dz fo d t)[e]?=aa .any:=by
 unfold Dz;cases fo
 .exact h
 .exact QM h
def ave{t:List V}(h:hi.d9<t.length):(rN hi t)[hi.d9]?=aa .any:=YY (QM (Km h))
def avd{t:List V}(h:hi.d10<t.length):(rN hi t)[hi.d10]?=aa .any:=YY (Km (by simpa using h))
def avf{t:List V}{off:Nat}(hf:hi.fo=aa off)(h:hi.dF<t.length):(rN hi t)[hi.dF]?=aa .any:=by
 unfold rN Dz;rw[hf];exact Km (by simpa using h)
def avg{t:List V}{us:List Value}(h:RL E t us):RL E (rN hi t) us:=by
 unfold rN Dz;cases hi.fo
 .exact Aa _ (Aa _ h)
 .exact Aa _ (Aa _ (Aa _ h))
def X6{S:Nat->Bool}{n:Nat}:∀{tr:List TR} {i:Nat},(∀j,S (i+j)=decide (i+j<n))->cF S i tr=tr.take (n - i)
 | [],i,_=>by simp[cF]
 | r :: tr, i, h => by
  have h0:=h 0;rw[wO] at h0;have ih:=X6 (S:=S) (n:=n) (tr:=tr) (i:=i+1) λj=>by
   have:=h (j+1)
   rw[show i+(j+1)=i+1+j from by omega] at this;exact this
  simp only[cF,h0]
  by_cases hi:i<n
  .simp only[hi,bL,cm,ih];rw[show n - i=(n - (i+1))+1 from by omega,wM]
  .simp only[hi,c7,da,bZ,ih];rw[show n - (i+1)=0 from by omega,show n - i=0 from by omega];simp
def Xx:∀{a b:List TR} {t:List V},runT (a++b) t=runT b (runT a t)
 | [],_,_=>rfl
 | r::a,b,t=>by simp only[iv,runT];exact Xx
def Xs:∀{a b:List TR} {s:dm},dW (a++b) s=dW b (dW a s)
 | [],_,_=>rfl
 | r::a,b,t=>by simp only[iv,dW];exact Xs
def Xw{E:Env}{us:List Value}:∀{tr:List TR} {t:List V},(∀r∈tr,r.val = .any)->RL E t us->RL E (runT tr t) us
 | [],_,_,h=>h
 | r :: tr, t, hv, h => by
  simp only[ff] at hv;simp only[runT];refine Xw hv.2 ?_;cases hd:r.dst with
  | none=>exact h
  | some d=>simp only[kS,hv.1];exact Aa d h
def Xr:∀{tr:List TR} {s:dm},(∀r∈tr,r.bq=ak)->dW tr s=s
 | [],_,_=>rfl
 | r :: tr, s, h => by
  simp only[ff] at h;simp only[dW,h.1,da,bZ];exact Xr h.2
section
variable {P:Program} {ops:Array Oper}
variable{l:List (AO × List Nat)}
def anu(h:ID P ops=aa (l,hi)):
 ∃b,zP ops l b/\b.length=ops.size/\P.follows .mixedOrders=ab/\(∀(i:Nat) o,i<gQ ops->ops[i]?=aa o->∃x:AO × List Nat,l[i]?=aa x/\uF P ops o=aa x.1) /\
  (∀(i:Nat) o,gQ ops<=i->ops[i]?=aa o->∃ms,l[i]?=aa (dummy o,ms)) /\
  HF P (ops.getD (gQ ops) default) (ops.getD (gQ ops+1) default) (ops.getD (gQ ops+2) default) (ops.getD (ops.size - 1) default) (tj ops) hi /\
  gQ ops+(if (tj ops).isSome then 5 else 4)=ops.size/\(∀j,j<gQ ops->kE (ops.getD (gQ ops) default) j=ab) /\
  kE (ops.getD (gQ ops+1) default) (gQ ops)=ab/\(kE (ops.getD (gQ ops+2) default) (gQ ops)=ab/\kE (ops.getD (gQ ops+2) default) (gQ ops+1)=ab) /\
  kE (ops.getD (ops.size - 1) default) (gQ ops)=ab/\(∀F,tj ops=aa F->kE F (gQ ops)=ab/\kE (ops.getD (ops.size - 1) default) (gQ ops+3)=ab):=by
 unfold ID at h;split at h
 case h_2=>simp at h
 rename_i A I S O'' l0 a1 a2 a3 a4 a5;split at h
 case h_2=>simp at h
 rename_i du akr;split at h
 case isFalse=>simp at h
 rename_i hc;simp only[a9,py] at h;obtain⟨rfl,rfl⟩:=h;unfold Uc at hc;simp only[bF,cn] at hc;obtain⟨⟨⟨⟨⟨c1,c2⟩,c3⟩,c4⟩,c5⟩,c6⟩:=hc;rw[zp a1,zp a2,zp a3,zp a4];have hlen:=(facts c1).size;have hA:gQ ops<ops.size:=(lC.1 a1).1;obtain⟨g1,g2⟩:=Nx a5;have CE:l0.length=gQ ops:=by rw[g1];simp;omega
 refine⟨_,facts c1,?_,c2,λi o hi ho=>?_,λi o hi ho=>?_,ak0 akr,c3,λj hj=>?_,c5.1.1.1,⟨c5.1.1.2,c5.1.2⟩,c5.2,λF hF=>?_⟩
 .unfold yB at c1;simp only[bF,cn] at c1;exact c1.1.1.2
 .obtain⟨x,k1,k2⟩:=g2 i o (by rw[J2,aE hi];simpa using ho);obtain⟨ms,hm⟩:=YX (l1:=l0++(ops.toList.drop (gQ ops)).map dummy) (b:=xK ops.toList []) (i:=i) (y:=x) (by rw[tT (by omega)];exact k1) (by rw[hlen];omega);exact⟨_,hm,k2⟩
 .have aC:=(lC.1 ho).1;exact YX (by rw[BT (by omega),tU,vg,CE,show gQ ops+(i - gQ ops)=i from by omega];simp[ho]) (by rw[hlen];exact aC)
 .simp only[l7,zW] at c4;exact c4 j hj
 .rw[hF] at c6;simpa using c6
end
section
variable {P:Program} {ops:Array Oper}
def ak1(cW:gQ ops+(if (tj ops).isSome then 5 else 4)=ops.size):tj ops=if (tj ops).isSome=ab then aa (ops.getD (gQ ops+3) default) else none:=by
 cases hq:tj ops with
 | none=>rfl
 | some F =>
  rw[hq] at cW;simp only[Gv,cm] at cW ⊢;unfold tj at hq;split at hq
  case h_2=>simp at hq
  rename_i F0 h0;split at hq
  .simp only[a9] at hq;subst hq;rw[zp (i:=gQ ops+3) (by rw[<-h0];congr 1;omega)]
  .simp at hq
variable{K:St->Prop}{l:List (AO × List Nat)}
def ak4{id:Nat}(hl:ID P ops=aa (l,hi))(h:cy P l [(st.aD,st.out)] [] (Gh hi K) st):
 jg P (.region id ops ab) (λe aM => e = .normal/\K aM) st:=by
 obtain⟨b,F,lg,hf,v7,aky,Cq,cW,eA,eI,eS,eO,eF⟩:=anu hl;have Cp:=ak1 cW;intro E a hs;refine wp_region_any hf ?_;obtain⟨bj,_,pW⟩:=FT hs ((Ext.refl E.w).drew);obtain⟨tr,ht,_,hK⟩:=Jv (t:=st.t) (s:=(st.aD,st.out)) h;have ui:[(st.aD,st.out)]++la tr=(st.aD,st.out)::la tr:=rfl;rw[ui] at ht;have hlen:=GB ht;generalize hnA:gQ ops=nA at *;generalize hhF:(tj ops).isSome=hF at *;have awl:nA+3<ops.size:=by rw[<-cW];split<;>omega
 have hoA:ops[nA]?=aa (ops.getD nA default):=by
  rw[mH (by omega)];simp[show nA<ops.size by omega]
 -- the tail's steps in the run say nothing
 have Uu:∀r∈tr.drop nA,r.val = .any/\r.bq=false:=λr hr=>by
  obtain⟨j,hj⟩:=ZB.1 hr;rw[vg] at hj;have ur:nA+j<ops.size:=by rw[<-F.size,hlen];exact(fv.1 hj).1
  obtain⟨ms,hm⟩:=aky (nA+j) _ (by omega) (mH ur);obtain⟨_,e2,run,e3,e4,_⟩:=GC (i:=0) (k:=nA+j) ht hm hj;simp only[dummy] at e3;subst e3;obtain⟨e5,_⟩:=e4 rfl;simp only[dummy,aO.bh,Exact,ev] at e5;exact⟨e5.1.symm,e2⟩
 have MB:∀{E' : Env} {us:List Value},RL E' (runT (tr.take nA) st.t) us->RL E' (runT tr st.t) us:=λ{E' us} h=>by
  have e:runT tr st.t=runT (tr.drop nA) (runT (tr.take nA) st.t):=by rw[<-Xx,rQ]
  rw[e];exact Xw (λr hr=>(Uu r hr).1) h
 have Uo:dW tr (st.aD,st.out)=dW (tr.take nA) (st.aD,st.out):=by
  have e:dW tr (st.aD,st.out)=dW (tr.drop nA) (dW (tr.take nA) (st.aD,st.out)):=by rw[<-Xs,rQ]
  rw[e];exact Xr (λr hr=>(Uu r hr).2)
 -- what the tail asks
 obtain⟨Z,ll,c,t',j,es,ez,R9,mg,tu,so,fE,pR,h9,jt,Tt,p,hp,nV,tm,hKK⟩:=hK;generalize Ul:(⟨rN hi (cf (runT tr st.t) (dW tr (st.aD,st.out))).t,(cf (runT tr st.t) (dW tr (st.aD,st.out))).aD,(cf (runT tr st.t) (dW tr (st.aD,st.out))).out⟩:St)=s1 at es ez R9 tu so fE pR h9 jt Tt hp tm;have AM:s1.t=rN hi (runT tr st.t):=by rw[<-Ul];rfl
 have Um:s1.aD=(dW tr (st.aD,st.out)).1/\s1.out=(dW tr (st.aD,st.out)).2:=by rw[<-Ul];exact⟨rfl,rfl⟩
 have vX:hF=ab->∃off,hi.fo=aa off:=λhq=>by
  obtain⟨_,_,_,_,q3⟩:=Cq.out;rw[Cp,aE hq] at q3;obtain⟨off,h1,_⟩:=q3;exact⟨off,h1⟩
 have Ej : hi.d9<(runT tr st.t).length:=by rw[AM,Pv] at h9;exact h9
 have akb : hi.d10<(runT tr st.t).length:=by rw[AM,Pv] at jt;exact jt
 have T:TF P ops hi nA hF Z ll (aX (ev s1 hi.x).cells) p s1:=by
  refine⟨by rw[Cp] at Cq;exact Cq,cW,eI,eS,eO,λhq=>?_,⟨j,R9⟩,tu,so,fE,pR,rfl,by rw[AM];exact ave Ej,by rw[AM];exact avd akb,λhq=>?_,hp,⟨nV,tm⟩⟩
  .rw[aE hq] at Cp;exact eF _ Cp
  .obtain⟨off,ho⟩:=vX hq
   have:=Tt (by rw[ho];rfl)
   rw[AM,Pv] at this;rw[AM];exact avf ho this
 let Q' : Exit->Act->World->Prop:=λe a' w' => ∃E' aM,E'.w=w' /\ bH E' aM a' /\ Fr E E' /\ e = .normal/\K aM
 -- the end
 have fin:∀(listed:Array Bool) (a:Act) (w:World),Tl ops hi nA Z ll (aX (ev s1 hi.x).cells) p hF E s1.t s1 listed a w->(∀j,j<ops.size->listed.getD j ak=ab)->Q' .normal a w:=λlisted a w h cK=>by
  obtain⟨E',aM,bk,cap,h1,h2,h3,h4,_,_,_,_,h5,h6⟩:=h.rel;rw[cK _ (by omega),cK _ (by omega)] at h6;simp only[cm] at h6;have h5:=h5 (cK _ (by omega));have alb : dR ⟨s1.t,s1.aD,s1.out.aY Z (ll.length+1)⟩ 1 (.sl (.tk Z) hi.k (ll++[aX (ev s1 hi.x).cells])) p=aa ⟨nV.t,nV.aD,nV.out.aY Z (ll.length+1)⟩:=by rw[O8,tm];rfl
  have h7:R E' (.sl (.tk Z) hi.k (ll++[aX (ev s1 hi.x).cells])) (.slice (aa ⟨bk,0,ag⟩) (ll.length+1) cap):=by
   simp only[R] at h5 ⊢;exact h5
  exact⟨E',_,h1,atw h6 alb h5 rfl h7 h3,h2,rfl,hKK⟩
 have LX:∀(listed:Array Bool) (i:Nat),listed.size=ops.size->i∈Region.ready .any ops listed->∀fuel,listed.toList.count ak<=fuel+1->(listed.setIfInBounds i ab).toList.count ak<=fuel:=λlisted i cW hi fuel hc=>by
  obtain⟨h1,o,ho,_⟩:=mem_ready.1 hi;have aC:i<listed.size:=by rw[cW];exact(lC.1 ho).1
  have e:listed.toList[i]?=aa false:=by
   have:listed[i]?=aa false:=by
    rw[mH aC];simpa [aC] using h1
   simpa using this
  have:=count_set listed.toList i e
  simp only[PV];omega
 have HK:∀(listed:Array Bool),listed.size=ops.size->Region.ready .any ops listed=[]->∀n j,j<n->j<ops.size->listed.getD j ak=true:=λlisted cW hr n=>by
  induction n with
  | zero=>intro j h;omega
  | succ n ih =>
   intro j hj mm;cases hq:listed.getD j ak with
   | true=>rfl
   | false =>
    have:j∈Region.ready .any ops listed:=mem_ready.2 ⟨by rw[Hu _ _ (by rw[cW];exact mm)];exact hq,ops[j],mH mm,λe he hb=>by
     have:=F.back j _ (mH mm) e he hb
     exact ih e.on (by omega) (by omega)⟩
    rw[hr] at this;simp at this
 have hzero:∀(listed:Array Bool),listed.size=ops.size->listed.toList.count ak<=0->Region.ready .any ops listed=[]:=λlisted cW hc=>by
  cases hq:Region.ready .any ops listed with
  | nil=>rfl
  | cons j js =>
   obtain⟨h1,o,ho,_⟩:=mem_ready.1 (show j∈Region.ready .any ops listed by rw[hq];simp);have aC:j<listed.size:=by rw[cW];exact(lC.1 ho).1
   have:ak∈listed.toList:=by
    have e:listed[j]?=aa false:=by
     rw[mH aC];simpa [aC] using h1
    exact sQ (by simpa using e)
   have:=List.count_pos_iff.2 this
   omega
 -- the tail,in every order
 have tail:∀(fuel:Nat) (listed:Array Bool) (a:Act) (w:World),Tl ops hi nA Z ll (aX (ev s1 hi.x).cells) p hF E s1.t s1 listed a w->listed.toList.count ak<=fuel->wpAny P .any ops Q' fuel listed a w:=by
  intro fuel;induction fuel with
  | zero =>
   intro listed a w h hc;have hr:=hzero listed h.size hc;exact⟨hr,fin listed a w h λj hj=>HK listed h.size hr (j+1) j (by omega) hj⟩
  | succ fuel ih =>
   intro listed a w h hc;refine⟨λhr=>fin listed a w h λj hj=>HK listed h.size hr (j+1) j (by omega) hj,λi du => ?_⟩;exact atW T h du λa w h' => ih _ a w h' (LX listed i h.size du fuel hc)
 -- what comes before
 have key:∀(fuel:Nat) (listed:Array Bool) (a:Act) (w:World),DE ops tr st.t (st.aD,st.out) E (λ_ _ _=>True) listed a w->(∀j,nA<=j->listed.getD j ak=ak)->listed.toList.count ak<=fuel->wpAny P .any ops Q' fuel listed a w:=by
  intro fuel;induction fuel with
  | zero =>
   intro listed a w h hn hc;have hr:=hzero listed h.size hc
   have:=HK listed h.size hr (nA+1) nA (by omega) (by omega)
   rw[hn nA (bS _)] at this;simp at this
  | succ fuel ih =>
   intro listed a w h hn hc;refine⟨λhr=>?_,λi du => ?_⟩
   .have:=HK listed h.size hr (nA+1) nA (by omega) (by omega)
    rw[hn nA (bS _)] at this;simp at this
   obtain⟨y7,o,ho,cK⟩:=mem_ready.1 du;have akL:i<ops.size:=(lC.1 ho).1;have AG : i<listed.size:=by rw[h.size];exact akL
   rcases zZ i nA with aC | rfl | hgt
   .refine R5 F lg rfl ht h du (λo ho=>let ⟨x,h1,h2⟩:=v7 i o aC ho;⟨x,h1,.inl ⟨h2,λ_ _ _ _ _ _ _=>trivial⟩⟩) λa w h' => ih _ a w h' (λj hj=>?_) (LX listed i h.size du fuel hc)
    rw[zC AG,aA (by omega)];exact hn j hj
   ·-- the row grows
    have mQ:=zp ho;have qv:∀j,j<i->listed.getD j ak=true:=λj hj=>by
     have:=eA j hj
     rw[mQ] at this;obtain⟨e,h1,h2,h3⟩:=HA this;rw[<-h3];exact cK e h1 h2
    obtain⟨E1,rfl,dL,yU,_⟩:=h.rel;have hS:∀j,(λj=>listed.getD j ak) (0+j)=decide (0+j<i):=λj=>by
     rw[jY]
     by_cases hj:j<i
     .simp only[hj,bL];exact qv j hj
     .simp only[hj,c7];exact hn j (by omega)
    rw[X6 hS,Nat.sub_zero] at dL;have ES:bH E1 s1 a:=by
     refine⟨?_,?_,dL.defers,?_⟩
     .rw[Um.2,Uo];exact dL.ok
     .rw[Um.1,Uo];exact dL.dh
     .rw[AM];exact avg (MB dL.slot)
    obtain⟨c',t,u,e,inf,z,uS,u_,xI,yc,q1,q2,q3,q4,q5,q6,q7,q8,q9,Bl,q11,q12,q13,_⟩:=Cq.app;rw[mQ] at q1;have hg:=Cq.guard.1;rw[mQ] at hg;have mh:=Cq.dst.1;rw[mQ] at mh;unfold wpOp;rw[ho];simp only;rw[F6 hg,aE rfl];left;have dc:(execOp a.eval o).run P E1.w=((Builtin.append_ #[t,u] o.type #[a.eval uS,a.eval u_]).run P E1.w).andThen λv w' => .ok (.value v) w' := by
     simp[execOp,q1,q2,q3,q4,resolve,invoke,builtin]
    have TD:=nK (E:=E1) (st:=s1) (a:=a) ES.slot q12;have TJ:=nK (E:=E1) (st:=s1) (a:=a) ES.slot q13;rw[es] at TD;rw[ez] at TJ;obtain⟨news,r1,r2,r3,r4⟩:=Je (P:=P) q6 TJ;obtain⟨i',zv,k1,k2,k3,k4⟩:=tR q8;rw[q7] at k1;simp only[a9] at k1;subst k1;have jv:zv.cells.size=inf.size:=by have:=gh (rY (E:=E1) k3);simp at this;omega
    obtain⟨bk,cap,E2,m1,m2,m3,m4,m5⟩:=ak2 (P:=P) ES q5 q7 k2 jv q9 dc (by rw[Bl];exact TD) (by rw[Bl];exact r1) r3 mg (ES.ok.aP Z _ tu);unfold Oper.wp;rw[m2];have EG:s1.t.length=a.tmps.size:=by have:=gh ES.slot;simpa using this
    have TO:hi.d9<a.tmps.size:=by rw[<-EG];exact h9
    refine tail fuel _ _ _ ⟨by simp[h.size],λj hj=>?_,E2,s1,bk,cap,rfl,yU.trans m3,?_,rfl,?_,?_,?_,?_,?_,?_⟩ (LX listed i h.size du fuel hc)
    .rw[zC AG];split
     .rfl
     .exact qv j (by omega)
    .rw[mh]
     have:=bH.put m4 (v:=.any) (x:=.slice (aa ⟨bk,0,ag⟩) (ll.length+1) cap) (by simp[R]) (aa hi.d9)
     have e:s1.put (aa hi.d9) .any=s1:=by
      simp only[St.put];rw[Ya T.d9]
     rw[e] at this;exact this
    .rw[mh,Bk TO,aE rfl]
    .intro h1;rw[zC AG,aA (by omega),hn _ (by omega)] at h1;simp at h1
    .intro _ h1;rw[zC AG,aA (by omega),hn _ (by omega)] at h1;simp at h1
    .intro _;rw[<-Bl];exact m1
    .intro h1;rw[zC AG,aA (by omega),hn _ (by omega)] at h1;simp at h1
    .have z1:(listed.setIfInBounds i ab).getD (ops.size - 1) ak=false:=by rw[zC AG,aA (by omega)];exact hn _ (by omega)
     have z2:(listed.setIfInBounds i ab).getD (i+2) ak=false:=by rw[zC AG,aA (by omega)];exact hn _ (by omega)
     rw[z1,z2];simp
   .exfalso
    have mQ:=zp ho;have akB:kE o nA=true:=by
     rw[<-mQ]
     by_cases h1:i=nA+1
     .rw[h1];exact eI
     by_cases h2:i=nA+2
     .rw[h2];exact eS.1
     by_cases h3:i=ops.size - 1
     .rw[h3];exact eO
     have sb:hF=true:=by
      cases hq:hF with
      | true=>rfl
      | false=>rw[hq] at cW;simp at cW;omega
     have h4:i=nA+3:=by rw[sb] at cW;simp at cW;omega
     rw[aE sb] at Cp;rw[h4];exact(eF _ Cp).1
    obtain⟨e,h1,h2,h3⟩:=HA akB
    have:=cK e h1 h2
    rw[h3,hn nA (bS _)] at this;simp at this
 have y3:∀j,(Array.replicate ops.size ak).getD j ak=false:=λj=>by
  by_cases hj:j<ops.size<;>simp[hj]
 have qx:∀(tr:List TR) (q:Nat),cF (λj=>(Array.replicate ops.size ak).getD j ak) q tr=[]:=by
  intro tr;induction tr with
  | nil=>intro q;rfl
  | cons r tr ih=>intro q;rw[cF,aA (by rw[y3];simp)];exact ih _
 refine key ops.size _ a _ ⟨by simp,λi o _ hi=>by rw[y3] at hi;simp at hi,{E with w:=E.w.drew},rfl,?_,bj,trivial⟩ (λj _=>y3 j) (by simp);rw[qx];exact pW
end
section
variable {P:Program} {E:Env} {st:St} {a:Act} {o:Oper} {K:V->St->Prop} {Q:Exit->Act->World->Prop}
def Env.g_(E:Env)(b:Nat):Env:={E with bf:=λx=>if x=b then .const else E.bf x}
def ajy{cs:List V}(hs:bH E st a)(hb:st.out.box b=aa cs):
 Fr E (E.g_ b)/\bH (E.g_ b) ⟨st.t,st.aD,st.out.del b⟩ a/\∀(j:Nat) x,cs[j]?=aa x->∃v,(E.g_ b).w.cell? ⟨b,j,ag⟩=aa v/\((E.g_ b).bf b).iJ j/\R (E.g_ b).nl x v:=by
 obtain⟨dU,c,e,hc,hlen,pN⟩:=hs.ok.box b cs hb;have hc:E.w.heap[b]?=aa (.cells c e (0,0)):=hc;have aW:∀b',E.bf b' ≠ .qI->b' ≠ b:=λb' h e=>h (by rw[e];exact dU)
 have mu:∀b',b' ≠ b->(E.g_ b).bf b' = E.bf b' := λb' h=>by simp[Env.g_,h]
 have aC:=lx (w:=E.w) hc;have bj:Fr E (E.g_ b):=by
  refine⟨rfl,rfl,rfl,bS _,λ_=>rfl,λb' o c' rj hv=>?_,λt n h=>⟨n,h,bS _,λ_ b' c' hr=>⟨?_,λcs e bV=>⟨cs,bV,rfl⟩⟩⟩,λb' _ hr=>⟨rfl,?_⟩,λb' _ h=>?_,λb' t c' _ h=>?_,λb' i _ h=>?_,λb' c' e h=>⟨c',h,rfl⟩⟩
  .have:b' ≠ b:=aW b' (λe=>by rw[e] at rj;exact rj)
   exact⟨by rw[mu b' this];exact rj,hv⟩
  .rw[mu b' (aW b' (by rw[hr];simp))];exact hr
  .rw[mu b' (aW b' (by rcases hr with h | h<;>rw[h]<;>simp))]
  .by_cases e:b' = b
   .rw[e];exact .inl dU
   .rw[mu _ e] at h;exact .inl h
  .by_cases e:b' = b
   .rw[e] at h;simp[Env.g_] at h
   .rw[mu _ e] at h;exact⟨c',h⟩
  .by_cases e:b' = b
   .rw[e] at h;simp[Env.g_] at h
   .rw[mu _ e] at h;exact⟨i,h⟩
 have hle:E.le (E.g_ b):=bj.le λi b h=>h
 refine⟨bj,⟨⟨λb' cs' h=>?_,hs.ok.aP,λb' cc => ?_,hs.ok.nt,λb cs hc=>eG.mono _ bj.nl (hs.ok.b9 b cs hc)⟩,qJ hs.dh hle (λb' i h _=>⟨by rw[mu b' (aW b' (by rw[h];simp))];exact h,rfl⟩) hs.dh.none,hs.defers,RL.mono _ hle hs.slot⟩,λj x hx=>?_⟩
 .simp only[af.del] at h;split at h
  .simp at h
  .rename_i AK;obtain⟨h1,h2⟩:=hs.ok.box b' cs' h;exact⟨by rw[mu b' AK];exact h1,jV.mono hle.nl rfl h2⟩
 .have cc : E.w.heap.size<=b' := cc;rw[mu b' (by omega)];exact hs.ok.fresh b' cc
 .obtain⟨v,hv,hr⟩:=pN j x hx;refine⟨v,?_,by simp[Env.g_,fw.iJ],R.mono x bj.nl hr⟩;show E.w.cell? ⟨b,j,ag⟩=aa v;simp[World.cell?,hc,hv]
def pr(s:List UInt8):List Value:=s.map λb=>Value.int .u8 b.toNat
variable{base:Option Addr}
def W2{D:af}{n:Nat}{s:List UInt8}(cu:E.ok D)(h:I3 D base n s){w0:World}(hw:w0.heap=E.w.heap):
 n=0/\s=[]\/∃b off,base=aa ⟨b,off,ag⟩/\(loadCells ⟨b,off,ag⟩ n).run P w0 = .ok (pr s).toArray w0:=by
 obtain⟨hl,h⟩:=h
 rcases h with rfl | ⟨b,off,cs,rfl,hb,bV⟩
 .exact .inl ⟨rfl,ke.1 hl⟩
 .right;obtain⟨_,c,e,hc,hlen,pN⟩:=cu.box b cs hb;have hc:w0.heap[b]?=aa (.cells c e (0,0)):=by rw[hw];exact hc
  refine⟨b,off,rfl,?_⟩
  have:=run_loadCells_list (P:=P) w0 ⟨b,off,ag⟩ (pr s) (λj u hu=>by
   rw[l9];simp only[pr,tU,dk] at hu;obtain⟨x,hx,rfl⟩:=hu;have hj:j<n:=by rw[<-hl];exact(fv.1 hx).1
   have hcj:cs[off+j]?=aa (.int .u8 x.toNat):=by
    have:=iK (λl:List V=>l[j]?) bV
    simp only[tU,hx,tW,zV hj,vg] at this;exact this
   obtain⟨v,h1,h2⟩:=pN (off+j) _ hcj;simp only[R] at h2;simp[World.cell?,hc,h1,h2])
  rw[show(pr s).length=n by simp[pr,hl]] at this;exact this
variable{e u:TypeId}
def atq{n:Nat}{s:List UInt8}(cu:E.ok st.out)(h:I3 st.out base n s)(hu:P.underlying u=aa (.slice e)):
 Src P E.w 1 (dE s).length u (.slice base n cap) (pr s)/\RL E.nl (dE s).flatten (pr s)/\(∀v∈pr s,v.oneCell' = ab)/\∀y∈dE s,y.length=1:=by
 have hl:=h.1;have hlen:(dE s).length=n:=by simp[dE,hl]
 have cell:∀w0:World,w0.heap=E.w.heap->(Builtin.firstCells 1 n (.slice base n cap)).run P w0 = .ok (pr s).toArray w0:=λw0 hw=>by
  rcases W2 (P:=P) cu h hw with ⟨rfl,rfl⟩ | ⟨b,off,rfl,hr⟩
  .cases base<;>simp[Builtin.firstCells,loadCells,loadCellsFrom,pr]
  .simp only[Builtin.firstCells,tV];exact hr
 refine⟨⟨⟨_,hu,λ_ h=>by simp at h⟩,λw' => by simp[Builtin.lenOf,hlen],?_,?_,by simp[pr,dE]⟩,?_,?_,?_⟩
 .rw[hlen];exact cell E.w rfl
 .rw[hlen];exact cell E.w.drew rfl
 .rw[KZ];clear hl hlen cell h;induction s with
  | nil=>simp[RL,pr]
  | cons b s ih=>simp only[ch,RL,R,pr] at ih ⊢;exact⟨trivial,ih⟩
 .intro v hv;simp only[pr,vh] at hv;obtain⟨b,_,rfl⟩:=hv;rfl
 .intro y hy;simp only[dE,vh] at hy;obtain⟨b,_,rfl⟩:=hy;rfl
variable{t:TypeId}
def ass{lo hi:Option Operand}{nJ du : Option X}(hs:bH E st a)(h1:lv P t lo=aa nJ)(h2:lv P t hi=aa du){len n:Nat}
 (eg:match (generalizing:=false) nJ with | none=>m=0 | some y=>∃j,ev st y = .int j m) (nG:match (generalizing:=false) du with | none=>n=len | some y=>∃j,ev st y = .int j n) (rq:m<=n) (rr:n<=len) :
 (Instr.sliceBounds ak len len (lo.map a.eval) (hi.map a.eval) ag).run P E.w = .ok (m,n,len) E.w:=by
 rcases mA (E:=E) hs.slot h2 with ⟨rfl,rfl⟩ | ⟨u,v,rfl,rfl,hr⟩
 .simp only at nG;subst nG
  rcases mA (E:=E) hs.slot h1 with ⟨rfl,rfl⟩ | ⟨u',v',rfl,rfl,cB⟩
  .simp only at eg;subst eg;simp[Instr.sliceBounds]
  .obtain⟨j',gG⟩:=eg;rw[gG] at cB;simp only[R] at cB;have e2:=rI (P:=P) (w:=E.w) (j:=j') (c:=.sliceB) rq;simp[Instr.sliceBounds,cB,e2]
 .obtain⟨j,hj⟩:=nG;rw[hj] at hr;simp only[R] at hr;have e2:=rI (P:=P) (w:=E.w) (j:=j) (c:=.sliceAlen) rr
  rcases mA (E:=E) hs.slot h1 with ⟨rfl,rfl⟩ | ⟨u',v',rfl,rfl,cB⟩
  .simp only at eg;subst eg;simp[Instr.sliceBounds,hr,e2]
  .obtain⟨j',gG⟩:=eg;rw[gG] at cB;simp only[R] at cB;have e3:=rI (P:=P) (w:=E.w) (j:=j') (c:=.sliceB) rq;simp[Instr.sliceBounds,hr,cB,e2,e3]
def NB(P:Program)(o:Oper):Option aO :=
 match o.op with
 | .slice t x lo hi ag =>
  match cH P t x,lv P t lo,lv P t hi with
  | some y, aa nJ, aa du =>
   match P.underlying t with
   | some (.array m e)=>(eD P e).map λk=>.own (.Ja m k nJ.isSome du.isSome) (y::(nJ.toList++du.toList))
   | some (.slice e)=>if eD P e=aa 1 then aa (.own (.g_ 1 nJ.isSome du.isSome) (y::(nJ.toList++du.toList))) else ag
   | _=>ag
  | _,_,_=>ag
 | .buildSlice t len ps =>
  match P.underlying t with
  | some (.slice e) =>
   match eD P e,kv P e,jJ P (ar len e) (ps.toList.map (·.2)) with
   | some k,aa _,aa xs=>if ps.toList.map (·.1)=bX len/\len*k<=16777216 then aa (.own (.new k) xs) else ag
   | _,_,_=>ag
  | _=>ag
 | .convert src dst x =>
  match P.underlying src,P.underlying dst,cH P src x with
  | some (.slice e),aa .string,aa y=>match P.underlying e with | some (.int .u8)=>aa (.own .KQ [y]) | _=>ag
  | _,_,_=>ag
 | .call c =>
  match c.callee with
  | .builtin .append =>
   match c.argTypes.toList,c.args.toList with
   | [t, u], [s, x] =>
    match P.underlying t,cH P t s,cH P u x with
    | some (.slice e), aa s', aa x' =>
     match P.info? e,kv P e with
     | some i, aa _ =>
      if i.size=1/\i.bytes<=4096 then
       match P.underlying u with
       | some .string=>aa (.own .nj [s',x'])
       | some (.slice _)=>aa (.own .Kn [s',x'])
       | _=>ag
      else ag
     | _,_=>ag
    | _,_,_=>ag
   | _,_=>ag
  | _=>ag
 | _=>ag
def avx(hs:bH E st a){len:Nat}{parts:Array (Nat × Operand)}{z:List V}(ho:o.op = .buildSlice t len parts)(ht:P.underlying t=aa (.slice e))(hn:eD P e=aa k)(hz:kv P e=aa z)
 (hr:parts.toList.map (·.1)=bX len) (cW:len*k<=16777216) {l:List (List V)}
 (hf:(parts.toList.map (·.2)).length=len/\l.length=len/\(∀x∈parts.toList.map (·.2),(a.eval x).cells.size=k)/\(∀y∈l,y.length=k)/\RL E.nl l.flatten ((parts.toList.map (·.2)).map λx=>(a.eval x).cells.toList).flatten/\∀v∈((parts.toList.map (·.2)).map λx=>(a.eval x).cells.toList).flatten,v.oneCell' = ab)
 (hk:∀b,st.out.box b=ag->K (V.raw (.slice (aa ⟨b,0,ag⟩) l.length l.length)) ⟨st.t,st.aD,st.out.set b l.flatten⟩):o.wp P a E.w (eb E a o.dst K) Q:=by
 obtain⟨k1,k2,k3,k4,k5,k6⟩:=hf;obtain⟨i,zv,h1,h2,h3,h4⟩:=tR hz;have hlen:parts.toList.length=len:=by simpa using k1
 let ps:List (Nat × Value):=parts.toList.map λ(i,x)=>(i,a.eval x)
 have Ms:ps.map (·.1)=List.range' 0 ps.length:=by
  have:ps.map (·.1)=parts.toList.map (·.1):=by simp[ps,wI]
  rw[this,hr,vj];congr 1;simp[ps];simpa using hlen.symm
 have Mt:(ps.map λp=>p.2.cells.toList)=(parts.toList.map (·.2)).map λx=>(a.eval x).cells.toList:=by simp[ps,wI]
 have cK:∀p∈ps,p.2.cells.size=k:=λp hp=>by
  simp only[ps,vh] at hp;obtain⟨q,hq,rfl⟩:=hp;exact k3 q.2 (vh.2 ⟨q,hq,rfl⟩)
 have pT:ps.length=len:=by simp[ps];simpa using hlen
 have fill:∀cells:Array Value,cells.size=len*k->Instr.fill (λi=>aa (i*k,k)) cells ps=aa ((parts.toList.map (·.2)).map λx=>(a.eval x).cells.toList).flatten.toArray:=λcells hc=>by
  have:=K8 ps 0 cells Ms cK (by rw[pT];simpa using hc)
  rw[this,Mt];simp
 generalize ti:((parts.toList.map (·.2)).map λx=>(a.eval x).cells.toList).flatten=news at fill k5 k6;refine PE hs (w1:=E.w) (Ext.refl _) rfl (x:=.slice (aa ⟨E.w.heap.size,0,ag⟩) len len) (v:=λb=>.raw (.slice (aa ⟨b,0,ag⟩) l.length l.length)) (zs:=l.flatten) (c:=news.toArray) (e:=e) ?_ (by simpa using k5) (by simp only[R,k2]) rfl hk;have jv:(zeroValue e).run P E.w = .ok zv E.w:=by simp[zeroValue,typeInfo,h1,h2]
 have EO:(parts.map λ(i,x)=>(i,a.eval x)).toList=ps:=by simp[ps]
 have y5 : ¬(16777216<len*k):=by omega
 simp only[execOp,ho,Sem.run_bind];have key:(Instr.buildSlice t len (parts.map λ(i,x)=>(i,a.eval x))).run P E.w = .ok (.slice (aa ⟨E.w.heap.size,0,ag⟩) len len) (E.w.alloc (.cells news.toArray e)):=by
  unfold Instr.buildSlice;simp only[Sem.run_bind,run_underlying ht,Result.andThen_ok,pk hn];rw[aA (by simpa using y5)];rw[EO]
  by_cases h0:len*k=0
  .rw[aE h0];simp only[Sem.run_bind,Sem.run_pure,Result.andThen_ok];rw[fill _ (by simp)];simp[newRow]
  .rw[aA h0];simp only[Sem.run_bind,jv,Result.andThen_ok,Sem.run_pure];rw[fill _ (by simp)];simp[newRow]
 rw[key];rfl
variable{ao:aO}
def ap1(hl:NB P o=aa ao)(hs:bH E st a)(h:ao.bh P st K):o.wp P a E.w (eb E a o.dst K) Q:=by
 have X:=λ{t:TypeId} {x:Operand} {y:X} (hx:cH P t x=aa y)=>nK (E:=E) (st:=st) (a:=a) hs.slot hx
 unfold NB at hl;split at hl
 .rename_i t x lo hi ho;split at hl
  case h_2=>simp at hl
  rename_i y nJ du h1 h2 h3;have hx:=X h1;split at hl
  .rename_i m e ht;simp only[dk] at hl;obtain⟨k,hk,rfl⟩:=hl;simp only[aO.bh,di] at h;unfold OQ.bh at h;split at h<;>try (exfalso;simp_all;done)
   .rename_i m0 k0 b1 b2 b off vs e1 e2;simp only[OQ.Ja.injEq] at e1;obtain⟨rfl,rfl,rfl,rfl⟩:=e1;simp only[ig] at e2;obtain⟨e2,rfl⟩:=e2;rw[e2] at hx;simp only[R] at hx;rw[Hg] at h;obtain⟨l,h,g1⟩:=Ai h;rw[<-eK (di st du.toList)] at h;obtain⟨hh,h,g2⟩:=Ai h;obtain⟨_,k1,k2,h⟩:=h;have hb:=ass (P:=P) hs h2 h3 g1 g2 k1 k2;refine dd hs (v:=.raw _) (x:=.slice (aa (if m=l then ⟨b,off,ag⟩ else ⟨b,off+l*k,ag⟩)) (hh - l) (m - l)) ?_ (by simp only[R]) h;simp only[execOp,ho,Sem.run_bind,hx];simp[Instr.sliceAt,run_underlying ht,Instr.sureAddr,hb,pk hk,l9]
  .rename_i e ht;split at hl
   case isFalse=>simp at hl
   rename_i hk;simp only[a9] at hl;subst hl;simp only[aO.bh,di] at h;unfold OQ.bh at h;split at h<;>try (exfalso;simp_all;done)
   .rename_i k0 b1 b2 b off n cap vs e1 e2;simp only[OQ.g_.injEq] at e1;obtain⟨rfl,rfl,rfl⟩:=e1;simp only[ig] at e2;obtain⟨e2,rfl⟩:=e2;rw[e2] at hx;simp only[R] at hx;rw[Hg] at h;obtain⟨l,h,g1⟩:=Ai h;rw[<-eK (di st du.toList)] at h;obtain⟨hh,h,g2⟩:=Ai h;obtain⟨_,k1,k2,_,cs,AB,hlen,fE,pR,h⟩:=h;have hb:=OO (P:=P) (mx:=none) (mx' := ag) (M:=cap) hs h2 h3 rfl (by simp) g1 g2 rfl k1 k2 (bS _);obtain⟨hf,dL,hc⟩:=ajy hs AB;unfold Oper.wp;rw[show(execOp a.eval o).run P E.w = .ok (.value (.slice (if cap=l then aa ⟨b,off,ag⟩ else aa ⟨b,off+l,ag⟩) (hh - l) (cap - l))) E.w by
     simp only[execOp,ho,Sem.run_bind,hx];simp only[Option.map_none] at hb;simp[Instr.sliceAt,run_underlying ht,Instr.slice,hb,pk hk,l9]]
    refine⟨E.g_ b,_,_,⟨st.t,st.aD,st.out.del b⟩,rfl,hf,dL,?_,rfl,h⟩;have fY:(B8 (((cs.drop off).take hh).drop l)).length=hh - l:=by simp[B8];omega
    simp only[R];refine⟨_,_,by rw[fY],by rw[fY];omega,?_,trivial⟩
    by_cases hz:hh=l
    .left;exact ke.1 (by rw[fY];omega)
    .right;refine⟨b,off+l,by rw[aA (by omega)],?_⟩;have key:∀(xs:List V) (p:Nat),(∀(j:Nat) x,xs[j]?=aa x->cs[p+j]?=aa x)->cL xs=ab->gq (E.g_ b).nl 1 (B8 xs) b p:=by
      intro xs;induction xs with
      | nil=>intro p _ _;simp[B8,gq]
      | cons x xs ih =>
       intro p hp EK;simp only[cL,bF] at EK;simp only[B8,ch,gq,eG];obtain⟨v,v1,v2,v3⟩:=hc p x (by have:=hp 0 x rfl;simpa using this);refine⟨rfl,⟨⟨v,v1,v2,zo (E:=(E.g_ b).nl) (xs:=[x]) (vs:=[v]) (by simp only[RL];exact⟨v3,trivial⟩) (by simp[cL,EK.1]) v (by simp),by simpa using v3⟩,trivial⟩,?_⟩;refine ih (p+1) (λj y hy=>?_) EK.2
       have:=hp (j+1) y (by simpa using hy)
       rwa [show p+1+j=p+(j+1) by omega]
     refine key _ _ (λj x kl => ?_) fE;rw[vg,zV (by
      have:=(fv.1 kl).1
      simp at this;omega),vg] at kl
     rwa [show off+l+j=off+(l+j) by omega]
  .simp at hl
 .rename_i t len ps ho;split at hl
  case h_2=>simp at hl
  rename_i e ht;split at hl
  case h_2=>simp at hl
  rename_i k z xs hk hz qB;split at hl
  case isFalse=>simp at hl
  rename_i hc;simp only[a9] at hl;subst hl;simp only[aO.bh] at h;unfold OQ.bh at h;split at h<;>try (exfalso;simp_all;done)
  .rename_i k0 vs e1;simp only[OQ.new.injEq] at e1;subst e1;obtain⟨l,h1,rr,h2⟩:=h;exact avx hs ho ht hk hz hc.1 hc.2 (M9 (E:=E) hs.slot qB h1) h2
 .rename_i src dst x ho;split at hl
  case h_2=>simp at hl
  rename_i e y h1 h2 h3;split at hl
  case h_2=>simp at hl
  rename_i h4;simp only[a9] at hl;subst hl;have hx:=X h3;simp only[aO.bh,di] at h;unfold OQ.bh at h;split at h<;>try (exfalso;simp_all;done)
  .rename_i base n cap e1 e2;simp only[ig,il] at e2;rw[e2] at hx;simp only[R] at hx;obtain⟨s,ht,h⟩:=h;refine dd hs (v:=.aF s) (x:=.string ⟨s.toArray⟩) ?_ (by simp only[R]) h;have key:(Conv.bytesToString (a.eval x)).run P E.w = .ok (.string ⟨s.toArray⟩) E.w:=by
    rw[hx]
    rcases W2 (P:=P) hs.ok ht rfl with ⟨rfl,rfl⟩ | ⟨b,off,rfl,hr⟩
    .cases base with
     | none=>simp[Conv.bytesToString];rfl
     | some ad =>
      have:=run_bytesToString (P:=P) E.w ad 0 cap [] (by simp[loadCells,loadCellsFrom])
      simp at this ⊢;exact this
    .rw[show pr s=(s.map λb=>(b.toNat:Int)).map (Value.int .u8) by simp[pr]] at hr
     have:=run_bytesToString (P:=P) E.w ⟨b,off,ag⟩ n cap _ hr
     rw[this];have hp:=Ol s [];simp only[gN] at hp;exact iK (λz=>Result.ok (Value.string z) E.w) hp
   rw[hx] at key;simp only[execOp,ho,Sem.run_bind,hx];simp[convert,run_underlying h1,run_underlying h2,run_underlying h4,key]
 .rename_i c ho;obtain⟨callee,args,argTypes⟩:=c;simp only at hl;split at hl
  .split at hl
   case h_2=>simp at hl
   rename_i t u s x ht hx;have e1:argTypes=#[t,u]:=by cases argTypes;simpa using ht
   have e2:args=#[s,x]:=by cases args;simpa using hx
   subst e1;subst e2;split at hl
   case h_2=>simp at hl
   rename_i e s' x' hu dL kl;split at hl
   case h_2=>simp at hl
   rename_i i z hi hz;split at hl
   case isFalse=>simp at hl
   rename_i hc;obtain⟨pQ,nC⟩:=hc;obtain⟨i',z',q1,q2,q3,q4⟩:=tR hz;obtain rfl:i=i' := by rw[hi] at q1;simpa using q1
   have jv:z'.cells.size=i.size:=by have:=gh (rY (E:=E) q3);simp at this;omega
   have v9:=X dL;have gj:=X kl;split at hl
   .rename_i AQ;simp only[a9] at hl;subst hl;simp only[aO.bh,di] at h;unfold OQ.bh at h;split at h<;>try (exfalso;simp_all;done)
    .rename_i base n cap sx e1 e2;simp only[ig,il] at e2;obtain⟨e2,e3⟩:=e2;rw[e2] at v9;rw[e3] at gj;simp only[R] at v9 gj;obtain⟨news,g1,g2,g3,g4⟩:=Yn (P:=P) (E:=E.nl) (w:=E.w) AQ sx;refine PD hs hu hi q2 jv nC (ty:=o.type) (base:=base) (n:=n) (cap:=cap) (u:=u) (vx:=a.eval x) (m:=dE sx) (news:=news) ?_ ?_ g2 g3 ?_ ?_
     .simp[execOp,ho,resolve,invoke,builtin,v9]
     .rw[pQ,gj];exact g1
     .rw[pQ];exact g4
     .rw[pQ];exact h
   .rename_i e' AQ;simp only[a9] at hl;subst hl;simp only[aO.bh,di] at h;unfold OQ.bh at h;split at h<;>try (exfalso;simp_all;done)
    .rename_i base n cap abe n' pC e1 e2;simp only[ig,il] at e2;obtain⟨e2,e3⟩:=e2;rw[e2] at v9;rw[e3] at gj;simp only[R] at v9 gj;obtain⟨sx,hr,h⟩:=h;obtain⟨g1,g2,g3,g4⟩:=atq (P:=P) (cap:=pC) hs.ok hr AQ;refine PD hs hu hi q2 jv nC (ty:=o.type) (base:=base) (n:=n) (cap:=cap) (u:=u) (vx:=a.eval x) (m:=dE sx) (news:=pr sx) ?_ ?_ g2 g3 ?_ ?_
     .simp[execOp,ho,resolve,invoke,builtin,v9]
     .rw[pQ,gj];exact g1
     .rw[pQ];exact g4
     .rw[pQ];exact h
   .simp at hl
  .simp at hl
 .simp at hl
variable{ty:TypeId}
def Y8(hs:bH E st a){i:TypeInfo}(ht:P.underlying t=aa (.slice e))(hi:P.info? e=aa i){n:Nat}{vx:Value}{xs:List V}
 (dc:(execOp a.eval o).run P E.w=((Builtin.copy_ #[t,u] ty #[.slice base n cap,vx]).run P E.w).andThen λv w' => .ok (.value v) w')
 {len:Nat} (hlen:(Builtin.lenOf vx).run P E.w = .ok len E.w) (hm:min len n=m) {news:List Value} (pN:(Builtin.firstCells i.size m vx).run P E.w = .ok news.toArray E.w)
 (ti:RL E.nl xs news) (fE:∀v∈news,v.oneCell' = ab) (cW:news.length=m*i.size)
 (hk:BP st.out i.size base m xs λv D=>K v ⟨st.t,st.aD,D⟩):o.wp P a E.w (eb E a o.dst K) Q:=by
 obtain⟨xm,s9⟩:=hk;have hm:Nat.min len n=m:=hm
 by_cases h0:m=0
 .subst h0
  have:news=[]:=tS (by simpa using cW)
  subst this;refine dd hs (v:=.int .i64 0) (x:=.int .i64 0) ?_ (by simp only[R]) (xm rfl);rw[dc];cases base<;>simp[Builtin.copy_,run_underlying ht,sizeOf,typeInfo,hi,hlen,hm,pN,storeCells,goInt]
 .obtain⟨b,off,cs,rfl,pM,pO,hK⟩:=s9 h0;obtain⟨dU,c,e',fj,hln,hc⟩:=hs.ok.box b cs pM;have fj:E.w.heap[b]?=aa (.cells c e' (0,0)):=fj;have xz:=gh ti;have L3 : off+news.length<=c.size:=by omega
  have eP:=run_storeCells_at (P:=P) b off e' news 0 c E.w fj (by simpa using L3) fE;simp only[wO] at eP;have j8:(Builtin.copy_ #[t,u] ty #[.slice (aa ⟨b,off,ag⟩) n cap,vx]).run P E.w = .ok (.int .i64 m) (E.w.setRow b (c.toList.take off++news++c.toList.drop (off+news.length)).toArray):=by
   simp[Builtin.copy_,run_underlying ht,sizeOf,typeInfo,hi,hlen,hm,pN,eP,goInt]
  have bj:=Hq (E:=E) (new:=(c.toList.take off++news++c.toList.drop (off+news.length)).toArray) fj (.inr dU) (by simp;omega);have hle:=bj.le λ_ _ h=>h
  have hD:=setRow_heap E.w b c (c.toList.take off++news++c.toList.drop (off+news.length)).toArray e' _ fj;have AB:=GX (E' := Env.nl {E with w:=E.w.setRow b (c.toList.take off++news++c.toList.drop (off+news.length)).toArray}) hln
   (λj x hj=>let ⟨u,h1,h2⟩:=hc j x hj;⟨u,h1,h2.mono _ bj.nl⟩) (RL.mono _ bj.nl ti) (by omega) hD
  generalize (c.toList.take off++news++c.toList.drop (off+news.length)).toArray=new at j8 hD bj hle AB;have kh : ∀b',b' ≠ b->(E.w.setRow b new).heap[b']?=E.w.heap[b']?:=λb' aW=>setRow_other E.w b b' new aW
  unfold Oper.wp;rw[dc,j8];refine⟨{E with w:=E.w.setRow b new},.int .i64 m,.int .i64 m,⟨st.t,st.aD,st.out.set b (setAt cs off xs)⟩,rfl,bj,⟨⟨?_,hs.ok.aP,λb' cc => hs.ok.fresh b' (by simpa using cc),hs.ok.nt,λb cs hc=>eG.mono _ bj.nl (hs.ok.b9 b cs hc)⟩,
   qJ hs.dh hle (λb' i hr _=>⟨hr,kh b' (by rintro rfl;rw[dU] at hr;simp at hr)⟩) hs.dh.none,hs.defers,RL.mono _ hle hs.slot⟩,by simp only[R],rfl,hK⟩
  intro b' cs' yR;simp only[af.set] at yR;split at yR
  .rename_i e2;subst e2;simp only[a9] at yR;subst yR;exact⟨dU,AB⟩
  .rename_i aW;obtain⟨h1,h2⟩:=hs.ok.box b' cs' yR;exact⟨h1,h2.mono bj.nl (kh b' aW)⟩
def ade(cu:E.ok st.out){n:Nat}{xs:List V}(h:P0 st.out base n xs):∃news:List Value,news.length=n/\RL E.nl xs news/\(∀v∈news,v.oneCell' = ab) /\
 ∀(k m len cap:Nat),m*k=n->(Builtin.firstCells k m (.slice base len cap)).run P E.w = .ok news.toArray E.w:=by
 rcases h with ⟨rfl,rfl⟩ | ⟨b,o,cs,rfl,hb,hl,rfl,h1⟩
 .refine⟨[],rfl,by simp[RL],by simp,λk m len cap e=>?_⟩;cases base with
  | none=>simp[Builtin.firstCells]
  | some ad=>simp[Builtin.firstCells,e,loadCells,loadCellsFrom]
 .obtain⟨_,c,e,hc,hlen,pN⟩:=cu.box b cs hb;have hc:E.w.heap[b]?=aa (.cells c e (0,0)):=hc;have fY:RL E.nl ((cs.drop o).take n) ((c.toList.drop o).take n):=by
   refine DT (by simp;omega) λj x u hx hu=>?_
   have hj:j<n:=by have:=(fv.1 hx).1;simp at this;omega
   rw[zV hj,vg] at hx;rw[zV hj,vg] at hu;obtain⟨v,h1,h2⟩:=pN (o+j) x hx
   have:v=u:=by simp at hu;rw[hu] at h1;simpa using h1.symm
   exact this▸h2
  have lh:((c.toList.drop o).take n).length=n:=by simp;omega
  refine⟨(c.toList.drop o).take n,lh,fY,zo fY h1,λk m len cap e2=>?_⟩
  have:=run_loadCells_list (P:=P) E.w ⟨b,o,ag⟩ ((c.toList.drop o).take n) (λj v hv=>by
   have hj:j<n:=by have:=(fv.1 hv).1;omega
   rw[l9];rw[zV hj,vg] at hv;simpa [World.cell?,hc] using hv)
  rw[lh] at this;simp only[Builtin.firstCells,e2];exact this
def Ny(P:Program)(o:Oper):Option aO :=
 match o.op with
 | .index t x i =>
  match P.underlying t,cH P t x,cH P t i with
  | some (.array m e), aa y, aa z =>
   match iw P e,eD P e with
   | some ak,aa 1=>aa (.own (.H8 m) [y,z])
   | _,_=>ag
  | _,_,_=>ag
 | .binOp op t x y _ =>
  match P.underlying t,cH P t x,cH P t y with
  | some (.pointer _),aa x',aa y' => match op with | .eql=>aa (.r6 ak x' y') | .neq=>aa (.r6 ab x' y') | _=>ag
  | _,_,_=>ag
 | .unOp .neg t x=>match P.underlying t,cH P t x with | some (.int k),aa y=>aa (.eW .sub (.c (.int k 0)) y) | _,_=>ag
 | .unOp .xor t x=>match P.underlying t,cH P t x with | some (.int k),aa y=>aa (.eW .xor (.c (.int k (if k.signed then -1 else k.max))) y) | _,_=>ag
 | .call c =>
  match c.callee with
  | .builtin .min =>
   match c.argTypes.toList,c.args.toList with
   | [t,u],[x,y]=>match P.underlying t,cH P t x,cH P u y with | some (.int _),aa x',aa y' => aa (.own .min [x',y']) | _,_,_=>ag
   | _,_=>ag
  | .builtin .max =>
   match c.argTypes.toList,c.args.toList with
   | [t,u],[x,y]=>match P.underlying t,cH P t x,cH P u y with | some (.int _),aa x',aa y' => aa (.own .max [x',y']) | _,_,_=>ag
   | _,_=>ag
  | .builtin .copy =>
   match c.argTypes.toList,c.args.toList with
   | [t, u], [x, y] =>
    match P.underlying t,P.underlying u,cH P t x,cH P u y with
    | some (.slice e),aa (.slice e'),aa x',aa y' => match P.info? e with | some i=>if e=e' /\ 0<i.size then aa (.own (.B' i.size) [x',y']) else ag | none=>ag
    | _,_,_,_=>ag
   | _,_=>ag
  | _=>ag
 | _=>ag
variable{x:Operand}
def Y9(hs:bH E st a){neg:Bool}{op:BinOp}(mo:op=if neg then .neq else .eql){t':TypeId}(ht:P.underlying t=aa (.pointer e)){y:Operand}{vx vy:V}(ho:o.op = .binOp op t x y t')(hx:R E vx (a.eval x))(hy:R E vy (a.eval y))
 (hk:match (generalizing:=false) isNil vx,vy with | some g,.jd=>K (.bool (if neg then !g else g)) st | _,_=>False):o.wp P a E.w (eb E a o.dst K) Q:=by
 split at hk
 case h_2=>exact hk.elim
 rename_i g hg;have hp:P.underlying t=aa (.pointer (P.pointee t)):=by rw[ht];simp[Program.pointee,ht]
 obtain⟨p,hv,rl⟩:∃p,a.eval x = .pointer p/\p.isNone=g:=by
  unfold isNil at hg;split at hg
  .simp only[R] at hx;exact⟨ag,hx,by simpa using hg⟩
  .rename_i q off;cases q with
   | aD i=>simp only[R] at hx;obtain⟨b,_,h⟩:=hx;exact⟨_,h,by simpa using hg⟩
   | out b=>simp only[R] at hx;exact⟨_,hx,by simpa using hg⟩
   | kB b=>simp only[R] at hx;exact⟨_,hx,by simpa using hg⟩
  .simp at hg
 simp only[R] at hy;subst mo;subst rl;cases neg
 .refine dd hs (x:=.bool p.isNone) ?_ (by simp[R]) hk;simp only[execOp,ho,hv,hy];simp[eqGuard,run_eql_pointer_nil E.w t p hp]
 .refine dd hs (x:=.bool (!p.isNone)) ?_ (by simp[R]) hk;simp only[execOp,ho,hv,hy];simp[eqGuard,run_neq_pointer_nil E.w t p hp]
def an3(hl:Ny P o=aa ao)(hs:bH E st a)(h:ao.bh P st K):o.wp P a E.w (eb E a o.dst K) Q:=by
 have X:=λ{t:TypeId} {x:Operand} {y:X} (hx:cH P t x=aa y)=>nK (E:=E) (st:=st) (a:=a) hs.slot hx
 unfold Ny at hl;split at hl
 .rename_i t x i ho;split at hl
  case h_2=>simp at hl
  rename_i m e y z ht hx hi;split at hl
  case h_2=>simp at hl
  rename_i hg hn;simp only[a9] at hl;subst hl;have gj:=X hx;have CA:=X hi;simp only[aO.bh,di] at h;unfold OQ.bh at h;split at h<;>try (exfalso;simp_all;done)
  .rename_i m0 cs k j e1 e2;simp only[OQ.H8.injEq] at e1;subst e1;simp only[ig,il] at e2;obtain⟨e2,e3⟩:=e2;rw[e2] at gj;rw[e3] at CA;simp only[R] at gj CA;obtain⟨vs,h4,h5⟩:=gj;obtain⟨g1,g2,h⟩:=h;unfold Fw at h;split at h
   .rename_i c hc;obtain⟨u,h6,h7⟩:=rT h5 j.toNat c hc;have h6' : vs[j.toNat]?=aa u:=by simpa using h6
    refine dd hs (v:=c) (x:=u) ?_ h7 h.2;simp[execOp,ho,h4,CA,Instr.index,asIntOf,run_underlying ht,g1,g2,part,Bo hg,pk hn,h6']
   .exact h.elim
 .rename_i op t x y t' ho;split at hl
  case h_2=>simp at hl
  rename_i e x' y' ht hx hy;split at hl
  .simp only[a9] at hl;subst hl;exact Y9 hs (neg:=false) rfl ht ho (X hx) (X hy) h
  .simp only[a9] at hl;subst hl;exact Y9 hs (neg:=true) rfl ht ho (X hx) (X hy) h
  .simp at hl
 .rename_i t x ho;split at hl
  case h_2=>simp at hl
  rename_i k y ht hx;simp only[a9] at hl;subst hl;have hx:=X hx;simp only[aO.bh,ev,opt,K2] at h;split at h
  case h_2=>exact h.elim
  rename_i v hv;unfold vA at hv;split at hv
  case h_2=>simp at hv
  rename_i k' n k2 m e1 e2;simp only[V.int.injEq] at e1;obtain⟨rfl,rfl⟩:=e1;split at hv
  case isFalse=>simp at hv
  rename_i fH;obtain rfl:=H9 (fH.resolve_right (by simp[AZ]));simp only[iP,a9] at hv;subst hv;have e2:ev st y = .int k m:=e2;rw[e2] at hx;simp only[R] at hx;refine dd hs (x:=.int k (k.wrap (0 - m))) ?_ (by simp only[R]) h;simp only[execOp,ho,hx];simp only[Op.unary,Op.intArith];simp
 .rename_i t x ho;split at hl
  case h_2=>simp at hl
  rename_i k y ht hx;simp only[a9] at hl;subst hl;have hx:=X hx;simp only[aO.bh,ev,opt,K2] at h;split at h
  case h_2=>exact h.elim
  rename_i v hv;unfold vA at hv;split at hv
  case h_2=>simp at hv
  rename_i k' n k2 m e1 e2;simp only[V.int.injEq] at e1;obtain⟨rfl,rfl⟩:=e1;split at hv
  case isFalse=>simp at hv
  rename_i fH;obtain rfl:=H9 (fH.resolve_right (by simp[AZ]));simp only[iP,a9] at hv;subst hv;have e2:ev st y = .int k m:=e2;rw[e2] at hx;simp only[R] at hx;refine dd hs (x:=.int k (k.wrap ((BitVec.ofInt k.bits (if k.signed then -1 else k.max) ^^^ BitVec.ofInt k.bits m).toNat:Nat))) ?_ (by simp only[R]) h;simp only[execOp,ho,hx];simp only[Op.unary,Op.intBits];simp
 .rename_i c ho;obtain⟨callee,args,argTypes⟩:=c;simp only at hl;split at hl
  .split at hl
   case h_2=>simp at hl
   rename_i t u x y ht hx;have e1:argTypes=#[t,u]:=by cases argTypes;simpa using ht
   have e2:args=#[x,y]:=by cases args;simpa using hx
   subst e1;subst e2;split at hl
   case h_2=>simp at hl
   rename_i k0 x' y' hu kl AS;simp only[a9] at hl;subst hl;have gj:=X kl;have rz:=X AS;simp only[aO.bh,di] at h;unfold OQ.bh at h;split at h<;>try (exfalso;simp_all;done)
   .rename_i k n k' m e1 e2;simp only[ig,il] at e2;obtain⟨e2,e3⟩:=e2;rw[e2] at gj;rw[e3] at rz;simp only[R] at gj rz;obtain⟨fH,h⟩:=h;refine dd hs (v:=.int k (if m<n then m else n)) (x:=.int k (if m<n then m else n)) ?_ (by simp only[R]) h;simp[execOp,ho,resolve,invoke,builtin,Builtin.min_,Builtin.min2,gj,rz]
  .split at hl
   case h_2=>simp at hl
   rename_i t u x y ht hx;have e1:argTypes=#[t,u]:=by cases argTypes;simpa using ht
   have e2:args=#[x,y]:=by cases args;simpa using hx
   subst e1;subst e2;split at hl
   case h_2=>simp at hl
   rename_i k0 x' y' hu kl AS;simp only[a9] at hl;subst hl;have gj:=X kl;have rz:=X AS;simp only[aO.bh,di] at h;unfold OQ.bh at h;split at h<;>try (exfalso;simp_all;done)
   .rename_i k n k' m e1 e2;simp only[ig,il] at e2;obtain⟨e2,e3⟩:=e2;rw[e2] at gj;rw[e3] at rz;simp only[R] at gj rz;obtain⟨fH,h⟩:=h;refine dd hs (v:=.int k (if n<m then m else n)) (x:=.int k (if n<m then m else n)) ?_ (by simp only[R]) h;simp[execOp,ho,resolve,invoke,builtin,Builtin.max_,Builtin.max2,gj,rz]
  .split at hl
   case h_2=>simp at hl
   rename_i t u x y ht hx;have e1:argTypes=#[t,u]:=by cases argTypes;simpa using ht
   have e2:args=#[x,y]:=by cases args;simpa using hx
   subst e1;subst e2;split at hl
   case h_2=>simp at hl
   rename_i e e' x' y' hu AQ kl AS;split at hl
   case h_2=>simp at hl
   rename_i i hi;split at hl
   case isFalse=>simp at hl
   rename_i hc;simp only[a9] at hl;subst hl;obtain⟨rfl,gi⟩:=hc;have gj:=X kl;have rz:=X AS;simp only[aO.bh,di] at h;unfold OQ.bh at h;split at h<;>try (exfalso;simp_all;done)
   .rename_i k0 base n cap abe n' pC e1 e2;simp only[OQ.B'.injEq] at e1;subst e1;simp only[ig,il] at e2;obtain⟨e2,e3⟩:=e2;rw[e2] at gj;rw[e3] at rz;simp only[R] at gj rz;obtain⟨xs,Ct,h⟩:=h;obtain⟨news,g1,g2,g3,g4⟩:=ade (P:=P) hs.ok Ct;refine Y8 hs (u:=u) (ty:=o.type) (vx:=a.eval y) (news:=news) (base:=base) (n:=n) (cap:=cap) hu hi ?_ (len:=n') ?_ rfl ?_ g2 g3 g1 h
    .simp[execOp,ho,resolve,invoke,builtin,gj]
    .rw[rz];simp[Builtin.lenOf]
    .rw[rz];exact g4 _ _ _ _ rfl
   .rename_i k0 base n cap tk k1 m e1 e2;simp only[OQ.B'.injEq] at e1;subst e1;simp only[ig,il] at e2;obtain⟨e2,e3⟩:=e2;obtain⟨rfl,hle,h⟩:=h;rw[e2] at gj;rw[e3] at rz;obtain⟨news,g1,g2,g3,g4⟩:=Je (P:=P) AQ rz;simp only[R] at gj;refine Y8 hs (u:=u) (ty:=o.type) (vx:=a.eval y) (news:=news) (base:=base) (n:=n) (cap:=cap) (m:=m.length) hu hi ?_ (len:=m.length) (g1.len _) (by omega) g1.cells g2 g3 g1.size h;simp[execOp,ho,resolve,invoke,builtin,gj]
  .simp at hl
 .simp at hl
def Nw(P:Program)(o:Oper):Option aO :=
 match o.op with
 | .call c =>
  match c.callee with
  | .value (.func f) =>
   match P.funcs[f]?,jJ P c.argTypes.toList c.args.toList with
   | some fn,aa xs=>if fn.body.isNone=ab/\fn.origin = "" then(if fn.name = "internal/bytealg.CountString" then aa (.own .KH xs) else if fn.name = "internal/bytealg.IndexByteString" then aa (.own .ML xs) else ag) else ag
   | _,_=>ag
  | _=>ag
 | _=>ag
def afE(s:List UInt8)(c:UInt8):Av s c=Lib.indexByte s c:=by
 induction s with
 | nil=>rfl
 | cons b l ih=>simp only[Av,Lib.indexByte,ih]
variable{fn:Func}
def afH(h:fn.name = "internal/bytealg.CountString")(ho:fn.origin = ""):Extern.findNext fn=ag/\Extern.find fn=aa Extern.BytealgCount.count:=by
 have k1:Extern.allNextRows.lookup "internal/bytealg.CountString" = none:=by kernel_rfl
 have k2:Extern.allNextRows.lookup "" = none:=by kernel_rfl
 have k3:Extern.allGenericRows.lookup "internal/bytealg.CountString" = none:=by kernel_rfl
 have k4:Extern.allTypedRows.lookup "internal/bytealg.CountString" = none:=by kernel_rfl
 have k5:Extern.allRows.lookup "internal/bytealg.CountString" = aa Extern.BytealgCount.count:=by kernel_rfl
 exact⟨by simp[Extern.findNext,h,ho,k1,k2],by simp[Extern.find,h,k3,k4,k5]⟩
def afI(h:fn.name = "internal/bytealg.IndexByteString")(ho:fn.origin = ""):Extern.findNext fn=ag/\Extern.find fn=aa Extern.BytealgIndexByte.indexByte:=by
 have k1:Extern.allNextRows.lookup "internal/bytealg.IndexByteString" = none:=by kernel_rfl
 have k2:Extern.allNextRows.lookup "" = none:=by kernel_rfl
 have k3:Extern.allGenericRows.lookup "internal/bytealg.IndexByteString" = none:=by kernel_rfl
 have k4:Extern.allTypedRows.lookup "internal/bytealg.IndexByteString" = none:=by kernel_rfl
 have k5:Extern.allRows.lookup "internal/bytealg.IndexByteString" = aa Extern.BytealgIndexByte.indexByte:=by kernel_rfl
 exact⟨by simp[Extern.findNext,h,ho,k1,k2],by simp[Extern.find,h,k3,k4,k5]⟩
def YM{U:Type}{l:Array U}{x y:U}(h:l.toList=[x,y]):l=#[x,y]:=by cases l;simpa using h
def afc(hl:Nw P o=aa ao)(hs:bH E st a)(h:ao.bh P st K):o.wp P a E.w (eb E a o.dst K) Q:=by
 unfold Nw at hl;split at hl
 case h_2=>simp at hl
 rename_i c ho;obtain⟨callee,args,argTypes⟩:=c;simp only at hl;split at hl
 case h_2=>simp at hl
 rename_i f;split at hl
 case h_2=>simp at hl
 rename_i fn xs hf qB;split at hl
 case isFalse=>simp at hl
 rename_i hc;have fY:=ND (E:=E) hs.slot qB;split at hl
 .rename_i hn;simp only[a9] at hl;subst hl;simp only[aO.bh] at h;unfold OQ.bh at h;split at h<;>try (exfalso;simp_all;done)
  .rename_i s n e1 e2;rw[e2] at fY;obtain⟨q1,q2⟩:=afH hn hc.2;cases hq:args.toList.map a.eval with
   | nil=>rw[hq] at fY;simp[RL] at fY
   | cons v1 vs =>
    rw[hq] at fY;cases vs with
    | nil=>simp[RL] at fY
    | cons v2 Pm =>
     cases Pm with
     | cons _ _=>simp[RL] at fY
     | nil =>
      simp only[RL,R,il] at fY;obtain⟨rfl,rfl⟩:=fY;have ha:args.map a.eval=#[.string ⟨s.toArray⟩,.int .u8 n]:=YM (by simpa using hq);refine dd hs (v:=.int .i64 (s.count n.toNat.toUInt8:Nat)) (x:=.int .i64 (s.count n.toNat.toUInt8:Nat)) ?_ (by simp only[R]) h;have dc:=run_callFunc_extern (P:=P) hf (by rw[hn];decide) hc.1 q1 q2 #[.string ⟨s.toArray⟩,.int .u8 n] E.w;rw[Lib.run_countString] at dc;simp[execOp,ho,resolve,Act.eval,Deferred.ofValue,invoke,ha,dc,Lib.countByte,Result.andThen]
 .split at hl
  case isFalse=>simp at hl
  rename_i hn;simp only[a9] at hl;subst hl;simp only[aO.bh] at h;unfold OQ.bh at h;split at h<;>try (exfalso;simp_all;done)
  .rename_i s n e1 e2;rw[e2] at fY;obtain⟨q1,q2⟩:=afI hn hc.2;cases hq:args.toList.map a.eval with
   | nil=>rw[hq] at fY;simp[RL] at fY
   | cons v1 vs =>
    rw[hq] at fY;cases vs with
    | nil=>simp[RL] at fY
    | cons v2 Pm =>
     cases Pm with
     | cons _ _=>simp[RL] at fY
     | nil =>
      simp only[RL,R,il] at fY;obtain⟨rfl,rfl⟩:=fY;have ha:args.map a.eval=#[.string ⟨s.toArray⟩,.int .u8 n]:=YM (by simpa using hq);refine dd hs (v:=.int .i64 (Av s n.toNat.toUInt8)) (x:=.int .i64 (Av s n.toNat.toUInt8)) ?_ (by simp only[R]) h;have dc:=run_callFunc_extern (P:=P) hf (by rw[hn];decide) hc.1 q1 q2 #[.string ⟨s.toArray⟩,.int .u8 n] E.w;rw[Lib.run_indexByteString] at dc;simp[execOp,ho,resolve,Act.eval,Deferred.ofValue,invoke,ha,dc,afE,Result.andThen]
def Fl(P:Program)(h:List Nat)(o:Oper):aO :=
 match (match o.dst with | some d=>if h.contains (d+100000)=ab then NB P o else ag | none=>ag) with
 | some x=>x
 | none => match (match Nw P o with | some x => aa x | none => Nz P h o) with
  | some x=>x
  | none => match Ny P o with
   | some x=>x
   | none=>.own .aG []
def anw{h:List Nat}(hs:bH E st a)(hk:(Fl P h o).bh P st K):o.wp P a E.w (eb E a o.dst K) Q:=by
 unfold Fl at hk;split at hk
 .rename_i x hx;split at hx
  .split at hx
   .exact ap1 hx hs hk
   .simp at hx
  .simp at hx
 .split at hk
  .rename_i x hx;split at hx
   .rename_i y hy;simp only[a9] at hx;subst hx;exact afc hy hs hk
   .exact anx hx hs hk
  .split at hk
   .rename_i x hx;exact an3 hx hs hk
   .simp only[aO.bh,di] at hk;unfold OQ.bh at hk;simp at hk
def Vv(P:Program)(h:List Nat)(ops:Array Oper)(o:Oper):Option AO :=
 match o.guard with
 | none=>aa ⟨o.dst,Fl P h o,ag⟩
 | some (j, want) =>
  match (ops[j]?).bind (·.dst) with
  | some g=>aa ⟨o.dst,Fl P h o,aa (g,want)⟩
  | none=>ag
def A_(P:Program)(h:List Nat)(ops:Array Oper):List Oper->Option (List AO)
 | []=>aa []
 | o::os=>(Vv P h ops o).bind λx=>(A_ P h ops os).map (x::·)
end
variable{s:ByteArray}{t:TypeId}{w:World}
def asv(h:P.underlying t=aa .string):(Instr.range t (.string s)).run P w = .ok (.pointer (aa ⟨w.heap.size,0,ag⟩)) (w.alloc (.stringIter s 0)):=by
 simp[Instr.range,run_underlying h]
def kb(w:World)(b:Nat)(o:Obj):World:={w with heap:=w.heap.setIfInBounds b o}
variable{p:Nat}
def XA(h:w.heap[b]?=aa (.stringIter s p)):(getObj b).run P w = .ok (.stringIter s p) w:=by
 simp only[getObj,Sem.run,h]
variable{o:Obj}
def asw(h:w.heap[b]?=aa (.stringIter s p)):(setObj b o).run P w = .ok () (kb w b o):=by
 simp only[setObj,Sem.run,h];rfl
def run_next_end(h:w.heap[b]?=aa (.stringIter s p))(hp:¬p<s.size):(Instr.next (.pointer (aa ⟨b,0,ag⟩)) ab t).run P w = .ok (.tuple #[.bool ak]) w:=by
 unfold Instr.next;simp only[Sem.run_bind,XA h,Result.andThen,hp,bZ];rfl
def asu(h:w.heap[b]?=aa (.stringIter s p))(hp:p<s.size)(hc:(s.get! p).toNat<128):(Instr.next (.pointer (aa ⟨b,0,ag⟩)) ab t).run P w = .ok (.tuple #[.bool ab,.int .i64 p,.int .i32 (s.get! p).toNat]) (kb w b (.stringIter s (p+1))):=by
 have hd:Utf8.decode s p=((s.get! p).toNat,1):=by simp[Utf8.decode,hc]
 unfold Instr.next;simp only[Sem.run_bind,XA h,Result.andThen,hp,cm,hd,asw h];rfl
def zA{b':Nat}(h:b' ≠ b):(kb w b o).heap[b']?=w.heap[b']?:=by
 simp only[kb];rw[Zp];simp[fF h]
def X_{o':Obj}(h:w.heap[b]?=aa o'):(kb w b o).heap[b]?=aa o:=by
 obtain⟨h1,_⟩:=lC.1 h;simp only[kb];rw[Zp];simp[h1]
def X':(kb w b o).heap.size=w.heap.size:=by simp[kb]
def X9{b':Nat}(h:b' ≠ b):(kb w b o).cell? ⟨b',i,ag⟩=w.cell? ⟨b',i,ag⟩:=by
 simp only[World.cell?,zA h]
def Env.kb(E:Env)(b:Nat)(o:Obj):Env:={E with w:=Go.Am.kb E.w b o}
def Env.asX(hr:E.bf b = .mP):E.le (E.kb b o):=by
 refine⟨λb' i c hc hv=>⟨hc,?_⟩,λ_ _ h=>h,λt n h=>⟨n,h,bS _,λ_ b' c cc => ⟨cc,λcs e bV=>⟨cs,?_,rfl⟩⟩⟩⟩
 .have aW:b' ≠ b:=λe=>by rw[e,hr] at hc;exact hc
  exact(X9 aW).trans hv
 .have aW:b' ≠ b:=λe=>by rw[e,hr] at cc;simp at cc
  exact(zA aW).trans bV
def bH.kb(hr:E.bf b = .mP)(hs:bH E st a):bH (E.kb b o) st a:=by
 have hle:=Env.asX (o:=o) hr;refine⟨⟨λb' cs h=>?_,hs.ok.aP,λb' h=>hs.ok.fresh b' (by rw[<-X' (b:=b) (o:=o)];exact h),hs.ok.nt,λb cs hc=>eG.mono _ hle.nl (hs.ok.b9 b cs hc)⟩,⟨λi cs h=>?_,hs.dh.none⟩,hs.defers,RL.mono _ hle hs.slot⟩
 .obtain⟨h1,h2⟩:=hs.ok.box b' cs h;have aW:b' ≠ b:=λe=>by rw[e,hr] at h1;simp at h1
  exact⟨h1,jV.mono hle.nl (zA aW) h2⟩
 .obtain⟨b',h1,h2,h3⟩:=hs.dh.box i cs h;have aW:b' ≠ b:=λe=>by rw[e,hr] at h2;simp at h2
  exact⟨b',h1,h2,jV.mono hle (zA aW) h3⟩
def Fr.kb{E0:Env}{q:Nat}(hf:Fr E0 E)(hr:E.bf b = .mP)(hn:E0.w.heap.size<=b)(hb:E.w.heap[b]?=aa (.stringIter s p)):Fr E0 (E.kb b (.stringIter s q)):=by
 refine⟨hf.os,hf.output,hf.tape,by rw[show(E.kb b (.stringIter s q)).w.heap.size=E.w.heap.size from X'];exact hf.size,λa=>?_,λb' i c hc hv=>?_,λt n h=>?_,λb' aC h=>?_,hf.D0,hf.D1,hf.B4,λb' c e h=>by
  obtain⟨c',h1,h2⟩:=hf.shape b' c e h;have aW:b' ≠ b:=λe=>by rw[e,hb] at h1;simp at h1
  exact⟨c',(zA aW).trans h1,h2⟩⟩
 .rw[<-hf.g_ a]
  by_cases e:a.block=b
  .have e1:(E.kb b (.stringIter s q)).w.heap[a.block]?=aa (.stringIter s q):=by rw[e];exact X_ hb
   rw[<-e] at hb;simp only[World.frozen?,e1,hb]
  .simp only[World.frozen?,show(E.kb b (.stringIter s q)).w.heap[a.block]?=E.w.heap[a.block]? from zA e]
 .obtain⟨h1,h2⟩:=hf.cell b' i c hc hv;have aW:b' ≠ b:=λe=>by rw[e,hr] at h1;exact h1
  exact⟨h1,(X9 aW).trans h2⟩
 .obtain⟨n',h1,h2,h3⟩:=hf.tok t n h;refine⟨n',h1,h2,λe b' c cc => ?_⟩;obtain⟨h4,h5⟩:=h3 e b' c cc;refine⟨h4,λcs e' bV=>?_⟩;obtain⟨cs',h6,h7⟩:=h5 cs e' bV;have aW:b' ≠ b:=λe=>by rw[e,hr] at h4;simp at h4
  exact⟨cs',(zA aW).trans h6,h7⟩
 .obtain⟨h1,h2⟩:=hf.same b' aC h;have aW:b' ≠ b:=by omega
  exact⟨(zA aW).trans h1,h2⟩
def Env.mT(E:Env)(o:Obj):Env:={w:=E.w.alloc o,bf:=λb=>if b=E.w.heap.size then .mP else E.bf b,aD:=E.aD,aP:=E.aP}
def aog(hs:bH E st a):Fr E (E.mT (.stringIter s p))/\bH (E.mT (.stringIter s p)) st a/\(E.mT (.stringIter s p)).bf E.w.heap.size = .mP/\(E.mT (.stringIter s p)).w.heap[E.w.heap.size]?=aa (.stringIter s p):=by
 have hold:∀b,b<E.w.heap.size->(E.mT (.stringIter s p)).w.heap[b]?=E.w.heap[b]?:=λb hb=>heap_alloc_old E.w (.stringIter s p) hb
 have dU:∀b,b<E.w.heap.size->(E.mT (.stringIter s p)).bf b=E.bf b:=λb hb=>by simp only[Env.mT];rw[aA (by omega)]
 have hD:(E.mT (.stringIter s p)).w.heap[E.w.heap.size]?=aa (.stringIter s p):=heap_alloc_new E.w _;have vT:∀b i c,E.w.cell? ⟨b,i,ag⟩=aa c->b<E.w.heap.size:=λb i c h=>by
  simp only[World.cell?] at h;split at h
  .rename_i h1;exact(lC.1 h1).1
  .simp at h
 have LW:∀b i,b<E.w.heap.size->(E.mT (.stringIter s p)).w.cell? ⟨b,i,ag⟩=E.w.cell? ⟨b,i,ag⟩:=λb i hb=>by simp only[World.cell?,hold b hb]
 have bj:Fr E (E.mT (.stringIter s p)):=by
  refine⟨rfl,rfl,rfl,by simp[Env.mT],λa=>?_,λb i c hc hv=>?_,λt n h=>⟨n,h,bS _,λ_ b c hb=>?_⟩,λb hb _=>⟨hold b hb,dU b hb⟩,λb hb h=>?_,λb t c hb h=>?_,λb i hb h=>?_,λb c e h=>⟨c,(hold b (lx h)).trans h,rfl⟩⟩
  .by_cases h:a.block<E.w.heap.size
   .simp only[World.frozen?,hold _ h]
   .by_cases h2:a.block=E.w.heap.size
    .have e2:E.w.heap[a.block]?=none:=by simp;omega
     rw[<-h2] at hD;simp only[World.frozen?,hD,e2]
    .have e2:E.w.heap[a.block]?=none:=by simp;omega
     have e1:(E.mT (.stringIter s p)).w.heap[a.block]?=none:=by simp[Env.mT];omega
     simp only[World.frozen?,e1,e2]
  .have hb:=vT b i c hv;exact⟨by rw[dU b hb];exact hc,(LW b i hb).trans hv⟩
  .by_cases aC:b<E.w.heap.size
   .exact⟨(dU b aC).trans hb,λcs e bV=>⟨cs,(hold b aC).trans bV,rfl⟩⟩
   .have:=hs.ok.fresh b (by omega)
    rw[this] at hb;simp at hb
  .rw[dU b hb] at h;exact .inl h
  .rw[dU b hb] at h;exact⟨c,h⟩
  .rw[dU b hb] at h;exact⟨i,h⟩
 have hle:E.le (E.mT (.stringIter s p)):=bj.le λi b h=>h
 refine⟨bj,⟨⟨λb cs h=>?_,hs.ok.aP,λb hb=>?_,hs.ok.nt,λb cs hc=>eG.mono _ bj.nl (hs.ok.b9 b cs hc)⟩,⟨λi cs h=>?_,hs.dh.none⟩,hs.defers,RL.mono _ hle hs.slot⟩,by simp[Env.mT],hD⟩
 .obtain⟨h1,h2⟩:=hs.ok.box b cs h;have aC:b<E.w.heap.size:=by obtain⟨c,e,h3,_⟩:=h2;exact lx (w:=E.w) h3
  exact⟨by rw[dU b aC];exact h1,jV.mono hle.nl (hold b aC) h2⟩
 .have cc : E.w.heap.size+1<=b:=by simpa [Env.mT] using hb
  simp only[Env.mT];rw[aA (by omega)];exact hs.ok.fresh b (by omega)
 .obtain⟨b,h1,h2,h3⟩:=hs.dh.box i cs h;have aC:b<E.w.heap.size:=by obtain⟨c,e,h4,_⟩:=h3;exact lx (w:=E.w) h4
  exact⟨b,h1,by rw[dU b aC];exact h2,jV.mono hle (hold b aC) h3⟩
def nY(o:Oper):Option (Nat × TypeId):=match o.op,o.dst,o.guard with | .alloc t,aa d,ag=>aa (d,t) | _,_,_=>ag
def nZ(o:Oper):Option (Nat × TypeId × Operand):=match o.op,o.dst,o.guard with | .store t (.tmp d) x,ag,ag=>aa (d,t,x) | _,_,_=>ag
def Pj{o:Oper}(h:nY o=aa (d,t)):o.op = .alloc t/\o.dst=aa d/\o.guard=none:=by
 unfold nY at h;split at h
 .rename_i h1 h2 h3;simp only[a9,py] at h;obtain⟨rfl,rfl⟩:=h;exact⟨h1,h2,h3⟩
 .simp at h
variable{x:Operand}
def YS{o:Oper}(h:nZ o=aa (d,t,x)):o.op = .store t (.tmp d) x/\o.dst=ag/\o.guard=none:=by
 unfold nZ at h;split at h
 .rename_i h1 h2 h3;simp only[a9,py] at h;obtain⟨rfl,rfl,rfl⟩:=h;exact⟨h1,h2,h3⟩
 .simp at h
def isVar(ops:Array Oper)(d:Nat)(t:TypeId):Bool:=ops.toList.any λo=>match nY o with | some (d',t')=>d' == d&&t' == t | none=>ak
def Fj(P:Program)(ops:Array Oper)(o:Oper):Option AO :=
 match nY o with
 | some (_,t)=>match kv P t,eD P t with | some z,aa n=>if z.length=n then aa ⟨ag,.mv (.c .any),ag⟩ else ag | _,_=>ag
 | none =>
  match nZ o with
  | some (d,t,x)=>if isVar ops d t=ab then(match eD P t,cH P t x with | some n,aa y=>aa ⟨aa d,.vB n y,ag⟩ | _,_=>ag) else uF P ops o
  | none=>uF P ops o
def C5(P:Program)(ops:Array Oper):List Oper->Option (List AO)
 | []=>aa []
 | o::os=>(Fj P ops o).bind λx=>(C5 P ops os).map (x::·)
def KC(ops:Array Oper)(b:List Nat):Bool :=
 ops.toList.zipIdx.all λ(o,i)=>match nY o with
  | some (d,t)=>(ops.toList.zipIdx.any λ(o',j)=>match nZ o' with | some (d',t',_)=>d' == d&&t' == t&&(b.getD j 0).testBit i | none=>ak) &&
   (ops.toList.zipIdx.all λ(o',j)=>i == j||match nY o' with | some (d',_)=>!(d' == d) | none=>ab)
  | none=>ab
def IJ(ops:Array Oper):List Nat:=ops.toList.filterMap λo=>(nY o).map (·.1)
def IC(P:Program)(ops:Array Oper):Option (List Nat × List (AO × List Nat)) :=
 match C5 P ops ops.toList with
 | none=>ag
 | some l0 =>
  let b:=xK ops.toList []
  let d:=l8 fD (l0.map λo=>(o,[])) b
  let l:=(l0.zip d).zipIdx.map λ((o,x),i)=>(o,if o.op.C1 then((bX (yW d i+1 - pX d x)).map (pX d x+·)).filter (· != Bg d i) else [])
  if yB ops l b=ab/\P.follows .mixedOrders=ab/\KC ops b=ab then aa (IJ ops,l) else ag
def Vw{P:Program}{ops:Array Oper}:∀{os:List Oper} {l:List AO},C5 P ops os=aa l->l.length=os.length/\∀i:Nat,∀o,os[i]?=aa o->∃x,l[i]?=aa x/\Fj P ops o=aa x
 | [],l,h=>by simp only[C5,a9] at h;subst h;exact⟨rfl,λi o h=>by simp at h⟩
 | o :: os, l, h => by
  simp only[C5,iI,dk] at h;obtain⟨x,h1,l',h2,rfl⟩:=h;obtain⟨h3,h4⟩:=Vw h2;refine⟨by simp[h3],λi q hq=>?_⟩;cases i with
  | zero=>simp at hq;subst hq;exact⟨x,by simp,h1⟩
  | succ i=>simp at hq;obtain⟨y,k1,k2⟩:=h4 i q hq;exact⟨y,by simpa using k1,k2⟩
structure P2(ops:Array Oper)(b:List Nat):Prop where
 st:∀(i:Nat) o d t,ops[i]?=aa o->nY o=aa (d,t)->∃(j:Nat) (o' : Oper) (x:Operand),ops[j]?=aa o' /\ nZ o' = aa (d,t,x)/\(b.getD j 0).testBit i=ab
 uniq:∀(i j:Nat) o o' d t t',ops[i]?=aa o->ops[j]?=aa o' -> nY o=aa (d,t)->nY o' = aa (d,t')->i=j
variable{ops:Array Oper}
def afe{b:List Nat}(h:KC ops b=ab):P2 ops b:=by
 unfold KC at h;rw[l7] at h;have mem:∀(i:Nat) o,ops[i]?=aa o->(o,i)∈ops.toList.zipIdx:=λi o ho=>by
  rw[J7];simpa using ho
 refine⟨λi o d t ho hv=>?_,λi j o o' d t t' ho fX hv hH => ?_⟩
 .have:=h _ (mem i o ho)
  simp only[hv,bF,BR] at this;obtain⟨⟨q,hq,h1⟩,_⟩:=this;obtain⟨o',j⟩:=q;simp only at h1;split at h1
  .rename_i d' t' x hH;simp only[bF,B6] at h1;obtain⟨⟨rfl,rfl⟩,h2⟩:=h1;rw[J7] at hq;exact⟨j,o',x,by simpa using hq,hH,h2⟩
  .simp at h1
 .have:=h _ (mem i o ho)
  simp only[hv,bF,l7] at this;have h2:=this.2 _ (mem j o' fX);simp only[hH,nh,B6,vb] at h2
  rcases h2 with h2 | h2
  .exact h2
  .simp at h2
variable{l:List (AO × List Nat)}{nv:List Nat}
def ans(h:IC P ops=aa (nv,l)):
 ∃b,zP ops l b/\b.length=ops.size/\P.follows .mixedOrders=ab/\P2 ops b/\nv=IJ ops/\∀(i:Nat) o,ops[i]?=aa o->∃x:AO × List Nat,l[i]?=aa x/\Fj P ops o=aa x.1:=by
 unfold IC at h;cases h0:C5 P ops ops.toList with
 | none=>rw[h0] at h;simp at h
 | some l0 =>
 rw[h0] at h;simp only at h;split at h
 case isFalse=>simp at h
 rename_i hc;simp only[a9,py] at h;obtain⟨rfl,rfl⟩:=h;refine⟨_,facts hc.1,?_,hc.2.1,afe hc.2.2,rfl,λi o ho=>?_⟩
 .have:=hc.1
  unfold yB at this;simp only[bF,cn] at this;exact this.1.1.2
 .have hlen:=(facts hc.1).size;obtain⟨h1,h2⟩:=Vw h0;obtain⟨x,k1,k2⟩:=h2 i o (by simpa using ho);have aC:=(lC.1 ho).1;generalize hL:(l0.zip (l8 fD (l0.map λo=>(o,[])) (xK ops.toList [])))=z at hlen ⊢;have hz:i<z.length:=by simp at hlen;omega
  refine⟨_,by rw[tU,Qd,cS hz];rfl,?_⟩
  have:z[i].1=x:=by
   have e:z[i]?=aa z[i]:=cS hz;subst hL;rw[J3] at e;rw[k1] at e;exact(vl e.1).symm
  simpa [this] using k2
def Env.sC(E:Env)(c:Array Value)(t:TypeId):Env:={w:=E.w.alloc (.cells c t),bf:=λb=>if b=E.w.heap.size then .mP else E.bf b,aD:=E.aD,aP:=E.aP}
variable{c:Array Value}
def aof(hs:bH E st a):Fr E (E.sC c t)/\bH (E.sC c t) st a:=by
 have hx:=(Ext.refl E.w).alloc c t;have hold:∀b,b<E.w.heap.size->(E.sC c t).w.heap[b]?=E.w.heap[b]?:=λb hb=>hx.block b hb
 have dU:∀b,b<E.w.heap.size->(E.sC c t).bf b=E.bf b:=λb hb=>by simp only[Env.sC];rw[aA (by omega)]
 have bj:Fr E (E.sC c t):=yG hs.ok.fresh hx dU λ_ _ h=>h
 have hle:E.le (E.sC c t):=bj.le λ_ _ h=>h
 refine⟨bj,C' hs.ok bj.nl (λb h hb=>⟨by rw[dU b hb];exact h,hold b hb⟩) (λ_ _ h=>h) (λb hb=>?_) hs.ok.nt,
  qJ hs.dh hle (λb i h hb=>⟨by rw[dU b hb];exact h,hold b hb⟩) hs.dh.none,hs.defers,RL.mono _ hle hs.slot⟩
 have cc : E.w.heap.size+1<=b:=by simpa [Env.sC] using hb
 simp only[Env.sC];rw[aA (by omega)];exact hs.ok.fresh b (by omega)
def as0{t:List V}(h:t.getD d .any = .any):t.set d .any=t:=by
 by_cases hd:d<t.length
 .have:t[d] = .any:=by simpa [ij,hd] using h
  rw[<-this];simp
 .exact List.set_eq_of_length_le (by omega)
def Env.bare(E:Env)(b k:Nat)(new:Array Value):Env :=
 {w:=E.w.setRow b new,bf:=λx=>if x=b then .jb k else E.bf x,aD:=λi=>if i=k then aa b else E.aD i,aP:=E.aP}
variable{e:TypeId}
def abd{E0:Env}(hs:bH E st a)(hf:Fr E0 E)(hr:E.bf b = .mP)(hn:E0.w.heap.size<=b)(hb:E.w.heap[b]?=aa (.cells c e (0,0))){cs:List V}{vs:List Value}(hv:RL E cs vs)
 {d:Nat} (hd:a.tmps[d]?=aa (.pointer (aa ⟨b,0,ag⟩))) :
 Fr E0 (E.bare b st.aD.length vs.toArray)/\bH (E.bare b st.aD.length vs.toArray) ⟨st.t.set d (.ptr (.aD st.aD.length) 0),st.aD++[cs],st.out⟩ a:=by
 generalize hE:E.bare b st.aD.length vs.toArray=E';have ja:∀b',b' ≠ b->E'.w.heap[b']?=E.w.heap[b']?:=λb' aW=>by rw[<-hE];exact setRow_other E.w b b' _ aW
 have mu:E'.w.heap[b]?=aa (.cells vs.toArray e (0,0)):=by rw[<-hE];exact setRow_heap E.w b c _ e _ hb
 have lk:∀b',b' ≠ b->E'.bf b' = E.bf b' := λb' aW=>by rw[<-hE];simp only[Env.bare];rw[aA aW]
 have qw:E'.bf b = .jb st.aD.length:=by rw[<-hE];simp[Env.bare]
 have cW:E'.w.heap.size=E.w.heap.size:=by rw[<-hE];simp[Env.bare]
 have eg:∀i,i≠st.aD.length->E'.aD i=E.aD i:=λi hi=>by rw[<-hE];simp only[Env.bare];rw[aA hi]
 have AJ:E'.aD st.aD.length=aa b:=by rw[<-hE];simp[Env.bare]
 have y3:E.aD st.aD.length=none:=hs.dh.none _ (bS _);have tu:E'.aP=E.aP:=by rw[<-hE];rfl
 have vT:∀b' o',b' ≠ b->E'.w.cell? ⟨b',o',ag⟩=E.w.cell? ⟨b',o',ag⟩:=λb' o' aW=>by simp only[World.cell?,ja b' aW]
 have L6:∀x,E'.w.frozen? x=E.w.frozen? x:=λx=>by rw[<-hE];exact Ef hb x
 have hle:E.le E' := by
  refine⟨λb' o' c' hc hv=>?_,λi b' h=>?_,λt n h=>⟨n,by rw[tu];exact h,bS _,λ_ b' c' cc => ?_⟩⟩
  .have aW:b' ≠ b:=λe=>by rw[e,hr] at hc;exact hc
   exact⟨by rw[lk b' aW];exact hc,(vT b' o' aW).trans hv⟩
  .rw[eg i (λe=>by rw[e,y3] at h;simp at h)];exact h
  .have aW:b' ≠ b:=λe=>by rw[e,hr] at cc;simp at cc
   exact⟨by rw[lk b' aW];exact cc,λcs' e' bV=>⟨cs',(ja b' aW).trans bV,rfl⟩⟩
 refine⟨⟨?_,?_,?_,by rw[cW];exact hf.size,λx=>(L6 x).trans (hf.g_ x),λb' o' c' hc hv=>?_,λt n h=>?_,λb' aC h=>?_,λb' aC h=>?_,λb' t c' aC h=>?_,λb' i aC h=>?_,λb' c' e' h=>by
  have aC:=lx (w:=E0.w) h;have aW:b' ≠ b:=by omega
  obtain⟨c1,h1,h2⟩:=hf.shape b' c' e' h;exact⟨c1,(ja b' aW).trans h1,h2⟩⟩,⟨⟨λb' ds h=>?_,λt n h=>by rw[tu];exact hs.ok.aP t n h,λb' h=>?_,by rw[tu];exact hs.ok.nt,λb cs hc=>eG.mono _ hle.nl (hs.ok.b9 b cs hc)⟩,⟨λi ds h=>?_,λi hi=>?_⟩,hs.defers,?_⟩⟩
 .rw[<-hf.os,<-hE];rfl
 .rw[<-hf.output,<-hE];rfl
 .rw[<-hf.tape,<-hE];rfl
 .obtain⟨h1,h2⟩:=hf.cell b' o' c' hc hv;have aW:b' ≠ b:=λe=>by rw[e,hr] at h1;exact h1
  exact⟨by rw[lk b' aW];exact h1,(vT b' o' aW).trans h2⟩
 .obtain⟨n',h1,h2,h3⟩:=hf.tok t n h;refine⟨n',by rw[tu];exact h1,h2,λe b' c' cc => ?_⟩;obtain⟨h4,h5⟩:=h3 e b' c' cc;have aW:b' ≠ b:=λe=>by rw[e,hr] at h4;simp at h4
  refine⟨by rw[lk b' aW];exact h4,λcs' e' bV=>?_⟩;obtain⟨KO,h6,h7⟩:=h5 cs' e' bV;exact⟨KO,(ja b' aW).trans h6,h7⟩
 .obtain⟨h1,h2⟩:=hf.same b' aC h;have aW:b' ≠ b:=by omega
  exact⟨(ja b' aW).trans h1,(lk b' aW).trans h2⟩
 .have aW:b' ≠ b:=by omega
  rw[lk b' aW] at h;exact hf.D0 b' aC h
 .have aW:b' ≠ b:=by omega
  rw[lk b' aW] at h;exact hf.D1 b' t c' aC h
 .have aW:b' ≠ b:=by omega
  rw[lk b' aW] at h;exact hf.B4 b' i aC h
 .obtain⟨h1,h2⟩:=hs.ok.box b' ds h;have aW:b' ≠ b:=λe=>by rw[e,hr] at h1;simp at h1
  exact⟨by rw[lk b' aW];exact h1,jV.mono hle.nl (ja b' aW) h2⟩
 .rw[cW] at h;have aC:b<E.w.heap.size:=lx hb;rw[lk b' (by omega)];exact hs.ok.fresh b' h
 .by_cases hi:i=st.aD.length
  .subst hi;simp only[List.getElem?_concat_length,a9] at h;subst h;refine⟨b,AJ,qw,vs.toArray,e,mu,by have:=gh hv;simp;omega,λj x hj=>?_⟩;obtain⟨u,h1,h2⟩:=rT hv j x hj;exact⟨u,by simpa using h1,h2.mono _ hle⟩
  .have aC:i<st.aD.length:=by
    have:=(fv.1 h).1
    simp at this;omega
   rw[tT aC] at h;obtain⟨b',h1,h2,h3⟩:=hs.dh.box i ds h;have aW:b' ≠ b:=λe=>by rw[e,hr] at h2;simp at h2
   exact⟨b',by rw[eg i hi];exact h1,by rw[lk b' aW];exact h2,jV.mono hle (ja b' aW) h3⟩
 .simp at hi;rw[eg i (by omega)];exact hs.dh.none i (by omega)
 .have h1:=RL.mono _ hle hs.slot;have hp:R E' (.ptr (.aD st.aD.length) 0) (.pointer (aa ⟨b,0,ag⟩)):=by simp only[R];exact⟨b,AJ,rfl⟩
  have h2:=GA h1 d hp
  have:a.tmps.toList.set d (.pointer (aa ⟨b,0,ag⟩))=a.tmps.toList:=by
   have aC:=(lC.1 hd).1
   have:a.tmps.toList[d]'(by simpa using aC) = .pointer (aa ⟨b,0,ag⟩):=by
    have:=(lC.1 hd).2;simpa using this
   rw[<-this];exact ZD (by simpa using aC)
  rw[this] at h2;exact h2
section
variable {P:Program} {ops:Array Oper} {l:List (AO × List Nat)} {b:List Nat}
def ZJ(P:Program)(ops:Array Oper)(N:Nat)(E0:Env)(listed:Array Bool)(E:Env)(a:Act):Prop :=
 a.tmps.size=N/\∃B:Nat->Nat,∀(i:Nat) o d t,ops[i]?=aa o->nY o=aa (d,t)->listed.getD i ak=ab->(∀(j:Nat) o' x,ops[j]?=aa o' -> nZ o' = aa (d,t,x)->listed.getD j ak=ak) ->
  a.tmps[d]?=aa (.pointer (aa ⟨B i,0,ag⟩))/\E.bf (B i) = .mP/\(∃c e,E.w.heap[B i]?=aa (.cells c e (0,0))/\eD P t=aa c.size)/\E0.w.heap.size<=B i /\
  ∀(i' : Nat) o' d' t',ops[i']?=aa o' -> nY o' = aa (d',t')->listed.getD i' ak=ab->(∀(j:Nat) o' x,ops[j]?=aa o' -> nZ o' = aa (d',t',x)->listed.getD j ak=ak)->i≠i' -> B i≠B i'
variable{listed:Array Bool}
def wx{j:Nat}(h:i<listed.size):(listed.setIfInBounds i ab).getD j ak=(decide (j=i)||listed.getD j ak):=by
 by_cases fV:j=i
 .subst fV;simp[h]
 .rw[qW,BL (fF fV),<-qW];simp[fV]
def Vu{o:Oper}{x:AO}(h:Fj P ops o=aa x):(∃d t z n,nY o=aa (d,t)/\kv P t=aa z/\eD P t=aa n/\z.length=n/\x=⟨ag,.mv (.c .any),ag⟩) \/
 (∃d t y n q,nZ o=aa (d,t,y)/\isVar ops d t=ab/\eD P t=aa n/\cH P t y=aa q/\x=⟨aa d,.vB n q,ag⟩)\/(uF P ops o=aa x/\nY o=ag/\∀d t y,nZ o=aa (d,t,y)->isVar ops d t=ak):=by
 unfold Fj at h;split at h
 .rename_i d t hv;split at h
  .rename_i z n hz hn;split at h
   .rename_i hl;simp only[a9] at h;exact .inl ⟨d,t,z,n,hv,hz,hn,hl,h.symm⟩
   .simp at h
  .simp at h
 .rename_i hv;split at h
  .rename_i d t y hs;split at h
   .rename_i hi;split at h
    .rename_i n q hn hq;simp only[a9] at h;exact .inr (.inl ⟨d,t,y,n,q,hs,hi,hn,hq,h.symm⟩)
    .simp at h
   .rename_i hi;exact .inr (.inr ⟨h,hv,λd' t' y' e=>by rw[hs] at e;simp only[a9,py] at e;obtain⟨rfl,rfl,_⟩:=e;simpa using hi⟩)
  .rename_i hs;exact .inr (.inr ⟨h,hv,λd t y e=>by rw[hs] at e;simp at e⟩)
variable{K:St->Prop}
def adW{id:Nat}(hl:IC P ops=aa (nv,l))(Ub:∀d∈nv,d<st.t.length/\st.t.getD d .any = .any)(h:cy P l [(st.aD,st.out)] [] K st):
 jg P (.region id ops ab) (λe aM => e = .normal/\K aM) st:=by
 obtain⟨b,F,lg,hf,FA,rfl,v7⟩:=ans hl;intro E0 a0 H2;have aww:=F.size
 -- what a pair of a new variable and its store is like
 have EM:∀(i:Nat) o d t,ops[i]?=aa o->nY o=aa (d,t)->isVar ops d t=true:=λi o d t ho hv=>by
  unfold isVar;rw[BR];exact⟨o,by simpa using PU ho,by simp[hv]⟩
 have akY:∀d t,isVar ops d t=ab->∃(i:Nat) (o:Oper),ops[i]?=aa o/\nY o=aa (d,t):=λd t h=>by
  unfold isVar at h;rw[BR] at h;obtain⟨o,h1,h2⟩:=h;split at h2
  .rename_i d' t' hv;simp only[bF,B6] at h2;obtain⟨rfl,rfl⟩:=h2;obtain⟨i,hi⟩:=ZB.1 h1;exact⟨i,o,by simpa using hi,hv⟩
  .simp at h2
 -- a store that is one of these has the variable's slot
 have H4:∀(j:Nat) o d t x,ops[j]?=aa o->nZ o=aa (d,t,x)->isVar ops d t=ab->∃y:AO × List Nat,l[j]?=aa y/\y.1.dst=aa d:=λj o d t x ho hv hi=>by
  obtain⟨y,h1,h2⟩:=v7 j o ho
  rcases Vu h2 with ⟨d',t',z,n,k1,_⟩ | ⟨d',t',y',n,q,k1,_,_,_,k2⟩ | ⟨_,_,k3⟩
  .obtain⟨e1,_⟩:=Pj k1;obtain⟨e2,_⟩:=YS hv;rw[e1] at e2;simp at e2
  .rw[hv] at k1;simp only[a9,py] at k1;obtain⟨rfl,_⟩:=k1;exact⟨y,h1,by rw[k2]⟩
  .rw[k3 d t x hv] at hi;simp at hi
 refine R4 (X:=ZJ P ops a0.tmps.size E0) F lg hf h H2 (λE' => ⟨rfl,λ_=>0,λi o d t _ _ iq => by
  exfalso
  by_cases hj:i<ops.size<;>simp[hj] at iq⟩) λi o ho=>?_
 obtain⟨x,hx,hxo⟩:=v7 i o ho;have awo:i<ops.size:=(lC.1 ho).1;refine⟨x,hx,?_⟩
 rcases Vu hxo with ⟨d,t,z,n,hv,hz,hn,hzn,v_⟩ | ⟨d,t,y,n,q,hv,MG,hn,hq,v_⟩ | ⟨um,Ux,CS⟩
 ·-- a variable is made
  right;obtain⟨v1,v2,v3⟩:=Pj hv;obtain⟨iz,zv,z1,z2,z3,z4⟩:=tR hz;refine⟨v3,by rw[v_],λE a t' s v s' listed Q uv y7 LS TN mu hs bj hX ln=>?_⟩;rw[v_] at ln ⊢;obtain⟨rfl,ln⟩:=ln;obtain rfl:s=s' := by have:=iK (λq:St=>(q.aD,q.out)) ln;simp only[cf,py] at this;exact Prod.ext this.1 this.2
  simp only[kS];have TU:d∈IJ ops:=by unfold IJ;rw[Qj];exact⟨o,by simpa using PU ho,by simp[hv]⟩
  have akj:t'.getD d .any = .any:=by
   rw[mu d λj y hy AT=>?_]
   .exact(Ub d TU).2
   .obtain⟨j0,o0,x0,k1,k2,k3⟩:=FA.st i o d t ho hv;obtain⟨y0,k4,k5⟩:=H4 j0 o0 d t x0 k1 k2 (EM i o d t ho hv)
    have:j=j0:=by
     rcases Nat.decEq j j0 with aW | he
     .exact absurd AT (F.dst j j0 y y0 hy k4 aW d k5)
     .exact he
    subst this;exact TN j (by rw[lg];exact(lC.1 k1).1) k3
  obtain⟨yU,dL⟩:=aof (c:=zv.cells) (t:=t) hs;have dc:(execOp a.eval o).run P E.w = .ok (.value (.pointer (aa ⟨E.w.heap.size,0,ag⟩))) (E.w.alloc (.cells zv.cells t)):=by
   simp[execOp,v1,Instr.alloc,zeroValue,typeInfo,z1,z2,newVar,newRow]
  unfold Oper.wp;rw[dc];simp only[Oper.upon,v2];refine⟨E.sC zv.cells t,rfl,?_,bj.trans yU,?_⟩
  .have:=bH.put dL (v:=.any) (x:=.pointer (aa ⟨E.w.heap.size,0,ag⟩)) (by simp[R]) (aa d)
   rw[FF] at this;simp only[kS,as0 akj] at this;exact this
  .obtain⟨hN,B,hB⟩:=hX;have hD:(E.sC zv.cells t).w.heap[E.w.heap.size]?=aa (.cells zv.cells t (0,0)):=heap_alloc_new E.w _;have jv:zv.cells.size=n:=by have:=gh (rY (E:=E) z3);rw[<-hzn];simp at this;omega
   refine⟨by simp[Act.put,hN],λk=>if k=i then E.w.heap.size else B k,λk o' d' sF fX hH iq eP=>?_⟩;have EV : ∀(j:Nat) o' x,ops[j]?=aa o' -> nZ o' = aa (d',sF,x)->listed.getD j ak=false:=λj o2 x2 h1 h2=>by
    have:=eP j o2 x2 h1 h2
    rw[wx uv] at this;simp only[BN] at this;exact this.2
   rw[wx uv] at iq
   by_cases uu:k=i
   .subst uu;rw[ho] at fX;simp only[a9] at fX;subst fX;rw[hv] at hH;simp only[a9,py] at hH;obtain⟨rfl,rfl⟩:=hH;simp only[cm];have TT:d<a.tmps.size:=by
     have:=(Ub d TU).1
     have h0:=gh H2.slot;simp at h0;omega
    refine⟨by simp[Act.put,TT],by simp[Env.sC],⟨_,_,hD,by rw[jv];exact hn⟩,yh bj.size (bS _),λi' o' d' t' fX hH T9 ak' aW=>?_⟩;simp only[aA (fF aW)];have MC:∀(j:Nat) o' x,ops[j]?=aa o' -> nZ o' = aa (d',t',x)->listed.getD j ak=false:=λj o2 x2 h1 h2=>by
     have:=ak' j o2 x2 h1 h2
     rw[wx uv] at this;simp only[BN] at this;exact this.2
    rw[wx uv] at T9;have v5:listed.getD i' ak=true:=by simpa [fF aW] using T9
    obtain⟨_,_,⟨c,e,hc,_⟩,_⟩:=hB i' o' d' t' fX hH v5 MC
    have:=lx hc
    omega
   .simp only[aA uu];have lh:listed.getD k ak=true:=by simpa [uu] using iq
    obtain⟨g1,g2,⟨c,e,g3,g4⟩,g5,g6⟩:=hB k o' d' sF fX hH lh EV;have aC:=lx g3;have AE:d' ≠ d:=λe=>by subst e;exact uu (FA.uniq k i o' o d' sF t fX ho hH hv)
    refine⟨by simp only[Act.put];rw[BL (fF AE)];exact g1,by simp only[Env.sC];rw[aA (by omega)];exact g2,⟨c,e,((Ext.refl E.w).alloc zv.cells t).block _ aC |>.trans g3,g4⟩,g5,λi' o2 d2 t2 pS tz v5 tm aW=>?_⟩;have MC:∀(j:Nat) o' x,ops[j]?=aa o' -> nZ o' = aa (d2,t2,x)->listed.getD j ak=false:=λj o3 x3 h1 h2=>by
     have:=tm j o3 x3 h1 h2
     rw[wx uv] at this;simp only[BN] at this;exact this.2
    by_cases du : i' = i
    .simp only[aE du];omega
    .simp only[aA du];rw[wx uv] at v5;exact g6 i' o2 d2 t2 pS tz (by simpa [du] using v5) MC aW
 ·-- its first store
  right;obtain⟨v1,v2,v3⟩:=YS hv;refine⟨v3,by rw[v_],λE a t' s v s' listed Q uv y7 LS TN mu hs bj hX ln=>?_⟩;rw[v_] at ln ⊢;simp only[aO.bh] at ln;obtain⟨so,fE,rfl,ln⟩:=ln;obtain rfl:(s.1++[(ev (cf t' s) q).cells],s.2)=s' := by have:=iK (λq:St=>(q.aD,q.out)) ln;simp only[cf,py] at this;exact Prod.ext this.1 this.2
  simp only[kS];obtain⟨i0,o0,k1,k2⟩:=akY d t MG;obtain⟨j0,oj,xj,m1,m2,m3⟩:=FA.st i0 o0 d t k1 k2;have L_:j0=i:=by
   obtain⟨y0,k4,k5⟩:=H4 j0 oj d t xj m1 m2 MG
   rcases Nat.decEq j0 i with aW | he
   .have:=F.dst i j0 x y0 hx k4 (fF aW) d k5
    rw[v_] at this;exact absurd rfl this
   .exact he
  subst L_;rw[ho] at m1;simp only[a9] at m1;subst m1;have Ur:∀(j:Nat) o' x,ops[j]?=aa o' -> nZ o' = aa (d,t,x)->j=j0:=λj o' x' h1 h2=>by
   obtain⟨y0,k4,k5⟩:=H4 j o' d t x' h1 h2 MG
   rcases Nat.decEq j j0 with aW | he
   .have:=F.dst j0 j x y0 hx k4 (fF aW) d k5
    rw[v_] at this;exact absurd rfl this
   .exact he
  obtain⟨hN,B,hB⟩:=hX;obtain⟨g1,g2,⟨c,e,g3,g4⟩,g5,g6⟩:=hB i0 o0 d t k1 k2 (LS i0 m3) λj o' x' h1 h2=>by rw[Ur j o' x' h1 h2];exact y7
  have hR:=nK (E:=E) (st:=cf t' s) (a:=a) hs.slot hq;obtain⟨s6,cW⟩:=ym hR so;have bV:c.size=n:=by rw[hn] at g4;simpa using g4.symm
  have dc:=OP (P:=P) (off:=0) hn g3 cW (by omega) (zo s6 fE);obtain⟨f1,f2⟩:=abd hs bj g2 g5 g3 s6 g1;have hD:(c.toList.take 0++(a.eval y).cells.toList++c.toList.drop (0+n)).toArray=(a.eval y).cells.toList.toArray:=by
   rw[JT (by simp;omega)];simp
  rw[hD] at dc;have hde:a.eval (.tmp d) = .pointer (aa ⟨B i0,0,ag⟩):=by simp[Act.eval,qW,g1]
  unfold Oper.wp;rw[show(execOp a.eval o).run P E.w = .ok .skip (E.w.setRow (B i0) (a.eval y).cells.toList.toArray) from by simp[execOp,v1,hde,I9 dc]];simp only[Oper.upon,v2];refine⟨_,rfl,f2,f1,hN,B,λk o' d' sF fX hH iq eP=>?_⟩;have hkd:d' ≠ d:=λe=>by
   subst e;have e1:=FA.uniq k i0 o' o0 d' sF t fX k1 hH k2;subst e1;rw[k1] at fX;simp only[a9] at fX;subst fX;rw[k2] at hH;simp only[a9,py] at hH;obtain⟨_,rfl⟩:=hH
   have:=eP j0 o y ho hv
   rw[wx uv] at this;simp at this
  have xm:k≠i0:=by rintro rfl;rw[k1] at fX;simp only[a9] at fX;subst fX;rw[k2] at hH;simp only[a9,py] at hH;exact hkd hH.1.symm
  have T':∀(k:Nat) o',ops[k]?=aa o' -> (nY o').isSome=ab->k≠j0:=λk o' fX dL => by
   rintro rfl;rw[ho] at fX;simp only[a9] at fX;subst fX;cases hq:nY o with
   | none=>rw[hq] at dL;simp at dL
   | some p=>obtain⟨p1,p2⟩:=p;rw[(Pj hq).1] at v1;simp at v1
  have conv:∀{d t},(∀(j:Nat) o' x,ops[j]?=aa o' -> nZ o' = aa (d,t,x)->(listed.setIfInBounds j0 ab).getD j ak=ak)->∀(j:Nat) o' x,ops[j]?=aa o' -> nZ o' = aa (d,t,x)->listed.getD j ak=false:=λ{d t} h j o2 x2 h1 h2=>by
   have:=h j o2 x2 h1 h2
   rw[wx uv] at this;simp only[BN] at this;exact this.2
  have Me:=T' k o' fX (by simp[hH]);rw[wx uv] at iq;have lh:listed.getD k ak=true:=by simpa [Me] using iq
  obtain⟨p1,p2,⟨c',e',p3,p4⟩,p5,p6⟩:=hB k o' d' sF fX hH lh (conv eP);have th:B k≠B i0:=p6 i0 o0 d t k1 k2 (LS i0 m3) (λj o' x' h1 h2=>by rw[Ur j o' x' h1 h2];exact y7) xm;refine⟨p1,by simp only[Env.bare];rw[aA th];exact p2,⟨c',e',by simp only[Env.bare];rw[setRow_other E.w (B i0) (B k) _ th];exact p3,p4⟩,p5,λi' o2 d2 t2 pS tz v5 tm aW=>?_⟩;rw[wx uv] at v5;exact p6 i' o2 d2 t2 pS tz (by simpa [T' i' o2 pS (by simp[tz])] using v5) (conv tm) aW
 ·-- any other step
  left;refine⟨um,λlisted E E' a u hX kG => ?_⟩;obtain⟨hN,B,hB⟩:=hX;have mh:x.1.dst=o.dst:=by
   unfold uF at um;split at um
   .simp at um
   .split at um
    .simp only[a9] at um;rw[<-um]
    .split at um
     .simp only[a9] at um;rw[<-um]
     .simp at um
  have cW:(a.put o.dst u).tmps.size=a.tmps.size:=by cases o.dst<;>simp[Act.put]
  refine⟨by rw[cW];exact hN,B,λk o' d' sF fX hH iq eP=>?_⟩;have uu:k≠i:=by rintro rfl;rw[ho] at fX;simp only[a9] at fX;subst fX;rw[Ux] at hH;simp at hH
  have Mj : ∀k,k≠i->(listed.setIfInBounds i ab).getD k ak=listed.getD k false:=λk hk=>by
   rw[qW,BL (fF hk),<-qW]
  have conv:∀{d t},isVar ops d t=ab->(∀(j:Nat) o' x,ops[j]?=aa o' -> nZ o' = aa (d,t,x)->(listed.setIfInBounds i ab).getD j ak=ak)->∀(j:Nat) o' x,ops[j]?=aa o' -> nZ o' = aa (d,t,x)->listed.getD j ak=false:=λ{d t} CA h j o2 x2 h1 h2=>by
   have:=h j o2 x2 h1 h2
   rw[Mj j (by rintro rfl;rw[ho] at h1;simp only[a9] at h1;subst h1;rw[CS _ _ _ h2] at CA;simp at CA)] at this;exact this
  rw[Mj k uu] at iq;obtain⟨g1,g2,⟨c,e,g3,g4⟩,g5,g6⟩:=hB k o' d' sF fX hH iq (conv (EM k o' d' sF fX hH) eP);have aC:=lx g3;obtain⟨h1,h2⟩:=kG.same _ aC (.inr g2);obtain⟨j0,oj,xj,m1,m2,m3⟩:=FA.st k o' d' sF fX hH;obtain⟨y0,k4,k5⟩:=H4 j0 oj d' sF xj m1 m2 (EM k o' d' sF fX hH);have AE:o.dst≠aa d' := λhd=>by
   have aW:i≠j0:=by rintro rfl;rw[ho] at m1;simp only[a9] at m1;subst m1;have:=CS _ _ _ m2;rw[EM k o' d' sF fX hH] at this;simp at this
   exact F.dst i j0 x y0 hx k4 aW d' k5 (by rw[mh];exact hd)
  refine⟨?_,h2.trans g2,⟨c,e,h1.trans g3,g4⟩,g5,λi' o2 d2 t2 pS tz v5 tm aW=>?_⟩
  .cases hod:o.dst with
   | none=>exact g1
   | some m=>simp only[Act.put];rw[BL (by rintro rfl;exact AE hod)];exact g1
  .have du : i' ≠ i:=by rintro rfl;rw[ho] at pS;simp only[a9] at pS;subst pS;rw[Ux] at tz;simp at tz
   rw[Mj i' du] at v5;exact g6 i' o2 d2 t2 pS tz v5 (conv (EM i' o2 d2 t2 pS tz) tm) aW
end
inductive AC where
 | skip
 | FJ (l:List AO)
 | qf (x:AC)
 | draw (l:List (AO × List Nat))
 | G8 (nv:List Nat) (l:List (AO × List Nat))
 | hole (l:List (AO × List Nat)) (h:HI)
 | seq (x y:AC)
 | cond (c:X) (x y:AC)
 | block (id:Nat) (x:AC)
 | loop (x:AC)
 | scope (x:AC)
 | De (l:List AO) (x:X) (dI dN dM out nxt:Nat) (y:AC)
 | exit (id:Nat)
 | ret
structure Hint where
 out:List Nat:=[]
 qf:List Nat:=[]
def AC.FZ(b:Bool)(x:AC):AC:=if b then .qf x else x
def IE(P:Program)(h:Hint)(ly lz:Array Oper)(ud out uK nxt:Nat)(y:Option AC):Option AC :=
 match ly.toList.getLast?,lz.toList,y with
 | some oR, [oN, oM], aa y =>
  match oR.op,oR.dst,oR.guard,oN.op,oN.dst,oN.guard,oM.op,oM.dst,oM.guard with
  | .range xt ox, aa dI, ag, .next (.tmp RZ) ab, aa dN, ag, .extract (.tmp R0) 0, aa dM, ag =>
   match P.underlying xt,A_ P h.out ly ly.toList.dropLast,cH P xt ox with
   | some .string,aa l,aa x=>if RZ = dI/\R0 = dN/\ud = dM/\uK = out then aa (.De l x dI dN dM out nxt y) else ag
   | _,_,_=>ag
  | _,_,_,_,_,_,_,_,_=>ag
 | _,_,_=>ag
def gl(P:Program)(h:Hint):Code->Option AC
 | .skip=>aa .skip
 | .region id ops ak=>(A_ P h.out ops ops.toList).map λl=>AC.FZ (h.qf.contains id) (.FJ l)
 | .region id ops ab =>
  match IB P ops with
  | some l=>aa (AC.FZ (h.qf.contains id) (.draw l))
  | none =>
   match ID P ops with
   | some p=>aa (AC.FZ (h.qf.contains id) (.hole p.1 p.2))
   | none=>(IC P ops).map λp=>AC.FZ (h.qf.contains id) (.G8 p.1 p.2)
 | .seq (.region i0 ly ak) (.block out (.loop (.seq (.region i1 lz ak) (.seq (.cond (.tmp ud) .skip (.exit uK)) (.block nxt b))))) =>
  match IE P h ly lz ud out uK nxt (gl P h b) with
  | some r=>aa r
  | none=>match gl P h (.region i0 ly ak),gl P h (.block out (.loop (.seq (.region i1 lz ak) (.seq (.cond (.tmp ud) .skip (.exit uK)) (.block nxt b))))) with | some x,aa y=>aa (.seq x y) | _,_=>ag
 | .seq a b=>match gl P h a,gl P h b with | some x,aa y=>aa (.seq x y) | _,_=>ag
 | .cond c a b=>match cH P 0 c,gl P h a,gl P h b with | some c,aa x,aa y=>aa (.cond c x y) | _,_,_=>ag
 | .block id a=>(gl P h a).map (.block id)
 | .loop a=>(gl P h a).map .loop
 | .scope a=>(gl P h a).map .scope
 | .exit id=>aa (.exit id)
 | .ret=>aa .ret
 | .label _=>aa .skip
 | _=>ag
def bm(st:St)(K:St->Prop):Prop:=∀E a,bH E st a->∃E' aM,E'.w=E.w/\Fr E E' /\ bH E' aM a/\K aM
variable{K:St->Prop}
def bm.id(h:K st):bm st K:=λE _ hs=>⟨E,st,rfl,Fr.refl E,hs,h⟩
variable{K':St->Prop}
def bm.bind(h:bm st K)(k:∀aM,K aM -> bm aM K'):bm st K' := λE a hs =>
 let ⟨E',aM,h1,h2,h3,h4⟩:=h E a hs
 let ⟨ni,FU,k1,k2,k3,k4⟩:=k aM h4 E' a h3
 ⟨ni,FU,k1.trans h1,h2.trans k2,k3,k4⟩
def bm.mono(h:bm st K)(k:∀aM,K aM -> K' aM):bm st K' := h.bind λaM hk=>bm.id (k aM hk)
def tX:List Nat->List V->Option (List V)
 | [],t=>aa t
 | d::ds,t=>if d<t.length then tX ds (t.set d .any) else ag
def QL:∀{ds:List Nat} {t t' : List V},tX ds t=aa t' -> t'.length=t.length/\(∀d∈ds,d<t'.length/\t'.getD d .any = .any)/\(∀d,t.getD d .any = .any->t'.getD d .any = .any)/\∀(E:Env) vs,RL E t vs->RL E t' vs
 | [],t,t',h=>by simp only[tX,a9] at h;subst h;exact⟨rfl,by simp,λ_ h=>h,λ_ _ h=>h⟩
 | d :: ds, t, t', h => by
  simp only[tX] at h;split at h
  case isFalse=>simp at h
  rename_i hd;obtain⟨h1,h2,h3,h4⟩:=QL h;have hlen:t'.length=t.length:=by rw[h1];simp
  refine⟨hlen,λx hx=>?_,λx hx=>h3 x ?_,λE vs hr=>h4 E vs ?_⟩
  .rcases lF.1 hx with rfl | hx
   .exact⟨by omega,h3 x (by simp[ij,hd])⟩
   .exact h2 x hx
  .by_cases e:x=d
   .subst e;simp[ij,hd]
   .simpa [ij,DL (fF e)] using hx
  .have hl:=gh hr;have hdv:d<vs.length:=by omega
   have:=GA hr d (x:=.any) (v:=vs[d]) (by simp[R])
   simpa using this
def zR{ι:Type}(I:ι->St)(μ:ι->Nat)(Q:Exit->St->Prop)(n:Nat):Exit->St->Prop
 | .normal,st=>bm st λaM => ∃j,aM = I j/\μ j<n
 | e,st=>Q e st
def DC(K:St->Prop)(Q:Exit->St->Prop):Exit->St->Prop
 | .normal,st=>K st
 | e,st=>Q e st
def yl(out:Nat)(J:St->Prop)(Q:Exit->St->Prop):Exit->St->Prop
 | .normal,st=>bm st J
 | .exit id,st=>if id=out then Q .normal st else Q (.exit id) st
 | e,st=>Q e st
def BV(Q:Exit->St->Prop):Exit->St->Prop
 | .goto _,_=>False
 | e,st=>Q e st
def vc(P:Program):AC->(Exit->St->Prop)->St->Prop
 | .skip,Q,st=>Q .normal st
 | .FJ l,Q,st=>b7 P l (Q .normal) st
 | .draw l,Q,st=>cy P l [(st.aD,st.out)] [] (Q .normal) st
 | .hole l h,Q,st=>cy P l [(st.aD,st.out)] [] (Gh h (Q .normal)) st
 | .G8 nv l,Q,st=>∃t,tX nv st.t=aa t/\cy P l [(st.aD,st.out)] [] (Q .normal) ⟨t,st.aD,st.out⟩
 | .qf x,Q,st=>bm st λaM => vc P x Q aM
 | .seq x y,Q,st=>vc P x (DC (vc P y Q) Q) st
 | .cond c x y,Q,st=>match ev st c with | .bool b=>(b=ab->vc P x Q st)/\(b=ak->vc P y Q st) | _=>False
 | .block id x,Q,st=>vc P x (sN id Q) st
 | .loop x,Q,st=>∃(ι:Type) (I:ι->St) (μ:ι->Nat),(bm st λaM => ∃i,aM = I i)/\∀i,vc P x (zR I μ Q (μ i)) (I i)
 | .scope x,Q,st=>vc P x (BV Q) st
 | .De l x dI dN dM out nxt y,Q,st=>b7 P l (λnU=>∃s:List UInt8,ev nU x = .aF s/\(∀c∈s,c.toNat<128)/\∃I:Nat->Nat->St->Prop,
  (∀b,bm (nU.put (aa dI) (.raw (.pointer (aa ⟨b,0,ag⟩)))) (I b 0)) /\
  (∀b i aM,I b i aM -> aM.t.getD dI .any = .raw (.pointer (aa ⟨b,0,ag⟩))/\dN<aM.t.length/\dM<aM.t.length) /\
  (∀b i c aM,s[i]?=aa c->I b i aM -> vc P y (sN nxt (yl out (I b (i+1)) Q)) ((aM.put (aa dN) (.bt [.bool ab,.int .i64 (i:Nat),.int .i32 (c.toNat:Nat)])).put (aa dM) (.bool ab))) /\
  (∀b aM,I b s.length aM -> Q .normal ((aM.put (aa dN) (.bt [.bool ak])).put (aa dM) (.bool ak)))) st
 | .exit id,Q,st=>Q (.exit id) st
 | .ret,Q,st=>Q .ret st
variable{Q:Exit->St->Prop}
def arl{c:Code}(h:bm st (jg P c Q)):jg P c Q st:=by
 intro E a hs;obtain⟨E',aM,h1,h2,h3,h4⟩:=h E a hs;rw[<-h1];exact wp_mono (h4 E' a h3) λ_ _ _ ⟨ni,FU,k1,k2,k3,k4⟩=>⟨ni,FU,k1,k2,h2.trans k3,k4⟩
def amK{N:Nat->Prop}:∀n,N n->∃m,N m/\∀k,N k->m<=k:=λn=>by
 induction n using Nat.strongRecOn with
 | ind n ih =>
  intro h
  by_cases hq:∃k,N k/\k<n
  .obtain⟨k,h1,h2⟩:=hq;exact ih k h2 h1
  .refine⟨n,h,λk hk=>?_⟩
   by_cases aC:k<n
   .exact absurd ⟨k,hk,aC⟩ hq
   .omega
def are{c:Code}{ι:Type}(I:ι->St)(μ:ι->Nat)(h0:bm st λaM => ∃i,aM = I i)(hr:∀i,jg P c (zR I μ Q (μ i)) (I i)):jg P (.loop c) Q st:=by
 intro E a hs;obtain⟨E1,nU,h1,h2,h3,i0,rfl⟩:=h0 E a hs
 classical
 let J:Act->World->Prop:=λa w=>∃i E',E'.w=w/\bH E' (I i) a/\Fr E E'
 let N:Act->World->Nat->Prop:=λa w n=>∃i E',E'.w=w/\bH E' (I i) a/\Fr E E' /\ μ i=n
 have hL:∀a w,(∃n,N a w n)->∃m,N a w m/\∀k,N a w k->m<=k:=λa w h=>amK _ h.choose_spec
 let M:Act->World->Nat:=λa w=>if h:∃n,N a w n then(hL a w h).choose else 0
 refine wp_loop J M ⟨i0,E1,h1,h3,h2⟩ ?_;intro a w hJ;have hex:∃n,N a w n:=by obtain⟨i,E',k1,k2,k3⟩:=hJ;exact⟨μ i,i,E',k1,k2,k3,rfl⟩
 obtain⟨i,E',k1,k2,k3,k4⟩:=(hL a w hex).choose_spec.1;have hM:M a w=μ i:=by show(if h:∃n,N a w n then(hL a w h).choose else 0)=_;rw[yz hex];exact k4.symm
 subst k1;refine wp_mono (hr i E' a k2) ?_;rintro e a' w' ⟨E2,nV,rfl,m2,m3,m4⟩;cases e with
 | normal =>
  obtain⟨E3,zH,n1,n2,n3,j,rfl,aC⟩:=m4 E2 a' m2;have hN:N a' E2.w (μ j):=⟨j,E3,n1,n3,(k3.trans m3).trans n2,rfl⟩;refine⟨⟨j,E3,n1,n3,(k3.trans m3).trans n2⟩,?_⟩;have awv : M a' E2.w<=μ j:=by
   show(if h:∃n,N a' E2.w n then(hL a' E2.w h).choose else 0)<=_;rw[yz ⟨_,hN⟩];exact(hL a' E2.w ⟨_,hN⟩).choose_spec.2 _ hN
  rw[hM];omega
 | exit id=>exact⟨E2,nV,rfl,m2,k3.trans m3,m4⟩
 | goto l=>exact⟨E2,nV,rfl,m2,k3.trans m3,m4⟩
 | ret=>exact⟨E2,nV,rfl,m2,k3.trans m3,m4⟩
 | panic c=>exact⟨E2,nV,rfl,m2,k3.trans m3,m4⟩
 | outgrown=>exact⟨E2,nV,rfl,m2,k3.trans m3,m4⟩
section
variable {P:Program}
def N1{hn:List Nat}{ops:Array Oper}{K:St->Prop}{Q:Exit->Act->World->Prop}{E0:Env}{rest:List Nat}(hQ:∀E st a,bH E st a->Fr E0 E->K st->wpOps P ops Q rest a E.w):∀(os:List Oper) (l:List AO) (i:Nat),A_ P hn ops os=aa l ->
 (∀j:Nat,j<os.length->os[j]?=ops[i+j]?)->∀E st a,bH E st a->Fr E0 E->b7 P l K st->wpOps P ops Q (List.range' i os.length++rest) a E.w
 | [], l, i, hl, _, E, st, a, hs, hf, h => by
  simp only[A_,a9] at hl;subst hl;exact hQ E st a hs hf h
 | o :: os, l, i, hl, uo, E, st, a, hs, hf, h => by
  simp only[A_,iI,dk] at hl;obtain⟨x,hx,l',iq,rfl⟩:=hl;have ho:ops[i]?=aa o:=by have:=uo 0 (by simp);simpa using this.symm
  have akG : ∀j:Nat,j<os.length->os[j]?=ops[i+1+j]?:=λj hj=>by
   have:=uo (j+1) (by simp;omega)
   rw[show i+(j+1)=i+1+j from by omega] at this;simpa using this
  have ih:=N1 hQ os l' (i+1) iq akG;have key:∀{ao:aO} {d:Option Tmp},Fl P hn o=ao->d=o.dst->ao.bh P st (λv aM => b7 P l' K (aM.put d v))->o.wp P a E.w (wpOps P ops Q (List.range' (i+1) os.length++rest)) Q:=λ{ao d} hao hd ln=>by
   subst hd;subst hao;refine Oper.wp_mono ?_ (anw (Q:=Q) hs ln);rintro a' w' ⟨E',v,u,aM,rfl,kG,dL,hv,rfl,hk⟩;exact ih E' _ _ (bH.put dL hv o.dst) (hf.trans kG) hk
  simp only[dB,DN,iv,wpOps,ho];unfold Vv at hx;cases hg:o.guard with
  | none =>
   rw[hg] at hx;simp only[a9] at hx;subst hx;simp only[b7] at h;rw[aE (by simp[Region.wanted,hg])];exact .inl (key rfl rfl h)
  | some p =>
   obtain⟨j,want⟩:=p;rw[hg] at hx;simp only at hx;split at hx
   case h_2=>simp at hx
   rename_i g pP;simp only[a9] at hx;subst hx;simp only[b7] at h;split at h
   .rename_i b hb;have hR:=Ce hs.slot g;rw[hb] at hR;simp only[R,Act.eval] at hR;have uo:a.tmps[g]?=aa (.bool b):=by
     rw[qW] at hR;cases hq:a.tmps[g]? with
     | none=>rw[hq] at hR;simp[undef] at hR
     | some u=>rw[hq] at hR;simp at hR;rw[hR]
    have hw:Region.wanted o (yielded ops a.tmps)=(b == want):=by
     simp only[Region.wanted,hg,yielded,pP,wQ,uo];cases b<;>cases want<;>rfl
    split at h
    .rename_i LV;rw[hw,aE (by simp[LV])];exact .inl (key rfl rfl h)
    .rename_i LV;rw[hw,aA (by simp[LV])];exact ih E _ _ (bH.put hs (v:=.bt []) (x:=undef) Ke o.dst) hf h
   .rename_i hb;have hR:=Ce hs.slot g;rw[hb] at hR;have hu:=Qz hR;have hw:Region.wanted o (yielded ops a.tmps)=false:=by
     simp only[Region.wanted,hg,yielded,pP,wQ];simp only[Act.eval] at hu;cases hq:a.tmps[g]? with
     | none=>rfl
     | some u =>
      rw[qW,hq] at hu;simp at hu;rw[hu];rfl
    rw[hw,aA (by simp)];exact ih E _ _ (bH.put hs (v:=.bt []) (x:=undef) Ke o.dst) hf h
   .exact h.elim
def Jt{c:Code}{x:AC}(ih:∀(Q:Exit->St->Prop) (st:St),vc P x Q st->jg P c Q st)(b:Bool)(Q:Exit->St->Prop)(st:St)(h:vc P (AC.FZ b x) Q st):jg P c Q st:=by
 cases b with
 | false=>exact ih Q st h
 | true=>exact arl (h.mono λaM h' => ih Q aM h')
def eval_put{x:Value}(h:d<a.tmps.size):(a.put (aa d) x).eval (.tmp d)=x:=by
 simp[Act.put,Act.eval,h]
variable{cb:Code}{i1 out:Nat}{lz:Array Oper}
def rounds{oN oM:Oper}{dI dN dM nxt:Nat}{E0:Env}{s:List UInt8}{I:Nat->St->Prop}
 (h1:lz.toList=[oN,oM]) (hN:oN.op = .next (.tmp dI) ab) (LA:oN.dst=aa dN) (LB:oN.guard=ag) (hM:oM.op = .extract (.tmp dN) 0) (Ly:oM.dst=aa dM) (Lz:oM.guard=ag)
 (Et:E0.w.heap.size<=b) (LM:∀c∈s,c.toNat<128) (CO:∀i aM,I i aM -> aM.t.getD dI .any = .raw (.pointer (aa ⟨b,0,ag⟩))/\dN<aM.t.length/\dM<aM.t.length)
 (LU:∀i c aM,s[i]?=aa c->I i aM -> jg P cb (sN nxt (yl out (I (i+1)) Q)) ((aM.put (aa dN) (.bt [.bool ab,.int .i64 (i:Nat),.int .i32 (c.toNat:Nat)])).put (aa dM) (.bool ab)))
 (db:∀aM,I s.length aM -> Q .normal ((aM.put (aa dN) (.bt [.bool ak])).put (aa dM) (.bool ak)))
 {E:Env} {st:St} {a:Act} (hs:bH E st a) (hf:Fr E0 E) (hr:E.bf b = .mP) (hh:E.w.heap[b]?=aa (.stringIter ⟨s.toArray⟩ 0)) (hI:I 0 st) :
 (Code.block out (.loop (.seq (.region i1 lz ak) (.seq (.cond (.tmp dM) .skip (.exit out)) (.block nxt cb))))).wp P (λe a' w' => ∃E' aM,E'.w=w' /\ bH E' aM a' /\ Fr E0 E' /\ Q e aM) a E.w:=by
 refine wp_block ?_;refine wp_loop (λa w=>∃i aM E',E'.w=w/\i<=s.length/\I i aM /\ bH E' aM a/\Fr E0 E' /\ E'.bf b = .mP/\E'.w.heap[b]?=aa (.stringIter ⟨s.toArray⟩ i)) (λa w=>match w.heap[b]? with | some (.stringIter z p)=>z.size - p | _=>0) ⟨0,st,E,rfl,by omega,hI,hs,hf,hr,hh⟩ ?_;rintro a _ ⟨i,aM,E',rfl,hi,hI,dL,kG,cB,EB⟩;obtain⟨MA,CG,lh⟩:=CO i aM hI;have hlen:aM.t.length=a.tmps.size:=by have:=gh dL.slot;simpa using this
 have hdI:a.eval (.tmp dI) = .pointer (aa ⟨b,0,ag⟩):=by
  have:=Ce dL.slot dI
  rw[show ev aM (.s dI)=aM.t.getD dI .any from rfl,MA] at this;simpa [R] using this
 have hg0:lz[0]?=aa oN:=by rw[<-PT,h1];rfl
 have HO:lz[1]?=aa oM:=by rw[<-PT,h1];rfl
 have cW:lz.size=2:=by rw[<-BM,h1];rfl
 refine wp_seq (wp_region ?_);rw[cW];show wpOps P lz _ [0,1] a E'.w;have step:∀(y:Value) (t:V) (us:Array Value) (bb:Bool) (w1:World) (E1:Env),(Instr.next (.pointer (aa ⟨b,0,ag⟩)) ab oN.type).run P E'.w = .ok y w1->y = .tuple us->us[0]?=aa (.bool bb)->E1.w=w1->bH E1 aM a->R E1 t y ->
  ∀(QQ:Exit->Act->World->Prop),(∀a',bH E1 ((aM.put (aa dN) t).put (aa dM) (.bool bb)) a' -> a'.eval (.tmp dM) = .bool bb->QQ .normal a' w1)->wpOps P lz QQ [0,1] a E'.w:=by
  intro y t us bb w1 E1 dc hy MF hw pW hR QQ hQ;subst hy;simp only[wpOps,hg0,HO];rw[aE (by simp[Region.wanted,LB])];left;unfold Oper.wp;rw[show(execOp a.eval oN).run P E'.w = .ok (.value (.tuple us)) w1 by simp[execOp,hN,hdI,dc]];simp only[Oper.upon];rw[aE (by simp[Region.wanted,Lz])];left;have he:(a.put (aa dN) (.tuple us)).eval (.tmp dN) = .tuple us:=eval_put (by omega);rw[LA,show(execOp (a.put (aa dN) (.tuple us)).eval oM).run P w1 = .ok (.value (.bool bb)) w1 by simp[execOp,hM,he,Instr.extract,MF]];simp only[Ly];refine hQ _ ?_ (eval_put (by simp[Act.put];omega));exact bH.put (bH.put pW hR (aa dN)) (by simp[R]) (aa dM)
 by_cases aC:i<s.length
 .have uo:s[i]?=aa s[i]:=cS aC;have nC:(⟨s.toArray⟩:ByteArray).get! i=s[i]:=by simp[ByteArray.get!,aC]
  have dc:=asu (P:=P) (t:=oN.type) EB (by simpa [ByteArray.size] using aC) (by rw[nC];exact LM _ (fg aC));rw[nC] at dc;refine step _ (.bt [.bool ab,.int .i64 (i:Nat),.int .i32 (s[i].toNat:Nat)]) _ ab _ (E'.kb b (.stringIter ⟨s.toArray⟩ (i+1))) dc rfl rfl rfl (bH.kb cB dL) (by simp[R,RL]) _ ?_;intro a' Mw L0;refine wp_seq (wp_cond_true L0 (wp_skip ?_));refine wp_block ?_;have se:Fr E0 (E'.kb b (.stringIter ⟨s.toArray⟩ (i+1))):=Fr.kb kG cB Et EB;have s8:(E'.kb b (.stringIter ⟨s.toArray⟩ (i+1))).w.heap[b]?=aa (.stringIter ⟨s.toArray⟩ (i+1)):=X_ EB;have Ml:b<(E'.kb b (.stringIter ⟨s.toArray⟩ (i+1))).w.heap.size:=(lC.1 s8).1;refine wp_mono (LU i s[i] aM uo hI _ a' Mw) ?_;rintro e a2 w2 ⟨E3,zH,rfl,AN,yT,hq⟩;have CD:=yT.same b Ml (.inr cB);have norm:bm zH (I (i+1))->(∃i aM E',E'.w=E3.w/\i<=s.length/\I i aM /\ bH E' aM a2/\Fr E0 E' /\ E'.bf b = .mP/\E'.w.heap[b]?=aa (.stringIter ⟨s.toArray⟩ i)) /\
   (match E3.w.heap[b]? with | some (.stringIter z p)=>z.size - p | _=>0)<(match E'.w.heap[b]? with | some (.stringIter z p)=>z.size - p | _=>0):=by
   intro hU;obtain⟨E4,Yp,MH,Ey,Mv,Lr⟩:=hU E3 a2 AN;have sc:b<E3.w.heap.size:=by rw[s8] at CD;exact(lC.1 CD.1).1
   have ED:=Ey.same b sc (.inr (CD.2.trans cB));refine⟨⟨i+1,Yp,E4,MH,aC,Lr,Mv,(se.trans yT).trans Ey,ED.2.trans (CD.2.trans cB),ED.1.trans (CD.1.trans s8)⟩,?_⟩;rw[CD.1,s8,EB];simp only[ByteArray.size,Qo];omega
  cases e with
  | normal=>exact norm hq
  | exit id =>
   simp only[sN,yl] at hq;simp only[Exit.inBlock,Exit.then]
   by_cases e1:id=nxt
   .rw[aE e1] at hq ⊢;exact norm hq
   .rw[aA e1] at hq ⊢
    by_cases e2:id=out
    .rw[aE e2] at hq ⊢;exact⟨E3,zH,rfl,AN,se.trans yT,hq⟩
    .rw[aA e2] at hq ⊢;exact⟨E3,zH,rfl,AN,se.trans yT,hq⟩
  | goto l=>exact⟨E3,zH,rfl,AN,se.trans yT,hq⟩
  | ret=>exact⟨E3,zH,rfl,AN,se.trans yT,hq⟩
  | panic c=>exact⟨E3,zH,rfl,AN,se.trans yT,hq⟩
  | outgrown=>exact⟨E3,zH,rfl,AN,se.trans yT,hq⟩
 .have AF:i=s.length:=by omega
  subst AF;have dc:=run_next_end (P:=P) (t:=oN.type) EB (by simp[ByteArray.size]);refine step _ (.bt [.bool ak]) _ ak _ E' dc rfl rfl rfl dL (by simp[R,RL]) _ ?_;intro a' Mw L0;refine wp_seq (wp_cond_false L0 (wp_exit ?_));simp only[Exit.then,Exit.inBlock,cm];exact⟨E',_,rfl,Mw,kG,db aM hI⟩
variable{ly:Array Oper}
def arf{VB:(Exit->St->Prop)->St->Prop}{hn:List Nat}{os:List Oper}{oR oN oM:Oper}{l0:List AO}{xt:TypeId}{ox:Operand}{x:X}{dI dN dM i0 nxt:Nat}
 (h0:ly.toList=os++[oR]) (hR:oR.op = .range xt ox) (hRd:oR.dst=aa dI) (hRg:oR.guard=ag) (ht:P.underlying xt=aa .string) (hl:A_ P hn ly os=aa l0) (hx:cH P xt ox=aa x)
 (h1:lz.toList=[oN,oM]) (hN:oN.op = .next (.tmp dI) ab) (LA:oN.dst=aa dN) (LB:oN.guard=ag) (hM:oM.op = .extract (.tmp dN) 0) (Ly:oM.dst=aa dM) (Lz:oM.guard=ag)
 (hVB:∀Q st,VB Q st->jg P cb Q st) (h:b7 P l0 (λnU=>∃s:List UInt8,ev nU x = .aF s/\(∀c∈s,c.toNat<128)/\∃I:Nat->Nat->St->Prop,
   (∀b,bm (nU.put (aa dI) (.raw (.pointer (aa ⟨b,0,ag⟩)))) (I b 0)) /\
   (∀b i aM,I b i aM -> aM.t.getD dI .any = .raw (.pointer (aa ⟨b,0,ag⟩))/\dN<aM.t.length/\dM<aM.t.length) /\
   (∀b i c aM,s[i]?=aa c->I b i aM -> VB (sN nxt (yl out (I b (i+1)) Q)) ((aM.put (aa dN) (.bt [.bool ab,.int .i64 (i:Nat),.int .i32 (c.toNat:Nat)])).put (aa dM) (.bool ab))) /\
   (∀b aM,I b s.length aM -> Q .normal ((aM.put (aa dN) (.bt [.bool ak])).put (aa dM) (.bool ak)))) st) :
 jg P (.seq (.region i0 ly ak) (.block out (.loop (.seq (.region i1 lz ak) (.seq (.cond (.tmp dM) .skip (.exit out)) (.block nxt cb)))))) Q st:=by
 intro E a hs;refine wp_seq (wp_region ?_);have cW:ly.size=os.length+1:=by rw[<-BM,h0];simp
 have uo:∀j:Nat,ly[j]?=(os++[oR])[j]?:=λj=>by rw[<-h0];simp
 rw[vj,cW,List.range'_concat,show 0+1*os.length=os.length by omega];refine N1 (rest:=[os.length]) (K:=_) (E0:=E) ?_ os l0 0 hl ?_ E st a hs (Fr.refl E) h
 .rintro E1 nU a1 pW Cv ⟨s,L1,LM,I,hU,CO,LU,db⟩;have ho:ly[os.length]?=aa oR:=by rw[uo];simp
  simp only[wpOps,ho];rw[aE (by simp[Region.wanted,hRg])];left;have gj:=nK (E:=E1) (st:=nU) (a:=a1) pW.slot hx;rw[L1] at gj;simp only[R] at gj;have dc:(execOp a1.eval oR).run P E1.w = .ok (.value (.pointer (aa ⟨E1.w.heap.size,0,ag⟩))) (E1.w.alloc (.stringIter ⟨s.toArray⟩ 0)):=by simp[execOp,hR,gj,asv ht]
  unfold Oper.wp;rw[dc];simp only[Oper.upon,hRd];obtain⟨f2,s2,r2,b2⟩:=aog (s:=⟨s.toArray⟩) (p:=0) pW;have s3:bH (E1.mT (.stringIter ⟨s.toArray⟩ 0)) (nU.put (aa dI) (.raw (.pointer (aa ⟨E1.w.heap.size,0,ag⟩)))) (a1.put (aa dI) (.pointer (aa ⟨E1.w.heap.size,0,ag⟩))):=bH.put s2 (by simp[R]) (aa dI);obtain⟨E4,Yp,MH,Ey,Mv,Lr⟩:=hU E1.w.heap.size _ _ s3;have Ml:E1.w.heap.size<(E1.mT (.stringIter ⟨s.toArray⟩ 0)).w.heap.size:=(lC.1 b2).1;have ED:=Ey.same E1.w.heap.size Ml (.inr r2)
  have:=rounds (i1:=i1) (out:=out) (nxt:=nxt) (I:=I E1.w.heap.size) h1 hN LA LB hM Ly Lz Cv.size LM (CO E1.w.heap.size) (λi c aM hc hI=>hVB _ _ (LU E1.w.heap.size i c aM hc hI)) (db E1.w.heap.size) Mv ((Cv.trans f2).trans Ey) (ED.2.trans r2) (ED.1.trans b2) Lr
  rw[MH] at this;exact this
 .intro j hj;rw[jY,uo,tT hj]
def ari{P:Program}{c:Code}(h:jg P c (BV Q) st):jg P (.scope c) Q st:=by
 intro E a hs;refine wp_scope_straight (wp_mono (h E a hs) ?_);rintro e a' w' ⟨E',aM,rfl,h2,h3,h4⟩;cases e with
 | goto l=>exact h4.elim
 | _=>exact⟨E',aM,rfl,h2,h3,h4⟩
variable{h:Hint}
def anv{ud uK nxt i0:Nat}{y:Option AC}{z:AC}(hz:IE P h ly lz ud out uK nxt y=aa z)(ih:∀y',y=aa y' -> ∀(Q:Exit->St->Prop) (st:St),vc P y' Q st->jg P cb Q st)
 (Q:Exit->St->Prop) (st:St) (hv:vc P z Q st):jg P (.seq (.region i0 ly ak) (.block out (.loop (.seq (.region i1 lz ak) (.seq (.cond (.tmp ud) .skip (.exit uK)) (.block nxt cb)))))) Q st:=by
 unfold IE at hz;split at hz
 case h_2=>simp at hz
 rename_i oR oN oM y' hl h1;split at hz
 case h_2=>simp at hz
 rename_i xt ox dI RZ dN R0 dM g1 g2 g3 g4 g5 g6 g7 g8 g9;split at hz
 case h_2=>simp at hz
 rename_i l x k1 k2 k3;split at hz
 case isFalse=>simp at hz
 rename_i he;obtain⟨rfl,rfl,rfl,rfl⟩:=he;simp only[a9] at hz;subst hz;have h0:ly.toList=ly.toList.dropLast++[oR]:=by
  obtain⟨ys,qC⟩:=List.getLast?_eq_some_iff.1 hl;rw[qC];simp
 exact arf (VB:=vc P y') h0 g1 g2 g3 k1 k2 k3 h1 g4 g5 g6 g7 g8 g9 (ih y' rfl) hv
def anr{a b:Code}{z:AC}(hz:gl P h (.seq a b)=aa z):(∃x y,gl P h a=aa x/\gl P h b=aa y/\z = .seq x y) \/
 (∃i0 ly out i1 lz ud uK nxt cb,a = .region i0 ly ak/\b = .block out (.loop (.seq (.region i1 lz ak) (.seq (.cond (.tmp ud) .skip (.exit uK)) (.block nxt cb))))/\IE P h ly lz ud out uK nxt (gl P h cb)=aa z):=by
 have gen:(match gl P h a,gl P h b with | some x,aa y=>aa (AC.seq x y) | _,_=>ag)=aa z->∃x y,gl P h a=aa x/\gl P h b=aa y/\z = .seq x y:=by
  intro e;split at e
  .rename_i x y hx hy;simp only[a9] at e;exact⟨x,y,hx,hy,e.symm⟩
  .simp at e
 unfold gl at hz;split at hz
 all_goals (try (exfalso;simp_all;done))
 .rename_i heq;simp only[Code.seq.injEq] at heq;obtain⟨rfl,rfl⟩:=heq;split at hz
  .rename_i r hr;exact .inr ⟨_,_,_,_,_,_,_,_,_,rfl,rfl,by rw[hr];exact hz⟩
  .exact .inl (gen hz)
 .rename_i heq;simp only[Code.seq.injEq] at heq;obtain⟨rfl,rfl⟩:=heq;exact .inl (gen hz)
def x8{h:Hint}:∀(c:Code) (x:AC),gl P h c=aa x->∀(Q:Exit->St->Prop) (st:St),vc P x Q st->jg P c Q st
 | .skip,x,hl,Q,st,h=>by simp only[gl,a9] at hl;subst hl;exact ark h
 | .region id ops ak, x, hl, Q, st, h => by
  simp only[gl,dk] at hl;obtain⟨l,hl,rfl⟩:=hl;refine Jt (λQ st h E a hs=>?_) _ Q st h;refine wp_region ?_
  have:=N1 (P:=P) (ops:=ops) (K:=Q .normal) (E0:=E) (Q:=λe a' w' => ∃E' aM,E'.w=w' /\ bH E' aM a' /\ Fr E E' /\ Q e aM) (rest:=[]) (λE' aM a' h1 h2 h3=>⟨E',aM,rfl,h1,h2,h3⟩) ops.toList l 0 hl (λj _=>by simp) E st a hs (Fr.refl E) h
  rw[vj];simpa using this
 | .region id ops ab, x, hl, Q, st, h => by
  simp only[gl] at hl;split at hl
  .rename_i l iq;simp only[a9] at hl;subst hl;refine Jt (λQ st h=>?_) _ Q st h;exact Om (adY iq h) λe aM ⟨h1,h2⟩=>by subst h1;exact h2
  .split at hl
   .rename_i p iq;obtain⟨l,hi⟩:=p;simp only[a9] at hl;subst hl;refine Jt (λQ st h=>?_) _ Q st h;exact Om (ak4 iq h) λe aM ⟨h1,h2⟩=>by subst h1;exact h2
   .simp only[dk] at hl;obtain⟨⟨nv,l⟩,hl,rfl⟩:=hl;refine Jt (λQ st h=>?_) _ Q st h;obtain⟨t,h1,h2⟩:=h;obtain⟨_,k2,_,k4⟩:=QL h1;intro E a hs
    have:=adW (st:=⟨t,st.aD,st.out⟩) (id:=id) hl k2 h2 E a ⟨hs.ok,hs.dh,hs.defers,k4 E _ hs.slot⟩
    exact wp_mono this λe a' w' ⟨E',aM,m1,m2,m3,m4,m5⟩=>⟨E',aM,m1,m2,m3,by subst m4;exact m5⟩
 | .seq a b, x, hl, Q, st, h => by
  rcases anr hl with ⟨y,z,hy,hz,rfl⟩ | ⟨i0,ly,out,i1,lz,ud,uK,nxt,cb,rfl,rfl,hz⟩
  .refine arj (Om (x8 a y hy _ st h) λe aM he=>?_);cases e with
   | normal=>exact x8 b z hz Q aM he
   | _=>exact he
  .exact anv hz (λy' hy=>x8 cb y' hy) Q st h
 | .cond c a b, x, hl, Q, st, h => by
  simp only[gl] at hl;split at hl
  case h_2=>simp at hl
  rename_i ax y z hx hy hz;simp only[a9] at hl;subst hl;simp only[vc] at h;split at h
  case h_2=>exact h.elim
  rename_i b' hb;intro E ac hs;have hR:=nK (E:=E) (st:=st) (a:=ac) hs.slot hx;rw[hb] at hR;simp only[R] at hR;exact wp_cond_split hR (λht=>x8 a y hy Q st (h.1 ht) E ac hs) (λht=>x8 b z hz Q st (h.2 ht) E ac hs)
 | .block id a, x, hl, Q, st, h => by
  simp only[gl,dk] at hl;obtain⟨y,hy,rfl⟩:=hl;exact arb (x8 a y hy _ st h)
 | .loop a, x, hl, Q, st, h => by
  simp only[gl,dk] at hl;obtain⟨y,hy,rfl⟩:=hl;obtain⟨ι,I,μ,h0,hr⟩:=h;exact are I μ h0 λi=>x8 a y hy _ (I i) (hr i)
 | .exit id,x,hl,Q,st,h=>by simp only[gl,a9] at hl;subst hl;exact arc h
 | .ret,x,hl,Q,st,h=>by simp only[gl,a9] at hl;subst hl;exact arh h
 | .label l,x,hl,Q,st,h=>by simp only[gl,a9] at hl;subst hl;exact ard h
 | .goto l,x,hl,Q,st,h=>by simp[gl] at hl
 | .scope a, x, hl, Q, st, h => by
  simp only[gl,dk] at hl;obtain⟨y,hy,rfl⟩:=hl;exact ari (x8 a y hy _ st h)
 | .refuse w,x,hl,Q,st,h=>by simp[gl] at hl
 | .rangeFunc f p a b,x,hl,Q,st,h=>by simp[gl] at hl
inductive RV where
 | tmp (t:Nat)
 | cell (t:Nat) (agg:Bool) (n:Nat)
def NC(P:Program):ResultVar->Option RV
 | .tmp t=>aa (.tmp t)
 | .cell a t=>match iw P t,eD P t with | some g,aa n=>aa (.cell a g n) | _,_=>ag
def Ba(P:Program):List ResultVar->Option (List RV)
 | []=>aa []
 | r::rs=>(NC P r).bind λx=>(Ba P rs).map (x::·)
def rv(st:St):RV->Option V
 | .tmp t=>aa (st.t.getD t .any)
 | .cell t g n=>lO st g n (st.t.getD t .any)
def uR(st:St):List RV->Option (List V)
 | []=>aa []
 | r::rs=>(rv st r).bind λx=>(uR st rs).map (x::·)
def uJ:List V->V
 | [x]=>x
 | xs=>.bt xs
def af.sub(σ' D:af):Prop:=(∀b cs,σ'.box b=aa cs->D.box b=aa cs)/\(∀t n,σ'.aP t=aa n->D.aP t=aa n)/\∀b cs,σ'.b9 b=aa cs->D.b9 b=aa cs
def af.bg(D:af):D.sub D:=⟨λ_ _ h=>h,λ_ _ h=>h,λ_ _ h=>h⟩
def n8(R' : V->af->Prop)(st:St):V->Prop:=λv=>v.cY=ab/\∃(σ' : af) (w:V),σ'.sub st.out/\(w=v.erase\/w=v)/\R' w σ'
def DU(rs:List RV)(R' : V->af->Prop):Exit->St->Prop
 | .normal,st | .ret,st=>opt ((uR st rs).map uJ) (n8 R' st)
 | _,_=>False
def XB{E:Env}{st:St}{a:Act}(hs:bH E st a):∀{rs:List ResultVar} {ys:List RV} {vs:List V},Ba P rs=aa ys->uR st ys=aa vs ->
 ∃us:List Value,(rs.mapM λ| .tmp t=>pure (a.tmps.getD t undef) | .cell ad t=>do loadVar t (<-asAddr (a.tmps.getD ad undef)):Sem (List Value)).run P E.w = .ok us E.w/\RL E vs us
 | [], ys, vs, h1, h2 => by
  simp only[Ba,a9] at h1;subst h1;simp only[uR,a9] at h2;subst h2;exact⟨[],by simp,by simp[RL]⟩
 | r :: rs, ys, vs, h1, h2 => by
  simp only[Ba,iI,dk] at h1;obtain⟨y,hy,Zl,qC,rfl⟩:=h1;simp only[uR,iI,dk] at h2;obtain⟨v,hv,Dt,CS,rfl⟩:=h2;obtain⟨us,k1,k2⟩:=XB hs qC CS;cases r with
  | tmp t =>
   simp only[NC,a9] at hy;subst hy;simp only[rv,a9] at hv;subst hv;have hR:=Ce hs.slot t;refine⟨a.tmps.getD t undef::us,?_,by simp only[RL];exact⟨hR,k2⟩⟩;rw[List.mapM_cons];simp only[Sem.run_bind,Sem.run_pure,Result.andThen_ok,k1]
  | cell ad t =>
   simp only[NC] at hy;split at hy
   case h_2=>simp at hy
   rename_i g n hg hn;simp only[a9] at hy;subst hy;simp only[rv] at hv;have hR:=Ce hs.slot ad;have oD : R E (st.t.getD ad .any) (a.tmps.getD ad undef):=hR;obtain⟨b,off,cs,e1,e2,e3⟩:=U6 hs hv oD;obtain⟨u,e4,e5⟩:=run_load (P:=P) hg hn e2 e3;refine⟨u::us,?_,by simp only[RL];exact⟨e5,k2⟩⟩;rw[List.mapM_cons];have e6:((do loadVar t (<-asAddr (a.tmps.getD ad undef)):Sem Value)).run P E.w = .ok u E.w:=by
    rw[e1];simp only[asAddr,Sem.run_bind,Sem.run_pure,Result.andThen_ok,e4]
   rw[Sem.run_bind];show((do loadVar t (<-asAddr (a.tmps.getD ad undef)):Sem Value).run P E.w).andThen _=_;rw[e6,Result.andThen_ok,Sem.run_bind,k1,Result.andThen_ok,Sem.run_pure]
variable{f:FuncId}{fn:Func}
def aeG(hf:P.funcs[f]?=aa fn)(hn:(fn.name == "runtime.NumGoroutine")=ak)(hb:fn.body.isNone=ak):P1 P f:=λargs w=>by
 have cc : fn.body.isNone=false:=hb;simp only[callFunc,Sem.run_bind,run_program,Result.andThen_ok,hf];split
 .rename_i h;simp[hn] at h
 .split
  .rename_i h;simp at h;rw[h] at cc;simp at cc
  .rfl
def aqx{c:Code}{x:AC}{rs:List RV}(hf:P.funcs[f]?=aa fn)(akW:(fn.name == "runtime.NumGoroutine")=ak)(hb:fn.body=aa c)(hl:gl P h c=aa x)(hr:Ba P fn.results.toList=aa rs)
 {n:Nat} (hn:fn.ntmps=n) {args:List V} {D:af} {R' : V->af->Prop} (hv:vc P x (DU rs R') ⟨args++ar (n - args.length) .any,[],D⟩):cz P f args D R' := by
 refine⟨aeG hf akW (by rw[hb];rfl),λE vs Mi cu LK=>?_⟩;refine calls_of_wp hf hb ?_;have hlen:=gh LK;have hs:bH E ⟨args++ar (n - args.length) .any,[],D⟩ {tmps:=vs++Array.replicate (fn.ntmps - vs.size) undef,defers:=[]}:=by
  refine⟨cu,⟨λi cs h=>by simp at h,λi _=>Mi i⟩,rfl,?_⟩;simp only[Array.toList_append,Array.toList_replicate];refine vn LK ?_;rw[hn,show args.length=vs.size from by simpa using hlen]
  have:=Qx (E:=E) (ar (n - vs.size) undef)
  simpa using this
 refine wp_mono (x8 c x hl _ _ hv E _ hs) ?_;rintro e a' w' ⟨E',aM,rfl,dL,bj,hq⟩;have fin:opt ((uR aM rs).map uJ) (n8 R' aM)->a'.defers=[]/\∃v,(results fn a'.tmps).run P E'.w = .ok v E'.w /\
  ∃v' x ni σ',Ending.returned v = .returned x/\ni.w=E'.w/\(∀i,ni.aD i=ag)/\ni.ok σ' /\ R ni v' x/\Fr E ni /\ R' v' σ' := λhq=>by
  refine⟨dL.defers,?_⟩;unfold opt at hq;split at hq
  case h_2=>exact hq.elim
  rename_i v hv;simp only[dk] at hv;obtain⟨Dt,CS,rfl⟩:=hv;obtain⟨us,k1,k2⟩:=XB (P:=P) dL hr CS;obtain⟨pR,σ',w,qy,hw,oD⟩:=hq;have fE:∃u,(results fn a'.tmps).run P E'.w = .ok u E'.w/\R E' (uJ Dt) u:=by
   have bx:(results fn a'.tmps).run P E'.w = .ok (if h:us.toArray.size=1 then us.toArray[0] else .tuple us.toArray) E'.w:=by
    unfold results;rw[<-Array.toArray_toList (xs:=fn.results),List.mapM_toArray];simp only[Sem.run_bind,Sem.run_map]
    erw [k1]
    simp only[Result.andThen_ok,Sem.run_pure]
   refine⟨_,bx,?_⟩;have lh:=gh k2
   match Dt,us,k2 with
   | [y], [u], k2 =>
    simp only[RL] at k2;simp[uJ,k2.1]
   | [],[],k2=>simp[uJ,R];exact k2
   | y :: z :: ys, u :: u' :: mE, k2 =>
    simp only[uJ];rw[dif_neg (by simp)];simp only[R];exact⟨_,rfl,by simpa using k2⟩
  obtain⟨u,hu,TB⟩:=fE
  let ni : Env:={E' with aD:=λ_=>ag,bf:=λb=>match E'.bf b with | .jb _=>.mP | r=>r}
  have dU:∀b,ni.bf b=match E'.bf b with | .jb _=>.mP | r=>r:=λ_=>rfl
  have akt:∀b o,(ni.bf b).iJ o↔(E'.bf b).iJ o:=λb o=>by rw[dU];cases E'.bf b<;>simp[fw.iJ]
  have Mg:∀b t c,E'.bf b = .gU t c->ni.bf b = .gU t c:=λb t c h=>by rw[dU,h]
  have hle:E'.nl.le ni.nl:=⟨λb o _ hc hv=>⟨(akt b o).2 hc,hv⟩,λ_ _ h=>by simp at h,λt n hn=>⟨n,hn,bS _,λ_ b c hb=>⟨Mg b t c hb,λcs _ hc=>⟨cs,hc,rfl⟩⟩⟩⟩;have yU : Fr E' ni := by
   refine⟨rfl,rfl,rfl,bS _,λ_=>rfl,hle.cell,hle.tok,λb _ hr=>⟨rfl,?_⟩,λb _ h=>?_,λb t c _ h=>?_,λb i _ h=>?_,λ_ c _ h=>⟨c,h,rfl⟩⟩
   .rw[dU];rcases hr with hr | hr<;>rw[hr]
   .rw[dU] at h;cases hq:E'.bf b<;>rw[hq] at h<;>simp at h;exact .inl rfl
   .rw[dU] at h;cases hq:E'.bf b<;>rw[hq] at h<;>simp at h;exact⟨_,by rw[h.1]⟩
   .rw[dU] at h;cases hq:E'.bf b<;>rw[hq] at h<;>simp at h
  refine⟨u,hu,w,u,ni,σ',rfl,rfl,λ_=>rfl,⟨λb cs bV=>?_,λt m ht=>dL.ok.aP t m (qy.2.1 t m ht),λb hb=>?_,dL.ok.nt,λb cs hc=>eG.mono _ hle (dL.ok.b9 b cs (qy.2.2 b cs hc))⟩,?_,bj.trans yU,oD⟩
  .obtain⟨h1,h2⟩:=dL.ok.box b cs (qy.1 b cs bV);exact⟨by rw[dU,h1],h2.mono hle rfl⟩
  .rw[dU,dL.ok.fresh b hb]
  .rcases hw with rfl | rfl
   .exact R.erase _ (TB.p7 _ hle pR)
   .exact TB.p7 _ hle pR
 cases e with
 | normal=>exact fin hq
 | ret=>exact fin hq
 | _=>exact hq.elim
end
structure aU(P:Program)(f:FuncId)(x:AC)(rs:List RV)(n:Nat):Prop where
 is:∃fn h,P.funcs[f]?=aa fn/\(fn.name == "runtime.NumGoroutine")=ak/\fn.body.bind (gl P h)=aa x/\Ba P fn.results.toList=aa rs/\fn.ntmps=n
def aS(n:Nat)(args:List V):List V:=args++ar (n - args.length) .any
variable{f:FuncId}
def aU.aT{x:AC}{rs:List RV}{n:Nat}(h:aU P f x rs n){args:List V}{D:af}{R' : V->af->Prop}(hv:vc P x (DU rs R') ⟨aS n args,[],D⟩):cz P f args D R' := by
 obtain⟨fn,hi,h1,h2,h3,h4,h5⟩:=h.is;simp only[iI] at h3;obtain⟨c,hb,hl⟩:=h3;exact aqx h1 h2 hb hl h4 h5 hv
end Go.Am
