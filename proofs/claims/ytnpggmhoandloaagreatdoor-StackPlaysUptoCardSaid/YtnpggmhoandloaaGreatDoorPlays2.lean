/-
  Part 2 of the proof of StackPlaysUptoCardSaid: a logic over the model, the forms of the functions that the law reaches, and what they compute.
-/
import Derived.Lib.Bytealg
import Derived.Laws.Pointers
import Derived.Scope
import Derived.Test.YtnpggmhoandloaaGreatDoorPlays1
set_option linter.unusedVariables false
set_option linter.unusedSimpArgs false
set_option linter.defProp false
set_option linter.unusedSectionVars false
set_option maxRecDepth 4000
set_option maxHeartbeats 4000000
open Option renaming some->U,none->ah
open Bool renaming true->aa,false->aq
open List renaming replicate->aj,range->bH,zipWith->ng
open Eq renaming mpr->fF
open Ne renaming symm->gM
namespace Go.Am
theorem I5{P:Program}{SN:List dZ}{p:Nat->DI->Bool}{S:Nat->Bool}:∀{l:List (AO × List Nat)} {b:List Nat} {tr:List TR} {t:List V} {s:dZ} {i:Nat},AL P SN l tr t s->b.length=l.length ->
 (∀(j:Nat) x,l[j]?=U x->x.1.op.bB=aa->S (i+j)=p (i+j) (gE x (b.getD j 0)))->cW S i tr=(((ng gE l b).zipIdx i).filter λ(x,j)=>x.bB&&p j x).length
 | [],b,[],_,_,_,_,_,_=>by simp[cW]
 | [],_,_::_,_,_,_,h,_,_=>h.elim
 | (_,_)::_,_,[],_,_,_,h,_,_=>h.elim
 | (o,ms)::l,[],_::_,_,_,_,_,hb,_=>by simp at hb
 | (o, ms) :: l, m :: b, r :: tr, t, s, i, h, hb, hp => by
  have ih:=I5 (p:=p) (S:=S) (i:=i+1) h.2 (by simpa using hb) λj x hx he=>by
   have:=hp (j+1) x (by simpa using hx) he
   grind
  have he:r.bB=o.op.bB:=h.1.2.1;have h0:o.op.bB=aa->S i=p i (gE (o,ms) m):=λhe=>by simpa using hp 0 (o,ms) (by simp) he
  simp only[cW,List.zipWith_cons_cons,List.zipIdx_cons,DU];rw[ih];have hd:(gE (o,ms) m).bB=o.op.bB:=rfl;cases hq:o.op.bB
  .grind
  .grind
section
variable {P:Program} {ops:Array Oper} {l:List (AO × List Nat)} {b:List Nat} {SN:List dZ} {tr:List TR} {t0:List V} {s0:dZ}
structure FN(ops:Array Oper)(tr:List TR)(t0:List V)(s0:dZ)(E0:Env)(X:Array Bool->Env->Act->Prop)(listed:Array Bool)(a:Act)(w:World):Prop where
 size:listed.size=ops.size
 closed:∀(i:Nat) o,ops[i]?=U o->listed.getD i aq=aa->∀e∈o.after,Region.binds .any e=aa->listed.getD e.on aq=aa
 rel:∃E,E.w=w/\bS E (cG (runT (di (λj=>listed.getD j aq) 0 tr) t0) (eW (di (λj=>listed.getD j aq) 0 tr) s0)) a/\Fr E0 E/\X listed E a
theorem MP(F:B5 ops l b){S:Nat->Bool}(hc:∀(i:Nat) o,ops[i]?=U o->S i=aa->∀e∈o.after,Region.binds .any e=aa->S e.on=aa):
 ∀(n i:Nat),i<n->i<ops.size->S i=aa->∀j,(b.getD i 0).testBit j=aa->S j=true:=by
 intro n;induction n with
 | zero=>intro i h;omega
 | succ n ih =>
  intro i hi az hS j hj;obtain⟨e,h1,h2,h3⟩:=F.mask i ops[i] (pE az) j hj;have he:=hc i _ (pE az) hS e h1 h2;have hb:=F.back i _ (pE az) e h1 h2
  grind
def Wh(listed:Array Bool)(i:Nat)(h:i<listed.size):listed.getD i aa=listed.getD i false:=by simp[h]
def Spec(P:Program)(l:List (AO × List Nat))(b:List Nat)(t0:List V)(E0:Env)(X:Array Bool->Env->Act->Prop)(i:Nat)(o:Oper)(ao:AO):Prop :=
 o.guard=ah/\ao.guard=ah/\∀(E:Env) (a:Act) (t:List V) (s:dZ) (v:V) (s' : dZ) (listed:Array Bool) (Q:Exit->Act->World->Prop),i<listed.size->listed.getD i aq=aq->(∀j,(b.getD i 0).testBit j=aa->listed.getD j aq=aa) ->
  (∀j,j<b.length->(b.getD j 0).testBit i=aa->listed.getD j aq=aq)->(∀d,(∀(j:Nat) x,l[j]?=U x->x.1.dst=U d->listed.getD j aq=aq)->t.getD d .any=t0.getD d .any) ->
  bS E (cG t s) a->Fr E0 E->X listed E a->ao.op.bN P (cG t s) (Exact t v s') ->
  o.wp P a E.w (λa' w' => ∃E',E'.w=w' /\ bS E' (cG (l6 t ao.dst v) s') a' /\ Fr E0 E' /\ X (listed.setIfInBounds i aa) E' a') Q
theorem Ve(F:B5 ops l b)(pW:b.length=ops.size)(wE:SN=s0::mg tr)(ht:AL P SN l tr t0 s0)
 {E0:Env} {X:Array Bool->Env->Act->Prop} {Q:Exit->Act->World->Prop} {listed:Array Bool} {a:Act} {w:World} (h:FN ops tr t0 s0 E0 X listed a w) {i:Nat} (hi:i∈Region.ready .any ops listed)
 (zB:∀o,ops[i]?=U o->∃x:AO × List Nat,l[i]?=U x/\((wS P ops o=U x.1/\∀listed E E' a u,X listed E a->Fr E E' -> X (listed.setIfInBounds i aa) E' (a.put o.dst u))\/Spec P l b t0 E0 X i o x.1)) {K:Act->World->Prop}
 (hK:∀a w,FN ops tr t0 s0 E0 X (listed.setIfInBounds i aa) a w->K a w):wpOp P ops Q i K a w:=by
 obtain⟨EJ,o,ho,dd⟩:=mem_ready.1 hi;have az:i<ops.size:=(mX.1 ho).1;have p7 : i<listed.size:=by grind
 obtain⟨E,rfl,hs,bC,hX⟩:=h.rel
 let S:Nat->Bool:=λj=>listed.getD j aq
 have N5:S i=false:=by grind
 obtain⟨x,hx,OI⟩:=zB o ho;obtain⟨ao,ms⟩:=x;have hlen:=IJ ht;have amr:i<tr.length:=by grind
 obtain⟨r,hr⟩:∃r,tr[i]?=U r:=⟨tr[i],bY amr⟩;have fM:=IK (i:=0) (k:=i) ht hx hr;rw[mc] at fM;obtain⟨hd,he,run,Ey,e9,amh⟩:=fM
 -- who is done,who is not
 have Ew:∀j,(b.getD i 0).testBit j=aa->S j=true:=λj hj=>by
  obtain⟨e,h1,h2,h3⟩:=F.mask i o ho j hj;have hb:=dd e h1 h2
  rcases h3 with rfl | h3
  .exact hb
  .exact MP F (S:=S) h.closed ops.size e.on (by have:=F.back i o ho e h1 h2;omega) (by have:=F.back i o ho e h1 h2;omega) hb j h3
 have GH:∀j,j<ops.size->(b.getD j 0).testBit i=aa->S j=false:=λj hj hb=>by
  cases hq:S j with
  | false=>rfl
  | true =>
   have:=MP F (S:=S) h.closed ops.size j hj hj hq i hb
   grind
 have zq:∀(j:Nat) r',tr[j]?=U r' -> ∃y,l[j]?=U y/\r'.dst=y.1.dst/\r'.bB=y.1.op.bB/\j<ops.size:=λj r' dt => by
  have hj:=(kG.1 dt).1;have uq:j<l.length:=by omega
  have:=IK (i:=0) (k:=j) ht (bY uq) dt
  exact⟨l[j],bY uq,this.1,this.2.1,by rw[<-F.size];exact uq⟩
 -- what it reads is what it read in the text's order
 have EH:∀n,n∈Dz ao->(runT (di S 0 tr) t0).getD n .any=(runT (di (fC i) 0 tr) t0).getD n .any:=λn hn=>by
  refine BR rfl rfl λj r' dt hd' => ?_
  rw[mc];obtain⟨y,hy,C1,_,nK⟩:=zq j r' dt;obtain⟨bf,kU⟩:=F.slot i j (ao,ms) y hx hy n (by rw[<-C1];exact hd') hn
  rcases Cb j i with iG | iG
  .have hu:fC i j=true:=by simp[fC,iG]
   rw[hu]
   rcases kU with h1 | h1
   .exact Ew j h1
   .exfalso
    obtain⟨e,k1,k2,k3⟩:=F.mask j _ (pE nK) i h1
    have:=F.back j _ (pE nK) e k1 k2
    have key:∀n q,q<n->q<ops.size->∀z,(b.getD q 0).testBit z=aa->z<q:=by
     intro n;induction n with
     | zero=>intro q h;omega
     | succ n ih =>
      intro q hq G2 z hz;obtain⟨e',m1,m2,m3⟩:=F.mask q _ (pE G2) z hz;have cF := F.back q _ (pE G2) e' m1 m2
      rcases m3 with rfl | m3
      .exact cF
      .have:=ih e'.on (by omega) (by omega) z m3;omega
    have:=key (j+1) j (by omega) nK i h1
    omega
  .have hu:fC i j=false:=by simp[fC];omega
   rw[hu]
   rcases kU with h1 | h1
   .exfalso
    have key:∀n q,q<n->q<ops.size->∀z,(b.getD q 0).testBit z=aa->z<q:=by
     intro n;induction n with
     | zero=>intro q h;omega
     | succ n ih =>
      intro q hq G2 z hz;obtain⟨e',m1,m2,m3⟩:=F.mask q _ (pE G2) z hz;have cF := F.back q _ (pE G2) e' m1 m2
      rcases m3 with rfl | m3
      .exact cF
      .have:=ih e'.on (by omega) (by omega) z m3;omega
    have:=key (i+1) i (by omega) az j h1
    omega
   .exact GH j nK h1
 -- memory
 have yb:∀T:Nat->Bool,(∀(j k:Nat),j<ops.size->k<ops.size->(∀y z,l[j]?=U y->l[k]?=U z->y.1.op.bB=aa->z.1.op.bB=aa->j<k->T k=aa->T j=aa)) ->
  eW (di T 0 tr) s0=SN.getD (cW T 0 tr) Fz:=λT hT=>by
  rw[wE];refine abb λj k r1 r2 h1 h2 e1 e2 CL hk=>?_
  obtain⟨y,hy,_,ye,nK⟩:=zq j r1 h1;obtain⟨z,hz,_,ze,fT⟩:=zq k r2 h2;rw[mc] at hk ⊢;exact hT j k nK fT y z hy hz (by rw[<-ye];exact e1) (by rw[<-ze];exact e2) CL hk
 have JG:∀(j k:Nat),j<ops.size->k<ops.size->(∀y z,l[j]?=U y->l[k]?=U z->y.1.op.bB=aa->z.1.op.bB=aa->j<k->S k=aa->S j=aa):=λj k _ hk y z hy hz e1 e2 CL Eu =>
  MP F (S:=S) h.closed ops.size k hk hk Eu j (F.bB j k y z hy hz CL e1 e2)
 have O8:∀q (j k:Nat),j<ops.size->k<ops.size->(∀y z,l[j]?=U y->l[k]?=U z->y.1.op.bB=aa->z.1.op.bB=aa->j<k->fC q k=aa->fC q j=aa):=λq j k _ _ _ _ _ _ _ _ CL hk=>by
  simp[fC] at hk ⊢;omega
 have Xx:ao.op.bB=aa->eW (di S 0 tr) s0=eW (di (fC i) 0 tr) s0:=λvv=>by
  rw[yb S JG,yb (fC i) (O8 i)];congr 1;refine I6 λj r' dt Bl=>?_
  rw[mc];obtain⟨y,hy,_,ye,nK⟩:=zq j r' dt
  rcases Mi j i with iG | iG | iG
  .have:fC i j=true:=by simp[fC,iG]
   rw[this];exact Ew j (F.bB j i y (ao,ms) hy hx iG (by rw[<-ye];exact Bl) vv)
  .subst iG
   have:fC j j=false:=by simp[fC]
   rw[this];exact N5
  .have:fC i j=false:=by simp[fC];omega
   rw[this];exact GH j nK (F.bB i j (ao,ms) y hx hy iG vv (by rw[<-ye];exact Bl))
 -- the next state
 have N9:(λj=>(listed.setIfInBounds i aa).getD j aq)=add S i:=by
  funext j;simp only[add,S]
  by_cases iG:j=i
  .subst iG;simp[p7]
  .rw[tV,DO (gM iG),<-tV];simp[iG]
 have hT:runT (di (add S i) 0 tr) t0=l6 (runT (di S 0 tr) t0) r.dst r.val :=
  abd (by omega) (by simpa using hr) N5 λj r' dt bf n hn GV => by
   obtain⟨y,hy,C1,_,_⟩:=zq j r' dt;exact F.dst j i y (ao,ms) hy hx (by omega) n (by rw[<-hd];exact hn) (by rw[<-C1];exact GV)
 have aln:∀(j k:Nat),j<ops.size->k<ops.size->(∀y z,l[j]?=U y->l[k]?=U z->y.1.op.bB=aa->z.1.op.bB=aa->j<k->add S i k=aa->add S i j=aa):=λj k hj hk y z hy hz e1 e2 CL Eu=>by
  simp only[add,qx,cU] at Eu ⊢
  rcases Eu with Eu | rfl
  .exact .inl (JG j k hj hk y z hy hz e1 e2 CL Eu)
  .exact .inl (Ew j (F.bB j k y z hy hz CL e1 e2))
 have N7:eW (di (add S i) 0 tr) s0=if ao.op.bB then r.BU else eW (di S 0 tr) s0:=by
  rw[yb (add S i) aln];cases vv:ao.op.bB
  .simp only[dK,cz];rw[yb S JG];congr 1;refine I6 λj r' dt Bl=>?_
   rw[mc];obtain⟨y,hy,_,ye,_⟩:=zq j r' dt;have iG:j≠i:=by
    rintro rfl;rw[hx] at hy;simp at hy;subst hy;rw[ye,vv] at Bl;simp at Bl
   simp[add,iG]
  .simp only[db];have h1:cW (add S i) 0 tr=cW (fC (i+1)) 0 tr:=I6 λj r' dt Bl=>by
    rw[mc];obtain⟨y,hy,_,ye,nK⟩:=zq j r' dt
    rcases Mi j i with iG | iG | iG
    .have:fC (i+1) j=true:=by simp[fC];omega
     rw[this]
     have:=Ew j (F.bB j i y (ao,ms) hy hx iG (by rw[<-ye];exact Bl) vv)
     simp[add,this]
    .subst iG;simp[add,fC]
    .have:fC (i+1) j=false:=by simp[fC];omega
     rw[this]
     have:=GH j nK (F.bB i j (ao,ms) y hx hy iG vv (by rw[<-ye];exact Bl))
     simp[add,this];omega
   rw[h1,<-yb (fC (i+1)) (O8 (i+1))];have axV : fC (i+1)=add (fC i) i:=by
    funext j;simp only[fC,add];rw[tW];simp;omega
   -- the run up to and with i
   have key:∀(tr:List TR) (q:Nat) (s:dZ),q<=i->tr[i - q]?=U r->eW (di (fC (i+1)) q tr) s=r.BU:=by
    intro tr;induction tr with
    | nil=>intro q s _ h;simp at h
    | cons r' tr ih =>
     intro q s hq h;have hu:fC (i+1) q=true:=by simp[fC];omega
     simp only[di,hu,db,eW]
     by_cases hqi:q=i
     .subst hqi;simp at h;subst h;rw[RY (by omega)];simp[eW,he,vv]
     .exact ih (q+1) _ (by omega) (by rw[show i - q=(i - (q+1))+1 from by omega] at h;simpa using h)
   exact key tr 0 s0 (by omega) (by simpa using hr)
 -- the closure
 have alz : ∀(j:Nat) o',ops[j]?=U o' -> (listed.setIfInBounds i aa).getD j aq=aa->∀e∈o'.after,Region.binds .any e=aa->(listed.setIfInBounds i aa).getD e.on aq=true:=λj o' im hj e h1 h2=>by
  have ej:(listed.setIfInBounds i aa).getD j aq=add S i j:=congrFun N9 j;have ee:(listed.setIfInBounds i aa).getD e.on aq=add S i e.on:=congrFun N9 e.on;rw[ee];rw[ej] at hj;simp only[add,qx,cU] at hj ⊢
  rcases hj with hj | rfl
  .exact .inl (h.closed j o' im hj e h1 h2)
  .rw[ho] at im;simp only[bq] at im;subst im;exact .inl (dd e h1 h2)
 have Zf:∀E' a' t' s',E'.w=E'.w->t' = runT (di (add S i) 0 tr) t0->s' = eW (di (add S i) 0 tr) s0->bS E' (cG t' s') a' -> Fr E0 E' -> X (listed.setIfInBounds i aa) E' a' -> K a' E'.w:=λE' a' t' s' _ e1 e2 eG lQ uD => by
  refine hK a' E'.w ⟨by simp[h.size],alz,E',rfl,?_,lQ,uD⟩;rw[N9,<-e1,<-e2];exact eG
 -- the machine's step
 unfold wpOp;rw[ho];simp only;have al3:∀g n y,ao.op = .load g n y->run=aa->vR (eW (di S 0 tr) s0) g n (ev (cG (runT (di (fC i) 0 tr) t0) (eW (di (fC i) 0 tr) s0)) y)=U r.val:=λg n y hy mn=>by
  obtain⟨mq,zA⟩:=e9 mn;rw[yb S JG];have alY:ao.op.EV=true:=by rw[hy];rfl
  have hm:=F.load i (ao,ms) hx alY (cW S 0 tr);have al2 : rH (ng gE l b) (gE (ao,ms) (b.getD i 0))<=cW S 0 tr:=by
   have e:rH (ng gE l b) (gE (ao,ms) (b.getD i 0))=cW (λj=>(b.getD i 0).testBit j) 0 tr:=by
    unfold rH D';exact(I5 (p:=λj _=>(b.getD i 0).testBit j) (S:=λj=>(b.getD i 0).testBit j) ht (by rw[pW,F.size]) (λj y _ _=>rfl)).symm
   rw[e];exact MQ λj r' _ _ hb=>by rw[mc] at hb ⊢;exact Ew j hb
  have alU : cW S 0 tr<=Bf (ng gE l b) i:=by
   have e:Bf (ng gE l b) i=cW (λj=>!((b.getD j 0).testBit i)) 0 tr:=by
    unfold Bf D';exact(I5 (p:=λ_ y=>!(y.mask.testBit i)) (S:=λj=>!((b.getD j 0).testBit i)) ht (by rw[pW,F.size]) (λj y _ _=>by simp[gE])).symm
   rw[e];refine MQ λj r' dt _ N6=>?_
   rw[mc] at N6 ⊢;obtain⟨y,_,_,_,nK⟩:=zq j r' dt;cases hb:(b.getD j 0).testBit i with
   | false=>rfl
   | true=>rw[GH j nK hb] at N6;simp at N6
  rcases hm al2 alU with hm | hm
  .exact zA g n y hy _ hm
  .have e:Dq (ng gE l b) i=cW (fC i) 0 tr:=by
    unfold Dq D';exact(I5 (p:=λj _=>decide (j<i)) (S:=fC i) ht (by rw[pW,F.size]) (λj y _ _=>rfl)).symm
   rw[hm,e,<-yb (fC i) (O8 i)];rw[hy] at mq;simp only[a_.bN] at mq;rw[Yj] at mq;cases hq:vR (eW (di (fC i) 0 tr) s0) g n (ev (cG (runT (di (fC i) 0 tr) t0) (eW (di (fC i) 0 tr) s0)) y) with
   | none=>rw[hq] at mq;exact mq.elim
   | some u=>rw[hq] at mq;rw[mq.1]
 have uE:∀y∈ao.op.xs,ev (cG (runT (di S 0 tr) t0) (eW (di S 0 tr) s0)) y=ev (cG (runT (di (fC i) 0 tr) t0) (eW (di (fC i) 0 tr) s0)) y:=λy hy =>
  aiO λn hn=>EH n (by simp only[Dz,lk,FX];exact .inl ⟨y,hy,hn⟩)
 have Xu : run=aa->ao.op.bN P (cG (runT (di S 0 tr) t0) (eW (di S 0 tr) s0)) (Exact (runT (di S 0 tr) t0) r.val (if ao.op.bB then(if ao.op.bB then r.BU else eW (di (fC i) 0 tr) s0) else eW (di S 0 tr) s0)):=λmn =>
  aup (P:=P) (op:=ao.op) (t:=runT (di (fC i) 0 tr) t0) (t2:=runT (di S 0 tr) t0) (s:=eW (di (fC i) 0 tr) s0) (s2:=eW (di S 0 tr) s0) uE Xx (λg n y hy=>al3 g n y hy mn) (e9 mn).1
 rcases OI with ⟨OI,hXg⟩ | ami
 case' inr =>
  obtain⟨JW,zt,vK⟩:=ami;rw[aL (by simp[Region.wanted,JW])];left;have mn:run=true:=by rw[zt] at Ey;exact Ey
  have nQ:∀d,(∀(j:Nat) x,l[j]?=U x->x.1.dst=U d->listed.getD j aq=aq)->(runT (di S 0 tr) t0).getD d .any=t0.getD d .any:=λd hd=>by
   have h1:=BR (S:=S) (S' := λ_=>aq) (x:=d) (tr:=tr) (i:=0) (t:=t0) (t' := t0) rfl rfl λj r' dt hrd=>by
    obtain⟨y,hy,C1,_,_⟩:=zq j r' dt;rw[mc];exact hd j y hy (by rw[<-C1];exact hrd)
   rw[h1]
   have:∀(tr:List TR) (q:Nat),di (λ_=>aq) q tr=[]:=by
    intro tr;induction tr with
    | nil=>intro q;rfl
    | cons r tr ih=>intro q;simp only[di,dK,cz];exact ih _
   rw[this];rfl
  refine Oper.wp_mono ?_ (vK E a _ _ _ _ listed Q p7 N5 Ew (λj hj=>GH j (by omega)) nQ hs bC hX (Xu mn));rintro a' w' ⟨E',rfl,eG,lQ,uD⟩;refine Zf E' a' _ _ rfl ?_ ?_ eG lQ uD
  .rw[hT,hd]
  .rw[N7];cases vv:ao.op.bB<;>simp
 have next:∀E' u t' s',t' = runT (di (add S i) 0 tr) t0->s' = eW (di (add S i) 0 tr) s0->bS E' (cG t' s') (a.put o.dst u)->Fr E E' -> K (a.put o.dst u) E'.w:=λE' u t' s' e1 e2 eG lQ => Zf E' _ t' s' rfl e1 e2 eG (bC.trans lQ) (hXg _ _ _ _ _ hX lQ)
 have fX:=OI;unfold wS at fX;split at fX
 .simp at fX
 rename_i op nN;have amu:Region.wanted o (yielded ops a.tmps)=run/\op=ao.op/\o.dst=ao.dst:=by
  cases hg:o.guard with
  | none =>
   rw[hg] at fX;simp only[bq] at fX;subst fX;simp only at Ey;exact⟨by simp[Region.wanted,hg,Ey],rfl,rfl⟩
  | some p =>
   obtain⟨j,want⟩:=p;rw[hg] at fX;simp only at fX;split at fX
   case h_2=>simp at fX
   rename_i g td;simp only[bq] at fX;subst fX;simp only at Ey;refine⟨?_,rfl,rfl⟩;have Be:=EH g (by simp[Dz])
   rcases Ey with ⟨bb,dX,fv⟩ | ⟨dX,fv⟩
   case' inr =>
    rw[dX] at Be;have hR:=IG hs.slot g undef;have qG : R E (.bw []) (a.tmps.toList.getD g undef):=by
     have:(cG (runT (di S 0 tr) t0) (eW (di S 0 tr) s0)).t.getD g .any = .bw []:=Be
     rw[<-this];exact hR
    have hu:=Tz qG;rw[fv];simp only[Region.wanted,hg,yielded,td,yU];cases hq:a.tmps[g]? with
    | none=>rfl
    | some u =>
     have:u=undef:=by rw[List.getD] at hu;simp[hq] at hu;exact hu
     rw[this];rfl
   rw[dX] at Be;have hR:=IG hs.slot g undef;have qG : R E (.bool bb) (a.tmps.toList.getD g undef):=by
    have:(cG (runT (di S 0 tr) t0) (eW (di S 0 tr) s0)).t.getD g .any = .bool bb:=Be
    rw[<-this];exact hR
   simp only[R] at qG;have x7:a.tmps[g]?=U (.bool bb):=by
    rw[List.getD] at qG;cases hq:a.tmps.toList[g]? with
    | none=>rw[hq] at qG;simp[undef] at qG
    | some u=>rw[hq] at qG;simp at qG;subst qG;simpa using hq
   simp only[Region.wanted,hg,yielded,td,yU,x7];rw[fv];cases bb<;>cases want<;>rfl
 obtain⟨qL,rfl,ny⟩:=amu;rw[qL];cases mn:run with
 | true =>
  rw[aL rfl];left;refine Oper.wp_mono ?_ (Hv (Q:=Q) nN hs (Xu mn));rintro a' w' ⟨E',v,u,aV,rfl,lQ,eG,hv,rfl,CX,rfl⟩;subst CX
  have:=bS.put eG hv o.dst
  rw[HO] at this;refine next E' u _ _ ?_ ?_ this lQ
  .rw[hT,hd,ny]
  .rw[N7];cases vv:ao.op.bB<;>simp
 | false =>
  rw[aB (by simp)];obtain⟨hv,hsk⟩:=amh mn
  have:=bS.put hs (v:=.bw []) (x:=undef) Mp o.dst
  rw[HO] at this;refine next E undef _ _ ?_ ?_ this (Fr.refl E)
  .rw[hT,hd,ny,hv]
  .rw[N7];cases vv:ao.op.bB
   .rw[aB (by simp)]
   .simp only[db];rw[hsk (by rw[he,vv])];exact Xx vv
theorem count_set:∀(l:List Bool) (i:Nat),l[i]?=U aq->(l.set i aa).count aq+1=l.count aq
 | [],i,h=>by simp at h
 | x::l,0,h=>by simp at h;subst h;simp
 | x :: l, i + 1, h => by
  grind
variable{E:Env}{K:St->Prop}{a:Act}{st:St}
def Vd{ops:Array Oper}{l:List (AO × List Nat)}{b:List Nat}(F:B5 ops l b)(pW:b.length=ops.size)(hf:P.follows .mixedOrders=aa){id:Nat}(h:c9 P l [(st.au,st.out)] [] K st)(hs:bS E st a){X:Array Bool->Env->Act->Prop}
 (hX0:∀E',X (Array.replicate ops.size aq) E' a)
 (zB:∀(i:Nat) o,ops[i]?=U o->∃x:AO × List Nat,l[i]?=U x/\((wS P ops o=U x.1/\∀listed E E' a u,X listed E a->Fr E E' -> X (listed.setIfInBounds i aa) E' (a.put o.dst u))\/Spec P l b st.t E X i o x.1)) :
 (Code.region id ops aa).wp P (λe a' w' => ∃E' aV,E'.w=w' /\ bS E' aV a' /\ Fr E E' /\ e = .normal/\K aV) a E.w:=by
 refine wp_region_any hf ?_;obtain⟨bC,_,qJ⟩:=H6 hs ((Ext.refl E.w).drew);obtain⟨tr,ht,_,hK⟩:=LH (t:=st.t) (s:=(st.au,st.out)) h;have wE:[(st.au,st.out)]++mg tr=(st.au,st.out)::mg tr:=rfl;rw[wE] at ht;have hlen:=IJ ht;have key:∀(fuel:Nat) (listed:Array Bool) (a:Act) (w:World),FN ops tr st.t (st.au,st.out) E X listed a w->listed.toList.count aq<=fuel ->
  wpAny P .any ops (λe a' w' => ∃E' aV,E'.w=w' /\ bS E' aV a' /\ Fr E E' /\ e = .normal/\K aV) fuel listed a w:=by
  have done:∀(listed:Array Bool) (a:Act) (w:World),FN ops tr st.t (st.au,st.out) E X listed a w->Region.ready .any ops listed=[] ->
   ∃E' aV,E'.w=w/\bS E' aV a/\Fr E E' /\ Exit.normal = .normal/\K aV := λlisted a w h hr=>by
   have dd:∀n j,j<n->j<ops.size->listed.getD j aq=true:=by
    intro n;induction n with
    | zero=>intro j h;omega
    | succ n ih =>
     intro j hj nK;cases hq:listed.getD j aq with
     | true=>rfl
     | false =>
      have:j∈Region.ready .any ops listed:=mem_ready.2 ⟨by rw[Wh _ _ (by rw[h.size];exact nK)];exact hq,ops[j],pE nK,λe he hb=>by
       have:=F.back j _ (pE nK) e he hb
       exact ih e.on (by omega) (by omega)⟩
      rw[hr] at this;simp at this
   obtain⟨E',h1,h2,h3,_⟩:=h.rel;rw[abK (λj hj=>by rw[mc];exact dd (j+1) j (by omega) (by rw[<-F.size,hlen];exact hj))] at h2;exact⟨E',_,h1,h2,h3,rfl,hK⟩
  intro fuel;induction fuel with
  | zero =>
   intro listed a w h hc;have hr:Region.ready .any ops listed=[]:=by
    cases hq:Region.ready .any ops listed with
    | nil=>rfl
    | cons j js =>
     obtain⟨h1,o,ho,_⟩:=mem_ready.1 (show j∈Region.ready .any ops listed by rw[hq];simp);have az:j<listed.size:=by rw[h.size];exact(mX.1 ho).1
     have:aq∈listed.toList:=by
      have e:listed[j]?=U false:=by
       rw[pE az];simpa [az] using h1
      exact yP (by simpa using e)
     have:=List.count_pos_iff.2 this
     omega
   exact⟨hr,done listed a w h hr⟩
  | succ fuel ih =>
   intro listed a w h hc;refine⟨λhr=>done listed a w h hr,λi hi=>?_⟩;refine Ve F pW rfl ht h hi (zB i) λa w h' => ih _ a w h' ?_
   obtain⟨h1,o,ho,_⟩:=mem_ready.1 hi;have az:i<listed.size:=by rw[h.size];exact(mX.1 ho).1
   have e:listed.toList[i]?=U false:=by
    have:listed[i]?=U false:=by
     rw[pE az];simpa [az] using h1
    simpa using this
   have:=count_set listed.toList i e
   simp only[ada];omega
 have Bi:∀j,(Array.replicate ops.size aq).getD j aq=false:=λj=>by
  by_cases hj:j<ops.size<;>simp[hj]
 have nR:∀(tr:List TR) (q:Nat),di (λj=>(Array.replicate ops.size aq).getD j aq) q tr=[]:=by
  intro tr;induction tr with
  | nil=>intro q;rfl
  | cons r tr ih=>intro q;rw[di,aB (by rw[Bi];simp)];exact ih _
 refine key ops.size _ a _ ⟨by simp,λi o _ hi=>by rw[Bi] at hi;simp at hi,{E with w:=E.w.drew},rfl,?_,bC,hX0 _⟩ (by simp);rw[nR];exact qJ
theorem ahE{ops:Array Oper}{l:List (AO × List Nat)}{id:Nat}(hl:KH P ops=U l)(h:c9 P l [(st.au,st.out)] [] K st):
 j4 P (.region id ops aa) (λe aV => e = .normal/\K aV) st:=by
 obtain⟨b,F,pW,hf,zB⟩:=aou hl;intro E a hs;exact Vd (X:=λ_ _ _=>True) F pW hf h hs (λ_=>trivial) λi o ho=>by
  grind
end
section
variable {P:Program} {E:Env} {st:St} {a:Act} {o:Oper} {K:V->St->Prop} {Q:Exit->Act->World->Prop}
variable{e:TypeId}{zs:List V}
theorem acT(hs:bS E st a){c:Array Value}(hr:(execOp a.eval o).run P E.w = .ok (.value (.pointer (U ⟨E.w.heap.size,0,ah⟩))) (E.w.alloc (.cells c e)))
 (hz:RL E zs c.toList) (wJ:bK zs=aa) (hk:∀b,st.out.box b=ah->K (.ptr (.out b) 0) ⟨st.t,st.au,st.out.set b zs⟩):o.wp P a E.w (fu E a o.dst K) Q:=by
 unfold Oper.wp;rw[hr]
 let E' : Env:={w:=E.w.alloc (.cells c e),bg:=λb=>if b=E.w.heap.size then .sE else E.bg b,au:=E.au,aS:=E.aS}
 have hx:Ext E.w E'.w:=(Ext.refl _).alloc _ _;have bC:Fr E E' := A3 hs.ok.fresh hx (λb hb=>by simp only[E'];rw[aB (by omega)]) (λ_ _ h=>h);have hle:E.le E' := bC.le λi b h=>h
 have fj:st.out.box E.w.heap.size=none:=by
  cases hq:st.out.box E.w.heap.size with
  | none=>rfl
  | some cs =>
   obtain⟨_,c',e',h3,_⟩:=hs.ok.box _ cs hq
   simp_all
 refine⟨E',_,_,⟨st.t,st.au,st.out.set E.w.heap.size zs⟩,rfl,bC,⟨⟨?_,?_,?_,hs.ok.nt,λb cs hc=>fz.mono _ bC.nl (hs.ok.cI b cs hc)⟩,?_,hs.defers,RL.mono _ hle hs.slot⟩,?_,rfl,hk _ fj⟩
 .intro b cs cO;simp only[ab.set] at cO;split at cO
  .rename_i hb;subst hb;simp only[bq] at cO;subst cO;have G9 := RL.rI (E:=E) (E' := E'.nl) _ bC.nl wJ hz;have hl:=iV G9;refine⟨by simp[E'],c,e,heap_alloc_new _ _,by simp at hl;omega,λj x hx=>?_⟩;obtain⟨v,hv,dt⟩:=vb G9 j x hx
   grind
  .rename_i hb;obtain⟨h1,h2⟩:=hs.ok.box b cs cO;have az:b<E.w.heap.size:=by obtain⟨c,e,h3,_⟩:=h2;exact nX (w:=E.w) h3
   exact⟨by simp only[E'];rw[aB hb];exact h1,h2.mono bC.nl (hx.block b az)⟩
 .exact hs.ok.aS
 .intro b hb;simp only[E',World.size_alloc] at hb ⊢;rw[aB (by omega)];exact hs.ok.fresh b (by omega)
 .exact tG hs.dO hle (λb i h hb=>⟨by simp only[E'];rw[aB (by omega)];exact h,hx.block b hb⟩) hs.dO.none
 .rfl
variable{t:TypeId}
def awW(hs:bS E st a)(ho:o.op = .alloc t)(hz:mA P t=U zs)(hk:a_.bN P st K (.y5 zs)):o.wp P a E.w (fu E a o.dst K) Q:=by
 obtain⟨i,z,h1,h2,h3,_⟩:=yJ hz;refine acT hs (c:=z.cells) (e:=t) ?_ (xL h3) hk.1 hk.2;simp[execOp,ho,Instr.alloc,zeroValue,typeInfo,h1,h2,newVar,newRow]
variable{x:Operand}
def aw1(hs:bS E st a){n:Nat}{y:X}(ho:o.op = .box t x)(hx:R E (ev st y) (a.eval x))(hk:a_.bN P st K (.xH n y)):o.wp P a E.w (fu E a o.dst K) Q:=by
 refine acT hs (c:=(a.eval x).cells) (e:=t) ?_ (AI hx hk.1).1 hk.2.1 hk.2.2;simp[execOp,ho,Instr.box,newVar,newRow]
theorem acS(hs:bS E st a){c:Array Value}{w1:World}(CY:Ext E.w w1)(amt:w1.heap.size=E.w.heap.size){x:Value}{v:Nat->V}
 (hr:(execOp a.eval o).run P E.w = .ok (.value x) (w1.alloc (.cells c e)))
 (hz:RL E.nl zs c.toList) (hv:R E (v E.w.heap.size) x) (wJ:(v E.w.heap.size).cS=aa) (hk:∀b,st.out.box b=ah->K (v b) ⟨st.t,st.au,st.out.set b zs⟩):o.wp P a E.w (fu E a o.dst K) Q:=by
 unfold Oper.wp;rw[hr]
 let E' : Env:={w:=w1.alloc (.cells c e),bg:=λb=>if b=E.w.heap.size then .sE else E.bg b,au:=E.au,aS:=E.aS}
 have hx:Ext E.w E'.w:=CY.alloc _ _;have bC:Fr E E' := A3 hs.ok.fresh hx (λb hb=>by simp only[E'];rw[aB (by omega)]) (λ_ _ h=>h);have hle:E.le E' := bC.le λi b h=>h
 have fj:st.out.box E.w.heap.size=none:=by
  cases hq:st.out.box E.w.heap.size with
  | none=>rfl
  | some cs =>
   obtain⟨_,c',e',h3,_⟩:=hs.ok.box _ cs hq
   simp_all
 refine⟨E',_,_,⟨st.t,st.au,st.out.set E.w.heap.size zs⟩,rfl,bC,⟨⟨?_,?_,?_,hs.ok.nt,λb cs hc=>fz.mono _ bC.nl (hs.ok.cI b cs hc)⟩,?_,hs.defers,RL.mono _ hle hs.slot⟩,hv.mono _ hle,rfl,hk _ fj⟩
 .intro b cs cO;simp only[ab.set] at cO;split at cO
  .rename_i hb;subst hb;simp only[bq] at cO;subst cO;have G9 : RL E'.nl zs c.toList:=RL.mono _ bC.nl hz;have hl:=iV G9;refine⟨by simp[E'],c,e,?_,by simp at hl;omega,λj x hx=>?_⟩
   .show(w1.alloc (.cells c e)).heap[E.w.heap.size]?=_;rw[<-amt];exact heap_alloc_new _ _
   .obtain⟨v,hv,dt⟩:=vb G9 j x hx
    grind
  .rename_i hb;obtain⟨h1,h2⟩:=hs.ok.box b cs cO;have az:b<E.w.heap.size:=by obtain⟨c,e,h3,_⟩:=h2;exact nX (w:=E.w) h3
   exact⟨by simp only[E'];rw[aB hb];exact h1,h2.mono bC.nl (hx.block b az)⟩
 .exact hs.ok.aS
 .intro b hb;simp only[E',World.size_alloc] at hb ⊢;rw[aB (by omega)];exact hs.ok.fresh b (by omega)
 .exact tG hs.dO hle (λb i h hb=>⟨by simp only[E'];rw[aB (by omega)];exact h,hx.block b hb⟩) hs.dO.none
theorem awX(hs:bS E st a){u ty:TypeId}{i:TypeInfo}{z:Value}(ht:P.underlying t=U (.slice e))(hi:P.info? e=U i)(hz:i.zero=U z)(mr:z.cells.size=i.size)
 (sc:i.bytes<=4096) {base:Option Addr} {n cap:Nat} {vx:Value} {m:List (List V)}
 (e9:(execOp a.eval o).run P E.w=((Builtin.append_ #[t,u] ty #[.slice base n cap,vx]).run P E.w).andThen λv w' => .ok (.value v) w')
 {news:List Value} (uz:Src P E.w i.size m.length u vx news) (zD:RL E.nl m.flatten news) (iq:∀v∈news,v.oneCell' = aa) (hm:∀y∈m,y.length=i.size)
 (hk:FQ st.out i.size base n cap m λv Z=>K v ⟨st.t,st.au,Z⟩):o.wp P a E.w (fu E a o.dst K) Q:=by
 obtain⟨Cy,jL,so,CM,ur,si⟩:=hk;have vF:=uz.size;have GJ:(n+m.length)*i.bytes<=140737488355328:=by
  have:=IA jL sc
  simp only[aJ] at this;omega
 have G6:n+m.length<=9223372036854775807:=by simp only[aJ] at jL;omega
 by_cases tj:m=[]
 .have hK0:K (V.raw (Value.slice base n cap)) st:=CM tj;subst tj
  have:news=[]:=xx (by simpa using vF)
  subst this;refine ey hs (v:=.raw (.slice base n cap)) (x:=.slice base n cap) ?_ (by simp only[R]) hK0;rw[e9,abh (P:=P) ht hi Cy uz];rfl
 rcases Cb cap (n+m.length) with az | rD
 .obtain⟨cs,cO,si⟩:=si az;have hold:∃jx:List Value,(Builtin.firstCells i.size n (.slice base n cap)).run P E.w.drew = .ok jx.toArray E.w.drew/\RL E.nl (cs.take (n*i.size)) jx/\jx.length=n*i.size/\(cs.take (n*i.size)).length=n*i.size:=by
   rcases cO with ⟨rfl,rfl⟩ | ⟨b,rfl,vA,hle⟩
   .refine⟨[],?_,by simp[RL],by simp,by simp⟩;cases base<;>simp[Builtin.firstCells,loadCells,loadCellsFrom]
   .obtain⟨gQ,c,e',gP,hlen,Ba⟩:=hs.ok.box b cs vA;have gP:E.w.heap[b]?=U (.cells c e' (0,0)):=gP;refine⟨c.toList.take (n*i.size),?_,IH (by simp;omega) λj x u hx hu=>?_,by simp;omega,by simp;omega⟩
    .have hl:(c.toList.take (n*i.size)).length=n*i.size:=by grind
     have:=run_loadCells_list (P:=P) E.w.drew ⟨b,0,ah⟩ (c.toList.take (n*i.size)) (λj v hv=>by
      rw[rj];have JK : E.w.drew.heap[b]?=U (.cells c e' (0,0)):=gP;have hj:j<n*i.size:=by grind
      rw[Th hj] at hv;simpa [World.cell?,JK] using hv)
     rw[hl] at this;simp only[Builtin.firstCells];omega
    .grind
  obtain⟨jx,ho1,rB,qH,ho4⟩:=hold;have vB:=grownCap_ge E.w (n+m.length) cap e;have hr:(execOp a.eval o).run P E.w = .ok (.value (.slice (U ⟨E.w.heap.size,0,ah⟩) (n+m.length) (grownCap E.w (n+m.length) cap e)))
   (E.w.drew.alloc (.cells (jx++(news++(Builtin.zeroCells z.cells (grownCap E.w (n+m.length) cap e - (n+m.length))).toList)).toArray e)):=by
   rw[e9,RH (P:=P) ht hi hz ho1 uz az GJ G6];rfl
  have Pb:(Builtin.zeroCells z.cells (grownCap E.w (n+m.length) cap e - (n+m.length))).toList.length=(grownCap E.w (n+m.length) cap e - (n+m.length))*i.size:=by simp only[DP,size_zeroCells,mr]
  generalize grownCap E.w (n+m.length) cap e=nc at hr vB Pb;generalize (Builtin.zeroCells z.cells (nc - (n+m.length))).toList=rest at hr Pb;refine acS hs (v:=λb=>.raw (.slice (U ⟨b,0,ah⟩) (n+m.length) nc)) (zs:=cs.take (n*i.size)++m.flatten++aj ((nc - (n+m.length))*i.size) .any) ((Ext.refl E.w).drew) rfl hr ?_ (by simp only[R]) rfl (λb hb=>si b nc hb vB);simp only[eY];refine y3 rB (y3 zD ?_);rw[<-Pb];exact Tx rest
 .obtain⟨b,cs,rfl,vA,s_,hK⟩:=ur tj rD;obtain⟨gQ,c,e',gP,hlen,Ba⟩:=hs.ok.box b cs vA;have gP:E.w.heap[b]?=U (.cells c e' (0,0)):=gP;have nD:=pP hm;have alM : n*i.size+news.length<=c.size:=by rw[vF];omega
  have mn:=RJ (P:=P) (ty:=ty) ht hi gP uz iq rD alM;have bC:=Nz (E:=E) (new:=(c.toList.take (n*i.size)++news++c.toList.drop (n*i.size+news.length)).toArray) gP (.inr gQ) (by simp;omega);have hle:=bC.le λ_ _ h=>h
  have jN:=setRow_heap E.w b c (c.toList.take (n*i.size)++news++c.toList.drop (n*i.size+news.length)).toArray e' _ gP;have JL:=MG (E' := Env.nl {E with w:=E.w.setRow b (c.toList.take (n*i.size)++news++c.toList.drop (n*i.size+news.length)).toArray}) hlen
   (λj x hj=>let ⟨u,h1,h2⟩:=Ba j x hj;⟨u,h1,h2.mono _ bC.nl⟩) (RL.mono _ bC.nl zD) (by omega) jN
  generalize (c.toList.take (n*i.size)++news++c.toList.drop (n*i.size+news.length)).toArray=new at mn jN bC hle JL;have pZ : ∀b',b' ≠ b->(E.w.setRow b new).heap[b']?=E.w.heap[b']?:=λb' bf=>setRow_other E.w b b' new bf
  unfold Oper.wp;rw[e9,mn];refine⟨{E with w:=E.w.setRow b new},.raw (.slice (U ⟨b,0,ah⟩) (n+m.length) cap),.slice (U ⟨b,0,ah⟩) (n+m.length) cap,⟨st.t,st.au,st.out.set b (setAt cs (n*i.size) m.flatten)⟩,rfl,bC,⟨⟨?_,hs.ok.aS,λb' cF => hs.ok.fresh b' (by simpa using cF),hs.ok.nt,λb cs hc=>fz.mono _ bC.nl (hs.ok.cI b cs hc)⟩,
   tG hs.dO hle (λb' i hr _=>⟨hr,pZ b' (by rintro rfl;rw[gQ] at hr;simp at hr)⟩) hs.dO.none,hs.defers,RL.mono _ hle hs.slot⟩,by simp only[R],rfl,hK⟩
  intro b' ds pg
  by_cases dh:b' = b
  .subst dh;rw[ab.fE] at pg;simp only[bq] at pg;subst pg;exact⟨gQ,JL⟩
  .rw[ab.fQ _ _ dh] at pg;obtain⟨k1,k2⟩:=hs.ok.box b' ds pg;exact⟨k1,k2.mono bC.nl (pZ b' dh)⟩
def aya:Operand->Operand->Bool
 | .tmp a,.tmp b=>decide (a=b)
 | .const (.int k a),.const (.int k' b)=>decide (k=k')&&decide (a=b)
 | _,_=>aq
variable{d:Nat}
theorem MF{b:Option X}{vs:List V}{K:Nat->List V->Prop}(h:qC b.isSome d (fi st b.toList++vs) K):∃m,K m vs/\match (generalizing:=false) b with | none=>m=d | some y=>∃j,ev st y = .int j m:=by
 cases b with
 | none=>simp only[Option.isSome,Option.toList,fi,gK,qC] at h;exact⟨d,h,rfl⟩
 | some y =>
  simp only[Option.isSome,Option.toList,fi,gY,gK] at h;unfold qC at h
  grind
def VE{xs ys:List X}:fi st (xs++ys)=fi st xs++fi st ys:=by
 induction xs with
 | nil=>rfl
 | cons x xs ih=>simp[fi,ih]
def Qp(P:Program)(o:Oper):Option a_ :=
 match o.op with
 | .move (.const (.slice ah 0 0)) | .assign (.const (.slice ah 0 0))=>U (.own .nil [])
 | .buildSlice t len ps =>
  match P.underlying t with
  | some (.slice e) =>
   match fR P e,mA P e,kV P (aj len e) (ps.toList.map (·.2)) with
   | some k,U _,U xs=>if ps.toList.map (·.1)=bH len/\len*k<=16777216 then U (.own (.po k) xs) else ah
   | _,_,_=>ah
  | _=>ah
 | .slice t x lo hi mx =>
  match P.underlying t with
  | some (.slice e) =>
   match dB P t x,p_ P t lo,p_ P t hi,p_ P t mx,fR P e with
   | some x,U lo,U hi,U mx,U k=>if mx.isSome=aa->hi.isSome=aa then U (.own (.qZ k lo.isSome hi.isSome mx.isSome) (x::(lo.toList++hi.toList++mx.toList))) else ah
   | _,_,_,_,_=>ah
  | _=>ah
 | .indexAddr t x i =>
  match P.underlying t,dB P t x,dB P t i with
  | some (.slice e),U x,U i=>(fR P e).map λk=>.own (.idx k) [x,i]
  | _,_,_=>ah
 | .call c =>
  match c.callee with
  | .builtin .len =>
   match c.argTypes.toList,c.args.toList with
   | [t], [x] =>
    match P.underlying t,dB P t x with
    | some (.slice _),U y=>U (.own .len [y])
    | _,_=>ah
   | _,_=>ah
  | .builtin .append =>
   match c.argTypes.toList,c.args.toList with
   | [t, u], [s, x] =>
    match P.underlying t,P.underlying u,dB P t s,dB P u x with
    | some (.slice e), U (.slice e'), U s, U x =>
     match P.info? e,mA P e with
     | some i,U _=>if e=e' /\ i.bytes<=4096/\0<i.size then U (.own (.app i.size) [s,x]) else ah
     | _,_=>ah
    | _,_,_,_=>ah
   | _,_=>ah
  | _=>ah
 | _=>ah
variable{ao:a_}
theorem aq8(hl:Qp P o=U ao)(hs:bS E st a)(h:ao.bN P st K):o.wp P a E.w (fu E a o.dst K) Q:=by
 have X:=λ{t:TypeId} {x:Operand} {y:X} (hx:dB P t x=U y)=>qa (E:=E) (st:=st) (a:=a) hs.slot hx
 unfold Qp at hl;split at hl
 .rename_i ho;simp only[bq] at hl;subst hl;refine ey hs (v:=.raw (.slice ah 0 0)) (x:=.slice ah 0 0) ?_ (by simp only[R]) h;simp[execOp,ho,Act.eval]
 .rename_i ho;simp only[bq] at hl;subst hl;refine ey hs (v:=.raw (.slice ah 0 0)) (x:=.slice ah 0 0) ?_ (by simp only[R]) h;simp[execOp,ho,Act.eval]
 .rename_i t len ps ho;split at hl
  case h_2=>simp at hl
  rename_i e ht;split at hl
  case h_2=>simp at hl
  rename_i k z xs hk hz uE;split at hl
  case isFalse=>simp at hl
  rename_i hc;simp only[bq] at hl;subst hl;simp only[a_.bN] at h;unfold OQ.bN at h;split at h<;>try (exfalso;simp_all;done)
  .rename_i k0 vs e1;simp only[OQ.po.injEq] at e1;subst e1;obtain⟨l,h1,h2⟩:=h;exact acM hs ho ht hk hz hc.1 hc.2 (PV (E:=E) hs.slot uE h1) h2
 .rename_i t x lo hi mx ho;split at hl
  case h_2=>simp at hl
  rename_i e ht;split at hl
  case h_2=>simp at hl
  rename_i x' zP fL qQ k h1 h2 h3 h4 hk;split at hl
  case isFalse=>simp at hl
  rename_i Bh;simp only[bq] at hl;subst hl;have hx:=X h1;simp only[a_.bN,fi] at h;unfold OQ.bN at h;split at h<;>try (exfalso;simp_all;done)
  .rename_i k0 b1 b2 b3 base n cap vs e1 e2;simp only[OQ.qZ.injEq] at e1;obtain⟨rfl,rfl,rfl,rfl⟩:=e1;simp only[mZ] at e2;obtain⟨e2,rfl⟩:=e2;rw[e2] at hx;simp only[R] at hx;rw[VE,VE,eY] at h;obtain⟨m,h,g1⟩:=MF h;obtain⟨hh,h,g2⟩:=MF h;rw[<-eC (fi st qQ.toList)] at h;obtain⟨M,h,g3⟩:=MF h;obtain⟨_,k1,k2,k3,h⟩:=h;have hb:=abi (P:=P) hs h2 h3 h4 Bh g1 g2 g3 k1 k2 k3;refine ey hs (v:=.raw _) (x:=.slice (if M=m then base else base.map (·.add (m*k))) (hh - m) (M - m)) ?_ (by simp only[R]) h;simp only[execOp,ho,Sem.run_bind,hx];simp[Instr.sliceAt,run_underlying ht,Instr.slice,hb,tL hk]
 .rename_i t x i ho;split at hl
  case h_2=>simp at hl
  rename_i e x' i' ht h1 h2;simp only[ec] at hl;obtain⟨k,hk,rfl⟩:=hl;have hx:=X h1;have hi:=X h2;simp only[a_.bN,fi] at h;unfold OQ.bN at h;split at h<;>try (exfalso;simp_all;done)
  .rename_i k0 b off n cap kk j e1 e2;simp only[OQ.idx.injEq] at e1;subst e1;simp only[mZ,ln] at e2;obtain⟨e2,e3⟩:=e2;rw[e2] at hx;rw[e3] at hi;simp only[R] at hx hi;obtain⟨g1,g2,h⟩:=h;refine ey hs (v:=.ptr (.out b) (off+j.toNat*k)) (x:=.pointer (U ⟨b,off+j.toNat*k,ah⟩)) ?_ (by simp only[R]) h;simp[execOp,ho,hx,hi,Instr.indexAt,asIntOf,run_underlying ht,g1,g2,tL hk,rj]
 .rename_i c ho;obtain⟨callee,args,argTypes⟩:=c;simp only at hl;split at hl
  .split at hl
   case h_2=>simp at hl
   rename_i t x ht hx;have e1:argTypes=#[t]:=by cases argTypes;simpa using ht
   have e2:args=#[x]:=by cases args;simpa using hx
   subst e1;subst e2;split at hl
   case h_2=>simp at hl
   rename_i e y hu h1;simp only[bq] at hl;subst hl;have hx:=X h1;simp only[a_.bN,fi] at h;unfold OQ.bN at h;split at h<;>try (exfalso;simp_all;done)
   .rename_i base n cap e1 e2;simp only[mZ,ln] at e2;rw[e2] at hx;simp only[R] at hx;refine ey hs (v:=.int .i64 n) (x:=.int .i64 n) ?_ (by simp only[R]) h;simp[execOp,ho,resolve,invoke,builtin,Builtin.len_,run_underlying hu,hx,goInt]
  .split at hl
   case h_2=>simp at hl
   rename_i t u s x ht hx;have e1:argTypes=#[t,u]:=by cases argTypes;simpa using ht
   have e2:args=#[s,x]:=by cases args;simpa using hx
   subst e1;subst e2;split at hl
   case h_2=>simp at hl
   rename_i e e' s' x' hu hu' eG uD;split at hl
   case h_2=>simp at hl
   rename_i i z hi hz;split at hl
   case isFalse=>simp at hl
   rename_i hc;simp only[bq] at hl;subst hl;obtain⟨rfl,sc,iH⟩:=hc;obtain⟨i',z',q1,q2,q3,q4⟩:=yJ hz;obtain rfl:i=i' := by rw[hi] at q1;simpa using q1
   have mr:z'.cells.size=i.size:=by have:=iV (xL (E:=E) q3);simp at this;omega
   have O6:=X eG;have p8:=X uD;simp only[a_.bN,fi] at h;unfold OQ.bN at h;split at h<;>try (exfalso;simp_all;done)
   .rename_i k0 base n cap tk k1 m e1 e2;simp only[OQ.app.injEq] at e1;subst e1;simp only[mZ,ln] at e2;obtain⟨e2,e3⟩:=e2;obtain⟨rfl,h⟩:=h;rw[e2] at O6;rw[e3] at p8;obtain⟨news,g1,g2,g3,g4⟩:=R9 (P:=P) hu' p8;simp only[R] at O6;refine awX hs hu hi q2 mr sc (ty:=o.type) (vx:=a.eval x) ?_ g1 g2 g3 g4 h;simp[execOp,ho,resolve,invoke,builtin,O6]
  .simp at hl
 .simp at hl
def Qo(P:Program)(h:List Nat)(o:Oper):Option a_ :=
 match o.dst with
 | some d =>
  if h.contains d=aa then
   match o.op with
   | .alloc t=>(mA P t).map .y5
   | .box t x=>match fR P t,dB P t x with | some n,U y=>U (.xH n y) | _,_=>ah
   | _=>match Qp P o with | some x=>U x | none=>Bw P o
  else Bw P o
 | none=>Bw P o
def aoy{h:List Nat}(hl:Qo P h o=U ao)(hs:bS E st a)(hk:ao.bN P st K):o.wp P a E.w (fu E a o.dst K) Q:=by
 unfold Qo at hl;split at hl
 case h_2=>exact Hv hl hs hk
 split at hl
 case isFalse=>exact Hv hl hs hk
 split at hl
 .rename_i t ho;simp only[ec] at hl;obtain⟨z,h1,rfl⟩:=hl;exact awW hs ho h1 hk
 .rename_i t x ho;split at hl
  case h_2=>simp at hl
  rename_i n y hn hy;simp only[bq] at hl;subst hl;exact aw1 hs ho (qa hs.slot hy) hk
 .split at hl
  .rename_i x hx;simp only[bq] at hl;subst hl;exact aq8 hx hs hk
  .exact Hv hl hs hk
end
structure DS(E:Env)(D k:Nat)(l:List (List V))(b cap:Nat):Prop where
 aS:E.aS D=U l.length
 bg:E.bg b = .i_ D (l.length*k)
 Up:∃cs e,E.w.heap[b]?=U (.cells cs e (0,0))/\cs.size=cap*k
 cap:l.length+1<=cap
 xN:iC E.nl k l b 0
variable{E:Env}{b k D:Nat}
def DS.mono{E':Env}{l:List (List V)}{cap:Nat}(h:DS E D k l b cap)(hf:Fr E E')(ht:E'.aS D=U l.length):DS E' D k l b cap:=by
 obtain⟨n',h1,_,h3⟩:=hf.tok D _ h.aS;rw[ht] at h1;simp only[bq] at h1;obtain⟨r1,r2⟩:=h3 h1.symm b _ h.bg;obtain⟨cs,e,k1,k2⟩:=h.Up;obtain⟨cs',q1,q2⟩:=r2 cs e k1;exact⟨ht,r1,⟨cs',e,q1,q2.trans k2⟩,h.cap,iC.mono _ hf.nl h.xN⟩
section
variable {P:Program} {E:Env} {st:St} {a:Act} {o:Oper}
variable{e t:TypeId}
theorem al'(hs:bS E st a){u ty:TypeId}{i:TypeInfo}{z:Value}(ht:P.underlying t=U (.slice e))(hi:P.info? e=U i)(hz:i.zero=U z)(mr:z.cells.size=i.size)
 (sc:i.bytes<=4096) {vs vx:Value} {D:Nat} {l:List (List V)}
 (e9:(execOp a.eval o).run P E.w=((Builtin.append_ #[t,u] ty #[vs,vx]).run P E.w).andThen λv w' => .ok (.value v) w')
 (bD:R E (.sl (.tk D) i.size l) vs) {news:List Value} (uz:Src P E.w i.size 1 u vx news) (iq:∀v∈news,v.oneCell' = aa)
 (jL:l.length+1<=aJ) (hE:E.aS D=U l.length) :
 ∃b cap E',DS E' D i.size l b cap/\(execOp a.eval o).run P E.w = .ok (.value (.slice (U ⟨b,0,ah⟩) (l.length+1) cap)) E'.w/\Fr E E' /\ bS E' st a/\(∀j,E'.au j=E.au j):=by
 simp only[R] at bD;obtain⟨base,cap,rfl,Cy,nz,ir⟩:=bD;obtain⟨jx,hold,N3,NN,fX,hlen⟩:=Zt (P:=P) (cap:=cap) nz;have GJ:(l.length+1)*i.bytes<=140737488355328:=by
  have:=IA jL sc
  simp only[aJ] at this;omega
 have G6:l.length+1<=9223372036854775807:=by simp only[aJ] at jL;omega
 have vF:=uz.size;obtain⟨n',h1,_,h3⟩:=ir;rw[hE] at h1;simp only[bq] at h1;subst h1
 rcases Cb cap (l.length+1) with az | rD
 .have vB:=grownCap_ge E.w (l.length+1) cap e;have size:(jx++(news++(Builtin.zeroCells z.cells (grownCap E.w (l.length+1) cap e - (l.length+1))).toList)).toArray.size=grownCap E.w (l.length+1) cap e*i.size:=by
   simp only[Tp,bL,DP,size_zeroCells,mr,hlen,vF];rw[<-Ca,<-lH,<-lH]
   grind
  have hr:=RH (P:=P) (ty:=ty) ht hi hz hold uz az GJ G6;generalize grownCap E.w (l.length+1) cap e=nc at hr vB size;generalize news++(Builtin.zeroCells z.cells (nc - (l.length+1))).toList=rest at hr size
  let E' : Env:={w:=E.w.drew.alloc (.cells (jx++rest).toArray e),bg:=λb=>if b=E.w.heap.size then .i_ D (l.length*i.size) else E.bg b,au:=E.au,aS:=E.aS}
  have hx:Ext E.w E'.w:=((Ext.refl _).drew).alloc _ _;have jN:∀b,b<E.w.heap.size->E'.bg b=E.bg b:=λb hb=>by simp only[E'];rw[aB (by omega)]
  have bC:Fr E E' := A3 hs.ok.fresh hx jN (λ_ _ h=>h);have hle:E.le E' := bC.le λ_ _ h=>h
  have O2:E'.w.heap.size=E.w.heap.size+1:=by simp[E']
  have vH:E'.w.heap[E.w.heap.size]?=U (.cells (jx++rest).toArray e (0,0)):=heap_alloc_new E.w.drew _;have rC:E'.bg E.w.heap.size = .i_ D (l.length*i.size):=by grind
  refine⟨E.w.heap.size,nc,E',⟨hE,rC,⟨_,_,vH,size⟩,vB,IF fX (RL.mono _ bC.nl N3) NN vH (λj hj=>by rw[rC];simpa [gp.jq] using hj)⟩,?_,bC,⟨?_,?_,hs.defers,RL.mono _ hle hs.slot⟩,λ_=>rfl⟩
  .rw[e9,hr];rfl
  .refine Ff hs.ok bC.nl (λb h hb=>⟨by rw[jN b hb];exact h,hx.block b hb⟩) (λ_ _ h=>h) (λb hb=>?_) hs.ok.nt;rw[O2] at hb;simp only[E'];rw[aB (by omega)];exact hs.ok.fresh b (by omega)
  .exact tG hs.dO hle (λb i' h hb=>⟨by rw[jN b hb];exact h,hx.block b hb⟩) hs.dO.none
 .rcases h3 rfl with hc | ⟨b,cs,e',rfl,gQ,gP,dE⟩
  .omega
  .have s_:l.length*i.size+news.length<=cs.size:=by
    rw[vF,dE,<-lH];exact va _ rD
   have mn:=RJ (P:=P) (ty:=ty) ht hi gP uz iq rD s_;have x8:∀j:Nat,j<l.length*i.size->(cs.toList.take (l.length*i.size)++news++cs.toList.drop (l.length*i.size+news.length)).toArray[j]?=cs[j]?:=λj hj=>by
    grind
   have vL:(cs.toList.take (l.length*i.size)++news++cs.toList.drop (l.length*i.size+news.length)).toArray.size=cs.size:=by grind
   generalize (cs.toList.take (l.length*i.size)++news++cs.toList.drop (l.length*i.size+news.length)).toArray=new at mn x8 vL
   let E' : Env:={E with w:=E.w.setRow b new}
   have jV:∀b',b' ≠ b->E'.w.heap[b']?=E.w.heap[b']?:=λb' bf=>setRow_other E.w b b' new bf
   have cF : E'.w.heap[b]?=U (.cells new e' (0,0)):=setRow_heap E.w b cs new e' _ gP;have bf:∀b' r,E.bg b' = r->(∀c,r≠.i_ D c)->b' ≠ b:=λb' r h h' => by rintro rfl;rw[gQ] at h;exact h' _ h.symm
   have bC:Fr E E' := by
    refine⟨rfl,rfl,rfl,by simp[E'],Gt gP,?_,?_,?_,λ_ _ h=>.inl h,λ_ _ c _ h=>⟨c,h⟩,λ_ i _ h=>⟨i,h⟩,λb' c' Ef hc=>by
     by_cases dh:b' = b
     .subst dh;rw[gP] at hc;simp only[bq,Obj.cells.injEq] at hc;obtain⟨rfl,rfl,_⟩:=hc;exact⟨new,cF,vL⟩
     .exact⟨c',(jV b' dh).trans hc,rfl⟩⟩
    .intro b' o' c hc hv
     by_cases dh:b' = b
     .subst dh;refine⟨hc,?_⟩;rw[gQ] at hc;simp only[gp.jq] at hc;simp only[World.cell?,gP] at hv;simp only[World.cell?,cF,x8 _ hc];exact hv
     .exact⟨hc,by rw[D8 (jV b' dh)];exact hv⟩
    .intro t n hn;refine⟨n,hn,bU _,λ_ b' c Cx=>⟨Cx,λcs' Ef cO=>?_⟩⟩
     by_cases dh:b' = b
     .subst dh;rw[gP] at cO;simp only[bq,Obj.cells.injEq] at cO;obtain⟨rfl,rfl,_⟩:=cO;exact⟨new,cF,vL⟩
     .exact⟨cs',by rw[jV b' dh];exact cO,rfl⟩
    .intro b' _ hr;have dh:b' ≠ b:=by rcases hr with hr | hr<;>exact bf b' _ hr (λc h=>by simp at h)
     exact⟨jV b' dh,rfl⟩
   have hle:E.le E' := bC.le λ_ _ h=>h
   have GU:iC E.nl i.size l b 0:=by
    rcases nz with h | ⟨b2,o2,h,hr⟩
    .subst h;simp[iC]
    .simp only[bq,Addr.mk.injEq] at h;obtain⟨rfl,rfl,_⟩:=h;exact hr
   refine⟨b,cap,E',⟨hE,gQ,⟨new,e',cF,vL.trans dE⟩,rD,iC.mono _ bC.nl GU⟩,?_,bC,⟨?_,?_,hs.defers,RL.mono _ hle hs.slot⟩,λ_=>rfl⟩
   .rw[e9,mn];rfl
   .exact Ff hs.ok bC.nl (λb' hr _=>⟨hr,jV b' (bf b' _ hr (λc h=>by simp at h))⟩) (λ_ _ h=>h) (λb' vw => hs.ok.fresh b' (by simpa [E'] using vw)) hs.ok.nt
   .exact tG hs.dO hle (λb' i' hr _=>⟨hr,jV b' (bf b' _ hr (λc h=>by simp at h))⟩) hs.dO.none
def amd(hs:bS E st a){cap:Nat}{l:List (List V)}(hh:DS E D k l b cap)(hn:fR P t=U k){xs:List V}{v:Value}(hx:RL E.nl xs v.cells.toList)(hv:v.cells.size=k)(h1:∀u∈v.cells.toList,u.oneCell' = aa):
 ∃E',(storeVar t ⟨b,l.length*k,ah⟩ v).run P E.w = .ok () E'.w/\Fr E E' /\ bS E' ⟨st.t,st.au,st.out.aU D (l.length+1)⟩ a /\
  R E'.nl (.sl (.tk D) k (l++[xs])) (.slice (U ⟨b,0,ah⟩) (l.length+1) cap)/\(∀j,E'.au j=E.au j):=by
 obtain⟨cs,e',gP,dE⟩:=hh.Up;have gQ:=hh.bg;have hE:=hh.aS;have rD:=hh.cap;obtain⟨fX,_⟩:=tZ.1 hh.xN;have C0:xs.length=k:=by have:=iV hx;simp at this;omega
 have mn:=RK (P:=P) (off:=l.length*k) hn gP hv (by rw[dE,<-IB];exact va _ rD) h1;generalize zD:v.cells.toList=news at hx h1 mn;have vF:news.length=k:=by rw[<-zD];simpa using hv
 have s_:l.length*k+news.length<=cs.size:=by rw[vF,dE,<-IB];exact va _ rD
 have x8:∀j:Nat,(cs.toList.take (l.length*k)++news++cs.toList.drop (l.length*k+k)).toArray[j]?=if j<l.length*k then cs[j]? else if j<l.length*k+news.length then news[j - l.length*k]? else cs[j]?:=λj=>by
  have:=Ll (c:=cs.toList) (vs:=news) (off:=l.length*k) (by simpa using s_) j
  rw[vF] at this ⊢;simpa using this
 have vL:(cs.toList.take (l.length*k)++news++cs.toList.drop (l.length*k+k)).toArray.size=cs.size:=by simp;omega
 generalize (cs.toList.take (l.length*k)++news++cs.toList.drop (l.length*k+k)).toArray=new at mn x8 vL;have alx:l.length*k<=(l.length+1)*k:=va _ (by omega)
 let E' : Env:={w:=E.w.setRow b new,bg:=λb' => if b' = b then .i_ D ((l.length+1)*k) else E.bg b',au:=E.au,aS:=λt=>if t=D then U (l.length+1) else E.aS t}
 have jV:∀b',b' ≠ b->E'.w.heap[b']?=E.w.heap[b']?:=λb' bf=>setRow_other E.w b b' new bf
 have pn:∀b',b' ≠ b->E'.bg b' = E.bg b' := λb' bf=>by simp only[E'];rw[aB bf]
 have cF : E'.w.heap[b]?=U (.cells new e' (0,0)):=setRow_heap E.w b cs new e' _ gP;have su:E'.bg b = .i_ D ((l.length+1)*k):=by simp[E']
 have bf:∀b' r,E.bg b' = r->(∀c,r≠.i_ D c)->b' ≠ b:=λb' r h h' => by rintro rfl;rw[gQ] at h;exact h' _ h.symm
 have bC:Fr E E' := by
  refine⟨rfl,rfl,rfl,by simp[E'],Gt gP,?_,?_,?_,?_,?_,?_,λb' c' Ef hc=>by
   by_cases dh:b' = b
   .subst dh;rw[gP] at hc;simp only[bq,Obj.cells.injEq] at hc;obtain⟨rfl,rfl,_⟩:=hc;exact⟨new,cF,vL⟩
   .exact⟨c',(jV b' dh).trans hc,rfl⟩⟩
  .intro b' o' c hc hv
   by_cases dh:b' = b
   .subst dh;rw[gQ] at hc;simp only[gp.jq] at hc;refine⟨by rw[su];simp only[gp.jq];omega,?_⟩;simp only[World.cell?,gP] at hv;simp only[World.cell?,cF,x8,aL hc];exact hv
   .exact⟨by rw[pn b' dh];exact hc,by rw[D8 (jV b' dh)];exact hv⟩
  .intro t n hn
   by_cases uA:t=D
   .subst uA;rw[hE] at hn;simp only[bq] at hn;exact⟨l.length+1,by simp[E'],by omega,λh=>by omega⟩
   .refine⟨n,by simp only[E'];rw[aB uA];exact hn,bU _,λ_ b' c Cx=>?_⟩;have dh:b' ≠ b:=bf b' _ Cx (λc' h=>by simp at h;exact uA h.1);exact⟨by rw[pn b' dh];exact Cx,λcs' Ef cO=>⟨cs',by rw[jV b' dh];exact cO,rfl⟩⟩
  .intro b' _ hr;have dh:b' ≠ b:=by rcases hr with hr | hr<;>exact bf b' _ hr (λc h=>by simp at h)
   exact⟨jV b' dh,pn b' dh⟩
  .intro b' _ h;have dh:b' ≠ b:=by rintro rfl;rw[su] at h;simp at h
   rw[pn b' dh] at h;exact .inl h
  .intro b' t c _ h
   by_cases dh:b' = b
   .subst dh;rw[su] at h;simp at h;obtain⟨rfl,_⟩:=h;exact⟨_,gQ⟩
   .rw[pn b' dh] at h;exact⟨c,h⟩
  .intro b' i' _ h;have dh:b' ≠ b:=by rintro rfl;rw[su] at h;simp at h
   rw[pn b' dh] at h;exact⟨_,h⟩
 have hle:E.le E' := bC.le λ_ _ h=>h
 refine⟨E',mn,bC,⟨⟨?_,?_,?_,?_,λb cs hc=>fz.mono _ bC.nl (hs.ok.cI b cs hc)⟩,?_,hs.defers,RL.mono _ hle hs.slot⟩,?_,λ_=>rfl⟩
 .intro b' cs' cO;obtain⟨k1,k2⟩:=hs.ok.box b' cs' cO;have dh:b' ≠ b:=bf b' _ k1 (λc h=>by simp at h);exact⟨by rw[pn b' dh];exact k1,k2.mono bC.nl (jV b' dh)⟩
 .intro t n mF;simp only[ab.aU] at mF;simp only[E'];split at mF
  .rename_i h;rw[aL h];exact mF
  .rename_i h;rw[aB h];exact hs.ok.aS t n mF
 .intro b' vw;have dh:b' ≠ b:=by
   rintro rfl
   have:=nX gP
   simp[E'] at vw;omega
  rw[pn b' dh];exact hs.ok.fresh b' (by simpa [E'] using vw)
 .obtain⟨N,hN⟩:=hs.ok.nt;exact⟨max N (D+1),λt tm => by simp only[E'];rw[aB (by omega)];exact hN t (by omega)⟩
 .refine tG hs.dO hle (λb' i' hr _=>?_) hs.dO.none;have dh:b' ≠ b:=bf b' _ hr (λc h=>by simp at h);exact⟨by rw[pn b' dh];exact hr,jV b' dh⟩
 .have N1:iC E'.nl k (l++[xs]) b 0:=by
   have GU:=hh.xN;refine tZ.2 ⟨λy hy=>?_,?_⟩
   .rcases lk.1 hy with h | h
    .exact fX y h
    .simp at h;subst h;exact C0
   rw[u0];refine AG.2 ⟨(tZ.1 (iC.mono _ bC.nl GU)).2,D0 (vs:=news) (by simpa using RL.mono _ bC.nl hx) h1 (λj v hv=>?_) (λj hj=>?_)⟩
   .have hj:=(kG.1 hv).1;rw[pP fX];simp only[Env.Zi,World.cell?,cF,x8];simp only[xy,dK,cz];rw[aB (show ¬(0+l.length*k+j<l.length*k) by omega),aL (show 0+l.length*k+j<l.length*k+news.length by omega)];rw[show 0+l.length*k+j - l.length*k=j from by omega];exact hv
   .rw[pP fX];simp only[lj,FU,eC,C0] at hj;simp only[Env.Zh,su,gp.jq];rw[lH];omega
  simp only[R,bL,da,cZ];exact⟨U ⟨b,0,ah⟩,cap,rfl,rD,.inr ⟨b,0,rfl,N1⟩,l.length+1,by simp[E'],bU _,λ_=>.inr ⟨b,new,e',rfl,su,cF,vL.trans dE⟩⟩
end
structure HI where
 k:Nat
 s:X
 z:X
 len:X
 x:X
 addr:X
 fo:Option Nat
 d9:Nat
 d10:Nat
 dF:Nat
def lP(o:Oper)(j:Nat):Bool:=o.after.toList.any λe=>Region.binds .any e&&e.on == j
def OO(P:Program)(t2:TypeId)(t_:Operand)(other:Nat):Option Oper->Option (X × Option Nat × Nat)
 | none=>(dB P t2 t_).map λy=>(y,ah,other)
 | some F =>
  match F.dst,t_,Bw P F with
  | some dF,.tmp p,U (.rq off y)=>if p=dF/\F.guard=ah then U (y,U off,dF) else ah
  | _,_,_=>ah
def OP(P:Program)(A I S O'':Oper)(oF:Option Oper):Option HI :=
 match A.op,A.dst,I.op,I.dst,S.op,O''.op with
 | .call c, U d9, .indexAddr t q1 zN, U d10, .store e q2 Ar, .store t2 t_ q3 =>
  match c,q1,q2,q3 with
  | { callee := .builtin .append, args := args, argTypes := Sn }, .tmp p1, .tmp p2, .tmp p3 =>
   match Sn.toList,args.toList with
   | [t', u], [xc, xp] =>
    match P.underlying t,P.underlying u,P.info? e,mA P e with
    | some (.slice e1), U (.slice e2), U i, U _ =>
     match dB P t xc,dB P u xp,dB P t zN,dB P e Ar,OO P t2 t_ (d9+d10+1) oF with
     | some s, U z, U len, U x, U (addr, fo, dF) =>
      if (t' = t/\e1=e/\e2=e/\i.bytes<=4096/\0<i.size)/\(p1=d9/\p2=d10/\p3=d9/\fR P t2=U 1)/\(A.guard=ah/\I.guard=ah/\S.guard=ah/\O''.guard=ah/\S.dst=ah/\O''.dst=ah)/\d9≠d10/\d9≠dF/\d10≠dF then
       U ⟨i.size,s,z,len,x,addr,fo,d9,d10,dF⟩
      else ah
     | _,_,_,_,_=>ah
    | _,_,_,_=>ah
   | _,_=>ah
  | _,_,_,_=>ah
 | _,_,_,_,_,_=>ah
def vI(ops:Array Oper):Option Oper :=
 match ops[ops.size - 2]? with
 | some F=>match F.op with | .fieldAddr _ _ _=>U F | _=>ah
 | none=>ah
def iX(ops:Array Oper):Nat:=if (vI ops).isSome then ops.size - 5 else ops.size - 4
def dummy(o:Oper):AO:=⟨o.dst,.mv (.c .any),ah⟩
def Ik(l1:List AO)(b:List Nat):List (AO × List Nat) :=
 let d:=ng gE (l1.map λo=>(o,[])) b
 (l1.zip d).zipIdx.map λ((o,x),i)=>(o,if o.op.EV then((bH (Bf d i+1 - rH d x)).map (rH d x+·)).filter (· != Dq d i) else [])
variable{i:Nat}
theorem acC{l1:List AO}{b:List Nat}{y:AO}(hy:l1[i]?=U y)(az:i<(Ik l1 b).length):∃ms,(Ik l1 b)[i]?=U (y,ms):=by
 unfold Ik at az ⊢
 simp only at az ⊢;generalize ng gE (l1.map λo=>(o,[])) b=d at az ⊢;generalize hL:l1.zip d=z at az ⊢;have hz:i<z.length:=by simp_all
 have e:z[i]?=U z[i]:=bY hz;have e1:z[i].1=y:=by grind
 simp_all
def Xi(P:Program)(ops:Array Oper)(l:List (AO × List Nat))(b:List Nat)(nA:Nat)(A I S O'':Oper)(oF:Option Oper):Bool :=
 (AV ops l b&&P.follows .mixedOrders)&&decide (nA+(if oF.isSome then 5 else 4)=ops.size)&&((bH nA).all λj=>lP A j) &&
  (lP I nA&&lP S nA&&lP S (nA+1)&&lP O'' nA)&&(match oF with | some F=>lP F nA&&lP O'' (nA+3) | none=>aa)
def KJ(P:Program)(ops:Array Oper):Option (List (AO × List Nat) × HI) :=
 match ops[iX ops]?,ops[iX ops+1]?,ops[iX ops+2]?,ops[ops.size - 1]?,Df P ops (ops.toList.take (iX ops)) with
 | some A, U I, U S, U O'', U l0 =>
  match OP P A I S O'' (vI ops) with
  | some hi =>
   if Xi P ops (Ik (l0++(ops.toList.drop (iX ops)).map dummy) (zQ ops.toList [])) (zQ ops.toList []) (iX ops) A I S O'' (vI ops)=aa then
    U (Ik (l0++(ops.toList.drop (iX ops)).map dummy) (zQ ops.toList []),hi) else ah
  | none=>ah
 | _,_,_,_,_=>ah
def Gn:Option Nat->V->Option V
 | none,v=>U v
 | some n,.ptr p o=>U (.ptr p (o+n))
 | some _,_=>ah
def LZ(hi:HI)(K:St->Prop)(st:St):Prop :=
 ∃D l c t' j,ev st hi.s = .sl (.tk D) hi.k l/\ev st hi.z = .sl t' hi.k [c]/\ev st hi.len = .int j l.length/\l.length+1<=aJ/\st.out.aS D=U l.length /\
  (ev st hi.x).wd=U hi.k/\c8 (ev st hi.x).cells=aa/\bK (ev st hi.x).cells=aa/\hi.d9<st.t.length/\hi.d10<st.t.length/\(hi.fo.isSome=aa->hi.dF<st.t.length) /\
  ∃p,Gn hi.fo (ev st hi.addr)=U p/\∃aV,fe st 1 (.sl (.tk D) hi.k (l++[a9 (ev st hi.x).cells])) p=U aV /\ K ⟨aV.t,aV.au,aV.out.aU D (l.length+1)⟩
structure HF(P:Program)(A I S O'':Oper)(oF:Option Oper)(hi:HI):Prop where
 app:∃c t u e i z xc xp zN Ar,A.op = .call c/\c.callee = .builtin .append/\c.argTypes=#[t,u]/\c.args=#[xc,xp]/\P.underlying t=U (.slice e)/\P.underlying u=U (.slice e) /\
  P.info? e=U i/\mA P e=U z/\i.bytes<=4096/\i.size=hi.k/\0<hi.k/\dB P t xc=U hi.s/\dB P u xp=U hi.z /\
  I.op = .indexAddr t (.tmp hi.d9) zN/\dB P t zN=U hi.len/\S.op = .store e (.tmp hi.d10) Ar/\dB P e Ar=U hi.x
 out:∃t2 t_,O''.op = .store t2 t_ (.tmp hi.d9)/\fR P t2=U 1/\(match oF with
  | none=>hi.fo=ah/\dB P t2 t_=U hi.addr
  | some F=>∃off,hi.fo=U off/\t_ = .tmp hi.dF/\F.dst=U hi.dF/\F.guard=ah/\Bw P F=U (.rq off hi.addr))
 dst:A.dst=U hi.d9/\I.dst=U hi.d10/\S.dst=ah/\O''.dst=ah
 guard:A.guard=ah/\I.guard=ah/\S.guard=ah/\O''.guard=ah
 ne:hi.d9≠hi.d10/\hi.d9≠hi.dF/\hi.d10≠hi.dF
variable{P:Program}{hi:HI}
def al9{A I S O'':Oper}{oF:Option Oper}(h:OP P A I S O'' oF=U hi):HF P A I S O'' oF hi:=by
 unfold OP at h;split at h
 case h_2=>simp at h
 rename_i c d9 t q1 zN d10 e q2 Ar t2 t_ q3 e1 e2 e3 e4 e5 e6;split at h
 case h_2=>simp at h
 rename_i args Sn p1 p2 p3;split at h
 case h_2=>simp at h
 rename_i t' u xc xp e7 e8;split at h
 case h_2=>simp at h
 rename_i et eu i z g1 g2 g3 g4;split at h
 case h_2=>simp at h
 rename_i s zx len x addr fo dF k1 k2 k3 k4 k5;split at h
 case isFalse=>simp at h
 rename_i hc;obtain⟨⟨rfl,rfl,rfl,m1,m2⟩,⟨rfl,rfl,rfl,m3⟩,⟨m4,m5,m6,m7,m8,m9⟩,m10⟩:=hc;simp only[bq] at h;subst h;have ht:Sn=#[t',u]:=Array.ext' (by simpa using e7);have ha:args=#[xc,xp]:=Array.ext' (by simpa using e8);refine⟨⟨_,t',u,_,i,z,xc,xp,zN,Ar,e1,rfl,ht,ha,g1,g2,g3,g4,m1,rfl,m2,k1,k2,e3,k3,e5,k4⟩,⟨t2,t_,e6,m3,?_⟩,⟨e2,e4,m8,m9⟩,⟨m4,m5,m6,m7⟩,m10⟩;cases oF with
 | none =>
  simp only[OO,ec,tY] at k5;obtain⟨y,h1,rfl,rfl,rfl⟩:=k5;exact⟨rfl,h1⟩
 | some F =>
  simp only[OO] at k5;split at k5
  case h_2=>simp at k5
  rename_i dF' p off y h1 h2;split at k5
  case isFalse=>simp at k5
  rename_i hc;simp only[bq,tY] at k5;obtain⟨rfl,rfl,rfl⟩:=k5;obtain⟨rfl,hg⟩:=hc;exact⟨off,rfl,rfl,h1,hg,h2⟩
theorem JI{o:Oper}{j:Nat}(h:lP o j=aa):∃e∈o.after,Region.binds .any e=aa/\e.on=j:=by
 simp only[lP,xu,bO,I0] at h
 grind
variable{a:Act}{d:Nat}
theorem Dw{n:Nat}{v u:Value}(hd:d<a.tmps.size):(a.put (U d) v).tmps.getD n u=if n=d then v else a.tmps.getD n u:=by
 simp only[Act.put]
 by_cases h:n=d
 .simp_all
 .rw[aB h,tV,DO (gM h),<-tV]
def Cd{E:Env}:∀{l:List V} {vs:List Value} (n:Nat),RL E l vs->RL E (l.set n .any) vs
 | [],[],_,h=>by simpa using h
 | [],_::_,_,h=>by simp[RL] at h
 | _::_,[],_,h=>by simp[RL] at h
 | x :: xs, v :: vs, n, h => by
  simp only[RL] at h;cases n with
  | zero=>simp only[List.set_cons_zero,RL];exact⟨by simp[R],h.2⟩
  | succ n=>simp only[List.set_cons_succ,RL];exact⟨h.1,Cd n h.2⟩
variable{st:St}{y:V}
theorem au1{qk qm:St}{u:Value}{p:V}(h1:fe st 1 (.raw u) p=U qk)(h2:fe st 1 y p=U qm)(hy:R E.nl y u)(hy1:y.cells=[y])(hyE:R E y u)
 (hs:bS E qk a):bS E qm a:=by
 have abR:∀(cs:List V) (off:Nat) (z:V) (j:Nat),(setAt cs off [z])[j]?=if j=off then(cs[j]?).map λ_=>z else cs[j]?:=by
  intro cs;induction cs with
  | nil=>intro off z j;cases off<;>simp[setAt,over]
  | cons c cs ih =>
   intro off z j;cases off with
   | zero=>cases j<;>simp[setAt,over]<;>(cases cs<;>simp[over])
   | succ off=>cases j<;>simp[setAt,ih]
 have auw:∀(cs:List V) (off:Nat) (z:V),(setAt cs off [z]).length=cs.length:=by
  intro cs;induction cs with
  | nil=>intro off z;cases off<;>simp[setAt,over]
  | cons c cs ih=>intro off z;cases off<;>simp[setAt,over,ih]<;>(cases cs<;>simp[over])
 have box:∀(E1:Env) (b:Nat) (cs:List V) (off:Nat),R E1 y u->kF E1 b (setAt cs off [.raw u])->kF E1 b (setAt cs off [y]):=λE1 b cs off hR ⟨c,e,k1,k2,k3⟩=>by
  refine⟨c,e,k1,by rw[auw] at k2 ⊢;exact k2,λj x hx=>?_⟩;rw[abR] at hx
  by_cases hj:j=off
  .rw[aL hj] at hx;simp only[ec] at hx;obtain⟨z,hz,rfl⟩:=hx;obtain⟨v,hv,hr⟩:=k3 j (.raw u) (by rw[abR,aL hj,hz];rfl);simp only[R] at hr
   grind
  .simp_all
 cases p with
 | ptr p off =>
  cases p with
  | nq b=>simp[fe] at h1
  | au i =>
   simp only[fe,jH] at h1 h2;obtain⟨cs,e1,e2⟩:=h1;obtain⟨cs',e3,e4⟩:=h2;rw[e1] at e3;simp only[bq] at e3;subst e3;split at e2<;>simp at e2;split at e4<;>simp at e4;subst e2 e4;refine⟨hs.ok,⟨λj ds hj=>?_,λj hj=>hs.dO.none j (by simpa using hj)⟩,hs.defers,hs.slot⟩;have az:=(kG.1 e1).1
   by_cases iG:j=i
   .subst iG;simp only[List.getElem?_set_self az,bq] at hj;subst hj;obtain⟨b,q1,q2,q3⟩:=hs.dO.box j (setAt cs off [.raw u]) (by simp[V.cells,az])
    grind
   .simp only[Tf (gM iG)] at hj;exact hs.dO.box j ds (by simp only[Tf (gM iG)];exact hj)
  | out i =>
   simp only[fe,jH] at h1 h2;obtain⟨cs,e1,e2⟩:=h1;obtain⟨cs',e3,e4⟩:=h2;rw[e1] at e3;simp only[bq] at e3;subst e3;split at e2<;>simp at e2;split at e4<;>simp at e4;subst e2 e4;refine⟨⟨λj ds hj=>?_,hs.ok.aS,hs.ok.fresh,hs.ok.nt,hs.ok.cI⟩,hs.dO,hs.defers,hs.slot⟩
   by_cases iG:j=i
   .subst iG;rw[ab.fE] at hj;simp only[bq] at hj;subst hj;obtain⟨q2,q3⟩:=hs.ok.box j (setAt cs off [.raw u]) (by simp[V.cells,ab.set])
    grind
   .rw[ab.fQ _ _ iG] at hj;exact hs.ok.box j ds (by rw[ab.fQ _ _ iG];exact hj)
 | _=>simp[fe] at h1
def ab8{qm:St}{u:Value}{p:V}(h2:fe st 1 y p=U qm)(hu:u.oneCell' = aa):∃qk,fe st 1 (.raw u) p=U qk/\qk.t=st.t:=by
 cases p with
 | ptr p off =>
  cases p with
  | nq b=>simp[fe] at h2
  | au i =>
   simp only[fe,jH] at h2;obtain⟨cs',e3,e4⟩:=h2;split at e4<;>simp at e4;rename_i hc;exact⟨⟨st.t,st.au.set i (setAt cs' off (V.raw u).cells),st.out⟩,by simp only[fe,e3,yU];rw[aL ⟨hc.1,by simp[V.wd,hu],by simp[V.cells,c8,V.one,hu]⟩],rfl⟩
  | out i =>
   simp only[fe,jH] at h2;obtain⟨cs',e3,e4⟩:=h2;split at e4<;>simp at e4;rename_i hc;exact⟨⟨st.t,st.au,st.out.set i (setAt cs' off (V.raw u).cells)⟩,by simp only[fe,e3,yU];rw[aL ⟨hc.1,by simp[V.wd,hu],by simp[V.cells,c8,V.one,hu],by simp[V.cells,bK,V.cS]⟩],rfl⟩
 | _=>simp[fe] at h2
def Sa{p:V}{n m:Nat}:fe ⟨st.t,st.au,st.out.aU D m⟩ n y p=(fe st n y p).map λs=>⟨s.t,s.au,s.out.aU D m⟩:=by
 cases p with
 | ptr p off =>
  cases p with
  | nq b=>simp[fe]
  | au i =>
   simp only[fe];cases st.au[i]? with
   | none=>rfl
   | some cs=>simp only[yU];split<;>rfl
  | out i =>
   simp only[fe];show((st.out.box i).bind _)=_;cases st.out.box i with
   | none=>rfl
   | some cs=>simp only[yU];split<;>rfl
 | _=>rfl
variable{aV:St}
theorem ab9{p:V}{n:Nat}(h:fe st n y p=U aV):aV.out.aS=st.out.aS/\aV.t=st.t:=by
 cases p with
 | ptr p off =>
  cases p with
  | nq b=>simp[fe] at h
  | au i =>
   simp only[fe,jH] at h
   grind
  | out i =>
   simp only[fe,jH] at h;obtain⟨cs,_,e2⟩:=h;split at e2<;>simp at e2;subst e2;exact⟨rfl,rfl⟩
 | _=>simp[fe] at h
section
variable {P:Program} {ops:Array Oper}
structure Tl(ops:Array Oper)(hi:HI)(nA D:Nat)(l:List (List V))(xs:List V)(p:V)(hF:Bool)(E0:Env)(tw:List V)(s1:St)(listed:Array Bool)(a:Act)(w:World):Prop where
 size:listed.size=ops.size
 pre:∀j,j<=nA->listed.getD j aq=aa
 rel:∃E st b cap,E.w=w/\Fr E0 E/\bS E st a/\st.t=tw/\a.tmps.getD hi.d9 undef = .slice (U ⟨b,0,ah⟩) (l.length+1) cap /\
  (listed.getD (nA+1) aq=aa->a.tmps.getD hi.d10 undef = .pointer (U ⟨b,l.length*hi.k,ah⟩)) /\
  (hF=aa->listed.getD (nA+3) aq=aa->listed.getD (ops.size - 1) aq=aq->R E p (a.tmps.getD hi.dF undef)) /\
  (listed.getD (nA+2) aq=aq->DS E D hi.k l b cap) /\
  (listed.getD (nA+2) aq=aa->R E.nl (.sl (.tk D) hi.k (l++[xs])) (.slice (U ⟨b,0,ah⟩) (l.length+1) cap)) /\
  (if listed.getD (ops.size - 1) aq=aa then fe (if listed.getD (nA+2) aq=aa then ⟨s1.t,s1.au,s1.out.aU D (l.length+1)⟩ else s1) 1 (.raw (.slice (U ⟨b,0,ah⟩) (l.length+1) cap)) p=U st
    else st=if listed.getD (nA+2) aq=aa then ⟨s1.t,s1.au,s1.out.aU D (l.length+1)⟩ else s1)
def abS{l:List V}{n:Nat}{x:V}(h:l[n]?=U x):l.set n x=l:=by
 have:=(kG.1 h)
 obtain⟨h1,h2⟩:=this;rw[<-h2,adq]
variable{listed:Array Bool}
theorem BO(hi:i<listed.size)(j:Nat):(listed.setIfInBounds i aa).getD j aq=if j=i then aa else listed.getD j false:=by
 by_cases h:j=i
 .simp_all
 .rw[aB h,tV,DO (gM h),<-tV]
def Je(h:st.t=aV.t)(x:X):ev st x=ev aV x:=by cases x<;>simp[ev,h]
structure TF(P:Program)(ops:Array Oper)(hi:HI)(nA:Nat)(hF:Bool)(D:Nat)(l:List (List V))(xs:List V)(p:V)(s1:St):Prop where
 hf:HF P (ops.getD nA default) (ops.getD (nA+1) default) (ops.getD (nA+2) default) (ops.getD (ops.size - 1) default) (if hF then U (ops.getD (nA+3) default) else ah) hi
 size:nA+(if hF then 5 else 4)=ops.size
 eI:lP (ops.getD (nA+1) default) nA=aa
 eS:lP (ops.getD (nA+2) default) nA=aa/\lP (ops.getD (nA+2) default) (nA+1)=aa
 eO:lP (ops.getD (ops.size - 1) default) nA=aa
 eF:hF=aa->lP (ops.getD (nA+3) default) nA=aa/\lP (ops.getD (ops.size - 1) default) (nA+3)=aa
 len:∃j,ev s1 hi.len = .int j l.length
 aS:s1.out.aS D=U l.length
 wd:(ev s1 hi.x).wd=U hi.k
 one:c8 (ev s1 hi.x).cells=aa
 cS:bK (ev s1 hi.x).cells=aa
 exs:xs=a9 (ev s1 hi.x).cells
 d9:s1.t[hi.d9]?=U .any
 d10:s1.t[hi.d10]?=U .any
 dF:hF=aa->s1.t[hi.dF]?=U .any
 rq:Gn hi.fo (ev s1 hi.addr)=U p
 st:∃qm,fe s1 1 (.sl (.tk D) hi.k (l++[xs])) p=U qm
theorem BE{ops:Array Oper}{o:Oper}(h:ops[i]?=U o):ops.getD i default=o:=by simp_all
def Ij{o:Oper}(h:o.guard=ah):Region.wanted o (yielded ops a.tmps)=true:=by simp[Region.wanted,h]
variable{w:World}
theorem avs{nA:Nat}{hF:Bool}{l:List (List V)}{xs:List V}{p:V}{s1:St}(T:TF P ops hi nA hF D l xs p s1){E0:Env}{Q:Exit->Act->World->Prop}
 (h:Tl ops hi nA D l xs p hF E0 s1.t s1 listed a w) {i:Nat} (hr:i∈Region.ready .any ops listed) {K:Act->World->Prop}
 (hK:∀a w,Tl ops hi nA D l xs p hF E0 s1.t s1 (listed.setIfInBounds i aa) a w->K a w):wpOp P ops Q i K a w:=by
 obtain⟨EJ,o,ho,dd⟩:=mem_ready.1 hr;have az:i<ops.size:=(mX.1 ho).1;have p7 : i<listed.size:=by grind
 have EK : listed.getD i aq=false:=by grind
 have hgt:nA<i:=by
  rcases Cb nA i with hq | hq
  .exact hq
  .rw[h.pre i hq] at EK;simp at EK
 have qK:=BO p7;have pj:=BE ho;have Bm : (listed.setIfInBounds i aa).size=ops.size:=by simp[h.size]
 have J7 : ∀j,j<=nA->(listed.setIfInBounds i aa).getD j aq=true:=λj hj=>by rw[qK,aB (by omega)];exact h.pre j hj
 obtain⟨E,st,bk,cap,rfl,bC,hs,fM,Ex,JT,Om,JX,Ow,hO⟩:=h.rel;have dE:=T.size;have GS:s1.t.length=a.tmps.size:=by have:=iV hs.slot;rw[fM] at this;simpa using this
 have W3:hi.d9<a.tmps.size:=by rw[<-GS];exact(kG.1 T.d9).1
 have Ob:hi.d10<a.tmps.size:=by rw[<-GS];exact(kG.1 T.d10).1
 have ax2:nA+2<ops.size - 1:=by grind
 have po:∀j,j≠i->(listed.setIfInBounds i aa).getD j aq=listed.getD j false:=λj hj=>by rw[qK,aB hj]
 have made:(listed.setIfInBounds i aa).getD i aq=true:=by grind
 unfold wpOp;rw[ho];simp only;have TT:∀(E' : Env) (aV : St) (a:Act) (d:Nat) (v:Value),aV.t=s1.t->s1.t[d]?=U .any->bS E' aV a->bS E' aV (a.put (U d) v):=λE' aV a d v e1 e2 h=>by
  have:=bS.put h (v:=.any) (x:=v) (by simp[R]) (U d)
  have e:aV.put (U d) .any=aV := by
   simp only[St.put];rw[e1,abS e2,<-e1]
  rw[e] at this;exact this
 by_cases hI:i=nA+1
 ·-- the element's address
  subst hI;obtain⟨c,t,u,e,inf,z,xc,xp,zN,Ar,_,_,_,_,q5,_,q7,_,_,Dx,_,_,_,q14,q15,_,_⟩:=T.hf.app;rw[pj] at q14;have hg:=T.hf.guard.2.1;rw[pj] at hg;have ny:=T.hf.dst.2.1;rw[pj] at ny;rw[Ij hg,aL rfl];left;obtain⟨jk,hlen⟩:=T.len;have NV:=qa (E:=E) (st:=st) (a:=a) hs.slot q15;rw[Je fM,hlen] at NV;simp only[R] at NV;have hn:fR P e=U hi.k:=by simp[fR,q7,Dx]
  have e9:(execOp a.eval o).run P E.w = .ok (.value (.pointer (U ⟨bk,l.length*hi.k,ah⟩))) E.w:=by
   have alG : a.eval (.tmp hi.d9) = .slice (U ⟨bk,0,ah⟩) (l.length+1) cap:=Ex;simp[execOp,q14,alG,NV,Instr.indexAt,asIntOf,run_underlying q5,tL hn,rj]
  unfold Oper.wp;rw[e9];refine hK _ _ ⟨Bm,J7,E,st,bk,cap,rfl,bC,?_,fM,?_,?_,?_,?_,?_,?_⟩
  .rw[ny];exact TT E st a hi.d10 _ fM T.d10 hs
  .rw[ny,Dw Ob,aB T.hf.ne.1];exact Ex
  .intro _;rw[ny,Dw Ob,aL rfl]
  .intro h1 h2 h3;rw[qK,aB (by omega)] at h2;rw[po _ (by omega)] at h3;rw[ny,Dw Ob,aB (gM T.hf.ne.2.2)];exact Om h1 h2 h3
  .intro h1;rw[qK,aB (by omega)] at h1;exact JX h1
  .intro h1;rw[qK,aB (by omega)] at h1;exact Ow h1
  .rw[po _ (by omega),po _ (by omega)];exact hO
 by_cases hS:i=nA+2
 ·-- the element is filled in
  subst hS;obtain⟨c,t,u,e,inf,z,xc,xp,zN,Ar,_,_,_,_,_,_,q7,_,_,Dx,_,_,_,_,_,q16,q17⟩:=T.hf.app;rw[pj] at q16;have hg:=T.hf.guard.2.2.1;rw[pj] at hg;have ny:=T.hf.dst.2.2.1;rw[pj] at ny;rw[Ij hg,aL rfl];left;have WJ : listed.getD (nA+1) aq=true:=by
   have:=T.eS.2
   rw[pj] at this;obtain⟨e,h1,h2,h3⟩:=JI this;rw[<-h3];exact dd e h1 h2
  have hX:=qa (E:=E) (st:=st) (a:=a) hs.slot q17;rw[Je fM] at hX;have hn:fR P e=U hi.k:=by simp[fR,q7,Dx]
  obtain⟨r1,r2⟩:=AI hX T.wd;have r3:=RL.rI (E:=E) (E' := E.nl) _ (Env.le.refl E.nl) T.cS r1;have r4:=Dr r1 T.one;obtain⟨E',k1,k2,k3,k4,k5⟩:=amd (P:=P) hs (JX EK) hn (RL.erase _ r3) r2 r4;rw[<-T.exs] at k4;have e9:(execOp a.eval o).run P E.w = .ok .skip E'.w:=by
   have e1:a.eval (.tmp hi.d10) = .pointer (U ⟨bk,l.length*hi.k,ah⟩):=JT WJ;simp[execOp,q16,e1,Lf k1]
  unfold Oper.wp;rw[e9];show K (a.put o.dst undef) E'.w;rw[ny];have hle:E.le E' := k2.le λj b hb=>by rw[k5];exact hb
  refine hK _ _ ⟨Bm,J7,E',_,bk,cap,rfl,bC.trans k2,k3,fM,Ex,?_,?_,?_,?_,?_⟩
  .intro _;exact JT WJ
  .intro h1 h2 h3;rw[qK,aB (by omega)] at h2;rw[po _ (by omega)] at h3;exact R.mono _ hle (Om h1 h2 h3)
  .intro h1;rw[qK,aL rfl] at h1;simp at h1
  .intro _;exact k4
  .rw[po (ops.size - 1) (by omega),made];rw[EK] at hO;simp only[dK,cz] at hO;simp only[db];split at hO
   .rename_i h1;rw[aL h1,Sa,hO];rfl
   .rename_i h1;rw[aB h1,hO]
 by_cases hOi:i=ops.size - 1
 ·-- the list is laid down
  subst hOi;obtain⟨t2,t_,q1,q2,q3⟩:=T.hf.out;rw[pj] at q1;have hg:=T.hf.guard.2.2.2;rw[pj] at hg;have ny:=T.hf.dst.2.2.2;rw[pj] at ny;rw[Ij hg,aL rfl];left;rw[EK] at hO;simp only[dK,cz] at hO;have alo:R E p (a.eval t_):=by
   cases uk:hF with
   | false =>
    rw[uk] at q3;simp only[dK,cz] at q3;have nD:=T.rq;rw[q3.1] at nD;simp only[Gn,bq] at nD
    have:=qa (E:=E) (st:=st) (a:=a) hs.slot q3.2
    rw[Je fM,nD] at this;exact this
   | true =>
    rw[uk] at q3;simp only[db] at q3;obtain⟨off,_,ha,_⟩:=q3;subst ha
    have:=(T.eF uk).2
    rw[pj] at this;obtain⟨e,h1,h2,h3⟩:=JI this;exact Om uk (by rw[<-h3];exact dd e h1 h2) EK
  obtain⟨qm,vJ⟩:=T.st
  let v:Value:=.slice (U ⟨bk,0,ah⟩) (l.length+1) cap
  have iq:v.oneCell' = true:=rfl;obtain⟨aV,G7,amk⟩:∃aV,fe st 1 (.raw v) p=U aV /\ aV.t=st.t:=by
   rw[hO];split
   .exact ab8 (by rw[Sa,vJ];rfl) iq
   .exact ab8 vJ iq
  refine Oper.wp_mono ?_ (acU (Q:=Q) (K:=λ_ s=>s=aV) hs (by omega) q1 q2 alo (ay:=.raw v) (by simp only[R];exact Ex) G7 rfl);rintro a' w' ⟨E',v',u',s',rfl,lQ,eG,_,rfl,rfl⟩;rw[ny];simp only[Act.put];have vM:listed.getD (nA+2) aq=aq->E'.aS D=U l.length:=λhq=>by
   refine eG.ok.aS D _ ?_;rw[(ab9 G7).1,hO,hq];simpa using T.aS
  refine hK _ _ ⟨Bm,J7,E',_,bk,cap,rfl,bC.trans lQ,eG,by rw[amk,fM],Ex,?_,?_,?_,?_,?_⟩
  .intro h1;rw[po _ (by omega)] at h1;exact JT h1
  .intro _ _ h3;rw[qK,aL rfl] at h3;simp at h3
  .intro h1;rw[po _ (by omega)] at h1;exact(JX h1).mono lQ (vM h1)
  .intro h1;rw[po _ (by omega)] at h1;exact R.mono _ lQ.nl (Ow h1)
  .rw[made,po _ (by omega)];simp only[db];rw[<-hO];exact G7
 -- the field's address
 have uk:hF=true:=by
  cases hq:hF with
  | true=>rfl
  | false=>rw[hq] at dE;simp at dE;omega
 have Oy:i=nA+3:=by rw[uk] at dE;simp at dE;omega
 subst Oy;obtain⟨t2,t_,_,_,q3⟩:=T.hf.out;rw[uk] at q3;simp only[db] at q3;obtain⟨off,q4,_,q5,q6,q7⟩:=q3;rw[pj] at q5 q6 q7;rw[Ij q6,aL rfl];left;have Oc:hi.dF<a.tmps.size:=by rw[<-GS];exact(kG.1 (T.dF uk)).1
 have nD:=T.rq;rw[q4] at nD;have mq:(a_.rq off hi.addr).bN P st (λv s=>v=p/\s=st):=by
  simp only[a_.bN];rw[Je fM];cases hq:ev s1 hi.addr<;>rw[hq] at nD<;>simp[Gn] at nD ⊢;exact nD
 refine Oper.wp_mono ?_ (Hv (Q:=Q) q7 hs mq);rintro a' w' ⟨E',v',u',s',rfl,lQ,eG,hv,rfl,rfl,rfl⟩;rw[q5];have vM:listed.getD (nA+2) aq=aq->E'.aS D=U l.length:=λhq=>by
  refine eG.ok.aS D _ ?_;rw[hq] at hO;simp only[dK,cz] at hO;split at hO
  .rw[(ab9 hO).1];exact T.aS
  .rw[hO];exact T.aS
 refine hK _ _ ⟨Bm,J7,E',_,bk,cap,rfl,bC.trans lQ,TT E' _ a hi.dF _ fM (T.dF uk) eG,fM,?_,?_,?_,?_,?_,?_⟩
 .rw[Dw Oc,aB T.hf.ne.2.1];exact Ex
 .intro h1;rw[qK,aB (by omega)] at h1;rw[Dw Oc,aB T.hf.ne.2.2];exact JT h1
 .intro _ _ _;rw[Dw Oc,aL rfl];exact hv
 .intro h1;rw[qK,aB (by omega)] at h1;exact(JX h1).mono lQ (vM h1)
 .intro h1;rw[qK,aB (by omega)] at h1;exact R.mono _ lQ.nl (Ow h1)
 .have h5:nA+5=ops.size:=by rw[uk] at dE;simpa using dE
  rw[po _ (by omega),po _ (by omega)];exact hO
end
def FJ(fo:Option Nat)(d:Nat)(t:List V):List V:=match fo with | some _=>t.set d .any | none=>t
def tT(hi:HI)(t:List V):List V:=FJ hi.fo hi.dF ((t.set hi.d9 .any).set hi.d10 .any)
def Iu(hi:HI)(K:St->Prop)(st:St):Prop:=LZ hi K ⟨tT hi st.t,st.au,st.out⟩
theorem adU{t:List V}{e:Nat}(h:t[e]?=U .any):(t.set d .any)[e]?=U .any:=by grind
def TS{t:List V}(h:d<t.length):(t.set d .any)[d]?=U .any:=by simp[h]
def SA(hi:HI)(t:List V):(tT hi t).length=t.length:=by unfold tT FJ;cases hi.fo<;>simp
theorem acD{fo:Option Nat}{e:Nat}{t:List V}(h:t[e]?=U .any):(FJ fo d t)[e]?=U .any:=by
 unfold FJ;cases fo
 .exact h
 .grind
def awH{t:List V}(h:hi.d9<t.length):(tT hi t)[hi.d9]?=U .any:=acD (adU (TS h))
def awG{t:List V}(h:hi.d10<t.length):(tT hi t)[hi.d10]?=U .any:=acD (TS (by simpa using h))
variable{off:Nat}
theorem awI{t:List V}(hf:hi.fo=U off)(h:hi.dF<t.length):(tT hi t)[hi.dF]?=U .any:=by
 unfold tT FJ
 grind
def awJ{t:List V}{us:List Value}(h:RL E t us):RL E (tT hi t) us:=by
 unfold tT FJ;cases hi.fo
 .exact Cd _ (Cd _ h)
 .exact Cd _ (Cd _ (Cd _ h))
theorem abL{S:Nat->Bool}{n:Nat}:∀{tr:List TR} {i:Nat},(∀j,S (i+j)=decide (i+j<n))->di S i tr=tr.take (n - i)
 | [],i,_=>by simp[di]
 | r :: tr, i, h => by
  have h0:=h 0;rw[yS] at h0;have ih:=abL (S:=S) (n:=n) (tr:=tr) (i:=i+1) λj=>by
   have:=h (j+1)
   grind
  simp only[di,h0]
  by_cases hi:i<n
  .simp only[hi,bu,db,ih];rw[show n - i=(n - (i+1))+1 from by omega,yR]
  .simp only[hi,cX,dK,cz,ih];rw[show n - (i+1)=0 from by omega,show n - i=0 from by omega];simp
def abf:∀{a b:List TR} {t:List V},runT (a++b) t=runT b (runT a t)
 | [],_,_=>rfl
 | r::a,b,t=>by simp only[gY,runT];exact abf
def aba:∀{a b:List TR} {s:dZ},eW (a++b) s=eW b (eW a s)
 | [],_,_=>rfl
 | r::a,b,t=>by simp only[gY,eW];exact aba
def abe{E:Env}{us:List Value}:∀{tr:List TR} {t:List V},(∀r∈tr,r.val = .any)->RL E t us->RL E (runT tr t) us
 | [],_,_,h=>h
 | r :: tr, t, hv, h => by
  simp only[gf] at hv;simp only[runT];refine abe hv.2 ?_;cases hd:r.dst with
  | none=>exact h
  | some d=>simp only[l6,hv.1];exact Cd d h
def aa':∀{tr:List TR} {s:dZ},(∀r∈tr,r.bB=aq)->eW tr s=s
 | [],_,_=>rfl
 | r :: tr, s, h => by
  simp only[gf] at h;simp only[eW,h.1,dK,cz];exact aa' h.2
section
variable {P:Program} {ops:Array Oper}
variable{l:List (AO × List Nat)}
theorem aov(h:KJ P ops=U (l,hi)):
 ∃b,B5 ops l b/\b.length=ops.size/\P.follows .mixedOrders=aa/\(∀(i:Nat) o,i<iX ops->ops[i]?=U o->∃x:AO × List Nat,l[i]?=U x/\wS P ops o=U x.1) /\
  (∀(i:Nat) o,iX ops<=i->ops[i]?=U o->∃ms,l[i]?=U (dummy o,ms)) /\
  HF P (ops.getD (iX ops) default) (ops.getD (iX ops+1) default) (ops.getD (iX ops+2) default) (ops.getD (ops.size - 1) default) (vI ops) hi /\
  iX ops+(if (vI ops).isSome then 5 else 4)=ops.size/\(∀j,j<iX ops->lP (ops.getD (iX ops) default) j=aa) /\
  lP (ops.getD (iX ops+1) default) (iX ops)=aa/\(lP (ops.getD (iX ops+2) default) (iX ops)=aa/\lP (ops.getD (iX ops+2) default) (iX ops+1)=aa) /\
  lP (ops.getD (ops.size - 1) default) (iX ops)=aa/\(∀F,vI ops=U F->lP F (iX ops)=aa/\lP (ops.getD (ops.size - 1) default) (iX ops+3)=aa):=by
 unfold KJ at h;split at h
 case h_2=>simp at h
 rename_i A I S O'' l0 a1 a2 a3 a4 a5;split at h
 case h_2=>simp at h
 rename_i fL aly;split at h
 case isFalse=>simp at h
 rename_i hc;simp only[bq,tY] at h;obtain⟨rfl,rfl⟩:=h;unfold Xi at hc;simp only[bO,cU] at hc;obtain⟨⟨⟨⟨⟨c1,c2⟩,c3⟩,c4⟩,c5⟩,c6⟩:=hc;rw[BE a1,BE a2,BE a3,BE a4];have hlen:=(facts c1).size;have hA:iX ops<ops.size:=(mX.1 a1).1;obtain⟨g1,g2⟩:=Qm a5;have CN:l0.length=iX ops:=by grind
 refine⟨_,facts c1,?_,c2,λi o hi ho=>?_,λi o hi ho=>?_,al9 aly,c3,λj hj=>?_,c5.1.1.1,⟨c5.1.1.2,c5.1.2⟩,c5.2,λF hF=>?_⟩
 .unfold AV at c1
  grind
 .obtain⟨x,k1,k2⟩:=g2 i o (by rw[Tg,aL hi];simpa using ho);obtain⟨ms,hm⟩:=acC (l1:=l0++(ops.toList.drop (iX ops)).map dummy) (b:=zQ ops.toList []) (i:=i) (y:=x) (by rw[B9 (by omega)];exact k1) (by rw[hlen];omega)
  grind
 .have az:=(mX.1 ho).1;exact acC (by rw[Te (by omega),AD,Ma,CN,show iX ops+(i - iX ops)=i from by omega];simp[ho]) (by rw[hlen];exact az)
 .grind
 .grind
end
section
variable {P:Program} {ops:Array Oper}
theorem al_(dE:iX ops+(if (vI ops).isSome then 5 else 4)=ops.size):vI ops=if (vI ops).isSome=aa then U (ops.getD (iX ops+3) default) else none:=by
 cases hq:vI ops with
 | none=>rfl
 | some F =>
  rw[hq] at dE;simp only[yW,db] at dE ⊢;unfold vI at hq;split at hq
  case h_2=>simp at hq
  rename_i F0 h0;split at hq
  .simp only[bq] at hq;subst hq;rw[BE (i:=iX ops+3) (by rw[<-h0];congr 1;omega)]
  .grind
variable{K:St->Prop}{l:List (AO × List Nat)}
theorem amb{id:Nat}(hl:KJ P ops=U (l,hi))(h:c9 P l [(st.au,st.out)] [] (Iu hi K) st):
 j4 P (.region id ops aa) (λe aV => e = .normal/\K aV) st:=by
 obtain⟨b,F,pW,hf,zB,alH,Et,dE,eA,eI,eS,eO,eF⟩:=aov hl;have Es:=al_ dE;intro E a hs;refine wp_region_any hf ?_;obtain⟨bC,_,qJ⟩:=H6 hs ((Ext.refl E.w).drew);obtain⟨tr,ht,_,hK⟩:=LH (t:=st.t) (s:=(st.au,st.out)) h;have wE:[(st.au,st.out)]++mg tr=(st.au,st.out)::mg tr:=rfl;rw[wE] at ht;have hlen:=IJ ht;generalize hnA:iX ops=nA at *;generalize hhF:(vI ops).isSome=hF at *;have axU:nA+3<ops.size:=by grind
 have hoA:ops[nA]?=U (ops.getD nA default):=by rw[pE (by omega)];simp[show nA<ops.size by omega]
 -- the tail's steps in the run say nothing
 have XB:∀r∈tr.drop nA,r.val = .any/\r.bB=false:=λr hr=>by
  obtain⟨j,hj⟩:=adp.1 hr;rw[Ma] at hj;have uq:nA+j<ops.size:=by rw[<-F.size,hlen];exact(kG.1 hj).1
  obtain⟨ms,hm⟩:=alH (nA+j) _ (by omega) (pE uq);obtain⟨_,e2,run,e3,e4,_⟩:=IK (i:=0) (k:=nA+j) ht hm hj;simp only[dummy] at e3;subst e3;obtain⟨e5,_⟩:=e4 rfl;simp only[dummy,a_.bN,Exact,ev] at e5;exact⟨e5.1.symm,e2⟩
 have O4:∀{E' : Env} {us:List Value},RL E' (runT (tr.take nA) st.t) us->RL E' (runT tr st.t) us:=λ{E' us} h=>by
  have e:runT tr st.t=runT (tr.drop nA) (runT (tr.take nA) st.t):=by rw[<-abf,u_]
  rw[e];exact abe (λr hr=>(XB r hr).1) h
 have Xv:eW tr (st.au,st.out)=eW (tr.take nA) (st.au,st.out):=by
  have e:eW tr (st.au,st.out)=eW (tr.drop nA) (eW (tr.take nA) (st.au,st.out)):=by rw[<-aba,u_]
  rw[e];exact aa' (λr hr=>(XB r hr).2)
 -- what the tail asks
 obtain⟨D,ll,c,t',j,es,ez,Vk,jL,vM,uC,iq,so,h9,eK,WI,p,hp,qm,vJ,hKK⟩:=hK;generalize Xs:(⟨tT hi (cG (runT tr st.t) (eW tr (st.au,st.out))).t,(cG (runT tr st.t) (eW tr (st.au,st.out))).au,(cG (runT tr st.t) (eW tr (st.au,st.out))).out⟩:St)=s1 at es ez Vk vM uC iq so h9 eK WI hp vJ;have CT:s1.t=tT hi (runT tr st.t):=by rw[<-Xs];rfl
 have Xt:s1.au=(eW tr (st.au,st.out)).1/\s1.out=(eW tr (st.au,st.out)).2:=by rw[<-Xs];exact⟨rfl,rfl⟩
 have zr:hF=aa->∃off,hi.fo=U off:=λhq=>by
  obtain⟨_,_,_,_,q3⟩:=Et.out;rw[Es,aL hq] at q3;obtain⟨off,h1,_⟩:=q3;exact⟨off,h1⟩
 have Gy : hi.d9<(runT tr st.t).length:=by rw[CT,SA] at h9;exact h9
 have alg : hi.d10<(runT tr st.t).length:=by rw[CT,SA] at eK;exact eK
 have T:TF P ops hi nA hF D ll (a9 (ev s1 hi.x).cells) p s1:=by
  refine⟨by rw[Es] at Et;exact Et,dE,eI,eS,eO,λhq=>?_,⟨j,Vk⟩,vM,uC,iq,so,rfl,by rw[CT];exact awH Gy,by rw[CT];exact awG alg,λhq=>?_,hp,⟨qm,vJ⟩⟩
  .rw[aL hq] at Es;exact eF _ Es
  .obtain⟨off,ho⟩:=zr hq
   have:=WI (by rw[ho];rfl)
   rw[CT,SA] at this;rw[CT];exact awI ho this
 let Q' : Exit->Act->World->Prop:=λe a' w' => ∃E' aV,E'.w=w' /\ bS E' aV a' /\ Fr E E' /\ e = .normal/\K aV
 -- the end
 have fin:∀(listed:Array Bool) (a:Act) (w:World),Tl ops hi nA D ll (a9 (ev s1 hi.x).cells) p hF E s1.t s1 listed a w->(∀j,j<ops.size->listed.getD j aq=aa)->Q' .normal a w:=λlisted a w h dd=>by
  obtain⟨E',aV,bk,cap,h1,h2,h3,h4,_,_,_,_,h5,h6⟩:=h.rel;rw[dd _ (by omega),dd _ (by omega)] at h6;simp only[db] at h6;have h5:=h5 (dd _ (by omega));have amm : fe ⟨s1.t,s1.au,s1.out.aU D (ll.length+1)⟩ 1 (.sl (.tk D) hi.k (ll++[a9 (ev s1 hi.x).cells])) p=U ⟨qm.t,qm.au,qm.out.aU D (ll.length+1)⟩:=by rw[Sa,vJ];rfl
  have h7:R E' (.sl (.tk D) hi.k (ll++[a9 (ev s1 hi.x).cells])) (.slice (U ⟨bk,0,ah⟩) (ll.length+1) cap):=by
   simp only[R] at h5 ⊢;exact h5
  exact⟨E',_,h1,au1 h6 amm h5 rfl h7 h3,h2,rfl,hKK⟩
 have Oj:∀(listed:Array Bool) (i:Nat),listed.size=ops.size->i∈Region.ready .any ops listed->∀fuel,listed.toList.count aq<=fuel+1->(listed.setIfInBounds i aa).toList.count aq<=fuel:=λlisted i dE hi fuel hc=>by
  obtain⟨h1,o,ho,_⟩:=mem_ready.1 hi;have az:i<listed.size:=by rw[dE];exact(mX.1 ho).1
  have e:listed.toList[i]?=U false:=by
   have:listed[i]?=U false:=by
    rw[pE az];simpa [az] using h1
   simpa using this
  have:=count_set listed.toList i e
  simp only[ada];omega
 have JU:∀(listed:Array Bool),listed.size=ops.size->Region.ready .any ops listed=[]->∀n j,j<n->j<ops.size->listed.getD j aq=true:=λlisted dE hr n=>by
  induction n with
  | zero=>intro j h;omega
  | succ n ih =>
   intro j hj nK;cases hq:listed.getD j aq with
   | true=>rfl
   | false =>
    have:j∈Region.ready .any ops listed:=mem_ready.2 ⟨by rw[Wh _ _ (by rw[dE];exact nK)];exact hq,ops[j],pE nK,λe he hb=>by
     have:=F.back j _ (pE nK) e he hb
     exact ih e.on (by omega) (by omega)⟩
    rw[hr] at this;simp at this
 have hzero:∀(listed:Array Bool),listed.size=ops.size->listed.toList.count aq<=0->Region.ready .any ops listed=[]:=λlisted dE hc=>by
  cases hq:Region.ready .any ops listed with
  | nil=>rfl
  | cons j js =>
   obtain⟨h1,o,ho,_⟩:=mem_ready.1 (show j∈Region.ready .any ops listed by rw[hq];simp);have az:j<listed.size:=by rw[dE];exact(mX.1 ho).1
   have:aq∈listed.toList:=by
    have e:listed[j]?=U false:=by
     rw[pE az];simpa [az] using h1
    exact yP (by simpa using e)
   have:=List.count_pos_iff.2 this
   omega
 -- the tail,in every order
 have tail:∀(fuel:Nat) (listed:Array Bool) (a:Act) (w:World),Tl ops hi nA D ll (a9 (ev s1 hi.x).cells) p hF E s1.t s1 listed a w->listed.toList.count aq<=fuel->wpAny P .any ops Q' fuel listed a w:=by
  intro fuel;induction fuel with
  | zero =>
   intro listed a w h hc;have hr:=hzero listed h.size hc;exact⟨hr,fin listed a w h λj hj=>JU listed h.size hr (j+1) j (by omega) hj⟩
  | succ fuel ih =>
   intro listed a w h hc;refine⟨λhr=>fin listed a w h λj hj=>JU listed h.size hr (j+1) j (by omega) hj,λi fL => ?_⟩;exact avs T h fL λa w h' => ih _ a w h' (Oj listed i h.size fL fuel hc)
 -- what comes before
 have key:∀(fuel:Nat) (listed:Array Bool) (a:Act) (w:World),FN ops tr st.t (st.au,st.out) E (λ_ _ _=>True) listed a w->(∀j,nA<=j->listed.getD j aq=aq)->listed.toList.count aq<=fuel->wpAny P .any ops Q' fuel listed a w:=by
  intro fuel;induction fuel with
  | zero =>
   intro listed a w h hn hc;have hr:=hzero listed h.size hc
   have:=JU listed h.size hr (nA+1) nA (by omega) (by omega)
   rw[hn nA (bU _)] at this;simp at this
  | succ fuel ih =>
   intro listed a w h hn hc;refine⟨λhr=>?_,λi fL => ?_⟩
   .have:=JU listed h.size hr (nA+1) nA (by omega) (by omega)
    rw[hn nA (bU _)] at this;simp at this
   obtain⟨EJ,o,ho,dd⟩:=mem_ready.1 fL;have alV:i<ops.size:=(mX.1 ho).1;have CH : i<listed.size:=by rw[h.size];exact alV
   rcases Mi i nA with az | rfl | hgt
   .refine Ve F pW rfl ht h fL (λo ho=>let ⟨x,h1,h2⟩:=zB i o az ho;⟨x,h1,.inl ⟨h2,λ_ _ _ _ _ _ _=>trivial⟩⟩) λa w h' => ih _ a w h' (λj hj=>?_) (Oj listed i h.size fL fuel hc)
    rw[BO CH,aB (by omega)];exact hn j hj
   ·-- the row grows
    have pj:=BE ho;have yb:∀j,j<i->listed.getD j aq=true:=λj hj=>by
     have:=eA j hj
     rw[pj] at this;obtain⟨e,h1,h2,h3⟩:=JI this;rw[<-h3];exact dd e h1 h2
    obtain⟨E1,rfl,eG,Bd,_⟩:=h.rel;have hS:∀j,(λj=>listed.getD j aq) (0+j)=decide (0+j<i):=λj=>by
     rw[mc]
     by_cases hj:j<i
     .simp only[hj,bu];exact yb j hj
     .simp only[hj,cX];exact hn j (by omega)
    rw[abL hS,Nat.sub_zero] at eG;have G4:bS E1 s1 a:=by
     refine⟨?_,?_,eG.defers,?_⟩
     .rw[Xt.2,Xv];exact eG.ok
     .rw[Xt.1,Xv];exact eG.dO
     .rw[CT];exact awJ (O4 eG.slot)
    obtain⟨c',t,u,e,inf,z,xc,xp,zN,Ar,q1,q2,q3,q4,q5,q6,q7,q8,q9,Dx,q11,q12,q13,_⟩:=Et.app;rw[pj] at q1;have hg:=Et.guard.1;rw[pj] at hg;have ny:=Et.dst.1;rw[pj] at ny;unfold wpOp;rw[ho];simp only;rw[Ij hg,aL rfl];left;have e9:(execOp a.eval o).run P E1.w=((Builtin.append_ #[t,u] o.type #[a.eval xc,a.eval xp]).run P E1.w).andThen λv w' => .ok (.value v) w' := by simp[execOp,q1,q2,q3,q4,resolve,invoke,builtin]
    have GA:=qa (E:=E1) (st:=s1) (a:=a) G4.slot q12;have WY:=qa (E:=E1) (st:=s1) (a:=a) G4.slot q13;rw[es] at GA;rw[ez] at WY;obtain⟨news,r1,r2,r3,r4⟩:=R9 (P:=P) q6 WY;obtain⟨i',zv,k1,k2,k3,k4⟩:=yJ q8;rw[q7] at k1;simp only[bq] at k1;subst k1;have mr:zv.cells.size=inf.size:=by have:=iV (xL (E:=E1) k3);simp at this;omega
    obtain⟨bk,cap,E2,m1,m2,m3,m4,m5⟩:=al' (P:=P) G4 q5 q7 k2 mr q9 e9 (by rw[Dx];exact GA) (by rw[Dx];exact r1) r3 jL (G4.ok.aS D _ vM);unfold Oper.wp;rw[m2];have GS:s1.t.length=a.tmps.size:=by have:=iV G4.slot;simpa using this
    have W3:hi.d9<a.tmps.size:=by rw[<-GS];exact h9
    refine tail fuel _ _ _ ⟨by simp[h.size],λj hj=>?_,E2,s1,bk,cap,rfl,Bd.trans m3,?_,rfl,?_,?_,?_,?_,?_,?_⟩ (Oj listed i h.size fL fuel hc)
    .rw[BO CH];split
     .rfl
     .exact yb j (by omega)
    .rw[ny]
     have:=bS.put m4 (v:=.any) (x:=.slice (U ⟨bk,0,ah⟩) (ll.length+1) cap) (by simp[R]) (U hi.d9)
     have e:s1.put (U hi.d9) .any=s1:=by
      simp only[St.put];rw[abS T.d9]
     rw[e] at this;exact this
    .rw[ny,Dw W3,aL rfl]
    .intro h1;rw[BO CH,aB (by omega),hn _ (by omega)] at h1;simp at h1
    .intro _ h1;rw[BO CH,aB (by omega),hn _ (by omega)] at h1;simp at h1
    .intro _;rw[<-Dx];exact m1
    .intro h1;rw[BO CH,aB (by omega),hn _ (by omega)] at h1;simp at h1
    .have z1:(listed.setIfInBounds i aa).getD (ops.size - 1) aq=false:=by rw[BO CH,aB (by omega)];exact hn _ (by omega)
     have z2:(listed.setIfInBounds i aa).getD (i+2) aq=false:=by rw[BO CH,aB (by omega)];exact hn _ (by omega)
     rw[z1,z2];simp
   .exfalso
    have pj:=BE ho;have alL:lP o nA=true:=by
     rw[<-pj]
     by_cases h1:i=nA+1
     .rw[h1];exact eI
     by_cases h2:i=nA+2
     .rw[h2];exact eS.1
     by_cases h3:i=ops.size - 1
     .rw[h3];exact eO
     have uk:hF=true:=by
      cases hq:hF with
      | true=>rfl
      | false=>rw[hq] at dE;simp at dE;omega
     have h4:i=nA+3:=by rw[uk] at dE;simp at dE;omega
     rw[aL uk] at Es;rw[h4];exact(eF _ Es).1
    obtain⟨e,h1,h2,h3⟩:=JI alL
    have:=dd e h1 h2
    rw[h3,hn nA (bU _)] at this;simp at this
 have Bi:∀j,(Array.replicate ops.size aq).getD j aq=false:=λj=>by
  by_cases hj:j<ops.size<;>simp[hj]
 have nR:∀(tr:List TR) (q:Nat),di (λj=>(Array.replicate ops.size aq).getD j aq) q tr=[]:=by
  intro tr;induction tr with
  | nil=>intro q;rfl
  | cons r tr ih=>intro q;rw[di,aB (by rw[Bi];simp)];exact ih _
 refine key ops.size _ a _ ⟨by simp,λi o _ hi=>by rw[Bi] at hi;simp at hi,{E with w:=E.w.drew},rfl,?_,bC,trivial⟩ (λj _=>Bi j) (by simp);rw[nR];exact qJ
end
section
variable {P:Program} {E:Env} {st:St} {a:Act} {o:Oper} {K:V->St->Prop} {Q:Exit->Act->World->Prop}
def Env.jU(E:Env)(b:Nat):Env:={E with bg:=λx=>if x=b then .const else E.bg x}
variable{cs:List V}
theorem akp(hs:bS E st a)(hb:st.out.box b=U cs):
 Fr E (E.jU b)/\bS (E.jU b) ⟨st.t,st.au,st.out.del b⟩ a/\∀(j:Nat) x,cs[j]?=U x->∃v,(E.jU b).w.cell? ⟨b,j,ah⟩=U v/\((E.jU b).bg b).jq j/\R (E.jU b).nl x v:=by
 obtain⟨gQ,c,e,hc,hlen,Ba⟩:=hs.ok.box b cs hb;have hc:E.w.heap[b]?=U (.cells c e (0,0)):=hc;have bf:∀b',E.bg b' ≠ .sE->b' ≠ b:=λb' h e=>h (by rw[e];exact gQ)
 have nQ:∀b',b' ≠ b->(E.jU b).bg b' = E.bg b' := λb' h=>by simp[Env.jU,h]
 have az:=nX (w:=E.w) hc;have bC:Fr E (E.jU b):=by
  refine⟨rfl,rfl,rfl,bU _,λ_=>rfl,λb' o c' s7 hv=>?_,λt n h=>⟨n,h,bU _,λ_ b' c' hr=>⟨?_,λcs e cO=>⟨cs,cO,rfl⟩⟩⟩,λb' _ hr=>⟨rfl,?_⟩,λb' _ h=>?_,λb' t c' _ h=>?_,λb' i _ h=>?_,λb' c' e h=>⟨c',h,rfl⟩⟩
  .have:b' ≠ b:=bf b' (λe=>by rw[e] at s7;exact s7)
   exact⟨by rw[nQ b' this];exact s7,hv⟩
  .grind
  .grind
  .grind
  .by_cases e:b' = b
   .rw[e] at h;simp[Env.jU] at h
   .grind
  .by_cases e:b' = b
   .rw[e] at h;simp[Env.jU] at h
   .grind
 have hle:E.le (E.jU b):=bC.le λi b h=>h
 refine⟨bC,⟨⟨λb' cs' h=>?_,hs.ok.aS,λb' cF => ?_,hs.ok.nt,λb cs hc=>fz.mono _ bC.nl (hs.ok.cI b cs hc)⟩,tG hs.dO hle (λb' i h _=>⟨by rw[nQ b' (bf b' (by rw[h];simp))];exact h,rfl⟩) hs.dO.none,hs.defers,RL.mono _ hle hs.slot⟩,λj x hx=>?_⟩
 .simp only[ab.del] at h;split at h
  .grind
  .rename_i CQ;obtain⟨h1,h2⟩:=hs.ok.box b' cs' h;exact⟨by rw[nQ b' CQ];exact h1,kF.mono hle.nl rfl h2⟩
 .have cF : E.w.heap.size<=b' := cF;rw[nQ b' (by omega)];exact hs.ok.fresh b' cF
 .obtain⟨v,hv,hr⟩:=Ba j x hx;refine⟨v,?_,by simp[Env.jU,gp.jq],R.mono x bC.nl hr⟩;show E.w.cell? ⟨b,j,ah⟩=U v;simp[World.cell?,hc,hv]
def Qq(P:Program)(o:Oper):Option a_ :=
 match o.op with
 | .buildSlice t len ps =>
  match P.underlying t with
  | some (.slice e) =>
   match fR P e,mA P e,kV P (aj len e) (ps.toList.map (·.2)) with
   | some k,U _,U xs=>if ps.toList.map (·.1)=bH len/\len*k<=16777216 then U (.own (.new k) xs) else ah
   | _,_,_=>ah
  | _=>ah
 | _=>ah
variable{e t:TypeId}
theorem aw3(hs:bS E st a){len:Nat}{parts:Array (Nat × Operand)}{z:List V}(ho:o.op = .buildSlice t len parts)(ht:P.underlying t=U (.slice e))(hn:fR P e=U k)(hz:mA P e=U z)
 (hr:parts.toList.map (·.1)=bH len) (dE:len*k<=16777216) {l:List (List V)}
 (hf:(parts.toList.map (·.2)).length=len/\l.length=len/\(∀x∈parts.toList.map (·.2),(a.eval x).cells.size=k)/\(∀y∈l,y.length=k)/\RL E.nl l.flatten ((parts.toList.map (·.2)).map λx=>(a.eval x).cells.toList).flatten/\∀v∈((parts.toList.map (·.2)).map λx=>(a.eval x).cells.toList).flatten,v.oneCell' = aa)
 (hk:∀b,st.out.box b=ah->K (V.raw (.slice (U ⟨b,0,ah⟩) l.length l.length)) ⟨st.t,st.au,st.out.set b l.flatten⟩):o.wp P a E.w (fu E a o.dst K) Q:=by
 obtain⟨k1,k2,k3,k4,k5,k6⟩:=hf;obtain⟨i,zv,h1,h2,h3,h4⟩:=yJ hz;have hlen:parts.toList.length=len:=by grind
 let ps:List (Nat × Value):=parts.toList.map λ(i,x)=>(i,a.eval x)
 have OV:ps.map (·.1)=List.range' 0 ps.length:=by
  have:ps.map (·.1)=parts.toList.map (·.1):=by simp[ps,yL]
  rw[this,hr,DX]
  grind
 have amf:(ps.map λp=>p.2.cells.toList)=(parts.toList.map (·.2)).map λx=>(a.eval x).cells.toList:=by simp[ps,yL]
 have dd:∀p∈ps,p.2.cells.size=k:=λp hp=>by
  grind
 have pk:ps.length=len:=by grind
 have fill:∀cells:Array Value,cells.size=len*k->Instr.fill (λi=>U (i*k,k)) cells ps=U ((parts.toList.map (·.2)).map λx=>(a.eval x).cells.toList).flatten.toArray:=λcells hc=>by
  have:=Nm ps 0 cells OV dd (by rw[pk];simpa using hc)
  grind
 generalize zD:((parts.toList.map (·.2)).map λx=>(a.eval x).cells.toList).flatten=news at fill k5 k6;refine acS hs (w1:=E.w) (Ext.refl _) rfl (x:=.slice (U ⟨E.w.heap.size,0,ah⟩) len len) (v:=λb=>.raw (.slice (U ⟨b,0,ah⟩) l.length l.length)) (zs:=l.flatten) (c:=news.toArray) (e:=e) ?_ (by simpa using k5) (by simp only[R,k2]) rfl hk;have mr:(zeroValue e).run P E.w = .ok zv E.w:=by simp[zeroValue,typeInfo,h1,h2]
 have G1:(parts.map λ(i,x)=>(i,a.eval x)).toList=ps:=by simp[ps]
 have Bm : ¬(16777216<len*k):=by omega
 simp only[execOp,ho,Sem.run_bind];have key:(Instr.buildSlice t len (parts.map λ(i,x)=>(i,a.eval x))).run P E.w = .ok (.slice (U ⟨E.w.heap.size,0,ah⟩) len len) (E.w.alloc (.cells news.toArray e)):=by
  unfold Instr.buildSlice;simp only[Sem.run_bind,run_underlying ht,Result.andThen_ok,tL hn];rw[aB (by simpa using Bm)];rw[G1]
  by_cases h0:len*k=0
  .rw[aL h0];simp only[Sem.run_bind,Sem.run_pure,Result.andThen_ok];rw[fill _ (by simp)];rfl
  .rw[aB h0];simp only[Sem.run_bind,mr,Result.andThen_ok,Sem.run_pure];rw[fill _ (by simp)];rfl
 simp_all
variable{ao:a_}
theorem aq5(hl:Qq P o=U ao)(hs:bS E st a)(h:ao.bN P st K):o.wp P a E.w (fu E a o.dst K) Q:=by
 have X:=λ{t:TypeId} {x:Operand} {y:X} (hx:dB P t x=U y)=>qa (E:=E) (st:=st) (a:=a) hs.slot hx
 unfold Qq at hl;split at hl
 .rename_i t len ps ho;split at hl
  case h_2=>simp at hl
  rename_i e ht;split at hl
  case h_2=>simp at hl
  rename_i k z xs hk hz uE;split at hl
  case isFalse=>simp at hl
  rename_i hc;simp only[bq] at hl;subst hl;simp only[a_.bN] at h;unfold OQ.bN at h;split at h<;>try (exfalso;simp_all;done)
  .rename_i k0 vs e1;simp only[OQ.new.injEq] at e1;subst e1;obtain⟨l,h1,wJ,h2⟩:=h;exact aw3 hs ho ht hk hz hc.1 hc.2 (PV (E:=E) hs.slot uE h1) h2
 .simp at hl
def Qn(P:Program)(o:Oper):Option a_ :=
 match o.op with
 | .binOp op t x y _ =>
  match P.underlying t,dB P t x,dB P t y with
  | some (.pointer _),U x',U y' => match op with | .eql=>U (.wz aq x' y') | .neq=>U (.wz aa x' y') | _=>ah
  | _,_,_=>ah
 | .unOp .neg t x=>match P.underlying t,dB P t x with | some (.int k),U y=>U (.qB .sub (.c (.int k 0)) y) | _,_=>ah
 | .call c =>
  match c.callee with
  | .builtin .min =>
   match c.argTypes.toList,c.args.toList with
   | [t,u],[x,y]=>match P.underlying t,dB P t x,dB P u y with | some (.int _),U x',U y' => U (.own .min [x',y']) | _,_,_=>ah
   | _,_=>ah
  | .builtin .max =>
   match c.argTypes.toList,c.args.toList with
   | [t,u],[x,y]=>match P.underlying t,dB P t x,dB P u y with | some (.int _),U x',U y' => U (.own .max [x',y']) | _,_,_=>ah
   | _,_=>ah
  | _=>ah
 | _=>ah
variable{x:Operand}
theorem acO(hs:bS E st a){neg:Bool}{op:BinOp}(nN:op=if neg then .neq else .eql){t':TypeId}(ht:P.underlying t=U (.pointer e)){y:Operand}{vx vy:V}(ho:o.op = .binOp op t x y t')(hx:R E vx (a.eval x))(hy:R E vy (a.eval y))
 (hk:match (generalizing:=false) isNil vx,vy with | some g,.kX=>K (.bool (if neg then !g else g)) st | _,_=>False):o.wp P a E.w (fu E a o.dst K) Q:=by
 split at hk
 case h_2=>exact hk.elim
 rename_i g hg;have hp:P.underlying t=U (.pointer (P.pointee t)):=by rw[ht];simp[Program.pointee,ht]
 obtain⟨p,hv,um⟩:∃p,a.eval x = .pointer p/\p.isNone=g:=by
  unfold isNil at hg;split at hg
  .simp only[R] at hx;exact⟨ah,hx,by simpa using hg⟩
  .rename_i q off;cases q with
   | au i=>simp only[R] at hx;obtain⟨b,_,h⟩:=hx;exact⟨_,h,by simpa using hg⟩
   | out b=>simp only[R] at hx;exact⟨_,hx,by simpa using hg⟩
   | nq b=>simp only[R] at hx;exact⟨_,hx,by simpa using hg⟩
  .grind
 simp only[R] at hy;subst nN;subst um;cases neg
 .refine ey hs (x:=.bool p.isNone) ?_ (by simp[R]) hk;simp only[execOp,ho,hv,hy];simp[eqGuard,run_eql_pointer_nil E.w t p hp]
 .refine ey hs (x:=.bool (!p.isNone)) ?_ (by simp[R]) hk;simp only[execOp,ho,hv,hy];simp[eqGuard,run_neq_pointer_nil E.w t p hp]
theorem ao2(hl:Qn P o=U ao)(hs:bS E st a)(h:ao.bN P st K):o.wp P a E.w (fu E a o.dst K) Q:=by
 have X:=λ{t:TypeId} {x:Operand} {y:X} (hx:dB P t x=U y)=>qa (E:=E) (st:=st) (a:=a) hs.slot hx
 unfold Qn at hl;split at hl
 .rename_i op t x y t' ho;split at hl
  case h_2=>simp at hl
  rename_i e x' y' ht hx hy;split at hl
  .simp only[bq] at hl;subst hl;exact acO hs (neg:=false) rfl ht ho (X hx) (X hy) h
  .simp only[bq] at hl;subst hl;exact acO hs (neg:=true) rfl ht ho (X hx) (X hy) h
  .simp at hl
 .rename_i t x ho;split at hl
  case h_2=>simp at hl
  rename_i k y ht hx;simp only[bq] at hl;subst hl;have hx:=X hx;simp only[a_.bN,ev,opt,K2] at h;split at h
  case h_2=>exact h.elim
  rename_i v hv;unfold y8 at hv;split at hv
  case h_2=>simp at hv
  rename_i k' n k2 m e1 e2;simp only[V.int.injEq] at e1;obtain⟨rfl,rfl⟩:=e1;split at hv
  case isFalse=>simp at hv
  rename_i fw;obtain rfl:=Pf (fw.resolve_right (by simp[EW]));simp only[jv,bq] at hv;subst hv;have e2:ev st y = .int k m:=e2;rw[e2] at hx;simp only[R] at hx;refine ey hs (x:=.int k (k.wrap (0 - m))) ?_ (by simp only[R]) h;simp only[execOp,ho,hx];simp only[Op.unary,Op.intArith];simp
 .rename_i c ho;obtain⟨callee,args,argTypes⟩:=c;simp only at hl;split at hl
  .split at hl
   case h_2=>simp at hl
   rename_i t u x y ht hx;have e1:argTypes=#[t,u]:=by cases argTypes;simpa using ht
   have e2:args=#[x,y]:=by cases args;simpa using hx
   subst e1;subst e2;split at hl
   case h_2=>simp at hl
   rename_i k0 x' y' hu uD G8;simp only[bq] at hl;subst hl;have p8:=X uD;have C2:=X G8;simp only[a_.bN,fi] at h;unfold OQ.bN at h;split at h<;>try (exfalso;simp_all;done)
   .rename_i k n k' m e1 e2;simp only[mZ,ln] at e2;obtain⟨e2,e3⟩:=e2;rw[e2] at p8;rw[e3] at C2;simp only[R] at p8 C2;obtain⟨fw,h⟩:=h;refine ey hs (v:=.int k (if m<n then m else n)) (x:=.int k (if m<n then m else n)) ?_ (by simp only[R]) h;simp[execOp,ho,resolve,invoke,builtin,Builtin.min_,Builtin.min2,p8,C2]
  .split at hl
   case h_2=>simp at hl
   rename_i t u x y ht hx;have e1:argTypes=#[t,u]:=by cases argTypes;simpa using ht
   have e2:args=#[x,y]:=by cases args;simpa using hx
   subst e1;subst e2;split at hl
   case h_2=>simp at hl
   rename_i k0 x' y' hu uD G8;simp only[bq] at hl;subst hl;have p8:=X uD;have C2:=X G8;simp only[a_.bN,fi] at h;unfold OQ.bN at h;split at h<;>try (exfalso;simp_all;done)
   .rename_i k n k' m e1 e2;simp only[mZ,ln] at e2;obtain⟨e2,e3⟩:=e2;rw[e2] at p8;rw[e3] at C2;simp only[R] at p8 C2;obtain⟨fw,h⟩:=h;refine ey hs (v:=.int k (if n<m then m else n)) (x:=.int k (if n<m then m else n)) ?_ (by simp only[R]) h;simp[execOp,ho,resolve,invoke,builtin,Builtin.max_,Builtin.max2,p8,C2]
  .simp at hl
 .simp at hl
def Hu(P:Program)(h:List Nat)(o:Oper):a_ :=
 match (match o.dst with | some d=>if h.contains (d+100000)=aa then Qq P o else ah | none=>ah) with
 | some x=>x
 | none => match Qo P h o with
  | some x=>x
  | none => match Qn P o with
   | some x=>x
   | none=>.own .aO []
theorem aox{h:List Nat}(hs:bS E st a)(hk:(Hu P h o).bN P st K):o.wp P a E.w (fu E a o.dst K) Q:=by
 unfold Hu at hk;split at hk
 .rename_i x hx;split at hx
  .split at hx
   .exact aq5 hx hs hk
   .grind
  .grind
 .split at hk
  .rename_i x hx;exact aoy hx hs hk
  .split at hk
   .rename_i x hx;exact ao2 hx hs hk
   .simp only[a_.bN,fi] at hk;unfold OQ.bN at hk
    grind
def YS(P:Program)(h:List Nat)(ops:Array Oper)(o:Oper):Option AO :=
 match o.guard with
 | none=>U ⟨o.dst,Hu P h o,ah⟩
 | some (j, want) =>
  match (ops[j]?).bind (·.dst) with
  | some g=>U ⟨o.dst,Hu P h o,U (g,want)⟩
  | none=>ah
def Dg(P:Program)(h:List Nat)(ops:Array Oper):List Oper->Option (List AO)
 | []=>U []
 | o::os=>(YS P h ops o).bind λx=>(Dg P h ops os).map (x::·)
end
variable{s:ByteArray}{t:TypeId}{w:World}
def atT(h:P.underlying t=U .string):(Instr.range t (.string s)).run P w = .ok (.pointer (U ⟨w.heap.size,0,ah⟩)) (w.alloc (.stringIter s 0)):=by simp[Instr.range,run_underlying h]
def k_(w:World)(b:Nat)(o:Obj):World:={w with heap:=w.heap.setIfInBounds b o}
variable{p:Nat}
def abj(h:w.heap[b]?=U (.stringIter s p)):(getObj b).run P w = .ok (.stringIter s p) w:=by simp only[getObj,Sem.run,h]
def atU{o:Obj}(h:w.heap[b]?=U (.stringIter s p)):(setObj b o).run P w = .ok () (k_ w b o):=by simp only[setObj,Sem.run,h];rfl
def run_next_end(h:w.heap[b]?=U (.stringIter s p))(hp:¬p<s.size):(Instr.next (.pointer (U ⟨b,0,ah⟩)) aa t).run P w = .ok (.tuple #[.bool aq]) w:=by
 unfold Instr.next;simp only[Sem.run_bind,abj h,Result.andThen,hp,cz];rfl
def atS(h:w.heap[b]?=U (.stringIter s p))(hp:p<s.size)(hc:(s.get! p).toNat<128):(Instr.next (.pointer (U ⟨b,0,ah⟩)) aa t).run P w = .ok (.tuple #[.bool aa,.int .i64 p,.int .i32 (s.get! p).toNat]) (k_ w b (.stringIter s (p+1))):=by
 have hd:Utf8.decode s p=((s.get! p).toNat,1):=by simp[Utf8.decode,hc]
 unfold Instr.next;simp only[Sem.run_bind,abj h,Result.andThen,hp,db,hd,atU h];rfl
def BM{b':Nat}{o:Obj}(h:b' ≠ b):(k_ w b o).heap[b']?=w.heap[b']?:=by simp only[k_];rw[ac9];simp[gM h]
def abP{o o' : Obj}(h:w.heap[b]?=U o'):(k_ w b o).heap[b]?=U o:=by
 obtain⟨h1,_⟩:=mX.1 h;simp only[k_];rw[ac9];simp[h1]
def abQ{o:Obj}:(k_ w b o).heap.size=w.heap.size:=by simp[k_]
def abO{b':Nat}{o:Obj}(h:b' ≠ b):(k_ w b o).cell? ⟨b',i,ah⟩=w.cell? ⟨b',i,ah⟩:=by simp only[World.cell?,BM h]
def Env.k_(E:Env)(b:Nat)(o:Obj):Env:={E with w:=Go.Am.k_ E.w b o}
def Env.aur{o:Obj}(hr:E.bg b = .ph):E.le (E.k_ b o):=by
 refine⟨λb' i c hc hv=>⟨hc,?_⟩,λ_ _ h=>h,λt n h=>⟨n,h,bU _,λ_ b' c cF => ⟨cF,λcs e cO=>⟨cs,?_,rfl⟩⟩⟩⟩
 .have bf:b' ≠ b:=λe=>by rw[e,hr] at hc;exact hc
  exact(abO bf).trans hv
 .have bf:b' ≠ b:=λe=>by rw[e,hr] at cF;simp at cF
  exact(BM bf).trans cO
def bS.k_{o:Obj}(hr:E.bg b = .ph)(hs:bS E st a):bS (E.k_ b o) st a:=by
 have hle:=Env.aur (o:=o) hr;refine⟨⟨λb' cs h=>?_,hs.ok.aS,λb' h=>hs.ok.fresh b' (by rw[<-abQ (b:=b) (o:=o)];exact h),hs.ok.nt,λb cs hc=>fz.mono _ hle.nl (hs.ok.cI b cs hc)⟩,⟨λi cs h=>?_,hs.dO.none⟩,hs.defers,RL.mono _ hle hs.slot⟩
 .obtain⟨h1,h2⟩:=hs.ok.box b' cs h;have bf:b' ≠ b:=λe=>by rw[e,hr] at h1;simp at h1
  exact⟨h1,kF.mono hle.nl (BM bf) h2⟩
 .obtain⟨b',h1,h2,h3⟩:=hs.dO.box i cs h;have bf:b' ≠ b:=λe=>by rw[e,hr] at h2;simp at h2
  exact⟨b',h1,h2,kF.mono hle (BM bf) h3⟩
def Fr.k_{E0:Env}{q:Nat}(hf:Fr E0 E)(hr:E.bg b = .ph)(hn:E0.w.heap.size<=b)(hb:E.w.heap[b]?=U (.stringIter s p)):Fr E0 (E.k_ b (.stringIter s q)):=by
 refine⟨hf.os,hf.output,hf.tape,by rw[show(E.k_ b (.stringIter s q)).w.heap.size=E.w.heap.size from abQ];exact hf.size,λa=>?_,λb' i c hc hv=>?_,λt n h=>?_,λb' az h=>?_,hf.Gc,hf.Gd,hf.D6,λb' c e h=>by
  obtain⟨c',h1,h2⟩:=hf.shape b' c e h;have bf:b' ≠ b:=λe=>by rw[e,hb] at h1;simp at h1
  exact⟨c',(BM bf).trans h1,h2⟩⟩
 .rw[<-hf.jU a]
  by_cases e:a.block=b
  .have e1:(E.k_ b (.stringIter s q)).w.heap[a.block]?=U (.stringIter s q):=by rw[e];exact abP hb
   rw[<-e] at hb;simp only[World.frozen?,e1,hb]
  .simp only[World.frozen?,show(E.k_ b (.stringIter s q)).w.heap[a.block]?=E.w.heap[a.block]? from BM e]
 .obtain⟨h1,h2⟩:=hf.cell b' i c hc hv;have bf:b' ≠ b:=λe=>by rw[e,hr] at h1;exact h1
  exact⟨h1,(abO bf).trans h2⟩
 .obtain⟨n',h1,h2,h3⟩:=hf.tok t n h;refine⟨n',h1,h2,λe b' c cF => ?_⟩;obtain⟨h4,h5⟩:=h3 e b' c cF;refine⟨h4,λcs e' cO=>?_⟩;obtain⟨cs',h6,h7⟩:=h5 cs e' cO;have bf:b' ≠ b:=λe=>by rw[e,hr] at h4;simp at h4
  exact⟨cs',(BM bf).trans h6,h7⟩
 .obtain⟨h1,h2⟩:=hf.same b' az h;have bf:b' ≠ b:=by omega
  exact⟨(BM bf).trans h1,h2⟩
def Env.qd(E:Env)(o:Obj):Env:={w:=E.w.alloc o,bg:=λb=>if b=E.w.heap.size then .ph else E.bg b,au:=E.au,aS:=E.aS}
theorem apj(hs:bS E st a):Fr E (E.qd (.stringIter s p))/\bS (E.qd (.stringIter s p)) st a/\(E.qd (.stringIter s p)).bg E.w.heap.size = .ph/\(E.qd (.stringIter s p)).w.heap[E.w.heap.size]?=U (.stringIter s p):=by
 have hold:∀b,b<E.w.heap.size->(E.qd (.stringIter s p)).w.heap[b]?=E.w.heap[b]?:=λb hb=>heap_alloc_old E.w (.stringIter s p) hb
 have gQ:∀b,b<E.w.heap.size->(E.qd (.stringIter s p)).bg b=E.bg b:=λb hb=>by simp only[Env.qd];rw[aB (by omega)]
 have jN:(E.qd (.stringIter s p)).w.heap[E.w.heap.size]?=U (.stringIter s p):=heap_alloc_new E.w _;have s6:∀b i c,E.w.cell? ⟨b,i,ah⟩=U c->b<E.w.heap.size:=λb i c h=>by
  simp only[World.cell?] at h
  grind
 have GK:∀b i,b<E.w.heap.size->(E.qd (.stringIter s p)).w.cell? ⟨b,i,ah⟩=E.w.cell? ⟨b,i,ah⟩:=λb i hb=>by simp only[World.cell?,hold b hb]
 have bC:Fr E (E.qd (.stringIter s p)):=by
  refine⟨rfl,rfl,rfl,by simp[Env.qd],λa=>?_,λb i c hc hv=>?_,λt n h=>⟨n,h,bU _,λ_ b c hb=>?_⟩,λb hb _=>⟨hold b hb,gQ b hb⟩,λb hb h=>?_,λb t c hb h=>?_,λb i hb h=>?_,λb c e h=>⟨c,(hold b (nX h)).trans h,rfl⟩⟩
  .by_cases h:a.block<E.w.heap.size
   .simp only[World.frozen?,hold _ h]
   .by_cases h2:a.block=E.w.heap.size
    .have e2:E.w.heap[a.block]?=none:=by grind
     rw[<-h2] at jN;simp only[World.frozen?,jN,e2]
    .have e2:E.w.heap[a.block]?=none:=by grind
     have e1:(E.qd (.stringIter s p)).w.heap[a.block]?=none:=by simp[Env.qd];omega
     simp only[World.frozen?,e1,e2]
  .grind
  .by_cases az:b<E.w.heap.size
   .grind
   .have:=hs.ok.fresh b (by omega)
    grind
  .grind
  .grind
  .grind
 have hle:E.le (E.qd (.stringIter s p)):=bC.le λi b h=>h
 refine⟨bC,⟨⟨λb cs h=>?_,hs.ok.aS,λb hb=>?_,hs.ok.nt,λb cs hc=>fz.mono _ bC.nl (hs.ok.cI b cs hc)⟩,⟨λi cs h=>?_,hs.dO.none⟩,hs.defers,RL.mono _ hle hs.slot⟩,by simp[Env.qd],jN⟩
 .obtain⟨h1,h2⟩:=hs.ok.box b cs h;have az:b<E.w.heap.size:=by obtain⟨c,e,h3,_⟩:=h2;exact nX (w:=E.w) h3
  exact⟨by rw[gQ b az];exact h1,kF.mono hle.nl (hold b az) h2⟩
 .have cF : E.w.heap.size+1<=b:=by grind
  simp only[Env.qd];rw[aB (by omega)];exact hs.ok.fresh b (by omega)
 .obtain⟨b,h1,h2,h3⟩:=hs.dO.box i cs h;have az:b<E.w.heap.size:=by obtain⟨c,e,h4,_⟩:=h3;exact nX (w:=E.w) h4
  exact⟨b,h1,by rw[gQ b az];exact h2,kF.mono hle (hold b az) h3⟩
def qu(o:Oper):Option (Nat × TypeId):=match o.op,o.dst,o.guard with | .alloc t,U d,ah=>U (d,t) | _,_,_=>ah
def qv(o:Oper):Option (Nat × TypeId × Operand):=match o.op,o.dst,o.guard with | .store t (.tmp d) x,ah,ah=>U (d,t,x) | _,_,_=>ah
theorem Sp{o:Oper}(h:qu o=U (d,t)):o.op = .alloc t/\o.dst=U d/\o.guard=none:=by
 unfold qu at h
 grind
variable{x:Operand}
theorem acs{o:Oper}(h:qv o=U (d,t,x)):o.op = .store t (.tmp d) x/\o.dst=ah/\o.guard=none:=by
 unfold qv at h
 grind
def isVar(ops:Array Oper)(d:Nat)(t:TypeId):Bool:=ops.toList.any λo=>match qu o with | some (d',t')=>d' == d&&t' == t | none=>aq
def Hs(P:Program)(ops:Array Oper)(o:Oper):Option AO :=
 match qu o with
 | some (_,t)=>match mA P t,fR P t with | some z,U n=>if z.length=n then U ⟨ah,.mv (.c .any),ah⟩ else ah | _,_=>ah
 | none =>
  match qv o with
  | some (d,t,x)=>if isVar ops d t=aa then(match fR P t,dB P t x with | some n,U y=>U ⟨U d,.xI n y,ah⟩ | _,_=>ah) else wS P ops o
  | none=>wS P ops o
def E6(P:Program)(ops:Array Oper):List Oper->Option (List AO)
 | []=>U []
 | o::os=>(Hs P ops o).bind λx=>(E6 P ops os).map (x::·)
def MM(ops:Array Oper)(b:List Nat):Bool :=
 ops.toList.zipIdx.all λ(o,i)=>match qu o with
  | some (d,t)=>(ops.toList.zipIdx.any λ(o',j)=>match qv o' with | some (d',t',_)=>d' == d&&t' == t&&(b.getD j 0).testBit i | none=>aq) &&
   (ops.toList.zipIdx.all λ(o',j)=>i == j||match qu o' with | some (d',_)=>!(d' == d) | none=>aa)
  | none=>aa
def KM(ops:Array Oper):List Nat:=ops.toList.filterMap λo=>(qu o).map (·.1)
def KI(P:Program)(ops:Array Oper):Option (List Nat × List (AO × List Nat)) :=
 match E6 P ops ops.toList with
 | none=>ah
 | some l0 =>
  let b:=zQ ops.toList []
  let d:=ng gE (l0.map λo=>(o,[])) b
  let l:=(l0.zip d).zipIdx.map λ((o,x),i)=>(o,if o.op.EV then((bH (Bf d i+1 - rH d x)).map (rH d x+·)).filter (· != Dq d i) else [])
  if AV ops l b=aa/\P.follows .mixedOrders=aa/\MM ops b=aa then U (KM ops,l) else ah
theorem YT{P:Program}{ops:Array Oper}:∀{os:List Oper} {l:List AO},E6 P ops os=U l->l.length=os.length/\∀i:Nat,∀o,os[i]?=U o->∃x,l[i]?=U x/\Hs P ops o=U x
 | [],l,h=>by simp only[E6,bq] at h;subst h;exact⟨rfl,λi o h=>by simp at h⟩
 | o :: os, l, h => by
  simp only[E6,jH,ec] at h;obtain⟨x,h1,l',h2,rfl⟩:=h;obtain⟨h3,h4⟩:=YT h2
  grind
structure S3(ops:Array Oper)(b:List Nat):Prop where
 st:∀(i:Nat) o d t,ops[i]?=U o->qu o=U (d,t)->∃(j:Nat) (o' : Oper) (x:Operand),ops[j]?=U o' /\ qv o' = U (d,t,x)/\(b.getD j 0).testBit i=aa
 uniq:∀(i j:Nat) o o' d t t',ops[i]?=U o->ops[j]?=U o' -> qu o=U (d,t)->qu o' = U (d,t')->i=j
variable{ops:Array Oper}
theorem aiZ{b:List Nat}(h:MM ops b=aa):S3 ops b:=by
 unfold MM at h;rw[ma] at h;have mem:∀(i:Nat) o,ops[i]?=U o->(o,i)∈ops.toList.zipIdx:=λi o ho=>by
  grind
 refine⟨λi o d t ho hv=>?_,λi j o o' d t t' ho im hv jW => ?_⟩
 .grind
 .grind
variable{l:List (AO × List Nat)}{nv:List Nat}
def aot(h:KI P ops=U (nv,l)):
 ∃b,B5 ops l b/\b.length=ops.size/\P.follows .mixedOrders=aa/\S3 ops b/\nv=KM ops/\∀(i:Nat) o,ops[i]?=U o->∃x:AO × List Nat,l[i]?=U x/\Hs P ops o=U x.1:=by
 unfold KI at h;cases h0:E6 P ops ops.toList with
 | none=>rw[h0] at h;simp at h
 | some l0 =>
 rw[h0] at h;simp only at h;split at h
 case isFalse=>simp at h
 rename_i hc;simp only[bq,tY] at h;obtain⟨rfl,rfl⟩:=h;refine⟨_,facts hc.1,?_,hc.2.1,aiZ hc.2.2,rfl,λi o ho=>?_⟩
 .have:=hc.1
  unfold AV at this;simp only[bO,cU] at this;exact this.1.1.2
 .have hlen:=(facts hc.1).size;obtain⟨h1,h2⟩:=YT h0;obtain⟨x,k1,k2⟩:=h2 i o (by simpa using ho);have az:=(mX.1 ho).1;generalize hL:(l0.zip (ng gE (l0.map λo=>(o,[])) (zQ ops.toList [])))=z at hlen ⊢;have hz:i<z.length:=by simp at hlen;omega
  refine⟨_,by rw[AD,List.getElem?_zipIdx,bY hz];rfl,?_⟩
  have:z[i].1=x:=by
   have e:z[i]?=U z[i]:=bY hz;subst hL;rw[ado] at e;rw[k1] at e;exact(yY e.1).symm
  simpa [this] using k2
def Env.uK(E:Env)(c:Array Value)(t:TypeId):Env:={w:=E.w.alloc (.cells c t),bg:=λb=>if b=E.w.heap.size then .ph else E.bg b,au:=E.au,aS:=E.aS}
def api{c:Array Value}(hs:bS E st a):Fr E (E.uK c t)/\bS (E.uK c t) st a:=by
 have hx:=(Ext.refl E.w).alloc c t;have hold:∀b,b<E.w.heap.size->(E.uK c t).w.heap[b]?=E.w.heap[b]?:=λb hb=>hx.block b hb
 have gQ:∀b,b<E.w.heap.size->(E.uK c t).bg b=E.bg b:=λb hb=>by simp only[Env.uK];rw[aB (by omega)]
 have bC:Fr E (E.uK c t):=A3 hs.ok.fresh hx gQ λ_ _ h=>h
 have hle:E.le (E.uK c t):=bC.le λ_ _ h=>h
 refine⟨bC,Ff hs.ok bC.nl (λb h hb=>⟨by rw[gQ b hb];exact h,hold b hb⟩) (λ_ _ h=>h) (λb hb=>?_) hs.ok.nt,
  tG hs.dO hle (λb i h hb=>⟨by rw[gQ b hb];exact h,hold b hb⟩) hs.dO.none,hs.defers,RL.mono _ hle hs.slot⟩
 have cF : E.w.heap.size+1<=b:=by simpa [Env.uK] using hb
 simp only[Env.uK];rw[aB (by omega)];exact hs.ok.fresh b (by omega)
theorem auu{t:List V}(h:t.getD d .any = .any):t.set d .any=t:=by
 by_cases hd:d<t.length
 .have:t[d] = .any:=by grind
  rw[<-this];simp
 .exact List.set_eq_of_length_le (by omega)
def Env.bare(E:Env)(b k:Nat)(new:Array Value):Env :=
 {w:=E.w.setRow b new,bg:=λx=>if x=b then .jZ k else E.bg x,au:=λi=>if i=k then U b else E.au i,aS:=E.aS}
variable{cs:List V}{e:TypeId}
def aeY{E0:Env}{c:Array Value}(hs:bS E st a)(hf:Fr E0 E)(hr:E.bg b = .ph)(hn:E0.w.heap.size<=b)(hb:E.w.heap[b]?=U (.cells c e (0,0))){vs:List Value}(hv:RL E cs vs)
 {d:Nat} (hd:a.tmps[d]?=U (.pointer (U ⟨b,0,ah⟩))) :
 Fr E0 (E.bare b st.au.length vs.toArray)/\bS (E.bare b st.au.length vs.toArray) ⟨st.t.set d (.ptr (.au st.au.length) 0),st.au++[cs],st.out⟩ a:=by
 generalize hE:E.bare b st.au.length vs.toArray=E';have jV:∀b',b' ≠ b->E'.w.heap[b']?=E.w.heap[b']?:=λb' bf=>by rw[<-hE];exact setRow_other E.w b b' _ bf
 have nQ:E'.w.heap[b]?=U (.cells vs.toArray e (0,0)):=by rw[<-hE];exact setRow_heap E.w b c _ e _ hb
 have qI:∀b',b' ≠ b->E'.bg b' = E.bg b' := λb' bf=>by rw[<-hE];simp only[Env.bare];rw[aB bf]
 have su:E'.bg b = .jZ st.au.length:=by rw[<-hE];simp[Env.bare]
 have dE:E'.w.heap.size=E.w.heap.size:=by rw[<-hE];simp[Env.bare]
 have fX:∀i,i≠st.au.length->E'.au i=E.au i:=λi hi=>by rw[<-hE];simp only[Env.bare];rw[aB hi]
 have CO:E'.au st.au.length=U b:=by rw[<-hE];simp[Env.bare]
 have Bi:E.au st.au.length=none:=hs.dO.none _ (bU _);have vM:E'.aS=E.aS:=by rw[<-hE];rfl
 have s6:∀b' o',b' ≠ b->E'.w.cell? ⟨b',o',ah⟩=E.w.cell? ⟨b',o',ah⟩:=λb' o' bf=>by simp only[World.cell?,jV b' bf]
 have Ox:∀x,E'.w.frozen? x=E.w.frozen? x:=λx=>by rw[<-hE];exact Gt hb x
 have hle:E.le E' := by
  refine⟨λb' o' c' hc hv=>?_,λi b' h=>?_,λt n h=>⟨n,by rw[vM];exact h,bU _,λ_ b' c' cF => ?_⟩⟩
  .have bf:b' ≠ b:=λe=>by rw[e,hr] at hc;exact hc
   exact⟨by rw[qI b' bf];exact hc,(s6 b' o' bf).trans hv⟩
  .rw[fX i (λe=>by rw[e,Bi] at h;simp at h)];exact h
  .have bf:b' ≠ b:=λe=>by rw[e,hr] at cF;simp at cF
   exact⟨by rw[qI b' bf];exact cF,λcs' e' cO=>⟨cs',(jV b' bf).trans cO,rfl⟩⟩
 refine⟨⟨?_,?_,?_,by rw[dE];exact hf.size,λx=>(Ox x).trans (hf.jU x),λb' o' c' hc hv=>?_,λt n h=>?_,λb' az h=>?_,λb' az h=>?_,λb' t c' az h=>?_,λb' i az h=>?_,λb' c' e' h=>by
  have az:=nX (w:=E0.w) h;have bf:b' ≠ b:=by omega
  obtain⟨c1,h1,h2⟩:=hf.shape b' c' e' h;exact⟨c1,(jV b' bf).trans h1,h2⟩⟩,⟨⟨λb' ds h=>?_,λt n h=>by rw[vM];exact hs.ok.aS t n h,λb' h=>?_,by rw[vM];exact hs.ok.nt,λb cs hc=>fz.mono _ hle.nl (hs.ok.cI b cs hc)⟩,⟨λi ds h=>?_,λi hi=>?_⟩,hs.defers,?_⟩⟩
 .rw[<-hf.os,<-hE];rfl
 .rw[<-hf.output,<-hE];rfl
 .rw[<-hf.tape,<-hE];rfl
 .obtain⟨h1,h2⟩:=hf.cell b' o' c' hc hv;have bf:b' ≠ b:=λe=>by rw[e,hr] at h1;exact h1
  exact⟨by rw[qI b' bf];exact h1,(s6 b' o' bf).trans h2⟩
 .obtain⟨n',h1,h2,h3⟩:=hf.tok t n h;refine⟨n',by rw[vM];exact h1,h2,λe b' c' cF => ?_⟩;obtain⟨h4,h5⟩:=h3 e b' c' cF;have bf:b' ≠ b:=λe=>by rw[e,hr] at h4;simp at h4
  refine⟨by rw[qI b' bf];exact h4,λcs' e' cO=>?_⟩;obtain⟨MX,h6,h7⟩:=h5 cs' e' cO;exact⟨MX,(jV b' bf).trans h6,h7⟩
 .obtain⟨h1,h2⟩:=hf.same b' az h;have bf:b' ≠ b:=by omega
  exact⟨(jV b' bf).trans h1,(qI b' bf).trans h2⟩
 .have bf:b' ≠ b:=by omega
  rw[qI b' bf] at h;exact hf.Gc b' az h
 .have bf:b' ≠ b:=by omega
  rw[qI b' bf] at h;exact hf.Gd b' t c' az h
 .have bf:b' ≠ b:=by omega
  rw[qI b' bf] at h;exact hf.D6 b' i az h
 .obtain⟨h1,h2⟩:=hs.ok.box b' ds h;have bf:b' ≠ b:=λe=>by rw[e,hr] at h1;simp at h1
  exact⟨by rw[qI b' bf];exact h1,kF.mono hle.nl (jV b' bf) h2⟩
 .rw[dE] at h;have az:b<E.w.heap.size:=nX hb;rw[qI b' (by omega)];exact hs.ok.fresh b' h
 .by_cases hi:i=st.au.length
  .subst hi;simp only[List.getElem?_concat_length,bq] at h;subst h;refine⟨b,CO,su,vs.toArray,e,nQ,by have:=iV hv;simp;omega,λj x hj=>?_⟩;obtain⟨u,h1,h2⟩:=vb hv j x hj;exact⟨u,by simpa using h1,h2.mono _ hle⟩
  .have az:i<st.au.length:=by
    have:=(kG.1 h).1
    simp at this;omega
   rw[B9 az] at h;obtain⟨b',h1,h2,h3⟩:=hs.dO.box i ds h;have bf:b' ≠ b:=λe=>by rw[e,hr] at h2;simp at h2
   exact⟨b',by rw[fX i hi];exact h1,by rw[qI b' bf];exact h2,kF.mono hle (jV b' bf) h3⟩
 .simp at hi;rw[fX i (by omega)];exact hs.dO.none i (by omega)
 .have h1:=RL.mono _ hle hs.slot;have hp:R E' (.ptr (.au st.au.length) 0) (.pointer (U ⟨b,0,ah⟩)):=by simp only[R];exact⟨b,CO,rfl⟩
  have h2:=II h1 d hp
  have:a.tmps.toList.set d (.pointer (U ⟨b,0,ah⟩))=a.tmps.toList:=by
   have az:=(mX.1 hd).1
   have:a.tmps.toList[d]'(by simpa using az) = .pointer (U ⟨b,0,ah⟩):=by have:=(mX.1 hd).2;simpa using this
   rw[<-this];exact adq (by simpa using az)
  rw[this] at h2;exact h2
section
variable {P:Program} {ops:Array Oper} {l:List (AO × List Nat)} {b:List Nat}
def adw(P:Program)(ops:Array Oper)(N:Nat)(E0:Env)(listed:Array Bool)(E:Env)(a:Act):Prop :=
 a.tmps.size=N/\∃B:Nat->Nat,∀(i:Nat) o d t,ops[i]?=U o->qu o=U (d,t)->listed.getD i aq=aa->(∀(j:Nat) o' x,ops[j]?=U o' -> qv o' = U (d,t,x)->listed.getD j aq=aq) ->
  a.tmps[d]?=U (.pointer (U ⟨B i,0,ah⟩))/\E.bg (B i) = .ph/\(∃c e,E.w.heap[B i]?=U (.cells c e (0,0))/\fR P t=U c.size)/\E0.w.heap.size<=B i /\
  ∀(i' : Nat) o' d' t',ops[i']?=U o' -> qu o' = U (d',t')->listed.getD i' aq=aa->(∀(j:Nat) o' x,ops[j]?=U o' -> qv o' = U (d',t',x)->listed.getD j aq=aq)->i≠i' -> B i≠B i'
variable{listed:Array Bool}
theorem yv{j:Nat}(h:i<listed.size):(listed.setIfInBounds i aa).getD j aq=(decide (j=i)||listed.getD j aq):=by
 by_cases iG:j=i
 .simp_all
 .rw[tV,DO (gM iG),<-tV];simp[iG]
theorem YR{o:Oper}{x:AO}(h:Hs P ops o=U x):(∃d t z n,qu o=U (d,t)/\mA P t=U z/\fR P t=U n/\z.length=n/\x=⟨ah,.mv (.c .any),ah⟩) \/
 (∃d t y n q,qv o=U (d,t,y)/\isVar ops d t=aa/\fR P t=U n/\dB P t y=U q/\x=⟨U d,.xI n q,ah⟩)\/(wS P ops o=U x/\qu o=ah/\∀d t y,qv o=U (d,t,y)->isVar ops d t=aq):=by
 unfold Hs at h;split at h
 .grind
 .rename_i hv;split at h
  .rename_i d t y hs;split at h
   .rename_i hi;split at h
    .rename_i n q hn hq;simp only[bq] at h;exact .inr (.inl ⟨d,t,y,n,q,hs,hi,hn,hq,h.symm⟩)
    .simp at h
   .rename_i hi;exact .inr (.inr ⟨h,hv,λd' t' y' e=>by rw[hs] at e;simp only[bq,tY] at e;obtain⟨rfl,rfl,_⟩:=e;simpa using hi⟩)
  .rename_i hs;exact .inr (.inr ⟨h,hv,λd t y e=>by rw[hs] at e;simp at e⟩)
variable{K:St->Prop}
theorem ahC{id:Nat}(hl:KI P ops=U (nv,l))(Xh:∀d∈nv,d<st.t.length/\st.t.getD d .any = .any)(h:c9 P l [(st.au,st.out)] [] K st):
 j4 P (.region id ops aa) (λe aV => e = .normal/\K aV) st:=by
 obtain⟨b,F,pW,hf,FA,rfl,zB⟩:=aot hl;intro E0 a0 J_;have ax5:=F.size
 -- what a pair of a new variable and its store is like
 have G0:∀(i:Nat) o d t,ops[i]?=U o->qu o=U (d,t)->isVar ops d t=true:=λi o d t ho hv=>by
  unfold isVar;rw[xu]
  grind
 have al7:∀d t,isVar ops d t=aa->∃(i:Nat) (o:Oper),ops[i]?=U o/\qu o=U (d,t):=λd t h=>by
  unfold isVar at h;rw[xu] at h;obtain⟨o,h1,h2⟩:=h;split at h2
  .rename_i d' t' hv;simp only[bO,I0] at h2;obtain⟨rfl,rfl⟩:=h2;obtain⟨i,hi⟩:=adp.1 h1
   grind
  .grind
 -- a store that is one of these has the variable's slot
 have Kb:∀(j:Nat) o d t x,ops[j]?=U o->qv o=U (d,t,x)->isVar ops d t=aa->∃y:AO × List Nat,l[j]?=U y/\y.1.dst=U d:=λj o d t x ho hv hi=>by
  obtain⟨y,h1,h2⟩:=zB j o ho
  rcases YR h2 with ⟨d',t',z,n,k1,_⟩ | ⟨d',t',y',n,q,k1,_,_,_,k2⟩ | ⟨_,_,k3⟩
  .obtain⟨e1,_⟩:=Sp k1;obtain⟨e2,_⟩:=acs hv;rw[e1] at e2;simp at e2
  .grind
  .grind
 refine Vd (X:=adw P ops a0.tmps.size E0) F pW hf h J_ (λE' => ⟨rfl,λ_=>0,λi o d t _ _ jM => by
  exfalso
  by_cases hj:i<ops.size<;>simp[hj] at jM⟩) λi o ho=>?_
 obtain⟨x,hx,hxo⟩:=zB i o ho;have axY:i<ops.size:=(mX.1 ho).1;refine⟨x,hx,?_⟩
 rcases YR hxo with ⟨d,t,z,n,hv,hz,hn,hzn,yc⟩ | ⟨d,t,y,n,q,hv,Ke,hn,hq,yc⟩ | ⟨wG,XE,EM⟩
 ·-- a variable is made
  right;obtain⟨v1,v2,v3⟩:=Sp hv;obtain⟨iz,zv,z1,z2,z3,z4⟩:=yJ hz;refine⟨v3,by rw[yc],λE a t' s v s' listed Q wI EJ Of W1 nQ hs bC hX mq=>?_⟩;rw[yc] at mq ⊢;obtain⟨rfl,mq⟩:=mq;obtain rfl:s=s' := by have:=mf (λq:St=>(q.au,q.out)) mq;simp only[cG,tY] at this;exact Prod.ext this.1 this.2
  simp only[l6];have W6:d∈KM ops:=by unfold KM;rw[To];exact⟨o,by simpa using ac' ho,by simp[hv]⟩
  have alp:t'.getD d .any = .any:=by
   rw[nQ d λj y hy C1=>?_]
   .exact(Xh d W6).2
   .obtain⟨j0,o0,x0,k1,k2,k3⟩:=FA.st i o d t ho hv;obtain⟨y0,k4,k5⟩:=Kb j0 o0 d t x0 k1 k2 (G0 i o d t ho hv)
    have:j=j0:=by
     rcases Nat.decEq j j0 with bf | he
     .exact absurd C1 (F.dst j j0 y y0 hy k4 bf d k5)
     .exact he
    subst this;exact W1 j (by rw[pW];exact(mX.1 k1).1) k3
  obtain⟨Bd,eG⟩:=api (c:=zv.cells) (t:=t) hs;have e9:(execOp a.eval o).run P E.w = .ok (.value (.pointer (U ⟨E.w.heap.size,0,ah⟩))) (E.w.alloc (.cells zv.cells t)):=by simp[execOp,v1,Instr.alloc,zeroValue,typeInfo,z1,z2,newVar,newRow]
  unfold Oper.wp;rw[e9];simp only[Oper.upon,v2];refine⟨E.uK zv.cells t,rfl,?_,bC.trans Bd,?_⟩
  .have:=bS.put eG (v:=.any) (x:=.pointer (U ⟨E.w.heap.size,0,ah⟩)) (by simp[R]) (U d)
   rw[HO] at this;simp only[l6,auu alp] at this;exact this
  .obtain⟨hN,B,hB⟩:=hX;have jN:(E.uK zv.cells t).w.heap[E.w.heap.size]?=U (.cells zv.cells t (0,0)):=heap_alloc_new E.w _;have mr:zv.cells.size=n:=by have:=iV (xL (E:=E) z3);rw[<-hzn];simp at this;omega
   refine⟨by simp[Act.put,hN],λk=>if k=i then E.w.heap.size else B k,λk o' d' uP im jW jM fM=>?_⟩;have G7 : ∀(j:Nat) o' x,ops[j]?=U o' -> qv o' = U (d',uP,x)->listed.getD j aq=false:=λj o2 x2 h1 h2=>by
    have:=fM j o2 x2 h1 h2
    rw[yv wI] at this;simp only[Aw] at this;exact this.2
   rw[yv wI] at jM
   by_cases sj:k=i
   .subst sj;rw[ho] at im;simp only[bq] at im;subst im;rw[hv] at jW;simp only[bq,tY] at jW;obtain⟨rfl,rfl⟩:=jW;simp only[db];have W5:d<a.tmps.size:=by
     have:=(Xh d W6).1
     have h0:=iV J_.slot;simp at h0;omega
    refine⟨by simp[Act.put,W5],by simp[Env.uK],⟨_,_,jN,by rw[mr];exact hn⟩,yT bC.size (bU _),λi' o' d' t' im jW Xe amj bf=>?_⟩;simp only[aB (gM bf)];have O5:∀(j:Nat) o' x,ops[j]?=U o' -> qv o' = U (d',t',x)->listed.getD j aq=false:=λj o2 x2 h1 h2=>by
     have:=amj j o2 x2 h1 h2
     rw[yv wI] at this;simp only[Aw] at this;exact this.2
    rw[yv wI] at Xe;have vD:listed.getD i' aq=true:=by simpa [gM bf] using Xe
    obtain⟨_,_,⟨c,e,hc,_⟩,_⟩:=hB i' o' d' t' im jW vD O5
    have:=nX hc
    omega
   .simp only[aB sj];have iW:listed.getD k aq=true:=by simpa [sj] using jM
    obtain⟨g1,g2,⟨c,e,g3,g4⟩,g5,g6⟩:=hB k o' d' uP im jW iW G7;have az:=nX g3;have CA:d' ≠ d:=λe=>by subst e;exact sj (FA.uniq k i o' o d' uP t im ho jW hv)
    refine⟨by simp only[Act.put];rw[DO (gM CA)];exact g1,by simp only[Env.uK];rw[aB (by omega)];exact g2,⟨c,e,((Ext.refl E.w).alloc zv.cells t).block _ az |>.trans g3,g4⟩,g5,λi' o2 d2 t2 rB uB vD vJ bf=>?_⟩;have O5:∀(j:Nat) o' x,ops[j]?=U o' -> qv o' = U (d2,t2,x)->listed.getD j aq=false:=λj o3 x3 h1 h2=>by
     have:=vJ j o3 x3 h1 h2
     rw[yv wI] at this;simp only[Aw] at this;exact this.2
    by_cases fL : i' = i
    .simp only[aL fL];omega
    .simp only[aB fL];rw[yv wI] at vD;exact g6 i' o2 d2 t2 rB uB (by simpa [fL] using vD) O5 bf
 ·-- its first store
  right;obtain⟨v1,v2,v3⟩:=acs hv;refine⟨v3,by rw[yc],λE a t' s v s' listed Q wI EJ Of W1 nQ hs bC hX mq=>?_⟩;rw[yc] at mq ⊢;simp only[a_.bN] at mq;obtain⟨uC,iq,rfl,mq⟩:=mq;obtain rfl:(s.1++[(ev (cG t' s) q).cells],s.2)=s' := by have:=mf (λq:St=>(q.au,q.out)) mq;simp only[cG,tY] at this;exact Prod.ext this.1 this.2
  simp only[l6];obtain⟨i0,o0,k1,k2⟩:=al7 d t Ke;obtain⟨j0,oj,xj,m1,m2,m3⟩:=FA.st i0 o0 d t k1 k2;have Xb:j0=i:=by
   obtain⟨y0,k4,k5⟩:=Kb j0 oj d t xj m1 m2 Ke
   rcases Nat.decEq j0 i with bf | he
   .have:=F.dst i j0 x y0 hx k4 (gM bf) d k5
    rw[yc] at this;exact absurd rfl this
   .exact he
  subst Xb;rw[ho] at m1;simp only[bq] at m1;subst m1;have Xy:∀(j:Nat) o' x,ops[j]?=U o' -> qv o' = U (d,t,x)->j=j0:=λj o' x' h1 h2=>by
   obtain⟨y0,k4,k5⟩:=Kb j o' d t x' h1 h2 Ke
   rcases Nat.decEq j j0 with bf | he
   .have:=F.dst j0 j x y0 hx k4 (gM bf) d k5
    rw[yc] at this;exact absurd rfl this
   .exact he
  obtain⟨hN,B,hB⟩:=hX;obtain⟨g1,g2,⟨c,e,g3,g4⟩,g5,g6⟩:=hB i0 o0 d t k1 k2 (Of i0 m3) λj o' x' h1 h2=>by rw[Xy j o' x' h1 h2];exact EJ
  have hR:=qa (E:=E) (st:=cG t' s) (a:=a) hs.slot hq;obtain⟨vu,dE⟩:=AI hR uC;have cO:c.size=n:=by rw[hn] at g4;simpa using g4.symm
  have e9:=RK (P:=P) (off:=0) hn g3 dE (by omega) (Dr vu iq);obtain⟨f1,f2⟩:=aeY hs bC g2 g5 g3 vu g1;have jN:(c.toList.take 0++(a.eval y).cells.toList++c.toList.drop (0+n)).toArray=(a.eval y).cells.toList.toArray:=by rw[S_ (by simp;omega)];simp
  rw[jN] at e9;have hde:a.eval (.tmp d) = .pointer (U ⟨B i0,0,ah⟩):=by simp[Act.eval,tV,g1]
  unfold Oper.wp;rw[show(execOp a.eval o).run P E.w = .ok .skip (E.w.setRow (B i0) (a.eval y).cells.toList.toArray) from by simp[execOp,v1,hde,Lf e9]];simp only[Oper.upon,v2];refine⟨_,rfl,f2,f1,hN,B,λk o' d' uP im jW jM fM=>?_⟩;have hkd:d' ≠ d:=λe=>by
   subst e;have e1:=FA.uniq k i0 o' o0 d' uP t im k1 jW k2;subst e1;rw[k1] at im;simp only[bq] at im;subst im;rw[k2] at jW;simp only[bq,tY] at jW;obtain⟨_,rfl⟩:=jW
   have:=fM j0 o y ho hv
   rw[yv wI] at this;simp at this
  have CM:k≠i0:=by rintro rfl;rw[k1] at im;simp only[bq] at im;subst im;rw[k2] at jW;simp only[bq,tY] at jW;exact hkd jW.1.symm
  have Xg:∀(k:Nat) o',ops[k]?=U o' -> (qu o').isSome=aa->k≠j0:=λk o' im eG => by
   rintro rfl;rw[ho] at im;simp only[bq] at im;subst im;cases hq:qu o with
   | none=>rw[hq] at eG;simp at eG
   | some p=>obtain⟨p1,p2⟩:=p;rw[(Sp hq).1] at v1;simp at v1
  have conv:∀{d t},(∀(j:Nat) o' x,ops[j]?=U o' -> qv o' = U (d,t,x)->(listed.setIfInBounds j0 aa).getD j aq=aq)->∀(j:Nat) o' x,ops[j]?=U o' -> qv o' = U (d,t,x)->listed.getD j aq=false:=λ{d t} h j o2 x2 h1 h2=>by
   have:=h j o2 x2 h1 h2
   rw[yv wI] at this;simp only[Aw] at this;exact this.2
  have OB:=Xg k o' im (by simp[jW]);rw[yv wI] at jM;have iW:listed.getD k aq=true:=by simpa [OB] using jM
  obtain⟨p1,p2,⟨c',e',p3,p4⟩,p5,p6⟩:=hB k o' d' uP im jW iW (conv fM);have vH:B k≠B i0:=p6 i0 o0 d t k1 k2 (Of i0 m3) (λj o' x' h1 h2=>by rw[Xy j o' x' h1 h2];exact EJ) CM;refine⟨p1,by simp only[Env.bare];rw[aB vH];exact p2,⟨c',e',by simp only[Env.bare];rw[setRow_other E.w (B i0) (B k) _ vH];exact p3,p4⟩,p5,λi' o2 d2 t2 rB uB vD vJ bf=>?_⟩;rw[yv wI] at vD;exact p6 i' o2 d2 t2 rB uB (by simpa [Xg i' o2 rB (by simp[uB])] using vD) (conv vJ) bf
 ·-- any other step
  left;refine⟨wG,λlisted E E' a u hX lQ => ?_⟩;obtain⟨hN,B,hB⟩:=hX;have ny:x.1.dst=o.dst:=by
   unfold wS at wG;split at wG
   .simp at wG
   .split at wG
    .simp only[bq] at wG;rw[<-wG]
    .split at wG
     .simp only[bq] at wG;rw[<-wG]
     .simp at wG
  have dE:(a.put o.dst u).tmps.size=a.tmps.size:=by cases o.dst<;>simp[Act.put]
  refine⟨by rw[dE];exact hN,B,λk o' d' uP im jW jM fM=>?_⟩;have sj:k≠i:=by rintro rfl;rw[ho] at im;simp only[bq] at im;subst im;rw[XE] at jW;simp at jW
  have OH : ∀k,k≠i->(listed.setIfInBounds i aa).getD k aq=listed.getD k false:=λk hk=>by
   rw[tV,DO (gM hk),<-tV]
  have conv:∀{d t},isVar ops d t=aa->(∀(j:Nat) o' x,ops[j]?=U o' -> qv o' = U (d,t,x)->(listed.setIfInBounds i aa).getD j aq=aq)->∀(j:Nat) o' x,ops[j]?=U o' -> qv o' = U (d,t,x)->listed.getD j aq=false:=λ{d t} Xc h j o2 x2 h1 h2=>by
   have:=h j o2 x2 h1 h2
   rw[OH j (by rintro rfl;rw[ho] at h1;simp only[bq] at h1;subst h1;rw[EM _ _ _ h2] at Xc;simp at Xc)] at this;exact this
  rw[OH k sj] at jM;obtain⟨g1,g2,⟨c,e,g3,g4⟩,g5,g6⟩:=hB k o' d' uP im jW jM (conv (G0 k o' d' uP im jW) fM);have az:=nX g3;obtain⟨h1,h2⟩:=lQ.same _ az (.inr g2);obtain⟨j0,oj,xj,m1,m2,m3⟩:=FA.st k o' d' uP im jW;obtain⟨y0,k4,k5⟩:=Kb j0 oj d' uP xj m1 m2 (G0 k o' d' uP im jW);have CA:o.dst≠U d' := λhd=>by
   have bf:i≠j0:=by rintro rfl;rw[ho] at m1;simp only[bq] at m1;subst m1;have:=EM _ _ _ m2;rw[G0 k o' d' uP im jW] at this;simp at this
   exact F.dst i j0 x y0 hx k4 bf d' k5 (by rw[ny];exact hd)
  refine⟨?_,h2.trans g2,⟨c,e,h1.trans g3,g4⟩,g5,λi' o2 d2 t2 rB uB vD vJ bf=>?_⟩
  .cases hod:o.dst with
   | none=>exact g1
   | some m=>simp only[Act.put];rw[DO (by rintro rfl;exact CA hod)];exact g1
  .have fL : i' ≠ i:=by rintro rfl;rw[ho] at rB;simp only[bq] at rB;subst rB;rw[XE] at uB;simp at uB
   rw[OH i' fL] at vD;exact g6 i' o2 d2 t2 rB uB vD (conv (G0 i' o2 d2 t2 rB uB) vJ) bf
end
inductive AC where
 | skip
 | HU (l:List AO)
 | sM (x:AC)
 | draw (l:List (AO × List Nat))
 | I_ (nv:List Nat) (l:List (AO × List Nat))
 | hole (l:List (AO × List Nat)) (h:HI)
 | seq (x y:AC)
 | cond (c:X) (x y:AC)
 | block (id:Nat) (x:AC)
 | loop (x:AC)
 | scope (x:AC)
 | Ro (l:List AO) (x:X) (dI dN dM out nxt:Nat) (y:AC)
 | exit (id:Nat)
 | ret
structure Hint where
 out:List Nat:=[]
 sM:List Nat:=[]
def AC.Ie(b:Bool)(x:AC):AC:=if b then .sM x else x
def KK(P:Program)(h:Hint)(mw my:Array Oper)(wx out wZ nxt:Nat)(y:Option AC):Option AC :=
 match mw.toList.getLast?,my.toList,y with
 | some oR, [oN, oM], U y =>
  match oR.op,oR.dst,oR.guard,oN.op,oN.dst,oN.guard,oM.op,oM.dst,oM.guard with
  | .range xt ox, U dI, ah, .next (.tmp U') aa, U dN, ah, .extract (.tmp Va) 0, U dM, ah =>
   match P.underlying xt,Dg P h.out mw mw.toList.dropLast,dB P xt ox with
   | some .string,U l,U x=>if U' = dI/\Va = dN/\wx = dM/\wZ = out then U (.Ro l x dI dN dM out nxt y) else ah
   | _,_,_=>ah
  | _,_,_,_,_,_,_,_,_=>ah
 | _,_,_=>ah
def ib(P:Program)(h:Hint):Code->Option AC
 | .skip=>U .skip
 | .region id ops aq=>(Dg P h.out ops ops.toList).map λl=>AC.Ie (h.sM.contains id) (.HU l)
 | .region id ops aa =>
  match KH P ops with
  | some l=>U (AC.Ie (h.sM.contains id) (.draw l))
  | none =>
   match KJ P ops with
   | some p=>U (AC.Ie (h.sM.contains id) (.hole p.1 p.2))
   | none=>(KI P ops).map λp=>AC.Ie (h.sM.contains id) (.I_ p.1 p.2)
 | .seq (.region i0 mw aq) (.block out (.loop (.seq (.region i1 my aq) (.seq (.cond (.tmp wx) .skip (.exit wZ)) (.block nxt b))))) =>
  match KK P h mw my wx out wZ nxt (ib P h b) with
  | some r=>U r
  | none=>match ib P h (.region i0 mw aq),ib P h (.block out (.loop (.seq (.region i1 my aq) (.seq (.cond (.tmp wx) .skip (.exit wZ)) (.block nxt b))))) with | some x,U y=>U (.seq x y) | _,_=>ah
 | .seq a b=>match ib P h a,ib P h b with | some x,U y=>U (.seq x y) | _,_=>ah
 | .cond c a b=>match dB P 0 c,ib P h a,ib P h b with | some c,U x,U y=>U (.cond c x y) | _,_,_=>ah
 | .block id a=>(ib P h a).map (.block id)
 | .loop a=>(ib P h a).map .loop
 | .scope a=>(ib P h a).map .scope
 | .exit id=>U (.exit id)
 | .ret=>U .ret
 | .label _=>U .skip
 | _=>ah
def a7(st:St)(K:St->Prop):Prop:=∀E a,bS E st a->∃E' aV,E'.w=E.w/\Fr E E' /\ bS E' aV a/\K aV
variable{K:St->Prop}
def a7.id(h:K st):a7 st K:=λE _ hs=>⟨E,st,rfl,Fr.refl E,hs,h⟩
variable{K':St->Prop}
def a7.bind(h:a7 st K)(k:∀aV,K aV -> a7 aV K'):a7 st K' := λE a hs =>
 let ⟨E',aV,h1,h2,h3,h4⟩:=h E a hs
 let ⟨pF,H7,k1,k2,k3,k4⟩:=k aV h4 E' a h3
 ⟨pF,H7,k1.trans h1,h2.trans k2,k3,k4⟩
def a7.mono(h:a7 st K)(k:∀aV,K aV -> K' aV):a7 st K' := h.bind λaV hk=>a7.id (k aV hk)
def we:List Nat->List V->Option (List V)
 | [],t=>U t
 | d::ds,t=>if d<t.length then we ds (t.set d .any) else ah
theorem TQ:∀{ds:List Nat} {t t' : List V},we ds t=U t' -> t'.length=t.length/\(∀d∈ds,d<t'.length/\t'.getD d .any = .any)/\(∀d,t.getD d .any = .any->t'.getD d .any = .any)/\∀(E:Env) vs,RL E t vs->RL E t' vs
 | [],t,t',h=>by simp only[we,bq] at h;subst h;exact⟨rfl,by simp,λ_ h=>h,λ_ _ h=>h⟩
 | d :: ds, t, t', h => by
  simp only[we] at h;split at h
  case isFalse=>simp at h
  rename_i hd;obtain⟨h1,h2,h3,h4⟩:=TQ h;have hlen:t'.length=t.length:=by grind
  refine⟨hlen,λx hx=>?_,λx hx=>h3 x ?_,λE vs hr=>h4 E vs ?_⟩
  .grind
  .grind
  .have hl:=iV hr;have hdv:d<vs.length:=by omega
   have:=II hr d (x:=.any) (v:=vs[d]) (by simp[R])
   simp_all
variable{ι:Type}
def B6(I:ι->St)(μ:ι->Nat)(Q:Exit->St->Prop)(n:Nat):Exit->St->Prop
 | .normal,st=>a7 st λaV => ∃j,aV = I j/\μ j<n
 | e,st=>Q e st
def FM(K:St->Prop)(Q:Exit->St->Prop):Exit->St->Prop
 | .normal,st=>K st
 | e,st=>Q e st
def AH(out:Nat)(J:St->Prop)(Q:Exit->St->Prop):Exit->St->Prop
 | .normal,st=>a7 st J
 | .exit id,st=>if id=out then Q .normal st else Q (.exit id) st
 | e,st=>Q e st
def DY(Q:Exit->St->Prop):Exit->St->Prop
 | .goto _,_=>False
 | e,st=>Q e st
def vc(P:Program):AC->(Exit->St->Prop)->St->Prop
 | .skip,Q,st=>Q .normal st
 | .HU l,Q,st=>de P l (Q .normal) st
 | .draw l,Q,st=>c9 P l [(st.au,st.out)] [] (Q .normal) st
 | .hole l h,Q,st=>c9 P l [(st.au,st.out)] [] (Iu h (Q .normal)) st
 | .I_ nv l,Q,st=>∃t,we nv st.t=U t/\c9 P l [(st.au,st.out)] [] (Q .normal) ⟨t,st.au,st.out⟩
 | .sM x,Q,st=>a7 st λaV => vc P x Q aV
 | .seq x y,Q,st=>vc P x (FM (vc P y Q) Q) st
 | .cond c x y,Q,st=>match ev st c with | .bool b=>(b=aa->vc P x Q st)/\(b=aq->vc P y Q st) | _=>False
 | .block id x,Q,st=>vc P x (uY id Q) st
 | .loop x,Q,st=>∃(ι:Type) (I:ι->St) (μ:ι->Nat),(a7 st λaV => ∃i,aV = I i)/\∀i,vc P x (B6 I μ Q (μ i)) (I i)
 | .scope x,Q,st=>vc P x (DY Q) st
 | .Ro l x dI dN dM out nxt y,Q,st=>de P l (λqk=>∃s:List UInt8,ev qk x = .aQ s/\(∀c∈s,c.toNat<128)/\∃I:Nat->Nat->St->Prop,
  (∀b,a7 (qk.put (U dI) (.raw (.pointer (U ⟨b,0,ah⟩)))) (I b 0)) /\
  (∀b i aV,I b i aV -> aV.t.getD dI .any = .raw (.pointer (U ⟨b,0,ah⟩))/\dN<aV.t.length/\dM<aV.t.length) /\
  (∀b i c aV,s[i]?=U c->I b i aV -> vc P y (uY nxt (AH out (I b (i+1)) Q)) ((aV.put (U dN) (.bw [.bool aa,.int .i64 (i:Nat),.int .i32 (c.toNat:Nat)])).put (U dM) (.bool aa))) /\
  (∀b aV,I b s.length aV -> Q .normal ((aV.put (U dN) (.bw [.bool aq])).put (U dM) (.bool aq)))) st
 | .exit id,Q,st=>Q (.exit id) st
 | .ret,Q,st=>Q .ret st
variable{Q:Exit->St->Prop}
def asn{c:Code}(h:a7 st (j4 P c Q)):j4 P c Q st:=by
 intro E a hs;obtain⟨E',aV,h1,h2,h3,h4⟩:=h E a hs;rw[<-h1];exact wp_mono (h4 E' a h3) λ_ _ _ ⟨pF,H7,k1,k2,k3,k4⟩=>⟨pF,H7,k1,k2,h2.trans k3,k4⟩
theorem anP{N:Nat->Prop}:∀n,N n->∃m,N m/\∀k,N k->m<=k:=λn=>by
 induction n using Nat.strongRecOn with
 | ind n ih =>
  grind
theorem asg{c:Code}(I:ι->St)(μ:ι->Nat)(h0:a7 st λaV => ∃i,aV = I i)(hr:∀i,j4 P c (B6 I μ Q (μ i)) (I i)):j4 P (.loop c) Q st:=by
 intro E a hs;obtain⟨E1,qk,h1,h2,h3,i0,rfl⟩:=h0 E a hs
 classical
 let J:Act->World->Prop:=λa w=>∃i E',E'.w=w/\bS E' (I i) a/\Fr E E'
 let N:Act->World->Nat->Prop:=λa w n=>∃i E',E'.w=w/\bS E' (I i) a/\Fr E E' /\ μ i=n
 have hL:∀a w,(∃n,N a w n)->∃m,N a w m/\∀k,N a w k->m<=k:=λa w h=>anP _ h.choose_spec
 let M:Act->World->Nat:=λa w=>if h:∃n,N a w n then(hL a w h).choose else 0
 refine wp_loop J M ⟨i0,E1,h1,h3,h2⟩ ?_;intro a w hJ;have hex:∃n,N a w n:=by grind
 obtain⟨i,E',k1,k2,k3,k4⟩:=(hL a w hex).choose_spec.1;have hM:M a w=μ i:=by grind
 subst k1;refine wp_mono (hr i E' a k2) ?_;rintro e a' w' ⟨E2,qm,rfl,m2,m3,m4⟩;cases e with
 | normal =>
  obtain⟨E3,BT,n1,n2,n3,j,rfl,az⟩:=m4 E2 a' m2;have hN:N a' E2.w (μ j):=⟨j,E3,n1,n3,(k3.trans m3).trans n2,rfl⟩;refine⟨⟨j,E3,n1,n3,(k3.trans m3).trans n2⟩,?_⟩;have ax4 : M a' E2.w<=μ j:=by
   show(if h:∃n,N a' E2.w n then(hL a' E2.w h).choose else 0)<=_;rw[Ed ⟨_,hN⟩];exact(hL a' E2.w ⟨_,hN⟩).choose_spec.2 _ hN
  omega
 | exit id=>exact⟨E2,qm,rfl,m2,k3.trans m3,m4⟩
 | goto l=>exact⟨E2,qm,rfl,m2,k3.trans m3,m4⟩
 | ret=>exact⟨E2,qm,rfl,m2,k3.trans m3,m4⟩
 | panic c=>exact⟨E2,qm,rfl,m2,k3.trans m3,m4⟩
 | outgrown=>exact⟨E2,qm,rfl,m2,k3.trans m3,m4⟩
section
variable {P:Program}
theorem QR{hn:List Nat}{ops:Array Oper}{K:St->Prop}{Q:Exit->Act->World->Prop}{E0:Env}{rest:List Nat}(hQ:∀E st a,bS E st a->Fr E0 E->K st->wpOps P ops Q rest a E.w):∀(os:List Oper) (l:List AO) (i:Nat),Dg P hn ops os=U l ->
 (∀j:Nat,j<os.length->os[j]?=ops[i+j]?)->∀E st a,bS E st a->Fr E0 E->de P l K st->wpOps P ops Q (List.range' i os.length++rest) a E.w
 | [], l, i, hl, _, E, st, a, hs, hf, h => by
  simp only[Dg,bq] at hl;subst hl;exact hQ E st a hs hf h
 | o :: os, l, i, hl, x7, E, st, a, hs, hf, h => by
  simp only[Dg,jH,ec] at hl;obtain⟨x,hx,l',jM,rfl⟩:=hl;have ho:ops[i]?=U o:=by have:=x7 0 (by simp);simpa using this.symm
  have alP : ∀j:Nat,j<os.length->os[j]?=ops[i+1+j]?:=λj hj=>by
   have:=x7 (j+1) (by simp;omega)
   grind
  have ih:=QR hQ os l' (i+1) jM alP;have key:∀{ao:a_} {d:Option Tmp},Hu P hn o=ao->d=o.dst->ao.bN P st (λv aV => de P l' K (aV.put d v))->o.wp P a E.w (wpOps P ops Q (List.range' (i+1) os.length++rest)) Q:=λ{ao d} hao hd mq=>by
   subst hd;subst hao;refine Oper.wp_mono ?_ (aox (Q:=Q) hs mq);rintro a' w' ⟨E',v,u,aV,rfl,lQ,eG,hv,rfl,hk⟩;exact ih E' _ _ (bS.put eG hv o.dst) (hf.trans lQ) hk
  simp only[da,Me,gY,wpOps,ho];unfold YS at hx;cases hg:o.guard with
  | none =>
   rw[hg] at hx;simp only[bq] at hx;subst hx;simp only[de] at h;rw[aL (by simp[Region.wanted,hg])]
   grind
  | some p =>
   obtain⟨j,want⟩:=p;rw[hg] at hx;simp only at hx;split at hx
   case h_2=>simp at hx
   rename_i g td;simp only[bq] at hx;subst hx;simp only[de] at h;split at h
   .rename_i b hb;have hR:=Eh hs.slot g;rw[hb] at hR;simp only[R,Act.eval] at hR;have x7:a.tmps[g]?=U (.bool b):=by
     rw[tV] at hR;cases hq:a.tmps[g]? with
     | none=>rw[hq] at hR;simp[undef] at hR
     | some u=>rw[hq] at hR;simp at hR;rw[hR]
    have hw:Region.wanted o (yielded ops a.tmps)=(b == want):=by
     simp only[Region.wanted,hg,yielded,td,yU,x7];cases b<;>cases want<;>rfl
    split at h
    .grind
    .rename_i hbw;rw[hw,aB (by simp[hbw])];exact ih E _ _ (bS.put hs (v:=.bw []) (x:=undef) Mp o.dst) hf h
   .rename_i hb;have hR:=Eh hs.slot g;rw[hb] at hR;have hu:=Tz hR;have hw:Region.wanted o (yielded ops a.tmps)=false:=by
     simp only[Region.wanted,hg,yielded,td,yU];simp only[Act.eval] at hu;cases hq:a.tmps[g]? with
     | none=>rfl
     | some u =>
      rw[tV,hq] at hu;simp at hu;rw[hu];rfl
    rw[hw,aB (by simp)];exact ih E _ _ (bS.put hs (v:=.bw []) (x:=undef) Mp o.dst) hf h
   .grind
def LF{c:Code}{x:AC}(ih:∀(Q:Exit->St->Prop) (st:St),vc P x Q st->j4 P c Q st)(b:Bool)(Q:Exit->St->Prop)(st:St)(h:vc P (AC.Ie b x) Q st):j4 P c Q st:=by
 cases b with
 | false=>exact ih Q st h
 | true=>exact asn (h.mono λaV h' => ih Q aV h')
def eval_put{x:Value}(h:d<a.tmps.size):(a.put (U d) x).eval (.tmp d)=x:=by simp[Act.put,Act.eval,h]
variable{cb:Code}{dI dM dN i1 out:Nat}{my:Array Oper}
def rounds{oN oM:Oper}{nxt:Nat}{E0:Env}{s:List UInt8}{I:Nat->St->Prop}
 (h1:my.toList=[oN,oM]) (hN:oN.op = .next (.tmp dI) aa) (NZ:oN.dst=U dN) (N0:oN.guard=ah) (hM:oM.op = .extract (.tmp dN) 0) (NX:oM.dst=U dM) (NY:oM.guard=ah)
 (JJ:E0.w.heap.size<=b) (Oa:∀c∈s,c.toNat<128) (EH:∀i aV,I i aV -> aV.t.getD dI .any = .raw (.pointer (U ⟨b,0,ah⟩))/\dN<aV.t.length/\dM<aV.t.length)
 (Og:∀i c aV,s[i]?=U c->I i aV -> j4 P cb (uY nxt (AH out (I (i+1)) Q)) ((aV.put (U dN) (.bw [.bool aa,.int .i64 (i:Nat),.int .i32 (c.toNat:Nat)])).put (U dM) (.bool aa)))
 (fA:∀aV,I s.length aV -> Q .normal ((aV.put (U dN) (.bw [.bool aq])).put (U dM) (.bool aq)))
 {E:Env} {st:St} {a:Act} (hs:bS E st a) (hf:Fr E0 E) (hr:E.bg b = .ph) (hh:E.w.heap[b]?=U (.stringIter ⟨s.toArray⟩ 0)) (hI:I 0 st) :
 (Code.block out (.loop (.seq (.region i1 my aq) (.seq (.cond (.tmp dM) .skip (.exit out)) (.block nxt cb))))).wp P (λe a' w' => ∃E' aV,E'.w=w' /\ bS E' aV a' /\ Fr E0 E' /\ Q e aV) a E.w:=by
 refine wp_block ?_;refine wp_loop (λa w=>∃i aV E',E'.w=w/\i<=s.length/\I i aV /\ bS E' aV a/\Fr E0 E' /\ E'.bg b = .ph/\E'.w.heap[b]?=U (.stringIter ⟨s.toArray⟩ i)) (λa w=>match w.heap[b]? with | some (.stringIter z p)=>z.size - p | _=>0) ⟨0,st,E,rfl,by omega,hI,hs,hf,hr,hh⟩ ?_;rintro a _ ⟨i,aV,E',rfl,hi,hI,eG,lQ,dt,GP⟩;obtain⟨O3,zw,iW⟩:=EH i aV hI;have hlen:aV.t.length=a.tmps.size:=by have:=iV eG.slot;simpa using this
 have hdI:a.eval (.tmp dI) = .pointer (U ⟨b,0,ah⟩):=by
  have:=Eh eG.slot dI
  rw[show ev aV (.s dI)=aV.t.getD dI .any from rfl,O3] at this;simpa [R] using this
 have hg0:my[0]?=U oN:=by rw[<-ac_,h1];rfl
 have JW:my[1]?=U oM:=by rw[<-ac_,h1];rfl
 have dE:my.size=2:=by rw[<-DP,h1];rfl
 refine wp_seq (wp_region ?_);rw[dE];show wpOps P my _ [0,1] a E'.w;have step:∀(y:Value) (t:V) (us:Array Value) (bb:Bool) (w1:World) (E1:Env),(Instr.next (.pointer (U ⟨b,0,ah⟩)) aa oN.type).run P E'.w = .ok y w1->y = .tuple us->us[0]?=U (.bool bb)->E1.w=w1->bS E1 aV a->R E1 t y ->
  ∀(QQ:Exit->Act->World->Prop),(∀a',bS E1 ((aV.put (U dN) t).put (U dM) (.bool bb)) a' -> a'.eval (.tmp dM) = .bool bb->QQ .normal a' w1)->wpOps P my QQ [0,1] a E'.w:=by
  intro y t us bb w1 E1 e9 hy O9 hw qJ hR QQ hQ;subst hy;simp only[wpOps,hg0,JW];rw[aL (by simp[Region.wanted,N0])];left;unfold Oper.wp;rw[show(execOp a.eval oN).run P E'.w = .ok (.value (.tuple us)) w1 by simp[execOp,hN,hdI,e9]];simp only[Oper.upon];rw[aL (by simp[Region.wanted,NY])];left;have he:(a.put (U dN) (.tuple us)).eval (.tmp dN) = .tuple us:=eval_put (by omega);rw[NZ,show(execOp (a.put (U dN) (.tuple us)).eval oM).run P w1 = .ok (.value (.bool bb)) w1 by simp[execOp,hM,he,Instr.extract,O9]];simp only[NX];refine hQ _ ?_ (eval_put (by simp[Act.put];omega));exact bS.put (bS.put qJ hR (U dN)) (by simp[R]) (U dM)
 by_cases az:i<s.length
 .have x7:s[i]?=U s[i]:=bY az;have sc:(⟨s.toArray⟩:ByteArray).get! i=s[i]:=by simp[ByteArray.get!,az]
  have e9:=atS (P:=P) (t:=oN.type) GP (by simpa [ByteArray.size] using az) (by rw[sc];exact Oa _ (dQ az));rw[sc] at e9;refine step _ (.bw [.bool aa,.int .i64 (i:Nat),.int .i32 (s[i].toNat:Nat)]) _ aa _ (E'.k_ b (.stringIter ⟨s.toArray⟩ (i+1))) e9 rfl rfl rfl (bS.k_ dt eG) (by simp[R,RL]) _ ?_;intro a' O0 Oo;refine wp_seq (wp_cond_true Oo (wp_skip ?_));refine wp_block ?_;have nC:Fr E0 (E'.k_ b (.stringIter ⟨s.toArray⟩ (i+1))):=Fr.k_ lQ dt JJ GP;have vC:(E'.k_ b (.stringIter ⟨s.toArray⟩ (i+1))).w.heap[b]?=U (.stringIter ⟨s.toArray⟩ (i+1)):=abP GP;have OK:b<(E'.k_ b (.stringIter ⟨s.toArray⟩ (i+1))).w.heap.size:=(mX.1 vC).1;refine wp_mono (Og i s[i] aV x7 hI _ a' O0) ?_;rintro e a2 w2 ⟨E3,BT,rfl,CU,Bc,hq⟩;have ED:=Bc.same b OK (.inr dt);have norm:a7 BT (I (i+1))->(∃i aV E',E'.w=E3.w/\i<=s.length/\I i aV /\ bS E' aV a2/\Fr E0 E' /\ E'.bg b = .ph/\E'.w.heap[b]?=U (.stringIter ⟨s.toArray⟩ i)) /\
   (match E3.w.heap[b]? with | some (.stringIter z p)=>z.size - p | _=>0)<(match E'.w.heap[b]? with | some (.stringIter z p)=>z.size - p | _=>0):=by
   intro hU;obtain⟨E4,st4,O_,GM,OZ,NT⟩:=hU E3 a2 CU;have vz:b<E3.w.heap.size:=by rw[vC] at ED;exact(mX.1 ED.1).1
   have GR:=GM.same b vz (.inr (ED.2.trans dt));refine⟨⟨i+1,st4,E4,O_,az,NT,OZ,(nC.trans Bc).trans GM,GR.2.trans (ED.2.trans dt),GR.1.trans (ED.1.trans vC)⟩,?_⟩;rw[ED.1,vC,GP];simp only[ByteArray.size,Tp];omega
  cases e with
  | normal=>exact norm hq
  | exit id =>
   simp only[uY,AH] at hq;simp only[Exit.inBlock,Exit.then]
   by_cases e1:id=nxt
   .rw[aL e1] at hq ⊢;exact norm hq
   .rw[aB e1] at hq ⊢
    by_cases e2:id=out
    .rw[aL e2] at hq ⊢;exact⟨E3,BT,rfl,CU,nC.trans Bc,hq⟩
    .rw[aB e2] at hq ⊢;exact⟨E3,BT,rfl,CU,nC.trans Bc,hq⟩
  | goto l=>exact⟨E3,BT,rfl,CU,nC.trans Bc,hq⟩
  | ret=>exact⟨E3,BT,rfl,CU,nC.trans Bc,hq⟩
  | panic c=>exact⟨E3,BT,rfl,CU,nC.trans Bc,hq⟩
  | outgrown=>exact⟨E3,BT,rfl,CU,nC.trans Bc,hq⟩
 .have CG:i=s.length:=by omega
  subst CG;have e9:=run_next_end (P:=P) (t:=oN.type) GP (by simp[ByteArray.size]);refine step _ (.bw [.bool aq]) _ aq _ E' e9 rfl rfl rfl eG (by simp[R,RL]) _ ?_;intro a' O0 Oo;refine wp_seq (wp_cond_false Oo (wp_exit ?_));simp only[Exit.then,Exit.inBlock,db];exact⟨E',_,rfl,O0,lQ,fA aV hI⟩
variable{mw:Array Oper}
theorem ash{VB:(Exit->St->Prop)->St->Prop}{hn:List Nat}{os:List Oper}{oR oN oM:Oper}{l0:List AO}{xt:TypeId}{ox:Operand}{x:X}{i0 nxt:Nat}
 (h0:mw.toList=os++[oR]) (hR:oR.op = .range xt ox) (hRd:oR.dst=U dI) (hRg:oR.guard=ah) (ht:P.underlying xt=U .string) (hl:Dg P hn mw os=U l0) (hx:dB P xt ox=U x)
 (h1:my.toList=[oN,oM]) (hN:oN.op = .next (.tmp dI) aa) (NZ:oN.dst=U dN) (N0:oN.guard=ah) (hM:oM.op = .extract (.tmp dN) 0) (NX:oM.dst=U dM) (NY:oM.guard=ah)
 (hVB:∀Q st,VB Q st->j4 P cb Q st) (h:de P l0 (λqk=>∃s:List UInt8,ev qk x = .aQ s/\(∀c∈s,c.toNat<128)/\∃I:Nat->Nat->St->Prop,
   (∀b,a7 (qk.put (U dI) (.raw (.pointer (U ⟨b,0,ah⟩)))) (I b 0)) /\
   (∀b i aV,I b i aV -> aV.t.getD dI .any = .raw (.pointer (U ⟨b,0,ah⟩))/\dN<aV.t.length/\dM<aV.t.length) /\
   (∀b i c aV,s[i]?=U c->I b i aV -> VB (uY nxt (AH out (I b (i+1)) Q)) ((aV.put (U dN) (.bw [.bool aa,.int .i64 (i:Nat),.int .i32 (c.toNat:Nat)])).put (U dM) (.bool aa))) /\
   (∀b aV,I b s.length aV -> Q .normal ((aV.put (U dN) (.bw [.bool aq])).put (U dM) (.bool aq)))) st) :
 j4 P (.seq (.region i0 mw aq) (.block out (.loop (.seq (.region i1 my aq) (.seq (.cond (.tmp dM) .skip (.exit out)) (.block nxt cb)))))) Q st:=by
 intro E a hs;refine wp_seq (wp_region ?_);have dE:mw.size=os.length+1:=by rw[<-DP,h0];simp
 have x7:∀j:Nat,mw[j]?=(os++[oR])[j]?:=λj=>by rw[<-h0];simp
 rw[DX,dE,List.range'_concat,show 0+1*os.length=os.length by omega];refine QR (rest:=[os.length]) (K:=_) (E0:=E) ?_ os l0 0 hl ?_ E st a hs (Fr.refl E) h
 .rintro E1 qk a1 qJ s8 ⟨s,Ot,Oa,I,hU,EH,Og,fA⟩;have ho:mw[os.length]?=U oR:=by grind
  simp only[wpOps,ho];rw[aL (by simp[Region.wanted,hRg])];left;have p8:=qa (E:=E1) (st:=qk) (a:=a1) qJ.slot hx;rw[Ot] at p8;simp only[R] at p8;have e9:(execOp a1.eval oR).run P E1.w = .ok (.value (.pointer (U ⟨E1.w.heap.size,0,ah⟩))) (E1.w.alloc (.stringIter ⟨s.toArray⟩ 0)):=by simp[execOp,hR,p8,atT ht]
  unfold Oper.wp;rw[e9];simp only[Oper.upon,hRd];obtain⟨f2,s2,r2,b2⟩:=apj (s:=⟨s.toArray⟩) (p:=0) qJ;have s3:bS (E1.qd (.stringIter ⟨s.toArray⟩ 0)) (qk.put (U dI) (.raw (.pointer (U ⟨E1.w.heap.size,0,ah⟩)))) (a1.put (U dI) (.pointer (U ⟨E1.w.heap.size,0,ah⟩))):=bS.put s2 (by simp[R]) (U dI);obtain⟨E4,st4,O_,GM,OZ,NT⟩:=hU E1.w.heap.size _ _ s3;have OK:E1.w.heap.size<(E1.qd (.stringIter ⟨s.toArray⟩ 0)).w.heap.size:=(mX.1 b2).1;have GR:=GM.same E1.w.heap.size OK (.inr r2)
  have:=rounds (i1:=i1) (out:=out) (nxt:=nxt) (I:=I E1.w.heap.size) h1 hN NZ N0 hM NX NY s8.size Oa (EH E1.w.heap.size) (λi c aV hc hI=>hVB _ _ (Og E1.w.heap.size i c aV hc hI)) (fA E1.w.heap.size) OZ ((s8.trans f2).trans GM) (GR.2.trans r2) (GR.1.trans b2) NT
  rw[O_] at this;exact this
 .grind
def asj{P:Program}{c:Code}(h:j4 P c (DY Q) st):j4 P (.scope c) Q st:=by
 intro E a hs;refine wp_scope_straight (wp_mono (h E a hs) ?_);rintro e a' w' ⟨E',aV,rfl,h2,h3,h4⟩;cases e with
 | goto l=>exact h4.elim
 | _=>exact⟨E',aV,rfl,h2,h3,h4⟩
variable{h:Hint}
def aow{wx wZ nxt i0:Nat}{y:Option AC}{z:AC}(hz:KK P h mw my wx out wZ nxt y=U z)(ih:∀y',y=U y' -> ∀(Q:Exit->St->Prop) (st:St),vc P y' Q st->j4 P cb Q st)
 (Q:Exit->St->Prop) (st:St) (hv:vc P z Q st):j4 P (.seq (.region i0 mw aq) (.block out (.loop (.seq (.region i1 my aq) (.seq (.cond (.tmp wx) .skip (.exit wZ)) (.block nxt cb)))))) Q st:=by
 unfold KK at hz;split at hz
 case h_2=>simp at hz
 rename_i oR oN oM y' hl h1;split at hz
 case h_2=>simp at hz
 rename_i xt ox dI U' dN Va dM g1 g2 g3 g4 g5 g6 g7 g8 g9;split at hz
 case h_2=>simp at hz
 rename_i l x k1 k2 k3;split at hz
 case isFalse=>simp at hz
 rename_i he;obtain⟨rfl,rfl,rfl,rfl⟩:=he;simp only[bq] at hz;subst hz;have h0:mw.toList=mw.toList.dropLast++[oR]:=by
  obtain⟨ys,sx⟩:=List.getLast?_eq_some_iff.1 hl;rw[sx];simp
 exact ash (VB:=vc P y') h0 g1 g2 g3 k1 k2 k3 h1 g4 g5 g6 g7 g8 g9 (ih y' rfl) hv
theorem aos{a b:Code}{z:AC}(hz:ib P h (.seq a b)=U z):(∃x y,ib P h a=U x/\ib P h b=U y/\z = .seq x y) \/
 (∃i0 mw out i1 my wx wZ nxt cb,a = .region i0 mw aq/\b = .block out (.loop (.seq (.region i1 my aq) (.seq (.cond (.tmp wx) .skip (.exit wZ)) (.block nxt cb))))/\KK P h mw my wx out wZ nxt (ib P h cb)=U z):=by
 have gen:(match ib P h a,ib P h b with | some x,U y=>U (AC.seq x y) | _,_=>ah)=U z->∃x y,ib P h a=U x/\ib P h b=U y/\z = .seq x y:=by grind
 unfold ib at hz
 grind
def An{h:Hint}:∀(c:Code) (x:AC),ib P h c=U x->∀(Q:Exit->St->Prop) (st:St),vc P x Q st->j4 P c Q st
 | .skip,x,hl,Q,st,h=>by simp only[ib,bq] at hl;subst hl;exact asm h
 | .region id ops aq, x, hl, Q, st, h => by
  simp only[ib,ec] at hl;obtain⟨l,hl,rfl⟩:=hl;refine LF (λQ st h E a hs=>?_) _ Q st h;refine wp_region ?_
  have:=QR (P:=P) (ops:=ops) (K:=Q .normal) (E0:=E) (Q:=λe a' w' => ∃E' aV,E'.w=w' /\ bS E' aV a' /\ Fr E E' /\ Q e aV) (rest:=[]) (λE' aV a' h1 h2 h3=>⟨E',aV,rfl,h1,h2,h3⟩) ops.toList l 0 hl (λj _=>by simp) E st a hs (Fr.refl E) h
  rw[DX];simpa using this
 | .region id ops aa, x, hl, Q, st, h => by
  simp only[ib] at hl;split at hl
  .rename_i l jM;simp only[bq] at hl;subst hl;refine LF (λQ st h=>?_) _ Q st h;exact Q8 (ahE jM h) λe aV ⟨h1,h2⟩=>by subst h1;exact h2
  .split at hl
   .rename_i p jM;obtain⟨l,hi⟩:=p;simp only[bq] at hl;subst hl;refine LF (λQ st h=>?_) _ Q st h;exact Q8 (amb jM h) λe aV ⟨h1,h2⟩=>by subst h1;exact h2
   .simp only[ec] at hl;obtain⟨⟨nv,l⟩,hl,rfl⟩:=hl;refine LF (λQ st h=>?_) _ Q st h;obtain⟨t,h1,h2⟩:=h;obtain⟨_,k2,_,k4⟩:=TQ h1;intro E a hs
    have:=ahC (st:=⟨t,st.au,st.out⟩) (id:=id) hl k2 h2 E a ⟨hs.ok,hs.dO,hs.defers,k4 E _ hs.slot⟩
    exact wp_mono this λe a' w' ⟨E',aV,m1,m2,m3,m4,m5⟩=>⟨E',aV,m1,m2,m3,by subst m4;exact m5⟩
 | .seq a b, x, hl, Q, st, h => by
  rcases aos hl with ⟨y,z,hy,hz,rfl⟩ | ⟨i0,mw,out,i1,my,wx,wZ,nxt,cb,rfl,rfl,hz⟩
  .refine asl (Q8 (An a y hy _ st h) λe aV he=>?_);cases e with
   | normal=>exact An b z hz Q aV he
   | _=>exact he
  .exact aow hz (λy' hy=>An cb y' hy) Q st h
 | .cond c a b, x, hl, Q, st, h => by
  simp only[ib] at hl;split at hl
  case h_2=>simp at hl
  rename_i ax y z hx hy hz;simp only[bq] at hl;subst hl;simp only[vc] at h;split at h
  case h_2=>exact h.elim
  rename_i b' hb;intro E ac hs;have hR:=qa (E:=E) (st:=st) (a:=ac) hs.slot hx;rw[hb] at hR;simp only[R] at hR;exact wp_cond_split hR (λht=>An a y hy Q st (h.1 ht) E ac hs) (λht=>An b z hz Q st (h.2 ht) E ac hs)
 | .block id a, x, hl, Q, st, h => by
  simp only[ib,ec] at hl;obtain⟨y,hy,rfl⟩:=hl;exact asd (An a y hy _ st h)
 | .loop a, x, hl, Q, st, h => by
  simp only[ib,ec] at hl;obtain⟨y,hy,rfl⟩:=hl;obtain⟨ι,I,μ,h0,hr⟩:=h;exact asg I μ h0 λi=>An a y hy _ (I i) (hr i)
 | .exit id,x,hl,Q,st,h=>by simp only[ib,bq] at hl;subst hl;exact ase h
 | .ret,x,hl,Q,st,h=>by simp only[ib,bq] at hl;subst hl;exact asi h
 | .label l,x,hl,Q,st,h=>by simp only[ib,bq] at hl;subst hl;exact asf h
 | .goto l,x,hl,Q,st,h=>by simp[ib] at hl
 | .scope a, x, hl, Q, st, h => by
  simp only[ib,ec] at hl;obtain⟨y,hy,rfl⟩:=hl;exact asj (An a y hy _ st h)
 | .refuse w,x,hl,Q,st,h=>by simp[ib] at hl
 | .rangeFunc f p a b,x,hl,Q,st,h=>by simp[ib] at hl
inductive RV where
 | tmp (t:Nat)
 | cell (t:Nat) (agg:Bool) (n:Nat)
def Qr(P:Program):ResultVar->Option RV
 | .tmp t=>U (.tmp t)
 | .cell a t=>match jI P t,fR P t with | some g,U n=>U (.cell a g n) | _,_=>ah
def By(P:Program):List ResultVar->Option (List RV)
 | []=>U []
 | r::rs=>(Qr P r).bind λx=>(By P rs).map (x::·)
def rv(st:St):RV->Option V
 | .tmp t=>U (st.t.getD t .any)
 | .cell t g n=>p9 st g n (st.t.getD t .any)
def xb(st:St):List RV->Option (List V)
 | []=>U []
 | r::rs=>(rv st r).bind λx=>(xb st rs).map (x::·)
def wX:List V->V
 | [x]=>x
 | xs=>.bw xs
def ab.sub(σ' Z:ab):Prop:=(∀b cs,σ'.box b=U cs->Z.box b=U cs)/\(∀t n,σ'.aS t=U n->Z.aS t=U n)/\∀b cs,σ'.cI b=U cs->Z.cI b=U cs
def ab.a8(Z:ab):Z.sub Z:=⟨λ_ _ h=>h,λ_ _ h=>h,λ_ _ h=>h⟩
def jS(R' : V->ab->Prop)(st:St):V->Prop:=λv=>v.cS=aa/\∃(σ' : ab) (w:V),σ'.sub st.out/\(w=v.erase\/w=v)/\R' w σ'
def Ce(rs:List RV)(R' : V->ab->Prop):Exit->St->Prop
 | .normal,st | .ret,st=>opt ((xb st rs).map wX) (jS R' st)
 | _,_=>False
theorem abk{E:Env}{st:St}{a:Act}(hs:bS E st a):∀{rs:List ResultVar} {ys:List RV} {vs:List V},By P rs=U ys->xb st ys=U vs ->
 ∃us:List Value,(rs.mapM λ| .tmp t=>pure (a.tmps.getD t undef) | .cell ad t=>do loadVar t (<-asAddr (a.tmps.getD ad undef)):Sem (List Value)).run P E.w = .ok us E.w/\RL E vs us
 | [], ys, vs, h1, h2 => by
  simp only[By,bq] at h1;subst h1;simp only[xb,bq] at h2;subst h2;exact⟨[],by simp,by simp[RL]⟩
 | r :: rs, ys, vs, h1, h2 => by
  simp only[By,jH,ec] at h1;obtain⟨y,hy,ys',sx,rfl⟩:=h1;simp only[xb,jH,ec] at h2;obtain⟨v,hv,FF,EM,rfl⟩:=h2;obtain⟨us,k1,k2⟩:=abk hs sx EM;cases r with
  | tmp t =>
   simp only[Qr,bq] at hy;subst hy;simp only[rv,bq] at hv;subst hv;have hR:=Eh hs.slot t;refine⟨a.tmps.getD t undef::us,?_,by simp only[RL];exact⟨hR,k2⟩⟩
   simp_all
  | cell ad t =>
   simp only[Qr] at hy;split at hy
   case h_2=>simp at hy
   rename_i g n hg hn;simp only[bq] at hy;subst hy;simp only[rv] at hv;have hR:=Eh hs.slot ad;have qG : R E (st.t.getD ad .any) (a.tmps.getD ad undef):=hR;obtain⟨b,off,cs,e1,e2,e3⟩:=Yi hs hv qG;obtain⟨u,e4,e5⟩:=run_load (P:=P) hg hn e2 e3;refine⟨u::us,?_,by simp only[RL];exact⟨e5,k2⟩⟩;rw[List.mapM_cons];have e6:((do loadVar t (<-asAddr (a.tmps.getD ad undef)):Sem Value)).run P E.w = .ok u E.w:=by
    rw[e1];simp only[asAddr,Sem.run_bind,Sem.run_pure,Result.andThen_ok,e4]
   rw[Sem.run_bind]
   simp_all
variable{f:FuncId}
theorem aip{fn:Func}(hf:P.funcs[f]?=U fn)(hn:(fn.name == "runtime.NumGoroutine")=aq)(hb:fn.body.isNone=aq):S2 P f:=λargs w=>by
 have cF : fn.body.isNone=false:=hb;simp only[callFunc,Sem.run_bind,run_program,Result.andThen_ok,hf];split
 .grind
 .split
  .grind
  .rfl
variable{rs:List RV}
theorem arw{fn:Func}{c:Code}{x:AC}(hf:P.funcs[f]?=U fn)(al5:(fn.name == "runtime.NumGoroutine")=aq)(hb:fn.body=U c)(hl:ib P h c=U x)(hr:By P fn.results.toList=U rs)
 {n:Nat} (hn:fn.ntmps=n) {args:List V} {Z:ab} {R' : V->ab->Prop} (hv:vc P x (Ce rs R') ⟨args++aj (n - args.length) .any,[],Z⟩):cy P f args Z R' := by
 refine⟨aip hf al5 (by rw[hb];rfl),λE vs OG cw N_=>?_⟩;refine calls_of_wp hf hb ?_;have hlen:=iV N_;have hs:bS E ⟨args++aj (n - args.length) .any,[],Z⟩ {tmps:=vs++Array.replicate (fn.ntmps - vs.size) undef,defers:=[]}:=by
  refine⟨cw,⟨λi cs h=>by simp at h,λi _=>OG i⟩,rfl,?_⟩;simp only[Array.toList_append,Array.toList_replicate];refine y3 N_ ?_;rw[hn,show args.length=vs.size from by simpa using hlen]
  have:=Tx (E:=E) (aj (n - vs.size) undef)
  grind
 refine wp_mono (An c x hl _ _ hv E _ hs) ?_;rintro e a' w' ⟨E',aV,rfl,eG,bC,hq⟩;have fin:opt ((xb aV rs).map wX) (jS R' aV)->a'.defers=[]/\∃v,(results fn a'.tmps).run P E'.w = .ok v E'.w /\
  ∃v' x pF σ',Ending.returned v = .returned x/\pF.w=E'.w/\(∀i,pF.au i=ah)/\pF.ok σ' /\ R pF v' x/\Fr E pF /\ R' v' σ' := λhq=>by
  refine⟨eG.defers,?_⟩;unfold opt at hq;split at hq
  case h_2=>exact hq.elim
  rename_i v hv;simp only[ec] at hv;obtain⟨FF,EM,rfl⟩:=hv;obtain⟨us,k1,k2⟩:=abk (P:=P) eG hr EM;obtain⟨so,σ',w,sv,hw,qG⟩:=hq;have iq:∃u,(results fn a'.tmps).run P E'.w = .ok u E'.w/\R E' (wX FF) u:=by
   have b8:(results fn a'.tmps).run P E'.w = .ok (if h:us.toArray.size=1 then us.toArray[0] else .tuple us.toArray) E'.w:=by
    unfold results;rw[<-Array.toArray_toList (xs:=fn.results),List.mapM_toArray];simp only[Sem.run_bind,Sem.run_map]
    erw [k1]
    rfl
   refine⟨_,b8,?_⟩;have iW:=iV k2
   match FF,us,k2 with
   | [y], [u], k2 =>
    simp only[RL] at k2;simp[wX,k2.1]
   | [],[],k2=>simp[wX,R];exact k2
   | y :: z :: ys, u :: u' :: oJ, k2 =>
    simp only[wX];rw[dif_neg (by simp)];simp only[R]
    grind
  obtain⟨u,hu,WT⟩:=iq
  let pF : Env:={E' with au:=λ_=>ah,bg:=λb=>match E'.bg b with | .jZ _=>.ph | r=>r}
  have gQ:∀b,pF.bg b=match E'.bg b with | .jZ _=>.ph | r=>r:=λ_=>rfl
  have alA:∀b o,(pF.bg b).jq o↔(E'.bg b).jq o:=λb o=>by rw[gQ];cases E'.bg b<;>simp[gp.jq]
  have OE:∀b t c,E'.bg b = .i_ t c->pF.bg b = .i_ t c:=λb t c h=>by rw[gQ,h]
  have hle:E'.nl.le pF.nl:=⟨λb o _ hc hv=>⟨(alA b o).2 hc,hv⟩,λ_ _ h=>by simp at h,λt n hn=>⟨n,hn,bU _,λ_ b c hb=>⟨OE b t c hb,λcs _ hc=>⟨cs,hc,rfl⟩⟩⟩⟩;have Bd : Fr E' pF := by
   refine⟨rfl,rfl,rfl,bU _,λ_=>rfl,hle.cell,hle.tok,λb _ hr=>⟨rfl,?_⟩,λb _ h=>?_,λb t c _ h=>?_,λb i _ h=>?_,λ_ c _ h=>⟨c,h,rfl⟩⟩
   .grind
   .grind
   .grind
   .grind
  refine⟨u,hu,w,u,pF,σ',rfl,rfl,λ_=>rfl,⟨λb cs cO=>?_,λt m ht=>eG.ok.aS t m (sv.2.1 t m ht),λb hb=>?_,eG.ok.nt,λb cs hc=>fz.mono _ hle (eG.ok.cI b cs (sv.2.2 b cs hc))⟩,?_,bC.trans Bd,qG⟩
  .obtain⟨h1,h2⟩:=eG.ok.box b cs (sv.1 b cs cO);exact⟨by rw[gQ,h1],h2.mono hle rfl⟩
  .rw[gQ,eG.ok.fresh b hb]
  .rcases hw with rfl | rfl
   .exact R.erase _ (WT.rI _ hle so)
   .exact WT.rI _ hle so
 cases e with
 | normal=>exact fin hq
 | ret=>exact fin hq
 | _=>exact hq.elim
end
structure fm(P:Program)(f:FuncId)(x:AC)(rs:List RV)(n:Nat):Prop where
 is:∃fn h,P.funcs[f]?=U fn/\(fn.name == "runtime.NumGoroutine")=aq/\fn.body.bind (ib P h)=U x/\By P fn.results.toList=U rs/\fn.ntmps=n
def aP(n:Nat)(args:List V):List V:=args++aj (n - args.length) .any
variable{R':V->ab->Prop}{args:List V}{f:FuncId}{rs:List RV}
def fm.fK{x:AC}{n:Nat}(h:fm P f x rs n){Z:ab}(hv:vc P x (Ce rs R') ⟨aP n args,[],Z⟩):cy P f args Z R' := by
 obtain⟨fn,hi,h1,h2,h3,h4,h5⟩:=h.is;simp only[jH] at h3;obtain⟨c,hb,hl⟩:=h3;exact arw h1 h2 hb hl h4 h5 hv
def E5(P:Program)(fn:Func)(h:Hint):Option (AC × List RV × Nat) :=
 match fn.body.bind (ib P h),By P fn.results.toList with
 | some x,U rs=>U (x,rs,fn.ntmps)
 | _,_=>ah
section
variable {P:Program} {d:Option Nat} {r:List AO} {K:St->Prop} {t:List V} {l:List (List V)} {Z:ab} {x y z:X} {Q:Exit->St->Prop} {st:St} {a b:AC}
theorem awd:vc P .skip Q st=Q .normal st:=rfl
theorem av'{o:List AO}:vc P (.HU o) Q st=de P o (Q .normal) st:=rfl
theorem awe:vc P (.sM a) Q st=a7 st (vc P a Q):=rfl
theorem av7{o:List (AO × List Nat)}:vc P (.draw o) Q ⟨t,l,Z⟩=c9 P o [(l,Z)] [] (Q .normal) ⟨t,l,Z⟩:=rfl
theorem awc:vc P (.seq a b) Q st=vc P a (FM (vc P b Q) Q) st:=rfl
def FE(P:Program)(v:V)(a b:AC)(Q:Exit->St->Prop)(st:St):Prop:=match v with | .bool c=>(c=aa->vc P a Q st)/\(c=aq->vc P b Q st) | _=>False
theorem av5:vc P (.cond x a b) Q st=FE P (ev st x) a b Q st:=rfl
def av3:FE P (.bool aa) a b Q st=vc P a Q st:=by simp[FE]
def av2:FE P (.bool aq) a b Q st=vc P b Q st:=by simp[FE]
def dc{c:Bool}(h1:c=aa->vc P a Q st)(h2:c=aq->vc P b Q st):FE P (.bool c) a b Q st:=⟨h1,h2⟩
variable{dI dM dN out:Nat}
def Sr{l:List AO}{x:X}{nxt:Nat}{y:AC}(h:de P l (λqk=>∃s:List UInt8,ev qk x = .aQ s/\(∀c∈s,c.toNat<128)/\∃I:Nat->Nat->St->Prop,
 (∀b,a7 (qk.put (U dI) (.raw (.pointer (U ⟨b,0,ah⟩)))) (I b 0)) /\
 (∀b i aV,I b i aV -> aV.t.getD dI .any = .raw (.pointer (U ⟨b,0,ah⟩))/\dN<aV.t.length/\dM<aV.t.length) /\
 (∀b i c aV,s[i]?=U c->I b i aV -> vc P y (uY nxt (AH out (I b (i+1)) Q)) ((aV.put (U dN) (.bw [.bool aa,.int .i64 (i:Nat),.int .i32 (c.toNat:Nat)])).put (U dM) (.bool aa))) /\
 (∀b aV,I b s.length aV -> Q .normal ((aV.put (U dN) (.bw [.bool aq])).put (U dM) (.bool aq)))) st):vc P (.Ro l x dI dN dM out nxt y) Q st:=h
variable{J:St->Prop}
theorem asz:AH out J Q .normal st=a7 st J:=rfl
theorem asy{id:Nat}:AH out J Q (.exit id) st=if id=out then Q .normal st else Q (.exit id) st:=rfl
theorem asA:AH out J Q .ret st=Q .ret st:=rfl
theorem awb:vc P (.scope a) Q st=vc P a (DY Q) st:=rfl
theorem apu:DY Q .normal st=Q .normal st:=rfl
theorem apt{id:Nat}:DY Q (.exit id) st=Q (.exit id) st:=rfl
theorem apv:DY Q .ret st=Q .ret st:=rfl
theorem av4{id:Nat}:vc P (.block id a) Q st=vc P a (uY id Q) st:=rfl
theorem av9{id:Nat}:vc P (.exit id) Q st=Q (.exit id) st:=rfl
theorem awa:vc P .ret Q st=Q .ret st:=rfl
theorem aew:FM K Q .normal st=K st:=rfl
theorem aev{id:Nat}:FM K Q (.exit id) st=Q (.exit id) st:=rfl
theorem aex:FM K Q .ret st=Q .ret st:=rfl
theorem ae6{id:Nat}:uY id Q .normal st=Q .normal st:=rfl
theorem ae7{id:Nat}:uY id Q .ret st=Q .ret st:=rfl
theorem ae5{id C5 : Nat}:uY id Q (.exit C5) st=if C5 = id then Q .normal st else Q (.exit C5) st:=rfl
theorem aoz{I:ι->St}{μ:ι->Nat}{n id:Nat}:B6 I μ Q n (.exit id) st=Q (.exit id) st:=rfl
theorem aoB{I:ι->St}{μ:ι->Nat}{n:Nat}:B6 I μ Q n .ret st=Q .ret st:=rfl
theorem aoA{I:ι->St}{μ:ι->Nat}{n:Nat}:B6 I μ Q n .normal st=a7 st λaV => ∃j,aV = I j/\μ j<n:=rfl
def ep(I:ι->St)(μ:ι->Nat)(h0:a7 st λaV => ∃i,aV = I i)(h:∀i,vc P a (B6 I μ Q (μ i)) (I i)):vc P (.loop a) Q st:=⟨ι,I,μ,h0,h⟩
theorem as0:Ce rs R' .ret st=opt ((xb st rs).map wX) (jS R' st):=rfl
theorem asZ:Ce rs R' .normal st=opt ((xb st rs).map wX) (jS R' st):=rfl
variable{v:V}
theorem aqV{K:V->Prop}:opt (U v) K=K v:=rfl
theorem at3:xb st []=U []:=rfl
def UZ(v:Option V)(l:Option (List V)):Option (List V):=v.bind λx=>l.map (x::·)
theorem agw{l:List V}:UZ (U v) (U l)=U (v::l):=rfl
theorem at2{y:RV}:xb st (y::rs)=UZ (rv st y) (xb st rs):=rfl
theorem at0{n:Nat}:rv ⟨t,l,Z⟩ (.tmp n)=U (t.getD n .any):=rfl
variable{g:Bool}
theorem atV{n m:Nat}:rv ⟨t,l,Z⟩ (.cell n g m)=p9 ⟨t,l,Z⟩ g m (t.getD n .any):=rfl
theorem aqB:wX [v]=v:=rfl
theorem aqA:wX [] = .bw []:=rfl
theorem aqz{u v:V}{l:List V}:wX (u::v::l) = .bw (u::v::l):=rfl
theorem aoT{v:List V}{f:List V->V}:Option.map f (U v)=U (f v):=rfl
variable{σ':ab}
def aN(h1:v.cS=aa)(h2:σ'.sub Z)(h3:R' v.erase σ'):jS R' ⟨t,l,Z⟩ v:=⟨h1,σ',_,h2,.inl rfl,h3⟩
def aaA(h1:v.cS=aa)(h2:σ'.sub Z)(h3:R' v σ'):jS R' ⟨t,l,Z⟩ v:=⟨h1,σ',_,h2,.inr rfl,h3⟩
def aI{w:V}(h:v.erase=w)(h1:v.cS=true:=by rfl):jS (λv σ' => v=w/\σ' = Z) ⟨t,l,Z⟩ v:=aN h1 (ab.a8 _) ⟨h,rfl⟩
theorem aiP{n:Nat}:ev ⟨t,l,Z⟩ (.s n)=t.getD n .any:=rfl
theorem aiN:ev st (.c v)=v:=rfl
theorem aiR:fi st []=[]:=rfl
theorem aiQ{xs:List X}:fi st (x::xs)=ev st x::fi st xs:=rfl
theorem akR{w:V}:(v::t).getD 0 w=v:=rfl
theorem akQ{w:V}{n:Nat}:(v::t).getD (n+1) w=t.getD n w:=rfl
theorem auB{w:V}:(v::t).set 0 w=w::t:=rfl
theorem auz{w:V}{n:Nat}:(v::t).set (n+1) w=v::t.set n w:=rfl
theorem asc{n:Nat}:St.put ⟨t,l,Z⟩ (U n) v=⟨t.set n v,l,Z⟩:=rfl
theorem asb:St.put st ah v=st:=rfl
theorem aqj:de P [] K st=K st:=rfl
def kL(P:Program)(d:Option Nat)(r:List AO)(K:St->Prop)(st:St)(v:V):Prop:=de P r K (st.put d v)
theorem anf:kL P d r K ⟨t,l,Z⟩ v=de P r K (St.put ⟨t,l,Z⟩ d v):=rfl
def sF(o:Option V)(K:V->Prop):Prop:=match o with | some v=>K v | none=>False
theorem aqS{K:V->Prop}:sF (U v) K=K v:=rfl
theorem aqi:de P (⟨d,.mv x,ah⟩::r) K st=de P r K (st.put d (ev st x)):=rfl
def yp(P:Program)(v a b:V)(d:Option Nat)(r:List AO)(K:St->Prop)(st:St):Prop:=match v with | .bool aa=>de P r K (st.put d a) | .bool aq=>de P r K (st.put d b) | _=>False
theorem aqn:de P (⟨d,.pick x y z,ah⟩::r) K st=yp P (ev st x) (ev st y) (ev st z) d r K st:=by rfl
theorem arF{u:V}:yp P (.bool aa) u v d r K st=de P r K (st.put d u):=rfl
theorem arD{u:V}:yp P (.bool aq) u v d r K st=de P r K (st.put d v):=rfl
def arE{b c:Bool}:yp P (.bool b) (.bool c) (.bool aq) d r K st=de P r K (st.put d (.bool (b&&c))):=by cases b<;>simp[yp]
def arG{b c:Bool}:yp P (.bool b) (.bool aa) (.bool c) d r K st=de P r K (st.put d (.bool (b||c))):=by cases b<;>simp[yp]
variable{c:List V}
theorem apR:de P (⟨d,.alloc c,ah⟩::r) K ⟨t,l,Z⟩=de P r K (St.put ⟨t,l++[c],Z⟩ d (.ptr (.au l.length) 0)):=rfl
theorem apY{n:Nat}:de P (⟨d,.box n x,ah⟩::r) K ⟨t,l,Z⟩=((ev ⟨t,l,Z⟩ x).wd=U n/\de P r K (St.put ⟨t,l++[(ev ⟨t,l,Z⟩ x).cells],Z⟩ d (.ptr (.au l.length) 0))):=rfl
def kO(P:Program)(d:Option Nat)(r:List AO)(K:St->Prop)(st:St)(cs:List V):Prop:=∀b,st.out.box b=ah->de P r K (St.put ⟨st.t,st.au,st.out.set b cs⟩ d (.ptr (.out b) 0))
theorem apS:de P (⟨d,.y5 c,ah⟩::r) K st=(bK c=aa/\kO P d r K st c):=rfl
theorem apZ{n:Nat}:de P (⟨d,.xH n x,ah⟩::r) K st=((ev st x).wd=U n/\bK (ev st x).cells=aa/\kO P d r K st (ev st x).cells):=rfl
def lT(h:∀b,Z.box b=ah->de P r K (St.put ⟨t,l,Z.set b c⟩ d (.ptr (.out b) 0))):kO P d r K ⟨t,l,Z⟩ c:=h
theorem ap1{ps:List (Nat × Nat × X)}:de P (⟨d,.build c ps,ah⟩::r) K st=sF ((rl st c ps).map V.agg) (kL P d r K st):=rfl
def QU(o:Option (List (List V)))(k:Nat)(K:V->Prop):Prop:=match o with | some v=>K (.sl .aY k v) | none=>False
theorem aqT{v:List (List V)}{K:V->Prop}:QU (U v) k K=K (.sl .aY k v):=rfl
def ap0{xs:List X}:de P (⟨d,.pd k xs,ah⟩::r) K st=QU (mR st k xs) k (kL P d r K st):=by
 simp only[de,a_.bN];cases mR st k xs<;>rfl
theorem aqg{n:Nat}:de P (⟨d,.load g n x,ah⟩::r) K st=sF (p9 st g n (ev st x)) (kL P d r K st):=rfl
def Zy(P:Program)(o:Option St)(d:Option Nat)(r:List AO)(K:St->Prop):Prop:=match o with | some st=>de P r K (st.put d .any) | none=>False
theorem aqU:Zy P (U st) d r K=de P r K (st.put d .any):=rfl
theorem aqq{n:Nat}:de P (⟨d,.store n x y,ah⟩::r) K st=Zy P (fe st n (ev st y) (ev st x)) d r K:=by rfl
def HB(v:V)(K:V->Prop):Prop:=match v with | .ptr p o=>K (.ptr p o) | .elt c o=>K (.elt c o) | .fn (.func f) a b=>K (.fn (.func f) a b) | _=>False
theorem aqk:de P (⟨d,.ym x,ah⟩::r) K st=HB (ev st x) (kL P d r K st):=by rfl
variable{o:Nat}
theorem apq{p:Pl}{K:V->Prop}:HB (.ptr p o) K=K (.ptr p o):=rfl
theorem apn{K:V->Prop}:HB (.elt c o) K=K (.elt c o):=rfl
theorem apo{e:List V}{K:V->Prop}:HB (.fn (.func f) c e) K=K (.fn (.func f) c e):=rfl
theorem apW{op:BinOp}:de P (⟨d,.qB op x y,ah⟩::r) K st=sF (y8 op (ev st x) (ev st y)) (kL P d r K st):=rfl
theorem apX{op:BinOp}:de P (⟨d,.vg op x y,ah⟩::r) K st=sF (Cj op (ev st x) (ev st y)) (kL P d r K st):=rfl
theorem apV{n:Bool}:de P (⟨d,.xG n x y,ah⟩::r) K st=sF (AY n (ev st x) (ev st y)) (kL P d r K st):=rfl
def I2(u v:V)(K:V->Prop):Prop:=∃a b,u = .aQ a/\v = .aQ b/\a.length+b.length<=aJ/\K (.aQ (a++b))
theorem ap4:de P (⟨d,.cat x y,ah⟩::r) K st=I2 (ev st x) (ev st y) (kL P d r K st):=rfl
def afK{a b:List UInt8}{K:V->Prop}:I2 (.aQ a) (.aQ b) K=(a.length+b.length<=aJ/\K (.aQ (a++b))):=by
 simp only[I2,V.aQ.injEq,eq_iff_iff];simp
variable{ks:List Nat}
theorem ap7{n:Bool}:de P (⟨d,.lr n ks x y,ah⟩::r) K st=sF (AX n ks (ev st x) (ev st y)) (kL P d r K st):=rfl
def QI(v:V)(K:V->Prop):Prop:=match v with | .bool b=>K (.bool (!b)) | _=>False
theorem aql:de P (⟨d,.not x,ah⟩::r) K st=QI (ev st x) (kL P d r K st):=by rfl
theorem apN{b:Bool}{K:V->Prop}:QI (.bool b) K=K (.bool (!b)):=rfl
def P'(v:V)(K:V->Prop):Prop:=match v with | .sl _ _ l=>K (.int .i64 l.length) | .raw (.slice _ n _)=>K (.int .i64 n) | _=>False
theorem aqe:de P (⟨d,.yj x,ah⟩::r) K st=P' (ev st x) (kL P d r K st):=by rfl
variable{m:List (List V)}
theorem anQ{D:Tk}{K:V->Prop}:P' (.sl D k m) K=K (.int .i64 m.length):=rfl
def Qa(v:V)(K:V->Prop):Prop:=match v with | .aQ s=>K (.int .i64 s.length) | _=>False
theorem aqf:de P (⟨d,.yk x,ah⟩::r) K st=Qa (ev st x) (kL P d r K st):=by rfl
theorem anR{s:List UInt8}{K:V->Prop}:Qa (.aQ s) K=K (.int .i64 s.length):=rfl
def Jk(off:Nat)(v:V)(K:V->Prop):Prop:=match v with | .ptr p o=>K (.ptr p (o+off)) | .elt c o=>K (.elt c (o+off)) | _=>False
theorem ap_{n:Nat}:de P (⟨d,.rq n x,ah⟩::r) K st=Jk n (ev st x) (kL P d r K st):=by rfl
theorem ajr{p:Pl}{n:Nat}{K:V->Prop}:Jk n (.ptr p o) K=K (.ptr p (o+n)):=rfl
theorem ajq{n:Nat}{K:V->Prop}:Jk n (.elt c o) K=K (.elt c (o+n)):=rfl
def Nx(g:Bool)(off n:Nat)(v:V)(K:V->Prop):Prop:=match v with | .agg cs=>sF (bP g n (cs.drop off)) K | _=>False
theorem ap'{n m:Nat}:de P (⟨d,.xU g m n x,ah⟩::r) K st=Nx g m n (ev st x) (kL P d r K st):=by rfl
theorem ajs{n m:Nat}{K:V->Prop}:Nx g m n (.agg cs) K=sF (bP g n (cs.drop m)) K:=rfl
def C6(k:Nat)(v i:V)(K:V->Prop):Prop:=match v with
 | .sl _ k' l=>k' = k/\L3 l i λc=>K (.elt c 0)
 | .raw (.slice (U ⟨b,o,ah⟩) n _)=>∃ik j,i = .int ik j/\0<=j/\j<n/\K (.ptr (.out b) (o+j.toNat*k))
 | _=>False
theorem aqb:de P (⟨d,.vP k x y,ah⟩::r) K st=C6 k (ev st x) (ev st y) (kL P d r K st):=by rfl
variable{ik:IntKind}
def mG{D:Tk}{n:Int}{K:V->Prop}(h0:0<=n)(h:m[n.toNat]?=U c)(hk:K (.elt c 0)):C6 k (.sl D k m) (.int ik n) K:=⟨rfl,ik,n,c,rfl,h0,h,hk⟩
def lz{D:Tk}{n:Int}{K:V->Prop}(h:m[n.toNat]?=U c)(hk:K (.elt c 0))(h0:0<=n:=by omega):C6 k (.sl D k m) (.int ik n) K:=mG h0 h hk
def EO(m k:Nat)(v i:V)(K:V->Prop):Prop:=match v with
 | .ptr p o=>∃kk n,i = .int kk n/\0<=n/\n<(m:Nat)/\K (.ptr p (o+n.toNat*k))
 | .elt c o=>∃kk n,i = .int kk n/\0<=n/\n<(m:Nat)/\K (.elt c (o+n.toNat*k))
 | _=>False
theorem aqc{m:Nat}:de P (⟨d,.yf m k x y,ah⟩::r) K st=EO m k (ev st x) (ev st y) (kL P d r K st):=by rfl
def amy{m:Nat}{p:Pl}{n:Int}{K:V->Prop}(h0:0<=n)(h:n<(m:Nat))(hk:K (.ptr p (o+n.toNat*k))):EO m k (.ptr p o) (.int ik n) K:=⟨ik,n,rfl,h0,h,hk⟩
def jX{m:Nat}{p:Pl}{n:Int}{K:V->Prop}(hk:K (.ptr p (o+n.toNat*k)))(h0:0<=n:=by omega)(h:n<(m:Nat):=by omega):EO m k (.ptr p o) (.int ik n) K:=amy h0 h hk
def amx{m:Nat}{n:Int}{K:V->Prop}(h0:0<=n)(h:n<(m:Nat))(hk:K (.elt c (o+n.toNat*k))):EO m k (.elt c o) (.int ik n) K:=⟨ik,n,rfl,h0,h,hk⟩
def tq{m:Nat}{n:Int}{K:V->Prop}(hk:K (.elt c (o+n.toNat*k)))(h0:0<=n:=by omega)(h:n<(m:Nat):=by omega):EO m k (.elt c o) (.int ik n) K:=amx h0 h hk
def Kg(v i:V)(K:V->Prop):Prop:=match v with | .aQ s=>∃k n c,i = .int k n/\0<=n/\s[n.toNat]?=U c/\K (.int .u8 c.toNat) | _=>False
theorem aqd:de P (⟨d,.yg x y,ah⟩::r) K st=Kg (ev st x) (ev st y) (kL P d r K st):=by rfl
def amz{s:List UInt8}{n:Int}{c:UInt8}{K:V->Prop}(h0:0<=n)(h:s[n.toNat]?=U c)(hk:K (.int .u8 c.toNat)):Kg (.aQ s) (.int ik n) K:=⟨ik,n,c,rfl,h0,h,hk⟩
def rF{s:List UInt8}{n:Int}{c:UInt8}{K:V->Prop}(h:s[n.toNat]?=U c)(hk:K (.int .u8 c.toNat))(h0:0<=n:=by omega):Kg (.aQ s) (.int ik n) K:=amz h0 h hk
def kC(P:Program)(d:Option Nat)(r:List AO)(K:St->Prop)(t:List V)(l:List (List V))(v:V)(Z:ab):Prop:=de P r K (St.put ⟨t,l,Z⟩ d v)
theorem anc:kC P d r K t l v Z=de P r K (St.put ⟨t,l,Z⟩ d v):=rfl
theorem ap2{xs:List X}:de P (⟨d,.call f xs,ah⟩::r) K ⟨t,l,Z⟩=(bK (fi ⟨t,l,Z⟩ xs)=aa/\cy P f (fi ⟨t,l,Z⟩ xs) Z (kC P d r K t l)):=rfl
def Uw(P:Program)(v:V)(args:List V)(Z:ab)(K:V->ab->Prop):Prop:=match v with | .fn (.func f) a b=>bK (a++args++b)=aa/\cy P f (a++args++b) Z K | _=>False
theorem ap3{xs:List X}:de P (⟨d,.xJ x xs,ah⟩::r) K ⟨t,l,Z⟩=Uw P (ev ⟨t,l,Z⟩ x) (fi ⟨t,l,Z⟩ xs) Z (kC P d r K t l):=by rfl
theorem afH{u v:List V}{K:V->ab->Prop}:Uw P (.fn (.func f) u v) args Z K=(bK (u++args++v)=aa/\cy P f (u++args++v) Z K):=rfl
theorem apT:de P (⟨d,.app k x y,ah⟩::r) K ⟨t,l,Z⟩=sR Z k (ev ⟨t,l,Z⟩ x) (ev ⟨t,l,Z⟩ y) (kC P d r K t l):=rfl
theorem apU:de P (⟨d,.xC x y,ah⟩::r) K ⟨t,l,Z⟩=(∃a,ev ⟨t,l,Z⟩ y = .aQ a/\sR Z 1 (ev ⟨t,l,Z⟩ x) (.sl .no 1 (fS a)) (kC P d r K t l)):=rfl
variable{u:Tk}
def fg{n:List (List V)}{K:V->ab->Prop}(hb:m.length+n.length<=aJ)(ht:Z.aS D=U m.length)(hk:K (.sl (.tk D) k (m++n)) (Z.aU D (m.length+n.length))):
 sR Z k (.sl (.tk D) k m) (.sl u k n) K:=⟨_,m,n,rfl,⟨u,rfl⟩,hb,ht,hk⟩
def y6{n:List (List V)}{K:V->ab->Prop}(hb:m.length+n.length<=aJ)(hk:∀D,Z.aS D=ah->K (.sl (.tk D) k (m++n)) (Z.aU D (m.length+n.length))):
 sR Z k (.sl .aY k m) (.sl u k n) K:=⟨_,m,n,rfl,⟨u,rfl⟩,hb,.inl hk⟩
def xD{n:List (List V)}{K:V->ab->Prop}(hb:m.length+n.length<=aJ)(hk:K (.sl .no k (m++n)) Z):
 sR Z k (.sl .aY k m) (.sl u k n) K:=⟨_,m,n,rfl,⟨u,rfl⟩,hb,.inr (.inl hk)⟩
def Gl(i:Nat)(v:V)(K:V->Prop):Prop:=match v with | .bw vs=>sF vs[i]? K | _=>False
theorem ap9:de P (⟨d,.ext x i,ah⟩::r) K st=Gl i (ev st x) (kL P d r K st):=by rfl
theorem aiX{u:V}{us:List V}{K:V->Prop}:Gl 0 (.bw (u::us)) K=K u:=rfl
theorem aiW{i:Nat}{u:V}{us:List V}{K:V->Prop}:Gl (i+1) (.bw (u::us)) K=Gl i (.bw us) K:=rfl
theorem aqh{f:Fn}{as bs:List X}:de P (⟨d,.Bz f as bs,ah⟩::r) K st=de P r K (st.put d (.fn f (fi st as) (fi st bs))):=rfl
def MZ(k:IntKind)(v:V)(K:V->Prop):Prop:=match v with | .int _ n=>K (.int k (k.wrap n)) | _=>False
theorem ap6{k:IntKind}:de P (⟨d,.zb k x,ah⟩::r) K st=MZ k (ev st x) (kL P d r K st):=by rfl
theorem agY{k j:IntKind}{n:Int}{K:V->Prop}:MZ k (.int j n) K=K (.int k (k.wrap n)):=rfl
theorem ap5:de P (⟨d,.AS x,ah⟩::r) K st=(∃t s,ev st x = .sl t 1 (fS s)/\kL P d r K st (.aQ s)):=rfl
def gL(P:Program)(v:V)(w:Bool)(d:Option Nat)(op:a_)(r:List AO)(K:St->Prop)(st:St):Prop :=
 match v with
 | .bool b=>if b=w then de P (⟨d,op,ah⟩::r) K st else de P r K (st.put d (.bw []))
 | .bw []=>de P r K (st.put d (.bw []))
 | _=>False
theorem aqa{g:Nat}{w:Bool}{op:a_}:de P (⟨d,op,U (g,w)⟩::r) K ⟨t,l,Z⟩=gL P (t.getD g .any) w d op r K ⟨t,l,Z⟩:=by rfl
theorem akG{w:Bool}{op:a_}:gL P (.bw []) w d op r K st=de P r K (st.put d (.bw [])):=rfl
theorem akF{op:a_}:gL P (.bool aa) aa d op r K st=de P (⟨d,op,ah⟩::r) K st:=rfl
theorem akC{op:a_}:gL P (.bool aq) aq d op r K st=de P (⟨d,op,ah⟩::r) K st:=rfl
theorem akE{op:a_}:gL P (.bool aa) aq d op r K st=de P r K (st.put d (.bw [])):=rfl
theorem akD{op:a_}:gL P (.bool aq) aa d op r K st=de P r K (st.put d (.bw [])):=rfl
def Db(c:Option (List V))(g:Bool)(n o:Nat):Option V:=c.bind λcs=>bP g n (cs.drop o)
theorem anB{n:Nat}:Db (U c) g n o=bP g n (c.drop o):=rfl
theorem anK{g:Bool}{n i o:Nat}:p9 ⟨t,l,Z⟩ g n (.ptr (.au i) o)=Db l[i]? g n o:=rfl
theorem anL{n:Nat}:p9 ⟨t,l,Z⟩ g n (.ptr (.out i) o)=Db (Z.box i) g n o:=rfl
theorem anJ{n:Nat}:p9 ⟨t,l,Z⟩ g n (.ptr (.nq i) o)=Db (Z.cI i) g n o:=rfl
theorem anI{n:Nat}:p9 st g n (.elt cs o)=bP g n (cs.drop o):=rfl
theorem Bu{n:Nat}:bP aa n cs=(takeN n cs).map V.agg:=rfl
theorem anC{n:Nat}{c:V}:bP aq n (c::cs)=U c:=rfl
theorem avt:takeN 0 cs=U []:=rfl
def YZ(c:V):Option (List V)->Option (List V) | some l=>U (c::l) | none=>ah
def Sg{n:Nat}{c:V}:takeN (n+1) (c::cs)=YZ c (takeN n cs):=by simp only[takeN];cases takeN n cs<;>rfl
theorem aoS{c:V}:YZ c (U cs)=U (c::cs):=rfl
theorem ahG:cs.drop 0=cs:=rfl
theorem ahF{n:Nat}{c:V}:(c::cs).drop (n+1)=cs.drop n:=rfl
def stL(t:List V)(l:List (List V))(Z:ab)(i o n:Nat)(x:V):Option (List V)->Option St
 | some cs=>if cB n (cs.drop o)=aa/\x.wd=U n/\c8 x.cells=aa then U ⟨t,l.set i (setAt cs o x.cells),Z⟩ else ah
 | none=>ah
def auZ{n:Nat}:fe ⟨t,l,Z⟩ n v (.ptr (.au i) o)=stL t l Z i o n v l[i]?:=by simp only[fe];cases l[i]?<;>rfl
theorem auX{n:Nat}:stL t l Z i o n v (U cs)=if cB n (cs.drop o)=aa/\v.wd=U n/\c8 v.cells=aa then U ⟨t,l.set i (setAt cs o v.cells),Z⟩ else none:=rfl
def stO(t:List V)(l:List (List V))(Z:ab)(i o n:Nat)(x:V):Option (List V)->Option St
 | some cs=>if cB n (cs.drop o)=aa/\x.wd=U n/\c8 x.cells=aa/\bK x.cells=aa then U ⟨t,l,Z.set i (setAt cs o x.cells)⟩ else ah
 | none=>ah
def au0{n:Nat}:fe ⟨t,l,Z⟩ n v (.ptr (.out i) o)=stO t l Z i o n v (Z.box i):=by simp only[fe];cases Z.box i<;>rfl
theorem auY{n:Nat}:stO t l Z i o n v (U cs)=if cB n (cs.drop o)=aa/\v.wd=U n/\c8 v.cells=aa/\bK v.cells=aa then U ⟨t,l,Z.set i (setAt cs o v.cells)⟩ else none:=rfl
def j6{b:Nat}:(Z.set b cs).box b=U cs:=by simp[ab.set]
def sL{b c:Nat}(h:c≠b):(Z.set b cs).box c=Z.box c:=by simp[ab.set,h]
theorem aus{b D n:Nat}:(Z.aU D n).box b=Z.box b:=rfl
theorem auv{b g:Nat}:(Z.set b cs).cI g=Z.cI g:=rfl
theorem aut{g n:Nat}:(Z.aU D n).cI g=Z.cI g:=rfl
theorem auA{b D:Nat}:(Z.set b cs).aS D=Z.aS D:=rfl
def R2{n:Nat}:(Z.aU D n).aS D=U n:=by simp[ab.aU]
def n_{O n:Nat}(h:O≠D):(Z.aU D n).aS O=Z.aS O:=by simp[ab.aU,h]
theorem ae_:rl st c []=U c:=rfl
def Uo(st:St)(c:List V)(off n:Nat)(v:V)(ps:List (Nat × Nat × X)):Option (List V):=if cB n (c.drop off)=aa/\v.wd=U n then rl st (setAt c off v.cells) ps else ah
theorem ae9{n:Nat}{ps:List (Nat × Nat × X)}:rl st c ((off,n,x)::ps)=Uo st c off n (ev st x) ps:=rfl
theorem ae4{n:Nat}{ps:List (Nat × Nat × X)}:Uo st c off n v ps=if cB n (c.drop off)=aa/\v.wd=U n then rl st (setAt c off v.cells) ps else none:=rfl
theorem atw{k:Nat}:mR st k []=U []:=rfl
def RA(c:List V):Option (List (List V))->Option (List (List V)) | some l=>U (c::l) | none=>ah
theorem atl:RA c (U m)=U (c::m):=rfl
def Ry(st:St)(k:Nat)(v:V)(xs:List X):Option (List (List V)):=if v.wd=U k/\bK v.cells=aa/\c8 v.cells=aa then RA (a9 v.cells) (mR st k xs) else ah
def atv{xs:List X}:mR st k (x::xs)=Ry st k (ev st x) xs:=by
 simp only[mR,Ry];cases mR st k xs<;>rfl
theorem ath{xs:List X}:Ry st k v xs=if v.wd=U k/\bK v.cells=aa/\c8 v.cells=aa then RA (a9 v.cells) (mR st k xs) else none:=rfl
def dv(v v' : V):Prop:=∀E u,R E v u->R E v' u
def dv.rfl:dv v v:=λ_ _ h=>h
def dv.any:dv v .any:=λ_ _ _=>by simp only[R]
def dv.erase:dv v v.erase:=λ_ _ h=>R.erase v h
def dv.no{D:Tk}:dv (.sl D k m) (.sl .no k m):=λ_ _ h=>R.erase (.sl D k m) h
def c_:List V->List V->Prop
 | [],[]=>True
 | v::l,v' :: l' => dv v v' /\ c_ l l'
 | _,_=>False
def c_.rfl:∀{l:List V},c_ l l
 | []=>trivial
 | _::_=>⟨dv.rfl,c_.rfl⟩
def c_.mono:∀{l l' : List V} {E:Env} {us:List Value},c_ l l' -> RL E l us->RL E l' us
 | [],[],_,_,_,h=>h
 | [],_::_,_,_,h,_=>h.elim
 | _::_,[],_,_,h,_=>h.elim
 | v::l,v' :: l',_,[],_,h=>by simp[RL] at h
 | v :: l, v' :: l', _, u :: us, h, hr => by
  simp only[RL] at hr ⊢;exact⟨h.1 _ _ hr.1,c_.mono h.2 hr.2⟩
def c_.length:∀{l l' : List V},c_ l l' -> l.length=l'.length
 | [],[],_=>Eq.refl _
 | [],_::_,h=>h.elim
 | _::_,[],h=>h.elim
 | v::l,v' :: l',h=>by simp[c_.length h.2]
def c_.get:∀{l l' : List V},c_ l l' -> ∀(j:Nat) v',l'[j]?=U v' -> ∃v,l[j]?=U v/\dv v v'
 | [],[],_,j,v',h=>by simp at h
 | [],_::_,h,_,_,_=>h.elim
 | _::_,[],h,_,_,_=>h.elim
 | v :: l, w :: l', h, j, v', hj => by
  cases j with
  | zero=>simp at hj;subst hj;exact⟨v,by simp,h.1⟩
  | succ j=>simp at hj;obtain⟨u,h1,h2⟩:=c_.get h.2 j v' hj;exact⟨u,by simpa using h1,h2⟩
def bX:List (List V)->List (List V)->Prop
 | [],[]=>True
 | v::l,v' :: l' => c_ v v' /\ bX l l'
 | _,_=>False
def bX.rfl:∀{l:List (List V)},bX l l
 | []=>trivial
 | _::_=>⟨c_.rfl,bX.rfl⟩
def bX.length:∀{l l' : List (List V)},bX l l' -> l.length=l'.length
 | [],[],_=>Eq.refl _
 | [],_::_,h=>h.elim
 | _::_,[],h=>h.elim
 | v::l,v' :: l',h=>by simp[bX.length h.2]
def bX.get:∀{l l' : List (List V)},bX l l' -> ∀(j:Nat) v',l'[j]?=U v' -> ∃v,l[j]?=U v/\c_ v v'
 | [],[],_,j,v',h=>by simp at h
 | [],_::_,h,_,_,_=>h.elim
 | _::_,[],h,_,_,_=>h.elim
 | v :: l, w :: l', h, j, v', hj => by
  cases j with
  | zero=>simp at hj;subst hj;exact⟨v,by simp,h.1⟩
  | succ j=>simp at hj;obtain⟨u,h1,h2⟩:=bX.get h.2 j v' hj;exact⟨u,by simpa using h1,h2⟩
def kF.df{b:Nat}{cs':List V}(h:c_ cs cs')(k:kF E b cs):kF E b cs' := by
 obtain⟨c,e,h1,h2,h3⟩:=k;refine⟨c,e,h1,by rw[<-h.length];exact h2,λj x hx=>?_⟩;obtain⟨v,hv,hle⟩:=h.get j x hx;obtain⟨u,k1,k2⟩:=h3 j v hv;exact⟨u,k1,hle _ _ k2⟩
structure bp(Z σ' : ab):Prop where
 box:∀b cs',σ'.box b=U cs' -> ∃cs,Z.box b=U cs/\c_ cs cs'
 aS:∀D n,σ'.aS D=U n->Z.aS D=U n
 cI:∀b cs,σ'.cI b=U cs->Z.cI b=U cs
def bp.rfl{Z:ab}:bp Z Z:=⟨λ_ cs h=>⟨cs,h,c_.rfl⟩,λ_ _ h=>h,λ_ _ h=>h⟩
def bp.aqv{Z σ' : ab}(h:σ'.sub Z):bp Z σ' := ⟨λb cs k=>⟨cs,h.1 b cs k,c_.rfl⟩,h.2.1,h.2.2⟩
def a7.df{t t' : List V}{l l' : List (List V)}{Z σ' : ab}(h:c_ t t')(hl:bX l l')(ho:bp Z σ')(hk:K ⟨t',l',σ'⟩):a7 ⟨t,l,Z⟩ K:=by
 intro E a hs;refine⟨E,_,rfl,Fr.refl E,⟨⟨λb cs cO=>?_,λD n hn=>hs.ok.aS D n (ho.aS D n hn),hs.ok.fresh,hs.ok.nt,λb cs hc=>hs.ok.cI b cs (ho.cI b cs hc)⟩,⟨λi cs cO=>?_,λi hi=>hs.dO.none i (by rw[hl.length];exact hi)⟩,hs.defers,h.mono hs.slot⟩,hk⟩
 .obtain⟨Cl,h1,h2⟩:=ho.box b cs cO;obtain⟨k1,k2⟩:=hs.ok.box b Cl h1;exact⟨k1,k2.df h2⟩
 .obtain⟨Cl,h1,h2⟩:=hl.get i cs cO;obtain⟨b,k1,k2,k3⟩:=hs.dO.box i Cl h1;exact⟨b,k1,k2,k3.df h2⟩
variable{as:List V}
def cy.df{as':List V}{Z σ' : ab}(h:cy P f as' σ' R')(ha:c_ as as')(ho:bp Z σ'):cy P f as Z R' := by
 refine⟨h.1,λE vs h1 h2 h3=>h.2 E vs h1 ?_ (ha.mono h3)⟩;refine⟨λb cs cO=>?_,λD n hn=>h2.aS D n (ho.aS D n hn),h2.fresh,h2.nt,λb cs hc=>h2.cI b cs (ho.cI b cs hc)⟩;obtain⟨Cl,k1,k2⟩:=ho.box b cs cO;obtain⟨k3,k4⟩:=h2.box b Cl k1;exact⟨k3,k4.df k2⟩
end
section
variable {P:Program} {d:Option Nat} {r:List (AO × List Nat)} {K:St->Prop} {t:List V} {l:List (List V)} {Z:ab} {x y z:X} {st:St} {SN:List dZ} {L:List (V × Bool × Nat × V × List Nat)} {ms:List Nat}
theorem ahq:c9 P [] SN L K st=(sV SN L/\K st):=rfl
def kD(P:Program)(d:Option Nat)(r:List (AO × List Nat))(SN:List dZ)(L:List (V × Bool × Nat × V × List Nat))(K:St->Prop)(st:St)(v:V):Prop:=c9 P r SN L K (st.put d v)
variable{v:V}
theorem ane:kD P d r SN L K ⟨t,l,Z⟩ v=c9 P r SN L K (St.put ⟨t,l,Z⟩ d v):=rfl
theorem ahp:c9 P ((⟨d,.mv x,ah⟩,ms)::r) SN L K st=c9 P r SN L K (st.put d (ev st x)):=rfl
def Ds(P:Program)(v a b:V)(d:Option Nat)(r:List (AO × List Nat))(SN:List dZ)(L:List (V × Bool × Nat × V × List Nat))(K:St->Prop)(st:St):Prop:=match v with | .bool aa=>c9 P r SN L K (st.put d a) | .bool aq=>c9 P r SN L K (st.put d b) | _=>False
theorem aht:c9 P ((⟨d,.pick x y z,ah⟩,ms)::r) SN L K st=Ds P (ev st x) (ev st y) (ev st z) d r SN L K st:=by rfl
theorem arB{u:V}:Ds P (.bool aa) u v d r SN L K st=c9 P r SN L K (st.put d u):=rfl
theorem arz{u:V}:Ds P (.bool aq) u v d r SN L K st=c9 P r SN L K (st.put d v):=rfl
def arA{b c:Bool}:Ds P (.bool b) (.bool c) (.bool aq) d r SN L K st=c9 P r SN L K (st.put d (.bool (b&&c))):=by cases b<;>simp[Ds]
def arC{b c:Bool}:Ds P (.bool b) (.bool aa) (.bool c) d r SN L K st=c9 P r SN L K (st.put d (.bool (b||c))):=by cases b<;>simp[Ds]
variable{c:List V}
theorem ag1:c9 P ((⟨d,.alloc c,ah⟩,ms)::r) SN L K ⟨t,l,Z⟩=c9 P r (SN++[(l++[c],Z)]) L K (St.put ⟨t,l++[c],Z⟩ d (.ptr (.au l.length) 0)):=rfl
theorem ag6{n:Nat}:c9 P ((⟨d,.box n x,ah⟩,ms)::r) SN L K ⟨t,l,Z⟩=((ev ⟨t,l,Z⟩ x).wd=U n/\c9 P r (SN++[(l++[(ev ⟨t,l,Z⟩ x).cells],Z)]) L K (St.put ⟨t,l++[(ev ⟨t,l,Z⟩ x).cells],Z⟩ d (.ptr (.au l.length) 0))):=rfl
theorem ag7{n:Nat}:c9 P ((⟨d,.xI n x,ah⟩,ms)::r) SN L K ⟨t,l,Z⟩=((ev ⟨t,l,Z⟩ x).wd=U n/\c8 (ev ⟨t,l,Z⟩ x).cells=aa/\c9 P r (SN++[(l++[(ev ⟨t,l,Z⟩ x).cells],Z)]) L K (St.put ⟨t,l++[(ev ⟨t,l,Z⟩ x).cells],Z⟩ d (.ptr (.au l.length) 0))):=rfl
theorem ag9{ps:List (Nat × Nat × X)}:c9 P ((⟨d,.build c ps,ah⟩,ms)::r) SN L K st=sF ((rl st c ps).map V.agg) (kD P d r SN L K st):=rfl
def ag8{xs:List X}:c9 P ((⟨d,.pd k xs,ah⟩,ms)::r) SN L K st=QU (mR st k xs) k (kD P d r SN L K st):=by
 show opt ((mR st k xs).map (V.sl .aY k)) _=_;cases mR st k xs<;>rfl
def Yh(P:Program)(a:V)(g:Bool)(n:Nat)(ms:List Nat)(d:Option Nat)(r:List (AO × List Nat))(SN:List dZ)(L:List (V × Bool × Nat × V × List Nat))(K:St->Prop)(st:St):Option V->Prop
 | some v=>c9 P r SN ((a,g,n,v,ms)::L) K (st.put d v)
 | none=>False
theorem anD{a v:V}{g:Bool}{n:Nat}:Yh P a g n ms d r SN L K st (U v)=c9 P r SN ((a,g,n,v,ms)::L) K (st.put d v):=rfl
variable{g:Bool}
theorem ahn{n:Nat}:c9 P ((⟨d,.load g n x,ah⟩,ms)::r) SN L K st=Yh P (ev st x) g n ms d r SN L K st (p9 st g n (ev st x)):=by rfl
def stD(P:Program)(d:Option Nat)(r:List (AO × List Nat))(SN:List dZ)(L:List (V × Bool × Nat × V × List Nat))(K:St->Prop):Option St->Prop
 | some st=>c9 P r (SN++[(st.au,st.out)]) L K (st.put d .any)
 | none=>False
theorem auW:stD P d r SN L K (U ⟨t,l,Z⟩)=c9 P r (SN++[(l,Z)]) L K (St.put ⟨t,l,Z⟩ d .any):=rfl
theorem ahw{n:Nat}:c9 P ((⟨d,.store n x y,ah⟩,ms)::r) SN L K st=stD P d r SN L K (fe st n (ev st y) (ev st x)):=by rfl
theorem ahr:c9 P ((⟨d,.ym x,ah⟩,ms)::r) SN L K st=HB (ev st x) (kD P d r SN L K st):=by rfl
theorem ag4{op:BinOp}:c9 P ((⟨d,.qB op x y,ah⟩,ms)::r) SN L K st=sF (y8 op (ev st x) (ev st y)) (kD P d r SN L K st):=rfl
theorem ag5{op:BinOp}:c9 P ((⟨d,.vg op x y,ah⟩,ms)::r) SN L K st=sF (Cj op (ev st x) (ev st y)) (kD P d r SN L K st):=rfl
theorem ag3{n:Bool}:c9 P ((⟨d,.xG n x y,ah⟩,ms)::r) SN L K st=sF (AY n (ev st x) (ev st y)) (kD P d r SN L K st):=rfl
theorem aha:c9 P ((⟨d,.cat x y,ah⟩,ms)::r) SN L K st=I2 (ev st x) (ev st y) (kD P d r SN L K st):=rfl
variable{ks:List Nat}
theorem ahd{n:Bool}:c9 P ((⟨d,.lr n ks x y,ah⟩,ms)::r) SN L K st=sF (AX n ks (ev st x) (ev st y)) (kD P d r SN L K st):=rfl
theorem ahs:c9 P ((⟨d,.not x,ah⟩,ms)::r) SN L K st=QI (ev st x) (kD P d r SN L K st):=by rfl
theorem ahl:c9 P ((⟨d,.yj x,ah⟩,ms)::r) SN L K st=P' (ev st x) (kD P d r SN L K st):=by rfl
theorem ahm:c9 P ((⟨d,.yk x,ah⟩,ms)::r) SN L K st=Qa (ev st x) (kD P d r SN L K st):=by rfl
theorem ahf{n:Nat}:c9 P ((⟨d,.rq n x,ah⟩,ms)::r) SN L K st=Jk n (ev st x) (kD P d r SN L K st):=by rfl
theorem ahg{g:Bool}{n m:Nat}:c9 P ((⟨d,.xU g m n x,ah⟩,ms)::r) SN L K st=Nx g m n (ev st x) (kD P d r SN L K st):=by rfl
theorem ahi:c9 P ((⟨d,.vP k x y,ah⟩,ms)::r) SN L K st=C6 k (ev st x) (ev st y) (kD P d r SN L K st):=by rfl
theorem ahj{m:Nat}:c9 P ((⟨d,.yf m k x y,ah⟩,ms)::r) SN L K st=EO m k (ev st x) (ev st y) (kD P d r SN L K st):=by rfl
theorem ahk:c9 P ((⟨d,.yg x y,ah⟩,ms)::r) SN L K st=Kg (ev st x) (ev st y) (kD P d r SN L K st):=by rfl
def Kq(P:Program)(d:Option Nat)(r:List (AO × List Nat))(SN:List dZ)(L:List (V × Bool × Nat × V × List Nat))(K:St->Prop)(t:List V)(l:List (List V))(v:V)(Z:ab):Prop:=c9 P r (SN++[(l,Z)]) L K (St.put ⟨t,l,Z⟩ d v)
theorem anb{v:V}:Kq P d r SN L K t l v Z=c9 P r (SN++[(l,Z)]) L K (St.put ⟨t,l,Z⟩ d v):=rfl
def bn(P:Program)(f:FuncId)(as:List V)(Z:ab)(K:V->ab->Prop):Prop:=∃v σ',cy P f as Z (λv' uT => v' = v/\uT = σ')/\K v σ'
variable{as:List V}{σ':ab}
def bn.intro{K:V->ab->Prop}(h:cy P f as Z λv' uT => v' = v/\uT = σ')(k:K v σ'):bn P f as Z K:=⟨v,σ',h,k⟩
def cl{K:V->ab->Prop}(h:cy P f as Z λv' uT => v' = v/\uT = σ')(k:K v σ'):cy P f as Z K:=h.mono λ_ _ e=>e.1▸e.2▸k
theorem ag_{xs:List X}:c9 P ((⟨d,.call f xs,ah⟩,ms)::r) SN L K ⟨t,l,Z⟩=(bK (fi ⟨t,l,Z⟩ xs)=aa/\bn P f (fi ⟨t,l,Z⟩ xs) Z (Kq P d r SN L K t l)):=rfl
def Uv(P:Program)(v:V)(args:List V)(Z:ab)(K:V->ab->Prop):Prop:=match v with | .fn (.func f) a b=>bK (a++args++b)=aa/\bn P f (a++args++b) Z K | _=>False
theorem ag'{xs:List X}:c9 P ((⟨d,.xJ x xs,ah⟩,ms)::r) SN L K ⟨t,l,Z⟩=Uv P (ev ⟨t,l,Z⟩ x) (fi ⟨t,l,Z⟩ xs) Z (Kq P d r SN L K t l):=by rfl
theorem afG{u v:List V}{K:V->ab->Prop}:Uv P (.fn (.func f) u v) args Z K=(bK (u++args++v)=aa/\bn P f (u++args++v) Z K):=rfl
theorem ag2:c9 P ((⟨d,.app k x y,ah⟩,ms)::r) SN L K ⟨t,l,Z⟩=B0 Z k (ev ⟨t,l,Z⟩ x) (ev ⟨t,l,Z⟩ y) (Kq P d r SN L K t l):=rfl
variable{m:List (List V)}{u:Tk}
def qz{n:List (List V)}{K:V->ab->Prop}(hb:m.length+n.length<=aJ)(ht:Z.aS D=U m.length)(hk:K (.sl (.tk D) k (m++n)) (Z.aU D (m.length+n.length))):
 B0 Z k (.sl (.tk D) k m) (.sl u k n) K:=⟨_,m,n,rfl,⟨u,rfl⟩,hb,ht,hk⟩
def adW{n:List (List V)}{K:V->ab->Prop}(hb:m.length+n.length<=aJ)(hk:K (.sl .no k (m++n)) Z):
 B0 Z k (.sl .aY k m) (.sl u k n) K:=⟨_,m,n,rfl,⟨u,rfl⟩,hb,.inl hk⟩
def TU{n:List (List V)}{K:V->ab->Prop}(hb:m.length+n.length<=aJ)(ht:Z.aS D=U m.length)(hk:K (.sl (.tk D) k (m++n)) (Z.aU D (m.length+n.length))):
 B0 Z k (.sl .aY k m) (.sl u k n) K:=⟨_,m,n,rfl,⟨u,rfl⟩,hb,.inr ⟨D,ht,hk⟩⟩
theorem ahe{i:Nat}:c9 P ((⟨d,.ext x i,ah⟩,ms)::r) SN L K st=Gl i (ev st x) (kD P d r SN L K st):=by rfl
theorem aho{f:Fn}{as bs:List X}:c9 P ((⟨d,.Bz f as bs,ah⟩,ms)::r) SN L K st=c9 P r SN L K (st.put d (.fn f (fi st as) (fi st bs))):=rfl
theorem ahc{k:IntKind}:c9 P ((⟨d,.zb k x,ah⟩,ms)::r) SN L K st=MZ k (ev st x) (kD P d r SN L K st):=by rfl
theorem ahb:c9 P ((⟨d,.AS x,ah⟩,ms)::r) SN L K st=(∃t s,ev st x = .sl t 1 (fS s)/\kD P d r SN L K st (.aQ s)):=rfl
def gD(P:Program)(v:V)(w:Bool)(d:Option Nat)(op:a_)(ms:List Nat)(r:List (AO × List Nat))(SN:List dZ)(L:List (V × Bool × Nat × V × List Nat))(K:St->Prop)(st:St):Prop :=
 match v with
 | .bool b=>if b=w then c9 P ((⟨d,op,ah⟩,ms)::r) SN L K st else c9 P r (if op.bB then SN++[(st.au,st.out)] else SN) L K (st.put d (.bw []))
 | .bw []=>c9 P r (if op.bB then SN++[(st.au,st.out)] else SN) L K (st.put d (.bw []))
 | _=>False
theorem ahh{g:Nat}{w:Bool}{op:a_}:c9 P ((⟨d,op,U (g,w)⟩,ms)::r) SN L K ⟨t,l,Z⟩=gD P (t.getD g .any) w d op ms r SN L K ⟨t,l,Z⟩:=by rfl
theorem akB{w:Bool}{op:a_}:gD P (.bw []) w d op ms r SN L K ⟨t,l,Z⟩=c9 P r (if op.bB=aa then SN++[(l,Z)] else SN) L K (St.put ⟨t,l,Z⟩ d (.bw [])):=rfl
theorem akA{op:a_}:gD P (.bool aa) aa d op ms r SN L K st=c9 P ((⟨d,op,ah⟩,ms)::r) SN L K st:=rfl
theorem akx{op:a_}:gD P (.bool aq) aq d op ms r SN L K st=c9 P ((⟨d,op,ah⟩,ms)::r) SN L K st:=rfl
theorem akz{op:a_}:gD P (.bool aa) aq d op ms r SN L K ⟨t,l,Z⟩=c9 P r (if op.bB=aa then SN++[(l,Z)] else SN) L K (St.put ⟨t,l,Z⟩ d (.bw [])):=rfl
theorem aky{op:a_}:gD P (.bool aq) aa d op ms r SN L K ⟨t,l,Z⟩=c9 P r (if op.bB=aa then SN++[(l,Z)] else SN) L K (St.put ⟨t,l,Z⟩ d (.bw [])):=rfl
theorem af7:sV SN []=True:=rfl
theorem af6{n:Nat}{a:V}:sV SN ((a,g,n,v,ms)::L)=(Ck SN g n a v ms/\sV SN L):=rfl
theorem af5{n:Nat}{a:V}:Ck SN g n a v []=True:=rfl
theorem af4{g:Bool}{n m:Nat}{a v:V}:Ck SN g n a v (m::ms)=(vR (SN.getD m Fz) g n a=U v/\Ck SN g n a v ms):=rfl
theorem auC{s u:dZ}:(s::SN).getD 0 u=s:=rfl
theorem auD{s u:dZ}{n:Nat}:(s::SN).getD (n+1) u=SN.getD n u:=rfl
theorem aui{s:dZ}:([]:List dZ)++[s]=[s]:=rfl
theorem auj{s u:dZ}:(s::SN)++[u]=s::(SN++[u]):=rfl
theorem anG{g:Bool}{n i o:Nat}:vR (l,Z) g n (.ptr (.au i) o)=Db l[i]? g n o:=rfl
theorem anH{g:Bool}{n i o:Nat}:vR (l,Z) g n (.ptr (.out i) o)=Db (Z.box i) g n o:=rfl
variable{o:Nat}
theorem anF{n:Nat}:vR (l,Z) g n (.ptr (.nq i) o)=Db (Z.cI i) g n o:=rfl
theorem anE{n:Nat}{s:dZ}:vR s g n (.elt cs o)=bP g n (cs.drop o):=rfl
def I'(P:Program)(l:List (List V))(Z:ab)(o:List (AO × List Nat))(K:St->Prop):Option (List V)->Prop
 | some t=>c9 P o [(l,Z)] [] K ⟨t,l,Z⟩
 | none=>False
def av8{o:List (AO × List Nat)}:vc P (.I_ nv o) Q ⟨t,l,Z⟩=I' P l Z o (Q .normal) (we nv t):=by
 simp only[vc];cases we nv t with
 | none=>simp[I']
 | some t' => simp[I']
theorem ahD{K:St->Prop}{o:List (AO × List Nat)}:I' P l Z o K (U t)=c9 P o [(l,Z)] [] K ⟨t,l,Z⟩:=rfl
theorem adS:we [] t=U t:=rfl
def Mv(b:Bool)(x:Option (List V)):Option (List V):=if b then x else ah
def adR{d:Nat}{ds:List Nat}:we (d::ds) t=Mv (decide (d<t.length)) (we ds (t.set d .any)):=by simp only[we,Mv,cU]
theorem adT{y:Option (List V)}:Mv aa y=y:=rfl
theorem av_{o:List (AO × List Nat)}{h:HI}:vc P (.hole o h) Q ⟨t,l,Z⟩=c9 P o [(l,Z)] [] (Iu h (Q .normal)) ⟨t,l,Z⟩:=rfl
theorem ama{h:HI}:Iu h K ⟨t,l,Z⟩=LZ h K ⟨tT h t,l,Z⟩:=rfl
theorem awK{k:Nat}{a b c e f:X}{d9 d10 dF:Nat}:tT ⟨k,a,b,c,e,f,ah,d9,d10,dF⟩ t=(t.set d9 .any).set d10 .any:=rfl
theorem awL{a b c e f:X}{d9 d10 dF:Nat}:tT ⟨k,a,b,c,e,f,U off,d9,d10,dF⟩ t=((t.set d9 .any).set d10 .any).set dF .any:=rfl
def Xj{h:HI}{t' : Tk}{j:IntKind}{p:V}(es:ev ⟨t,l,Z⟩ h.s = .sl (.tk D) h.k m)(ez:ev ⟨t,l,Z⟩ h.z = .sl t' h.k [c])
 (el:ev ⟨t,l,Z⟩ h.len = .int j m.length) (hb:m.length+1<=aJ) (ht:Z.aS D=U m.length) (hx:(ev ⟨t,l,Z⟩ h.x).wd=U h.k/\c8 (ev ⟨t,l,Z⟩ h.x).cells=aa/\bK (ev ⟨t,l,Z⟩ h.x).cells=aa)
 (cO:a9 (ev ⟨t,l,Z⟩ h.x).cells=cs) (hd:h.d9<t.length/\h.d10<t.length/\(h.fo.isSome=aa->h.dF<t.length)) (hp:Gn h.fo (ev ⟨t,l,Z⟩ h.addr)=U p)
 (fM:fe ⟨t,l,Z⟩ 1 (.sl (.tk D) h.k (m++[cs])) p=U aV) (hk:K ⟨aV.t,aV.au,aV.out.aU D (m.length+1)⟩):LZ h K ⟨t,l,Z⟩ :=
 ⟨D,m,c,t',j,es,ez,el,hb,ht,hx.1,hx.2.1,hx.2.2,hd.1,hd.2.1,hd.2.2,p,hp,aV,by rw[cO];exact fM,hk⟩
end
section
variable {x y z:X} {n m:Nat} {c:List V} {g:Bool} {bo:BinOp} {ks:List Nat} {xs ys:List X} {ps:List (Nat × Nat × X)} {fn:Fn} {ik:IntKind}
theorem aic:(a_.pick x y z).bB=false:=rfl
theorem ahK:(a_.alloc c).bB=true:=rfl
theorem ahR:(a_.xI n x).bB=true:=rfl
theorem ahQ:(a_.box n x).bB=true:=rfl
theorem ahT:(a_.build c ps).bB=false:=rfl
theorem ahS:(a_.pd n xs).bB=false:=rfl
theorem ah8:(a_.load g n x).bB=false:=rfl
theorem aid:(a_.store n x y).bB=true:=rfl
theorem ah':(a_.ym x).bB=false:=rfl
theorem ahO:(a_.qB bo x y).bB=false:=rfl
theorem ahP:(a_.vg bo x y).bB=false:=rfl
theorem ahN:(a_.xG g x y).bB=false:=rfl
theorem ahW:(a_.cat x y).bB=false:=rfl
theorem ahZ:(a_.lr g ks x y).bB=false:=rfl
theorem aia:(a_.not x).bB=false:=rfl
theorem ah6:(a_.yj x).bB=false:=rfl
theorem ah7:(a_.yk x).bB=false:=rfl
theorem ah1:(a_.rq n x).bB=false:=rfl
theorem ah2:(a_.xU g n m x).bB=false:=rfl
theorem ah3:(a_.vP n x y).bB=false:=rfl
theorem ah4{m k:Nat}:(a_.yf m k x y).bB=false:=rfl
theorem ah5:(a_.yg x y).bB=false:=rfl
theorem ahU:(a_.call n xs).bB=true:=rfl
theorem ahV:(a_.xJ x xs).bB=true:=rfl
theorem ahL:(a_.app n x y).bB=true:=rfl
theorem ahM:(a_.xC x y).bB=true:=rfl
theorem ah0:(a_.ext x n).bB=false:=rfl
theorem ah9:(a_.Bz fn xs ys).bB=false:=rfl
theorem ahY:(a_.zb ik x).bB=false:=rfl
theorem ahX:(a_.AS x).bB=false:=rfl
theorem ah_:(a_.mv x).bB=false:=rfl
end
end Go.Am
