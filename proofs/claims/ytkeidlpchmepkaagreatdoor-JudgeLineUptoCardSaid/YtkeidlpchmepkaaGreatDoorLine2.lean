/-
  Part 2 of the proof of JudgeLineUptoCardSaid: a logic over the model, the forms of the functions that the law reaches, and what they compute.
-/
import Derived.Lib.Bytealg
import Derived.Scope
import Derived.Test.YtkeidlpchmepkaaGreatDoorLine1
set_option linter.unusedVariables false
set_option linter.unusedSimpArgs false
set_option linter.defProp false
set_option linter.unusedSectionVars false
set_option maxRecDepth 4000
set_option maxHeartbeats 4000000
open Option renaming some->U,none->ah
open Bool renaming true->aa,false->aq
open List renaming replicate->aj,range->bG,getD->gy,zipWith->lQ
open Eq renaming mpr->cI
open Ne renaming symm->fL
namespace Go.Am
def G5{P:Program}{SN:List dC}{p:Nat->DI->Bool}{S:Nat->Bool}:∀{l:List (AO × List Nat)} {b:List Nat} {tr:List TR} {t:List V} {s:dC} {i:Nat},yM P SN l tr t s->b.length=l.length ->
 (∀(j:Nat) x,l[j]?=U x->x.1.op.bC=aa->S (i+j)=p (i+j) (fF x (b.getD j 0)))->cJ S i tr=(((lQ fF l b).zipIdx i).filter λ(x,j)=>x.bC&&p j x).length
 | [],b,[],_,_,_,_,_,_=>by simp[cJ]
 | [],_,_::_,_,_,_,h,_,_=>h.elim
 | (_,_)::_,_,[],_,_,_,h,_,_=>h.elim
 | (o,ms)::l,[],_::_,_,_,_,_,hb,_=>by simp at hb
 | (o, ms) :: l, m :: b, r :: tr, t, s, i, h, hb, hp => by
  have ih:=G5 (p:=p) (S:=S) (i:=i+1) h.2 (by simpa using hb) λj x hx he=>by
   have:=hp (j+1) x (by simpa using hx) he
   rw[show i+(j+1)=i+1+j from by omega] at this;simpa using this
  have he:r.bC=o.op.bC:=h.1.2.1;have h0:o.op.bC=aa->S i=p i (fF (o,ms) m):=λhe=>by simpa using hp 0 (o,ms) (by simp) he
  simp only[cJ,List.zipWith_cons_cons,List.zipIdx_cons,Ak];rw[ih];have hd:(fF (o,ms) m).bC=o.op.bC:=rfl;cases hq:o.op.bC
  .simp[he,hq,hd]
  .rw[h0 hq];simp only[he,hd,hq,sa,gJ];cases p i (fF (o,ms) m)
   .simp
   .simp;omega
section
variable {P:Program} {ops:Array Oper} {l:List (AO × List Nat)} {b:List Nat} {SN:List dC} {tr:List TR} {t0:List V} {s0:dC}
structure D5(ops:Array Oper)(tr:List TR)(t0:List V)(s0:dC)(E0:Env)(X:Array Bool->Env->Act->Prop)(listed:Array Bool)(a:Act)(w:World):Prop where
 size:listed.size=ops.size
 closed:∀(i:Nat) o,ops[i]?=U o->listed.getD i aq=aa->∀e∈o.after,Region.binds .any e=aa->listed.getD e.on aq=aa
 rel:∃E,E.w=w/\bQ E (cq (runT (cW (λj=>listed.getD j aq) 0 tr) t0) (dY (cW (λj=>listed.getD j aq) 0 tr) s0)) a/\Fr E0 E/\X listed E a
def Kn(F:Ag ops l b){S:Nat->Bool}(hc:∀(i:Nat) o,ops[i]?=U o->S i=aa->∀e∈o.after,Region.binds .any e=aa->S e.on=aa):
 ∀(n i:Nat),i<n->i<ops.size->S i=aa->∀j,(b.getD i 0).testBit j=aa->S j=true:=by
 intro n;induction n with
 | zero=>intro i h;omega
 | succ n ih =>
  intro i hi an hS j hj;obtain⟨e,h1,h2,h3⟩:=F.mask i ops[i] (mC an) j hj;have he:=hc i _ (mC an) hS e h1 h2;have hb:=F.back i _ (mC an) e h1 h2
  rcases h3 with rfl | h3
  .exact he
  .exact ih e.on (by omega) (by omega) he j h3
def Ho(listed:Array Bool)(i:Nat)(h:i<listed.size):listed.getD i aa=listed.getD i false:=by simp[h]
def Spec(P:Program)(l:List (AO × List Nat))(b:List Nat)(t0:List V)(E0:Env)(X:Array Bool->Env->Act->Prop)(i:Nat)(o:Oper)(ao:AO):Prop :=
 o.guard=ah/\ao.guard=ah/\∀(E:Env) (a:Act) (t:List V) (s:dC) (v:V) (s' : dC) (listed:Array Bool) (Q:Exit->Act->World->Prop),i<listed.size->listed.getD i aq=aq->(∀j,(b.getD i 0).testBit j=aa->listed.getD j aq=aa) ->
  (∀j,j<b.length->(b.getD j 0).testBit i=aa->listed.getD j aq=aq)->(∀d,(∀(j:Nat) x,l[j]?=U x->x.1.dst=U d->listed.getD j aq=aq)->t.getD d .any=t0.getD d .any) ->
  bQ E (cq t s) a->Fr E0 E->X listed E a->ao.op.bq P (cq t s) (Exact t v s') ->
  o.wp P a E.w (λa' w' => ∃E',E'.w=w' /\ bQ E' (cq (kE t ao.dst v) s') a' /\ Fr E0 E' /\ X (listed.setIfInBounds i aa) E' a') Q
def RJ(F:Ag ops l b)(nw:b.length=ops.size)(uR:SN=s0::kR tr)(ht:yM P SN l tr t0 s0)
 {E0:Env} {X:Array Bool->Env->Act->Prop} {Q:Exit->Act->World->Prop} {listed:Array Bool} {a:Act} {w:World} (h:D5 ops tr t0 s0 E0 X listed a w) {i:Nat} (hi:i∈Region.ready .any ops listed)
 (wv:∀o,ops[i]?=U o->∃x:AO × List Nat,l[i]?=U x/\((u9 P ops o=U x.1/\∀listed E E' a u,X listed E a->Fr E E' -> X (listed.setIfInBounds i aa) E' (a.put o.dst u))\/Spec P l b t0 E0 X i o x.1)) {K:Act->World->Prop}
 (hK:∀a w,D5 ops tr t0 s0 E0 X (listed.setIfInBounds i aa) a w->K a w):wpOp P ops Q i K a w:=by
 obtain⟨zp,o,ho,cT⟩:=mem_ready.1 hi;have an:i<ops.size:=(lr.1 ho).1;have mc : i<listed.size:=by rw[h.size];exact an
 obtain⟨E,rfl,hs,bw,hX⟩:=h.rel
 let S:Nat->Bool:=λj=>listed.getD j aq
 have EK:S i=false:=by show listed.getD i aq=aq;rw[<-Ho _ _ mc];exact zp
 obtain⟨x,hx,L7⟩:=wv o ho;obtain⟨ao,ms⟩:=x;have hlen:=GM ht;have aku:i<tr.length:=by rw[<-hlen,F.size];exact an
 obtain⟨r,hr⟩:∃r,tr[i]?=U r:=⟨tr[i],bN aku⟩;have fv:=GN (i:=0) (k:=i) ht hx hr;rw[j7] at fv;obtain⟨hd,he,run,CY,dx,ako⟩:=fv
 -- who is done,who is not
 have CT:∀j,(b.getD i 0).testBit j=aa->S j=true:=λj hj=>by
  obtain⟨e,h1,h2,h3⟩:=F.mask i o ho j hj;have hb:=cT e h1 h2
  rcases h3 with rfl | h3
  .exact hb
  .exact Kn F (S:=S) h.closed ops.size e.on (by have:=F.back i o ho e h1 h2;omega) (by have:=F.back i o ho e h1 h2;omega) hb j h3
 have EM:∀j,j<ops.size->(b.getD j 0).testBit i=aa->S j=false:=λj hj hb=>by
  cases hq:S j with
  | false=>rfl
  | true =>
   have:=Kn F (S:=S) h.closed ops.size j hj hj hq i hb
   rw[this] at EK;simp at EK
 have xF:∀(j:Nat) r',tr[j]?=U r' -> ∃y,l[j]?=U y/\r'.dst=y.1.dst/\r'.bC=y.1.op.bC/\j<ops.size:=λj r' cL => by
  have hj:=(fw.1 cL).1;have sJ:j<l.length:=by omega
  have:=GN (i:=0) (k:=j) ht (bN sJ) cL
  exact⟨l[j],bN sJ,this.1,this.2.1,by rw[<-F.size];exact sJ⟩
 -- what it reads is what it read in the text's order
 have C9:∀n,n∈zM ao->(runT (cW S 0 tr) t0).getD n .any=(runT (cW (eU i) 0 tr) t0).getD n .any:=λn hn=>by
  refine zW rfl rfl λj r' cL hd' => ?_
  rw[j7];obtain⟨y,hy,Bh,_,mb⟩:=xF j r' cL;obtain⟨bh,jU⟩:=F.slot i j (ao,ms) y hx hy n (by rw[<-Bh];exact hd') hn
  rcases xb j i with fV | fV
  .have hu:eU i j=true:=by simp[eU,fV]
   rw[hu]
   rcases jU with h1 | h1
   .exact CT j h1
   .exfalso
    obtain⟨e,k1,k2,k3⟩:=F.mask j _ (mC mb) i h1
    have:=F.back j _ (mC mb) e k1 k2
    have key:∀n q,q<n->q<ops.size->∀z,(b.getD q 0).testBit z=aa->z<q:=by
     intro n;induction n with
     | zero=>intro q h;omega
     | succ n ih =>
      intro q hq Fa z hz;obtain⟨e',m1,m2,m3⟩:=F.mask q _ (mC Fa) z hz;have cn := F.back q _ (mC Fa) e' m1 m2
      rcases m3 with rfl | m3
      .exact cn
      .have:=ih e'.on (by omega) (by omega) z m3;omega
    have:=key (j+1) j (by omega) mb i h1
    omega
  .have hu:eU i j=false:=by simp[eU];omega
   rw[hu]
   rcases jU with h1 | h1
   .exfalso
    have key:∀n q,q<n->q<ops.size->∀z,(b.getD q 0).testBit z=aa->z<q:=by
     intro n;induction n with
     | zero=>intro q h;omega
     | succ n ih =>
      intro q hq Fa z hz;obtain⟨e',m1,m2,m3⟩:=F.mask q _ (mC Fa) z hz;have cn := F.back q _ (mC Fa) e' m1 m2
      rcases m3 with rfl | m3
      .exact cn
      .have:=ih e'.on (by omega) (by omega) z m3;omega
    have:=key (i+1) i (by omega) an j h1
    omega
   .exact EM j mb h1
 -- memory
 have wy:∀T:Nat->Bool,(∀(j k:Nat),j<ops.size->k<ops.size->(∀y z,l[j]?=U y->l[k]?=U z->y.1.op.bC=aa->z.1.op.bC=aa->j<k->T k=aa->T j=aa)) ->
  dY (cW T 0 tr) s0=SN.getD (cJ T 0 tr) DP:=λT hT=>by
  rw[uR];refine W6 λj k r1 r2 h1 h2 e1 e2 A5 hk=>?_
  obtain⟨y,hy,_,ye,mb⟩:=xF j r1 h1;obtain⟨z,hz,_,ze,fp⟩:=xF k r2 h2;rw[j7] at hk ⊢;exact hT j k mb fp y z hy hz (by rw[<-ye];exact e1) (by rw[<-ze];exact e2) A5 hk
 have Hx:∀(j k:Nat),j<ops.size->k<ops.size->(∀y z,l[j]?=U y->l[k]?=U z->y.1.op.bC=aa->z.1.op.bC=aa->j<k->S k=aa->S j=aa):=λj k _ hk y z hy hz e1 e2 A5 CR =>
  Kn F (S:=S) h.closed ops.size k hk hk CR j (F.bC j k y z hy hz A5 e1 e2)
 have Mx:∀q (j k:Nat),j<ops.size->k<ops.size->(∀y z,l[j]?=U y->l[k]?=U z->y.1.op.bC=aa->z.1.op.bC=aa->j<k->eU q k=aa->eU q j=aa):=λq j k _ _ _ _ _ _ _ _ A5 hk=>by
  simp[eU] at hk ⊢;omega
 have T2:ao.op.bC=aa->dY (cW S 0 tr) s0=dY (cW (eU i) 0 tr) s0:=λtG=>by
  rw[wy S Hx,wy (eU i) (Mx i)];congr 1;refine G6 λj r' cL zn=>?_
  rw[j7];obtain⟨y,hy,_,ye,mb⟩:=xF j r' cL
  rcases Ao j i with fV | fV | fV
  .have:eU i j=true:=by simp[eU,fV]
   rw[this];exact CT j (F.bC j i y (ao,ms) hy hx fV (by rw[<-ye];exact zn) tG)
  .subst fV
   have:eU j j=false:=by simp[eU]
   rw[this];exact EK
  .have:eU i j=false:=by simp[eU];omega
   rw[this];exact EM j mb (F.bC i j (ao,ms) y hx hy fV tG (by rw[<-ye];exact zn))
 -- the next state
 have Lu:(λj=>(listed.setIfInBounds i aa).getD j aq)=add S i:=by
  funext j;simp only[add,S]
  by_cases fV:j=i
  .subst fV;simp[mc]
  .rw[rf,BZ (fL fV),<-rf];simp[fV]
 have hT:runT (cW (add S i) 0 tr) t0=kE (runT (cW S 0 tr) t0) r.dst r.val :=
  W8 (by omega) (by simpa using hr) EK λj r' cL bh n hn HR => by
   obtain⟨y,hy,Bh,_,_⟩:=xF j r' cL;exact F.dst j i y (ao,ms) hy hx (by omega) n (by rw[<-hd];exact hn) (by rw[<-Bh];exact HR)
 have ajD:∀(j k:Nat),j<ops.size->k<ops.size->(∀y z,l[j]?=U y->l[k]?=U z->y.1.op.bC=aa->z.1.op.bC=aa->j<k->add S i k=aa->add S i j=aa):=λj k hj hk y z hy hz e1 e2 A5 CR=>by
  simp only[add,mU,eb] at CR ⊢
  rcases CR with CR | rfl
  .exact .inl (Hx j k hj hk y z hy hz e1 e2 A5 CR)
  .exact .inl (CT j (F.bC j k y z hy hz A5 e1 e2))
 have Ls:dY (cW (add S i) 0 tr) s0=if ao.op.bC then r.zZ else dY (cW S 0 tr) s0:=by
  rw[wy (add S i) ajD];cases tG:ao.op.bC
  .simp only[dm,ch];rw[wy S Hx];congr 1;refine G6 λj r' cL zn=>?_
   rw[j7];obtain⟨y,hy,_,ye,_⟩:=xF j r' cL;have fV:j≠i:=by
    rintro rfl;rw[hx] at hy;simp at hy;subst hy;rw[ye,tG] at zn;simp at zn
   simp[add,fV]
  .simp only[cH];have h1:cJ (add S i) 0 tr=cJ (eU (i+1)) 0 tr:=G6 λj r' cL zn=>by
    rw[j7];obtain⟨y,hy,_,ye,mb⟩:=xF j r' cL
    rcases Ao j i with fV | fV | fV
    .have:eU (i+1) j=true:=by simp[eU];omega
     rw[this]
     have:=CT j (F.bC j i y (ao,ms) hy hx fV (by rw[<-ye];exact zn) tG)
     simp[add,this]
    .subst fV;simp[add,eU]
    .have:eU (i+1) j=false:=by simp[eU];omega
     rw[this]
     have:=EM j mb (F.bC i j (ao,ms) y hx hy fV tG (by rw[<-ye];exact zn))
     simp[add,this];omega
   rw[h1,<-wy (eU (i+1)) (Mx (i+1))];have avg : eU (i+1)=add (eU i) i:=by
    funext j;simp only[eU,add];rw[qp];simp;omega
   -- the run up to and with i
   have key:∀(tr:List TR) (q:Nat) (s:dC),q<=i->tr[i - q]?=U r->dY (cW (eU (i+1)) q tr) s=r.zZ:=by
    intro tr;induction tr with
    | nil=>intro q s _ h;simp at h
    | cons r' tr ih =>
     intro q s hq h;have hu:eU (i+1) q=true:=by simp[eU];omega
     simp only[cW,hu,cH,dY]
     by_cases hqi:q=i
     .subst hqi;simp at h;subst h;rw[OU (by omega)];simp[dY,he,tG]
     .exact ih (q+1) _ (by omega) (by rw[show i - q=(i - (q+1))+1 from by omega] at h;simpa using h)
   exact key tr 0 s0 (by omega) (by simpa using hr)
 -- the closure
 have ajN : ∀(j:Nat) o',ops[j]?=U o' -> (listed.setIfInBounds i aa).getD j aq=aa->∀e∈o'.after,Region.binds .any e=aa->(listed.setIfInBounds i aa).getD e.on aq=true:=λj o' fW hj e h1 h2=>by
  have ej:(listed.setIfInBounds i aa).getD j aq=add S i j:=congrFun Lu j;have ee:(listed.setIfInBounds i aa).getD e.on aq=add S i e.on:=congrFun Lu e.on;rw[ee];rw[ej] at hj;simp only[add,mU,eb] at hj ⊢
  rcases hj with hj | rfl
  .exact .inl (h.closed j o' fW hj e h1 h2)
  .rw[ho] at fW;simp only[bg] at fW;subst fW;exact .inl (cT e h1 h2)
 have Vm:∀E' a' t' s',E'.w=E'.w->t' = runT (cW (add S i) 0 tr) t0->s' = dY (cW (add S i) 0 tr) s0->bQ E' (cq t' s') a' -> Fr E0 E' -> X (listed.setIfInBounds i aa) E' a' -> K a' E'.w:=λE' a' t' s' _ e1 e2 dQ kr j_ => by
  refine hK a' E'.w ⟨by simp[h.size],ajN,E',rfl,?_,kr,j_⟩;rw[Lu,<-e1,<-e2];exact dQ
 -- the machine's step
 unfold wpOp;rw[ho];simp only;have akc:∀g n y,ao.op = .load g n y->run=aa->sS (dY (cW S 0 tr) s0) g n (ev (cq (runT (cW (eU i) 0 tr) t0) (dY (cW (eU i) 0 tr) s0)) y)=U r.val:=λg n y hy jV=>by
  obtain⟨kY,xL⟩:=dx jV;rw[wy S Hx];have aj9:ao.op.Dl=true:=by rw[hy];rfl
  have hm:=F.load i (ao,ms) hx aj9 (cJ S 0 tr);have akb : p8 (lQ fF l b) (fF (ao,ms) (b.getD i 0))<=cJ S 0 tr:=by
   have e:p8 (lQ fF l b) (fF (ao,ms) (b.getD i 0))=cJ (λj=>(b.getD i 0).testBit j) 0 tr:=by
    unfold p8 Cu;exact(G5 (p:=λj _=>(b.getD i 0).testBit j) (S:=λj=>(b.getD i 0).testBit j) ht (by rw[nw,F.size]) (λj y _ _=>rfl)).symm
   rw[e];exact Kp λj r' _ _ hb=>by rw[j7] at hb ⊢;exact CT j hb
  have aj5 : cJ S 0 tr<=zj (lQ fF l b) i:=by
   have e:zj (lQ fF l b) i=cJ (λj=>!((b.getD j 0).testBit i)) 0 tr:=by
    unfold zj Cu;exact(G5 (p:=λ_ y=>!(y.mask.testBit i)) (S:=λj=>!((b.getD j 0).testBit i)) ht (by rw[nw,F.size]) (λj y _ _=>by simp[fF])).symm
   rw[e];refine Kp λj r' cL _ Lr=>?_
   rw[j7] at Lr ⊢;obtain⟨y,_,_,_,mb⟩:=xF j r' cL;cases hb:(b.getD j 0).testBit i with
   | false=>rfl
   | true=>rw[EM j mb hb] at Lr;simp at Lr
  rcases hm akb aj5 with hm | hm
  .exact xL g n y hy _ hm
  .have e:BF (lQ fF l b) i=cJ (eU i) 0 tr:=by
    unfold BF Cu;exact(G5 (p:=λj _=>decide (j<i)) (S:=eU i) ht (by rw[nw,F.size]) (λj y _ _=>rfl)).symm
   rw[hm,e,<-wy (eU i) (Mx i)];rw[hy] at kY;simp only[aV.bq] at kY;rw[UL] at kY;cases hq:sS (dY (cW (eU i) 0 tr) s0) g n (ev (cq (runT (cW (eU i) 0 tr) t0) (dY (cW (eU i) 0 tr) s0)) y) with
   | none=>rw[hq] at kY;exact kY.elim
   | some u=>rw[hq] at kY;rw[kY.1]
 have qM:∀y∈ao.op.xs,ev (cq (runT (cW S 0 tr) t0) (dY (cW S 0 tr) s0)) y=ev (cq (runT (cW (eU i) 0 tr) t0) (dY (cW (eU i) 0 tr) s0)) y:=λy hy =>
  adU λn hn=>C9 n (by simp only[zM,jv,GA];exact .inl ⟨y,hy,hn⟩)
 have TY : run=aa->ao.op.bq P (cq (runT (cW S 0 tr) t0) (dY (cW S 0 tr) s0)) (Exact (runT (cW S 0 tr) t0) r.val (if ao.op.bC then(if ao.op.bC then r.zZ else dY (cW (eU i) 0 tr) s0) else dY (cW S 0 tr) s0)):=λjV =>
  ar4 (P:=P) (op:=ao.op) (t:=runT (cW (eU i) 0 tr) t0) (t2:=runT (cW S 0 tr) t0) (s:=dY (cW (eU i) 0 tr) s0) (s2:=dY (cW S 0 tr) s0) qM T2 (λg n y hy=>akc g n y hy jV) (dx jV).1
 rcases L7 with ⟨L7,hXg⟩ | akp
 case' inr =>
  obtain⟨HK,A0,tS⟩:=akp;rw[aI (by simp[Region.wanted,HK])];left;have jV:run=true:=by rw[A0] at CY;exact CY
  have jB:∀d,(∀(j:Nat) x,l[j]?=U x->x.1.dst=U d->listed.getD j aq=aq)->(runT (cW S 0 tr) t0).getD d .any=t0.getD d .any:=λd hd=>by
   have h1:=zW (S:=S) (S' := λ_=>aq) (x:=d) (tr:=tr) (i:=0) (t:=t0) (t' := t0) rfl rfl λj r' cL hrd=>by
    obtain⟨y,hy,Bh,_,_⟩:=xF j r' cL;rw[j7];exact hd j y hy (by rw[<-Bh];exact hrd)
   rw[h1]
   have:∀(tr:List TR) (q:Nat),cW (λ_=>aq) q tr=[]:=by
    intro tr;induction tr with
    | nil=>intro q;rfl
    | cons r tr ih=>intro q;simp only[cW,dm,ch];exact ih _
   rw[this];rfl
  refine Oper.wp_mono ?_ (tS E a _ _ _ _ listed Q mc EK CT (λj hj=>EM j (by omega)) jB hs bw hX (TY jV));rintro a' w' ⟨E',rfl,dQ,kr,j_⟩;refine Vm E' a' _ _ rfl ?_ ?_ dQ kr j_
  .rw[hT,hd]
  .rw[Ls];cases tG:ao.op.bC<;>simp
 have next:∀E' u t' s',t' = runT (cW (add S i) 0 tr) t0->s' = dY (cW (add S i) 0 tr) s0->bQ E' (cq t' s') (a.put o.dst u)->Fr E E' -> K (a.put o.dst u) E'.w:=λE' u t' s' e1 e2 dQ kr => Vm E' _ t' s' rfl e1 e2 dQ (bw.trans kr) (hXg _ _ _ _ _ hX kr)
 have dT:=L7;unfold u9 at dT;split at dT
 .simp at dT
 rename_i op uX;have akw:Region.wanted o (yielded ops a.tmps)=run/\op=ao.op/\o.dst=ao.dst:=by
  cases hg:o.guard with
  | none =>
   rw[hg] at dT;simp only[bg] at dT;subst dT;simp only at CY;exact⟨by simp[Region.wanted,hg,CY],rfl,rfl⟩
  | some p =>
   obtain⟨j,want⟩:=p;rw[hg] at dT;simp only at dT;split at dT
   case h_2=>simp at dT
   rename_i g pQ;simp only[bg] at dT;subst dT;simp only at CY;refine⟨?_,rfl,rfl⟩;have zi:=C9 g (by simp[zM])
   rcases CY with ⟨bb,eE,ep⟩ | ⟨eE,ep⟩
   case' inr =>
    rw[eE] at zi;have hR:=GK hs.slot g undef;have n5 : R E (.bz []) (a.tmps.toList.getD g undef):=by
     have:(cq (runT (cW S 0 tr) t0) (dY (cW S 0 tr) s0)).t.getD g .any = .bz []:=zi
     rw[<-this];exact hR
    have hu:=Qv n5;rw[ep];simp only[Region.wanted,hg,yielded,pQ,xe];cases hq:a.tmps[g]? with
    | none=>rfl
    | some u =>
     have:u=undef:=by rw[gy] at hu;simp[hq] at hu;exact hu
     rw[this];rfl
   rw[eE] at zi;have hR:=GK hs.slot g undef;have n5 : R E (.bool bb) (a.tmps.toList.getD g undef):=by
    have:(cq (runT (cW S 0 tr) t0) (dY (cW S 0 tr) s0)).t.getD g .any = .bool bb:=zi
    rw[<-this];exact hR
   simp only[R] at n5;have rD:a.tmps[g]?=U (.bool bb):=by
    rw[gy] at n5;cases hq:a.tmps.toList[g]? with
    | none=>rw[hq] at n5;simp[undef] at n5
    | some u=>rw[hq] at n5;simp at n5;subst n5;simpa using hq
   simp only[Region.wanted,hg,yielded,pQ,xe,rD];rw[ep];cases bb<;>cases want<;>rfl
 obtain⟨oH,rfl,l7⟩:=akw;rw[oH];cases jV:run with
 | true =>
  rw[aI rfl];left;refine Oper.wp_mono ?_ (FI (Q:=Q) uX hs (TY jV));rintro a' w' ⟨E',v,u,aU,rfl,kr,dQ,hv,rfl,Be,rfl⟩;subst Be
  have:=bQ.put dQ hv o.dst
  rw[FV] at this;refine next E' u _ _ ?_ ?_ this kr
  .rw[hT,hd,l7]
  .rw[Ls];cases tG:ao.op.bC<;>simp
 | false =>
  rw[aw (by simp)];obtain⟨hv,hsk⟩:=ako jV
  have:=bQ.put hs (v:=.bz []) (x:=undef) J3 o.dst
  rw[FV] at this;refine next E undef _ _ ?_ ?_ this (Fr.refl E)
  .rw[hT,hd,l7,hv]
  .rw[Ls];cases tG:ao.op.bC
   .rw[aw (by simp)]
   .simp only[cH];rw[hsk (by rw[he,tG])];exact T2 tG
def count_set:∀(l:List Bool) (i:Nat),l[i]?=U aq->(l.set i aa).count aq+1=l.count aq
 | [],i,h=>by simp at h
 | x::l,0,h=>by simp at h;subst h;simp
 | x :: l, i + 1, h => by
  simp at h
  have:=count_set l i h
  cases x<;>simp<;>omega
variable{E:Env}{K:St->Prop}{a:Act}{st:St}
def RH{ops:Array Oper}{l:List (AO × List Nat)}{b:List Nat}(F:Ag ops l b)(nw:b.length=ops.size)(hf:P.follows .mixedOrders=aa){id:Nat}(h:cK P l [(st.au,st.out)] [] K st)(hs:bQ E st a){X:Array Bool->Env->Act->Prop}
 (hX0:∀E',X (Array.replicate ops.size aq) E' a)
 (wv:∀(i:Nat) o,ops[i]?=U o->∃x:AO × List Nat,l[i]?=U x/\((u9 P ops o=U x.1/\∀listed E E' a u,X listed E a->Fr E E' -> X (listed.setIfInBounds i aa) E' (a.put o.dst u))\/Spec P l b st.t E X i o x.1)) :
 (Code.region id ops aa).wp P (λe a' w' => ∃E' aU,E'.w=w' /\ bQ E' aU a' /\ Fr E E' /\ e = .normal/\K aU) a E.w:=by
 refine wp_region_any hf ?_;obtain⟨bw,_,oD⟩:=F8 hs ((Ext.refl E.w).drew);obtain⟨tr,ht,_,hK⟩:=Jm (t:=st.t) (s:=(st.au,st.out)) h;have uR:[(st.au,st.out)]++kR tr=(st.au,st.out)::kR tr:=rfl;rw[uR] at ht;have hlen:=GM ht;have key:∀(fuel:Nat) (listed:Array Bool) (a:Act) (w:World),D5 ops tr st.t (st.au,st.out) E X listed a w->listed.toList.count aq<=fuel ->
  wpAny P .any ops (λe a' w' => ∃E' aU,E'.w=w' /\ bQ E' aU a' /\ Fr E E' /\ e = .normal/\K aU) fuel listed a w:=by
  have done:∀(listed:Array Bool) (a:Act) (w:World),D5 ops tr st.t (st.au,st.out) E X listed a w->Region.ready .any ops listed=[] ->
   ∃E' aU,E'.w=w/\bQ E' aU a/\Fr E E' /\ Exit.normal = .normal/\K aU := λlisted a w h hr=>by
   have cT:∀n j,j<n->j<ops.size->listed.getD j aq=true:=by
    intro n;induction n with
    | zero=>intro j h;omega
    | succ n ih =>
     intro j hj mb;cases hq:listed.getD j aq with
     | true=>rfl
     | false =>
      have:j∈Region.ready .any ops listed:=mem_ready.2 ⟨by rw[Ho _ _ (by rw[h.size];exact mb)];exact hq,ops[j],mC mb,λe he hb=>by
       have:=F.back j _ (mC mb) e he hb
       exact ih e.on (by omega) (by omega)⟩
      rw[hr] at this;simp at this
   obtain⟨E',h1,h2,h3,_⟩:=h.rel;rw[Xn (λj hj=>by rw[j7];exact cT (j+1) j (by omega) (by rw[<-F.size,hlen];exact hj))] at h2;exact⟨E',_,h1,h2,h3,rfl,hK⟩
  intro fuel;induction fuel with
  | zero =>
   intro listed a w h hc;have hr:Region.ready .any ops listed=[]:=by
    cases hq:Region.ready .any ops listed with
    | nil=>rfl
    | cons j js =>
     obtain⟨h1,o,ho,_⟩:=mem_ready.1 (show j∈Region.ready .any ops listed by rw[hq];simp);have an:j<listed.size:=by rw[h.size];exact(lr.1 ho).1
     have:aq∈listed.toList:=by
      have e:listed[j]?=U false:=by
       rw[mC an];simpa [an] using h1
      exact tq (by simpa using e)
     have:=List.count_pos_iff.2 this
     omega
   exact⟨hr,done listed a w h hr⟩
  | succ fuel ih =>
   intro listed a w h hc;refine⟨λhr=>done listed a w h hr,λi hi=>?_⟩;refine RJ F nw rfl ht h hi (wv i) λa w h' => ih _ a w h' ?_
   obtain⟨h1,o,ho,_⟩:=mem_ready.1 hi;have an:i<listed.size:=by rw[h.size];exact(lr.1 ho).1
   have e:listed.toList[i]?=U false:=by
    have:listed[i]?=U false:=by
     rw[mC an];simpa [an] using h1
    simpa using this
   have:=count_set listed.toList i e
   simp only[PS];omega
 have zm:∀j,(Array.replicate ops.size aq).getD j aq=false:=λj=>by
  by_cases hj:j<ops.size<;>simp[hj]
 have mg:∀(tr:List TR) (q:Nat),cW (λj=>(Array.replicate ops.size aq).getD j aq) q tr=[]:=by
  intro tr;induction tr with
  | nil=>intro q;rfl
  | cons r tr ih=>intro q;rw[cW,aw (by rw[zm];simp)];exact ih _
 refine key ops.size _ a _ ⟨by simp,λi o _ hi=>by rw[zm] at hi;simp at hi,{E with w:=E.w.drew},rfl,?_,bw,hX0 _⟩ (by simp);rw[mg];exact oD
def acP{ops:Array Oper}{l:List (AO × List Nat)}{id:Nat}(hl:Im P ops=U l)(h:cK P l [(st.au,st.out)] [] K st):
 jd P (.region id ops aa) (λe aU => e = .normal/\K aU) st:=by
 obtain⟨b,F,nw,hf,wv⟩:=amz hl;intro E a hs;exact RH (X:=λ_ _ _=>True) F nw hf h hs (λ_=>trivial) λi o ho=>by
  obtain⟨x,h1,h2⟩:=wv i o ho;exact⟨x,h1,.inl ⟨h2,λ_ _ _ _ _ _ _=>trivial⟩⟩
end
section
variable {P:Program} {E:Env} {st:St} {a:Act} {o:Oper} {K:V->St->Prop} {Q:Exit->Act->World->Prop}
variable{c:Array Value}{e:TypeId}{zs:List V}
def Yp(hs:bQ E st a)(hr:(execOp a.eval o).run P E.w = .ok (.value (.pointer (U ⟨E.w.heap.size,0,ah⟩))) (E.w.alloc (.cells c e)))
 (hz:RL E zs c.toList) (rG:bS zs=aa) (hk:∀b,st.out.box b=ah->K (.ptr (.out b) 0) ⟨st.t,st.au,st.out.set b zs⟩):o.wp P a E.w (eC E a o.dst K) Q:=by
 unfold Oper.wp;rw[hr]
 let E' : Env:={w:=E.w.alloc (.cells c e),bj:=λb=>if b=E.w.heap.size then .qS else E.bj b,au:=E.au,aY:=E.aY}
 have hx:Ext E.w E'.w:=(Ext.refl _).alloc _ _;have bw:Fr E E' := y5 hs.ok.fresh hx (λb hb=>by simp only[E'];rw[aw (by omega)]) (λ_ _ h=>h);have hle:E.le E' := bw.le λi b h=>h
 have eG:st.out.box E.w.heap.size=none:=by
  cases hq:st.out.box E.w.heap.size with
  | none=>rfl
  | some cs =>
   obtain⟨_,c',e',h3,_⟩:=hs.ok.box _ cs hq
   have:=lb (w:=E.w) h3
   omega
 refine⟨E',_,_,⟨st.t,st.au,st.out.set E.w.heap.size zs⟩,rfl,bw,⟨⟨?_,?_,?_,hs.ok.nt,λb cs hc=>eW.mono _ bw.nl (hs.ok.cQ b cs hc)⟩,?_,hs.defers,RL.mono _ hle hs.slot⟩,?_,rfl,hk _ eG⟩
 .intro b cs b9;simp only[ab.set] at b9;split at b9
  .rename_i hb;subst hb;simp only[bg] at b9;subst b9;have Fj := RL.p_ (E:=E) (E' := E'.nl) _ bw.nl rG hz;have hl:=gb Fj;refine⟨by simp[E'],c,e,heap_alloc_new _ _,by simp at hl;omega,λj x hx=>?_⟩;obtain⟨v,hv,cL⟩:=si Fj j x hx;exact⟨v,by simpa using hv,cL⟩
  .rename_i hb;obtain⟨h1,h2⟩:=hs.ok.box b cs b9;have an:b<E.w.heap.size:=by obtain⟨c,e,h3,_⟩:=h2;exact lb (w:=E.w) h3
   exact⟨by simp only[E'];rw[aw hb];exact h1,h2.mono bw.nl (hx.block b an)⟩
 .exact hs.ok.aY
 .intro b hb;simp only[E',World.size_alloc] at hb ⊢;rw[aw (by omega)];exact hs.ok.fresh b (by omega)
 .exact qT hs.du hle (λb i h hb=>⟨by simp only[E'];rw[aw (by omega)];exact h,hx.block b hb⟩) hs.du.none
 .simp only[R]
variable{t:TypeId}
def auo(hs:bQ E st a)(ho:o.op = .alloc t)(hz:kh P t=U zs)(hk:aV.bq P st K (.qy zs)):o.wp P a E.w (eC E a o.dst K) Q:=by
 obtain⟨i,z,h1,h2,h3,_⟩:=uq hz;refine Yp hs (c:=z.cells) (e:=t) ?_ (sr h3) hk.1 hk.2;simp[execOp,ho,Instr.alloc,zeroValue,typeInfo,h1,h2,newVar,newRow]
variable{n:Nat}{x:Operand}
def aus(hs:bQ E st a){y:X}(ho:o.op = .box t x)(hx:R E (ev st y) (a.eval x))(hk:aV.bq P st K (.gY n y)):o.wp P a E.w (eC E a o.dst K) Q:=by
 refine Yp hs (c:=(a.eval x).cells) (e:=t) ?_ (yK hx hk.1).1 hk.2.1 hk.2.2;simp[execOp,ho,Instr.box,newVar,newRow]
def PD(hs:bQ E st a){w1:World}(Bf:Ext E.w w1)(akv:w1.heap.size=E.w.heap.size){x:Value}{v:Nat->V}
 (hr:(execOp a.eval o).run P E.w = .ok (.value x) (w1.alloc (.cells c e)))
 (hz:RL E.nl zs c.toList) (hv:R E (v E.w.heap.size) x) (rG:(v E.w.heap.size).cM=aa) (hk:∀b,st.out.box b=ah->K (v b) ⟨st.t,st.au,st.out.set b zs⟩):o.wp P a E.w (eC E a o.dst K) Q:=by
 unfold Oper.wp;rw[hr]
 let E' : Env:={w:=w1.alloc (.cells c e),bj:=λb=>if b=E.w.heap.size then .qS else E.bj b,au:=E.au,aY:=E.aY}
 have hx:Ext E.w E'.w:=Bf.alloc _ _;have bw:Fr E E' := y5 hs.ok.fresh hx (λb hb=>by simp only[E'];rw[aw (by omega)]) (λ_ _ h=>h);have hle:E.le E' := bw.le λi b h=>h
 have eG:st.out.box E.w.heap.size=none:=by
  cases hq:st.out.box E.w.heap.size with
  | none=>rfl
  | some cs =>
   obtain⟨_,c',e',h3,_⟩:=hs.ok.box _ cs hq
   have:=lb (w:=E.w) h3
   omega
 refine⟨E',_,_,⟨st.t,st.au,st.out.set E.w.heap.size zs⟩,rfl,bw,⟨⟨?_,?_,?_,hs.ok.nt,λb cs hc=>eW.mono _ bw.nl (hs.ok.cQ b cs hc)⟩,?_,hs.defers,RL.mono _ hle hs.slot⟩,hv.mono _ hle,rfl,hk _ eG⟩
 .intro b cs b9;simp only[ab.set] at b9;split at b9
  .rename_i hb;subst hb;simp only[bg] at b9;subst b9;have Fj : RL E'.nl zs c.toList:=RL.mono _ bw.nl hz;have hl:=gb Fj;refine⟨by simp[E'],c,e,?_,by simp at hl;omega,λj x hx=>?_⟩
   .show(w1.alloc (.cells c e)).heap[E.w.heap.size]?=_;rw[<-akv];exact heap_alloc_new _ _
   .obtain⟨v,hv,cL⟩:=si Fj j x hx;exact⟨v,by simpa using hv,cL⟩
  .rename_i hb;obtain⟨h1,h2⟩:=hs.ok.box b cs b9;have an:b<E.w.heap.size:=by obtain⟨c,e,h3,_⟩:=h2;exact lb (w:=E.w) h3
   exact⟨by simp only[E'];rw[aw hb];exact h1,h2.mono bw.nl (hx.block b an)⟩
 .exact hs.ok.aY
 .intro b hb;simp only[E',World.size_alloc] at hb ⊢;rw[aw (by omega)];exact hs.ok.fresh b (by omega)
 .exact qT hs.du hle (λb i h hb=>⟨by simp only[E'];rw[aw (by omega)];exact h,hx.block b hb⟩) hs.du.none
variable{ty u:TypeId}
def PC(hs:bQ E st a){i:TypeInfo}{z:Value}(ht:P.underlying t=U (.slice e))(hi:P.info? e=U i)(hz:i.zero=U z)(jo:z.cells.size=i.size)
 (ny:i.bytes<=4096) {base:Option Addr} {n cap:Nat} {vx:Value} {m:List (List V)}
 (dx:(execOp a.eval o).run P E.w=((Builtin.append_ #[t,u] ty #[.slice base n cap,vx]).run P E.w).andThen λv w' => .ok (.value v) w')
 {news:List Value} (sM:Src P E.w i.size m.length u vx news) (tP:RL E.nl m.flatten news) (fG:∀v∈news,v.oneCell' = aa) (hm:∀y∈m,y.length=i.size)
 (hk:Ai st.out i.size base n cap m λv Z=>K v ⟨st.t,st.au,Z⟩):o.wp P a E.w (eC E a o.dst K) Q:=by
 obtain⟨AV,iP,pS,xI,qE,qF⟩:=hk;have tN:=sM.size;have EO:(n+m.length)*i.bytes<=140737488355328:=by
  have:=GF iP ny
  simp only[aJ] at this;omega
 have Ff:n+m.length<=9223372036854775807:=by simp only[aJ] at iP;omega
 by_cases rF:m=[]
 .have hK0:K (V.raw (Value.slice base n cap)) st:=xI rF;subst rF
  have:news=[]:=sb (by simpa using tN)
  subst this;refine dv hs (v:=.raw (.slice base n cap)) (x:=.slice base n cap) ?_ (by simp only[R]) hK0;rw[dx,Xb (P:=P) ht hi AV sM];rfl
 rcases xb cap (n+m.length) with an | pU
 .obtain⟨cs,b9,qF⟩:=qF an;have hold:∃iq:List Value,(Builtin.firstCells i.size n (.slice base n cap)).run P E.w.drew = .ok iq.toArray E.w.drew/\RL E.nl (cs.take (n*i.size)) iq/\iq.length=n*i.size/\(cs.take (n*i.size)).length=n*i.size:=by
   rcases b9 with ⟨rfl,rfl⟩ | ⟨b,rfl,pN,hle⟩
   .refine⟨[],?_,by simp[RL],by simp,by simp⟩;cases base<;>simp[Builtin.firstCells,loadCells,loadCellsFrom]
   .obtain⟨dX,c,e',fk,hlen,pO⟩:=hs.ok.box b cs pN;have fk:E.w.heap[b]?=U (.cells c e' (0,0)):=fk;refine⟨c.toList.take (n*i.size),?_,Ee (by simp;omega) λj x u hx hu=>?_,by simp;omega,by simp;omega⟩
    .have hl:(c.toList.take (n*i.size)).length=n*i.size:=by simp;omega
     have:=run_loadCells_list (P:=P) E.w.drew ⟨b,0,ah⟩ (c.toList.take (n*i.size)) (λj v hv=>by
      rw[lS];have HA : E.w.drew.heap[b]?=U (.cells c e' (0,0)):=fk;have hj:j<n*i.size:=by have:=(fw.1 hv).1;omega
      rw[yG hj] at hv;simpa [World.cell?,HA] using hv)
     rw[hl] at this;simp only[Builtin.firstCells];exact this
    .have hj:j<n*i.size:=by have:=(fw.1 hx).1;simp at this;omega
     rw[yG hj] at hx;rw[yG hj] at hu;obtain⟨v,h1,h2⟩:=pO j x hx
     have:v=u:=by simp at hu;rw[hu] at h1;simpa using h1.symm
     exact this▸h2
  obtain⟨iq,E5,pT,n6,ho4⟩:=hold;have wm:=grownCap_ge E.w (n+m.length) cap e;have hr:(execOp a.eval o).run P E.w = .ok (.value (.slice (U ⟨E.w.heap.size,0,ah⟩) (n+m.length) (grownCap E.w (n+m.length) cap e)))
   (E.w.drew.alloc (.cells (iq++(news++(Builtin.zeroCells z.cells (grownCap E.w (n+m.length) cap e - (n+m.length))).toList)).toArray e)):=by
   rw[dx,OJ (P:=P) ht hi hz E5 sM an EO Ff];rfl
  have MC:(Builtin.zeroCells z.cells (grownCap E.w (n+m.length) cap e - (n+m.length))).toList.length=(grownCap E.w (n+m.length) cap e - (n+m.length))*i.size:=by
   simp only[B0,size_zeroCells,jo]
  generalize grownCap E.w (n+m.length) cap e=nc at hr wm MC;generalize (Builtin.zeroCells z.cells (nc - (n+m.length))).toList=rest at hr MC;refine PD hs (v:=λb=>.raw (.slice (U ⟨b,0,ah⟩) (n+m.length) nc)) (zs:=cs.take (n*i.size)++m.flatten++aj ((nc - (n+m.length))*i.size) .any) ((Ext.refl E.w).drew) rfl hr ?_ (by simp only[R]) rfl (λb hb=>qF b nc hb wm);simp only[fP];refine vO pT (vO tP ?_);rw[<-MC];exact Qr rest
 .obtain⟨b,cs,rfl,pN,pP,hK⟩:=qE rF pU;obtain⟨dX,c,e',fk,hlen,pO⟩:=hs.ok.box b cs pN;have fk:E.w.heap[b]?=U (.cells c e' (0,0)):=fk;have l_:=ni hm;have LQ : n*i.size+news.length<=c.size:=by rw[tN];omega
  have jV:=OK (P:=P) (ty:=ty) ht hi fk sM fG pU LQ;have bw:=Hk (E:=E) (new:=(c.toList.take (n*i.size)++news++c.toList.drop (n*i.size+news.length)).toArray) fk (.inr dX) (by simp;omega);have hle:=bw.le λ_ _ h=>h
  have h_:=setRow_heap E.w b c (c.toList.take (n*i.size)++news++c.toList.drop (n*i.size+news.length)).toArray e' _ fk;have AU:=G1 (E' := Env.nl {E with w:=E.w.setRow b (c.toList.take (n*i.size)++news++c.toList.drop (n*i.size+news.length)).toArray}) hlen
   (λj x hj=>let ⟨u,h1,h2⟩:=pO j x hj;⟨u,h1,h2.mono _ bw.nl⟩) (RL.mono _ bw.nl tP) (by omega) h_
  generalize (c.toList.take (n*i.size)++news++c.toList.drop (n*i.size+news.length)).toArray=new at jV h_ bw hle AU;have iX : ∀b',b' ≠ b->(E.w.setRow b new).heap[b']?=E.w.heap[b']?:=λb' bh=>setRow_other E.w b b' new bh
  unfold Oper.wp;rw[dx,jV];refine⟨{E with w:=E.w.setRow b new},.raw (.slice (U ⟨b,0,ah⟩) (n+m.length) cap),.slice (U ⟨b,0,ah⟩) (n+m.length) cap,⟨st.t,st.au,st.out.set b (setAt cs (n*i.size) m.flatten)⟩,rfl,bw,⟨⟨?_,hs.ok.aY,λb' cn => hs.ok.fresh b' (by simpa using cn),hs.ok.nt,λb cs hc=>eW.mono _ bw.nl (hs.ok.cQ b cs hc)⟩,
   qT hs.du hle (λb' i hr _=>⟨hr,iX b' (by rintro rfl;rw[dX] at hr;simp at hr)⟩) hs.du.none,hs.defers,RL.mono _ hle hs.slot⟩,by simp only[R],rfl,hK⟩
  intro b' ds lB
  by_cases cU:b' = b
  .subst cU;rw[ab.eY] at lB;simp only[bg] at lB;subst lB;exact⟨dX,AU⟩
  .rw[ab.e9 _ _ cU] at lB;obtain⟨k1,k2⟩:=hs.ok.box b' ds lB;exact⟨k1,k2.mono bw.nl (iX b' cU)⟩
variable{k:Nat}
def amO{z:Array Value}(hz:z.size=k)(hk:0<k):(madeCells z (n*k)).toList=(aj n z.toList).flatten:=by
 apply P9;intro j;have e:∀(n j:Nat),j<n*k->(aj n z.toList).flatten[j]?=z[j % k]?:=by
  intro n;induction n with
  | zero=>intro j hj;simp at hj
  | succ n ih =>
   intro j hj;rw[Al,mX]
   by_cases h:j<k
   .rw[sc (by simpa [hz] using h),Qn h];simp
   .rw[B' (by simp[hz];omega)];have hl:z.toList.length=k:=by simpa using hz
    have gF : j - k<n*k:=by rw[jh,xd] at hj;omega
    rw[hl,ih (j - k) gF,show(j - k) % k=j % k from(Nat.mod_eq_sub_mod (by omega)).symm]
 by_cases hj:j<n*k
 .rw[e n j hj];have hm:j % k<z.size:=by rw[hz];exact Nat.mod_lt _ hk
  rw[getElem?_pos z _ hm];have hg:z[j % k]! = z[j % k]:=getElem!_pos z (j % k) hm;simp[madeCells,hj,hz,hg]
 .rw[tm (by simp[madeCells];omega),tm (by simp[hz];omega)]
def ON:Operand->Operand->Bool
 | .tmp a,.tmp b=>decide (a=b)
 | .const (.int k a),.const (.int k' b)=>decide (k=k')&&decide (a=b)
 | _,_=>aq
def arX{y:Operand}(h:ON x y=aa):x=y:=by
 unfold ON at h;split at h
 .simp at h;rw[h]
 .simp at h;rw[h.1,h.2]
 .simp at h
variable{d:Nat}
def Ax{b:Option X}{vs:List V}{K:Nat->List V->Prop}(h:lu b.isSome d (dw st b.toList++vs) K):∃m,K m vs/\match (generalizing:=false) b with | none=>m=d | some y=>∃j,ev st y = .int j m:=by
 cases b with
 | none=>simp only[Option.isSome,Option.toList,dw,kN,lu] at h;exact⟨d,h,rfl⟩
 | some y =>
  simp only[Option.isSome,Option.toList,dw,jN,kN] at h;unfold lu at h;split at h
  .rename_i e;simp at e
  .rename_i j n r e1 e2;simp only[iJ] at e2;obtain⟨e3,rfl⟩:=e2;exact⟨n.toNat,h.2,j,by rw[e3];simp;omega⟩
  .exact h.elim
def Hf{xs ys:List X}:dw st (xs++ys)=dw st xs++dw st ys:=by
 induction xs with
 | nil=>rfl
 | cons x xs ih=>simp[dw,ih]
def NH(P:Program)(o:Oper):Option aV :=
 match o.op with
 | .move (.const (.slice ah 0 0)) | .assign (.const (.slice ah 0 0))=>U (.own .nil [])
 | .makeSlice t l c =>
  if ON l c=aa then
   match P.underlying t with
   | some (.slice e) =>
    match P.info? e,kh P e,c7 P 0 l with
    | some i,U z,U x=>if i.bytes<=4096/\0<i.size/\z.length=i.size then U (.own (.mk z) [x]) else ah
    | _,_,_=>ah
   | _=>ah
  else ah
 | .buildSlice t len ps =>
  match P.underlying t with
  | some (.slice e) =>
   match eT P e,kh P e,jF P (aj len e) (ps.toList.map (·.2)) with
   | some k,U _,U xs=>if ps.toList.map (·.1)=bG len/\len*k<=16777216 then U (.own (.mi k) xs) else ah
   | _,_,_=>ah
  | _=>ah
 | .slice t x lo hi mx =>
  match P.underlying t with
  | some (.slice e) =>
   match c7 P t x,la P t lo,la P t hi,la P t mx,eT P e with
   | some x,U lo,U hi,U mx,U k=>if mx.isSome=aa->hi.isSome=aa then U (.own (.mu k lo.isSome hi.isSome mx.isSome) (x::(lo.toList++hi.toList++mx.toList))) else ah
   | _,_,_,_,_=>ah
  | _=>ah
 | .indexAddr t x i =>
  match P.underlying t,c7 P t x,c7 P t i with
  | some (.slice e),U x,U i=>(eT P e).map λk=>.own (.idx k) [x,i]
  | _,_,_=>ah
 | .call c =>
  match c.callee with
  | .builtin .len =>
   match c.argTypes.toList,c.args.toList with
   | [t], [x] =>
    match P.underlying t,c7 P t x with
    | some (.slice _),U y=>U (.own .len [y])
    | _,_=>ah
   | _,_=>ah
  | .builtin .append =>
   match c.argTypes.toList,c.args.toList with
   | [t, u], [s, x] =>
    match P.underlying t,P.underlying u,c7 P t s,c7 P u x with
    | some (.slice e), U (.slice e'), U s, U x =>
     match P.info? e,kh P e with
     | some i,U _=>if e=e' /\ i.bytes<=4096/\0<i.size then U (.own (.app i.size) [s,x]) else ah
     | _,_=>ah
    | _,_,_,_=>ah
   | _,_=>ah
  | _=>ah
 | _=>ah
variable{ao:aV}
def aoY(hl:NH P o=U ao)(hs:bQ E st a)(h:ao.bq P st K):o.wp P a E.w (eC E a o.dst K) Q:=by
 have X:=λ{t:TypeId} {x:Operand} {y:X} (hx:c7 P t x=U y)=>nG (E:=E) (st:=st) (a:=a) hs.slot hx
 unfold NH at hl;split at hl
 .rename_i ho;simp only[bg] at hl;subst hl;refine dv hs (v:=.raw (.slice ah 0 0)) (x:=.slice ah 0 0) ?_ (by simp only[R]) h;simp[execOp,ho,Act.eval]
 .rename_i ho;simp only[bg] at hl;subst hl;refine dv hs (v:=.raw (.slice ah 0 0)) (x:=.slice ah 0 0) ?_ (by simp only[R]) h;simp[execOp,ho,Act.eval]
 .rename_i t l c ho;split at hl
  case isFalse=>simp at hl
  rename_i A7;have A7:=arX A7;subst A7;split at hl
  case h_2=>simp at hl
  rename_i e ht;split at hl
  case h_2=>simp at hl
  rename_i i z x hi hz hx;split at hl
  case isFalse=>simp at hl
  rename_i hc;simp only[bg] at hl;subst hl;obtain⟨i',z',q1,q2,q3,q4⟩:=uq hz;obtain rfl:i=i' := by rw[hi] at q1;simpa using q1
  have j_ := X hx;simp only[aV.bq,dw] at h;unfold OQ.bq at h;split at h<;>try (exfalso;simp_all;done)
  .rename_i z0 k n e1 e2;simp only[OQ.mk.injEq] at e1;subst e1;simp only[iJ,gM] at e2;rw[e2] at j_;simp only[R] at j_;obtain⟨g1,g2,g3,g4,g5⟩:=h;have jo:z'.cells.size=i.size:=by have:=gb (sr (E:=E) q3);simp at this;omega
   have dx:=run_make (P:=P) E.w t e i z' ht hi q2 k k n n g1 (Int.le_refl _) (by
    have:(i.bytes:Int)*n<=4096*aJ:=Int.mul_le_mul (by omega) (by omega) g1 (by omega)
    simp only[aJ] at this;omega) (by simp only[aJ] at g2;omega)
   refine PD hs (w1:=E.w) (Ext.refl _) rfl (v:=λb=>.raw (.slice (U ⟨b,0,ah⟩) n.toNat n.toNat)) (zs:=(aj n.toNat z).flatten) (x:=.slice (U ⟨E.w.heap.size,0,ah⟩) n.toNat n.toNat) (c:=madeCells z'.cells (n.toNat*i.size)) (e:=e) ?_ ?_ (by simp only[R]) rfl (λb hb=>g5 b hb)
   .simp[execOp,ho,j_,dx]
   .rw[amO jo hc.2.1];have hr:=sr (E:=E.nl) q3;induction n.toNat with
    | zero=>simp[RL]
    | succ m ih=>simp only[Al,mX];exact vO hr ih
 .rename_i t len ps ho;split at hl
  case h_2=>simp at hl
  rename_i e ht;split at hl
  case h_2=>simp at hl
  rename_i k z xs hk hz qM;split at hl
  case isFalse=>simp at hl
  rename_i hc;simp only[bg] at hl;subst hl;simp only[aV.bq] at h;unfold OQ.bq at h;split at h<;>try (exfalso;simp_all;done)
  .rename_i k0 vs e1;simp only[OQ.mi.injEq] at e1;subst e1;obtain⟨l,h1,h2⟩:=h;exact Yj hs ho ht hk hz hc.1 hc.2 (Ni (E:=E) hs.slot qM h1) h2
 .rename_i t x lo hi mx ho;split at hl
  case h_2=>simp at hl
  rename_i e ht;split at hl
  case h_2=>simp at hl
  rename_i x' nD eg mx' k h1 h2 h3 h4 hk;split at hl
  case isFalse=>simp at hl
  rename_i wx;simp only[bg] at hl;subst hl;have hx:=X h1;simp only[aV.bq,dw] at h;unfold OQ.bq at h;split at h<;>try (exfalso;simp_all;done)
  .rename_i k0 b1 b2 b3 base n cap vs e1 e2;simp only[OQ.mu.injEq] at e1;obtain⟨rfl,rfl,rfl,rfl⟩:=e1;simp only[iJ] at e2;obtain⟨e2,rfl⟩:=e2;rw[e2] at hx;simp only[R] at hx;rw[Hf,Hf,fP] at h;obtain⟨m,h,g1⟩:=Ax h;obtain⟨hh,h,g2⟩:=Ax h;rw[<-eM (dw st mx'.toList)] at h;obtain⟨M,h,g3⟩:=Ax h;obtain⟨_,k1,k2,k3,h⟩:=h;have hb:=OL (P:=P) hs h2 h3 h4 wx g1 g2 g3 k1 k2 k3;refine dv hs (v:=.raw _) (x:=.slice (if M=m then base else base.map (·.add (m*k))) (hh - m) (M - m)) ?_ (by simp only[R]) h;simp only[execOp,ho,Sem.run_bind,hx];simp[Instr.sliceAt,run_underlying ht,Instr.slice,hb,pk hk]
 .rename_i t x i ho;split at hl
  case h_2=>simp at hl
  rename_i e x' i' ht h1 h2;simp only[dB] at hl;obtain⟨k,hk,rfl⟩:=hl;have hx:=X h1;have hi:=X h2;simp only[aV.bq,dw] at h;unfold OQ.bq at h;split at h<;>try (exfalso;simp_all;done)
  .rename_i k0 b off n cap kk j e1 e2;simp only[OQ.idx.injEq] at e1;subst e1;simp only[iJ,gM] at e2;obtain⟨e2,e3⟩:=e2;rw[e2] at hx;rw[e3] at hi;simp only[R] at hx hi;obtain⟨g1,g2,h⟩:=h;refine dv hs (v:=.ptr (.out b) (off+j.toNat*k)) (x:=.pointer (U ⟨b,off+j.toNat*k,ah⟩)) ?_ (by simp only[R]) h;simp[execOp,ho,hx,hi,Instr.indexAt,asIntOf,run_underlying ht,g1,g2,pk hk,lS]
 .rename_i c ho;obtain⟨callee,args,argTypes⟩:=c;simp only at hl;split at hl
  .split at hl
   case h_2=>simp at hl
   rename_i t x ht hx;have e1:argTypes=#[t]:=by cases argTypes;simpa using ht
   have e2:args=#[x]:=by cases args;simpa using hx
   subst e1;subst e2;split at hl
   case h_2=>simp at hl
   rename_i e y hu h1;simp only[bg] at hl;subst hl;have hx:=X h1;simp only[aV.bq,dw] at h;unfold OQ.bq at h;split at h<;>try (exfalso;simp_all;done)
   .rename_i base n cap e1 e2;simp only[iJ,gM] at e2;rw[e2] at hx;simp only[R] at hx;refine dv hs (v:=.int .i64 n) (x:=.int .i64 n) ?_ (by simp only[R]) h;simp[execOp,ho,resolve,invoke,builtin,Builtin.len_,run_underlying hu,hx,goInt]
  .split at hl
   case h_2=>simp at hl
   rename_i t u s x ht hx;have e1:argTypes=#[t,u]:=by cases argTypes;simpa using ht
   have e2:args=#[s,x]:=by cases args;simpa using hx
   subst e1;subst e2;split at hl
   case h_2=>simp at hl
   rename_i e e' s' x' hu Bd dQ j_;split at hl
   case h_2=>simp at hl
   rename_i i z hi hz;split at hl
   case isFalse=>simp at hl
   rename_i hc;simp only[bg] at hl;subst hl;obtain⟨rfl,ny,gg⟩:=hc;obtain⟨i',z',q1,q2,q3,q4⟩:=uq hz;obtain rfl:i=i' := by rw[hi] at q1;simpa using q1
   have jo:z'.cells.size=i.size:=by have:=gb (sr (E:=E) q3);simp at this;omega
   have wz:=X dQ;have gh:=X j_;simp only[aV.bq,dw] at h;unfold OQ.bq at h;split at h<;>try (exfalso;simp_all;done)
   .rename_i k0 base n cap tk k1 m e1 e2;simp only[OQ.app.injEq] at e1;subst e1;simp only[iJ,gM] at e2;obtain⟨e2,e3⟩:=e2;obtain⟨rfl,h⟩:=h;rw[e2] at wz;rw[e3] at gh;obtain⟨news,g1,g2,g3,g4⟩:=I9 (P:=P) Bd gh;simp only[R] at wz;refine PC hs hu hi q2 jo ny (ty:=o.type) (vx:=a.eval x) ?_ g1 g2 g3 g4 h;simp[execOp,ho,resolve,invoke,builtin,wz]
  .simp at hl
 .simp at hl
def NG(P:Program)(h:List Nat)(o:Oper):Option aV :=
 match o.dst with
 | some d =>
  if h.contains d=aa then
   match o.op with
   | .alloc t=>(kh P t).map .qy
   | .box t x=>match eT P t,c7 P t x with | some n,U y=>U (.gY n y) | _,_=>ah
   | _=>match NH P o with | some x=>U x | none=>zB P o
  else zB P o
 | none=>zB P o
def amD{h:List Nat}(hl:NG P h o=U ao)(hs:bQ E st a)(hk:ao.bq P st K):o.wp P a E.w (eC E a o.dst K) Q:=by
 unfold NG at hl;split at hl
 case h_2=>exact FI hl hs hk
 split at hl
 case isFalse=>exact FI hl hs hk
 split at hl
 .rename_i t ho;simp only[dB] at hl;obtain⟨z,h1,rfl⟩:=hl;exact auo hs ho h1 hk
 .rename_i t x ho;split at hl
  case h_2=>simp at hl
  rename_i n y hn hy;simp only[bg] at hl;subst hl;exact aus hs ho (nG hs.slot hy) hk
 .split at hl
  .rename_i x hx;simp only[bg] at hl;subst hl;exact aoY hx hs hk
  .exact FI hl hs hk
end
structure B6(E:Env)(D k:Nat)(l:List (List V))(b cap:Nat):Prop where
 aY:E.aY D=U l.length
 bj:E.bj b = .gR D (l.length*k)
 QZ:∃cs e,E.w.heap[b]?=U (.cells cs e (0,0))/\cs.size=cap*k
 cap:l.length+1<=cap
 v5:gm E.nl k l b 0
variable{E:Env}{b cap k D:Nat}
def B6.mono{E':Env}{l:List (List V)}(h:B6 E D k l b cap)(hf:Fr E E')(ht:E'.aY D=U l.length):B6 E' D k l b cap:=by
 obtain⟨n',h1,_,h3⟩:=hf.tok D _ h.aY;rw[ht] at h1;simp only[bg] at h1;obtain⟨r1,r2⟩:=h3 h1.symm b _ h.bj;obtain⟨cs,e,k1,k2⟩:=h.QZ;obtain⟨cs',q1,q2⟩:=r2 cs e k1;exact⟨ht,r1,⟨cs',e,q1,q2.trans k2⟩,h.cap,gm.mono _ hf.nl h.v5⟩
section
variable {P:Program} {E:Env} {st:St} {a:Act} {o:Oper}
variable{e t ty u:TypeId}
def aki(hs:bQ E st a){i:TypeInfo}{z:Value}(ht:P.underlying t=U (.slice e))(hi:P.info? e=U i)(hz:i.zero=U z)(jo:z.cells.size=i.size)
 (ny:i.bytes<=4096) {vs vx:Value} {D:Nat} {l:List (List V)}
 (dx:(execOp a.eval o).run P E.w=((Builtin.append_ #[t,u] ty #[vs,vx]).run P E.w).andThen λv w' => .ok (.value v) w')
 (bx:R E (.sl (.tk D) i.size l) vs) {news:List Value} (sM:Src P E.w i.size 1 u vx news) (fG:∀v∈news,v.oneCell' = aa)
 (iP:l.length+1<=aJ) (hE:E.aY D=U l.length) :
 ∃b cap E',B6 E' D i.size l b cap/\(execOp a.eval o).run P E.w = .ok (.value (.slice (U ⟨b,0,ah⟩) (l.length+1) cap)) E'.w/\Fr E E' /\ bQ E' st a/\(∀j,E'.au j=E.au j):=by
 simp only[R] at bx;obtain⟨base,cap,rfl,AV,l8,gv⟩:=bx;obtain⟨iq,hold,Lq,Lb,dT,hlen⟩:=Vz (P:=P) (cap:=cap) l8;have EO:(l.length+1)*i.bytes<=140737488355328:=by
  have:=GF iP ny
  simp only[aJ] at this;omega
 have Ff:l.length+1<=9223372036854775807:=by simp only[aJ] at iP;omega
 have tN:=sM.size;obtain⟨n',h1,_,h3⟩:=gv;rw[hE] at h1;simp only[bg] at h1;subst h1
 rcases xb cap (l.length+1) with an | pU
 .have wm:=grownCap_ge E.w (l.length+1) cap e;have size:(iq++(news++(Builtin.zeroCells z.cells (grownCap E.w (l.length+1) cap e - (l.length+1))).toList)).toArray.size=grownCap E.w (l.length+1) cap e*i.size:=by
   simp only[Qk,bW,B0,size_zeroCells,jo,hlen,tN];rw[<-yH,<-jh,<-jh];congr 1;omega
  have hr:=OJ (P:=P) (ty:=ty) ht hi hz hold sM an EO Ff;generalize grownCap E.w (l.length+1) cap e=nc at hr wm size;generalize news++(Builtin.zeroCells z.cells (nc - (l.length+1))).toList=rest at hr size
  let E' : Env:={w:=E.w.drew.alloc (.cells (iq++rest).toArray e),bj:=λb=>if b=E.w.heap.size then .gR D (l.length*i.size) else E.bj b,au:=E.au,aY:=E.aY}
  have hx:Ext E.w E'.w:=((Ext.refl _).drew).alloc _ _;have h_:∀b,b<E.w.heap.size->E'.bj b=E.bj b:=λb hb=>by simp only[E'];rw[aw (by omega)]
  have bw:Fr E E' := y5 hs.ok.fresh hx h_ (λ_ _ h=>h);have hle:E.le E' := bw.le λ_ _ h=>h
  have Mr:E'.w.heap.size=E.w.heap.size+1:=by simp[E']
  have tO:E'.w.heap[E.w.heap.size]?=U (.cells (iq++rest).toArray e (0,0)):=heap_alloc_new E.w.drew _;have fH:E'.bj E.w.heap.size = .gR D (l.length*i.size):=by simp[E']
  refine⟨E.w.heap.size,nc,E',⟨hE,fH,⟨_,_,tO,size⟩,wm,GJ dT (RL.mono _ bw.nl Lq) Lb tO (λj hj=>by rw[fH];simpa [fz.iM] using hj)⟩,?_,bw,⟨?_,?_,hs.defers,RL.mono _ hle hs.slot⟩,λ_=>rfl⟩
  .rw[dx,hr];rfl
  .refine Dy hs.ok bw.nl (λb h hb=>⟨by rw[h_ b hb];exact h,hx.block b hb⟩) (λ_ _ h=>h) (λb hb=>?_) hs.ok.nt;rw[Mr] at hb;simp only[E'];rw[aw (by omega)];exact hs.ok.fresh b (by omega)
  .exact qT hs.du hle (λb i' h hb=>⟨by rw[h_ b hb];exact h,hx.block b hb⟩) hs.du.none
 .rcases h3 rfl with hc | ⟨b,cs,e',rfl,dX,fk,dd⟩
  .omega
  .have pP:l.length*i.size+news.length<=cs.size:=by
    rw[tN,dd,<-jh];exact sd _ pU
   have jV:=OK (P:=P) (ty:=ty) ht hi fk sM fG pU pP;have wo:∀j:Nat,j<l.length*i.size->(cs.toList.take (l.length*i.size)++news++cs.toList.drop (l.length*i.size+news.length)).toArray[j]?=cs[j]?:=λj hj=>by
    have:=F7 (c:=cs.toList) (vs:=news) (off:=l.length*i.size) (by simpa using pP) j
    rw[aI hj] at this;simpa using this
   have tT:(cs.toList.take (l.length*i.size)++news++cs.toList.drop (l.length*i.size+news.length)).toArray.size=cs.size:=by
    simp;omega
   generalize (cs.toList.take (l.length*i.size)++news++cs.toList.drop (l.length*i.size+news.length)).toArray=new at jV wo tT
   let E' : Env:={E with w:=E.w.setRow b new}
   have iZ:∀b',b' ≠ b->E'.w.heap[b']?=E.w.heap[b']?:=λb' bh=>setRow_other E.w b b' new bh
   have cn : E'.w.heap[b]?=U (.cells new e' (0,0)):=setRow_heap E.w b cs new e' _ fk;have bh:∀b' r,E.bj b' = r->(∀c,r≠.gR D c)->b' ≠ b:=λb' r h h' => by rintro rfl;rw[dX] at h;exact h' _ h.symm
   have bw:Fr E E' := by
    refine⟨rfl,rfl,rfl,by simp[E'],EF fk,?_,?_,?_,λ_ _ h=>.inl h,λ_ _ c _ h=>⟨c,h⟩,λ_ i _ h=>⟨i,h⟩,λb' c' CA hc=>by
     by_cases cU:b' = b
     .subst cU;rw[fk] at hc;simp only[bg,Obj.cells.injEq] at hc;obtain⟨rfl,rfl,_⟩:=hc;exact⟨new,cn,tT⟩
     .exact⟨c',(iZ b' cU).trans hc,rfl⟩⟩
    .intro b' o' c hc hv
     by_cases cU:b' = b
     .subst cU;refine⟨hc,?_⟩;rw[dX] at hc;simp only[fz.iM] at hc;simp only[World.cell?,fk] at hv;simp only[World.cell?,cn,wo _ hc];exact hv
     .exact⟨hc,by rw[Cq (iZ b' cU)];exact hv⟩
    .intro t n hn;refine⟨n,hn,b7 _,λ_ b' c AT=>⟨AT,λcs' CA b9=>?_⟩⟩
     by_cases cU:b' = b
     .subst cU;rw[fk] at b9;simp only[bg,Obj.cells.injEq] at b9;obtain⟨rfl,rfl,_⟩:=b9;exact⟨new,cn,tT⟩
     .exact⟨cs',by rw[iZ b' cU];exact b9,rfl⟩
    .intro b' _ hr;have cU:b' ≠ b:=by rcases hr with hr | hr<;>exact bh b' _ hr (λc h=>by simp at h)
     exact⟨iZ b' cU,rfl⟩
   have hle:E.le E' := bw.le λ_ _ h=>h
   have EX:gm E.nl i.size l b 0:=by
    rcases l8 with h | ⟨b2,o2,h,hr⟩
    .subst h;simp[gm]
    .simp only[bg,Addr.mk.injEq] at h;obtain⟨rfl,rfl,_⟩:=h;exact hr
   refine⟨b,cap,E',⟨hE,dX,⟨new,e',cn,tT.trans dd⟩,pU,gm.mono _ bw.nl EX⟩,?_,bw,⟨?_,?_,hs.defers,RL.mono _ hle hs.slot⟩,λ_=>rfl⟩
   .rw[dx,jV];rfl
   .exact Dy hs.ok bw.nl (λb' hr _=>⟨hr,iZ b' (bh b' _ hr (λc h=>by simp at h))⟩) (λ_ _ h=>h) (λb' ry => hs.ok.fresh b' (by simpa [E'] using ry)) hs.ok.nt
   .exact qT hs.du hle (λb' i' hr _=>⟨hr,iZ b' (bh b' _ hr (λc h=>by simp at h))⟩) hs.du.none
def akl(hs:bQ E st a){l:List (List V)}(hh:B6 E D k l b cap)(hn:eT P t=U k){xs:List V}{v:Value}(hx:RL E.nl xs v.cells.toList)(hv:v.cells.size=k)(h1:∀u∈v.cells.toList,u.oneCell' = aa):
 ∃E',(storeVar t ⟨b,l.length*k,ah⟩ v).run P E.w = .ok () E'.w/\Fr E E' /\ bQ E' ⟨st.t,st.au,st.out.ba D (l.length+1)⟩ a /\
  R E'.nl (.sl (.tk D) k (l++[xs])) (.slice (U ⟨b,0,ah⟩) (l.length+1) cap)/\(∀j,E'.au j=E.au j):=by
 obtain⟨cs,e',fk,dd⟩:=hh.QZ;have dX:=hh.bj;have hE:=hh.aY;have pU:=hh.cap;obtain⟨dT,_⟩:=sh.1 hh.v5;have xT:xs.length=k:=by have:=gb hx;simp at this;omega
 have jV:=OM (P:=P) (off:=l.length*k) hn fk hv (by rw[dd,<-GG];exact sd _ pU) h1;generalize tP:v.cells.toList=news at hx h1 jV;have tN:news.length=k:=by rw[<-tP];simpa using hv
 have pP:l.length*k+news.length<=cs.size:=by rw[tN,dd,<-GG];exact sd _ pU
 have wo:∀j:Nat,(cs.toList.take (l.length*k)++news++cs.toList.drop (l.length*k+k)).toArray[j]?=if j<l.length*k then cs[j]? else if j<l.length*k+news.length then news[j - l.length*k]? else cs[j]?:=λj=>by
  have:=F7 (c:=cs.toList) (vs:=news) (off:=l.length*k) (by simpa using pP) j
  rw[tN] at this ⊢;simpa using this
 have tT:(cs.toList.take (l.length*k)++news++cs.toList.drop (l.length*k+k)).toArray.size=cs.size:=by
  simp;omega
 generalize (cs.toList.take (l.length*k)++news++cs.toList.drop (l.length*k+k)).toArray=new at jV wo tT;have ajL:l.length*k<=(l.length+1)*k:=sd _ (by omega)
 let E' : Env:={w:=E.w.setRow b new,bj:=λb' => if b' = b then .gR D ((l.length+1)*k) else E.bj b',au:=E.au,aY:=λt=>if t=D then U (l.length+1) else E.aY t}
 have iZ:∀b',b' ≠ b->E'.w.heap[b']?=E.w.heap[b']?:=λb' bh=>setRow_other E.w b b' new bh
 have mN:∀b',b' ≠ b->E'.bj b' = E.bj b' := λb' bh=>by simp only[E'];rw[aw bh]
 have cn : E'.w.heap[b]?=U (.cells new e' (0,0)):=setRow_heap E.w b cs new e' _ fk;have qK:E'.bj b = .gR D ((l.length+1)*k):=by simp[E']
 have bh:∀b' r,E.bj b' = r->(∀c,r≠.gR D c)->b' ≠ b:=λb' r h h' => by rintro rfl;rw[dX] at h;exact h' _ h.symm
 have bw:Fr E E' := by
  refine⟨rfl,rfl,rfl,by simp[E'],EF fk,?_,?_,?_,?_,?_,?_,λb' c' CA hc=>by
   by_cases cU:b' = b
   .subst cU;rw[fk] at hc;simp only[bg,Obj.cells.injEq] at hc;obtain⟨rfl,rfl,_⟩:=hc;exact⟨new,cn,tT⟩
   .exact⟨c',(iZ b' cU).trans hc,rfl⟩⟩
  .intro b' o' c hc hv
   by_cases cU:b' = b
   .subst cU;rw[dX] at hc;simp only[fz.iM] at hc;refine⟨by rw[qK];simp only[fz.iM];omega,?_⟩;simp only[World.cell?,fk] at hv;simp only[World.cell?,cn,wo,aI hc];exact hv
   .exact⟨by rw[mN b' cU];exact hc,by rw[Cq (iZ b' cU)];exact hv⟩
  .intro t n hn
   by_cases sN:t=D
   .subst sN;rw[hE] at hn;simp only[bg] at hn;exact⟨l.length+1,by simp[E'],by omega,λh=>by omega⟩
   .refine⟨n,by simp only[E'];rw[aw sN];exact hn,b7 _,λ_ b' c AT=>?_⟩;have cU:b' ≠ b:=bh b' _ AT (λc' h=>by simp at h;exact sN h.1);exact⟨by rw[mN b' cU];exact AT,λcs' CA b9=>⟨cs',by rw[iZ b' cU];exact b9,rfl⟩⟩
  .intro b' _ hr;have cU:b' ≠ b:=by rcases hr with hr | hr<;>exact bh b' _ hr (λc h=>by simp at h)
   exact⟨iZ b' cU,mN b' cU⟩
  .intro b' _ h;have cU:b' ≠ b:=by rintro rfl;rw[qK] at h;simp at h
   rw[mN b' cU] at h;exact .inl h
  .intro b' t c _ h
   by_cases cU:b' = b
   .subst cU;rw[qK] at h;simp at h;obtain⟨rfl,_⟩:=h;exact⟨_,dX⟩
   .rw[mN b' cU] at h;exact⟨c,h⟩
  .intro b' i' _ h;have cU:b' ≠ b:=by rintro rfl;rw[qK] at h;simp at h
   rw[mN b' cU] at h;exact⟨_,h⟩
 have hle:E.le E' := bw.le λ_ _ h=>h
 refine⟨E',jV,bw,⟨⟨?_,?_,?_,?_,λb cs hc=>eW.mono _ bw.nl (hs.ok.cQ b cs hc)⟩,?_,hs.defers,RL.mono _ hle hs.slot⟩,?_,λ_=>rfl⟩
 .intro b' cs' b9;obtain⟨k1,k2⟩:=hs.ok.box b' cs' b9;have cU:b' ≠ b:=bh b' _ k1 (λc h=>by simp at h);exact⟨by rw[mN b' cU];exact k1,k2.mono bw.nl (iZ b' cU)⟩
 .intro t n lD;simp only[ab.ba] at lD;simp only[E'];split at lD
  .rename_i h;rw[aI h];exact lD
  .rename_i h;rw[aw h];exact hs.ok.aY t n lD
 .intro b' ry;have cU:b' ≠ b:=by
   rintro rfl
   have:=lb fk
   simp[E'] at ry;omega
  rw[mN b' cU];exact hs.ok.fresh b' (by simpa [E'] using ry)
 .obtain⟨N,hN⟩:=hs.ok.nt;exact⟨max N (D+1),λt C_ => by simp only[E'];rw[aw (by omega)];exact hN t (by omega)⟩
 .refine qT hs.du hle (λb' i' hr _=>?_) hs.du.none;have cU:b' ≠ b:=bh b' _ hr (λc h=>by simp at h);exact⟨by rw[mN b' cU];exact hr,iZ b' cU⟩
 .have Lo:gm E'.nl k (l++[xs]) b 0:=by
   have EX:=hh.v5;refine sh.2 ⟨λy hy=>?_,?_⟩
   .rcases jv.1 hy with h | h
    .exact dT y h
    .simp at h;subst h;exact xT
   rw[vD];refine yI.2 ⟨(sh.1 (gm.mono _ bw.nl EX)).2,Ce (vs:=news) (by simpa using RL.mono _ bw.nl hx) h1 (λj v hv=>?_) (λj hj=>?_)⟩
   .have hj:=(fw.1 hv).1;rw[ni dT];simp only[Env.Vp,World.cell?,cn,wo];simp only[vL,dm,ch];rw[aw (show ¬(0+l.length*k+j<l.length*k) by omega),aI (show 0+l.length*k+j<l.length*k+news.length by omega)];rw[show 0+l.length*k+j - l.length*k=j from by omega];exact hv
   .rw[ni dT];simp only[mX,P',eM,xT] at hj;simp only[Env.Vo,qK,fz.iM];rw[jh];omega
  simp only[R,bW,da,cZ];exact⟨U ⟨b,0,ah⟩,cap,rfl,pU,.inr ⟨b,0,rfl,Lo⟩,l.length+1,by simp[E'],b7 _,λ_=>.inr ⟨b,new,e',rfl,qK,cn,tT.trans dd⟩⟩
end
structure HI where
 k:Nat
 s:X
 z:X
 len:X
 x:X
 addr:X
 fo:Option Nat
 d9:Nat
 d10:Nat
 dF:Nat
def kq(o:Oper)(j:Nat):Bool:=o.after.toList.any λe=>Region.binds .any e&&e.on == j
def Md(P:Program)(t2:TypeId)(sj:Operand)(other:Nat):Option Oper->Option (X × Option Nat × Nat)
 | none=>(c7 P t2 sj).map λy=>(y,ah,other)
 | some F =>
  match F.dst,sj,zB P F with
  | some dF,.tmp p,U (.pJ off y)=>if p=dF/\F.guard=ah then U (y,U off,dF) else ah
  | _,_,_=>ah
def Me(P:Program)(A I S O'':Oper)(oF:Option Oper):Option HI :=
 match A.op,A.dst,I.op,I.dst,S.op,O''.op with
 | .call c, U d9, .indexAddr t q1 xZ, U d10, .store e q2 yu, .store t2 sj q3 =>
  match c,q1,q2,q3 with
  | { callee := .builtin .append, args := args, argTypes := Pg }, .tmp p1, .tmp p2, .tmp p3 =>
   match Pg.toList,args.toList with
   | [t', u], [vp, vA] =>
    match P.underlying t,P.underlying u,P.info? e,kh P e with
    | some (.slice e1), U (.slice e2), U i, U _ =>
     match c7 P t vp,c7 P u vA,c7 P t xZ,c7 P e yu,Md P t2 sj (d9+d10+1) oF with
     | some s, U z, U len, U x, U (addr, fo, dF) =>
      if (t' = t/\e1=e/\e2=e/\i.bytes<=4096/\0<i.size)/\(p1=d9/\p2=d10/\p3=d9/\eT P t2=U 1)/\(A.guard=ah/\I.guard=ah/\S.guard=ah/\O''.guard=ah/\S.dst=ah/\O''.dst=ah)/\d9≠d10/\d9≠dF/\d10≠dF then
       U ⟨i.size,s,z,len,x,addr,fo,d9,d10,dF⟩
      else ah
     | _,_,_,_,_=>ah
    | _,_,_,_=>ah
   | _,_=>ah
  | _,_,_,_=>ah
 | _,_,_,_,_,_=>ah
def tQ(ops:Array Oper):Option Oper :=
 match ops[ops.size - 2]? with
 | some F=>match F.op with | .fieldAddr _ _ _=>U F | _=>ah
 | none=>ah
def gO(ops:Array Oper):Nat:=if (tQ ops).isSome then ops.size - 5 else ops.size - 4
def dummy(o:Oper):AO:=⟨o.dst,.mv (.c .any),ah⟩
def Gg(l1:List AO)(b:List Nat):List (AO × List Nat) :=
 let d:=lQ fF (l1.map λo=>(o,[])) b
 (l1.zip d).zipIdx.map λ((o,x),i)=>(o,if o.op.Dl then((bG (zj d i+1 - p8 d x)).map (p8 d x+·)).filter (· != BF d i) else [])
variable{i:Nat}
def Yb{l1:List AO}{b:List Nat}{y:AO}(hy:l1[i]?=U y)(an:i<(Gg l1 b).length):∃ms,(Gg l1 b)[i]?=U (y,ms):=by
 unfold Gg at an ⊢
 simp only at an ⊢;generalize lQ fF (l1.map λo=>(o,[])) b=d at an ⊢;generalize hL:l1.zip d=z at an ⊢;have hz:i<z.length:=by simpa using an
 have e:z[i]?=U z[i]:=bN hz;have e1:z[i].1=y:=by
  subst hL;rw[JS,hy] at e;exact(vM e.1).symm
 rw[vF,Qc,e];simp only[uz,e1];exact⟨_,rfl⟩
def TO(P:Program)(ops:Array Oper)(l:List (AO × List Nat))(b:List Nat)(nA:Nat)(A I S O'':Oper)(oF:Option Oper):Bool :=
 (yU ops l b&&P.follows .mixedOrders)&&decide (nA+(if oF.isSome then 5 else 4)=ops.size)&&((bG nA).all λj=>kq A j) &&
  (kq I nA&&kq S nA&&kq S (nA+1)&&kq O'' nA)&&(match oF with | some F=>kq F nA&&kq O'' (nA+3) | none=>aa)
def Ip(P:Program)(ops:Array Oper):Option (List (AO × List Nat) × HI) :=
 match ops[gO ops]?,ops[gO ops+1]?,ops[gO ops+2]?,ops[ops.size - 1]?,Bu P ops (ops.toList.take (gO ops)) with
 | some A, U I, U S, U O'', U l0 =>
  match Me P A I S O'' (tQ ops) with
  | some hi =>
   if TO P ops (Gg (l0++(ops.toList.drop (gO ops)).map dummy) (x6 ops.toList [])) (x6 ops.toList []) (gO ops) A I S O'' (tQ ops)=aa then
    U (Gg (l0++(ops.toList.drop (gO ops)).map dummy) (x6 ops.toList []),hi) else ah
  | none=>ah
 | _,_,_,_,_=>ah
def EB:Option Nat->V->Option V
 | none,v=>U v
 | some n,.ptr p o=>U (.ptr p (o+n))
 | some _,_=>ah
def JE(hi:HI)(K:St->Prop)(st:St):Prop :=
 ∃D l c t' j,ev st hi.s = .sl (.tk D) hi.k l/\ev st hi.z = .sl t' hi.k [c]/\ev st hi.len = .int j l.length/\l.length+1<=aJ/\st.out.aY D=U l.length /\
  (ev st hi.x).wd=U hi.k/\c8 (ev st hi.x).cells=aa/\bS (ev st hi.x).cells=aa/\hi.d9<st.t.length/\hi.d10<st.t.length/\(hi.fo.isSome=aa->hi.dF<st.t.length) /\
  ∃p,EB hi.fo (ev st hi.addr)=U p/\∃aU,dU st 1 (.sl (.tk D) hi.k (l++[aZ (ev st hi.x).cells])) p=U aU /\ K ⟨aU.t,aU.au,aU.out.ba D (l.length+1)⟩
structure HF(P:Program)(A I S O'':Oper)(oF:Option Oper)(hi:HI):Prop where
 app:∃c t u e i z vp vA xZ yu,A.op = .call c/\c.callee = .builtin .append/\c.argTypes=#[t,u]/\c.args=#[vp,vA]/\P.underlying t=U (.slice e)/\P.underlying u=U (.slice e) /\
  P.info? e=U i/\kh P e=U z/\i.bytes<=4096/\i.size=hi.k/\0<hi.k/\c7 P t vp=U hi.s/\c7 P u vA=U hi.z /\
  I.op = .indexAddr t (.tmp hi.d9) xZ/\c7 P t xZ=U hi.len/\S.op = .store e (.tmp hi.d10) yu/\c7 P e yu=U hi.x
 out:∃t2 sj,O''.op = .store t2 sj (.tmp hi.d9)/\eT P t2=U 1/\(match oF with
  | none=>hi.fo=ah/\c7 P t2 sj=U hi.addr
  | some F=>∃off,hi.fo=U off/\sj = .tmp hi.dF/\F.dst=U hi.dF/\F.guard=ah/\zB P F=U (.pJ off hi.addr))
 dst:A.dst=U hi.d9/\I.dst=U hi.d10/\S.dst=ah/\O''.dst=ah
 guard:A.guard=ah/\I.guard=ah/\S.guard=ah/\O''.guard=ah
 ne:hi.d9≠hi.d10/\hi.d9≠hi.dF/\hi.d10≠hi.dF
variable{P:Program}{hi:HI}
def akg{A I S O'':Oper}{oF:Option Oper}(h:Me P A I S O'' oF=U hi):HF P A I S O'' oF hi:=by
 unfold Me at h;split at h
 case h_2=>simp at h
 rename_i c d9 t q1 xZ d10 e q2 yu t2 sj q3 e1 e2 e3 e4 e5 e6;split at h
 case h_2=>simp at h
 rename_i args Pg p1 p2 p3;split at h
 case h_2=>simp at h
 rename_i t' u vp vA e7 e8;split at h
 case h_2=>simp at h
 rename_i et eu i z g1 g2 g3 g4;split at h
 case h_2=>simp at h
 rename_i s zx len x addr fo dF k1 k2 k3 k4 k5;split at h
 case isFalse=>simp at h
 rename_i hc;obtain⟨⟨rfl,rfl,rfl,m1,m2⟩,⟨rfl,rfl,rfl,m3⟩,⟨m4,m5,m6,m7,m8,m9⟩,m10⟩:=hc;simp only[bg] at h;subst h;have ht:Pg=#[t',u]:=D4 (by simpa using e7);have ha:args=#[vp,vA]:=D4 (by simpa using e8);refine⟨⟨_,t',u,_,i,z,vp,vA,xZ,yu,e1,rfl,ht,ha,g1,g2,g3,g4,m1,rfl,m2,k1,k2,e3,k3,e5,k4⟩,⟨t2,sj,e6,m3,?_⟩,⟨e2,e4,m8,m9⟩,⟨m4,m5,m6,m7⟩,m10⟩;cases oF with
 | none =>
  simp only[Md,dB,pB] at k5;obtain⟨y,h1,rfl,rfl,rfl⟩:=k5;exact⟨rfl,h1⟩
 | some F =>
  simp only[Md] at k5;split at k5
  case h_2=>simp at k5
  rename_i dF' p off y h1 h2;split at k5
  case isFalse=>simp at k5
  rename_i hc;simp only[bg,pB] at k5;obtain⟨rfl,rfl,rfl⟩:=k5;obtain⟨rfl,hg⟩:=hc;exact⟨off,rfl,rfl,h1,hg,h2⟩
def Hz{o:Oper}{j:Nat}(h:kq o j=aa):∃e∈o.after,Region.binds .any e=aa/\e.on=j:=by
 simp only[kq,uu,b_,Cn] at h;obtain⟨e,h1,h2,h3⟩:=h;exact⟨e,by simpa using h1,h2,h3⟩
variable{a:Act}{d n:Nat}
def BI{v u:Value}(hd:d<a.tmps.size):(a.put (U d) v).tmps.getD n u=if n=d then v else a.tmps.getD n u:=by
 simp only[Act.put]
 by_cases h:n=d
 .subst h;simp[hd]
 .rw[aw h,rf,BZ (fL h),<-rf]
def Ap{E:Env}:∀{l:List V} {vs:List Value} (n:Nat),RL E l vs->RL E (l.set n .any) vs
 | [],[],_,h=>by simpa using h
 | [],_::_,_,h=>by simp[RL] at h
 | _::_,[],_,h=>by simp[RL] at h
 | x :: xs, v :: vs, n, h => by
  simp only[RL] at h;cases n with
  | zero=>simp only[List.set_cons_zero,RL];exact⟨by simp[R],h.2⟩
  | succ n=>simp only[List.set_cons_succ,RL];exact⟨h.1,Ap n h.2⟩
variable{st:St}{y:V}
def asD{nM nN:St}{u:Value}{p:V}(h1:dU st 1 (.raw u) p=U nM)(h2:dU st 1 y p=U nN)(hy:R E.nl y u)(Ua:y.cells=[y])(hyE:R E y u)
 (hs:bQ E nM a):bQ E nN a:=by
 have OY:∀(cs:List V) (off:Nat) (z:V) (j:Nat),(setAt cs off [z])[j]?=if j=off then(cs[j]?).map λ_=>z else cs[j]?:=by
  intro cs;induction cs with
  | nil=>intro off z j;cases off<;>simp[setAt,over]
  | cons c cs ih =>
   intro off z j;cases off with
   | zero=>cases j<;>simp[setAt,over]<;>(cases cs<;>simp[over])
   | succ off=>cases j<;>simp[setAt,ih]
 have asa:∀(cs:List V) (off:Nat) (z:V),(setAt cs off [z]).length=cs.length:=by
  intro cs;induction cs with
  | nil=>intro off z;cases off<;>simp[setAt,over]
  | cons c cs ih=>intro off z;cases off<;>simp[setAt,over,ih]<;>(cases cs<;>simp[over])
 have box:∀(E1:Env) (b:Nat) (cs:List V) (off:Nat),R E1 y u->jM E1 b (setAt cs off [.raw u])->jM E1 b (setAt cs off [y]):=λE1 b cs off hR ⟨c,e,k1,k2,k3⟩=>by
  refine⟨c,e,k1,by rw[asa] at k2 ⊢;exact k2,λj x hx=>?_⟩;rw[OY] at hx
  by_cases hj:j=off
  .rw[aI hj] at hx;simp only[dB] at hx;obtain⟨z,hz,rfl⟩:=hx;obtain⟨v,hv,hr⟩:=k3 j (.raw u) (by rw[OY,aI hj,hz];rfl);simp only[R] at hr;subst hr;exact⟨v,hv,hR⟩
  .rw[aw hj] at hx;exact k3 j x (by rw[OY,aw hj];exact hx)
 cases p with
 | ptr p off =>
  cases p with
  | kS b=>simp[dU] at h1
  | au i =>
   simp only[dU,iK] at h1 h2;obtain⟨cs,e1,e2⟩:=h1;obtain⟨cs',e3,e4⟩:=h2;rw[e1] at e3;simp only[bg] at e3;subst e3;split at e2<;>simp at e2;split at e4<;>simp at e4;subst e2 e4;refine⟨hs.ok,⟨λj ds hj=>?_,λj hj=>hs.du.none j (by simpa using hj)⟩,hs.defers,hs.slot⟩;have an:=(fw.1 e1).1
   by_cases fV:j=i
   .subst fV;simp only[Qb an,bg] at hj;subst hj;obtain⟨b,q1,q2,q3⟩:=hs.du.box j (setAt cs off [.raw u]) (by simp[V.cells,an]);rw[Ua];exact⟨b,q1,q2,box E b cs off hyE q3⟩
   .simp only[D_ (fL fV)] at hj;exact hs.du.box j ds (by simp only[D_ (fL fV)];exact hj)
  | out i =>
   simp only[dU,iK] at h1 h2;obtain⟨cs,e1,e2⟩:=h1;obtain⟨cs',e3,e4⟩:=h2;rw[e1] at e3;simp only[bg] at e3;subst e3;split at e2<;>simp at e2;split at e4<;>simp at e4;subst e2 e4;refine⟨⟨λj ds hj=>?_,hs.ok.aY,hs.ok.fresh,hs.ok.nt,hs.ok.cQ⟩,hs.du,hs.defers,hs.slot⟩
   by_cases fV:j=i
   .subst fV;rw[ab.eY] at hj;simp only[bg] at hj;subst hj;obtain⟨q2,q3⟩:=hs.ok.box j (setAt cs off [.raw u]) (by simp[V.cells,ab.set]);rw[Ua];exact⟨q2,box E.nl j cs off hy q3⟩
   .rw[ab.e9 _ _ fV] at hj;exact hs.ok.box j ds (by rw[ab.e9 _ _ fV];exact hj)
 | _=>simp[dU] at h1
def XM{nN:St}{u:Value}{p:V}(h2:dU st 1 y p=U nN)(hu:u.oneCell' = aa):∃nM,dU st 1 (.raw u) p=U nM/\nM.t=st.t:=by
 cases p with
 | ptr p off =>
  cases p with
  | kS b=>simp[dU] at h2
  | au i =>
   simp only[dU,iK] at h2;obtain⟨cs',e3,e4⟩:=h2;split at e4<;>simp at e4;rename_i hc;exact⟨⟨st.t,st.au.set i (setAt cs' off (V.raw u).cells),st.out⟩,by simp only[dU,e3,xe];rw[aI ⟨hc.1,by simp[V.wd,hu],by simp[V.cells,c8,V.one,hu]⟩],rfl⟩
  | out i =>
   simp only[dU,iK] at h2;obtain⟨cs',e3,e4⟩:=h2;split at e4<;>simp at e4;rename_i hc;exact⟨⟨st.t,st.au,st.out.set i (setAt cs' off (V.raw u).cells)⟩,by simp only[dU,e3,xe];rw[aI ⟨hc.1,by simp[V.wd,hu],by simp[V.cells,c8,V.one,hu],by simp[V.cells,bS,V.cM]⟩],rfl⟩
 | _=>simp[dU] at h2
variable{m:Nat}
def O5{p:V}:dU ⟨st.t,st.au,st.out.ba D m⟩ n y p=(dU st n y p).map λs=>⟨s.t,s.au,s.out.ba D m⟩:=by
 cases p with
 | ptr p off =>
  cases p with
  | kS b=>simp[dU]
  | au i =>
   simp only[dU];cases st.au[i]? with
   | none=>rfl
   | some cs=>simp only[xe];split<;>rfl
  | out i =>
   simp only[dU];show((st.out.box i).bind _)=_;cases st.out.box i with
   | none=>rfl
   | some cs=>simp only[xe];split<;>rfl
 | _=>rfl
def XN{aU:St}{p:V}(h:dU st n y p=U aU):aU.out.aY=st.out.aY/\aU.t=st.t:=by
 cases p with
 | ptr p off =>
  cases p with
  | kS b=>simp[dU] at h
  | au i =>
   simp only[dU,iK] at h;obtain⟨cs,_,e2⟩:=h;split at e2<;>simp at e2;subst e2;exact⟨rfl,rfl⟩
  | out i =>
   simp only[dU,iK] at h;obtain⟨cs,_,e2⟩:=h;split at e2<;>simp at e2;subst e2;exact⟨rfl,rfl⟩
 | _=>simp[dU] at h
section
variable {P:Program} {ops:Array Oper}
structure Tl(ops:Array Oper)(hi:HI)(nA D:Nat)(l:List (List V))(xs:List V)(p:V)(hF:Bool)(E0:Env)(tw:List V)(s1:St)(listed:Array Bool)(a:Act)(w:World):Prop where
 size:listed.size=ops.size
 pre:∀j,j<=nA->listed.getD j aq=aa
 rel:∃E st b cap,E.w=w/\Fr E0 E/\bQ E st a/\st.t=tw/\a.tmps.getD hi.d9 undef = .slice (U ⟨b,0,ah⟩) (l.length+1) cap /\
  (listed.getD (nA+1) aq=aa->a.tmps.getD hi.d10 undef = .pointer (U ⟨b,l.length*hi.k,ah⟩)) /\
  (hF=aa->listed.getD (nA+3) aq=aa->listed.getD (ops.size - 1) aq=aq->R E p (a.tmps.getD hi.dF undef)) /\
  (listed.getD (nA+2) aq=aq->B6 E D hi.k l b cap) /\
  (listed.getD (nA+2) aq=aa->R E.nl (.sl (.tk D) hi.k (l++[xs])) (.slice (U ⟨b,0,ah⟩) (l.length+1) cap)) /\
  (if listed.getD (ops.size - 1) aq=aa then dU (if listed.getD (nA+2) aq=aa then ⟨s1.t,s1.au,s1.out.ba D (l.length+1)⟩ else s1) 1 (.raw (.slice (U ⟨b,0,ah⟩) (l.length+1) cap)) p=U st
    else st=if listed.getD (nA+2) aq=aa then ⟨s1.t,s1.au,s1.out.ba D (l.length+1)⟩ else s1)
def Xu{l:List V}{x:V}(h:l[n]?=U x):l.set n x=l:=by
 have:=(fw.1 h)
 obtain⟨h1,h2⟩:=this;rw[<-h2,YY]
variable{listed:Array Bool}
def zT(hi:i<listed.size)(j:Nat):(listed.setIfInBounds i aa).getD j aq=if j=i then aa else listed.getD j false:=by
 by_cases h:j=i
 .subst h;simp[hi]
 .rw[aw h,rf,BZ (fL h),<-rf]
def He{aU:St}(h:st.t=aU.t)(x:X):ev st x=ev aU x:=by cases x<;>simp[ev,h]
structure TF(P:Program)(ops:Array Oper)(hi:HI)(nA:Nat)(hF:Bool)(D:Nat)(l:List (List V))(xs:List V)(p:V)(s1:St):Prop where
 hf:HF P (ops.getD nA default) (ops.getD (nA+1) default) (ops.getD (nA+2) default) (ops.getD (ops.size - 1) default) (if hF then U (ops.getD (nA+3) default) else ah) hi
 size:nA+(if hF then 5 else 4)=ops.size
 eI:kq (ops.getD (nA+1) default) nA=aa
 eS:kq (ops.getD (nA+2) default) nA=aa/\kq (ops.getD (nA+2) default) (nA+1)=aa
 eO:kq (ops.getD (ops.size - 1) default) nA=aa
 eF:hF=aa->kq (ops.getD (nA+3) default) nA=aa/\kq (ops.getD (ops.size - 1) default) (nA+3)=aa
 len:∃j,ev s1 hi.len = .int j l.length
 aY:s1.out.aY D=U l.length
 wd:(ev s1 hi.x).wd=U hi.k
 one:c8 (ev s1 hi.x).cells=aa
 cM:bS (ev s1 hi.x).cells=aa
 exs:xs=aZ (ev s1 hi.x).cells
 d9:s1.t[hi.d9]?=U .any
 d10:s1.t[hi.d10]?=U .any
 dF:hF=aa->s1.t[hi.dF]?=U .any
 pJ:EB hi.fo (ev s1 hi.addr)=U p
 st:∃nN,dU s1 1 (.sl (.tk D) hi.k (l++[xs])) p=U nN
def zI{ops:Array Oper}{o:Oper}(h:ops[i]?=U o):ops.getD i default=o:=by simp[rf,h]
def Gf{o:Oper}(h:o.guard=ah):Region.wanted o (yielded ops a.tmps)=true:=by simp[Region.wanted,h]
variable{w:World}
def asR{nA:Nat}{hF:Bool}{l:List (List V)}{xs:List V}{p:V}{s1:St}(T:TF P ops hi nA hF D l xs p s1){E0:Env}{Q:Exit->Act->World->Prop}
 (h:Tl ops hi nA D l xs p hF E0 s1.t s1 listed a w) {i:Nat} (hr:i∈Region.ready .any ops listed) {K:Act->World->Prop}
 (hK:∀a w,Tl ops hi nA D l xs p hF E0 s1.t s1 (listed.setIfInBounds i aa) a w->K a w):wpOp P ops Q i K a w:=by
 obtain⟨zp,o,ho,cT⟩:=mem_ready.1 hr;have an:i<ops.size:=(lr.1 ho).1;have mc : i<listed.size:=by rw[h.size];exact an
 have Da : listed.getD i aq=false:=by rw[<-Ho _ _ mc];exact zp
 have hgt:nA<i:=by
  rcases xb nA i with hq | hq
  .exact hq
  .rw[h.pre i hq] at Da;simp at Da
 have nC:=zT mc;have mL:=zI ho;have zo : (listed.setIfInBounds i aa).size=ops.size:=by simp[h.size]
 have HU : ∀j,j<=nA->(listed.setIfInBounds i aa).getD j aq=true:=λj hj=>by rw[nC,aw (by omega)];exact h.pre j hj
 obtain⟨E,st,bk,cap,rfl,bw,hs,fv,CW,HH,LK,HL,LU,hO⟩:=h.rel;have dd:=T.size;have EW:s1.t.length=a.tmps.size:=by have:=gb hs.slot;rw[fv] at this;simpa using this
 have Tu:hi.d9<a.tmps.size:=by rw[<-EW];exact(fw.1 T.d9).1
 have Lz:hi.d10<a.tmps.size:=by rw[<-EW];exact(fw.1 T.d10).1
 have avm:nA+2<ops.size - 1:=by rw[<-dd];cases hF<;>simp<;>omega
 have mi:∀j,j≠i->(listed.setIfInBounds i aa).getD j aq=listed.getD j false:=λj hj=>by rw[nC,aw hj]
 have made:(listed.setIfInBounds i aa).getD i aq=true:=by rw[nC,aI rfl]
 unfold wpOp;rw[ho];simp only;have QI:∀(E' : Env) (aU : St) (a:Act) (d:Nat) (v:Value),aU.t=s1.t->s1.t[d]?=U .any->bQ E' aU a->bQ E' aU (a.put (U d) v):=λE' aU a d v e1 e2 h=>by
  have:=bQ.put h (v:=.any) (x:=v) (by simp[R]) (U d)
  have e:aU.put (U d) .any=aU := by
   simp only[St.put];rw[e1,Xu e2,<-e1]
  rw[e] at this;exact this
 by_cases hI:i=nA+1
 ·-- the element's address
  subst hI;obtain⟨c,t,u,e,inf,z,vp,vA,xZ,yu,_,_,_,_,q5,_,q7,_,_,BJ,_,_,_,Wk,q15,_,_⟩:=T.hf.app;rw[mL] at Wk;have hg:=T.hf.guard.2.1;rw[mL] at hg;have l7:=T.hf.dst.2.1;rw[mL] at l7;rw[Gf hg,aI rfl];left;obtain⟨jk,hlen⟩:=T.len;have Li:=nG (E:=E) (st:=st) (a:=a) hs.slot q15;rw[He fv,hlen] at Li;simp only[R] at Li;have hn:eT P e=U hi.k:=by simp[eT,q7,BJ]
  have dx:(execOp a.eval o).run P E.w = .ok (.value (.pointer (U ⟨bk,l.length*hi.k,ah⟩))) E.w:=by
   have ajT : a.eval (.tmp hi.d9) = .slice (U ⟨bk,0,ah⟩) (l.length+1) cap:=CW;simp[execOp,Wk,ajT,Li,Instr.indexAt,asIntOf,run_underlying q5,pk hn,lS]
  unfold Oper.wp;rw[dx];refine hK _ _ ⟨zo,HU,E,st,bk,cap,rfl,bw,?_,fv,?_,?_,?_,?_,?_,?_⟩
  .rw[l7];exact QI E st a hi.d10 _ fv T.d10 hs
  .rw[l7,BI Lz,aw T.hf.ne.1];exact CW
  .intro _;rw[l7,BI Lz,aI rfl]
  .intro h1 h2 h3;rw[nC,aw (by omega)] at h2;rw[mi _ (by omega)] at h3;rw[l7,BI Lz,aw (fL T.hf.ne.2.2)];exact LK h1 h2 h3
  .intro h1;rw[nC,aw (by omega)] at h1;exact HL h1
  .intro h1;rw[nC,aw (by omega)] at h1;exact LU h1
  .rw[mi _ (by omega),mi _ (by omega)];exact hO
 by_cases hS:i=nA+2
 ·-- the element is filled in
  subst hS;obtain⟨c,t,u,e,inf,z,vp,vA,xZ,yu,_,_,_,_,_,_,q7,_,_,BJ,_,_,_,_,_,Wl,q17⟩:=T.hf.app;rw[mL] at Wl;have hg:=T.hf.guard.2.2.1;rw[mL] at hg;have l7:=T.hf.dst.2.2.1;rw[mL] at l7;rw[Gf hg,aI rfl];left;have Ta : listed.getD (nA+1) aq=true:=by
   have:=T.eS.2
   rw[mL] at this;obtain⟨e,h1,h2,h3⟩:=Hz this;rw[<-h3];exact cT e h1 h2
  have hX:=nG (E:=E) (st:=st) (a:=a) hs.slot q17;rw[He fv] at hX;have hn:eT P e=U hi.k:=by simp[eT,q7,BJ]
  obtain⟨r1,r2⟩:=yK hX T.wd;have r3:=RL.p_ (E:=E) (E' := E.nl) _ (Env.le.refl E.nl) T.cM r1;have r4:=zG r1 T.one;obtain⟨E',k1,k2,k3,k4,k5⟩:=akl (P:=P) hs (HL Da) hn (RL.erase _ r3) r2 r4;rw[<-T.exs] at k4;have dx:(execOp a.eval o).run P E.w = .ok .skip E'.w:=by
   have e1:a.eval (.tmp hi.d10) = .pointer (U ⟨bk,l.length*hi.k,ah⟩):=HH Ta;simp[execOp,Wl,e1,I2 k1]
  unfold Oper.wp;rw[dx];show K (a.put o.dst undef) E'.w;rw[l7];have hle:E.le E' := k2.le λj b hb=>by rw[k5];exact hb
  refine hK _ _ ⟨zo,HU,E',_,bk,cap,rfl,bw.trans k2,k3,fv,CW,?_,?_,?_,?_,?_⟩
  .intro _;exact HH Ta
  .intro h1 h2 h3;rw[nC,aw (by omega)] at h2;rw[mi _ (by omega)] at h3;exact R.mono _ hle (LK h1 h2 h3)
  .intro h1;rw[nC,aI rfl] at h1;simp at h1
  .intro _;exact k4
  .rw[mi (ops.size - 1) (by omega),made];rw[Da] at hO;simp only[dm,ch] at hO;simp only[cH];split at hO
   .rename_i h1;rw[aI h1,O5,hO];rfl
   .rename_i h1;rw[aw h1,hO]
 by_cases hOi:i=ops.size - 1
 ·-- the list is laid down
  subst hOi;obtain⟨t2,sj,q1,q2,q3⟩:=T.hf.out;rw[mL] at q1;have hg:=T.hf.guard.2.2.2;rw[mL] at hg;have l7:=T.hf.dst.2.2.2;rw[mL] at l7;rw[Gf hg,aI rfl];left;rw[Da] at hO;simp only[dm,ch] at hO;have ajE:R E p (a.eval sj):=by
   cases sD:hF with
   | false =>
    rw[sD] at q3;simp only[dm,ch] at q3;have l_:=T.pJ;rw[q3.1] at l_;simp only[EB,bg] at l_
    have:=nG (E:=E) (st:=st) (a:=a) hs.slot q3.2
    rw[He fv,l_] at this;exact this
   | true =>
    rw[sD] at q3;simp only[cH] at q3;obtain⟨off,_,ha,_⟩:=q3;subst ha
    have:=(T.eF sD).2
    rw[mL] at this;obtain⟨e,h1,h2,h3⟩:=Hz this;exact LK sD (by rw[<-h3];exact cT e h1 h2) Da
  obtain⟨nN,tR⟩:=T.st
  let v:Value:=.slice (U ⟨bk,0,ah⟩) (l.length+1) cap
  have fG:v.oneCell' = true:=rfl;obtain⟨aU,Fg,akr⟩:∃aU,dU st 1 (.raw v) p=U aU /\ aU.t=st.t:=by
   rw[hO];split
   .exact XM (by rw[O5,tR];rfl) fG
   .exact XM tR fG
  refine Oper.wp_mono ?_ (Yq (Q:=Q) (K:=λ_ s=>s=aU) hs (by omega) q1 q2 ajE (ay:=.raw v) (by simp only[R];exact CW) Fg rfl);rintro a' w' ⟨E',v',u',s',rfl,kr,dQ,_,rfl,rfl⟩;rw[l7];simp only[Act.put];have tU:listed.getD (nA+2) aq=aq->E'.aY D=U l.length:=λhq=>by
   refine dQ.ok.aY D _ ?_;rw[(XN Fg).1,hO,hq];simpa using T.aY
  refine hK _ _ ⟨zo,HU,E',_,bk,cap,rfl,bw.trans kr,dQ,by rw[akr,fv],CW,?_,?_,?_,?_,?_⟩
  .intro h1;rw[mi _ (by omega)] at h1;exact HH h1
  .intro _ _ h3;rw[nC,aI rfl] at h3;simp at h3
  .intro h1;rw[mi _ (by omega)] at h1;exact(HL h1).mono kr (tU h1)
  .intro h1;rw[mi _ (by omega)] at h1;exact R.mono _ kr.nl (LU h1)
  .rw[made,mi _ (by omega)];simp only[cH];rw[<-hO];exact Fg
 -- the field's address
 have sD:hF=true:=by
  cases hq:hF with
  | true=>rfl
  | false=>rw[hq] at dd;simp at dd;omega
 have hi3:i=nA+3:=by rw[sD] at dd;simp at dd;omega
 subst hi3;obtain⟨t2,sj,_,_,q3⟩:=T.hf.out;rw[sD] at q3;simp only[cH] at q3;obtain⟨off,q4,_,q5,q6,q7⟩:=q3;rw[mL] at q5 q6 q7;rw[Gf q6,aI rfl];left;have LA:hi.dF<a.tmps.size:=by rw[<-EW];exact(fw.1 (T.dF sD)).1
 have l_:=T.pJ;rw[q4] at l_;have kY:(aV.pJ off hi.addr).bq P st (λv s=>v=p/\s=st):=by
  simp only[aV.bq];rw[He fv];cases hq:ev s1 hi.addr<;>rw[hq] at l_<;>simp[EB] at l_ ⊢;exact l_
 refine Oper.wp_mono ?_ (FI (Q:=Q) q7 hs kY);rintro a' w' ⟨E',v',u',s',rfl,kr,dQ,hv,rfl,rfl,rfl⟩;rw[q5];have tU:listed.getD (nA+2) aq=aq->E'.aY D=U l.length:=λhq=>by
  refine dQ.ok.aY D _ ?_;rw[hq] at hO;simp only[dm,ch] at hO;split at hO
  .rw[(XN hO).1];exact T.aY
  .rw[hO];exact T.aY
 refine hK _ _ ⟨zo,HU,E',_,bk,cap,rfl,bw.trans kr,QI E' _ a hi.dF _ fv (T.dF sD) dQ,fv,?_,?_,?_,?_,?_,?_⟩
 .rw[BI LA,aw T.hf.ne.2.1];exact CW
 .intro h1;rw[nC,aw (by omega)] at h1;rw[BI LA,aw T.hf.ne.2.2];exact HH h1
 .intro _ _ _;rw[BI LA,aI rfl];exact hv
 .intro h1;rw[nC,aw (by omega)] at h1;exact(HL h1).mono kr (tU h1)
 .intro h1;rw[nC,aw (by omega)] at h1;exact R.mono _ kr.nl (LU h1)
 .have h5:nA+5=ops.size:=by rw[sD] at dd;simpa using dd
  rw[mi _ (by omega),mi _ (by omega)];exact hO
end
def DZ(fo:Option Nat)(d:Nat)(t:List V):List V:=match fo with | some _=>t.set d .any | none=>t
def r7(hi:HI)(t:List V):List V:=DZ hi.fo hi.dF ((t.set hi.d9 .any).set hi.d10 .any)
def Gs(hi:HI)(K:St->Prop)(st:St):Prop:=JE hi K ⟨r7 hi st.t,st.au,st.out⟩
def QH{t:List V}{e:Nat}(h:t[e]?=U .any):(t.set d .any)[e]?=U .any:=by
 have an:=(fw.1 h).1
 by_cases hd:d=e
 .subst hd;simp[an]
 .rw[D_ hd];exact h
def J_{t:List V}(h:d<t.length):(t.set d .any)[d]?=U .any:=by simp[h]
def Pu(hi:HI)(t:List V):(r7 hi t).length=t.length:=by
 unfold r7 DZ;cases hi.fo<;>simp
def Yc{fo:Option Nat}{e:Nat}{t:List V}(h:t[e]?=U .any):(DZ fo d t)[e]?=U .any:=by
 unfold DZ;cases fo
 .exact h
 .exact QH h
def at6{t:List V}(h:hi.d9<t.length):(r7 hi t)[hi.d9]?=U .any:=Yc (QH (J_ h))
def at5{t:List V}(h:hi.d10<t.length):(r7 hi t)[hi.d10]?=U .any:=Yc (J_ (by simpa using h))
def at7{t:List V}{off:Nat}(hf:hi.fo=U off)(h:hi.dF<t.length):(r7 hi t)[hi.dF]?=U .any:=by
 unfold r7 DZ;rw[hf];exact J_ (by simpa using h)
def aua{t:List V}{us:List Value}(h:RL E t us):RL E (r7 hi t) us:=by
 unfold r7 DZ;cases hi.fo
 .exact Ap _ (Ap _ h)
 .exact Ap _ (Ap _ (Ap _ h))
def Xo{S:Nat->Bool}{n:Nat}:∀{tr:List TR} {i:Nat},(∀j,S (i+j)=decide (i+j<n))->cW S i tr=tr.take (n - i)
 | [],i,_=>by simp[cW]
 | r :: tr, i, h => by
  have h0:=h 0;rw[vJ] at h0;have ih:=Xo (S:=S) (n:=n) (tr:=tr) (i:=i+1) λj=>by
   have:=h (j+1)
   rw[show i+(j+1)=i+1+j from by omega] at this;exact this
  simp only[cW,h0]
  by_cases hi:i<n
  .simp only[hi,bL,cH,ih];rw[show n - i=(n - (i+1))+1 from by omega,vI]
  .simp only[hi,c9,dm,ch,ih];rw[show n - (i+1)=0 from by omega,show n - i=0 from by omega];simp
def W_:∀{a b:List TR} {t:List V},runT (a++b) t=runT b (runT a t)
 | [],_,_=>rfl
 | r::a,b,t=>by simp only[jN,runT];exact W_
def W5:∀{a b:List TR} {s:dC},dY (a++b) s=dY b (dY a s)
 | [],_,_=>rfl
 | r::a,b,t=>by simp only[jN,dY];exact W5
def W9{E:Env}{us:List Value}:∀{tr:List TR} {t:List V},(∀r∈tr,r.val = .any)->RL E t us->RL E (runT tr t) us
 | [],_,_,h=>h
 | r :: tr, t, hv, h => by
  simp only[fh] at hv;simp only[runT];refine W9 hv.2 ?_;cases hd:r.dst with
  | none=>exact h
  | some d=>simp only[kE,hv.1];exact Ap d h
def W4:∀{tr:List TR} {s:dC},(∀r∈tr,r.bC=aq)->dY tr s=s
 | [],_,_=>rfl
 | r :: tr, s, h => by
  simp only[fh] at h;simp only[dY,h.1,dm,ch];exact W4 h.2
section
variable {P:Program} {ops:Array Oper}
variable{l:List (AO × List Nat)}
def amA(h:Ip P ops=U (l,hi)):
 ∃b,Ag ops l b/\b.length=ops.size/\P.follows .mixedOrders=aa/\(∀(i:Nat) o,i<gO ops->ops[i]?=U o->∃x:AO × List Nat,l[i]?=U x/\u9 P ops o=U x.1) /\
  (∀(i:Nat) o,gO ops<=i->ops[i]?=U o->∃ms,l[i]?=U (dummy o,ms)) /\
  HF P (ops.getD (gO ops) default) (ops.getD (gO ops+1) default) (ops.getD (gO ops+2) default) (ops.getD (ops.size - 1) default) (tQ ops) hi /\
  gO ops+(if (tQ ops).isSome then 5 else 4)=ops.size/\(∀j,j<gO ops->kq (ops.getD (gO ops) default) j=aa) /\
  kq (ops.getD (gO ops+1) default) (gO ops)=aa/\(kq (ops.getD (gO ops+2) default) (gO ops)=aa/\kq (ops.getD (gO ops+2) default) (gO ops+1)=aa) /\
  kq (ops.getD (ops.size - 1) default) (gO ops)=aa/\(∀F,tQ ops=U F->kq F (gO ops)=aa/\kq (ops.getD (ops.size - 1) default) (gO ops+3)=aa):=by
 unfold Ip at h;split at h
 case h_2=>simp at h
 rename_i A I S O'' l0 a1 a2 a3 a4 a5;split at h
 case h_2=>simp at h
 rename_i eg ajM;split at h
 case isFalse=>simp at h
 rename_i hc;simp only[bg,pB] at h;obtain⟨rfl,rfl⟩:=h;unfold TO at hc;simp only[b_,eb] at hc;obtain⟨⟨⟨⟨⟨c1,c2⟩,c3⟩,c4⟩,c5⟩,c6⟩:=hc;rw[zI a1,zI a2,zI a3,zI a4];have hlen:=(facts c1).size;have hA:gO ops<ops.size:=(lr.1 a1).1;obtain⟨g1,g2⟩:=ND a5;have A6:l0.length=gO ops:=by rw[g1];simp;omega
 refine⟨_,facts c1,?_,c2,λi o hi ho=>?_,λi o hi ho=>?_,akg ajM,c3,λj hj=>?_,c5.1.1.1,⟨c5.1.1.2,c5.1.2⟩,c5.2,λF hF=>?_⟩
 .unfold yU at c1;simp only[b_,eb] at c1;exact c1.1.1.2
 .obtain⟨x,k1,k2⟩:=g2 i o (by rw[JR,aI hi];simpa using ho);obtain⟨ms,hm⟩:=Yb (l1:=l0++(ops.toList.drop (gO ops)).map dummy) (b:=x6 ops.toList []) (i:=i) (y:=x) (by rw[sc (by omega)];exact k1) (by rw[hlen];omega);exact⟨_,hm,k2⟩
 .have an:=(lr.1 ho).1;exact Yb (by rw[B' (by omega),vF,vE,A6,show gO ops+(i - gO ops)=i from by omega];simp[ho]) (by rw[hlen];exact an)
 .simp only[lO,lP] at c4;exact c4 j hj
 .rw[hF] at c6;simpa using c6
end
section
variable {P:Program} {ops:Array Oper}
def akh(dd:gO ops+(if (tQ ops).isSome then 5 else 4)=ops.size):tQ ops=if (tQ ops).isSome=aa then U (ops.getD (gO ops+3) default) else none:=by
 cases hq:tQ ops with
 | none=>rfl
 | some F =>
  rw[hq] at dd;simp only[xh,cH] at dd ⊢;unfold tQ at hq;split at hq
  case h_2=>simp at hq
  rename_i F0 h0;split at hq
  .simp only[bg] at hq;subst hq;rw[zI (i:=gO ops+3) (by rw[<-h0];congr 1;omega)]
  .simp at hq
variable{K:St->Prop}{l:List (AO × List Nat)}
def akk{id:Nat}(hl:Ip P ops=U (l,hi))(h:cK P l [(st.au,st.out)] [] (Gs hi K) st):
 jd P (.region id ops aa) (λe aU => e = .normal/\K aU) st:=by
 obtain⟨b,F,nw,hf,wv,ajU,CQ,dd,eA,eI,eS,eO,eF⟩:=amA hl;have CP:=akh dd;intro E a hs;refine wp_region_any hf ?_;obtain⟨bw,_,oD⟩:=F8 hs ((Ext.refl E.w).drew);obtain⟨tr,ht,_,hK⟩:=Jm (t:=st.t) (s:=(st.au,st.out)) h;have uR:[(st.au,st.out)]++kR tr=(st.au,st.out)::kR tr:=rfl;rw[uR] at ht;have hlen:=GM ht;generalize hnA:gO ops=nA at *;generalize hhF:(tQ ops).isSome=hF at *;have avf:nA+3<ops.size:=by rw[<-dd];split<;>omega
 have hoA:ops[nA]?=U (ops.getD nA default):=by
  rw[mC (by omega)];simp[show nA<ops.size by omega]
 -- the tail's steps in the run say nothing
 have T6:∀r∈tr.drop nA,r.val = .any/\r.bC=false:=λr hr=>by
  obtain⟨j,hj⟩:=YV.1 hr;rw[vE] at hj;have sJ:nA+j<ops.size:=by rw[<-F.size,hlen];exact(fw.1 hj).1
  obtain⟨ms,hm⟩:=ajU (nA+j) _ (by omega) (mC sJ);obtain⟨_,e2,run,e3,e4,_⟩:=GN (i:=0) (k:=nA+j) ht hm hj;simp only[dummy] at e3;subst e3;obtain⟨e5,_⟩:=e4 rfl;simp only[dummy,aV.bq,Exact,ev] at e5;exact⟨e5.1.symm,e2⟩
 have Mt:∀{E' : Env} {us:List Value},RL E' (runT (tr.take nA) st.t) us->RL E' (runT tr st.t) us:=λ{E' us} h=>by
  have e:runT tr st.t=runT (tr.drop nA) (runT (tr.take nA) st.t):=by rw[<-W_,pA]
  rw[e];exact W9 (λr hr=>(T6 r hr).1) h
 have T0:dY tr (st.au,st.out)=dY (tr.take nA) (st.au,st.out):=by
  have e:dY tr (st.au,st.out)=dY (tr.drop nA) (dY (tr.take nA) (st.au,st.out)):=by rw[<-W5,pA]
  rw[e];exact W4 (λr hr=>(T6 r hr).2)
 -- what the tail asks
 obtain⟨D,ll,c,t',j,es,ez,RQ,iP,tU,wB,fG,pS,h9,ec,S_,p,hp,nN,tR,hKK⟩:=hK;generalize TW:(⟨r7 hi (cq (runT tr st.t) (dY tr (st.au,st.out))).t,(cq (runT tr st.t) (dY tr (st.au,st.out))).au,(cq (runT tr st.t) (dY tr (st.au,st.out))).out⟩:St)=s1 at es ez RQ tU wB fG pS h9 ec S_ hp tR;have Ba:s1.t=r7 hi (runT tr st.t):=by rw[<-TW];rfl
 have TX:s1.au=(dY tr (st.au,st.out)).1/\s1.out=(dY tr (st.au,st.out)).2:=by rw[<-TW];exact⟨rfl,rfl⟩
 have wj:hF=aa->∃off,hi.fo=U off:=λhq=>by
  obtain⟨_,_,_,_,q3⟩:=CQ.out;rw[CP,aI hq] at q3;obtain⟨off,h1,_⟩:=q3;exact⟨off,h1⟩
 have h9' : hi.d9<(runT tr st.t).length:=by rw[Ba,Pu] at h9;exact h9
 have ajy : hi.d10<(runT tr st.t).length:=by rw[Ba,Pu] at ec;exact ec
 have T:TF P ops hi nA hF D ll (aZ (ev s1 hi.x).cells) p s1:=by
  refine⟨by rw[CP] at CQ;exact CQ,dd,eI,eS,eO,λhq=>?_,⟨j,RQ⟩,tU,wB,fG,pS,rfl,by rw[Ba];exact at6 h9',by rw[Ba];exact at5 ajy,λhq=>?_,hp,⟨nN,tR⟩⟩
  .rw[aI hq] at CP;exact eF _ CP
  .obtain⟨off,ho⟩:=wj hq
   have:=S_ (by rw[ho];rfl)
   rw[Ba,Pu] at this;rw[Ba];exact at7 ho this
 let Q' : Exit->Act->World->Prop:=λe a' w' => ∃E' aU,E'.w=w' /\ bQ E' aU a' /\ Fr E E' /\ e = .normal/\K aU
 -- the end
 have fin:∀(listed:Array Bool) (a:Act) (w:World),Tl ops hi nA D ll (aZ (ev s1 hi.x).cells) p hF E s1.t s1 listed a w->(∀j,j<ops.size->listed.getD j aq=aa)->Q' .normal a w:=λlisted a w h cT=>by
  obtain⟨E',aU,bk,cap,h1,h2,h3,h4,_,_,_,_,h5,h6⟩:=h.rel;rw[cT _ (by omega),cT _ (by omega)] at h6;simp only[cH] at h6;have h5:=h5 (cT _ (by omega));have aks : dU ⟨s1.t,s1.au,s1.out.ba D (ll.length+1)⟩ 1 (.sl (.tk D) hi.k (ll++[aZ (ev s1 hi.x).cells])) p=U ⟨nN.t,nN.au,nN.out.ba D (ll.length+1)⟩:=by rw[O5,tR];rfl
  have h7:R E' (.sl (.tk D) hi.k (ll++[aZ (ev s1 hi.x).cells])) (.slice (U ⟨bk,0,ah⟩) (ll.length+1) cap):=by
   simp only[R] at h5 ⊢;exact h5
  exact⟨E',_,h1,asD h6 aks h5 rfl h7 h3,h2,rfl,hKK⟩
 have LJ:∀(listed:Array Bool) (i:Nat),listed.size=ops.size->i∈Region.ready .any ops listed->∀fuel,listed.toList.count aq<=fuel+1->(listed.setIfInBounds i aa).toList.count aq<=fuel:=λlisted i dd hi fuel hc=>by
  obtain⟨h1,o,ho,_⟩:=mem_ready.1 hi;have an:i<listed.size:=by rw[dd];exact(lr.1 ho).1
  have e:listed.toList[i]?=U false:=by
   have:listed[i]?=U false:=by
    rw[mC an];simpa [an] using h1
   simpa using this
  have:=count_set listed.toList i e
  simp only[PS];omega
 have HJ:∀(listed:Array Bool),listed.size=ops.size->Region.ready .any ops listed=[]->∀n j,j<n->j<ops.size->listed.getD j aq=true:=λlisted dd hr n=>by
  induction n with
  | zero=>intro j h;omega
  | succ n ih =>
   intro j hj mb;cases hq:listed.getD j aq with
   | true=>rfl
   | false =>
    have:j∈Region.ready .any ops listed:=mem_ready.2 ⟨by rw[Ho _ _ (by rw[dd];exact mb)];exact hq,ops[j],mC mb,λe he hb=>by
     have:=F.back j _ (mC mb) e he hb
     exact ih e.on (by omega) (by omega)⟩
    rw[hr] at this;simp at this
 have hzero:∀(listed:Array Bool),listed.size=ops.size->listed.toList.count aq<=0->Region.ready .any ops listed=[]:=λlisted dd hc=>by
  cases hq:Region.ready .any ops listed with
  | nil=>rfl
  | cons j js =>
   obtain⟨h1,o,ho,_⟩:=mem_ready.1 (show j∈Region.ready .any ops listed by rw[hq];simp);have an:j<listed.size:=by rw[dd];exact(lr.1 ho).1
   have:aq∈listed.toList:=by
    have e:listed[j]?=U false:=by
     rw[mC an];simpa [an] using h1
    exact tq (by simpa using e)
   have:=List.count_pos_iff.2 this
   omega
 -- the tail,in every order
 have tail:∀(fuel:Nat) (listed:Array Bool) (a:Act) (w:World),Tl ops hi nA D ll (aZ (ev s1 hi.x).cells) p hF E s1.t s1 listed a w->listed.toList.count aq<=fuel->wpAny P .any ops Q' fuel listed a w:=by
  intro fuel;induction fuel with
  | zero =>
   intro listed a w h hc;have hr:=hzero listed h.size hc;exact⟨hr,fin listed a w h λj hj=>HJ listed h.size hr (j+1) j (by omega) hj⟩
  | succ fuel ih =>
   intro listed a w h hc;refine⟨λhr=>fin listed a w h λj hj=>HJ listed h.size hr (j+1) j (by omega) hj,λi eg => ?_⟩;exact asR T h eg λa w h' => ih _ a w h' (LJ listed i h.size eg fuel hc)
 -- what comes before
 have key:∀(fuel:Nat) (listed:Array Bool) (a:Act) (w:World),D5 ops tr st.t (st.au,st.out) E (λ_ _ _=>True) listed a w->(∀j,nA<=j->listed.getD j aq=aq)->listed.toList.count aq<=fuel->wpAny P .any ops Q' fuel listed a w:=by
  intro fuel;induction fuel with
  | zero =>
   intro listed a w h hn hc;have hr:=hzero listed h.size hc
   have:=HJ listed h.size hr (nA+1) nA (by omega) (by omega)
   rw[hn nA (b7 _)] at this;simp at this
  | succ fuel ih =>
   intro listed a w h hn hc;refine⟨λhr=>?_,λi eg => ?_⟩
   .have:=HJ listed h.size hr (nA+1) nA (by omega) (by omega)
    rw[hn nA (b7 _)] at this;simp at this
   obtain⟨zp,o,ho,cT⟩:=mem_ready.1 eg;have aj6:i<ops.size:=(lr.1 ho).1;have A2 : i<listed.size:=by rw[h.size];exact aj6
   rcases Ao i nA with an | rfl | hgt
   .refine RJ F nw rfl ht h eg (λo ho=>let ⟨x,h1,h2⟩:=wv i o an ho;⟨x,h1,.inl ⟨h2,λ_ _ _ _ _ _ _=>trivial⟩⟩) λa w h' => ih _ a w h' (λj hj=>?_) (LJ listed i h.size eg fuel hc)
    rw[zT A2,aw (by omega)];exact hn j hj
   ·-- the row grows
    have mL:=zI ho;have wy:∀j,j<i->listed.getD j aq=true:=λj hj=>by
     have:=eA j hj
     rw[mL] at this;obtain⟨e,h1,h2,h3⟩:=Hz this;rw[<-h3];exact cT e h1 h2
    obtain⟨E1,rfl,dQ,zf,_⟩:=h.rel;have hS:∀j,(λj=>listed.getD j aq) (0+j)=decide (0+j<i):=λj=>by
     rw[j7]
     by_cases hj:j<i
     .simp only[hj,bL];exact wy j hj
     .simp only[hj,c9];exact hn j (by omega)
    rw[Xo hS,Nat.sub_zero] at dQ;have Fc:bQ E1 s1 a:=by
     refine⟨?_,?_,dQ.defers,?_⟩
     .rw[TX.2,T0];exact dQ.ok
     .rw[TX.1,T0];exact dQ.du
     .rw[Ba];exact aua (Mt dQ.slot)
    obtain⟨c',t,u,e,inf,z,vp,vA,xZ,yu,q1,q2,q3,q4,q5,q6,q7,q8,q9,BJ,q11,q12,q13,_⟩:=CQ.app;rw[mL] at q1;have hg:=CQ.guard.1;rw[mL] at hg;have l7:=CQ.dst.1;rw[mL] at l7;unfold wpOp;rw[ho];simp only;rw[Gf hg,aI rfl];left;have dx:(execOp a.eval o).run P E1.w=((Builtin.append_ #[t,u] o.type #[a.eval vp,a.eval vA]).run P E1.w).andThen λv w' => .ok (.value v) w' := by
     simp[execOp,q1,q2,q3,q4,resolve,invoke,builtin]
    have Tn:=nG (E:=E1) (st:=s1) (a:=a) Fc.slot q12;have Tq:=nG (E:=E1) (st:=s1) (a:=a) Fc.slot q13;rw[es] at Tn;rw[ez] at Tq;obtain⟨news,r1,r2,r3,r4⟩:=I9 (P:=P) q6 Tq;obtain⟨i',zv,k1,k2,k3,k4⟩:=uq q8;rw[q7] at k1;simp only[bg] at k1;subst k1;have jo:zv.cells.size=inf.size:=by have:=gb (sr (E:=E1) k3);simp at this;omega
    obtain⟨bk,cap,E2,m1,m2,m3,m4,m5⟩:=aki (P:=P) Fc q5 q7 k2 jo q9 dx (by rw[BJ];exact Tn) (by rw[BJ];exact r1) r3 iP (Fc.ok.aY D _ tU);unfold Oper.wp;rw[m2];have EW:s1.t.length=a.tmps.size:=by have:=gb Fc.slot;simpa using this
    have Tu:hi.d9<a.tmps.size:=by rw[<-EW];exact h9
    refine tail fuel _ _ _ ⟨by simp[h.size],λj hj=>?_,E2,s1,bk,cap,rfl,zf.trans m3,?_,rfl,?_,?_,?_,?_,?_,?_⟩ (LJ listed i h.size eg fuel hc)
    .rw[zT A2];split
     .rfl
     .exact wy j (by omega)
    .rw[l7]
     have:=bQ.put m4 (v:=.any) (x:=.slice (U ⟨bk,0,ah⟩) (ll.length+1) cap) (by simp[R]) (U hi.d9)
     have e:s1.put (U hi.d9) .any=s1:=by
      simp only[St.put];rw[Xu T.d9]
     rw[e] at this;exact this
    .rw[l7,BI Tu,aI rfl]
    .intro h1;rw[zT A2,aw (by omega),hn _ (by omega)] at h1;simp at h1
    .intro _ h1;rw[zT A2,aw (by omega),hn _ (by omega)] at h1;simp at h1
    .intro _;rw[<-BJ];exact m1
    .intro h1;rw[zT A2,aw (by omega),hn _ (by omega)] at h1;simp at h1
    .have z1:(listed.setIfInBounds i aa).getD (ops.size - 1) aq=false:=by rw[zT A2,aw (by omega)];exact hn _ (by omega)
     have z2:(listed.setIfInBounds i aa).getD (i+2) aq=false:=by rw[zT A2,aw (by omega)];exact hn _ (by omega)
     rw[z1,z2];simp
   .exfalso
    have mL:=zI ho;have ajX:kq o nA=true:=by
     rw[<-mL]
     by_cases h1:i=nA+1
     .rw[h1];exact eI
     by_cases h2:i=nA+2
     .rw[h2];exact eS.1
     by_cases h3:i=ops.size - 1
     .rw[h3];exact eO
     have sD:hF=true:=by
      cases hq:hF with
      | true=>rfl
      | false=>rw[hq] at dd;simp at dd;omega
     have h4:i=nA+3:=by rw[sD] at dd;simp at dd;omega
     rw[aI sD] at CP;rw[h4];exact(eF _ CP).1
    obtain⟨e,h1,h2,h3⟩:=Hz ajX
    have:=cT e h1 h2
    rw[h3,hn nA (b7 _)] at this;simp at this
 have zm:∀j,(Array.replicate ops.size aq).getD j aq=false:=λj=>by
  by_cases hj:j<ops.size<;>simp[hj]
 have mg:∀(tr:List TR) (q:Nat),cW (λj=>(Array.replicate ops.size aq).getD j aq) q tr=[]:=by
  intro tr;induction tr with
  | nil=>intro q;rfl
  | cons r tr ih=>intro q;rw[cW,aw (by rw[zm];simp)];exact ih _
 refine key ops.size _ a _ ⟨by simp,λi o _ hi=>by rw[zm] at hi;simp at hi,{E with w:=E.w.drew},rfl,?_,bw,trivial⟩ (λj _=>zm j) (by simp);rw[mg];exact oD
end
section
variable {P:Program} {E:Env} {st:St} {a:Act} {o:Oper} {K:V->St->Prop} {Q:Exit->Act->World->Prop}
def Env.hH(E:Env)(b:Nat):Env:={E with bj:=λx=>if x=b then .const else E.bj x}
def aiX{cs:List V}(hs:bQ E st a)(hb:st.out.box b=U cs):
 Fr E (E.hH b)/\bQ (E.hH b) ⟨st.t,st.au,st.out.del b⟩ a/\∀(j:Nat) x,cs[j]?=U x->∃v,(E.hH b).w.cell? ⟨b,j,ah⟩=U v/\((E.hH b).bj b).iM j/\R (E.hH b).nl x v:=by
 obtain⟨dX,c,e,hc,hlen,pO⟩:=hs.ok.box b cs hb;have hc:E.w.heap[b]?=U (.cells c e (0,0)):=hc;have bh:∀b',E.bj b' ≠ .qS->b' ≠ b:=λb' h e=>h (by rw[e];exact dX)
 have jB:∀b',b' ≠ b->(E.hH b).bj b' = E.bj b' := λb' h=>by simp[Env.hH,h]
 have an:=lb (w:=E.w) hc;have bw:Fr E (E.hH b):=by
  refine⟨rfl,rfl,rfl,b7 _,λ_=>rfl,λb' o c' rz hv=>?_,λt n h=>⟨n,h,b7 _,λ_ b' c' hr=>⟨?_,λcs e b9=>⟨cs,b9,rfl⟩⟩⟩,λb' _ hr=>⟨rfl,?_⟩,λb' _ h=>?_,λb' t c' _ h=>?_,λb' i _ h=>?_,λb' c' e h=>⟨c',h,rfl⟩⟩
  .have:b' ≠ b:=bh b' (λe=>by rw[e] at rz;exact rz)
   exact⟨by rw[jB b' this];exact rz,hv⟩
  .rw[jB b' (bh b' (by rw[hr];simp))];exact hr
  .rw[jB b' (bh b' (by rcases hr with h | h<;>rw[h]<;>simp))]
  .by_cases e:b' = b
   .rw[e];exact .inl dX
   .rw[jB _ e] at h;exact .inl h
  .by_cases e:b' = b
   .rw[e] at h;simp[Env.hH] at h
   .rw[jB _ e] at h;exact⟨c',h⟩
  .by_cases e:b' = b
   .rw[e] at h;simp[Env.hH] at h
   .rw[jB _ e] at h;exact⟨i,h⟩
 have hle:E.le (E.hH b):=bw.le λi b h=>h
 refine⟨bw,⟨⟨λb' cs' h=>?_,hs.ok.aY,λb' cn => ?_,hs.ok.nt,λb cs hc=>eW.mono _ bw.nl (hs.ok.cQ b cs hc)⟩,qT hs.du hle (λb' i h _=>⟨by rw[jB b' (bh b' (by rw[h];simp))];exact h,rfl⟩) hs.du.none,hs.defers,RL.mono _ hle hs.slot⟩,λj x hx=>?_⟩
 .simp only[ab.del] at h;split at h
  .simp at h
  .rename_i A9;obtain⟨h1,h2⟩:=hs.ok.box b' cs' h;exact⟨by rw[jB b' A9];exact h1,jM.mono hle.nl rfl h2⟩
 .have cn : E.w.heap.size<=b' := cn;rw[jB b' (by omega)];exact hs.ok.fresh b' cn
 .obtain⟨v,hv,hr⟩:=pO j x hx;refine⟨v,?_,by simp[Env.hH,fz.iM],R.mono x bw.nl hr⟩;show E.w.cell? ⟨b,j,ah⟩=U v;simp[World.cell?,hc,hv]
def po(s:List UInt8):List Value:=s.map λb=>Value.int .u8 b.toNat
variable{base:Option Addr}
def Wt{Z:ab}{s:List UInt8}(cc:E.ok Z)(h:IQ Z base n s){w0:World}(hw:w0.heap=E.w.heap):
 n=0/\s=[]\/∃b off,base=U ⟨b,off,ah⟩/\(loadCells ⟨b,off,ah⟩ n).run P w0 = .ok (po s).toArray w0:=by
 obtain⟨hl,h⟩:=h
 rcases h with rfl | ⟨b,off,cs,rfl,hb,b9⟩
 .exact .inl ⟨rfl,vG.1 hl⟩
 .right;obtain⟨_,c,e,hc,hlen,pO⟩:=cc.box b cs hb;have hc:w0.heap[b]?=U (.cells c e (0,0)):=by rw[hw];exact hc
  refine⟨b,off,rfl,?_⟩
  have:=run_loadCells_list (P:=P) w0 ⟨b,off,ah⟩ (po s) (λj u hu=>by
   rw[lS];simp only[po,vF,dB] at hu;obtain⟨x,hx,rfl⟩:=hu;have hj:j<n:=by rw[<-hl];exact(fw.1 hx).1
   have hcj:cs[off+j]?=U (.int .u8 x.toNat):=by
    have:=jR (λl:List V=>l[j]?) b9
    simp only[vF,hx,uz,yG hj,vE] at this;exact this
   obtain⟨v,h1,h2⟩:=pO (off+j) _ hcj;simp only[R] at h2;simp[World.cell?,hc,h1,h2])
  rw[show(po s).length=n by simp[po,hl]] at this;exact this
variable{e u:TypeId}
def asx{s:List UInt8}(cc:E.ok st.out)(h:IQ st.out base n s)(hu:P.underlying u=U (.slice e)):
 Src P E.w 1 (dW s).length u (.slice base n cap) (po s)/\RL E.nl (dW s).flatten (po s)/\(∀v∈po s,v.oneCell' = aa)/\∀y∈dW s,y.length=1:=by
 have hl:=h.1;have hlen:(dW s).length=n:=by simp[dW,hl]
 have cell:∀w0:World,w0.heap=E.w.heap->(Builtin.firstCells 1 n (.slice base n cap)).run P w0 = .ok (po s).toArray w0:=λw0 hw=>by
  rcases Wt (P:=P) cc h hw with ⟨rfl,rfl⟩ | ⟨b,off,rfl,hr⟩
  .cases base<;>simp[Builtin.firstCells,loadCells,loadCellsFrom,po]
  .simp only[Builtin.firstCells,qw];exact hr
 refine⟨⟨⟨_,hu,λ_ h=>by simp at h⟩,λw' => by simp[Builtin.lenOf,hlen],?_,?_,by simp[po,dW]⟩,?_,?_,?_⟩
 .rw[hlen];exact cell E.w rfl
 .rw[hlen];exact cell E.w.drew rfl
 .rw[KH];clear hl hlen cell h;induction s with
  | nil=>simp[RL,po]
  | cons b s ih=>simp only[dz,RL,R,po] at ih ⊢;exact⟨trivial,ih⟩
 .intro v hv;simp only[po,qv] at hv;obtain⟨b,_,rfl⟩:=hv;rfl
 .intro y hy;simp only[dW,qv] at hy;obtain⟨b,_,rfl⟩:=hy;rfl
variable{t:TypeId}
def arI{lo hi:Option Operand}{nD eg : Option X}(hs:bQ E st a)(h1:la P t lo=U nD)(h2:la P t hi=U eg){len:Nat}
 (dT:match (generalizing:=false) nD with | none=>m=0 | some y=>∃j,ev st y = .int j m) (nz:match (generalizing:=false) eg with | none=>n=len | some y=>∃j,ev st y = .int j n) (sL:m<=n) (rG:n<=len) :
 (Instr.sliceBounds aq len len (lo.map a.eval) (hi.map a.eval) ah).run P E.w = .ok (m,n,len) E.w:=by
 rcases ml (E:=E) hs.slot h2 with ⟨rfl,rfl⟩ | ⟨u,v,rfl,rfl,hr⟩
 .simp only at nz;subst nz
  rcases ml (E:=E) hs.slot h1 with ⟨rfl,rfl⟩ | ⟨u',v',rfl,rfl,cL⟩
  .simp only at dT;subst dT;simp[Instr.sliceBounds]
  .obtain⟨j',gF⟩:=dT;rw[gF] at cL;simp only[R] at cL;have e2:=rU (P:=P) (w:=E.w) (j:=j') (c:=.sliceB) sL;simp[Instr.sliceBounds,cL,e2]
 .obtain⟨j,hj⟩:=nz;rw[hj] at hr;simp only[R] at hr;have e2:=rU (P:=P) (w:=E.w) (j:=j) (c:=.sliceAlen) rG
  rcases ml (E:=E) hs.slot h1 with ⟨rfl,rfl⟩ | ⟨u',v',rfl,rfl,cL⟩
  .simp only at dT;subst dT;simp[Instr.sliceBounds,hr,e2]
  .obtain⟨j',gF⟩:=dT;rw[gF] at cL;simp only[R] at cL;have e3:=rU (P:=P) (w:=E.w) (j:=j') (c:=.sliceB) sL;simp[Instr.sliceBounds,hr,cL,e2,e3]
def NI(P:Program)(o:Oper):Option aV :=
 match o.op with
 | .slice t x lo hi ah =>
  match c7 P t x,la P t lo,la P t hi with
  | some y, U nD, U eg =>
   match P.underlying t with
   | some (.array m e)=>(eT P e).map λk=>.own (.I6 m k nD.isSome eg.isSome) (y::(nD.toList++eg.toList))
   | some (.slice e)=>if eT P e=U 1 then U (.own (.hH 1 nD.isSome eg.isSome) (y::(nD.toList++eg.toList))) else ah
   | _=>ah
  | _,_,_=>ah
 | .buildSlice t len ps =>
  match P.underlying t with
  | some (.slice e) =>
   match eT P e,kh P e,jF P (aj len e) (ps.toList.map (·.2)) with
   | some k,U _,U xs=>if ps.toList.map (·.1)=bG len/\len*k<=16777216 then U (.own (.new k) xs) else ah
   | _,_,_=>ah
  | _=>ah
 | .convert src dst x =>
  match P.underlying src,P.underlying dst,c7 P src x with
  | some (.slice e),U .string,U y=>match P.underlying e with | some (.int .u8)=>U (.own .Ky [y]) | _=>ah
  | _,_,_=>ah
 | .call c =>
  match c.callee with
  | .builtin .append =>
   match c.argTypes.toList,c.args.toList with
   | [t, u], [s, x] =>
    match P.underlying t,c7 P t s,c7 P u x with
    | some (.slice e), U s', U x' =>
     match P.info? e,kh P e with
     | some i, U _ =>
      if i.size=1/\i.bytes<=4096 then
       match P.underlying u with
       | some .string=>U (.own .nV [s',x'])
       | some (.slice _)=>U (.own .Ka [s',x'])
       | _=>ah
      else ah
     | _,_=>ah
    | _,_,_=>ah
   | _,_=>ah
  | _=>ah
 | _=>ah
def auu(hs:bQ E st a){len:Nat}{parts:Array (Nat × Operand)}{z:List V}(ho:o.op = .buildSlice t len parts)(ht:P.underlying t=U (.slice e))(hn:eT P e=U k)(hz:kh P e=U z)
 (hr:parts.toList.map (·.1)=bG len) (dd:len*k<=16777216) {l:List (List V)}
 (hf:(parts.toList.map (·.2)).length=len/\l.length=len/\(∀x∈parts.toList.map (·.2),(a.eval x).cells.size=k)/\(∀y∈l,y.length=k)/\RL E.nl l.flatten ((parts.toList.map (·.2)).map λx=>(a.eval x).cells.toList).flatten/\∀v∈((parts.toList.map (·.2)).map λx=>(a.eval x).cells.toList).flatten,v.oneCell' = aa)
 (hk:∀b,st.out.box b=ah->K (V.raw (.slice (U ⟨b,0,ah⟩) l.length l.length)) ⟨st.t,st.au,st.out.set b l.flatten⟩):o.wp P a E.w (eC E a o.dst K) Q:=by
 obtain⟨k1,k2,k3,k4,k5,k6⟩:=hf;obtain⟨i,zv,h1,h2,h3,h4⟩:=uq hz;have hlen:parts.toList.length=len:=by simpa using k1
 let ps:List (Nat × Value):=parts.toList.map λ(i,x)=>(i,a.eval x)
 have Mi:ps.map (·.1)=List.range' 0 ps.length:=by
  have:ps.map (·.1)=parts.toList.map (·.1):=by simp[ps,Gq]
  rw[this,hr,vH];congr 1;simp[ps];simpa using hlen.symm
 have Mj:(ps.map λp=>p.2.cells.toList)=(parts.toList.map (·.2)).map λx=>(a.eval x).cells.toList:=by simp[ps,Gq]
 have cT:∀p∈ps,p.2.cells.size=k:=λp hp=>by
  simp only[ps,qv] at hp;obtain⟨q,hq,rfl⟩:=hp;exact k3 q.2 (qv.2 ⟨q,hq,rfl⟩)
 have me:ps.length=len:=by simp[ps];simpa using hlen
 have fill:∀cells:Array Value,cells.size=len*k->Instr.fill (λi=>U (i*k,k)) cells ps=U ((parts.toList.map (·.2)).map λx=>(a.eval x).cells.toList).flatten.toArray:=λcells hc=>by
  have:=KP ps 0 cells Mi cT (by rw[me];simpa using hc)
  rw[this,Mj];simp
 generalize tP:((parts.toList.map (·.2)).map λx=>(a.eval x).cells.toList).flatten=news at fill k5 k6;refine PD hs (w1:=E.w) (Ext.refl _) rfl (x:=.slice (U ⟨E.w.heap.size,0,ah⟩) len len) (v:=λb=>.raw (.slice (U ⟨b,0,ah⟩) l.length l.length)) (zs:=l.flatten) (c:=news.toArray) (e:=e) ?_ (by simpa using k5) (by simp only[R,k2]) rfl hk;have jo:(zeroValue e).run P E.w = .ok zv E.w:=by simp[zeroValue,typeInfo,h1,h2]
 have E_:(parts.map λ(i,x)=>(i,a.eval x)).toList=ps:=by simp[ps]
 have zo : ¬(16777216<len*k):=by omega
 simp only[execOp,ho,Sem.run_bind];have key:(Instr.buildSlice t len (parts.map λ(i,x)=>(i,a.eval x))).run P E.w = .ok (.slice (U ⟨E.w.heap.size,0,ah⟩) len len) (E.w.alloc (.cells news.toArray e)):=by
  unfold Instr.buildSlice;simp only[Sem.run_bind,run_underlying ht,Result.andThen_ok,pk hn];rw[aw (by simpa using zo)];rw[E_]
  by_cases h0:len*k=0
  .rw[aI h0];simp only[Sem.run_bind,Sem.run_pure,Result.andThen_ok];rw[fill _ (by simp)];simp[newRow]
  .rw[aw h0];simp only[Sem.run_bind,jo,Result.andThen_ok,Sem.run_pure];rw[fill _ (by simp)];simp[newRow]
 rw[key];rfl
variable{ao:aV}
def aoV(hl:NI P o=U ao)(hs:bQ E st a)(h:ao.bq P st K):o.wp P a E.w (eC E a o.dst K) Q:=by
 have X:=λ{t:TypeId} {x:Operand} {y:X} (hx:c7 P t x=U y)=>nG (E:=E) (st:=st) (a:=a) hs.slot hx
 unfold NI at hl;split at hl
 .rename_i t x lo hi ho;split at hl
  case h_2=>simp at hl
  rename_i y nD eg h1 h2 h3;have hx:=X h1;split at hl
  .rename_i m e ht;simp only[dB] at hl;obtain⟨k,hk,rfl⟩:=hl;simp only[aV.bq,dw] at h;unfold OQ.bq at h;split at h<;>try (exfalso;simp_all;done)
   .rename_i m0 k0 b1 b2 b off vs e1 e2;simp only[OQ.I6.injEq] at e1;obtain⟨rfl,rfl,rfl,rfl⟩:=e1;simp only[iJ] at e2;obtain⟨e2,rfl⟩:=e2;rw[e2] at hx;simp only[R] at hx;rw[Hf] at h;obtain⟨l,h,g1⟩:=Ax h;rw[<-eM (dw st eg.toList)] at h;obtain⟨hh,h,g2⟩:=Ax h;obtain⟨_,k1,k2,h⟩:=h;have hb:=arI (P:=P) hs h2 h3 g1 g2 k1 k2;refine dv hs (v:=.raw _) (x:=.slice (U (if m=l then ⟨b,off,ah⟩ else ⟨b,off+l*k,ah⟩)) (hh - l) (m - l)) ?_ (by simp only[R]) h;simp only[execOp,ho,Sem.run_bind,hx];simp[Instr.sliceAt,run_underlying ht,Instr.sureAddr,hb,pk hk,lS]
  .rename_i e ht;split at hl
   case isFalse=>simp at hl
   rename_i hk;simp only[bg] at hl;subst hl;simp only[aV.bq,dw] at h;unfold OQ.bq at h;split at h<;>try (exfalso;simp_all;done)
   .rename_i k0 b1 b2 b off n cap vs e1 e2;simp only[OQ.hH.injEq] at e1;obtain⟨rfl,rfl,rfl⟩:=e1;simp only[iJ] at e2;obtain⟨e2,rfl⟩:=e2;rw[e2] at hx;simp only[R] at hx;rw[Hf] at h;obtain⟨l,h,g1⟩:=Ax h;rw[<-eM (dw st eg.toList)] at h;obtain⟨hh,h,g2⟩:=Ax h;obtain⟨_,k1,k2,_,cs,AU,hlen,fG,pS,h⟩:=h;have hb:=OL (P:=P) (mx:=none) (mx' := ah) (M:=cap) hs h2 h3 rfl (by simp) g1 g2 rfl k1 k2 (b7 _);obtain⟨hf,dQ,hc⟩:=aiX hs AU;unfold Oper.wp;rw[show(execOp a.eval o).run P E.w = .ok (.value (.slice (if cap=l then U ⟨b,off,ah⟩ else U ⟨b,off+l,ah⟩) (hh - l) (cap - l))) E.w by
     simp only[execOp,ho,Sem.run_bind,hx];simp only[Option.map_none] at hb;simp[Instr.sliceAt,run_underlying ht,Instr.slice,hb,pk hk,lS]]
    refine⟨E.hH b,_,_,⟨st.t,st.au,st.out.del b⟩,rfl,hf,dQ,?_,rfl,h⟩;have fH:(Cp (((cs.drop off).take hh).drop l)).length=hh - l:=by simp[Cp];omega
    simp only[R];refine⟨_,_,by rw[fH],by rw[fH];omega,?_,trivial⟩
    by_cases hz:hh=l
    .left;exact vG.1 (by rw[fH];omega)
    .right;refine⟨b,off+l,by rw[aw (by omega)],?_⟩;have key:∀(xs:List V) (p:Nat),(∀(j:Nat) x,xs[j]?=U x->cs[p+j]?=U x)->c8 xs=aa->gm (E.hH b).nl 1 (Cp xs) b p:=by
      intro xs;induction xs with
      | nil=>intro p _ _;simp[Cp,gm]
      | cons x xs ih =>
       intro p hp E5;simp only[c8,b_] at E5;simp only[Cp,dz,gm,eW];obtain⟨v,v1,v2,v3⟩:=hc p x (by have:=hp 0 x rfl;simpa using this);refine⟨rfl,⟨⟨v,v1,v2,zG (E:=(E.hH b).nl) (xs:=[x]) (vs:=[v]) (by simp only[RL];exact⟨v3,trivial⟩) (by simp[c8,E5.1]) v (by simp),by simpa using v3⟩,trivial⟩,?_⟩;refine ih (p+1) (λj y hy=>?_) E5.2
       have:=hp (j+1) y (by simpa using hy)
       rwa [show p+1+j=p+(j+1) by omega]
     refine key _ _ (λj x j_ => ?_) fG;rw[vE,yG (by
      have:=(fw.1 j_).1
      simp at this;omega),vE] at j_
     rwa [show off+l+j=off+(l+j) by omega]
  .simp at hl
 .rename_i t len ps ho;split at hl
  case h_2=>simp at hl
  rename_i e ht;split at hl
  case h_2=>simp at hl
  rename_i k z xs hk hz qM;split at hl
  case isFalse=>simp at hl
  rename_i hc;simp only[bg] at hl;subst hl;simp only[aV.bq] at h;unfold OQ.bq at h;split at h<;>try (exfalso;simp_all;done)
  .rename_i k0 vs e1;simp only[OQ.new.injEq] at e1;subst e1;obtain⟨l,h1,rG,h2⟩:=h;exact auu hs ho ht hk hz hc.1 hc.2 (Ni (E:=E) hs.slot qM h1) h2
 .rename_i src dst x ho;split at hl
  case h_2=>simp at hl
  rename_i e y h1 h2 h3;split at hl
  case h_2=>simp at hl
  rename_i h4;simp only[bg] at hl;subst hl;have hx:=X h3;simp only[aV.bq,dw] at h;unfold OQ.bq at h;split at h<;>try (exfalso;simp_all;done)
  .rename_i base n cap e1 e2;simp only[iJ,gM] at e2;rw[e2] at hx;simp only[R] at hx;obtain⟨s,ht,h⟩:=h;refine dv hs (v:=.aH s) (x:=.string ⟨s.toArray⟩) ?_ (by simp only[R]) h;have key:(Conv.bytesToString (a.eval x)).run P E.w = .ok (.string ⟨s.toArray⟩) E.w:=by
    rw[hx]
    rcases Wt (P:=P) hs.ok ht rfl with ⟨rfl,rfl⟩ | ⟨b,off,rfl,hr⟩
    .cases base with
     | none=>simp[Conv.bytesToString];rfl
     | some ad =>
      have:=run_bytesToString (P:=P) E.w ad 0 cap [] (by simp[loadCells,loadCellsFrom])
      simp at this ⊢;exact this
    .rw[show po s=(s.map λb=>(b.toNat:Int)).map (Value.int .u8) by simp[po]] at hr
     have:=run_bytesToString (P:=P) E.w ⟨b,off,ah⟩ n cap _ hr
     rw[this];have hp:=Oj s [];simp only[kN] at hp;exact jR (λz=>Result.ok (Value.string z) E.w) hp
   rw[hx] at key;simp only[execOp,ho,Sem.run_bind,hx];simp[convert,run_underlying h1,run_underlying h2,run_underlying h4,key]
 .rename_i c ho;obtain⟨callee,args,argTypes⟩:=c;simp only at hl;split at hl
  .split at hl
   case h_2=>simp at hl
   rename_i t u s x ht hx;have e1:argTypes=#[t,u]:=by cases argTypes;simpa using ht
   have e2:args=#[s,x]:=by cases args;simpa using hx
   subst e1;subst e2;split at hl
   case h_2=>simp at hl
   rename_i e s' x' hu dQ j_;split at hl
   case h_2=>simp at hl
   rename_i i z hi hz;split at hl
   case isFalse=>simp at hl
   rename_i hc;obtain⟨sH,ny⟩:=hc;obtain⟨i',z',q1,q2,q3,q4⟩:=uq hz;obtain rfl:i=i' := by rw[hi] at q1;simpa using q1
   have jo:z'.cells.size=i.size:=by have:=gb (sr (E:=E) q3);simp at this;omega
   have wz:=X dQ;have gh:=X j_;split at hl
   .rename_i Bd;simp only[bg] at hl;subst hl;simp only[aV.bq,dw] at h;unfold OQ.bq at h;split at h<;>try (exfalso;simp_all;done)
    .rename_i base n cap sx e1 e2;simp only[iJ,gM] at e2;obtain⟨e2,e3⟩:=e2;rw[e2] at wz;rw[e3] at gh;simp only[R] at wz gh;obtain⟨news,g1,g2,g3,g4⟩:=XG (P:=P) (E:=E.nl) (w:=E.w) Bd sx;refine PC hs hu hi q2 jo ny (ty:=o.type) (base:=base) (n:=n) (cap:=cap) (u:=u) (vx:=a.eval x) (m:=dW sx) (news:=news) ?_ ?_ g2 g3 ?_ ?_
     .simp[execOp,ho,resolve,invoke,builtin,wz]
     .rw[sH,gh];exact g1
     .rw[sH];exact g4
     .rw[sH];exact h
   .rename_i e' Bd;simp only[bg] at hl;subst hl;simp only[aV.bq,dw] at h;unfold OQ.bq at h;split at h<;>try (exfalso;simp_all;done)
    .rename_i base n cap Z_ n' pE e1 e2;simp only[iJ,gM] at e2;obtain⟨e2,e3⟩:=e2;rw[e2] at wz;rw[e3] at gh;simp only[R] at wz gh;obtain⟨sx,hr,h⟩:=h;obtain⟨g1,g2,g3,g4⟩:=asx (P:=P) (cap:=pE) hs.ok hr Bd;refine PC hs hu hi q2 jo ny (ty:=o.type) (base:=base) (n:=n) (cap:=cap) (u:=u) (vx:=a.eval x) (m:=dW sx) (news:=po sx) ?_ ?_ g2 g3 ?_ ?_
     .simp[execOp,ho,resolve,invoke,builtin,wz]
     .rw[sH,gh];exact g1
     .rw[sH];exact g4
     .rw[sH];exact h
   .simp at hl
  .simp at hl
 .simp at hl
variable{ty:TypeId}
def Yl(hs:bQ E st a){i:TypeInfo}(ht:P.underlying t=U (.slice e))(hi:P.info? e=U i){vx:Value}{xs:List V}
 (dx:(execOp a.eval o).run P E.w=((Builtin.copy_ #[t,u] ty #[.slice base n cap,vx]).run P E.w).andThen λv w' => .ok (.value v) w')
 {len:Nat} (hlen:(Builtin.lenOf vx).run P E.w = .ok len E.w) (hm:min len n=m) {news:List Value} (pO:(Builtin.firstCells i.size m vx).run P E.w = .ok news.toArray E.w)
 (tP:RL E.nl xs news) (fG:∀v∈news,v.oneCell' = aa) (dd:news.length=m*i.size)
 (hk:B5 st.out i.size base m xs λv Z=>K v ⟨st.t,st.au,Z⟩):o.wp P a E.w (eC E a o.dst K) Q:=by
 obtain⟨xI,qE⟩:=hk;have hm:Nat.min len n=m:=hm
 by_cases h0:m=0
 .subst h0
  have:news=[]:=sb (by simpa using dd)
  subst this;refine dv hs (v:=.int .i64 0) (x:=.int .i64 0) ?_ (by simp only[R]) (xI rfl);rw[dx];cases base<;>simp[Builtin.copy_,run_underlying ht,sizeOf,typeInfo,hi,hlen,hm,pO,storeCells,goInt]
 .obtain⟨b,off,cs,rfl,pN,pP,hK⟩:=qE h0;obtain⟨dX,c,e',fk,hln,hc⟩:=hs.ok.box b cs pN;have fk:E.w.heap[b]?=U (.cells c e' (0,0)):=fk;have xT:=gb tP;have LQ : off+news.length<=c.size:=by omega
  have fv:=run_storeCells_at (P:=P) b off e' news 0 c E.w fk (by simpa using LQ) fG;simp only[vJ] at fv;have jV:(Builtin.copy_ #[t,u] ty #[.slice (U ⟨b,off,ah⟩) n cap,vx]).run P E.w = .ok (.int .i64 m) (E.w.setRow b (c.toList.take off++news++c.toList.drop (off+news.length)).toArray):=by
   simp[Builtin.copy_,run_underlying ht,sizeOf,typeInfo,hi,hlen,hm,pO,fv,goInt]
  have bw:=Hk (E:=E) (new:=(c.toList.take off++news++c.toList.drop (off+news.length)).toArray) fk (.inr dX) (by simp;omega);have hle:=bw.le λ_ _ h=>h
  have h_:=setRow_heap E.w b c (c.toList.take off++news++c.toList.drop (off+news.length)).toArray e' _ fk;have AU:=G1 (E' := Env.nl {E with w:=E.w.setRow b (c.toList.take off++news++c.toList.drop (off+news.length)).toArray}) hln
   (λj x hj=>let ⟨u,h1,h2⟩:=hc j x hj;⟨u,h1,h2.mono _ bw.nl⟩) (RL.mono _ bw.nl tP) (by omega) h_
  generalize (c.toList.take off++news++c.toList.drop (off+news.length)).toArray=new at jV h_ bw hle AU;have iX : ∀b',b' ≠ b->(E.w.setRow b new).heap[b']?=E.w.heap[b']?:=λb' bh=>setRow_other E.w b b' new bh
  unfold Oper.wp;rw[dx,jV];refine⟨{E with w:=E.w.setRow b new},.int .i64 m,.int .i64 m,⟨st.t,st.au,st.out.set b (setAt cs off xs)⟩,rfl,bw,⟨⟨?_,hs.ok.aY,λb' cn => hs.ok.fresh b' (by simpa using cn),hs.ok.nt,λb cs hc=>eW.mono _ bw.nl (hs.ok.cQ b cs hc)⟩,
   qT hs.du hle (λb' i hr _=>⟨hr,iX b' (by rintro rfl;rw[dX] at hr;simp at hr)⟩) hs.du.none,hs.defers,RL.mono _ hle hs.slot⟩,by simp only[R],rfl,hK⟩
  intro b' cs' zb;simp only[ab.set] at zb;split at zb
  .rename_i e2;subst e2;simp only[bg] at zb;subst zb;exact⟨dX,AU⟩
  .rename_i bh;obtain⟨h1,h2⟩:=hs.ok.box b' cs' zb;exact⟨h1,h2.mono bw.nl (iX b' bh)⟩
def ab9(cc:E.ok st.out){xs:List V}(h:P1 st.out base n xs):∃news:List Value,news.length=n/\RL E.nl xs news/\(∀v∈news,v.oneCell' = aa) /\
 ∀(k m len cap:Nat),m*k=n->(Builtin.firstCells k m (.slice base len cap)).run P E.w = .ok news.toArray E.w:=by
 rcases h with ⟨rfl,rfl⟩ | ⟨b,o,cs,rfl,hb,hl,rfl,h1⟩
 .refine⟨[],rfl,by simp[RL],by simp,λk m len cap e=>?_⟩;cases base with
  | none=>simp[Builtin.firstCells]
  | some ad=>simp[Builtin.firstCells,e,loadCells,loadCellsFrom]
 .obtain⟨_,c,e,hc,hlen,pO⟩:=cc.box b cs hb;have hc:E.w.heap[b]?=U (.cells c e (0,0)):=hc;have fH:RL E.nl ((cs.drop o).take n) ((c.toList.drop o).take n):=by
   refine Ee (by simp;omega) λj x u hx hu=>?_
   have hj:j<n:=by have:=(fw.1 hx).1;simp at this;omega
   rw[yG hj,vE] at hx;rw[yG hj,vE] at hu;obtain⟨v,h1,h2⟩:=pO (o+j) x hx
   have:v=u:=by simp at hu;rw[hu] at h1;simpa using h1.symm
   exact this▸h2
  have gf:((c.toList.drop o).take n).length=n:=by simp;omega
  refine⟨(c.toList.drop o).take n,gf,fH,zG fH h1,λk m len cap e2=>?_⟩
  have:=run_loadCells_list (P:=P) E.w ⟨b,o,ah⟩ ((c.toList.drop o).take n) (λj v hv=>by
   have hj:j<n:=by have:=(fw.1 hv).1;omega
   rw[lS];rw[yG hj,vE] at hv;simpa [World.cell?,hc] using hv)
  rw[gf] at this;simp only[Builtin.firstCells,e2];exact this
def NF(P:Program)(o:Oper):Option aV :=
 match o.op with
 | .index t x i =>
  match P.underlying t,c7 P t x,c7 P t i with
  | some (.array m e), U y, U z =>
   match iv P e,eT P e with
   | some aq,U 1=>U (.own (.H2 m) [y,z])
   | _,_=>ah
  | _,_,_=>ah
 | .unOp .neg t x=>match P.underlying t,c7 P t x with | some (.int k),U y=>U (.dV .sub (.c (.int k 0)) y) | _,_=>ah
 | .unOp .xor t x=>match P.underlying t,c7 P t x with | some (.int k),U y=>U (.dV .xor (.c (.int k (if k.signed then -1 else k.max))) y) | _,_=>ah
 | .call c =>
  match c.callee with
  | .builtin .min =>
   match c.argTypes.toList,c.args.toList with
   | [t,u],[x,y]=>match P.underlying t,c7 P t x,c7 P u y with | some (.int _),U x',U y' => U (.own .min [x',y']) | _,_,_=>ah
   | _,_=>ah
  | .builtin .max =>
   match c.argTypes.toList,c.args.toList with
   | [t,u],[x,y]=>match P.underlying t,c7 P t x,c7 P u y with | some (.int _),U x',U y' => U (.own .max [x',y']) | _,_,_=>ah
   | _,_=>ah
  | .builtin .copy =>
   match c.argTypes.toList,c.args.toList with
   | [t, u], [x, y] =>
    match P.underlying t,P.underlying u,c7 P t x,c7 P u y with
    | some (.slice e),U (.slice e'),U x',U y' => match P.info? e with | some i=>if e=e' /\ 0<i.size then U (.own (.Cy i.size) [x',y']) else ah | none=>ah
    | _,_,_,_=>ah
   | _,_=>ah
  | _=>ah
 | _=>ah
def am0(hl:NF P o=U ao)(hs:bQ E st a)(h:ao.bq P st K):o.wp P a E.w (eC E a o.dst K) Q:=by
 have X:=λ{t:TypeId} {x:Operand} {y:X} (hx:c7 P t x=U y)=>nG (E:=E) (st:=st) (a:=a) hs.slot hx
 unfold NF at hl;split at hl
 .rename_i t x i ho;split at hl
  case h_2=>simp at hl
  rename_i m e y z ht hx hi;split at hl
  case h_2=>simp at hl
  rename_i hg hn;simp only[bg] at hl;subst hl;have gh:=X hx;have C2:=X hi;simp only[aV.bq,dw] at h;unfold OQ.bq at h;split at h<;>try (exfalso;simp_all;done)
  .rename_i m0 cs k j e1 e2;simp only[OQ.H2.injEq] at e1;subst e1;simp only[iJ,gM] at e2;obtain⟨e2,e3⟩:=e2;rw[e2] at gh;rw[e3] at C2;simp only[R] at gh C2;obtain⟨vs,h4,h5⟩:=gh;obtain⟨g1,g2,h⟩:=h;unfold FO at h;split at h
   .rename_i c hc;obtain⟨u,h6,h7⟩:=si h5 j.toNat c hc;have h6' : vs[j.toNat]?=U u:=by simpa using h6
    refine dv hs (v:=c) (x:=u) ?_ h7 h.2;simp[execOp,ho,h4,C2,Instr.index,asIntOf,run_underlying ht,g1,g2,part,BM hg,pk hn,h6']
   .exact h.elim
 .rename_i t x ho;split at hl
  case h_2=>simp at hl
  rename_i k y ht hx;simp only[bg] at hl;subst hl;have hx:=X hx;simp only[aV.bq,ev,opt,K2] at h;split at h
  case h_2=>exact h.elim
  rename_i v hv;unfold vV at hv;split at hv
  case h_2=>simp at hv
  rename_i k' n k2 m e1 e2;simp only[V.int.injEq] at e1;obtain⟨rfl,rfl⟩:=e1;split at hv
  case isFalse=>simp at hv
  rename_i ey;obtain rfl:=H3 (ey.resolve_right (by simp[Bl]));simp only[ib,bg] at hv;subst hv;have e2:ev st y = .int k m:=e2;rw[e2] at hx;simp only[R] at hx;refine dv hs (x:=.int k (k.wrap (0 - m))) ?_ (by simp only[R]) h;simp only[execOp,ho,hx];simp only[Op.unary,Op.intArith];simp
 .rename_i t x ho;split at hl
  case h_2=>simp at hl
  rename_i k y ht hx;simp only[bg] at hl;subst hl;have hx:=X hx;simp only[aV.bq,ev,opt,K2] at h;split at h
  case h_2=>exact h.elim
  rename_i v hv;unfold vV at hv;split at hv
  case h_2=>simp at hv
  rename_i k' n k2 m e1 e2;simp only[V.int.injEq] at e1;obtain⟨rfl,rfl⟩:=e1;split at hv
  case isFalse=>simp at hv
  rename_i ey;obtain rfl:=H3 (ey.resolve_right (by simp[Bl]));simp only[ib,bg] at hv;subst hv;have e2:ev st y = .int k m:=e2;rw[e2] at hx;simp only[R] at hx;refine dv hs (x:=.int k (k.wrap ((BitVec.ofInt k.bits (if k.signed then -1 else k.max) ^^^ BitVec.ofInt k.bits m).toNat:Nat))) ?_ (by simp only[R]) h;simp only[execOp,ho,hx];simp only[Op.unary,Op.intBits];simp
 .rename_i c ho;obtain⟨callee,args,argTypes⟩:=c;simp only at hl;split at hl
  .split at hl
   case h_2=>simp at hl
   rename_i t u x y ht hx;have e1:argTypes=#[t,u]:=by cases argTypes;simpa using ht
   have e2:args=#[x,y]:=by cases args;simpa using hx
   subst e1;subst e2;split at hl
   case h_2=>simp at hl
   rename_i k0 x' y' hu j_ Bg;simp only[bg] at hl;subst hl;have gh:=X j_;have rH:=X Bg;simp only[aV.bq,dw] at h;unfold OQ.bq at h;split at h<;>try (exfalso;simp_all;done)
   .rename_i k n k' m e1 e2;simp only[iJ,gM] at e2;obtain⟨e2,e3⟩:=e2;rw[e2] at gh;rw[e3] at rH;simp only[R] at gh rH;obtain⟨ey,h⟩:=h;refine dv hs (v:=.int k (if m<n then m else n)) (x:=.int k (if m<n then m else n)) ?_ (by simp only[R]) h;simp[execOp,ho,resolve,invoke,builtin,Builtin.min_,Builtin.min2,gh,rH]
  .split at hl
   case h_2=>simp at hl
   rename_i t u x y ht hx;have e1:argTypes=#[t,u]:=by cases argTypes;simpa using ht
   have e2:args=#[x,y]:=by cases args;simpa using hx
   subst e1;subst e2;split at hl
   case h_2=>simp at hl
   rename_i k0 x' y' hu j_ Bg;simp only[bg] at hl;subst hl;have gh:=X j_;have rH:=X Bg;simp only[aV.bq,dw] at h;unfold OQ.bq at h;split at h<;>try (exfalso;simp_all;done)
   .rename_i k n k' m e1 e2;simp only[iJ,gM] at e2;obtain⟨e2,e3⟩:=e2;rw[e2] at gh;rw[e3] at rH;simp only[R] at gh rH;obtain⟨ey,h⟩:=h;refine dv hs (v:=.int k (if n<m then m else n)) (x:=.int k (if n<m then m else n)) ?_ (by simp only[R]) h;simp[execOp,ho,resolve,invoke,builtin,Builtin.max_,Builtin.max2,gh,rH]
  .split at hl
   case h_2=>simp at hl
   rename_i t u x y ht hx;have e1:argTypes=#[t,u]:=by cases argTypes;simpa using ht
   have e2:args=#[x,y]:=by cases args;simpa using hx
   subst e1;subst e2;split at hl
   case h_2=>simp at hl
   rename_i e e' x' y' hu Bd j_ Bg;split at hl
   case h_2=>simp at hl
   rename_i i hi;split at hl
   case isFalse=>simp at hl
   rename_i hc;simp only[bg] at hl;subst hl;obtain⟨rfl,gg⟩:=hc;have gh:=X j_;have rH:=X Bg;simp only[aV.bq,dw] at h;unfold OQ.bq at h;split at h<;>try (exfalso;simp_all;done)
   .rename_i k0 base n cap Z_ n' pE e1 e2;simp only[OQ.Cy.injEq] at e1;subst e1;simp only[iJ,gM] at e2;obtain⟨e2,e3⟩:=e2;rw[e2] at gh;rw[e3] at rH;simp only[R] at gh rH;obtain⟨xs,CV,h⟩:=h;obtain⟨news,g1,g2,g3,g4⟩:=ab9 (P:=P) hs.ok CV;refine Yl hs (u:=u) (ty:=o.type) (vx:=a.eval y) (news:=news) (base:=base) (n:=n) (cap:=cap) hu hi ?_ (len:=n') ?_ rfl ?_ g2 g3 g1 h
    .simp[execOp,ho,resolve,invoke,builtin,gh]
    .rw[rH];simp[Builtin.lenOf]
    .rw[rH];exact g4 _ _ _ _ rfl
   .rename_i k0 base n cap tk k1 m e1 e2;simp only[OQ.Cy.injEq] at e1;subst e1;simp only[iJ,gM] at e2;obtain⟨e2,e3⟩:=e2;obtain⟨rfl,hle,h⟩:=h;rw[e2] at gh;rw[e3] at rH;obtain⟨news,g1,g2,g3,g4⟩:=I9 (P:=P) Bd rH;simp only[R] at gh;refine Yl hs (u:=u) (ty:=o.type) (vx:=a.eval y) (news:=news) (base:=base) (n:=n) (cap:=cap) (m:=m.length) hu hi ?_ (len:=m.length) (g1.len _) (by omega) g1.cells g2 g3 g1.size h;simp[execOp,ho,resolve,invoke,builtin,gh]
  .simp at hl
 .simp at hl
def NC(P:Program)(o:Oper):Option aV :=
 match o.op with
 | .call c =>
  match c.callee with
  | .value (.func f) =>
   match P.funcs[f]?,jF P c.argTypes.toList c.args.toList with
   | some fn,U xs=>if fn.body.isNone=aa/\fn.origin = "" then(if fn.name = "internal/bytealg.CountString" then U (.own .Ko xs) else if fn.name = "internal/bytealg.IndexByteString" then U (.own .ME xs) else ah) else ah
   | _,_=>ah
  | _=>ah
 | _=>ah
def aep(s:List UInt8)(c:UInt8):AK s c=Lib.indexByte s c:=by
 induction s with
 | nil=>rfl
 | cons b l ih=>simp only[AK,Lib.indexByte,ih]
variable{fn:Func}
def aeq(h:fn.name = "internal/bytealg.CountString")(ho:fn.origin = ""):Extern.findNext fn=ah/\Extern.find fn=U Extern.BytealgCount.count:=by
 have k1:Extern.allNextRows.lookup "internal/bytealg.CountString" = none:=by kernel_rfl
 have k2:Extern.allNextRows.lookup "" = none:=by kernel_rfl
 have k3:Extern.allGenericRows.lookup "internal/bytealg.CountString" = none:=by kernel_rfl
 have k4:Extern.allTypedRows.lookup "internal/bytealg.CountString" = none:=by kernel_rfl
 have k5:Extern.allRows.lookup "internal/bytealg.CountString" = U Extern.BytealgCount.count:=by kernel_rfl
 exact⟨by simp[Extern.findNext,h,ho,k1,k2],by simp[Extern.find,h,k3,k4,k5]⟩
def aer(h:fn.name = "internal/bytealg.IndexByteString")(ho:fn.origin = ""):Extern.findNext fn=ah/\Extern.find fn=U Extern.BytealgIndexByte.indexByte:=by
 have k1:Extern.allNextRows.lookup "internal/bytealg.IndexByteString" = none:=by kernel_rfl
 have k2:Extern.allNextRows.lookup "" = none:=by kernel_rfl
 have k3:Extern.allGenericRows.lookup "internal/bytealg.IndexByteString" = none:=by kernel_rfl
 have k4:Extern.allTypedRows.lookup "internal/bytealg.IndexByteString" = none:=by kernel_rfl
 have k5:Extern.allRows.lookup "internal/bytealg.IndexByteString" = U Extern.BytealgIndexByte.indexByte:=by kernel_rfl
 exact⟨by simp[Extern.findNext,h,ho,k1,k2],by simp[Extern.find,h,k3,k4,k5]⟩
def X2{Y:Type}{l:Array Y}{x y:Y}(h:l.toList=[x,y]):l=#[x,y]:=by cases l;simpa using h
def ad2(hl:NC P o=U ao)(hs:bQ E st a)(h:ao.bq P st K):o.wp P a E.w (eC E a o.dst K) Q:=by
 unfold NC at hl;split at hl
 case h_2=>simp at hl
 rename_i c ho;obtain⟨callee,args,argTypes⟩:=c;simp only at hl;split at hl
 case h_2=>simp at hl
 rename_i f;split at hl
 case h_2=>simp at hl
 rename_i fn xs hf qM;split at hl
 case isFalse=>simp at hl
 rename_i hc;have fH:=NK (E:=E) hs.slot qM;split at hl
 .rename_i hn;simp only[bg] at hl;subst hl;simp only[aV.bq] at h;unfold OQ.bq at h;split at h<;>try (exfalso;simp_all;done)
  .rename_i s n e1 e2;rw[e2] at fH;obtain⟨q1,q2⟩:=aeq hn hc.2;cases hq:args.toList.map a.eval with
   | nil=>rw[hq] at fH;simp[RL] at fH
   | cons v1 vs =>
    rw[hq] at fH;cases vs with
    | nil=>simp[RL] at fH
    | cons v2 Jo =>
     cases Jo with
     | cons _ _=>simp[RL] at fH
     | nil =>
      simp only[RL,R,gM] at fH;obtain⟨rfl,rfl⟩:=fH;have ha:args.map a.eval=#[.string ⟨s.toArray⟩,.int .u8 n]:=X2 (by simpa using hq);refine dv hs (v:=.int .i64 (s.count n.toNat.toUInt8:Nat)) (x:=.int .i64 (s.count n.toNat.toUInt8:Nat)) ?_ (by simp only[R]) h;have dx:=run_callFunc_extern (P:=P) hf (by rw[hn];decide) hc.1 q1 q2 #[.string ⟨s.toArray⟩,.int .u8 n] E.w;rw[Lib.run_countString] at dx;simp[execOp,ho,resolve,Act.eval,Deferred.ofValue,invoke,ha,dx,Lib.countByte,Result.andThen]
 .split at hl
  case isFalse=>simp at hl
  rename_i hn;simp only[bg] at hl;subst hl;simp only[aV.bq] at h;unfold OQ.bq at h;split at h<;>try (exfalso;simp_all;done)
  .rename_i s n e1 e2;rw[e2] at fH;obtain⟨q1,q2⟩:=aer hn hc.2;cases hq:args.toList.map a.eval with
   | nil=>rw[hq] at fH;simp[RL] at fH
   | cons v1 vs =>
    rw[hq] at fH;cases vs with
    | nil=>simp[RL] at fH
    | cons v2 Jo =>
     cases Jo with
     | cons _ _=>simp[RL] at fH
     | nil =>
      simp only[RL,R,gM] at fH;obtain⟨rfl,rfl⟩:=fH;have ha:args.map a.eval=#[.string ⟨s.toArray⟩,.int .u8 n]:=X2 (by simpa using hq);refine dv hs (v:=.int .i64 (AK s n.toNat.toUInt8)) (x:=.int .i64 (AK s n.toNat.toUInt8)) ?_ (by simp only[R]) h;have dx:=run_callFunc_extern (P:=P) hf (by rw[hn];decide) hc.1 q1 q2 #[.string ⟨s.toArray⟩,.int .u8 n] E.w;rw[Lib.run_indexByteString] at dx;simp[execOp,ho,resolve,Act.eval,Deferred.ofValue,invoke,ha,dx,aep,Result.andThen]
def FH(P:Program)(h:List Nat)(o:Oper):aV :=
 match (match o.dst with | some d=>if h.contains (d+100000)=aa then NI P o else ah | none=>ah) with
 | some x=>x
 | none => match (match NC P o with | some x => U x | none => NG P h o) with
  | some x=>x
  | none => match NF P o with
   | some x=>x
   | none=>.own .aQ []
def amC{h:List Nat}(hs:bQ E st a)(hk:(FH P h o).bq P st K):o.wp P a E.w (eC E a o.dst K) Q:=by
 unfold FH at hk;split at hk
 .rename_i x hx;split at hx
  .split at hx
   .exact aoV hx hs hk
   .simp at hx
  .simp at hx
 .split at hk
  .rename_i x hx;split at hx
   .rename_i y hy;simp only[bg] at hx;subst hx;exact ad2 hy hs hk
   .exact amD hx hs hk
  .split at hk
   .rename_i x hx;exact am0 hx hs hk
   .simp only[aV.bq,dw] at hk;unfold OQ.bq at hk;simp at hk
def U3(P:Program)(h:List Nat)(ops:Array Oper)(o:Oper):Option AO :=
 match o.guard with
 | none=>U ⟨o.dst,FH P h o,ah⟩
 | some (j, want) =>
  match (ops[j]?).bind (·.dst) with
  | some g=>U ⟨o.dst,FH P h o,U (g,want)⟩
  | none=>ah
def Bv(P:Program)(h:List Nat)(ops:Array Oper):List Oper->Option (List AO)
 | []=>U []
 | o::os=>(U3 P h ops o).bind λx=>(Bv P h ops os).map (x::·)
end
variable{s:ByteArray}{t:TypeId}{w:World}
def arL(h:P.underlying t=U .string):(Instr.range t (.string s)).run P w = .ok (.pointer (U ⟨w.heap.size,0,ah⟩)) (w.alloc (.stringIter s 0)):=by
 simp[Instr.range,run_underlying h]
def j1(w:World)(b:Nat)(o:Obj):World:={w with heap:=w.heap.setIfInBounds b o}
variable{p:Nat}
def Xc(h:w.heap[b]?=U (.stringIter s p)):(getObj b).run P w = .ok (.stringIter s p) w:=by
 simp only[getObj,Sem.run,h]
variable{o:Obj}
def arM(h:w.heap[b]?=U (.stringIter s p)):(setObj b o).run P w = .ok () (j1 w b o):=by
 simp only[setObj,Sem.run,h];rfl
def run_next_end(h:w.heap[b]?=U (.stringIter s p))(hp:¬p<s.size):(Instr.next (.pointer (U ⟨b,0,ah⟩)) aa t).run P w = .ok (.tuple #[.bool aq]) w:=by
 unfold Instr.next;simp only[Sem.run_bind,Xc h,Result.andThen,hp,ch];rfl
def arK(h:w.heap[b]?=U (.stringIter s p))(hp:p<s.size)(hc:(s.get! p).toNat<128):(Instr.next (.pointer (U ⟨b,0,ah⟩)) aa t).run P w = .ok (.tuple #[.bool aa,.int .i64 p,.int .i32 (s.get! p).toNat]) (j1 w b (.stringIter s (p+1))):=by
 have hd:Utf8.decode s p=((s.get! p).toNat,1):=by simp[Utf8.decode,hc]
 unfold Instr.next;simp only[Sem.run_bind,Xc h,Result.andThen,hp,cH,hd,arM h];rfl
def zQ{b':Nat}(h:b' ≠ b):(j1 w b o).heap[b']?=w.heap[b']?:=by
 simp only[j1];rw[YJ];simp[fL h]
def Xs{o':Obj}(h:w.heap[b]?=U o'):(j1 w b o).heap[b]?=U o:=by
 obtain⟨h1,_⟩:=lr.1 h;simp only[j1];rw[YJ];simp[h1]
def Xt:(j1 w b o).heap.size=w.heap.size:=by simp[j1]
def Xr{b':Nat}(h:b' ≠ b):(j1 w b o).cell? ⟨b',i,ah⟩=w.cell? ⟨b',i,ah⟩:=by
 simp only[World.cell?,zQ h]
def Env.j1(E:Env)(b:Nat)(o:Obj):Env:={E with w:=Go.Am.j1 E.w b o}
def Env.ar7(hr:E.bj b = .mK):E.le (E.j1 b o):=by
 refine⟨λb' i c hc hv=>⟨hc,?_⟩,λ_ _ h=>h,λt n h=>⟨n,h,b7 _,λ_ b' c cn => ⟨cn,λcs e b9=>⟨cs,?_,rfl⟩⟩⟩⟩
 .have bh:b' ≠ b:=λe=>by rw[e,hr] at hc;exact hc
  exact(Xr bh).trans hv
 .have bh:b' ≠ b:=λe=>by rw[e,hr] at cn;simp at cn
  exact(zQ bh).trans b9
def bQ.j1(hr:E.bj b = .mK)(hs:bQ E st a):bQ (E.j1 b o) st a:=by
 have hle:=Env.ar7 (o:=o) hr;refine⟨⟨λb' cs h=>?_,hs.ok.aY,λb' h=>hs.ok.fresh b' (by rw[<-Xt (b:=b) (o:=o)];exact h),hs.ok.nt,λb cs hc=>eW.mono _ hle.nl (hs.ok.cQ b cs hc)⟩,⟨λi cs h=>?_,hs.du.none⟩,hs.defers,RL.mono _ hle hs.slot⟩
 .obtain⟨h1,h2⟩:=hs.ok.box b' cs h;have bh:b' ≠ b:=λe=>by rw[e,hr] at h1;simp at h1
  exact⟨h1,jM.mono hle.nl (zQ bh) h2⟩
 .obtain⟨b',h1,h2,h3⟩:=hs.du.box i cs h;have bh:b' ≠ b:=λe=>by rw[e,hr] at h2;simp at h2
  exact⟨b',h1,h2,jM.mono hle (zQ bh) h3⟩
def Fr.j1{E0:Env}{q:Nat}(hf:Fr E0 E)(hr:E.bj b = .mK)(hn:E0.w.heap.size<=b)(hb:E.w.heap[b]?=U (.stringIter s p)):Fr E0 (E.j1 b (.stringIter s q)):=by
 refine⟨hf.os,hf.output,hf.tape,by rw[show(E.j1 b (.stringIter s q)).w.heap.size=E.w.heap.size from Xt];exact hf.size,λa=>?_,λb' i c hc hv=>?_,λt n h=>?_,λb' an h=>?_,hf.El,hf.Em,hf.Cm,λb' c e h=>by
  obtain⟨c',h1,h2⟩:=hf.shape b' c e h;have bh:b' ≠ b:=λe=>by rw[e,hb] at h1;simp at h1
  exact⟨c',(zQ bh).trans h1,h2⟩⟩
 .rw[<-hf.hH a]
  by_cases e:a.block=b
  .have e1:(E.j1 b (.stringIter s q)).w.heap[a.block]?=U (.stringIter s q):=by rw[e];exact Xs hb
   rw[<-e] at hb;simp only[World.frozen?,e1,hb]
  .simp only[World.frozen?,show(E.j1 b (.stringIter s q)).w.heap[a.block]?=E.w.heap[a.block]? from zQ e]
 .obtain⟨h1,h2⟩:=hf.cell b' i c hc hv;have bh:b' ≠ b:=λe=>by rw[e,hr] at h1;exact h1
  exact⟨h1,(Xr bh).trans h2⟩
 .obtain⟨n',h1,h2,h3⟩:=hf.tok t n h;refine⟨n',h1,h2,λe b' c cn => ?_⟩;obtain⟨h4,h5⟩:=h3 e b' c cn;refine⟨h4,λcs e' b9=>?_⟩;obtain⟨cs',h6,h7⟩:=h5 cs e' b9;have bh:b' ≠ b:=λe=>by rw[e,hr] at h4;simp at h4
  exact⟨cs',(zQ bh).trans h6,h7⟩
 .obtain⟨h1,h2⟩:=hf.same b' an h;have bh:b' ≠ b:=by omega
  exact⟨(zQ bh).trans h1,h2⟩
def Env.mO(E:Env)(o:Obj):Env:={w:=E.w.alloc o,bj:=λb=>if b=E.w.heap.size then .mK else E.bj b,au:=E.au,aY:=E.aY}
def anf(hs:bQ E st a):Fr E (E.mO (.stringIter s p))/\bQ (E.mO (.stringIter s p)) st a/\(E.mO (.stringIter s p)).bj E.w.heap.size = .mK/\(E.mO (.stringIter s p)).w.heap[E.w.heap.size]?=U (.stringIter s p):=by
 have hold:∀b,b<E.w.heap.size->(E.mO (.stringIter s p)).w.heap[b]?=E.w.heap[b]?:=λb hb=>heap_alloc_old E.w (.stringIter s p) hb
 have dX:∀b,b<E.w.heap.size->(E.mO (.stringIter s p)).bj b=E.bj b:=λb hb=>by simp only[Env.mO];rw[aw (by omega)]
 have h_:(E.mO (.stringIter s p)).w.heap[E.w.heap.size]?=U (.stringIter s p):=heap_alloc_new E.w _;have wg:∀b i c,E.w.cell? ⟨b,i,ah⟩=U c->b<E.w.heap.size:=λb i c h=>by
  simp only[World.cell?] at h;split at h
  .rename_i h1;exact(lr.1 h1).1
  .simp at h
 have Tw:∀b i,b<E.w.heap.size->(E.mO (.stringIter s p)).w.cell? ⟨b,i,ah⟩=E.w.cell? ⟨b,i,ah⟩:=λb i hb=>by simp only[World.cell?,hold b hb]
 have bw:Fr E (E.mO (.stringIter s p)):=by
  refine⟨rfl,rfl,rfl,by simp[Env.mO],λa=>?_,λb i c hc hv=>?_,λt n h=>⟨n,h,b7 _,λ_ b c hb=>?_⟩,λb hb _=>⟨hold b hb,dX b hb⟩,λb hb h=>?_,λb t c hb h=>?_,λb i hb h=>?_,λb c e h=>⟨c,(hold b (lb h)).trans h,rfl⟩⟩
  .by_cases h:a.block<E.w.heap.size
   .simp only[World.frozen?,hold _ h]
   .by_cases h2:a.block=E.w.heap.size
    .have e2:E.w.heap[a.block]?=none:=by simp;omega
     rw[<-h2] at h_;simp only[World.frozen?,h_,e2]
    .have e2:E.w.heap[a.block]?=none:=by simp;omega
     have e1:(E.mO (.stringIter s p)).w.heap[a.block]?=none:=by simp[Env.mO];omega
     simp only[World.frozen?,e1,e2]
  .have hb:=wg b i c hv;exact⟨by rw[dX b hb];exact hc,(Tw b i hb).trans hv⟩
  .by_cases an:b<E.w.heap.size
   .exact⟨(dX b an).trans hb,λcs e b9=>⟨cs,(hold b an).trans b9,rfl⟩⟩
   .have:=hs.ok.fresh b (by omega)
    rw[this] at hb;simp at hb
  .rw[dX b hb] at h;exact .inl h
  .rw[dX b hb] at h;exact⟨c,h⟩
  .rw[dX b hb] at h;exact⟨i,h⟩
 have hle:E.le (E.mO (.stringIter s p)):=bw.le λi b h=>h
 refine⟨bw,⟨⟨λb cs h=>?_,hs.ok.aY,λb hb=>?_,hs.ok.nt,λb cs hc=>eW.mono _ bw.nl (hs.ok.cQ b cs hc)⟩,⟨λi cs h=>?_,hs.du.none⟩,hs.defers,RL.mono _ hle hs.slot⟩,by simp[Env.mO],h_⟩
 .obtain⟨h1,h2⟩:=hs.ok.box b cs h;have an:b<E.w.heap.size:=by obtain⟨c,e,h3,_⟩:=h2;exact lb (w:=E.w) h3
  exact⟨by rw[dX b an];exact h1,jM.mono hle.nl (hold b an) h2⟩
 .have cn : E.w.heap.size+1<=b:=by simpa [Env.mO] using hb
  simp only[Env.mO];rw[aw (by omega)];exact hs.ok.fresh b (by omega)
 .obtain⟨b,h1,h2,h3⟩:=hs.du.box i cs h;have an:b<E.w.heap.size:=by obtain⟨c,e,h4,_⟩:=h3;exact lb (w:=E.w) h4
  exact⟨b,h1,by rw[dX b an];exact h2,jM.mono hle (hold b an) h3⟩
def nP(o:Oper):Option (Nat × TypeId):=match o.op,o.dst,o.guard with | .alloc t,U d,ah=>U (d,t) | _,_,_=>ah
def nQ(o:Oper):Option (Nat × TypeId × Operand):=match o.op,o.dst,o.guard with | .store t (.tmp d) x,ah,ah=>U (d,t,x) | _,_,_=>ah
def Pm{o:Oper}(h:nP o=U (d,t)):o.op = .alloc t/\o.dst=U d/\o.guard=none:=by
 unfold nP at h;split at h
 .rename_i h1 h2 h3;simp only[bg,pB] at h;obtain⟨rfl,rfl⟩:=h;exact⟨h1,h2,h3⟩
 .simp at h
variable{x:Operand}
def X6{o:Oper}(h:nQ o=U (d,t,x)):o.op = .store t (.tmp d) x/\o.dst=ah/\o.guard=none:=by
 unfold nQ at h;split at h
 .rename_i h1 h2 h3;simp only[bg,pB] at h;obtain⟨rfl,rfl,rfl⟩:=h;exact⟨h1,h2,h3⟩
 .simp at h
def isVar(ops:Array Oper)(d:Nat)(t:TypeId):Bool:=ops.toList.any λo=>match nP o with | some (d',t')=>d' == d&&t' == t | none=>aq
def FF(P:Program)(ops:Array Oper)(o:Oper):Option AO :=
 match nP o with
 | some (_,t)=>match kh P t,eT P t with | some z,U n=>if z.length=n then U ⟨ah,.mv (.c .any),ah⟩ else ah | _,_=>ah
 | none =>
  match nQ o with
  | some (d,t,x)=>if isVar ops d t=aa then(match eT P t,c7 P t x with | some n,U y=>U ⟨U d,.vW n y,ah⟩ | _,_=>ah) else u9 P ops o
  | none=>u9 P ops o
def Dn(P:Program)(ops:Array Oper):List Oper->Option (List AO)
 | []=>U []
 | o::os=>(FF P ops o).bind λx=>(Dn P ops os).map (x::·)
def Kk(ops:Array Oper)(b:List Nat):Bool :=
 ops.toList.zipIdx.all λ(o,i)=>match nP o with
  | some (d,t)=>(ops.toList.zipIdx.any λ(o',j)=>match nQ o' with | some (d',t',_)=>d' == d&&t' == t&&(b.getD j 0).testBit i | none=>aq) &&
   (ops.toList.zipIdx.all λ(o',j)=>i == j||match nP o' with | some (d',_)=>!(d' == d) | none=>aa)
  | none=>aa
def It(ops:Array Oper):List Nat:=ops.toList.filterMap λo=>(nP o).map (·.1)
def Io(P:Program)(ops:Array Oper):Option (List Nat × List (AO × List Nat)) :=
 match Dn P ops ops.toList with
 | none=>ah
 | some l0 =>
  let b:=x6 ops.toList []
  let d:=lQ fF (l0.map λo=>(o,[])) b
  let l:=(l0.zip d).zipIdx.map λ((o,x),i)=>(o,if o.op.Dl then((bG (zj d i+1 - p8 d x)).map (p8 d x+·)).filter (· != BF d i) else [])
  if yU ops l b=aa/\P.follows .mixedOrders=aa/\Kk ops b=aa then U (It ops,l) else ah
def U4{P:Program}{ops:Array Oper}:∀{os:List Oper} {l:List AO},Dn P ops os=U l->l.length=os.length/\∀i:Nat,∀o,os[i]?=U o->∃x,l[i]?=U x/\FF P ops o=U x
 | [],l,h=>by simp only[Dn,bg] at h;subst h;exact⟨rfl,λi o h=>by simp at h⟩
 | o :: os, l, h => by
  simp only[Dn,iK,dB] at h;obtain⟨x,h1,l',h2,rfl⟩:=h;obtain⟨h3,h4⟩:=U4 h2;refine⟨by simp[h3],λi q hq=>?_⟩;cases i with
  | zero=>simp at hq;subst hq;exact⟨x,by simp,h1⟩
  | succ i=>simp at hq;obtain⟨y,k1,k2⟩:=h4 i q hq;exact⟨y,by simpa using k1,k2⟩
structure P3(ops:Array Oper)(b:List Nat):Prop where
 st:∀(i:Nat) o d t,ops[i]?=U o->nP o=U (d,t)->∃(j:Nat) (o' : Oper) (x:Operand),ops[j]?=U o' /\ nQ o' = U (d,t,x)/\(b.getD j 0).testBit i=aa
 uniq:∀(i j:Nat) o o' d t t',ops[i]?=U o->ops[j]?=U o' -> nP o=U (d,t)->nP o' = U (d,t')->i=j
variable{ops:Array Oper}
def ad4{b:List Nat}(h:Kk ops b=aa):P3 ops b:=by
 unfold Kk at h;rw[lO] at h;have mem:∀(i:Nat) o,ops[i]?=U o->(o,i)∈ops.toList.zipIdx:=λi o ho=>by
  rw[JU];simpa using ho
 refine⟨λi o d t ho hv=>?_,λi j o o' d t t' ho fW hv ia => ?_⟩
 .have:=h _ (mem i o ho)
  simp only[hv,b_,uu] at this;obtain⟨⟨q,hq,h1⟩,_⟩:=this;obtain⟨o',j⟩:=q;simp only at h1;split at h1
  .rename_i d' t' x ia;simp only[b_,Cn] at h1;obtain⟨⟨rfl,rfl⟩,h2⟩:=h1;rw[JU] at hq;exact⟨j,o',x,by simpa using hq,ia,h2⟩
  .simp at h1
 .have:=h _ (mem i o ho)
  simp only[hv,b_,lO] at this;have h2:=this.2 _ (mem j o' fW);simp only[ia,mU,Cn,w8] at h2
  rcases h2 with h2 | h2
  .exact h2
  .simp at h2
variable{l:List (AO × List Nat)}{nv:List Nat}
def amy(h:Io P ops=U (nv,l)):
 ∃b,Ag ops l b/\b.length=ops.size/\P.follows .mixedOrders=aa/\P3 ops b/\nv=It ops/\∀(i:Nat) o,ops[i]?=U o->∃x:AO × List Nat,l[i]?=U x/\FF P ops o=U x.1:=by
 unfold Io at h;cases h0:Dn P ops ops.toList with
 | none=>rw[h0] at h;simp at h
 | some l0 =>
 rw[h0] at h;simp only at h;split at h
 case isFalse=>simp at h
 rename_i hc;simp only[bg,pB] at h;obtain⟨rfl,rfl⟩:=h;refine⟨_,facts hc.1,?_,hc.2.1,ad4 hc.2.2,rfl,λi o ho=>?_⟩
 .have:=hc.1
  unfold yU at this;simp only[b_,eb] at this;exact this.1.1.2
 .have hlen:=(facts hc.1).size;obtain⟨h1,h2⟩:=U4 h0;obtain⟨x,k1,k2⟩:=h2 i o (by simpa using ho);have an:=(lr.1 ho).1;generalize hL:(l0.zip (lQ fF (l0.map λo=>(o,[])) (x6 ops.toList [])))=z at hlen ⊢;have hz:i<z.length:=by simp at hlen;omega
  refine⟨_,by rw[vF,Qc,bN hz];rfl,?_⟩
  have:z[i].1=x:=by
   have e:z[i]?=U z[i]:=bN hz;subst hL;rw[JS] at e;rw[k1] at e;exact(vM e.1).symm
  simpa [this] using k2
def Env.sU(E:Env)(c:Array Value)(t:TypeId):Env:={w:=E.w.alloc (.cells c t),bj:=λb=>if b=E.w.heap.size then .mK else E.bj b,au:=E.au,aY:=E.aY}
variable{c:Array Value}
def ane(hs:bQ E st a):Fr E (E.sU c t)/\bQ (E.sU c t) st a:=by
 have hx:=(Ext.refl E.w).alloc c t;have hold:∀b,b<E.w.heap.size->(E.sU c t).w.heap[b]?=E.w.heap[b]?:=λb hb=>hx.block b hb
 have dX:∀b,b<E.w.heap.size->(E.sU c t).bj b=E.bj b:=λb hb=>by simp only[Env.sU];rw[aw (by omega)]
 have bw:Fr E (E.sU c t):=y5 hs.ok.fresh hx dX λ_ _ h=>h
 have hle:E.le (E.sU c t):=bw.le λ_ _ h=>h
 refine⟨bw,Dy hs.ok bw.nl (λb h hb=>⟨by rw[dX b hb];exact h,hold b hb⟩) (λ_ _ h=>h) (λb hb=>?_) hs.ok.nt,
  qT hs.du hle (λb i h hb=>⟨by rw[dX b hb];exact h,hold b hb⟩) hs.du.none,hs.defers,RL.mono _ hle hs.slot⟩
 have cn : E.w.heap.size+1<=b:=by simpa [Env.sU] using hb
 simp only[Env.sU];rw[aw (by omega)];exact hs.ok.fresh b (by omega)
def ar_{t:List V}(h:t.getD d .any = .any):t.set d .any=t:=by
 by_cases hd:d<t.length
 .have:t[d] = .any:=by simpa [gy,hd] using h
  rw[<-this];simp
 .exact List.set_eq_of_length_le (by omega)
def Env.bare(E:Env)(b k:Nat)(new:Array Value):Env :=
 {w:=E.w.setRow b new,bj:=λx=>if x=b then .jb k else E.bj x,au:=λi=>if i=k then U b else E.au i,aY:=E.aY}
variable{e:TypeId}
def Z9{E0:Env}(hs:bQ E st a)(hf:Fr E0 E)(hr:E.bj b = .mK)(hn:E0.w.heap.size<=b)(hb:E.w.heap[b]?=U (.cells c e (0,0))){cs:List V}{vs:List Value}(hv:RL E cs vs)
 {d:Nat} (hd:a.tmps[d]?=U (.pointer (U ⟨b,0,ah⟩))) :
 Fr E0 (E.bare b st.au.length vs.toArray)/\bQ (E.bare b st.au.length vs.toArray) ⟨st.t.set d (.ptr (.au st.au.length) 0),st.au++[cs],st.out⟩ a:=by
 generalize hE:E.bare b st.au.length vs.toArray=E';have iZ:∀b',b' ≠ b->E'.w.heap[b']?=E.w.heap[b']?:=λb' bh=>by rw[<-hE];exact setRow_other E.w b b' _ bh
 have jB:E'.w.heap[b]?=U (.cells vs.toArray e (0,0)):=by rw[<-hE];exact setRow_heap E.w b c _ e _ hb
 have kW:∀b',b' ≠ b->E'.bj b' = E.bj b' := λb' bh=>by rw[<-hE];simp only[Env.bare];rw[aw bh]
 have qK:E'.bj b = .jb st.au.length:=by rw[<-hE];simp[Env.bare]
 have dd:E'.w.heap.size=E.w.heap.size:=by rw[<-hE];simp[Env.bare]
 have dT:∀i,i≠st.au.length->E'.au i=E.au i:=λi hi=>by rw[<-hE];simp only[Env.bare];rw[aw hi]
 have A8:E'.au st.au.length=U b:=by rw[<-hE];simp[Env.bare]
 have zm:E.au st.au.length=none:=hs.du.none _ (b7 _);have tU:E'.aY=E.aY:=by rw[<-hE];rfl
 have wg:∀b' o',b' ≠ b->E'.w.cell? ⟨b',o',ah⟩=E.w.cell? ⟨b',o',ah⟩:=λb' o' bh=>by simp only[World.cell?,iZ b' bh]
 have LV:∀x,E'.w.frozen? x=E.w.frozen? x:=λx=>by rw[<-hE];exact EF hb x
 have hle:E.le E' := by
  refine⟨λb' o' c' hc hv=>?_,λi b' h=>?_,λt n h=>⟨n,by rw[tU];exact h,b7 _,λ_ b' c' cn => ?_⟩⟩
  .have bh:b' ≠ b:=λe=>by rw[e,hr] at hc;exact hc
   exact⟨by rw[kW b' bh];exact hc,(wg b' o' bh).trans hv⟩
  .rw[dT i (λe=>by rw[e,zm] at h;simp at h)];exact h
  .have bh:b' ≠ b:=λe=>by rw[e,hr] at cn;simp at cn
   exact⟨by rw[kW b' bh];exact cn,λcs' e' b9=>⟨cs',(iZ b' bh).trans b9,rfl⟩⟩
 refine⟨⟨?_,?_,?_,by rw[dd];exact hf.size,λx=>(LV x).trans (hf.hH x),λb' o' c' hc hv=>?_,λt n h=>?_,λb' an h=>?_,λb' an h=>?_,λb' t c' an h=>?_,λb' i an h=>?_,λb' c' e' h=>by
  have an:=lb (w:=E0.w) h;have bh:b' ≠ b:=by omega
  obtain⟨c1,h1,h2⟩:=hf.shape b' c' e' h;exact⟨c1,(iZ b' bh).trans h1,h2⟩⟩,⟨⟨λb' ds h=>?_,λt n h=>by rw[tU];exact hs.ok.aY t n h,λb' h=>?_,by rw[tU];exact hs.ok.nt,λb cs hc=>eW.mono _ hle.nl (hs.ok.cQ b cs hc)⟩,⟨λi ds h=>?_,λi hi=>?_⟩,hs.defers,?_⟩⟩
 .rw[<-hf.os,<-hE];rfl
 .rw[<-hf.output,<-hE];rfl
 .rw[<-hf.tape,<-hE];rfl
 .obtain⟨h1,h2⟩:=hf.cell b' o' c' hc hv;have bh:b' ≠ b:=λe=>by rw[e,hr] at h1;exact h1
  exact⟨by rw[kW b' bh];exact h1,(wg b' o' bh).trans h2⟩
 .obtain⟨n',h1,h2,h3⟩:=hf.tok t n h;refine⟨n',by rw[tU];exact h1,h2,λe b' c' cn => ?_⟩;obtain⟨h4,h5⟩:=h3 e b' c' cn;have bh:b' ≠ b:=λe=>by rw[e,hr] at h4;simp at h4
  refine⟨by rw[kW b' bh];exact h4,λcs' e' b9=>?_⟩;obtain⟨Kw,h6,h7⟩:=h5 cs' e' b9;exact⟨Kw,(iZ b' bh).trans h6,h7⟩
 .obtain⟨h1,h2⟩:=hf.same b' an h;have bh:b' ≠ b:=by omega
  exact⟨(iZ b' bh).trans h1,(kW b' bh).trans h2⟩
 .have bh:b' ≠ b:=by omega
  rw[kW b' bh] at h;exact hf.El b' an h
 .have bh:b' ≠ b:=by omega
  rw[kW b' bh] at h;exact hf.Em b' t c' an h
 .have bh:b' ≠ b:=by omega
  rw[kW b' bh] at h;exact hf.Cm b' i an h
 .obtain⟨h1,h2⟩:=hs.ok.box b' ds h;have bh:b' ≠ b:=λe=>by rw[e,hr] at h1;simp at h1
  exact⟨by rw[kW b' bh];exact h1,jM.mono hle.nl (iZ b' bh) h2⟩
 .rw[dd] at h;have an:b<E.w.heap.size:=lb hb;rw[kW b' (by omega)];exact hs.ok.fresh b' h
 .by_cases hi:i=st.au.length
  .subst hi;simp only[List.getElem?_concat_length,bg] at h;subst h;refine⟨b,A8,qK,vs.toArray,e,jB,by have:=gb hv;simp;omega,λj x hj=>?_⟩;obtain⟨u,h1,h2⟩:=si hv j x hj;exact⟨u,by simpa using h1,h2.mono _ hle⟩
  .have an:i<st.au.length:=by
    have:=(fw.1 h).1
    simp at this;omega
   rw[sc an] at h;obtain⟨b',h1,h2,h3⟩:=hs.du.box i ds h;have bh:b' ≠ b:=λe=>by rw[e,hr] at h2;simp at h2
   exact⟨b',by rw[dT i hi];exact h1,by rw[kW b' bh];exact h2,jM.mono hle (iZ b' bh) h3⟩
 .simp at hi;rw[dT i (by omega)];exact hs.du.none i (by omega)
 .have h1:=RL.mono _ hle hs.slot;have hp:R E' (.ptr (.au st.au.length) 0) (.pointer (U ⟨b,0,ah⟩)):=by simp only[R];exact⟨b,A8,rfl⟩
  have h2:=GL h1 d hp
  have:a.tmps.toList.set d (.pointer (U ⟨b,0,ah⟩))=a.tmps.toList:=by
   have an:=(lr.1 hd).1
   have:a.tmps.toList[d]'(by simpa using an) = .pointer (U ⟨b,0,ah⟩):=by
    have:=(lr.1 hd).2;simpa using this
   rw[<-this];exact YY (by simpa using an)
  rw[this] at h2;exact h2
section
variable {P:Program} {ops:Array Oper} {l:List (AO × List Nat)} {b:List Nat}
def Y5(P:Program)(ops:Array Oper)(N:Nat)(E0:Env)(listed:Array Bool)(E:Env)(a:Act):Prop :=
 a.tmps.size=N/\∃B:Nat->Nat,∀(i:Nat) o d t,ops[i]?=U o->nP o=U (d,t)->listed.getD i aq=aa->(∀(j:Nat) o' x,ops[j]?=U o' -> nQ o' = U (d,t,x)->listed.getD j aq=aq) ->
  a.tmps[d]?=U (.pointer (U ⟨B i,0,ah⟩))/\E.bj (B i) = .mK/\(∃c e,E.w.heap[B i]?=U (.cells c e (0,0))/\eT P t=U c.size)/\E0.w.heap.size<=B i /\
  ∀(i' : Nat) o' d' t',ops[i']?=U o' -> nP o' = U (d',t')->listed.getD i' aq=aa->(∀(j:Nat) o' x,ops[j]?=U o' -> nQ o' = U (d',t',x)->listed.getD j aq=aq)->i≠i' -> B i≠B i'
variable{listed:Array Bool}
def wR{j:Nat}(h:i<listed.size):(listed.setIfInBounds i aa).getD j aq=(decide (j=i)||listed.getD j aq):=by
 by_cases fV:j=i
 .subst fV;simp[h]
 .rw[rf,BZ (fL fV),<-rf];simp[fV]
def U2{o:Oper}{x:AO}(h:FF P ops o=U x):(∃d t z n,nP o=U (d,t)/\kh P t=U z/\eT P t=U n/\z.length=n/\x=⟨ah,.mv (.c .any),ah⟩) \/
 (∃d t y n q,nQ o=U (d,t,y)/\isVar ops d t=aa/\eT P t=U n/\c7 P t y=U q/\x=⟨U d,.vW n q,ah⟩)\/(u9 P ops o=U x/\nP o=ah/\∀d t y,nQ o=U (d,t,y)->isVar ops d t=aq):=by
 unfold FF at h;split at h
 .rename_i d t hv;split at h
  .rename_i z n hz hn;split at h
   .rename_i hl;simp only[bg] at h;exact .inl ⟨d,t,z,n,hv,hz,hn,hl,h.symm⟩
   .simp at h
  .simp at h
 .rename_i hv;split at h
  .rename_i d t y hs;split at h
   .rename_i hi;split at h
    .rename_i n q hn hq;simp only[bg] at h;exact .inr (.inl ⟨d,t,y,n,q,hs,hi,hn,hq,h.symm⟩)
    .simp at h
   .rename_i hi;exact .inr (.inr ⟨h,hv,λd' t' y' e=>by rw[hs] at e;simp only[bg,pB] at e;obtain⟨rfl,rfl,_⟩:=e;simpa using hi⟩)
  .rename_i hs;exact .inr (.inr ⟨h,hv,λd t y e=>by rw[hs] at e;simp at e⟩)
variable{K:St->Prop}
def acN{id:Nat}(hl:Io P ops=U (nv,l))(TN:∀d∈nv,d<st.t.length/\st.t.getD d .any = .any)(h:cK P l [(st.au,st.out)] [] K st):
 jd P (.region id ops aa) (λe aU => e = .normal/\K aU) st:=by
 obtain⟨b,F,nw,hf,FA,rfl,wv⟩:=amy hl;intro E0 a0 HX;have avp:=F.size
 -- what a pair of a new variable and its store is like
 have E8:∀(i:Nat) o d t,ops[i]?=U o->nP o=U (d,t)->isVar ops d t=true:=λi o d t ho hv=>by
  unfold isVar;rw[uu];exact⟨o,by simpa using PR ho,by simp[hv]⟩
 have akf:∀d t,isVar ops d t=aa->∃(i:Nat) (o:Oper),ops[i]?=U o/\nP o=U (d,t):=λd t h=>by
  unfold isVar at h;rw[uu] at h;obtain⟨o,h1,h2⟩:=h;split at h2
  .rename_i d' t' hv;simp only[b_,Cn] at h2;obtain⟨rfl,rfl⟩:=h2;obtain⟨i,hi⟩:=YV.1 h1;exact⟨i,o,by simpa using hi,hv⟩
  .simp at h2
 -- a store that is one of these has the variable's slot
 have HZ:∀(j:Nat) o d t x,ops[j]?=U o->nQ o=U (d,t,x)->isVar ops d t=aa->∃y:AO × List Nat,l[j]?=U y/\y.1.dst=U d:=λj o d t x ho hv hi=>by
  obtain⟨y,h1,h2⟩:=wv j o ho
  rcases U2 h2 with ⟨d',t',z,n,k1,_⟩ | ⟨d',t',y',n,q,k1,_,_,_,k2⟩ | ⟨_,_,k3⟩
  .obtain⟨e1,_⟩:=Pm k1;obtain⟨e2,_⟩:=X6 hv;rw[e1] at e2;simp at e2
  .rw[hv] at k1;simp only[bg,pB] at k1;obtain⟨rfl,_⟩:=k1;exact⟨y,h1,by rw[k2]⟩
  .rw[k3 d t x hv] at hi;simp at hi
 refine RH (X:=Y5 P ops a0.tmps.size E0) F nw hf h HX (λE' => ⟨rfl,λ_=>0,λi o d t _ _ im => by
  exfalso
  by_cases hj:i<ops.size<;>simp[hj] at im⟩) λi o ho=>?_
 obtain⟨x,hx,hxo⟩:=wv i o ho;have avi:i<ops.size:=(lr.1 ho).1;refine⟨x,hx,?_⟩
 rcases U2 hxo with ⟨d,t,z,n,hv,hz,hn,hzn,wC⟩ | ⟨d,t,y,n,q,hv,Mz,hn,hq,wC⟩ | ⟨uU,T9,Dd⟩
 ·-- a variable is made
  right;obtain⟨v1,v2,v3⟩:=Pm hv;obtain⟨iz,zv,z1,z2,z3,z4⟩:=uq hz;refine⟨v3,by rw[wC],λE a t' s v s' listed Q uV zp LD Tt jB hs bw hX kY=>?_⟩;rw[wC] at kY ⊢;obtain⟨rfl,kY⟩:=kY;obtain rfl:s=s' := by have:=jR (λq:St=>(q.au,q.out)) kY;simp only[cq,pB] at this;exact Prod.ext this.1 this.2
  simp only[kE];have Tz:d∈It ops:=by unfold It;rw[Qg];exact⟨o,by simpa using PR ho,by simp[hv]⟩
  have ajF:t'.getD d .any = .any:=by
   rw[jB d λj y hy Bh=>?_]
   .exact(TN d Tz).2
   .obtain⟨j0,o0,x0,k1,k2,k3⟩:=FA.st i o d t ho hv;obtain⟨y0,k4,k5⟩:=HZ j0 o0 d t x0 k1 k2 (E8 i o d t ho hv)
    have:j=j0:=by
     rcases Nat.decEq j j0 with bh | he
     .exact absurd Bh (F.dst j j0 y y0 hy k4 bh d k5)
     .exact he
    subst this;exact Tt j (by rw[nw];exact(lr.1 k1).1) k3
  obtain⟨zf,dQ⟩:=ane (c:=zv.cells) (t:=t) hs;have dx:(execOp a.eval o).run P E.w = .ok (.value (.pointer (U ⟨E.w.heap.size,0,ah⟩))) (E.w.alloc (.cells zv.cells t)):=by
   simp[execOp,v1,Instr.alloc,zeroValue,typeInfo,z1,z2,newVar,newRow]
  unfold Oper.wp;rw[dx];simp only[Oper.upon,v2];refine⟨E.sU zv.cells t,rfl,?_,bw.trans zf,?_⟩
  .have:=bQ.put dQ (v:=.any) (x:=.pointer (U ⟨E.w.heap.size,0,ah⟩)) (by simp[R]) (U d)
   rw[FV] at this;simp only[kE,ar_ ajF] at this;exact this
  .obtain⟨hN,B,hB⟩:=hX;have h_:(E.sU zv.cells t).w.heap[E.w.heap.size]?=U (.cells zv.cells t (0,0)):=heap_alloc_new E.w _;have jo:zv.cells.size=n:=by have:=gb (sr (E:=E) z3);rw[<-hzn];simp at this;omega
   refine⟨by simp[Act.put,hN],λk=>if k=i then E.w.heap.size else B k,λk o' d' s8 fW ia im fv=>?_⟩;have Fg : ∀(j:Nat) o' x,ops[j]?=U o' -> nQ o' = U (d',s8,x)->listed.getD j aq=false:=λj o2 x2 h1 h2=>by
    have:=fv j o2 x2 h1 h2
    rw[wR uV] at this;simp only[w9] at this;exact this.2
   rw[wR uV] at im
   by_cases qG:k=i
   .subst qG;rw[ho] at fW;simp only[bg] at fW;subst fW;rw[hv] at ia;simp only[bg,pB] at ia;obtain⟨rfl,rfl⟩:=ia;simp only[cH];have Ty:d<a.tmps.size:=by
     have:=(TN d Tz).1
     have h0:=gb HX.slot;simp at h0;omega
    refine⟨by simp[Act.put,Ty],by simp[Env.sU],⟨_,_,h_,by rw[jo];exact hn⟩,vK bw.size (b7 _),λi' o' d' t' fW ia TI akq bh=>?_⟩;simp only[aw (fL bh)];have Mu:∀(j:Nat) o' x,ops[j]?=U o' -> nQ o' = U (d',t',x)->listed.getD j aq=false:=λj o2 x2 h1 h2=>by
     have:=akq j o2 x2 h1 h2
     rw[wR uV] at this;simp only[w9] at this;exact this.2
    rw[wR uV] at TI;have tL:listed.getD i' aq=true:=by simpa [fL bh] using TI
    obtain⟨_,_,⟨c,e,hc,_⟩,_⟩:=hB i' o' d' t' fW ia tL Mu
    have:=lb hc
    omega
   .simp only[aw qG];have gf:listed.getD k aq=true:=by simpa [qG] using im
    obtain⟨g1,g2,⟨c,e,g3,g4⟩,g5,g6⟩:=hB k o' d' s8 fW ia gf Fg;have an:=lb g3;have AX:d' ≠ d:=λe=>by subst e;exact qG (FA.uniq k i o' o d' s8 t fW ho ia hv)
    refine⟨by simp only[Act.put];rw[BZ (fL AX)];exact g1,by simp only[Env.sU];rw[aw (by omega)];exact g2,⟨c,e,((Ext.refl E.w).alloc zv.cells t).block _ an |>.trans g3,g4⟩,g5,λi' o2 d2 t2 pT uY tL tR bh=>?_⟩;have Mu:∀(j:Nat) o' x,ops[j]?=U o' -> nQ o' = U (d2,t2,x)->listed.getD j aq=false:=λj o3 x3 h1 h2=>by
     have:=tR j o3 x3 h1 h2
     rw[wR uV] at this;simp only[w9] at this;exact this.2
    by_cases eg : i' = i
    .simp only[aI eg];omega
    .simp only[aw eg];rw[wR uV] at tL;exact g6 i' o2 d2 t2 pT uY (by simpa [eg] using tL) Mu bh
 ·-- its first store
  right;obtain⟨v1,v2,v3⟩:=X6 hv;refine⟨v3,by rw[wC],λE a t' s v s' listed Q uV zp LD Tt jB hs bw hX kY=>?_⟩;rw[wC] at kY ⊢;simp only[aV.bq] at kY;obtain⟨wB,fG,rfl,kY⟩:=kY;obtain rfl:(s.1++[(ev (cq t' s) q).cells],s.2)=s' := by have:=jR (λq:St=>(q.au,q.out)) kY;simp only[cq,pB] at this;exact Prod.ext this.1 this.2
  simp only[kE];obtain⟨i0,o0,k1,k2⟩:=akf d t Mz;obtain⟨j0,oj,xj,m1,m2,m3⟩:=FA.st i0 o0 d t k1 k2;have LW:j0=i:=by
   obtain⟨y0,k4,k5⟩:=HZ j0 oj d t xj m1 m2 Mz
   rcases Nat.decEq j0 i with bh | he
   .have:=F.dst i j0 x y0 hx k4 (fL bh) d k5
    rw[wC] at this;exact absurd rfl this
   .exact he
  subst LW;rw[ho] at m1;simp only[bg] at m1;subst m1;have T3:∀(j:Nat) o' x,ops[j]?=U o' -> nQ o' = U (d,t,x)->j=j0:=λj o' x' h1 h2=>by
   obtain⟨y0,k4,k5⟩:=HZ j o' d t x' h1 h2 Mz
   rcases Nat.decEq j j0 with bh | he
   .have:=F.dst j0 j x y0 hx k4 (fL bh) d k5
    rw[wC] at this;exact absurd rfl this
   .exact he
  obtain⟨hN,B,hB⟩:=hX;obtain⟨g1,g2,⟨c,e,g3,g4⟩,g5,g6⟩:=hB i0 o0 d t k1 k2 (LD i0 m3) λj o' x' h1 h2=>by rw[T3 j o' x' h1 h2];exact zp
  have hR:=nG (E:=E) (st:=cq t' s) (a:=a) hs.slot hq;obtain⟨tF,dd⟩:=yK hR wB;have b9:c.size=n:=by rw[hn] at g4;simpa using g4.symm
  have dx:=OM (P:=P) (off:=0) hn g3 dd (by omega) (zG tF fG);obtain⟨f1,f2⟩:=Z9 hs bw g2 g5 g3 tF g1;have h_:(c.toList.take 0++(a.eval y).cells.toList++c.toList.drop (0+n)).toArray=(a.eval y).cells.toList.toArray:=by
   rw[JL (by simp;omega)];simp
  rw[h_] at dx;have hde:a.eval (.tmp d) = .pointer (U ⟨B i0,0,ah⟩):=by simp[Act.eval,rf,g1]
  unfold Oper.wp;rw[show(execOp a.eval o).run P E.w = .ok .skip (E.w.setRow (B i0) (a.eval y).cells.toList.toArray) from by simp[execOp,v1,hde,I2 dx]];simp only[Oper.upon,v2];refine⟨_,rfl,f2,f1,hN,B,λk o' d' s8 fW ia im fv=>?_⟩;have hkd:d' ≠ d:=λe=>by
   subst e;have e1:=FA.uniq k i0 o' o0 d' s8 t fW k1 ia k2;subst e1;rw[k1] at fW;simp only[bg] at fW;subst fW;rw[k2] at ia;simp only[bg,pB] at ia;obtain⟨_,rfl⟩:=ia
   have:=fv j0 o y ho hv
   rw[wR uV] at this;simp at this
  have xI:k≠i0:=by rintro rfl;rw[k1] at fW;simp only[bg] at fW;subst fW;rw[k2] at ia;simp only[bg,pB] at ia;exact hkd ia.1.symm
  have TM:∀(k:Nat) o',ops[k]?=U o' -> (nP o').isSome=aa->k≠j0:=λk o' fW dQ => by
   rintro rfl;rw[ho] at fW;simp only[bg] at fW;subst fW;cases hq:nP o with
   | none=>rw[hq] at dQ;simp at dQ
   | some p=>obtain⟨p1,p2⟩:=p;rw[(Pm hq).1] at v1;simp at v1
  have conv:∀{d t},(∀(j:Nat) o' x,ops[j]?=U o' -> nQ o' = U (d,t,x)->(listed.setIfInBounds j0 aa).getD j aq=aq)->∀(j:Nat) o' x,ops[j]?=U o' -> nQ o' = U (d,t,x)->listed.getD j aq=false:=λ{d t} h j o2 x2 h1 h2=>by
   have:=h j o2 x2 h1 h2
   rw[wR uV] at this;simp only[w9] at this;exact this.2
  have LZ:=TM k o' fW (by simp[ia]);rw[wR uV] at im;have gf:listed.getD k aq=true:=by simpa [LZ] using im
  obtain⟨p1,p2,⟨c',e',p3,p4⟩,p5,p6⟩:=hB k o' d' s8 fW ia gf (conv fv);have tO:B k≠B i0:=p6 i0 o0 d t k1 k2 (LD i0 m3) (λj o' x' h1 h2=>by rw[T3 j o' x' h1 h2];exact zp) xI;refine⟨p1,by simp only[Env.bare];rw[aw tO];exact p2,⟨c',e',by simp only[Env.bare];rw[setRow_other E.w (B i0) (B k) _ tO];exact p3,p4⟩,p5,λi' o2 d2 t2 pT uY tL tR bh=>?_⟩;rw[wR uV] at tL;exact p6 i' o2 d2 t2 pT uY (by simpa [TM i' o2 pT (by simp[uY])] using tL) (conv tR) bh
 ·-- any other step
  left;refine⟨uU,λlisted E E' a u hX kr => ?_⟩;obtain⟨hN,B,hB⟩:=hX;have l7:x.1.dst=o.dst:=by
   unfold u9 at uU;split at uU
   .simp at uU
   .split at uU
    .simp only[bg] at uU;rw[<-uU]
    .split at uU
     .simp only[bg] at uU;rw[<-uU]
     .simp at uU
  have dd:(a.put o.dst u).tmps.size=a.tmps.size:=by cases o.dst<;>simp[Act.put]
  refine⟨by rw[dd];exact hN,B,λk o' d' s8 fW ia im fv=>?_⟩;have qG:k≠i:=by rintro rfl;rw[ho] at fW;simp only[bg] at fW;subst fW;rw[T9] at ia;simp at ia
  have L6 : ∀k,k≠i->(listed.setIfInBounds i aa).getD k aq=listed.getD k false:=λk hk=>by
   rw[rf,BZ (fL hk),<-rf]
  have conv:∀{d t},isVar ops d t=aa->(∀(j:Nat) o' x,ops[j]?=U o' -> nQ o' = U (d,t,x)->(listed.setIfInBounds i aa).getD j aq=aq)->∀(j:Nat) o' x,ops[j]?=U o' -> nQ o' = U (d,t,x)->listed.getD j aq=false:=λ{d t} C2 h j o2 x2 h1 h2=>by
   have:=h j o2 x2 h1 h2
   rw[L6 j (by rintro rfl;rw[ho] at h1;simp only[bg] at h1;subst h1;rw[Dd _ _ _ h2] at C2;simp at C2)] at this;exact this
  rw[L6 k qG] at im;obtain⟨g1,g2,⟨c,e,g3,g4⟩,g5,g6⟩:=hB k o' d' s8 fW ia im (conv (E8 k o' d' s8 fW ia) fv);have an:=lb g3;obtain⟨h1,h2⟩:=kr.same _ an (.inr g2);obtain⟨j0,oj,xj,m1,m2,m3⟩:=FA.st k o' d' s8 fW ia;obtain⟨y0,k4,k5⟩:=HZ j0 oj d' s8 xj m1 m2 (E8 k o' d' s8 fW ia);have AX:o.dst≠U d' := λhd=>by
   have bh:i≠j0:=by rintro rfl;rw[ho] at m1;simp only[bg] at m1;subst m1;have:=Dd _ _ _ m2;rw[E8 k o' d' s8 fW ia] at this;simp at this
   exact F.dst i j0 x y0 hx k4 bh d' k5 (by rw[l7];exact hd)
  refine⟨?_,h2.trans g2,⟨c,e,h1.trans g3,g4⟩,g5,λi' o2 d2 t2 pT uY tL tR bh=>?_⟩
  .cases hod:o.dst with
   | none=>exact g1
   | some m=>simp only[Act.put];rw[BZ (by rintro rfl;exact AX hod)];exact g1
  .have eg : i' ≠ i:=by rintro rfl;rw[ho] at pT;simp only[bg] at pT;subst pT;rw[T9] at uY;simp at uY
   rw[L6 i' eg] at tL;exact g6 i' o2 d2 t2 pT uY tL (conv (E8 i' o2 d2 t2 pT uY) tR) bh
end
inductive AC where
 | skip
 | FZ (l:List AO)
 | kK (x:AC)
 | draw (l:List (AO × List Nat))
 | G' (nv:List Nat) (l:List (AO × List Nat))
 | hole (l:List (AO × List Nat)) (h:HI)
 | seq (x y:AC)
 | cond (c:X) (x y:AC)
 | block (id:Nat) (x:AC)
 | loop (x:AC)
 | scope (x:AC)
 | DG (l:List AO) (x:X) (dI dN dM out nxt:Nat) (y:AC)
 | exit (id:Nat)
 | ret
structure Hint where
 out:List Nat:=[]
 kK:List Nat:=[]
def AC.Gc(b:Bool)(x:AC):AC:=if b then .kK x else x
def Iq(P:Program)(h:Hint)(lg lh:Array Oper)(uG out vg nxt:Nat)(y:Option AC):Option AC :=
 match lg.toList.getLast?,lh.toList,y with
 | some oR, [oN, oM], U y =>
  match oR.op,oR.dst,oR.guard,oN.op,oN.dst,oN.guard,oM.op,oM.dst,oM.guard with
  | .range xt ox, U dI, ah, .next (.tmp RD) aa, U dN, ah, .extract (.tmp RE) 0, U dM, ah =>
   match P.underlying xt,Bv P h.out lg lg.toList.dropLast,c7 P xt ox with
   | some .string,U l,U x=>if RD = dI/\RE = dN/\uG = dM/\vg = out then U (.DG l x dI dN dM out nxt y) else ah
   | _,_,_=>ah
  | _,_,_,_,_,_,_,_,_=>ah
 | _,_,_=>ah
def gi(P:Program)(h:Hint):Code->Option AC
 | .skip=>U .skip
 | .region id ops aq=>(Bv P h.out ops ops.toList).map λl=>AC.Gc (h.kK.contains id) (.FZ l)
 | .region id ops aa =>
  match Im P ops with
  | some l=>U (AC.Gc (h.kK.contains id) (.draw l))
  | none =>
   match Ip P ops with
   | some p=>U (AC.Gc (h.kK.contains id) (.hole p.1 p.2))
   | none=>(Io P ops).map λp=>AC.Gc (h.kK.contains id) (.G' p.1 p.2)
 | .seq (.region i0 lg aq) (.block out (.loop (.seq (.region i1 lh aq) (.seq (.cond (.tmp uG) .skip (.exit vg)) (.block nxt b))))) =>
  match Iq P h lg lh uG out vg nxt (gi P h b) with
  | some r=>U r
  | none=>match gi P h (.region i0 lg aq),gi P h (.block out (.loop (.seq (.region i1 lh aq) (.seq (.cond (.tmp uG) .skip (.exit vg)) (.block nxt b))))) with | some x,U y=>U (.seq x y) | _,_=>ah
 | .seq a b=>match gi P h a,gi P h b with | some x,U y=>U (.seq x y) | _,_=>ah
 | .cond c a b=>match c7 P 0 c,gi P h a,gi P h b with | some c,U x,U y=>U (.cond c x y) | _,_,_=>ah
 | .block id a=>(gi P h a).map (.block id)
 | .loop a=>(gi P h a).map .loop
 | .scope a=>(gi P h a).map .scope
 | .exit id=>U (.exit id)
 | .ret=>U .ret
 | .label _=>U .skip
 | _=>ah
def a7(st:St)(K:St->Prop):Prop:=∀E a,bQ E st a->∃E' aU,E'.w=E.w/\Fr E E' /\ bQ E' aU a/\K aU
variable{K:St->Prop}
def a7.id(h:K st):a7 st K:=λE _ hs=>⟨E,st,rfl,Fr.refl E,hs,h⟩
variable{K':St->Prop}
def a7.bind(h:a7 st K)(k:∀aU,K aU -> a7 aU K'):a7 st K' := λE a hs =>
 let ⟨E',aU,h1,h2,h3,h4⟩:=h E a hs
 let ⟨mV,F9,k1,k2,k3,k4⟩:=k aU h4 E' a h3
 ⟨mV,F9,k1.trans h1,h2.trans k2,k3,k4⟩
def a7.mono(h:a7 st K)(k:∀aU,K aU -> K' aU):a7 st K' := h.bind λaU hk=>a7.id (k aU hk)
def uB:List Nat->List V->Option (List V)
 | [],t=>U t
 | d::ds,t=>if d<t.length then uB ds (t.set d .any) else ah
def QG:∀{ds:List Nat} {t t' : List V},uB ds t=U t' -> t'.length=t.length/\(∀d∈ds,d<t'.length/\t'.getD d .any = .any)/\(∀d,t.getD d .any = .any->t'.getD d .any = .any)/\∀(E:Env) vs,RL E t vs->RL E t' vs
 | [],t,t',h=>by simp only[uB,bg] at h;subst h;exact⟨rfl,by simp,λ_ h=>h,λ_ _ h=>h⟩
 | d :: ds, t, t', h => by
  simp only[uB] at h;split at h
  case isFalse=>simp at h
  rename_i hd;obtain⟨h1,h2,h3,h4⟩:=QG h;have hlen:t'.length=t.length:=by rw[h1];simp
  refine⟨hlen,λx hx=>?_,λx hx=>h3 x ?_,λE vs hr=>h4 E vs ?_⟩
  .rcases pz.1 hx with rfl | hx
   .exact⟨by omega,h3 x (by simp[gy,hd])⟩
   .exact h2 x hx
  .by_cases e:x=d
   .subst e;simp[gy,hd]
   .simpa [gy,D_ (fL e)] using hx
  .have hl:=gb hr;have hdv:d<vs.length:=by omega
   have:=GL hr d (x:=.any) (v:=vs[d]) (by simp[R])
   simpa using this
def Aj{ι:Type}(I:ι->St)(μ:ι->Nat)(Q:Exit->St->Prop)(n:Nat):Exit->St->Prop
 | .normal,st=>a7 st λaU => ∃j,aU = I j/\μ j<n
 | e,st=>Q e st
def D3(K:St->Prop)(Q:Exit->St->Prop):Exit->St->Prop
 | .normal,st=>K st
 | e,st=>Q e st
def yJ(out:Nat)(J:St->Prop)(Q:Exit->St->Prop):Exit->St->Prop
 | .normal,st=>a7 st J
 | .exit id,st=>if id=out then Q .normal st else Q (.exit id) st
 | e,st=>Q e st
def Cd(Q:Exit->St->Prop):Exit->St->Prop
 | .goto _,_=>False
 | e,st=>Q e st
def vc(P:Program):AC->(Exit->St->Prop)->St->Prop
 | .skip,Q,st=>Q .normal st
 | .FZ l,Q,st=>cj P l (Q .normal) st
 | .draw l,Q,st=>cK P l [(st.au,st.out)] [] (Q .normal) st
 | .hole l h,Q,st=>cK P l [(st.au,st.out)] [] (Gs h (Q .normal)) st
 | .G' nv l,Q,st=>∃t,uB nv st.t=U t/\cK P l [(st.au,st.out)] [] (Q .normal) ⟨t,st.au,st.out⟩
 | .kK x,Q,st=>a7 st λaU => vc P x Q aU
 | .seq x y,Q,st=>vc P x (D3 (vc P y Q) Q) st
 | .cond c x y,Q,st=>match ev st c with | .bool b=>(b=aa->vc P x Q st)/\(b=aq->vc P y Q st) | _=>False
 | .block id x,Q,st=>vc P x (tj id Q) st
 | .loop x,Q,st=>∃(ι:Type) (I:ι->St) (μ:ι->Nat),(a7 st λaU => ∃i,aU = I i)/\∀i,vc P x (Aj I μ Q (μ i)) (I i)
 | .scope x,Q,st=>vc P x (Cd Q) st
 | .DG l x dI dN dM out nxt y,Q,st=>cj P l (λnM=>∃s:List UInt8,ev nM x = .aH s/\(∀c∈s,c.toNat<128)/\∃I:Nat->Nat->St->Prop,
  (∀b,a7 (nM.put (U dI) (.raw (.pointer (U ⟨b,0,ah⟩)))) (I b 0)) /\
  (∀b i aU,I b i aU -> aU.t.getD dI .any = .raw (.pointer (U ⟨b,0,ah⟩))/\dN<aU.t.length/\dM<aU.t.length) /\
  (∀b i c aU,s[i]?=U c->I b i aU -> vc P y (tj nxt (yJ out (I b (i+1)) Q)) ((aU.put (U dN) (.bz [.bool aa,.int .i64 (i:Nat),.int .i32 (c.toNat:Nat)])).put (U dM) (.bool aa))) /\
  (∀b aU,I b s.length aU -> Q .normal ((aU.put (U dN) (.bz [.bool aq])).put (U dM) (.bool aq)))) st
 | .exit id,Q,st=>Q (.exit id) st
 | .ret,Q,st=>Q .ret st
variable{Q:Exit->St->Prop}
def ap5{c:Code}(h:a7 st (jd P c Q)):jd P c Q st:=by
 intro E a hs;obtain⟨E',aU,h1,h2,h3,h4⟩:=h E a hs;rw[<-h1];exact wp_mono (h4 E' a h3) λ_ _ _ ⟨mV,F9,k1,k2,k3,k4⟩=>⟨mV,F9,k1,k2,h2.trans k3,k4⟩
def alR{N:Nat->Prop}:∀n,N n->∃m,N m/\∀k,N k->m<=k:=λn=>by
 induction n using Nat.strongRecOn with
 | ind n ih =>
  intro h
  by_cases hq:∃k,N k/\k<n
  .obtain⟨k,h1,h2⟩:=hq;exact ih k h2 h1
  .refine⟨n,h,λk hk=>?_⟩
   by_cases an:k<n
   .exact absurd ⟨k,hk,an⟩ hq
   .omega
def apZ{c:Code}{ι:Type}(I:ι->St)(μ:ι->Nat)(h0:a7 st λaU => ∃i,aU = I i)(hr:∀i,jd P c (Aj I μ Q (μ i)) (I i)):jd P (.loop c) Q st:=by
 intro E a hs;obtain⟨E1,nM,h1,h2,h3,i0,rfl⟩:=h0 E a hs
 classical
 let J:Act->World->Prop:=λa w=>∃i E',E'.w=w/\bQ E' (I i) a/\Fr E E'
 let N:Act->World->Nat->Prop:=λa w n=>∃i E',E'.w=w/\bQ E' (I i) a/\Fr E E' /\ μ i=n
 have hL:∀a w,(∃n,N a w n)->∃m,N a w m/\∀k,N a w k->m<=k:=λa w h=>alR _ h.choose_spec
 let M:Act->World->Nat:=λa w=>if h:∃n,N a w n then(hL a w h).choose else 0
 refine wp_loop J M ⟨i0,E1,h1,h3,h2⟩ ?_;intro a w hJ;have hex:∃n,N a w n:=by obtain⟨i,E',k1,k2,k3⟩:=hJ;exact⟨μ i,i,E',k1,k2,k3,rfl⟩
 obtain⟨i,E',k1,k2,k3,k4⟩:=(hL a w hex).choose_spec.1;have hM:M a w=μ i:=by show(if h:∃n,N a w n then(hL a w h).choose else 0)=_;rw[yS hex];exact k4.symm
 subst k1;refine wp_mono (hr i E' a k2) ?_;rintro e a' w' ⟨E2,nN,rfl,m2,m3,m4⟩;cases e with
 | normal =>
  obtain⟨E3,zY,n1,n2,n3,j,rfl,an⟩:=m4 E2 a' m2;have hN:N a' E2.w (μ j):=⟨j,E3,n1,n3,(k3.trans m3).trans n2,rfl⟩;refine⟨⟨j,E3,n1,n3,(k3.trans m3).trans n2⟩,?_⟩;have avo : M a' E2.w<=μ j:=by
   show(if h:∃n,N a' E2.w n then(hL a' E2.w h).choose else 0)<=_;rw[yS ⟨_,hN⟩];exact(hL a' E2.w ⟨_,hN⟩).choose_spec.2 _ hN
  rw[hM];omega
 | exit id=>exact⟨E2,nN,rfl,m2,k3.trans m3,m4⟩
 | goto l=>exact⟨E2,nN,rfl,m2,k3.trans m3,m4⟩
 | ret=>exact⟨E2,nN,rfl,m2,k3.trans m3,m4⟩
 | panic c=>exact⟨E2,nN,rfl,m2,k3.trans m3,m4⟩
 | outgrown=>exact⟨E2,nN,rfl,m2,k3.trans m3,m4⟩
section
variable {P:Program}
def N4{hn:List Nat}{ops:Array Oper}{K:St->Prop}{Q:Exit->Act->World->Prop}{E0:Env}{rest:List Nat}(hQ:∀E st a,bQ E st a->Fr E0 E->K st->wpOps P ops Q rest a E.w):∀(os:List Oper) (l:List AO) (i:Nat),Bv P hn ops os=U l ->
 (∀j:Nat,j<os.length->os[j]?=ops[i+j]?)->∀E st a,bQ E st a->Fr E0 E->cj P l K st->wpOps P ops Q (List.range' i os.length++rest) a E.w
 | [], l, i, hl, _, E, st, a, hs, hf, h => by
  simp only[Bv,bg] at hl;subst hl;exact hQ E st a hs hf h
 | o :: os, l, i, hl, rD, E, st, a, hs, hf, h => by
  simp only[Bv,iK,dB] at hl;obtain⟨x,hx,l',im,rfl⟩:=hl;have ho:ops[i]?=U o:=by have:=rD 0 (by simp);simpa using this.symm
  have aj1 : ∀j:Nat,j<os.length->os[j]?=ops[i+1+j]?:=λj hj=>by
   have:=rD (j+1) (by simp;omega)
   rw[show i+(j+1)=i+1+j from by omega] at this;simpa using this
  have ih:=N4 hQ os l' (i+1) im aj1;have key:∀{ao:aV} {d:Option Tmp},FH P hn o=ao->d=o.dst->ao.bq P st (λv aU => cj P l' K (aU.put d v))->o.wp P a E.w (wpOps P ops Q (List.range' (i+1) os.length++rest)) Q:=λ{ao d} hao hd kY=>by
   subst hd;subst hao;refine Oper.wp_mono ?_ (amC (Q:=Q) hs kY);rintro a' w' ⟨E',v,u,aU,rfl,kr,dQ,hv,rfl,hk⟩;exact ih E' _ _ (bQ.put dQ hv o.dst) (hf.trans kr) hk
  simp only[da,Eb,jN,wpOps,ho];unfold U3 at hx;cases hg:o.guard with
  | none =>
   rw[hg] at hx;simp only[bg] at hx;subst hx;simp only[cj] at h;rw[aI (by simp[Region.wanted,hg])];exact .inl (key rfl rfl h)
  | some p =>
   obtain⟨j,want⟩:=p;rw[hg] at hx;simp only at hx;split at hx
   case h_2=>simp at hx
   rename_i g pQ;simp only[bg] at hx;subst hx;simp only[cj] at h;split at h
   .rename_i b hb;have hR:=CE hs.slot g;rw[hb] at hR;simp only[R,Act.eval] at hR;have rD:a.tmps[g]?=U (.bool b):=by
     rw[rf] at hR;cases hq:a.tmps[g]? with
     | none=>rw[hq] at hR;simp[undef] at hR
     | some u=>rw[hq] at hR;simp at hR;rw[hR]
    have hw:Region.wanted o (yielded ops a.tmps)=(b == want):=by
     simp only[Region.wanted,hg,yielded,pQ,xe,rD];cases b<;>cases want<;>rfl
    split at h
    .rename_i LG;rw[hw,aI (by simp[LG])];exact .inl (key rfl rfl h)
    .rename_i LG;rw[hw,aw (by simp[LG])];exact ih E _ _ (bQ.put hs (v:=.bz []) (x:=undef) J3 o.dst) hf h
   .rename_i hb;have hR:=CE hs.slot g;rw[hb] at hR;have hu:=Qv hR;have hw:Region.wanted o (yielded ops a.tmps)=false:=by
     simp only[Region.wanted,hg,yielded,pQ,xe];simp only[Act.eval] at hu;cases hq:a.tmps[g]? with
     | none=>rfl
     | some u =>
      rw[rf,hq] at hu;simp at hu;rw[hu];rfl
    rw[hw,aw (by simp)];exact ih E _ _ (bQ.put hs (v:=.bz []) (x:=undef) J3 o.dst) hf h
   .exact h.elim
def Jl{c:Code}{x:AC}(ih:∀(Q:Exit->St->Prop) (st:St),vc P x Q st->jd P c Q st)(b:Bool)(Q:Exit->St->Prop)(st:St)(h:vc P (AC.Gc b x) Q st):jd P c Q st:=by
 cases b with
 | false=>exact ih Q st h
 | true=>exact ap5 (h.mono λaU h' => ih Q aU h')
def eval_put{x:Value}(h:d<a.tmps.size):(a.put (U d) x).eval (.tmp d)=x:=by
 simp[Act.put,Act.eval,h]
variable{cb:Code}{i1 out:Nat}{lh:Array Oper}
def rounds{oN oM:Oper}{dI dN dM nxt:Nat}{E0:Env}{s:List UInt8}{I:Nat->St->Prop}
 (h1:lh.toList=[oN,oM]) (hN:oN.op = .next (.tmp dI) aa) (Lm:oN.dst=U dN) (Ln:oN.guard=ah) (hM:oM.op = .extract (.tmp dN) 0) (Lk:oM.dst=U dM) (Ll:oM.guard=ah)
 (Ly:E0.w.heap.size<=b) (Lx:∀c∈s,c.toNat<128) (C9:∀i aU,I i aU -> aU.t.getD dI .any = .raw (.pointer (U ⟨b,0,ah⟩))/\dN<aU.t.length/\dM<aU.t.length)
 (LF:∀i c aU,s[i]?=U c->I i aU -> jd P cb (tj nxt (yJ out (I (i+1)) Q)) ((aU.put (U dN) (.bz [.bool aa,.int .i64 (i:Nat),.int .i32 (c.toNat:Nat)])).put (U dM) (.bool aa)))
 (dD:∀aU,I s.length aU -> Q .normal ((aU.put (U dN) (.bz [.bool aq])).put (U dM) (.bool aq)))
 {E:Env} {st:St} {a:Act} (hs:bQ E st a) (hf:Fr E0 E) (hr:E.bj b = .mK) (hh:E.w.heap[b]?=U (.stringIter ⟨s.toArray⟩ 0)) (hI:I 0 st) :
 (Code.block out (.loop (.seq (.region i1 lh aq) (.seq (.cond (.tmp dM) .skip (.exit out)) (.block nxt cb))))).wp P (λe a' w' => ∃E' aU,E'.w=w' /\ bQ E' aU a' /\ Fr E0 E' /\ Q e aU) a E.w:=by
 refine wp_block ?_;refine wp_loop (λa w=>∃i aU E',E'.w=w/\i<=s.length/\I i aU /\ bQ E' aU a/\Fr E0 E' /\ E'.bj b = .mK/\E'.w.heap[b]?=U (.stringIter ⟨s.toArray⟩ i)) (λa w=>match w.heap[b]? with | some (.stringIter z p)=>z.size - p | _=>0) ⟨0,st,E,rfl,by omega,hI,hs,hf,hr,hh⟩ ?_;rintro a _ ⟨i,aU,E',rfl,hi,hI,dQ,kr,cL,ET⟩;obtain⟨Ms,xJ,gf⟩:=C9 i aU hI;have hlen:aU.t.length=a.tmps.size:=by have:=gb dQ.slot;simpa using this
 have hdI:a.eval (.tmp dI) = .pointer (U ⟨b,0,ah⟩):=by
  have:=CE dQ.slot dI
  rw[show ev aU (.s dI)=aU.t.getD dI .any from rfl,Ms] at this;simpa [R] using this
 have hg0:lh[0]?=U oN:=by rw[<-PQ,h1];rfl
 have HK:lh[1]?=U oM:=by rw[<-PQ,h1];rfl
 have dd:lh.size=2:=by rw[<-B0,h1];rfl
 refine wp_seq (wp_region ?_);rw[dd];show wpOps P lh _ [0,1] a E'.w;have step:∀(y:Value) (t:V) (us:Array Value) (bb:Bool) (w1:World) (E1:Env),(Instr.next (.pointer (U ⟨b,0,ah⟩)) aa oN.type).run P E'.w = .ok y w1->y = .tuple us->us[0]?=U (.bool bb)->E1.w=w1->bQ E1 aU a->R E1 t y ->
  ∀(QQ:Exit->Act->World->Prop),(∀a',bQ E1 ((aU.put (U dN) t).put (U dM) (.bool bb)) a' -> a'.eval (.tmp dM) = .bool bb->QQ .normal a' w1)->wpOps P lh QQ [0,1] a E'.w:=by
  intro y t us bb w1 E1 dx hy My hw oD hR QQ hQ;subst hy;simp only[wpOps,hg0,HK];rw[aI (by simp[Region.wanted,Ln])];left;unfold Oper.wp;rw[show(execOp a.eval oN).run P E'.w = .ok (.value (.tuple us)) w1 by simp[execOp,hN,hdI,dx]];simp only[Oper.upon];rw[aI (by simp[Region.wanted,Ll])];left;have he:(a.put (U dN) (.tuple us)).eval (.tmp dN) = .tuple us:=eval_put (by omega);rw[Lm,show(execOp (a.put (U dN) (.tuple us)).eval oM).run P w1 = .ok (.value (.bool bb)) w1 by simp[execOp,hM,he,Instr.extract,My]];simp only[Lk];refine hQ _ ?_ (eval_put (by simp[Act.put];omega));exact bQ.put (bQ.put oD hR (U dN)) (by simp[R]) (U dM)
 by_cases an:i<s.length
 .have rD:s[i]?=U s[i]:=bN an;have ny:(⟨s.toArray⟩:ByteArray).get! i=s[i]:=by simp[ByteArray.get!,an]
  have dx:=arK (P:=P) (t:=oN.type) ET (by simpa [ByteArray.size] using an) (by rw[ny];exact Lx _ (dq an));rw[ny] at dx;refine step _ (.bz [.bool aa,.int .i64 (i:Nat),.int .i32 (s[i].toNat:Nat)]) _ aa _ (E'.j1 b (.stringIter ⟨s.toArray⟩ (i+1))) dx rfl rfl rfl (bQ.j1 cL dQ) (by simp[R,RL]) _ ?_;intro a' Mo LM;refine wp_seq (wp_cond_true LM (wp_skip ?_));refine wp_block ?_;have l9:Fr E0 (E'.j1 b (.stringIter ⟨s.toArray⟩ (i+1))):=Fr.j1 kr cL Ly ET;have tK:(E'.j1 b (.stringIter ⟨s.toArray⟩ (i+1))).w.heap[b]?=U (.stringIter ⟨s.toArray⟩ (i+1)):=Xs ET;have L9:b<(E'.j1 b (.stringIter ⟨s.toArray⟩ (i+1))).w.heap.size:=(lr.1 tK).1;refine wp_mono (LF i s[i] aU rD hI _ a' Mo) ?_;rintro e a2 w2 ⟨E3,zY,rfl,Bb,zd,hq⟩;have C4:=zd.same b L9 (.inr cL);have norm:a7 zY (I (i+1))->(∃i aU E',E'.w=E3.w/\i<=s.length/\I i aU /\ bQ E' aU a2/\Fr E0 E' /\ E'.bj b = .mK/\E'.w.heap[b]?=U (.stringIter ⟨s.toArray⟩ i)) /\
   (match E3.w.heap[b]? with | some (.stringIter z p)=>z.size - p | _=>0)<(match E'.w.heap[b]? with | some (.stringIter z p)=>z.size - p | _=>0):=by
   intro hU;obtain⟨E4,XI,MA,ER,Mn,Lg⟩:=hU E3 a2 Bb;have sF:b<E3.w.heap.size:=by rw[tK] at C4;exact(lr.1 C4.1).1
   have EV:=ER.same b sF (.inr (C4.2.trans cL));refine⟨⟨i+1,XI,E4,MA,an,Lg,Mn,(l9.trans zd).trans ER,EV.2.trans (C4.2.trans cL),EV.1.trans (C4.1.trans tK)⟩,?_⟩;rw[C4.1,tK,ET];simp only[ByteArray.size,Qk];omega
  cases e with
  | normal=>exact norm hq
  | exit id =>
   simp only[tj,yJ] at hq;simp only[Exit.inBlock,Exit.then]
   by_cases e1:id=nxt
   .rw[aI e1] at hq ⊢;exact norm hq
   .rw[aw e1] at hq ⊢
    by_cases e2:id=out
    .rw[aI e2] at hq ⊢;exact⟨E3,zY,rfl,Bb,l9.trans zd,hq⟩
    .rw[aw e2] at hq ⊢;exact⟨E3,zY,rfl,Bb,l9.trans zd,hq⟩
  | goto l=>exact⟨E3,zY,rfl,Bb,l9.trans zd,hq⟩
  | ret=>exact⟨E3,zY,rfl,Bb,l9.trans zd,hq⟩
  | panic c=>exact⟨E3,zY,rfl,Bb,l9.trans zd,hq⟩
  | outgrown=>exact⟨E3,zY,rfl,Bb,l9.trans zd,hq⟩
 .have A1:i=s.length:=by omega
  subst A1;have dx:=run_next_end (P:=P) (t:=oN.type) ET (by simp[ByteArray.size]);refine step _ (.bz [.bool aq]) _ aq _ E' dx rfl rfl rfl dQ (by simp[R,RL]) _ ?_;intro a' Mo LM;refine wp_seq (wp_cond_false LM (wp_exit ?_));simp only[Exit.then,Exit.inBlock,cH];exact⟨E',_,rfl,Mo,kr,dD aU hI⟩
variable{lg:Array Oper}
def ap0{VB:(Exit->St->Prop)->St->Prop}{hn:List Nat}{os:List Oper}{oR oN oM:Oper}{l0:List AO}{xt:TypeId}{ox:Operand}{x:X}{dI dN dM i0 nxt:Nat}
 (h0:lg.toList=os++[oR]) (hR:oR.op = .range xt ox) (hRd:oR.dst=U dI) (hRg:oR.guard=ah) (ht:P.underlying xt=U .string) (hl:Bv P hn lg os=U l0) (hx:c7 P xt ox=U x)
 (h1:lh.toList=[oN,oM]) (hN:oN.op = .next (.tmp dI) aa) (Lm:oN.dst=U dN) (Ln:oN.guard=ah) (hM:oM.op = .extract (.tmp dN) 0) (Lk:oM.dst=U dM) (Ll:oM.guard=ah)
 (hVB:∀Q st,VB Q st->jd P cb Q st) (h:cj P l0 (λnM=>∃s:List UInt8,ev nM x = .aH s/\(∀c∈s,c.toNat<128)/\∃I:Nat->Nat->St->Prop,
   (∀b,a7 (nM.put (U dI) (.raw (.pointer (U ⟨b,0,ah⟩)))) (I b 0)) /\
   (∀b i aU,I b i aU -> aU.t.getD dI .any = .raw (.pointer (U ⟨b,0,ah⟩))/\dN<aU.t.length/\dM<aU.t.length) /\
   (∀b i c aU,s[i]?=U c->I b i aU -> VB (tj nxt (yJ out (I b (i+1)) Q)) ((aU.put (U dN) (.bz [.bool aa,.int .i64 (i:Nat),.int .i32 (c.toNat:Nat)])).put (U dM) (.bool aa))) /\
   (∀b aU,I b s.length aU -> Q .normal ((aU.put (U dN) (.bz [.bool aq])).put (U dM) (.bool aq)))) st) :
 jd P (.seq (.region i0 lg aq) (.block out (.loop (.seq (.region i1 lh aq) (.seq (.cond (.tmp dM) .skip (.exit out)) (.block nxt cb)))))) Q st:=by
 intro E a hs;refine wp_seq (wp_region ?_);have dd:lg.size=os.length+1:=by rw[<-B0,h0];simp
 have rD:∀j:Nat,lg[j]?=(os++[oR])[j]?:=λj=>by rw[<-h0];simp
 rw[vH,dd,List.range'_concat,show 0+1*os.length=os.length by omega];refine N4 (rest:=[os.length]) (K:=_) (E0:=E) ?_ os l0 0 hl ?_ E st a hs (Fr.refl E) h
 .rintro E1 nM a1 oD rA ⟨s,LO,Lx,I,hU,C9,LF,dD⟩;have ho:lg[os.length]?=U oR:=by rw[rD];simp
  simp only[wpOps,ho];rw[aI (by simp[Region.wanted,hRg])];left;have gh:=nG (E:=E1) (st:=nM) (a:=a1) oD.slot hx;rw[LO] at gh;simp only[R] at gh;have dx:(execOp a1.eval oR).run P E1.w = .ok (.value (.pointer (U ⟨E1.w.heap.size,0,ah⟩))) (E1.w.alloc (.stringIter ⟨s.toArray⟩ 0)):=by simp[execOp,hR,gh,arL ht]
  unfold Oper.wp;rw[dx];simp only[Oper.upon,hRd];obtain⟨f2,s2,r2,b2⟩:=anf (s:=⟨s.toArray⟩) (p:=0) oD;have s3:bQ (E1.mO (.stringIter ⟨s.toArray⟩ 0)) (nM.put (U dI) (.raw (.pointer (U ⟨E1.w.heap.size,0,ah⟩)))) (a1.put (U dI) (.pointer (U ⟨E1.w.heap.size,0,ah⟩))):=bQ.put s2 (by simp[R]) (U dI);obtain⟨E4,XI,MA,ER,Mn,Lg⟩:=hU E1.w.heap.size _ _ s3;have L9:E1.w.heap.size<(E1.mO (.stringIter ⟨s.toArray⟩ 0)).w.heap.size:=(lr.1 b2).1;have EV:=ER.same E1.w.heap.size L9 (.inr r2)
  have:=rounds (i1:=i1) (out:=out) (nxt:=nxt) (I:=I E1.w.heap.size) h1 hN Lm Ln hM Lk Ll rA.size Lx (C9 E1.w.heap.size) (λi c aU hc hI=>hVB _ _ (LF E1.w.heap.size i c aU hc hI)) (dD E1.w.heap.size) Mn ((rA.trans f2).trans ER) (EV.2.trans r2) (EV.1.trans b2) Lg
  rw[MA] at this;exact this
 .intro j hj;rw[j7,rD,sc hj]
def ap2{P:Program}{c:Code}(h:jd P c (Cd Q) st):jd P (.scope c) Q st:=by
 intro E a hs;refine wp_scope_straight (wp_mono (h E a hs) ?_);rintro e a' w' ⟨E',aU,rfl,h2,h3,h4⟩;cases e with
 | goto l=>exact h4.elim
 | _=>exact⟨E',aU,rfl,h2,h3,h4⟩
variable{h:Hint}
def amB{uG vg nxt i0:Nat}{y:Option AC}{z:AC}(hz:Iq P h lg lh uG out vg nxt y=U z)(ih:∀y',y=U y' -> ∀(Q:Exit->St->Prop) (st:St),vc P y' Q st->jd P cb Q st)
 (Q:Exit->St->Prop) (st:St) (hv:vc P z Q st):jd P (.seq (.region i0 lg aq) (.block out (.loop (.seq (.region i1 lh aq) (.seq (.cond (.tmp uG) .skip (.exit vg)) (.block nxt cb)))))) Q st:=by
 unfold Iq at hz;split at hz
 case h_2=>simp at hz
 rename_i oR oN oM y' hl h1;split at hz
 case h_2=>simp at hz
 rename_i xt ox dI RD dN RE dM g1 g2 g3 g4 g5 g6 g7 g8 g9;split at hz
 case h_2=>simp at hz
 rename_i l x k1 k2 k3;split at hz
 case isFalse=>simp at hz
 rename_i he;obtain⟨rfl,rfl,rfl,rfl⟩:=he;simp only[bg] at hz;subst hz;have h0:lg.toList=lg.toList.dropLast++[oR]:=by
  obtain⟨ys,qN⟩:=List.getLast?_eq_some_iff.1 hl;rw[qN];simp
 exact ap0 (VB:=vc P y') h0 g1 g2 g3 k1 k2 k3 h1 g4 g5 g6 g7 g8 g9 (ih y' rfl) hv
def amx{a b:Code}{z:AC}(hz:gi P h (.seq a b)=U z):(∃x y,gi P h a=U x/\gi P h b=U y/\z = .seq x y) \/
 (∃i0 lg out i1 lh uG vg nxt cb,a = .region i0 lg aq/\b = .block out (.loop (.seq (.region i1 lh aq) (.seq (.cond (.tmp uG) .skip (.exit vg)) (.block nxt cb))))/\Iq P h lg lh uG out vg nxt (gi P h cb)=U z):=by
 have gen:(match gi P h a,gi P h b with | some x,U y=>U (AC.seq x y) | _,_=>ah)=U z->∃x y,gi P h a=U x/\gi P h b=U y/\z = .seq x y:=by
  intro e;split at e
  .rename_i x y hx hy;simp only[bg] at e;exact⟨x,y,hx,hy,e.symm⟩
  .simp at e
 unfold gi at hz;split at hz
 all_goals (try (exfalso;simp_all;done))
 .rename_i heq;simp only[Code.seq.injEq] at heq;obtain⟨rfl,rfl⟩:=heq;split at hz
  .rename_i r hr;exact .inr ⟨_,_,_,_,_,_,_,_,_,rfl,rfl,by rw[hr];exact hz⟩
  .exact .inl (gen hz)
 .rename_i heq;simp only[Code.seq.injEq] at heq;obtain⟨rfl,rfl⟩:=heq;exact .inl (gen hz)
def yq{h:Hint}:∀(c:Code) (x:AC),gi P h c=U x->∀(Q:Exit->St->Prop) (st:St),vc P x Q st->jd P c Q st
 | .skip,x,hl,Q,st,h=>by simp only[gi,bg] at hl;subst hl;exact ap4 h
 | .region id ops aq, x, hl, Q, st, h => by
  simp only[gi,dB] at hl;obtain⟨l,hl,rfl⟩:=hl;refine Jl (λQ st h E a hs=>?_) _ Q st h;refine wp_region ?_
  have:=N4 (P:=P) (ops:=ops) (K:=Q .normal) (E0:=E) (Q:=λe a' w' => ∃E' aU,E'.w=w' /\ bQ E' aU a' /\ Fr E E' /\ Q e aU) (rest:=[]) (λE' aU a' h1 h2 h3=>⟨E',aU,rfl,h1,h2,h3⟩) ops.toList l 0 hl (λj _=>by simp) E st a hs (Fr.refl E) h
  rw[vH];simpa using this
 | .region id ops aa, x, hl, Q, st, h => by
  simp only[gi] at hl;split at hl
  .rename_i l im;simp only[bg] at hl;subst hl;refine Jl (λQ st h=>?_) _ Q st h;exact Ok (acP im h) λe aU ⟨h1,h2⟩=>by subst h1;exact h2
  .split at hl
   .rename_i p im;obtain⟨l,hi⟩:=p;simp only[bg] at hl;subst hl;refine Jl (λQ st h=>?_) _ Q st h;exact Ok (akk im h) λe aU ⟨h1,h2⟩=>by subst h1;exact h2
   .simp only[dB] at hl;obtain⟨⟨nv,l⟩,hl,rfl⟩:=hl;refine Jl (λQ st h=>?_) _ Q st h;obtain⟨t,h1,h2⟩:=h;obtain⟨_,k2,_,k4⟩:=QG h1;intro E a hs
    have:=acN (st:=⟨t,st.au,st.out⟩) (id:=id) hl k2 h2 E a ⟨hs.ok,hs.du,hs.defers,k4 E _ hs.slot⟩
    exact wp_mono this λe a' w' ⟨E',aU,m1,m2,m3,m4,m5⟩=>⟨E',aU,m1,m2,m3,by subst m4;exact m5⟩
 | .seq a b, x, hl, Q, st, h => by
  rcases amx hl with ⟨y,z,hy,hz,rfl⟩ | ⟨i0,lg,out,i1,lh,uG,vg,nxt,cb,rfl,rfl,hz⟩
  .refine ap3 (Ok (yq a y hy _ st h) λe aU he=>?_);cases e with
   | normal=>exact yq b z hz Q aU he
   | _=>exact he
  .exact amB hz (λy' hy=>yq cb y' hy) Q st h
 | .cond c a b, x, hl, Q, st, h => by
  simp only[gi] at hl;split at hl
  case h_2=>simp at hl
  rename_i ax y z hx hy hz;simp only[bg] at hl;subst hl;simp only[vc] at h;split at h
  case h_2=>exact h.elim
  rename_i b' hb;intro E ac hs;have hR:=nG (E:=E) (st:=st) (a:=ac) hs.slot hx;rw[hb] at hR;simp only[R] at hR;exact wp_cond_split hR (λht=>yq a y hy Q st (h.1 ht) E ac hs) (λht=>yq b z hz Q st (h.2 ht) E ac hs)
 | .block id a, x, hl, Q, st, h => by
  simp only[gi,dB] at hl;obtain⟨y,hy,rfl⟩:=hl;exact apW (yq a y hy _ st h)
 | .loop a, x, hl, Q, st, h => by
  simp only[gi,dB] at hl;obtain⟨y,hy,rfl⟩:=hl;obtain⟨ι,I,μ,h0,hr⟩:=h;exact apZ I μ h0 λi=>yq a y hy _ (I i) (hr i)
 | .exit id,x,hl,Q,st,h=>by simp only[gi,bg] at hl;subst hl;exact apX h
 | .ret,x,hl,Q,st,h=>by simp only[gi,bg] at hl;subst hl;exact ap1 h
 | .label l,x,hl,Q,st,h=>by simp only[gi,bg] at hl;subst hl;exact apY h
 | .goto l,x,hl,Q,st,h=>by simp[gi] at hl
 | .scope a, x, hl, Q, st, h => by
  simp only[gi,dB] at hl;obtain⟨y,hy,rfl⟩:=hl;exact ap2 (yq a y hy _ st h)
 | .refuse w,x,hl,Q,st,h=>by simp[gi] at hl
 | .rangeFunc f p a b,x,hl,Q,st,h=>by simp[gi] at hl
inductive RV where
 | tmp (t:Nat)
 | cell (t:Nat) (agg:Bool) (n:Nat)
def NJ(P:Program):ResultVar->Option RV
 | .tmp t=>U (.tmp t)
 | .cell a t=>match iv P t,eT P t with | some g,U n=>U (.cell a g n) | _,_=>ah
def By(P:Program):List ResultVar->Option (List RV)
 | []=>U []
 | r::rs=>(NJ P r).bind λx=>(By P rs).map (x::·)
def rv(st:St):RV->Option V
 | .tmp t=>U (st.t.getD t .any)
 | .cell t g n=>lF st g n (st.t.getD t .any)
def vo(st:St):List RV->Option (List V)
 | []=>U []
 | r::rs=>(rv st r).bind λx=>(vo st rs).map (x::·)
def ve:List V->V
 | [x]=>x
 | xs=>.bz xs
def ab.sub(σ' Z:ab):Prop:=(∀b cs,σ'.box b=U cs->Z.box b=U cs)/\(∀t n,σ'.aY t=U n->Z.aY t=U n)/\∀b cs,σ'.cQ b=U cs->Z.cQ b=U cs
def ab.bc(Z:ab):Z.sub Z:=⟨λ_ _ h=>h,λ_ _ h=>h,λ_ _ h=>h⟩
def jx(R' : V->ab->Prop)(st:St):V->Prop:=λv=>v.cM=aa/\∃(σ' : ab) (w:V),σ'.sub st.out/\(w=v.erase\/w=v)/\R' w σ'
def Ef(rs:List RV)(R' : V->ab->Prop):Exit->St->Prop
 | .normal,st | .ret,st=>opt ((vo st rs).map ve) (jx R' st)
 | _,_=>False
def Xd{E:Env}{st:St}{a:Act}(hs:bQ E st a):∀{rs:List ResultVar} {ys:List RV} {vs:List V},By P rs=U ys->vo st ys=U vs ->
 ∃us:List Value,(rs.mapM λ| .tmp t=>pure (a.tmps.getD t undef) | .cell ad t=>do loadVar t (<-asAddr (a.tmps.getD ad undef)):Sem (List Value)).run P E.w = .ok us E.w/\RL E vs us
 | [], ys, vs, h1, h2 => by
  simp only[By,bg] at h1;subst h1;simp only[vo,bg] at h2;subst h2;exact⟨[],by simp,by simp[RL]⟩
 | r :: rs, ys, vs, h1, h2 => by
  simp only[By,iK,dB] at h1;obtain⟨y,hy,YA,qN,rfl⟩:=h1;simp only[vo,iK,dB] at h2;obtain⟨v,hv,DV,Dd,rfl⟩:=h2;obtain⟨us,k1,k2⟩:=Xd hs qN Dd;cases r with
  | tmp t =>
   simp only[NJ,bg] at hy;subst hy;simp only[rv,bg] at hv;subst hv;have hR:=CE hs.slot t;refine⟨a.tmps.getD t undef::us,?_,by simp only[RL];exact⟨hR,k2⟩⟩;rw[List.mapM_cons];simp only[Sem.run_bind,Sem.run_pure,Result.andThen_ok,k1]
  | cell ad t =>
   simp only[NJ] at hy;split at hy
   case h_2=>simp at hy
   rename_i g n hg hn;simp only[bg] at hy;subst hy;simp only[rv] at hv;have hR:=CE hs.slot ad;have n5 : R E (st.t.getD ad .any) (a.tmps.getD ad undef):=hR;obtain⟨b,off,cs,e1,e2,e3⟩:=UK hs hv n5;obtain⟨u,e4,e5⟩:=run_load (P:=P) hg hn e2 e3;refine⟨u::us,?_,by simp only[RL];exact⟨e5,k2⟩⟩;rw[List.mapM_cons];have e6:((do loadVar t (<-asAddr (a.tmps.getD ad undef)):Sem Value)).run P E.w = .ok u E.w:=by
    rw[e1];simp only[asAddr,Sem.run_bind,Sem.run_pure,Result.andThen_ok,e4]
   rw[Sem.run_bind];show((do loadVar t (<-asAddr (a.tmps.getD ad undef)):Sem Value).run P E.w).andThen _=_;rw[e6,Result.andThen_ok,Sem.run_bind,k1,Result.andThen_ok,Sem.run_pure]
variable{f:FuncId}{fn:Func}
def adv(hf:P.funcs[f]?=U fn)(hn:(fn.name == "runtime.NumGoroutine")=aq)(hb:fn.body.isNone=aq):P2 P f:=λargs w=>by
 have cn : fn.body.isNone=false:=hb;simp only[callFunc,Sem.run_bind,run_program,Result.andThen_ok,hf];split
 .rename_i h;simp[hn] at h
 .split
  .rename_i h;simp at h;rw[h] at cn;simp at cn
  .rfl
def apf{c:Code}{x:AC}{rs:List RV}(hf:P.funcs[f]?=U fn)(ake:(fn.name == "runtime.NumGoroutine")=aq)(hb:fn.body=U c)(hl:gi P h c=U x)(hr:By P fn.results.toList=U rs)
 {n:Nat} (hn:fn.ntmps=n) {args:List V} {Z:ab} {R' : V->ab->Prop} (hv:vc P x (Ef rs R') ⟨args++aj (n - args.length) .any,[],Z⟩):cF P f args Z R' := by
 refine⟨adv hf ake (by rw[hb];rfl),λE vs L5 cc Lv=>?_⟩;refine calls_of_wp hf hb ?_;have hlen:=gb Lv;have hs:bQ E ⟨args++aj (n - args.length) .any,[],Z⟩ {tmps:=vs++Array.replicate (fn.ntmps - vs.size) undef,defers:=[]}:=by
  refine⟨cc,⟨λi cs h=>by simp at h,λi _=>L5 i⟩,rfl,?_⟩;simp only[Array.toList_append,Array.toList_replicate];refine vO Lv ?_;rw[hn,show args.length=vs.size from by simpa using hlen]
  have:=Qr (E:=E) (aj (n - vs.size) undef)
  simpa using this
 refine wp_mono (yq c x hl _ _ hv E _ hs) ?_;rintro e a' w' ⟨E',aU,rfl,dQ,bw,hq⟩;have fin:opt ((vo aU rs).map ve) (jx R' aU)->a'.defers=[]/\∃v,(results fn a'.tmps).run P E'.w = .ok v E'.w /\
  ∃v' x mV σ',Ending.returned v = .returned x/\mV.w=E'.w/\(∀i,mV.au i=ah)/\mV.ok σ' /\ R mV v' x/\Fr E mV /\ R' v' σ' := λhq=>by
  refine⟨dQ.defers,?_⟩;unfold opt at hq;split at hq
  case h_2=>exact hq.elim
  rename_i v hv;simp only[dB] at hv;obtain⟨DV,Dd,rfl⟩:=hv;obtain⟨us,k1,k2⟩:=Xd (P:=P) dQ hr Dd;obtain⟨pS,σ',w,qL,hw,n5⟩:=hq;have fG:∃u,(results fn a'.tmps).run P E'.w = .ok u E'.w/\R E' (ve DV) u:=by
   have bI:(results fn a'.tmps).run P E'.w = .ok (if h:us.toArray.size=1 then us.toArray[0] else .tuple us.toArray) E'.w:=by
    unfold results;rw[<-Array.toArray_toList (xs:=fn.results),List.mapM_toArray];simp only[Sem.run_bind,Sem.run_map]
    erw [k1]
    simp only[Result.andThen_ok,Sem.run_pure]
   refine⟨_,bI,?_⟩;have gf:=gb k2
   match DV,us,k2 with
   | [y], [u], k2 =>
    simp only[RL] at k2;simp[ve,k2.1]
   | [],[],k2=>simp[ve,R];exact k2
   | y :: z :: ys, u :: u' :: us', k2 =>
    simp only[ve];rw[dif_neg (by simp)];simp only[R];exact⟨_,rfl,by simpa using k2⟩
  obtain⟨u,hu,Tj⟩:=fG
  let mV : Env:={E' with au:=λ_=>ah,bj:=λb=>match E'.bj b with | .jb _=>.mK | r=>r}
  have dX:∀b,mV.bj b=match E'.bj b with | .jb _=>.mK | r=>r:=λ_=>rfl
  have ajO:∀b o,(mV.bj b).iM o↔(E'.bj b).iM o:=λb o=>by rw[dX];cases E'.bj b<;>simp[fz.iM]
  have L4:∀b t c,E'.bj b = .gR t c->mV.bj b = .gR t c:=λb t c h=>by rw[dX,h]
  have hle:E'.nl.le mV.nl:=⟨λb o _ hc hv=>⟨(ajO b o).2 hc,hv⟩,λ_ _ h=>by simp at h,λt n hn=>⟨n,hn,b7 _,λ_ b c hb=>⟨L4 b t c hb,λcs _ hc=>⟨cs,hc,rfl⟩⟩⟩⟩;have zf : Fr E' mV := by
   refine⟨rfl,rfl,rfl,b7 _,λ_=>rfl,hle.cell,hle.tok,λb _ hr=>⟨rfl,?_⟩,λb _ h=>?_,λb t c _ h=>?_,λb i _ h=>?_,λ_ c _ h=>⟨c,h,rfl⟩⟩
   .rw[dX];rcases hr with hr | hr<;>rw[hr]
   .rw[dX] at h;cases hq:E'.bj b<;>rw[hq] at h<;>simp at h;exact .inl rfl
   .rw[dX] at h;cases hq:E'.bj b<;>rw[hq] at h<;>simp at h;exact⟨_,by rw[h.1]⟩
   .rw[dX] at h;cases hq:E'.bj b<;>rw[hq] at h<;>simp at h
  refine⟨u,hu,w,u,mV,σ',rfl,rfl,λ_=>rfl,⟨λb cs b9=>?_,λt m ht=>dQ.ok.aY t m (qL.2.1 t m ht),λb hb=>?_,dQ.ok.nt,λb cs hc=>eW.mono _ hle (dQ.ok.cQ b cs (qL.2.2 b cs hc))⟩,?_,bw.trans zf,n5⟩
  .obtain⟨h1,h2⟩:=dQ.ok.box b cs (qL.1 b cs b9);exact⟨by rw[dX,h1],h2.mono hle rfl⟩
  .rw[dX,dQ.ok.fresh b hb]
  .rcases hw with rfl | rfl
   .exact R.erase _ (Tj.p_ _ hle pS)
   .exact Tj.p_ _ hle pS
 cases e with
 | normal=>exact fin hq
 | ret=>exact fin hq
 | _=>exact hq.elim
end
structure aR(P:Program)(f:FuncId)(x:AC)(rs:List RV)(n:Nat):Prop where
 is:∃fn h,P.funcs[f]?=U fn/\(fn.name == "runtime.NumGoroutine")=aq/\fn.body.bind (gi P h)=U x/\By P fn.results.toList=U rs/\fn.ntmps=n
def aO(n:Nat)(args:List V):List V:=args++aj (n - args.length) .any
variable{f:FuncId}
def aR.aP{x:AC}{rs:List RV}(h:aR P f x rs n){args:List V}{Z:ab}{R' : V->ab->Prop}(hv:vc P x (Ef rs R') ⟨aO n args,[],Z⟩):cF P f args Z R' := by
 obtain⟨fn,hi,h1,h2,h3,h4,h5⟩:=h.is;simp only[iK] at h3;obtain⟨c,hb,hl⟩:=h3;exact apf h1 h2 hb hl h4 h5 hv
end Go.Am
