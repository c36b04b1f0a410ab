/-
  Part 2 of the proof of StackDropsUptoCardSaid: a logic over the model, the forms of the functions that the law reaches, and what they compute.
-/
import Derived.Lib.Bytealg
import Derived.Laws.Pointers
import Derived.Scope
import Derived.Test.YtnpggmhoandloaaGreatDoorDrops1
set_option linter.unusedVariables false
set_option linter.unusedSimpArgs false
set_option linter.defProp false
set_option linter.unusedSectionVars false
set_option maxRecDepth 4000
set_option maxHeartbeats 4000000
open Option renaming some->U,none->ae
open Bool renaming true->aa,false->ak
open List renaming replicate->aA,range->cc,getD->gU,zipWith->lg
open Eq renaming mpr->eN
open Ne renaming symm->fm
namespace Go.Am
def FH{P:Program}{SN:List c7}{p:Nat->DI->Bool}{S:Nat->Bool}:∀{l:List (AO × List Nat)} {b:List Nat} {tr:List TR} {t:List V} {s:c7} {i:Nat},xe P SN l tr t s->b.length=l.length ->
 (∀(j:Nat) x,l[j]?=U x->x.1.op.bf=aa->S (i+j)=p (i+j) (eY x (b.getD j 0)))->cw S i tr=(((lg eY l b).zipIdx i).filter λ(x,j)=>x.bf&&p j x).length
 | [],b,[],_,_,_,_,_,_=>by simp[cw]
 | [],_,_::_,_,_,_,h,_,_=>h.elim
 | (_,_)::_,_,[],_,_,_,h,_,_=>h.elim
 | (o,ms)::l,[],_::_,_,_,_,_,hb,_=>by simp at hb
 | (o, ms) :: l, m :: b, r :: tr, t, s, i, h, hb, hp => by
  have ih:=FH (p:=p) (S:=S) (i:=i+1) h.2 (by simpa using hb) λj x hx he=>by
   have:=hp (j+1) x (by simpa using hx) he
   rw[show i+(j+1)=i+1+j from by omega] at this;simpa using this
  have he:r.bf=o.op.bf:=h.1.2.1;have h0:o.op.bf=aa->S i=p i (eY (o,ms) m):=λhe=>by simpa using hp 0 (o,ms) (by simp) he
  simp only[cw,List.zipWith_cons_cons,List.zipIdx_cons,OR];rw[ih];have hd:(eY (o,ms) m).bf=o.op.bf:=rfl;cases hq:o.op.bf
  .simp[he,hq,hd]
  .rw[h0 hq];simp only[he,hd,hq,vp,pW];cases p i (eY (o,ms) m)
   .simp
   .simp;omega
section
variable {P:Program} {ops:Array Oper} {l:List (AO × List Nat)} {b:List Nat} {SN:List c7} {tr:List TR} {t0:List V} {s0:c7}
structure Ck(ops:Array Oper)(tr:List TR)(t0:List V)(s0:c7)(E0:Env)(X:Array Bool->Env->Act->Prop)(listed:Array Bool)(a:Act)(w:World):Prop where
 size:listed.size=ops.size
 closed:∀(i:Nat) o,ops[i]?=U o->listed.getD i ak=aa->∀e∈o.after,Region.binds .any e=aa->listed.getD e.on ak=aa
 rel:∃E,E.w=w/\bB E (bV (runT (cq (λj=>listed.getD j ak) 0 tr) t0) (dr (cq (λj=>listed.getD j ak) 0 tr) s0)) a/\Fr E0 E/\X listed E a
def Jm(F:yK ops l b){S:Nat->Bool}(hc:∀(i:Nat) o,ops[i]?=U o->S i=aa->∀e∈o.after,Region.binds .any e=aa->S e.on=aa):
 ∀(n i:Nat),i<n->i<ops.size->S i=aa->∀j,(b.getD i 0).testBit j=aa->S j=true:=by
 intro n;induction n with
 | zero=>intro i h;omega
 | succ n ih =>
  intro i hi az hS j hj;obtain⟨e,h1,h2,h3⟩:=F.mask i ops[i] (lP az) j hj;have he:=hc i _ (lP az) hS e h1 h2;have hb:=F.back i _ (lP az) e h1 h2
  rcases h3 with rfl | h3
  .exact he
  .exact ih e.on (by omega) (by omega) he j h3
def Ga(listed:Array Bool)(i:Nat)(h:i<listed.size):listed.getD i aa=listed.getD i false:=by simp[h]
def Spec(P:Program)(l:List (AO × List Nat))(b:List Nat)(t0:List V)(E0:Env)(X:Array Bool->Env->Act->Prop)(i:Nat)(o:Oper)(ao:AO):Prop :=
 o.guard=ae/\ao.guard=ae/\∀(E:Env) (a:Act) (t:List V) (s:c7) (v:V) (s' : c7) (listed:Array Bool) (Q:Exit->Act->World->Prop),i<listed.size->listed.getD i ak=ak->(∀j,(b.getD i 0).testBit j=aa->listed.getD j ak=aa) ->
  (∀j,j<b.length->(b.getD j 0).testBit i=aa->listed.getD j ak=ak)->(∀d,(∀(j:Nat) x,l[j]?=U x->x.1.dst=U d->listed.getD j ak=ak)->t.getD d .any=t0.getD d .any) ->
  bB E (bV t s) a->Fr E0 E->X listed E a->ao.op.a7 P (bV t s) (Exact t v s') ->
  o.wp P a E.w (λa' w' => ∃E',E'.w=w' /\ bB E' (bV (j1 t ao.dst v) s') a' /\ Fr E0 E' /\ X (listed.setIfInBounds i aa) E' a') Q
def Qx(F:yK ops l b)(pw:b.length=ops.size)(sM:SN=s0::j_ tr)(ht:xe P SN l tr t0 s0)
 {E0:Env} {X:Array Bool->Env->Act->Prop} {Q:Exit->Act->World->Prop} {listed:Array Bool} {a:Act} {w:World} (h:Ck ops tr t0 s0 E0 X listed a w) {i:Nat} (hi:i∈Region.ready .any ops listed)
 (uK:∀o,ops[i]?=U o->∃x:AO × List Nat,l[i]?=U x/\((tg P ops o=U x.1/\∀listed E E' a u,X listed E a->Fr E E' -> X (listed.setIfInBounds i aa) E' (a.put o.dst u))\/Spec P l b t0 E0 X i o x.1)) {K:Act->World->Prop}
 (hK:∀a w,Ck ops tr t0 s0 E0 X (listed.setIfInBounds i aa) a w->K a w):wpOp P ops Q i K a w:=by
 obtain⟨xV,o,ho,dj⟩:=mem_ready.1 hi;have az:i<ops.size:=(ky.1 ho).1;have lA : i<listed.size:=by rw[h.size];exact az
 obtain⟨E,rfl,hs,ba,hX⟩:=h.rel
 let S:Nat->Bool:=λj=>listed.getD j ak
 have C_:S i=false:=by show listed.getD i ak=ak;rw[<-Ga _ _ lA];exact xV
 obtain⟨x,hx,KW⟩:=uK o ho;obtain⟨ao,ms⟩:=x;have hlen:=Fh ht;have aiQ:i<tr.length:=by rw[<-hlen,F.size];exact az
 obtain⟨r,hr⟩:∃r,tr[i]?=U r:=⟨tr[i],cH aiQ⟩;have dV:=Fi (i:=0) (k:=i) ht hx hr;rw[jc] at dV;obtain⟨hd,he,run,Bu,cS,aiK⟩:=dV
 -- who is done,who is not
 have Bq:∀j,(b.getD i 0).testBit j=aa->S j=true:=λj hj=>by
  obtain⟨e,h1,h2,h3⟩:=F.mask i o ho j hj;have hb:=dj e h1 h2
  rcases h3 with rfl | h3
  .exact hb
  .exact Jm F (S:=S) h.closed ops.size e.on (by have:=F.back i o ho e h1 h2;omega) (by have:=F.back i o ho e h1 h2;omega) hb j h3
 have Dd:∀j,j<ops.size->(b.getD j 0).testBit i=aa->S j=false:=λj hj hb=>by
  cases hq:S j with
  | false=>rfl
  | true =>
   have:=Jm F (S:=S) h.closed ops.size j hj hj hq i hb
   rw[this] at C_;simp at C_
 have v5:∀(j:Nat) r',tr[j]?=U r' -> ∃y,l[j]?=U y/\r'.dst=y.1.dst/\r'.bf=y.1.op.bf/\j<ops.size:=λj r' cg => by
  have hj:=(eX.1 cg).1;have zC:j<l.length:=by omega
  have:=Fi (i:=0) (k:=j) ht (cH zC) cg
  exact⟨l[j],cH zC,this.1,this.2.1,by rw[<-F.size];exact zC⟩
 -- what it reads is what it read in the text's order
 have BE:∀n,n∈yp ao->(runT (cq S 0 tr) t0).getD n .any=(runT (cq (dP i) 0 tr) t0).getD n .any:=λn hn=>by
  refine yz rfl rfl λj r' cg hd' => ?_
  rw[jc];obtain⟨y,hy,zL,_,lz⟩:=v5 j r' cg;obtain⟨aQ,jg⟩:=F.slot i j (ao,ms) y hx hy n (by rw[<-zL];exact hd') hn
  rcases vA j i with fw | fw
  .have hu:dP i j=true:=by simp[dP,fw]
   rw[hu]
   rcases jg with h1 | h1
   .exact Bq j h1
   .exfalso
    obtain⟨e,k1,k2,k3⟩:=F.mask j _ (lP lz) i h1
    have:=F.back j _ (lP lz) e k1 k2
    have key:∀n q,q<n->q<ops.size->∀z,(b.getD q 0).testBit z=aa->z<q:=by
     intro n;induction n with
     | zero=>intro q h;omega
     | succ n ih =>
      intro q hq DB z hz;obtain⟨e',m1,m2,m3⟩:=F.mask q _ (lP DB) z hz;have b8 := F.back q _ (lP DB) e' m1 m2
      rcases m3 with rfl | m3
      .exact b8
      .have:=ih e'.on (by omega) (by omega) z m3;omega
    have:=key (j+1) j (by omega) lz i h1
    omega
  .have hu:dP i j=false:=by simp[dP];omega
   rw[hu]
   rcases jg with h1 | h1
   .exfalso
    have key:∀n q,q<n->q<ops.size->∀z,(b.getD q 0).testBit z=aa->z<q:=by
     intro n;induction n with
     | zero=>intro q h;omega
     | succ n ih =>
      intro q hq DB z hz;obtain⟨e',m1,m2,m3⟩:=F.mask q _ (lP DB) z hz;have b8 := F.back q _ (lP DB) e' m1 m2
      rcases m3 with rfl | m3
      .exact b8
      .have:=ih e'.on (by omega) (by omega) z m3;omega
    have:=key (i+1) i (by omega) az j h1
    omega
   .exact Dd j lz h1
 -- memory
 have uM:∀T:Nat->Bool,(∀(j k:Nat),j<ops.size->k<ops.size->(∀y z,l[j]?=U y->l[k]?=U z->y.1.op.bf=aa->z.1.op.bf=aa->j<k->T k=aa->T j=aa)) ->
  dr (cq T 0 tr) s0=SN.getD (cw T 0 tr) B5:=λT hT=>by
  rw[sM];refine VN λj k r1 r2 h1 h2 e1 e2 zB hk=>?_
  obtain⟨y,hy,_,ye,lz⟩:=v5 j r1 h1;obtain⟨z,hz,_,ze,fM⟩:=v5 k r2 h2;rw[jc] at hk ⊢;exact hT j k lz fM y z hy hz (by rw[<-ye];exact e1) (by rw[<-ze];exact e2) zB hk
 have Gi:∀(j k:Nat),j<ops.size->k<ops.size->(∀y z,l[j]?=U y->l[k]?=U z->y.1.op.bf=aa->z.1.op.bf=aa->j<k->S k=aa->S j=aa):=λj k _ hk y z hy hz e1 e2 zB Bp =>
  Jm F (S:=S) h.closed ops.size k hk hk Bp j (F.bf j k y z hy hz zB e1 e2)
 have Lf:∀q (j k:Nat),j<ops.size->k<ops.size->(∀y z,l[j]?=U y->l[k]?=U z->y.1.op.bf=aa->z.1.op.bf=aa->j<k->dP q k=aa->dP q j=aa):=λq j k _ _ _ _ _ _ _ _ zB hk=>by
  simp[dP] at hk ⊢;omega
 have SK:ao.op.bf=aa->dr (cq S 0 tr) s0=dr (cq (dP i) 0 tr) s0:=λrK=>by
  rw[uM S Gi,uM (dP i) (Lf i)];congr 1;refine FI λj r' cg xR=>?_
  rw[jc];obtain⟨y,hy,_,ye,lz⟩:=v5 j r' cg
  rcases Cw j i with fw | fw | fw
  .have:dP i j=true:=by simp[dP,fw]
   rw[this];exact Bq j (F.bf j i y (ao,ms) hy hx fw (by rw[<-ye];exact xR) rK)
  .subst fw
   have:dP j j=false:=by simp[dP]
   rw[this];exact C_
  .have:dP i j=false:=by simp[dP];omega
   rw[this];exact Dd j lz (F.bf i j (ao,ms) y hx hy fw rK (by rw[<-ye];exact xR))
 -- the next state
 have Km:(λj=>(listed.setIfInBounds i aa).getD j ak)=add S i:=by
  funext j;simp only[add,S]
  by_cases fw:j=i
  .subst fw;simp[lA]
  .rw[pU,AK (fm fw),<-pU];simp[fw]
 have hT:runT (cq (add S i) 0 tr) t0=j1 (runT (cq S 0 tr) t0) r.dst r.val :=
  VP (by omega) (by simpa using hr) C_ λj r' cg aQ n hn KY => by
   obtain⟨y,hy,zL,_,_⟩:=v5 j r' cg;exact F.dst j i y (ao,ms) hy hx (by omega) n (by rw[<-hd];exact hn) (by rw[<-zL];exact KY)
 have ahT:∀(j k:Nat),j<ops.size->k<ops.size->(∀y z,l[j]?=U y->l[k]?=U z->y.1.op.bf=aa->z.1.op.bf=aa->j<k->add S i k=aa->add S i j=aa):=λj k hj hk y z hy hz e1 e2 zB Bp=>by
  simp only[add,mg,b7] at Bp ⊢
  rcases Bp with Bp | rfl
  .exact .inl (Gi j k hj hk y z hy hz e1 e2 zB Bp)
  .exact .inl (Bq j (F.bf j k y z hy hz zB e1 e2))
 have Kk:dr (cq (add S i) 0 tr) s0=if ao.op.bf then r.yD else dr (cq S 0 tr) s0:=by
  rw[uM (add S i) ahT];cases rK:ao.op.bf
  .simp only[di,ck];rw[uM S Gi];congr 1;refine FI λj r' cg xR=>?_
   rw[jc];obtain⟨y,hy,_,ye,_⟩:=v5 j r' cg;have fw:j≠i:=by
    rintro rfl;rw[hx] at hy;simp at hy;subst hy;rw[ye,rK] at xR;simp at xR
   simp[add,fw]
  .simp only[cC];have h1:cw (add S i) 0 tr=cw (dP (i+1)) 0 tr:=FI λj r' cg xR=>by
    rw[jc];obtain⟨y,hy,_,ye,lz⟩:=v5 j r' cg
    rcases Cw j i with fw | fw | fw
    .have:dP (i+1) j=true:=by simp[dP];omega
     rw[this]
     have:=Bq j (F.bf j i y (ao,ms) hy hx fw (by rw[<-ye];exact xR) rK)
     simp[add,this]
    .subst fw;simp[add,dP]
    .have:dP (i+1) j=false:=by simp[dP];omega
     rw[this]
     have:=Dd j lz (F.bf i j (ao,ms) y hx hy fw rK (by rw[<-ye];exact xR))
     simp[add,this];omega
   rw[h1,<-uM (dP (i+1)) (Lf (i+1))];have ate : dP (i+1)=add (dP i) i:=by
    funext j;simp only[dP,add];rw[EM];simp;omega
   -- the run up to and with i
   have key:∀(tr:List TR) (q:Nat) (s:c7),q<=i->tr[i - q]?=U r->dr (cq (dP (i+1)) q tr) s=r.yD:=by
    intro tr;induction tr with
    | nil=>intro q s _ h;simp at h
    | cons r' tr ih =>
     intro q s hq h;have hu:dP (i+1) q=true:=by simp[dP];omega
     simp only[cq,hu,cC,dr]
     by_cases hqi:q=i
     .subst hqi;simp at h;subst h;rw[NG (by omega)];simp[dr,he,rK]
     .exact ih (q+1) _ (by omega) (by rw[show i - q=(i - (q+1))+1 from by omega] at h;simpa using h)
   exact key tr 0 s0 (by omega) (by simpa using hr)
 -- the closure
 have ah4 : ∀(j:Nat) o',ops[j]?=U o' -> (listed.setIfInBounds i aa).getD j ak=aa->∀e∈o'.after,Region.binds .any e=aa->(listed.setIfInBounds i aa).getD e.on ak=true:=λj o' fx hj e h1 h2=>by
  have ej:(listed.setIfInBounds i aa).getD j ak=add S i j:=congrFun Km j;have ee:(listed.setIfInBounds i aa).getD e.on ak=add S i e.on:=congrFun Km e.on;rw[ee];rw[ej] at hj;simp only[add,mg,b7] at hj ⊢
  rcases hj with hj | rfl
  .exact .inl (h.closed j o' fx hj e h1 h2)
  .rw[ho] at fx;simp only[aY] at fx;subst fx;exact .inl (dj e h1 h2)
 have Uf:∀E' a' t' s',E'.w=E'.w->t' = runT (cq (add S i) 0 tr) t0->s' = dr (cq (add S i) 0 tr) s0->bB E' (bV t' s') a' -> Fr E0 E' -> X (listed.setIfInBounds i aa) E' a' -> K a' E'.w:=λE' a' t' s' _ e1 e2 dh jQ jv => by
  refine hK a' E'.w ⟨by simp[h.size],ah4,E',rfl,?_,jQ,jv⟩;rw[Km,<-e1,<-e2];exact dh
 -- the machine's step
 unfold wpOp;rw[ho];simp only;have aiu:∀g n y,ao.op = .load g n y->run=aa->rb (dr (cq S 0 tr) s0) g n (ev (bV (runT (cq (dP i) 0 tr) t0) (dr (cq (dP i) 0 tr) s0)) y)=U r.val:=λg n y hy jh=>by
  obtain⟨kg,v9⟩:=cS jh;rw[uM S Gi];have aip:ao.op.BO=true:=by rw[hy];rfl
  have hm:=F.load i (ao,ms) hx aip (cw S 0 tr);have ait : n5 (lg eY l b) (eY (ao,ms) (b.getD i 0))<=cw S 0 tr:=by
   have e:n5 (lg eY l b) (eY (ao,ms) (b.getD i 0))=cw (λj=>(b.getD i 0).testBit j) 0 tr:=by
    unfold n5 A9;exact(FH (p:=λj _=>(b.getD i 0).testBit j) (S:=λj=>(b.getD i 0).testBit j) ht (by rw[pw,F.size]) (λj y _ _=>rfl)).symm
   rw[e];exact Jo λj r' _ _ hb=>by rw[jc] at hb ⊢;exact Bq j hb
  have ail : cw S 0 tr<=xK (lg eY l b) i:=by
   have e:xK (lg eY l b) i=cw (λj=>!((b.getD j 0).testBit i)) 0 tr:=by
    unfold xK A9;exact(FH (p:=λ_ y=>!(y.mask.testBit i)) (S:=λj=>!((b.getD j 0).testBit i)) ht (by rw[pw,F.size]) (λj y _ _=>by simp[eY])).symm
   rw[e];refine Jo λj r' cg _ Kj=>?_
   rw[jc] at Kj ⊢;obtain⟨y,_,_,_,lz⟩:=v5 j r' cg;cases hb:(b.getD j 0).testBit i with
   | false=>rfl
   | true=>rw[Dd j lz hb] at Kj;simp at Kj
  rcases hm ait ail with hm | hm
  .exact v9 g n y hy _ hm
  .have e:Ae (lg eY l b) i=cw (dP i) 0 tr:=by
    unfold Ae A9;exact(FH (p:=λj _=>decide (j<i)) (S:=dP i) ht (by rw[pw,F.size]) (λj y _ _=>rfl)).symm
   rw[hm,e,<-uM (dP i) (Lf i)];rw[hy] at kg;simp only[aG.a7] at kg;rw[Tp] at kg;cases hq:rb (dr (cq (dP i) 0 tr) s0) g n (ev (bV (runT (cq (dP i) 0 tr) t0) (dr (cq (dP i) 0 tr) s0)) y) with
   | none=>rw[hq] at kg;exact kg.elim
   | some u=>rw[hq] at kg;rw[kg.1]
 have pD:∀y∈ao.op.xs,ev (bV (runT (cq S 0 tr) t0) (dr (cq S 0 tr) s0)) y=ev (bV (runT (cq (dP i) 0 tr) t0) (dr (cq (dP i) 0 tr) s0)) y:=λy hy =>
  ac_ λn hn=>BE n (by simp only[yp,jE,OZ];exact .inl ⟨y,hy,hn⟩)
 have SG : run=aa->ao.op.a7 P (bV (runT (cq S 0 tr) t0) (dr (cq S 0 tr) s0)) (Exact (runT (cq S 0 tr) t0) r.val (if ao.op.bf then(if ao.op.bf then r.yD else dr (cq (dP i) 0 tr) s0) else dr (cq S 0 tr) s0)):=λjh =>
  apV (P:=P) (op:=ao.op) (t:=runT (cq (dP i) 0 tr) t0) (t2:=runT (cq S 0 tr) t0) (s:=dr (cq (dP i) 0 tr) s0) (s2:=dr (cq S 0 tr) s0) pD SK (λg n y hy=>aiu g n y hy jh) (cS jh).1
 rcases KW with ⟨KW,hXg⟩ | aiL
 case' inr =>
  obtain⟨Gy,v7,rV⟩:=aiL;rw[aD (by simp[Region.wanted,Gy])];left;have jh:run=true:=by rw[v7] at Bu;exact Bu
  have lD:∀d,(∀(j:Nat) x,l[j]?=U x->x.1.dst=U d->listed.getD j ak=ak)->(runT (cq S 0 tr) t0).getD d .any=t0.getD d .any:=λd hd=>by
   have h1:=yz (S:=S) (S' := λ_=>ak) (x:=d) (tr:=tr) (i:=0) (t:=t0) (t' := t0) rfl rfl λj r' cg hrd=>by
    obtain⟨y,hy,zL,_,_⟩:=v5 j r' cg;rw[jc];exact hd j y hy (by rw[<-zL];exact hrd)
   rw[h1]
   have:∀(tr:List TR) (q:Nat),cq (λ_=>ak) q tr=[]:=by
    intro tr;induction tr with
    | nil=>intro q;rfl
    | cons r tr ih=>intro q;simp only[cq,di,ck];exact ih _
   rw[this];rfl
  refine Oper.wp_mono ?_ (rV E a _ _ _ _ listed Q lA C_ Bq (λj hj=>Dd j (by omega)) lD hs ba hX (SG jh));rintro a' w' ⟨E',rfl,dh,jQ,jv⟩;refine Uf E' a' _ _ rfl ?_ ?_ dh jQ jv
  .rw[hT,hd]
  .rw[Kk];cases rK:ao.op.bf<;>simp
 have next:∀E' u t' s',t' = runT (cq (add S i) 0 tr) t0->s' = dr (cq (add S i) 0 tr) s0->bB E' (bV t' s') (a.put o.dst u)->Fr E E' -> K (a.put o.dst u) E'.w:=λE' u t' s' e1 e2 dh jQ => Uf E' _ t' s' rfl e1 e2 dh (ba.trans jQ) (hXg _ _ _ _ _ hX jQ)
 have dB:=KW;unfold tg at dB;split at dB
 .simp at dB
 rename_i op lW;have aiS:Region.wanted o (yielded ops a.tmps)=run/\op=ao.op/\o.dst=ao.dst:=by
  cases hg:o.guard with
  | none =>
   rw[hg] at dB;simp only[aY] at dB;subst dB;simp only at Bu;exact⟨by simp[Region.wanted,hg,Bu],rfl,rfl⟩
  | some p =>
   obtain⟨j,want⟩:=p;rw[hg] at dB;simp only at dB;split at dB
   case h_2=>simp at dB
   rename_i g nV;simp only[aY] at dB;subst dB;simp only at Bu;refine⟨?_,rfl,rfl⟩;have xJ:=BE g (by simp[yp])
   rcases Bu with ⟨bb,fg,dw⟩ | ⟨fg,dw⟩
   case' inr =>
    rw[fg] at xJ;have hR:=Fe hs.slot g undef;have pr : R E (.bq []) (a.tmps.toList.getD g undef):=by
     have:(bV (runT (cq S 0 tr) t0) (dr (cq S 0 tr) s0)).t.getD g .any = .bq []:=xJ
     rw[<-this];exact hR
    have hu:=O' pr;rw[dw];simp only[Region.wanted,hg,yielded,nV,vB];cases hq:a.tmps[g]? with
    | none=>rfl
    | some u =>
     have:u=undef:=by rw[gU] at hu;simp[hq] at hu;exact hu
     rw[this];rfl
   rw[fg] at xJ;have hR:=Fe hs.slot g undef;have pr : R E (.bool bb) (a.tmps.toList.getD g undef):=by
    have:(bV (runT (cq S 0 tr) t0) (dr (cq S 0 tr) s0)).t.getD g .any = .bool bb:=xJ
    rw[<-this];exact hR
   simp only[R] at pr;have sR:a.tmps[g]?=U (.bool bb):=by
    rw[gU] at pr;cases hq:a.tmps.toList[g]? with
    | none=>rw[hq] at pr;simp[undef] at pr
    | some u=>rw[hq] at pr;simp at pr;subst pr;simpa using hq
   simp only[Region.wanted,hg,yielded,nV,vB,sR];rw[dw];cases bb<;>cases want<;>rfl
 obtain⟨wg,rfl,lu⟩:=aiS;rw[wg];cases jh:run with
 | true =>
  rw[aD rfl];left;refine Oper.wp_mono ?_ (D3 (Q:=Q) lW hs (SG jh));rintro a' w' ⟨E',v,u,aH,rfl,jQ,dh,hv,rfl,GS,rfl⟩;subst GS
  have:=bB.put dh hv o.dst
  rw[Ee] at this;refine next E' u _ _ ?_ ?_ this jQ
  .rw[hT,hd,lu]
  .rw[Kk];cases rK:ao.op.bf<;>simp
 | false =>
  rw[aB (by simp)];obtain⟨hv,hsk⟩:=aiK jh
  have:=bB.put hs (v:=.bq []) (x:=undef) IX o.dst
  rw[Ee] at this;refine next E undef _ _ ?_ ?_ this (Fr.refl E)
  .rw[hT,hd,lu,hv]
  .rw[Kk];cases rK:ao.op.bf
   .rw[aB (by simp)]
   .simp only[cC];rw[hsk (by rw[he,rK])];exact SK rK
def count_set:∀(l:List Bool) (i:Nat),l[i]?=U ak->(l.set i aa).count ak+1=l.count ak
 | [],i,h=>by simp at h
 | x::l,0,h=>by simp at h;subst h;simp
 | x :: l, i + 1, h => by
  simp at h
  have:=count_set l i h
  cases x<;>simp<;>omega
variable{E:Env}{K:St->Prop}{a:Act}{st:St}
def Qw{ops:Array Oper}{l:List (AO × List Nat)}{b:List Nat}(F:yK ops l b)(pw:b.length=ops.size)(hf:P.follows .mixedOrders=aa){id:Nat}(h:cf P l [(st.aC,st.out)] [] K st)(hs:bB E st a){X:Array Bool->Env->Act->Prop}
 (hX0:∀E',X (Array.replicate ops.size ak) E' a)
 (uK:∀(i:Nat) o,ops[i]?=U o->∃x:AO × List Nat,l[i]?=U x/\((tg P ops o=U x.1/\∀listed E E' a u,X listed E a->Fr E E' -> X (listed.setIfInBounds i aa) E' (a.put o.dst u))\/Spec P l b st.t E X i o x.1)) :
 (Code.region id ops aa).wp P (λe a' w' => ∃E' aH,E'.w=w' /\ bB E' aH a' /\ Fr E E' /\ e = .normal/\K aH) a E.w:=by
 refine wp_region_any hf ?_;obtain⟨ba,_,nZ⟩:=Es hs ((Ext.refl E.w).drew);obtain⟨tr,ht,_,hK⟩:=Ik (t:=st.t) (s:=(st.aC,st.out)) h;have sM:[(st.aC,st.out)]++j_ tr=(st.aC,st.out)::j_ tr:=rfl;rw[sM] at ht;have hlen:=Fh ht;have key:∀(fuel:Nat) (listed:Array Bool) (a:Act) (w:World),Ck ops tr st.t (st.aC,st.out) E X listed a w->listed.toList.count ak<=fuel ->
  wpAny P .any ops (λe a' w' => ∃E' aH,E'.w=w' /\ bB E' aH a' /\ Fr E E' /\ e = .normal/\K aH) fuel listed a w:=by
  have done:∀(listed:Array Bool) (a:Act) (w:World),Ck ops tr st.t (st.aC,st.out) E X listed a w->Region.ready .any ops listed=[] ->
   ∃E' aH,E'.w=w/\bB E' aH a/\Fr E E' /\ Exit.normal = .normal/\K aH := λlisted a w h hr=>by
   have dj:∀n j,j<n->j<ops.size->listed.getD j ak=true:=by
    intro n;induction n with
    | zero=>intro j h;omega
    | succ n ih =>
     intro j hj lz;cases hq:listed.getD j ak with
     | true=>rfl
     | false =>
      have:j∈Region.ready .any ops listed:=mem_ready.2 ⟨by rw[Ga _ _ (by rw[h.size];exact lz)];exact hq,ops[j],lP lz,λe he hb=>by
       have:=F.back j _ (lP lz) e he hb
       exact ih e.on (by omega) (by omega)⟩
      rw[hr] at this;simp at this
   obtain⟨E',h1,h2,h3,_⟩:=h.rel;rw[Wh (λj hj=>by rw[jc];exact dj (j+1) j (by omega) (by rw[<-F.size,hlen];exact hj))] at h2;exact⟨E',_,h1,h2,h3,rfl,hK⟩
  intro fuel;induction fuel with
  | zero =>
   intro listed a w h hc;have hr:Region.ready .any ops listed=[]:=by
    cases hq:Region.ready .any ops listed with
    | nil=>rfl
    | cons j js =>
     obtain⟨h1,o,ho,_⟩:=mem_ready.1 (show j∈Region.ready .any ops listed by rw[hq];simp);have az:j<listed.size:=by rw[h.size];exact(ky.1 ho).1
     have:ak∈listed.toList:=by
      have e:listed[j]?=U false:=by
       rw[lP az];simpa [az] using h1
      exact rz (by simpa using e)
     have:=List.count_pos_iff.2 this
     omega
   exact⟨hr,done listed a w h hr⟩
  | succ fuel ih =>
   intro listed a w h hc;refine⟨λhr=>done listed a w h hr,λi hi=>?_⟩;refine Qx F pw rfl ht h hi (uK i) λa w h' => ih _ a w h' ?_
   obtain⟨h1,o,ho,_⟩:=mem_ready.1 hi;have az:i<listed.size:=by rw[h.size];exact(ky.1 ho).1
   have e:listed.toList[i]?=U false:=by
    have:listed[i]?=U false:=by
     rw[lP az];simpa [az] using h1
    simpa using this
   have:=count_set listed.toList i e
   simp only[OB];omega
 have xQ:∀j,(Array.replicate ops.size ak).getD j ak=false:=λj=>by
  by_cases hj:j<ops.size<;>simp[hj]
 have pz:∀(tr:List TR) (q:Nat),cq (λj=>(Array.replicate ops.size ak).getD j ak) q tr=[]:=by
  intro tr;induction tr with
  | nil=>intro q;rfl
  | cons r tr ih=>intro q;rw[cq,aB (by rw[xQ];simp)];exact ih _
 refine key ops.size _ a _ ⟨by simp,λi o _ hi=>by rw[xQ] at hi;simp at hi,{E with w:=E.w.drew},rfl,?_,ba,hX0 _⟩ (by simp);rw[pz];exact nZ
def ab2{ops:Array Oper}{l:List (AO × List Nat)}{id:Nat}(hl:Hn P ops=U l)(h:cf P l [(st.aC,st.out)] [] K st):
 iD P (.region id ops aa) (λe aH => e = .normal/\K aH) st:=by
 obtain⟨b,F,pw,hf,uK⟩:=akV hl;intro E a hs;exact Qw (X:=λ_ _ _=>True) F pw hf h hs (λ_=>trivial) λi o ho=>by
  obtain⟨x,h1,h2⟩:=uK i o ho;exact⟨x,h1,.inl ⟨h2,λ_ _ _ _ _ _ _=>trivial⟩⟩
end
section
variable {P:Program} {E:Env} {st:St} {a:Act} {o:Oper} {K:V->St->Prop} {Q:Exit->Act->World->Prop}
variable{c:Array Value}{e:TypeId}{zs:List V}
def Xm(hs:bB E st a)(hr:(execOp a.eval o).run P E.w = .ok (.value (.pointer (U ⟨E.w.heap.size,0,ae⟩))) (E.w.alloc (.cells c e)))
 (hz:RL E zs c.toList) (qg:bH zs=aa) (hk:∀b,st.out.box b=ae->K (.ptr (.out b) 0) ⟨st.t,st.aC,st.out.set b zs⟩):o.wp P a E.w (dz E a o.dst K) Q:=by
 unfold Oper.wp;rw[hr]
 let E' : Env:={w:=E.w.alloc (.cells c e),aZ:=λb=>if b=E.w.heap.size then .pH else E.aZ b,aC:=E.aC,aJ:=E.aJ}
 have hx:Ext E.w E'.w:=(Ext.refl _).alloc _ _;have ba:Fr E E' := xx hs.ok.fresh hx (λb hb=>by simp only[E'];rw[aB (by omega)]) (λ_ _ h=>h);have hle:E.le E' := ba.le λi b h=>h
 have iI:st.out.box E.w.heap.size=none:=by
  cases hq:st.out.box E.w.heap.size with
  | none=>rfl
  | some cs =>
   obtain⟨_,c',e',h3,_⟩:=hs.ok.box _ cs hq
   have:=ko (w:=E.w) h3
   omega
 refine⟨E',_,_,⟨st.t,st.aC,st.out.set E.w.heap.size zs⟩,rfl,ba,⟨⟨?_,?_,?_,hs.ok.nt,λb cs hc=>dQ.mono _ ba.nl (hs.ok.bO b cs hc)⟩,?_,hs.defers,RL.mono _ hle hs.slot⟩,?_,rfl,hk _ iI⟩
 .intro b cs bP;simp only[ag.set] at bP;split at bP
  .rename_i hb;subst hb;simp only[aY] at bP;subst bP;have DH := RL.n9 (E:=E) (E' := E'.nl) _ ba.nl qg hz;have hl:=fC DH;refine⟨by simp[E'],c,e,heap_alloc_new _ _,by simp at hl;omega,λj x hx=>?_⟩;obtain⟨v,hv,cg⟩:=qA DH j x hx;exact⟨v,by simpa using hv,cg⟩
  .rename_i hb;obtain⟨h1,h2⟩:=hs.ok.box b cs bP;have az:b<E.w.heap.size:=by obtain⟨c,e,h3,_⟩:=h2;exact ko (w:=E.w) h3
   exact⟨by simp only[E'];rw[aB hb];exact h1,h2.mono ba.nl (hx.block b az)⟩
 .exact hs.ok.aJ
 .intro b hb;simp only[E',World.size_alloc] at hb ⊢;rw[aB (by omega)];exact hs.ok.fresh b (by omega)
 .exact pI hs.cU hle (λb i h hb=>⟨by simp only[E'];rw[aB (by omega)];exact h,hx.block b hb⟩) hs.cU.none
 .simp only[R]
variable{t:TypeId}
def aso(hs:bB E st a)(ho:o.op = .alloc t)(hz:jB P t=U zs)(hk:aG.a7 P st K (.pe zs)):o.wp P a E.w (dz E a o.dst K) Q:=by
 obtain⟨i,z,h1,h2,h3,_⟩:=sr hz;refine Xm hs (c:=z.cells) (e:=t) ?_ (qH h3) hk.1 hk.2;simp[execOp,ho,Instr.alloc,zeroValue,typeInfo,h1,h2,newVar,newRow]
variable{x:Operand}
def ass(hs:bB E st a){n:Nat}{y:X}(ho:o.op = .box t x)(hx:R E (ev st y) (a.eval x))(hk:aG.a7 P st K (.fZ n y)):o.wp P a E.w (dz E a o.dst K) Q:=by
 refine Xm hs (c:=(a.eval x).cells) (e:=t) ?_ (xc hx hk.1).1 hk.2.1 hk.2.2;simp[execOp,ho,Instr.box,newVar,newRow]
def Ol(hs:bB E st a){w1:World}(GU:Ext E.w w1)(aiR:w1.heap.size=E.w.heap.size){x:Value}{v:Nat->V}
 (hr:(execOp a.eval o).run P E.w = .ok (.value x) (w1.alloc (.cells c e)))
 (hz:RL E.nl zs c.toList) (hv:R E (v E.w.heap.size) x) (qg:(v E.w.heap.size).cG=aa) (hk:∀b,st.out.box b=ae->K (v b) ⟨st.t,st.aC,st.out.set b zs⟩):o.wp P a E.w (dz E a o.dst K) Q:=by
 unfold Oper.wp;rw[hr]
 let E' : Env:={w:=w1.alloc (.cells c e),aZ:=λb=>if b=E.w.heap.size then .pH else E.aZ b,aC:=E.aC,aJ:=E.aJ}
 have hx:Ext E.w E'.w:=GU.alloc _ _;have ba:Fr E E' := xx hs.ok.fresh hx (λb hb=>by simp only[E'];rw[aB (by omega)]) (λ_ _ h=>h);have hle:E.le E' := ba.le λi b h=>h
 have iI:st.out.box E.w.heap.size=none:=by
  cases hq:st.out.box E.w.heap.size with
  | none=>rfl
  | some cs =>
   obtain⟨_,c',e',h3,_⟩:=hs.ok.box _ cs hq
   have:=ko (w:=E.w) h3
   omega
 refine⟨E',_,_,⟨st.t,st.aC,st.out.set E.w.heap.size zs⟩,rfl,ba,⟨⟨?_,?_,?_,hs.ok.nt,λb cs hc=>dQ.mono _ ba.nl (hs.ok.bO b cs hc)⟩,?_,hs.defers,RL.mono _ hle hs.slot⟩,hv.mono _ hle,rfl,hk _ iI⟩
 .intro b cs bP;simp only[ag.set] at bP;split at bP
  .rename_i hb;subst hb;simp only[aY] at bP;subst bP;have DH : RL E'.nl zs c.toList:=RL.mono _ ba.nl hz;have hl:=fC DH;refine⟨by simp[E'],c,e,?_,by simp at hl;omega,λj x hx=>?_⟩
   .show(w1.alloc (.cells c e)).heap[E.w.heap.size]?=_;rw[<-aiR];exact heap_alloc_new _ _
   .obtain⟨v,hv,cg⟩:=qA DH j x hx;exact⟨v,by simpa using hv,cg⟩
  .rename_i hb;obtain⟨h1,h2⟩:=hs.ok.box b cs bP;have az:b<E.w.heap.size:=by obtain⟨c,e,h3,_⟩:=h2;exact ko (w:=E.w) h3
   exact⟨by simp only[E'];rw[aB hb];exact h1,h2.mono ba.nl (hx.block b az)⟩
 .exact hs.ok.aJ
 .intro b hb;simp only[E',World.size_alloc] at hb ⊢;rw[aB (by omega)];exact hs.ok.fresh b (by omega)
 .exact pI hs.cU hle (λb i h hb=>⟨by simp only[E'];rw[aB (by omega)];exact h,hx.block b hb⟩) hs.cU.none
variable{ty u:TypeId}
def Ok(hs:bB E st a){i:TypeInfo}{z:Value}(ht:P.underlying t=U (.slice e))(hi:P.info? e=U i)(hz:i.zero=U z)(iK:z.cells.size=i.size)
 (mo:i.bytes<=4096) {base:Option Addr} {n cap:Nat} {vx:Value} {m:List (List V)}
 (cS:(execOp a.eval o).run P E.w=((Builtin.append_ #[t,u] ty #[.slice base n cap,vx]).run P E.w).andThen λv w' => .ok (.value v) w')
 {news:List Value} (qV:Src P E.w i.size m.length u vx news) (rQ:RL E.nl m.flatten news) (fG:∀v∈news,v.oneCell' = aa) (hm:∀y∈m,y.length=i.size)
 (hk:yL st.out i.size base n cap m λv D=>K v ⟨st.t,st.aC,D⟩):o.wp P a E.w (dz E a o.dst K) Q:=by
 obtain⟨zt,jO,nW,Dn,rL,rM⟩:=hk;have rO:=qV.size;have Dg:(n+m.length)*i.bytes<=140737488355328:=by
  have:=O5 jO mo
  simp only[aM] at this;omega
 have DE:n+m.length<=9223372036854775807:=by simp only[aM] at jO;omega
 by_cases qf:m=[]
 .have hK0:K (V.raw (Value.slice base n cap)) st:=Dn qf;subst qf
  have:news=[]:=su (by simpa using rO)
  subst this;refine cP hs (v:=.raw (.slice base n cap)) (x:=.slice base n cap) ?_ (by simp only[R]) hK0;rw[cS,VT (P:=P) ht hi zt qV];rfl
 rcases vA cap (n+m.length) with az | nY
 .obtain⟨cs,bP,rM⟩:=rM az;have hold:∃gC:List Value,(Builtin.firstCells i.size n (.slice base n cap)).run P E.w.drew = .ok gC.toArray E.w.drew/\RL E.nl (cs.take (n*i.size)) gC/\gC.length=n*i.size/\(cs.take (n*i.size)).length=n*i.size:=by
   rcases bP with ⟨rfl,rfl⟩ | ⟨b,rfl,nQ,hle⟩
   .refine⟨[],?_,by simp[RL],by simp,by simp⟩;cases base<;>simp[Builtin.firstCells,loadCells,loadCellsFrom]
   .obtain⟨dp,c,e',eT,hlen,nR⟩:=hs.ok.box b cs nQ;have eT:E.w.heap[b]?=U (.cells c e' (0,0)):=eT;refine⟨c.toList.take (n*i.size),?_,CC (by simp;omega) λj x u hx hu=>?_,by simp;omega,by simp;omega⟩
    .have hl:(c.toList.take (n*i.size)).length=n*i.size:=by simp;omega
     have:=run_loadCells_list (P:=P) E.w.drew ⟨b,0,ae⟩ (c.toList.take (n*i.size)) (λj v hv=>by
      rw[lh];have Gm : E.w.drew.heap[b]?=U (.cells c e' (0,0)):=eT;have hj:j<n*i.size:=by have:=(eX.1 hv).1;omega
      rw[yQ hj] at hv;simpa [World.cell?,Gm] using hv)
     rw[hl] at this;simp only[Builtin.firstCells];exact this
    .have hj:j<n*i.size:=by have:=(eX.1 hx).1;simp at this;omega
     rw[yQ hj] at hx;rw[yQ hj] at hu;obtain⟨v,h1,h2⟩:=nR j x hx
     have:v=u:=by simp at hu;rw[hu] at h1;simpa using h1.symm
     exact this▸h2
  obtain⟨gC,Dw,rR,mS,ho4⟩:=hold;have qe:=grownCap_ge E.w (n+m.length) cap e;have hr:(execOp a.eval o).run P E.w = .ok (.value (.slice (U ⟨E.w.heap.size,0,ae⟩) (n+m.length) (grownCap E.w (n+m.length) cap e)))
   (E.w.drew.alloc (.cells (gC++(news++(Builtin.zeroCells z.cells (grownCap E.w (n+m.length) cap e - (n+m.length))).toList)).toArray e)):=by
   rw[cS,Nq (P:=P) ht hi hz Dw qV az Dg DE];rfl
  have Lk:(Builtin.zeroCells z.cells (grownCap E.w (n+m.length) cap e - (n+m.length))).toList.length=(grownCap E.w (n+m.length) cap e - (n+m.length))*i.size:=by
   simp only[AL,size_zeroCells,iK]
  generalize grownCap E.w (n+m.length) cap e=nc at hr qe Lk;generalize (Builtin.zeroCells z.cells (nc - (n+m.length))).toList=rest at hr Lk;refine Ol hs (v:=λb=>.raw (.slice (U ⟨b,0,ae⟩) (n+m.length) nc)) (zs:=cs.take (n*i.size)++m.flatten++aA ((nc - (n+m.length))*i.size) .any) ((Ext.refl E.w).drew) rfl hr ?_ (by simp only[R]) rfl (λb hb=>rM b nc hb qe);simp only[dZ];refine tZ rR (tZ rQ ?_);rw[<-Lk];exact O9 rest
 .obtain⟨b,cs,rfl,nQ,nU,hK⟩:=rL qf nY;obtain⟨dp,c,e',eT,hlen,nR⟩:=hs.ok.box b cs nQ;have eT:E.w.heap[b]?=U (.cells c e' (0,0)):=eT;have kI:=mm hm;have KG : n*i.size+news.length<=c.size:=by rw[rO];omega
  have jh:=Nr (P:=P) (ty:=ty) ht hi eT qV fG nY KG;have ba:=F8 (E:=E) (new:=(c.toList.take (n*i.size)++news++c.toList.drop (n*i.size+news.length)).toArray) eT (.inr dp) (by simp;omega);have hle:=ba.le λ_ _ h=>h
  have gn:=setRow_heap E.w b c (c.toList.take (n*i.size)++news++c.toList.drop (n*i.size+news.length)).toArray e' _ eT;have zr:=FD (E' := Env.nl {E with w:=E.w.setRow b (c.toList.take (n*i.size)++news++c.toList.drop (n*i.size+news.length)).toArray}) hlen
   (λj x hj=>let ⟨u,h1,h2⟩:=nR j x hj;⟨u,h1,h2.mono _ ba.nl⟩) (RL.mono _ ba.nl rQ) (by omega) gn
  generalize (c.toList.take (n*i.size)++news++c.toList.drop (n*i.size+news.length)).toArray=new at jh gn ba hle zr;have jR : ∀b',b' ≠ b->(E.w.setRow b new).heap[b']?=E.w.heap[b']?:=λb' aQ=>setRow_other E.w b b' new aQ
  unfold Oper.wp;rw[cS,jh];refine⟨{E with w:=E.w.setRow b new},.raw (.slice (U ⟨b,0,ae⟩) (n+m.length) cap),.slice (U ⟨b,0,ae⟩) (n+m.length) cap,⟨st.t,st.aC,st.out.set b (setAt cs (n*i.size) m.flatten)⟩,rfl,ba,⟨⟨?_,hs.ok.aJ,λb' b8 => hs.ok.fresh b' (by simpa using b8),hs.ok.nt,λb cs hc=>dQ.mono _ ba.nl (hs.ok.bO b cs hc)⟩,
   pI hs.cU hle (λb' i hr _=>⟨hr,jR b' (by rintro rfl;rw[dp] at hr;simp at hr)⟩) hs.cU.none,hs.defers,RL.mono _ hle hs.slot⟩,by simp only[R],rfl,hK⟩
  intro b' ds jP
  by_cases cp:b' = b
  .subst cp;rw[ag.dR] at jP;simp only[aY] at jP;subst jP;exact⟨dp,zr⟩
  .rw[ag.dW _ _ cp] at jP;obtain⟨k1,k2⟩:=hs.ok.box b' ds jP;exact⟨k1,k2.mono ba.nl (jR b' cp)⟩
variable{k:Nat}
def alh{z:Array Value}{n:Nat}(hz:z.size=k)(hk:0<k):(madeCells z (n*k)).toList=(aA n z.toList).flatten:=by
 apply OP;intro j;have e:∀(n j:Nat),j<n*k->(aA n z.toList).flatten[j]?=z[j % k]?:=by
  intro n;induction n with
  | zero=>intro j hj;simp at hj
  | succ n ih =>
   intro j hj;rw[yR,kz]
   by_cases h:j<k
   .rw[sv (by simpa [hz] using h),O4 h];simp
   .rw[AT (by simp[hz];omega)];have hl:z.toList.length=k:=by simpa using hz
    have gI : j - k<n*k:=by rw[iQ,w9] at hj;omega
    rw[hl,ih (j - k) gI,show(j - k) % k=j % k from(Nat.mod_eq_sub_mod (by omega)).symm]
 by_cases hj:j<n*k
 .rw[e n j hj];have hm:j % k<z.size:=by rw[hz];exact Nat.mod_lt _ hk
  rw[getElem?_pos z _ hm];have hg:z[j % k]! = z[j % k]:=getElem!_pos z (j % k) hm;simp[madeCells,hj,hz,hg]
 .rw[yP (by simp[madeCells];omega),yP (by simp[hz];omega)]
def Nx:Operand->Operand->Bool
 | .tmp a,.tmp b=>decide (a=b)
 | .const (.int k a),.const (.int k' b)=>decide (k=k')&&decide (a=b)
 | _,_=>ak
def apK{y:Operand}(h:Nx x y=aa):x=y:=by
 unfold Nx at h;split at h
 .simp at h;rw[h]
 .simp at h;rw[h.1,h.2]
 .simp at h
variable{d:Nat}
def y5{b:Option X}{vs:List V}{K:Nat->List V->Prop}(h:kF b.isSome d (cW st b.toList++vs) K):∃m,K m vs/\match (generalizing:=false) b with | none=>m=d | some y=>∃j,ev st y = .int j m:=by
 cases b with
 | none=>simp only[Option.isSome,Option.toList,cW,fY,kF] at h;exact⟨d,h,rfl⟩
 | some y =>
  simp only[Option.isSome,Option.toList,cW,gE,fY] at h;unfold kF at h;split at h
  .rename_i e;simp at e
  .rename_i j n r e1 e2;simp only[gu] at e2;obtain⟨e3,rfl⟩:=e2;exact⟨n.toNat,h.2,j,by rw[e3];simp;omega⟩
  .exact h.elim
def FX{xs ys:List X}:cW st (xs++ys)=cW st xs++cW st ys:=by
 induction xs with
 | nil=>rfl
 | cons x xs ih=>simp[cW,ih]
def Md(P:Program)(o:Oper):Option aG :=
 match o.op with
 | .move (.const (.slice ae 0 0)) | .assign (.const (.slice ae 0 0))=>U (.own .nil [])
 | .makeSlice t l c =>
  if Nx l c=aa then
   match P.underlying t with
   | some (.slice e) =>
    match P.info? e,jB P e,cu P 0 l with
    | some i,U z,U x=>if i.bytes<=4096/\0<i.size/\z.length=i.size then U (.own (.mk z) [x]) else ae
    | _,_,_=>ae
   | _=>ae
  else ae
 | .buildSlice t len ps =>
  match P.underlying t with
  | some (.slice e) =>
   match dO P e,jB P e,iU P (aA len e) (ps.toList.map (·.2)) with
   | some k,U _,U xs=>if ps.toList.map (·.1)=cc len/\len*k<=16777216 then U (.own (.lE k) xs) else ae
   | _,_,_=>ae
  | _=>ae
 | .slice t x lo hi mx =>
  match P.underlying t with
  | some (.slice e) =>
   match cu P t x,kn P t lo,kn P t hi,kn P t mx,dO P e with
   | some x,U lo,U hi,U mx,U k=>if mx.isSome=aa->hi.isSome=aa then U (.own (.kv k lo.isSome hi.isSome mx.isSome) (x::(lo.toList++hi.toList++mx.toList))) else ae
   | _,_,_,_,_=>ae
  | _=>ae
 | .indexAddr t x i =>
  match P.underlying t,cu P t x,cu P t i with
  | some (.slice e),U x,U i=>(dO P e).map λk=>.own (.idx k) [x,i]
  | _,_,_=>ae
 | .call c =>
  match c.callee with
  | .builtin .len =>
   match c.argTypes.toList,c.args.toList with
   | [t], [x] =>
    match P.underlying t,cu P t x with
    | some (.slice _),U y=>U (.own .len [y])
    | _,_=>ae
   | _,_=>ae
  | .builtin .append =>
   match c.argTypes.toList,c.args.toList with
   | [t, u], [s, x] =>
    match P.underlying t,P.underlying u,cu P t s,cu P u x with
    | some (.slice e), U (.slice e'), U s, U x =>
     match P.info? e,jB P e with
     | some i,U _=>if e=e' /\ i.bytes<=4096/\0<i.size then U (.own (.app i.size) [s,x]) else ae
     | _,_=>ae
    | _,_,_,_=>ae
   | _,_=>ae
  | _=>ae
 | _=>ae
variable{ao:aG}
def anr(hl:Md P o=U ao)(hs:bB E st a)(h:ao.a7 P st K):o.wp P a E.w (dz E a o.dst K) Q:=by
 have X:=λ{t:TypeId} {x:Operand} {y:X} (hx:cu P t x=U y)=>mz (E:=E) (st:=st) (a:=a) hs.slot hx
 unfold Md at hl;split at hl
 .rename_i ho;simp only[aY] at hl;subst hl;refine cP hs (v:=.raw (.slice ae 0 0)) (x:=.slice ae 0 0) ?_ (by simp only[R]) h;simp[execOp,ho,Act.eval]
 .rename_i ho;simp only[aY] at hl;subst hl;refine cP hs (v:=.raw (.slice ae 0 0)) (x:=.slice ae 0 0) ?_ (by simp only[R]) h;simp[execOp,ho,Act.eval]
 .rename_i t l c ho;split at hl
  case isFalse=>simp at hl
  rename_i Ds;have Ds:=apK Ds;subst Ds;split at hl
  case h_2=>simp at hl
  rename_i e ht;split at hl
  case h_2=>simp at hl
  rename_i i z x hi hz hx;split at hl
  case isFalse=>simp at hl
  rename_i hc;simp only[aY] at hl;subst hl;obtain⟨i',z',q1,q2,q3,q4⟩:=sr hz;obtain rfl:i=i' := by rw[hi] at q1;simpa using q1
  have jv := X hx;simp only[aG.a7,cW] at h;unfold OQ.a7 at h;split at h<;>try (exfalso;simp_all;done)
  .rename_i z0 k n e1 e2;simp only[OQ.mk.injEq] at e1;subst e1;simp only[gu,gw] at e2;rw[e2] at jv;simp only[R] at jv;obtain⟨g1,g2,g3,g4,g5⟩:=h;have iK:z'.cells.size=i.size:=by have:=fC (qH (E:=E) q3);simp at this;omega
   have cS:=run_make (P:=P) E.w t e i z' ht hi q2 k k n n g1 (Iz _) (by
    have:(i.bytes:Int)*n<=4096*aM:=Int.mul_le_mul (by omega) (by omega) g1 (by omega)
    simp only[aM] at this;omega) (by simp only[aM] at g2;omega)
   refine Ol hs (w1:=E.w) (Ext.refl _) rfl (v:=λb=>.raw (.slice (U ⟨b,0,ae⟩) n.toNat n.toNat)) (zs:=(aA n.toNat z).flatten) (x:=.slice (U ⟨E.w.heap.size,0,ae⟩) n.toNat n.toNat) (c:=madeCells z'.cells (n.toNat*i.size)) (e:=e) ?_ ?_ (by simp only[R]) rfl (λb hb=>g5 b hb)
   .simp[execOp,ho,jv,cS]
   .rw[alh iK hc.2.1];have hr:=qH (E:=E.nl) q3;induction n.toNat with
    | zero=>simp[RL]
    | succ m ih=>simp only[yR,kz];exact tZ hr ih
 .rename_i t len ps ho;split at hl
  case h_2=>simp at hl
  rename_i e ht;split at hl
  case h_2=>simp at hl
  rename_i k z xs hk hz pD;split at hl
  case isFalse=>simp at hl
  rename_i hc;simp only[aY] at hl;subst hl;simp only[aG.a7] at h;unfold OQ.a7 at h;split at h<;>try (exfalso;simp_all;done)
  .rename_i k0 vs e1;simp only[OQ.lE.injEq] at e1;subst e1;obtain⟨l,h1,h2⟩:=h;exact Xf hs ho ht hk hz hc.1 hc.2 (LN (E:=E) hs.slot pD h1) h2
 .rename_i t x lo hi mx ho;split at hl
  case h_2=>simp at hl
  rename_i e ht;split at hl
  case h_2=>simp at hl
  rename_i x' my c_ mx' k h1 h2 h3 h4 hk;split at hl
  case isFalse=>simp at hl
  rename_i uL;simp only[aY] at hl;subst hl;have hx:=X h1;simp only[aG.a7,cW] at h;unfold OQ.a7 at h;split at h<;>try (exfalso;simp_all;done)
  .rename_i k0 b1 b2 b3 base n cap vs e1 e2;simp only[OQ.kv.injEq] at e1;obtain⟨rfl,rfl,rfl,rfl⟩:=e1;simp only[gu] at e2;obtain⟨e2,rfl⟩:=e2;rw[e2] at hx;simp only[R] at hx;rw[FX,FX,dZ] at h;obtain⟨m,h,g1⟩:=y5 h;obtain⟨hh,h,g2⟩:=y5 h;rw[<-eg (cW st mx'.toList)] at h;obtain⟨M,h,g3⟩:=y5 h;obtain⟨_,k1,k2,k3,h⟩:=h;have hb:=Ns (P:=P) hs h2 h3 h4 uL g1 g2 g3 k1 k2 k3;refine cP hs (v:=.raw _) (x:=.slice (if M=m then base else base.map (·.add (m*k))) (hh - m) (M - m)) ?_ (by simp only[R]) h;simp only[execOp,ho,Sem.run_bind,hx];simp[Instr.sliceAt,run_underlying ht,Instr.slice,hb,nh hk]
 .rename_i t x i ho;split at hl
  case h_2=>simp at hl
  rename_i e x' i' ht h1 h2;simp only[cZ] at hl;obtain⟨k,hk,rfl⟩:=hl;have hx:=X h1;have hi:=X h2;simp only[aG.a7,cW] at h;unfold OQ.a7 at h;split at h<;>try (exfalso;simp_all;done)
  .rename_i k0 b off n cap kk j e1 e2;simp only[OQ.idx.injEq] at e1;subst e1;simp only[gu,gw] at e2;obtain⟨e2,e3⟩:=e2;rw[e2] at hx;rw[e3] at hi;simp only[R] at hx hi;obtain⟨g1,g2,h⟩:=h;refine cP hs (v:=.ptr (.out b) (off+j.toNat*k)) (x:=.pointer (U ⟨b,off+j.toNat*k,ae⟩)) ?_ (by simp only[R]) h;simp[execOp,ho,hx,hi,Instr.indexAt,asIntOf,run_underlying ht,g1,g2,nh hk,lh]
 .rename_i c ho;obtain⟨callee,args,argTypes⟩:=c;simp only at hl;split at hl
  .split at hl
   case h_2=>simp at hl
   rename_i t x ht hx;have e1:argTypes=#[t]:=by cases argTypes;simpa using ht
   have e2:args=#[x]:=by cases args;simpa using hx
   subst e1;subst e2;split at hl
   case h_2=>simp at hl
   rename_i e y hu h1;simp only[aY] at hl;subst hl;have hx:=X h1;simp only[aG.a7,cW] at h;unfold OQ.a7 at h;split at h<;>try (exfalso;simp_all;done)
   .rename_i base n cap e1 e2;simp only[gu,gw] at e2;rw[e2] at hx;simp only[R] at hx;refine cP hs (v:=.int .i64 n) (x:=.int .i64 n) ?_ (by simp only[R]) h;simp[execOp,ho,resolve,invoke,builtin,Builtin.len_,run_underlying hu,hx,goInt]
  .split at hl
   case h_2=>simp at hl
   rename_i t u s x ht hx;have e1:argTypes=#[t,u]:=by cases argTypes;simpa using ht
   have e2:args=#[s,x]:=by cases args;simpa using hx
   subst e1;subst e2;split at hl
   case h_2=>simp at hl
   rename_i e e' s' x' hu zH dh jv;split at hl
   case h_2=>simp at hl
   rename_i i z hi hz;split at hl
   case isFalse=>simp at hl
   rename_i hc;simp only[aY] at hl;subst hl;obtain⟨rfl,mo,iJ⟩:=hc;obtain⟨i',z',q1,q2,q3,q4⟩:=sr hz;obtain rfl:i=i' := by rw[hi] at q1;simpa using q1
   have iK:z'.cells.size=i.size:=by have:=fC (qH (E:=E) q3);simp at this;omega
   have uN:=X dh;have fH:=X jv;simp only[aG.a7,cW] at h;unfold OQ.a7 at h;split at h<;>try (exfalso;simp_all;done)
   .rename_i k0 base n cap tk k1 m e1 e2;simp only[OQ.app.injEq] at e1;subst e1;simp only[gu,gw] at e2;obtain⟨e2,e3⟩:=e2;obtain⟨rfl,h⟩:=h;rw[e2] at uN;rw[e3] at fH;obtain⟨news,g1,g2,g3,g4⟩:=H2 (P:=P) zH fH;simp only[R] at uN;refine Ok hs hu hi q2 iK mo (ty:=o.type) (vx:=a.eval x) ?_ g1 g2 g3 g4 h;simp[execOp,ho,resolve,invoke,builtin,uN]
  .simp at hl
 .simp at hl
def Mc(P:Program)(h:List Nat)(o:Oper):Option aG :=
 match o.dst with
 | some d =>
  if h.contains d=aa then
   match o.op with
   | .alloc t=>(jB P t).map .pe
   | .box t x=>match dO P t,cu P t x with | some n,U y=>U (.fZ n y) | _,_=>ae
   | _=>match Md P o with | some x=>U x | none=>yf P o
  else yf P o
 | none=>yf P o
def akZ{h:List Nat}(hl:Mc P h o=U ao)(hs:bB E st a)(hk:ao.a7 P st K):o.wp P a E.w (dz E a o.dst K) Q:=by
 unfold Mc at hl;split at hl
 case h_2=>exact D3 hl hs hk
 split at hl
 case isFalse=>exact D3 hl hs hk
 split at hl
 .rename_i t ho;simp only[cZ] at hl;obtain⟨z,h1,rfl⟩:=hl;exact aso hs ho h1 hk
 .rename_i t x ho;split at hl
  case h_2=>simp at hl
  rename_i n y hn hy;simp only[aY] at hl;subst hl;exact ass hs ho (mz hs.slot hy) hk
 .split at hl
  .rename_i x hx;simp only[aY] at hl;subst hl;exact anr hx hs hk
  .exact D3 hl hs hk
end
structure AR(E:Env)(Z k:Nat)(l:List (List V))(b cap:Nat):Prop where
 aJ:E.aJ Z=U l.length
 aZ:E.aZ b = .gh Z (l.length*k)
 PQ:∃cs e,E.w.heap[b]?=U (.cells cs e (0,0))/\cs.size=cap*k
 cap:l.length+1<=cap
 uq:fK E.nl k l b 0
variable{E:Env}{b cap k Z:Nat}
def AR.mono{E':Env}{l:List (List V)}(h:AR E Z k l b cap)(hf:Fr E E')(ht:E'.aJ Z=U l.length):AR E' Z k l b cap:=by
 obtain⟨n',h1,_,h3⟩:=hf.tok Z _ h.aJ;rw[ht] at h1;simp only[aY] at h1;obtain⟨r1,r2⟩:=h3 h1.symm b _ h.aZ;obtain⟨cs,e,k1,k2⟩:=h.PQ;obtain⟨cs',q1,q2⟩:=r2 cs e k1;exact⟨ht,r1,⟨cs',e,q1,q2.trans k2⟩,h.cap,fK.mono _ hf.nl h.uq⟩
section
variable {P:Program} {E:Env} {st:St} {a:Act} {o:Oper}
variable{e t ty u:TypeId}
def aiD(hs:bB E st a){i:TypeInfo}{z:Value}(ht:P.underlying t=U (.slice e))(hi:P.info? e=U i)(hz:i.zero=U z)(iK:z.cells.size=i.size)
 (mo:i.bytes<=4096) {vs vx:Value} {Z:Nat} {l:List (List V)}
 (cS:(execOp a.eval o).run P E.w=((Builtin.append_ #[t,u] ty #[vs,vx]).run P E.w).andThen λv w' => .ok (.value v) w')
 (d_:R E (.sl (.tk Z) i.size l) vs) {news:List Value} (qV:Src P E.w i.size 1 u vx news) (fG:∀v∈news,v.oneCell' = aa)
 (jO:l.length+1<=aM) (hE:E.aJ Z=U l.length) :
 ∃b cap E',AR E' Z i.size l b cap/\(execOp a.eval o).run P E.w = .ok (.value (.slice (U ⟨b,0,ae⟩) (l.length+1) cap)) E'.w/\Fr E E' /\ bB E' st a/\(∀j,E'.aC j=E.aC j):=by
 simp only[R] at d_;obtain⟨base,cap,rfl,zt,lv,uO⟩:=d_;obtain⟨gC,hold,Ki,J5,dB,hlen⟩:=Us (P:=P) (cap:=cap) lv;have Dg:(l.length+1)*i.bytes<=140737488355328:=by
  have:=O5 jO mo
  simp only[aM] at this;omega
 have DE:l.length+1<=9223372036854775807:=by simp only[aM] at jO;omega
 have rO:=qV.size;obtain⟨n',h1,_,h3⟩:=uO;rw[hE] at h1;simp only[aY] at h1;subst h1
 rcases vA cap (l.length+1) with az | nY
 .have qe:=grownCap_ge E.w (l.length+1) cap e;have size:(gC++(news++(Builtin.zeroCells z.cells (grownCap E.w (l.length+1) cap e - (l.length+1))).toList)).toArray.size=grownCap E.w (l.length+1) cap e*i.size:=by
   simp only[O3,bI,AL,size_zeroCells,iK,hlen,rO];rw[<-E5,<-iQ,<-iQ];congr 1;omega
  have hr:=Nq (P:=P) (ty:=ty) ht hi hz hold qV az Dg DE;generalize grownCap E.w (l.length+1) cap e=nc at hr qe size;generalize news++(Builtin.zeroCells z.cells (nc - (l.length+1))).toList=rest at hr size
  let E' : Env:={w:=E.w.drew.alloc (.cells (gC++rest).toArray e),aZ:=λb=>if b=E.w.heap.size then .gh Z (l.length*i.size) else E.aZ b,aC:=E.aC,aJ:=E.aJ}
  have hx:Ext E.w E'.w:=((Ext.refl _).drew).alloc _ _;have gn:∀b,b<E.w.heap.size->E'.aZ b=E.aZ b:=λb hb=>by simp only[E'];rw[aB (by omega)]
  have ba:Fr E E' := xx hs.ok.fresh hx gn (λ_ _ h=>h);have hle:E.le E' := ba.le λ_ _ h=>h
  have Lb:E'.w.heap.size=E.w.heap.size+1:=by simp[E']
  have rP:E'.w.heap[E.w.heap.size]?=U (.cells (gC++rest).toArray e (0,0)):=heap_alloc_new E.w.drew _;have fy:E'.aZ E.w.heap.size = .gh Z (l.length*i.size):=by simp[E']
  refine⟨E.w.heap.size,nc,E',⟨hE,fy,⟨_,_,rP,size⟩,qe,Fc dB (RL.mono _ ba.nl Ki) J5 rP (λj hj=>by rw[fy];simpa [eP.gW] using hj)⟩,?_,ba,⟨?_,?_,hs.defers,RL.mono _ hle hs.slot⟩,λ_=>rfl⟩
  .rw[cS,hr];rfl
  .refine BT hs.ok ba.nl (λb h hb=>⟨by rw[gn b hb];exact h,hx.block b hb⟩) (λ_ _ h=>h) (λb hb=>?_) hs.ok.nt;rw[Lb] at hb;simp only[E'];rw[aB (by omega)];exact hs.ok.fresh b (by omega)
  .exact pI hs.cU hle (λb i' h hb=>⟨by rw[gn b hb];exact h,hx.block b hb⟩) hs.cU.none
 .rcases h3 rfl with hc | ⟨b,cs,e',rfl,dp,eT,cD⟩
  .omega
  .have nU:l.length*i.size+news.length<=cs.size:=by
    rw[rO,cD,<-iQ];exact rB _ nY
   have jh:=Nr (P:=P) (ty:=ty) ht hi eT qV fG nY nU;have uH:∀j:Nat,j<l.length*i.size->(cs.toList.take (l.length*i.size)++news++cs.toList.drop (l.length*i.size+news.length)).toArray[j]?=cs[j]?:=λj hj=>by
    have:=Er (c:=cs.toList) (vs:=news) (off:=l.length*i.size) (by simpa using nU) j
    rw[aD hj] at this;simpa using this
   have rW:(cs.toList.take (l.length*i.size)++news++cs.toList.drop (l.length*i.size+news.length)).toArray.size=cs.size:=by
    simp;omega
   generalize (cs.toList.take (l.length*i.size)++news++cs.toList.drop (l.length*i.size+news.length)).toArray=new at jh uH rW
   let E' : Env:={E with w:=E.w.setRow b new}
   have iy:∀b',b' ≠ b->E'.w.heap[b']?=E.w.heap[b']?:=λb' aQ=>setRow_other E.w b b' new aQ
   have b8 : E'.w.heap[b]?=U (.cells new e' (0,0)):=setRow_heap E.w b cs new e' _ eT;have aQ:∀b' r,E.aZ b' = r->(∀c,r≠.gh Z c)->b' ≠ b:=λb' r h h' => by rintro rfl;rw[dp] at h;exact h' _ h.symm
   have ba:Fr E E' := by
    refine⟨rfl,rfl,rfl,by simp[E'],C3 eT,?_,?_,?_,λ_ _ h=>.inl h,λ_ _ c _ h=>⟨c,h⟩,λ_ i _ h=>⟨i,h⟩,λb' c' Bb hc=>by
     by_cases cp:b' = b
     .subst cp;rw[eT] at hc;simp only[aY,Obj.cells.injEq] at hc;obtain⟨rfl,rfl,_⟩:=hc;exact⟨new,b8,rW⟩
     .exact⟨c',(iy b' cp).trans hc,rfl⟩⟩
    .intro b' o' c hc hv
     by_cases cp:b' = b
     .subst cp;refine⟨hc,?_⟩;rw[dp] at hc;simp only[eP.gW] at hc;simp only[World.cell?,eT] at hv;simp only[World.cell?,b8,uH _ hc];exact hv
     .exact⟨hc,by rw[A8 (iy b' cp)];exact hv⟩
    .intro t n hn;refine⟨n,hn,bL _,λ_ b' c zq=>⟨zq,λcs' Bb bP=>?_⟩⟩
     by_cases cp:b' = b
     .subst cp;rw[eT] at bP;simp only[aY,Obj.cells.injEq] at bP;obtain⟨rfl,rfl,_⟩:=bP;exact⟨new,b8,rW⟩
     .exact⟨cs',by rw[iy b' cp];exact bP,rfl⟩
    .intro b' _ hr;have cp:b' ≠ b:=by rcases hr with hr | hr<;>exact aQ b' _ hr (λc h=>by simp at h)
     exact⟨iy b' cp,rfl⟩
   have hle:E.le E' := ba.le λ_ _ h=>h
   have Du:fK E.nl i.size l b 0:=by
    rcases lv with h | ⟨b2,o2,h,hr⟩
    .subst h;simp[fK]
    .simp only[aY,Addr.mk.injEq] at h;obtain⟨rfl,rfl,_⟩:=h;exact hr
   refine⟨b,cap,E',⟨hE,dp,⟨new,e',b8,rW.trans cD⟩,nY,fK.mono _ ba.nl Du⟩,?_,ba,⟨?_,?_,hs.defers,RL.mono _ hle hs.slot⟩,λ_=>rfl⟩
   .rw[cS,jh];rfl
   .exact BT hs.ok ba.nl (λb' hr _=>⟨hr,iy b' (aQ b' _ hr (λc h=>by simp at h))⟩) (λ_ _ h=>h) (λb' qb => hs.ok.fresh b' (by simpa [E'] using qb)) hs.ok.nt
   .exact pI hs.cU hle (λb' i' hr _=>⟨hr,iy b' (aQ b' _ hr (λc h=>by simp at h))⟩) hs.cU.none
def aiG(hs:bB E st a){l:List (List V)}(hh:AR E Z k l b cap)(hn:dO P t=U k){xs:List V}{v:Value}(hx:RL E.nl xs v.cells.toList)(hv:v.cells.size=k)(h1:∀u∈v.cells.toList,u.oneCell' = aa):
 ∃E',(storeVar t ⟨b,l.length*k,ae⟩ v).run P E.w = .ok () E'.w/\Fr E E' /\ bB E' ⟨st.t,st.aC,st.out.aR Z (l.length+1)⟩ a /\
  R E'.nl (.sl (.tk Z) k (l++[xs])) (.slice (U ⟨b,0,ae⟩) (l.length+1) cap)/\(∀j,E'.aC j=E.aC j):=by
 obtain⟨cs,e',eT,cD⟩:=hh.PQ;have dp:=hh.aZ;have hE:=hh.aJ;have nY:=hh.cap;obtain⟨dB,_⟩:=qz.1 hh.uq;have wh:xs.length=k:=by have:=fC hx;simp at this;omega
 have jh:=Nt (P:=P) (off:=l.length*k) hn eT hv (by rw[cD,<-E7];exact rB _ nY) h1;generalize rQ:v.cells.toList=news at hx h1 jh;have rO:news.length=k:=by rw[<-rQ];simpa using hv
 have nU:l.length*k+news.length<=cs.size:=by rw[rO,cD,<-E7];exact rB _ nY
 have uH:∀j:Nat,(cs.toList.take (l.length*k)++news++cs.toList.drop (l.length*k+k)).toArray[j]?=if j<l.length*k then cs[j]? else if j<l.length*k+news.length then news[j - l.length*k]? else cs[j]?:=λj=>by
  have:=Er (c:=cs.toList) (vs:=news) (off:=l.length*k) (by simpa using nU) j
  rw[rO] at this ⊢;simpa using this
 have rW:(cs.toList.take (l.length*k)++news++cs.toList.drop (l.length*k+k)).toArray.size=cs.size:=by
  simp;omega
 generalize (cs.toList.take (l.length*k)++news++cs.toList.drop (l.length*k+k)).toArray=new at jh uH rW;have ah1:l.length*k<=(l.length+1)*k:=rB _ (by omega)
 let E' : Env:={w:=E.w.setRow b new,aZ:=λb' => if b' = b then .gh Z ((l.length+1)*k) else E.aZ b',aC:=E.aC,aJ:=λt=>if t=Z then U (l.length+1) else E.aJ t}
 have iy:∀b',b' ≠ b->E'.w.heap[b']?=E.w.heap[b']?:=λb' aQ=>setRow_other E.w b b' new aQ
 have lX:∀b',b' ≠ b->E'.aZ b' = E.aZ b' := λb' aQ=>by simp only[E'];rw[aB aQ]
 have b8 : E'.w.heap[b]?=U (.cells new e' (0,0)):=setRow_heap E.w b cs new e' _ eT;have py:E'.aZ b = .gh Z ((l.length+1)*k):=by simp[E']
 have aQ:∀b' r,E.aZ b' = r->(∀c,r≠.gh Z c)->b' ≠ b:=λb' r h h' => by rintro rfl;rw[dp] at h;exact h' _ h.symm
 have ba:Fr E E' := by
  refine⟨rfl,rfl,rfl,by simp[E'],C3 eT,?_,?_,?_,?_,?_,?_,λb' c' Bb hc=>by
   by_cases cp:b' = b
   .subst cp;rw[eT] at hc;simp only[aY,Obj.cells.injEq] at hc;obtain⟨rfl,rfl,_⟩:=hc;exact⟨new,b8,rW⟩
   .exact⟨c',(iy b' cp).trans hc,rfl⟩⟩
  .intro b' o' c hc hv
   by_cases cp:b' = b
   .subst cp;rw[dp] at hc;simp only[eP.gW] at hc;refine⟨by rw[py];simp only[eP.gW];omega,?_⟩;simp only[World.cell?,eT] at hv;simp only[World.cell?,b8,uH,aD hc];exact hv
   .exact⟨by rw[lX b' cp];exact hc,by rw[A8 (iy b' cp)];exact hv⟩
  .intro t n hn
   by_cases qW:t=Z
   .subst qW;rw[hE] at hn;simp only[aY] at hn;exact⟨l.length+1,by simp[E'],by omega,λh=>by omega⟩
   .refine⟨n,by simp only[E'];rw[aB qW];exact hn,bL _,λ_ b' c zq=>?_⟩;have cp:b' ≠ b:=aQ b' _ zq (λc' h=>by simp at h;exact qW h.1);exact⟨by rw[lX b' cp];exact zq,λcs' Bb bP=>⟨cs',by rw[iy b' cp];exact bP,rfl⟩⟩
  .intro b' _ hr;have cp:b' ≠ b:=by rcases hr with hr | hr<;>exact aQ b' _ hr (λc h=>by simp at h)
   exact⟨iy b' cp,lX b' cp⟩
  .intro b' _ h;have cp:b' ≠ b:=by rintro rfl;rw[py] at h;simp at h
   rw[lX b' cp] at h;exact .inl h
  .intro b' t c _ h
   by_cases cp:b' = b
   .subst cp;rw[py] at h;simp at h;obtain⟨rfl,_⟩:=h;exact⟨_,dp⟩
   .rw[lX b' cp] at h;exact⟨c,h⟩
  .intro b' i' _ h;have cp:b' ≠ b:=by rintro rfl;rw[py] at h;simp at h
   rw[lX b' cp] at h;exact⟨_,h⟩
 have hle:E.le E' := ba.le λ_ _ h=>h
 refine⟨E',jh,ba,⟨⟨?_,?_,?_,?_,λb cs hc=>dQ.mono _ ba.nl (hs.ok.bO b cs hc)⟩,?_,hs.defers,RL.mono _ hle hs.slot⟩,?_,λ_=>rfl⟩
 .intro b' cs' bP;obtain⟨k1,k2⟩:=hs.ok.box b' cs' bP;have cp:b' ≠ b:=aQ b' _ k1 (λc h=>by simp at h);exact⟨by rw[lX b' cp];exact k1,k2.mono ba.nl (iy b' cp)⟩
 .intro t n kP;simp only[ag.aR] at kP;simp only[E'];split at kP
  .rename_i h;rw[aD h];exact kP
  .rename_i h;rw[aB h];exact hs.ok.aJ t n kP
 .intro b' qb;have cp:b' ≠ b:=by
   rintro rfl
   have:=ko eT
   simp[E'] at qb;omega
  rw[lX b' cp];exact hs.ok.fresh b' (by simpa [E'] using qb)
 .obtain⟨N,hN⟩:=hs.ok.nt;exact⟨max N (Z+1),λt pB => by simp only[E'];rw[aB (by omega)];exact hN t (by omega)⟩
 .refine pI hs.cU hle (λb' i' hr _=>?_) hs.cU.none;have cp:b' ≠ b:=aQ b' _ hr (λc h=>by simp at h);exact⟨by rw[lX b' cp];exact hr,iy b' cp⟩
 .have Kg:fK E'.nl k (l++[xs]) b 0:=by
   have Du:=hh.uq;refine qz.2 ⟨λy hy=>?_,?_⟩
   .rcases jE.1 hy with h | h
    .exact dB y h
    .simp at h;subst h;exact wh
   rw[tS];refine xa.2 ⟨(qz.1 (fK.mono _ ba.nl Du)).2,AZ (vs:=news) (by simpa using RL.mono _ ba.nl hx) h1 (λj v hv=>?_) (λj hj=>?_)⟩
   .have hj:=(eX.1 hv).1;rw[mm dB];simp only[Env.Ui,World.cell?,b8,uH];simp only[Cz,di,ck];rw[aB (show ¬(0+l.length*k+j<l.length*k) by omega),aD (show 0+l.length*k+j<l.length*k+news.length by omega)];rw[show 0+l.length*k+j - l.length*k=j from by omega];exact hv
   .rw[mm dB];simp only[kz,OT,eg,wh] at hj;simp only[Env.Uh,py,eP.gW];rw[iQ];omega
  simp only[R,bI,db,ei];exact⟨U ⟨b,0,ae⟩,cap,rfl,nY,.inr ⟨b,0,rfl,Kg⟩,l.length+1,by simp[E'],bL _,λ_=>.inr ⟨b,new,e',rfl,py,b8,rW.trans cD⟩⟩
end
structure HI where
 k:Nat
 s:X
 z:X
 len:X
 x:X
 addr:X
 fo:Option Nat
 d9:Nat
 d10:Nat
 dF:Nat
def jN(o:Oper)(j:Nat):Bool:=o.after.toList.any λe=>Region.binds .any e&&e.on == j
def KZ(P:Program)(t2:TypeId)(qC:Operand)(other:Nat):Option Oper->Option (X × Option Nat × Nat)
 | none=>(cu P t2 qC).map λy=>(y,ae,other)
 | some F =>
  match F.dst,qC,yf P F with
  | some dF,.tmp p,U (.nM off y)=>if p=dF/\F.guard=ae then U (y,U off,dF) else ae
  | _,_,_=>ae
def K0(P:Program)(A I S O'':Oper)(oF:Option Oper):Option HI :=
 match A.op,A.dst,I.op,I.dst,S.op,O''.op with
 | .call c, U d9, .indexAddr t q1 wv, U d10, .store e q2 wU, .store t2 qC q3 =>
  match c,q1,q2,q3 with
  | { callee := .builtin .append, args := args, argTypes := N5 }, .tmp p1, .tmp p2, .tmp p3 =>
   match N5.toList,args.toList with
   | [t', u], [tE, tN] =>
    match P.underlying t,P.underlying u,P.info? e,jB P e with
    | some (.slice e1), U (.slice e2), U i, U _ =>
     match cu P t tE,cu P u tN,cu P t wv,cu P e wU,KZ P t2 qC (d9+d10+1) oF with
     | some s, U z, U len, U x, U (addr, fo, dF) =>
      if (t' = t/\e1=e/\e2=e/\i.bytes<=4096/\0<i.size)/\(p1=d9/\p2=d10/\p3=d9/\dO P t2=U 1)/\(A.guard=ae/\I.guard=ae/\S.guard=ae/\O''.guard=ae/\S.dst=ae/\O''.dst=ae)/\d9≠d10/\d9≠dF/\d10≠dF then
       U ⟨i.size,s,z,len,x,addr,fo,d9,d10,dF⟩
      else ae
     | _,_,_,_,_=>ae
    | _,_,_,_=>ae
   | _,_=>ae
  | _,_,_,_=>ae
 | _,_,_,_,_,_=>ae
def rT(ops:Array Oper):Option Oper :=
 match ops[ops.size - 2]? with
 | some F=>match F.op with | .fieldAddr _ _ _=>U F | _=>ae
 | none=>ae
def gf(ops:Array Oper):Nat:=if (rT ops).isSome then ops.size - 5 else ops.size - 4
def dummy(o:Oper):AO:=⟨o.dst,.mv (.c .any),ae⟩
def EF(l1:List AO)(b:List Nat):List (AO × List Nat) :=
 let d:=lg eY (l1.map λo=>(o,[])) b
 (l1.zip d).zipIdx.map λ((o,x),i)=>(o,if o.op.BO then((cc (xK d i+1 - n5 d x)).map (n5 d x+·)).filter (· != Ae d i) else [])
variable{i:Nat}
def W7{l1:List AO}{b:List Nat}{y:AO}(hy:l1[i]?=U y)(az:i<(EF l1 b).length):∃ms,(EF l1 b)[i]?=U (y,ms):=by
 unfold EF at az ⊢
 simp only at az ⊢;generalize lg eY (l1.map λo=>(o,[])) b=d at az ⊢;generalize hL:l1.zip d=z at az ⊢;have hz:i<z.length:=by simpa using az
 have e:z[i]?=U z[i]:=cH hz;have e1:z[i].1=y:=by
  subst hL;rw[IL,hy] at e;exact(tY e.1).symm
 rw[vu,OV,e];simp only[vC,e1];exact⟨_,rfl⟩
def Su(P:Program)(ops:Array Oper)(l:List (AO × List Nat))(b:List Nat)(nA:Nat)(A I S O'':Oper)(oF:Option Oper):Bool :=
 (xo ops l b&&P.follows .mixedOrders)&&decide (nA+(if oF.isSome then 5 else 4)=ops.size)&&((cc nA).all λj=>jN A j) &&
  (jN I nA&&jN S nA&&jN S (nA+1)&&jN O'' nA)&&(match oF with | some F=>jN F nA&&jN O'' (nA+3) | none=>aa)
def Hp(P:Program)(ops:Array Oper):Option (List (AO × List Nat) × HI) :=
 match ops[gf ops]?,ops[gf ops+1]?,ops[gf ops+2]?,ops[ops.size - 1]?,zX P ops (ops.toList.take (gf ops)) with
 | some A, U I, U S, U O'', U l0 =>
  match K0 P A I S O'' (rT ops) with
  | some hi =>
   if Su P ops (EF (l0++(ops.toList.drop (gf ops)).map dummy) (wy ops.toList [])) (wy ops.toList []) (gf ops) A I S O'' (rT ops)=aa then
    U (EF (l0++(ops.toList.drop (gf ops)).map dummy) (wy ops.toList []),hi) else ae
  | none=>ae
 | _,_,_,_,_=>ae
def C0:Option Nat->V->Option V
 | none,v=>U v
 | some n,.ptr p o=>U (.ptr p (o+n))
 | some _,_=>ae
def Ix(hi:HI)(K:St->Prop)(st:St):Prop :=
 ∃Z l c t' j,ev st hi.s = .sl (.tk Z) hi.k l/\ev st hi.z = .sl t' hi.k [c]/\ev st hi.len = .int j l.length/\l.length+1<=aM/\st.out.aJ Z=U l.length /\
  (ev st hi.x).wd=U hi.k/\cB (ev st hi.x).cells=aa/\bH (ev st hi.x).cells=aa/\hi.d9<st.t.length/\hi.d10<st.t.length/\(hi.fo.isSome=aa->hi.dF<st.t.length) /\
  ∃p,C0 hi.fo (ev st hi.addr)=U p/\∃aH,dm st 1 (.sl (.tk Z) hi.k (l++[bw (ev st hi.x).cells])) p=U aH /\ K ⟨aH.t,aH.aC,aH.out.aR Z (l.length+1)⟩
structure HF(P:Program)(A I S O'':Oper)(oF:Option Oper)(hi:HI):Prop where
 app:∃c t u e i z tE tN wv wU,A.op = .call c/\c.callee = .builtin .append/\c.argTypes=#[t,u]/\c.args=#[tE,tN]/\P.underlying t=U (.slice e)/\P.underlying u=U (.slice e) /\
  P.info? e=U i/\jB P e=U z/\i.bytes<=4096/\i.size=hi.k/\0<hi.k/\cu P t tE=U hi.s/\cu P u tN=U hi.z /\
  I.op = .indexAddr t (.tmp hi.d9) wv/\cu P t wv=U hi.len/\S.op = .store e (.tmp hi.d10) wU/\cu P e wU=U hi.x
 out:∃t2 qC,O''.op = .store t2 qC (.tmp hi.d9)/\dO P t2=U 1/\(match oF with
  | none=>hi.fo=ae/\cu P t2 qC=U hi.addr
  | some F=>∃off,hi.fo=U off/\qC = .tmp hi.dF/\F.dst=U hi.dF/\F.guard=ae/\yf P F=U (.nM off hi.addr))
 dst:A.dst=U hi.d9/\I.dst=U hi.d10/\S.dst=ae/\O''.dst=ae
 guard:A.guard=ae/\I.guard=ae/\S.guard=ae/\O''.guard=ae
 ne:hi.d9≠hi.d10/\hi.d9≠hi.dF/\hi.d10≠hi.dF
variable{P:Program}{hi:HI}
def aiB{A I S O'':Oper}{oF:Option Oper}(h:K0 P A I S O'' oF=U hi):HF P A I S O'' oF hi:=by
 unfold K0 at h;split at h
 case h_2=>simp at h
 rename_i c d9 t q1 wv d10 e q2 wU t2 qC q3 e1 e2 e3 e4 e5 e6;split at h
 case h_2=>simp at h
 rename_i args N5 p1 p2 p3;split at h
 case h_2=>simp at h
 rename_i t' u tE tN e7 e8;split at h
 case h_2=>simp at h
 rename_i et eu i z g1 g2 g3 g4;split at h
 case h_2=>simp at h
 rename_i s zx len x addr fo dF k1 k2 k3 k4 k5;split at h
 case isFalse=>simp at h
 rename_i hc;obtain⟨⟨rfl,rfl,rfl,m1,m2⟩,⟨rfl,rfl,rfl,m3⟩,⟨m4,m5,m6,m7,m8,m9⟩,m10⟩:=hc;simp only[aY] at h;subst h;have ht:N5=#[t',u]:=Cj (by simpa using e7);have ha:args=#[tE,tN]:=Cj (by simpa using e8);refine⟨⟨_,t',u,_,i,z,tE,tN,wv,wU,e1,rfl,ht,ha,g1,g2,g3,g4,m1,rfl,m2,k1,k2,e3,k3,e5,k4⟩,⟨t2,qC,e6,m3,?_⟩,⟨e2,e4,m8,m9⟩,⟨m4,m5,m6,m7⟩,m10⟩;cases oF with
 | none =>
  simp only[KZ,cZ,nC] at k5;obtain⟨y,h1,rfl,rfl,rfl⟩:=k5;exact⟨rfl,h1⟩
 | some F =>
  simp only[KZ] at k5;split at k5
  case h_2=>simp at k5
  rename_i dF' p off y h1 h2;split at k5
  case isFalse=>simp at k5
  rename_i hc;simp only[aY,nC] at k5;obtain⟨rfl,rfl,rfl⟩:=k5;obtain⟨rfl,hg⟩:=hc;exact⟨off,rfl,rfl,h1,hg,h2⟩
def Gl{o:Oper}{j:Nat}(h:jN o j=aa):∃e∈o.after,Region.binds .any e=aa/\e.on=j:=by
 simp only[jN,Cp,bA,A6] at h;obtain⟨e,h1,h2,h3⟩:=h;exact⟨e,by simpa using h1,h2,h3⟩
variable{a:Act}{d:Nat}
def Aj{n:Nat}{v u:Value}(hd:d<a.tmps.size):(a.put (U d) v).tmps.getD n u=if n=d then v else a.tmps.getD n u:=by
 simp only[Act.put]
 by_cases h:n=d
 .subst h;simp[hd]
 .rw[aB h,pU,AK (fm h),<-pU]
def yU{E:Env}:∀{l:List V} {vs:List Value} (n:Nat),RL E l vs->RL E (l.set n .any) vs
 | [],[],_,h=>by simpa using h
 | [],_::_,_,h=>by simp[RL] at h
 | _::_,[],_,h=>by simp[RL] at h
 | x :: xs, v :: vs, n, h => by
  simp only[RL] at h;cases n with
  | zero=>simp only[List.set_cons_zero,RL];exact⟨by simp[R],h.2⟩
  | succ n=>simp only[List.set_cons_succ,RL];exact⟨h.1,yU n h.2⟩
variable{st:St}{y:V}
def aqu{mG mH:St}{u:Value}{p:V}(h1:dm st 1 (.raw u) p=U mG)(h2:dm st 1 y p=U mH)(hy:R E.nl y u)(SY:y.cells=[y])(hyE:R E y u)
 (hs:bB E mG a):bB E mH a:=by
 have NK:∀(cs:List V) (off:Nat) (z:V) (j:Nat),(setAt cs off [z])[j]?=if j=off then(cs[j]?).map λ_=>z else cs[j]?:=by
  intro cs;induction cs with
  | nil=>intro off z j;cases off<;>simp[setAt,over]
  | cons c cs ih =>
   intro off z j;cases off with
   | zero=>cases j<;>simp[setAt,over]<;>(cases cs<;>simp[over])
   | succ off=>cases j<;>simp[setAt,ih]
 have ap3:∀(cs:List V) (off:Nat) (z:V),(setAt cs off [z]).length=cs.length:=by
  intro cs;induction cs with
  | nil=>intro off z;cases off<;>simp[setAt,over]
  | cons c cs ih=>intro off z;cases off<;>simp[setAt,over,ih]<;>(cases cs<;>simp[over])
 have box:∀(E1:Env) (b:Nat) (cs:List V) (off:Nat),R E1 y u->ja E1 b (setAt cs off [.raw u])->ja E1 b (setAt cs off [y]):=λE1 b cs off hR ⟨c,e,k1,k2,k3⟩=>by
  refine⟨c,e,k1,by rw[ap3] at k2 ⊢;exact k2,λj x hx=>?_⟩;rw[NK] at hx
  by_cases hj:j=off
  .rw[aD hj] at hx;simp only[cZ] at hx;obtain⟨z,hz,rfl⟩:=hx;obtain⟨v,hv,hr⟩:=k3 j (.raw u) (by rw[NK,aD hj,hz];rfl);simp only[R] at hr;subst hr;exact⟨v,hv,hR⟩
  .rw[aB hj] at hx;exact k3 j x (by rw[NK,aB hj];exact hx)
 cases p with
 | ptr p off =>
  cases p with
  | jM b=>simp[dm] at h1
  | aC i =>
   simp only[dm,gV] at h1 h2;obtain⟨cs,e1,e2⟩:=h1;obtain⟨cs',e3,e4⟩:=h2;rw[e1] at e3;simp only[aY] at e3;subst e3;split at e2<;>simp at e2;split at e4<;>simp at e4;subst e2 e4;refine⟨hs.ok,⟨λj ds hj=>?_,λj hj=>hs.cU.none j (by simpa using hj)⟩,hs.defers,hs.slot⟩;have az:=(eX.1 e1).1
   by_cases fw:j=i
   .subst fw;simp only[OU az,aY] at hj;subst hj;obtain⟨b,q1,q2,q3⟩:=hs.cU.box j (setAt cs off [.raw u]) (by simp[V.cells,az]);rw[SY];exact⟨b,q1,q2,box E b cs off hyE q3⟩
   .simp only[Cs (fm fw)] at hj;exact hs.cU.box j ds (by simp only[Cs (fm fw)];exact hj)
  | out i =>
   simp only[dm,gV] at h1 h2;obtain⟨cs,e1,e2⟩:=h1;obtain⟨cs',e3,e4⟩:=h2;rw[e1] at e3;simp only[aY] at e3;subst e3;split at e2<;>simp at e2;split at e4<;>simp at e4;subst e2 e4;refine⟨⟨λj ds hj=>?_,hs.ok.aJ,hs.ok.fresh,hs.ok.nt,hs.ok.bO⟩,hs.cU,hs.defers,hs.slot⟩
   by_cases fw:j=i
   .subst fw;rw[ag.dR] at hj;simp only[aY] at hj;subst hj;obtain⟨q2,q3⟩:=hs.ok.box j (setAt cs off [.raw u]) (by simp[V.cells,ag.set]);rw[SY];exact⟨q2,box E.nl j cs off hy q3⟩
   .rw[ag.dW _ _ fw] at hj;exact hs.ok.box j ds (by rw[ag.dW _ _ fw];exact hj)
 | _=>simp[dm] at h1
def WG{mH:St}{u:Value}{p:V}(h2:dm st 1 y p=U mH)(hu:u.oneCell' = aa):∃mG,dm st 1 (.raw u) p=U mG/\mG.t=st.t:=by
 cases p with
 | ptr p off =>
  cases p with
  | jM b=>simp[dm] at h2
  | aC i =>
   simp only[dm,gV] at h2;obtain⟨cs',e3,e4⟩:=h2;split at e4<;>simp at e4;rename_i hc;exact⟨⟨st.t,st.aC.set i (setAt cs' off (V.raw u).cells),st.out⟩,by simp only[dm,e3,vB];rw[aD ⟨hc.1,by simp[V.wd,hu],by simp[V.cells,cB,V.one,hu]⟩],rfl⟩
  | out i =>
   simp only[dm,gV] at h2;obtain⟨cs',e3,e4⟩:=h2;split at e4<;>simp at e4;rename_i hc;exact⟨⟨st.t,st.aC,st.out.set i (setAt cs' off (V.raw u).cells)⟩,by simp only[dm,e3,vB];rw[aD ⟨hc.1,by simp[V.wd,hu],by simp[V.cells,cB,V.one,hu],by simp[V.cells,bH,V.cG]⟩],rfl⟩
 | _=>simp[dm] at h2
variable{m:Nat}
def NT{p:V}{n:Nat}:dm ⟨st.t,st.aC,st.out.aR Z m⟩ n y p=(dm st n y p).map λs=>⟨s.t,s.aC,s.out.aR Z m⟩:=by
 cases p with
 | ptr p off =>
  cases p with
  | jM b=>simp[dm]
  | aC i =>
   simp only[dm];cases st.aC[i]? with
   | none=>rfl
   | some cs=>simp only[vB];split<;>rfl
  | out i =>
   simp only[dm];show((st.out.box i).bind _)=_;cases st.out.box i with
   | none=>rfl
   | some cs=>simp only[vB];split<;>rfl
 | _=>rfl
def WH{aH:St}{p:V}{n:Nat}(h:dm st n y p=U aH):aH.out.aJ=st.out.aJ/\aH.t=st.t:=by
 cases p with
 | ptr p off =>
  cases p with
  | jM b=>simp[dm] at h
  | aC i =>
   simp only[dm,gV] at h;obtain⟨cs,_,e2⟩:=h;split at e2<;>simp at e2;subst e2;exact⟨rfl,rfl⟩
  | out i =>
   simp only[dm,gV] at h;obtain⟨cs,_,e2⟩:=h;split at e2<;>simp at e2;subst e2;exact⟨rfl,rfl⟩
 | _=>simp[dm] at h
section
variable {P:Program} {ops:Array Oper}
structure Tl(ops:Array Oper)(hi:HI)(nA Z:Nat)(l:List (List V))(xs:List V)(p:V)(hF:Bool)(E0:Env)(tw:List V)(s1:St)(listed:Array Bool)(a:Act)(w:World):Prop where
 size:listed.size=ops.size
 pre:∀j,j<=nA->listed.getD j ak=aa
 rel:∃E st b cap,E.w=w/\Fr E0 E/\bB E st a/\st.t=tw/\a.tmps.getD hi.d9 undef = .slice (U ⟨b,0,ae⟩) (l.length+1) cap /\
  (listed.getD (nA+1) ak=aa->a.tmps.getD hi.d10 undef = .pointer (U ⟨b,l.length*hi.k,ae⟩)) /\
  (hF=aa->listed.getD (nA+3) ak=aa->listed.getD (ops.size - 1) ak=ak->R E p (a.tmps.getD hi.dF undef)) /\
  (listed.getD (nA+2) ak=ak->AR E Z hi.k l b cap) /\
  (listed.getD (nA+2) ak=aa->R E.nl (.sl (.tk Z) hi.k (l++[xs])) (.slice (U ⟨b,0,ae⟩) (l.length+1) cap)) /\
  (if listed.getD (ops.size - 1) ak=aa then dm (if listed.getD (nA+2) ak=aa then ⟨s1.t,s1.aC,s1.out.aR Z (l.length+1)⟩ else s1) 1 (.raw (.slice (U ⟨b,0,ae⟩) (l.length+1) cap)) p=U st
    else st=if listed.getD (nA+2) ak=aa then ⟨s1.t,s1.aC,s1.out.aR Z (l.length+1)⟩ else s1)
def Wo{l:List V}{n:Nat}{x:V}(h:l[n]?=U x):l.set n x=l:=by
 have:=(eX.1 h)
 obtain⟨h1,h2⟩:=this;rw[<-h2,XN]
variable{listed:Array Bool}
def yv(hi:i<listed.size)(j:Nat):(listed.setIfInBounds i aa).getD j ak=if j=i then aa else listed.getD j false:=by
 by_cases h:j=i
 .subst h;simp[hi]
 .rw[aB h,pU,AK (fm h),<-pU]
def FW{aH:St}(h:st.t=aH.t)(x:X):ev st x=ev aH x:=by cases x<;>simp[ev,h]
structure TF(P:Program)(ops:Array Oper)(hi:HI)(nA:Nat)(hF:Bool)(Z:Nat)(l:List (List V))(xs:List V)(p:V)(s1:St):Prop where
 hf:HF P (ops.getD nA default) (ops.getD (nA+1) default) (ops.getD (nA+2) default) (ops.getD (ops.size - 1) default) (if hF then U (ops.getD (nA+3) default) else ae) hi
 size:nA+(if hF then 5 else 4)=ops.size
 eI:jN (ops.getD (nA+1) default) nA=aa
 eS:jN (ops.getD (nA+2) default) nA=aa/\jN (ops.getD (nA+2) default) (nA+1)=aa
 eO:jN (ops.getD (ops.size - 1) default) nA=aa
 eF:hF=aa->jN (ops.getD (nA+3) default) nA=aa/\jN (ops.getD (ops.size - 1) default) (nA+3)=aa
 len:∃j,ev s1 hi.len = .int j l.length
 aJ:s1.out.aJ Z=U l.length
 wd:(ev s1 hi.x).wd=U hi.k
 one:cB (ev s1 hi.x).cells=aa
 cG:bH (ev s1 hi.x).cells=aa
 exs:xs=bw (ev s1 hi.x).cells
 d9:s1.t[hi.d9]?=U .any
 d10:s1.t[hi.d10]?=U .any
 dF:hF=aa->s1.t[hi.dF]?=U .any
 nM:C0 hi.fo (ev s1 hi.addr)=U p
 st:∃mH,dm s1 1 (.sl (.tk Z) hi.k (l++[xs])) p=U mH
def yk{ops:Array Oper}{o:Oper}(h:ops[i]?=U o):ops.getD i default=o:=by simp[pU,h]
def EE{o:Oper}(h:o.guard=ae):Region.wanted o (yielded ops a.tmps)=true:=by simp[Region.wanted,h]
variable{w:World}
def aqS{nA:Nat}{hF:Bool}{l:List (List V)}{xs:List V}{p:V}{s1:St}(T:TF P ops hi nA hF Z l xs p s1){E0:Env}{Q:Exit->Act->World->Prop}
 (h:Tl ops hi nA Z l xs p hF E0 s1.t s1 listed a w) {i:Nat} (hr:i∈Region.ready .any ops listed) {K:Act->World->Prop}
 (hK:∀a w,Tl ops hi nA Z l xs p hF E0 s1.t s1 (listed.setIfInBounds i aa) a w->K a w):wpOp P ops Q i K a w:=by
 obtain⟨xV,o,ho,dj⟩:=mem_ready.1 hr;have az:i<ops.size:=(ky.1 ho).1;have lA : i<listed.size:=by rw[h.size];exact az
 have BG : listed.getD i ak=false:=by rw[<-Ga _ _ lA];exact xV
 have hgt:nA<i:=by
  rcases vA nA i with hq | hq
  .exact hq
  .rw[h.pre i hq] at BG;simp at BG
 have mu:=yv lA;have lV:=yk ho;have xT : (listed.setIfInBounds i aa).size=ops.size:=by simp[h.size]
 have GL : ∀j,j<=nA->(listed.setIfInBounds i aa).getD j ak=true:=λj hj=>by rw[mu,aB (by omega)];exact h.pre j hj
 obtain⟨E,st,bk,cap,rfl,ba,hs,dV,Br,Gt,KC,GA,KI,hO⟩:=h.rel;have cD:=T.size;have Dt:s1.t.length=a.tmps.size:=by have:=fC hs.slot;rw[dV] at this;simpa using this
 have R8:hi.d9<a.tmps.size:=by rw[<-Dt];exact(eX.1 T.d9).1
 have Kr:hi.d10<a.tmps.size:=by rw[<-Dt];exact(eX.1 T.d10).1
 have atk:nA+2<ops.size - 1:=by rw[<-cD];cases hF<;>simp<;>omega
 have lE:∀j,j≠i->(listed.setIfInBounds i aa).getD j ak=listed.getD j false:=λj hj=>by rw[mu,aB hj]
 have made:(listed.setIfInBounds i aa).getD i ak=true:=by rw[mu,aD rfl]
 unfold wpOp;rw[ho];simp only;have Pr:∀(E' : Env) (aH : St) (a:Act) (d:Nat) (v:Value),aH.t=s1.t->s1.t[d]?=U .any->bB E' aH a->bB E' aH (a.put (U d) v):=λE' aH a d v e1 e2 h=>by
  have:=bB.put h (v:=.any) (x:=v) (by simp[R]) (U d)
  have e:aH.put (U d) .any=aH := by
   simp only[St.put];rw[e1,Wo e2,<-e1]
  rw[e] at this;exact this
 by_cases hI:i=nA+1
 ·-- the element's address
  subst hI;obtain⟨c,t,u,e,inf,z,tE,tN,wv,wU,_,_,_,_,q5,_,q7,_,_,Ak,_,_,_,Ve,q15,_,_⟩:=T.hf.app;rw[lV] at Ve;have hg:=T.hf.guard.2.1;rw[lV] at hg;have lu:=T.hf.dst.2.1;rw[lV] at lu;rw[EE hg,aD rfl];left;obtain⟨jk,hlen⟩:=T.len;have J_:=mz (E:=E) (st:=st) (a:=a) hs.slot q15;rw[FW dV,hlen] at J_;simp only[R] at J_;have hn:dO P e=U hi.k:=by simp[dO,q7,Ak]
  have cS:(execOp a.eval o).run P E.w = .ok (.value (.pointer (U ⟨bk,l.length*hi.k,ae⟩))) E.w:=by
   have ah_ : a.eval (.tmp hi.d9) = .slice (U ⟨bk,0,ae⟩) (l.length+1) cap:=Br;simp[execOp,Ve,ah_,J_,Instr.indexAt,asIntOf,run_underlying q5,nh hn,lh]
  unfold Oper.wp;rw[cS];refine hK _ _ ⟨xT,GL,E,st,bk,cap,rfl,ba,?_,dV,?_,?_,?_,?_,?_,?_⟩
  .rw[lu];exact Pr E st a hi.d10 _ dV T.d10 hs
  .rw[lu,Aj Kr,aB T.hf.ne.1];exact Br
  .intro _;rw[lu,Aj Kr,aD rfl]
  .intro h1 h2 h3;rw[mu,aB (by omega)] at h2;rw[lE _ (by omega)] at h3;rw[lu,Aj Kr,aB (fm T.hf.ne.2.2)];exact KC h1 h2 h3
  .intro h1;rw[mu,aB (by omega)] at h1;exact GA h1
  .intro h1;rw[mu,aB (by omega)] at h1;exact KI h1
  .rw[lE _ (by omega),lE _ (by omega)];exact hO
 by_cases hS:i=nA+2
 ·-- the element is filled in
  subst hS;obtain⟨c,t,u,e,inf,z,tE,tN,wv,wU,_,_,_,_,_,_,q7,_,_,Ak,_,_,_,_,_,Vf,q17⟩:=T.hf.app;rw[lV] at Vf;have hg:=T.hf.guard.2.2.1;rw[lV] at hg;have lu:=T.hf.dst.2.2.1;rw[lV] at lu;rw[EE hg,aD rfl];left;have RQ : listed.getD (nA+1) ak=true:=by
   have:=T.eS.2
   rw[lV] at this;obtain⟨e,h1,h2,h3⟩:=Gl this;rw[<-h3];exact dj e h1 h2
  have hX:=mz (E:=E) (st:=st) (a:=a) hs.slot q17;rw[FW dV] at hX;have hn:dO P e=U hi.k:=by simp[dO,q7,Ak]
  obtain⟨r1,r2⟩:=xc hX T.wd;have r3:=RL.n9 (E:=E) (E' := E.nl) _ (Env.le.refl E.nl) T.cG r1;have r4:=yj r1 T.one;obtain⟨E',k1,k2,k3,k4,k5⟩:=aiG (P:=P) hs (GA BG) hn (RL.erase _ r3) r2 r4;rw[<-T.exs] at k4;have cS:(execOp a.eval o).run P E.w = .ok .skip E'.w:=by
   have e1:a.eval (.tmp hi.d10) = .pointer (U ⟨bk,l.length*hi.k,ae⟩):=Gt RQ;simp[execOp,Vf,e1,HV k1]
  unfold Oper.wp;rw[cS];show K (a.put o.dst undef) E'.w;rw[lu];have hle:E.le E' := k2.le λj b hb=>by rw[k5];exact hb
  refine hK _ _ ⟨xT,GL,E',_,bk,cap,rfl,ba.trans k2,k3,dV,Br,?_,?_,?_,?_,?_⟩
  .intro _;exact Gt RQ
  .intro h1 h2 h3;rw[mu,aB (by omega)] at h2;rw[lE _ (by omega)] at h3;exact R.mono _ hle (KC h1 h2 h3)
  .intro h1;rw[mu,aD rfl] at h1;simp at h1
  .intro _;exact k4
  .rw[lE (ops.size - 1) (by omega),made];rw[BG] at hO;simp only[di,ck] at hO;simp only[cC];split at hO
   .rename_i h1;rw[aD h1,NT,hO];rfl
   .rename_i h1;rw[aB h1,hO]
 by_cases hOi:i=ops.size - 1
 ·-- the list is laid down
  subst hOi;obtain⟨t2,qC,q1,q2,q3⟩:=T.hf.out;rw[lV] at q1;have hg:=T.hf.guard.2.2.2;rw[lV] at hg;have lu:=T.hf.dst.2.2.2;rw[lV] at lu;rw[EE hg,aD rfl];left;rw[BG] at hO;simp only[di,ck] at hO;have ahU:R E p (a.eval qC):=by
   cases qO:hF with
   | false =>
    rw[qO] at q3;simp only[di,ck] at q3;have kI:=T.nM;rw[q3.1] at kI;simp only[C0,aY] at kI
    have:=mz (E:=E) (st:=st) (a:=a) hs.slot q3.2
    rw[FW dV,kI] at this;exact this
   | true =>
    rw[qO] at q3;simp only[cC] at q3;obtain⟨off,_,ha,_⟩:=q3;subst ha
    have:=(T.eF qO).2
    rw[lV] at this;obtain⟨e,h1,h2,h3⟩:=Gl this;exact KC qO (by rw[<-h3];exact dj e h1 h2) BG
  obtain⟨mH,rU⟩:=T.st
  let v:Value:=.slice (U ⟨bk,0,ae⟩) (l.length+1) cap
  have fG:v.oneCell' = true:=rfl;obtain⟨aH,DF,aiN⟩:∃aH,dm st 1 (.raw v) p=U aH /\ aH.t=st.t:=by
   rw[hO];split
   .exact WG (by rw[NT,rU];rfl) fG
   .exact WG rU fG
  refine Oper.wp_mono ?_ (Xn (Q:=Q) (K:=λ_ s=>s=aH) hs (by omega) q1 q2 ahU (ay:=.raw v) (by simp only[R];exact Br) DF rfl);rintro a' w' ⟨E',v',u',s',rfl,jQ,dh,_,rfl,rfl⟩;rw[lu];simp only[Act.put];have rX:listed.getD (nA+2) ak=ak->E'.aJ Z=U l.length:=λhq=>by
   refine dh.ok.aJ Z _ ?_;rw[(WH DF).1,hO,hq];simpa using T.aJ
  refine hK _ _ ⟨xT,GL,E',_,bk,cap,rfl,ba.trans jQ,dh,by rw[aiN,dV],Br,?_,?_,?_,?_,?_⟩
  .intro h1;rw[lE _ (by omega)] at h1;exact Gt h1
  .intro _ _ h3;rw[mu,aD rfl] at h3;simp at h3
  .intro h1;rw[lE _ (by omega)] at h1;exact(GA h1).mono jQ (rX h1)
  .intro h1;rw[lE _ (by omega)] at h1;exact R.mono _ jQ.nl (KI h1)
  .rw[made,lE _ (by omega)];simp only[cC];rw[<-hO];exact DF
 -- the field's address
 have qO:hF=true:=by
  cases hq:hF with
  | true=>rfl
  | false=>rw[hq] at cD;simp at cD;omega
 have KL:i=nA+3:=by rw[qO] at cD;simp at cD;omega
 subst KL;obtain⟨t2,qC,_,_,q3⟩:=T.hf.out;rw[qO] at q3;simp only[cC] at q3;obtain⟨off,q4,_,q5,q6,q7⟩:=q3;rw[lV] at q5 q6 q7;rw[EE q6,aD rfl];left;have Ks:hi.dF<a.tmps.size:=by rw[<-Dt];exact(eX.1 (T.dF qO)).1
 have kI:=T.nM;rw[q4] at kI;have kg:(aG.nM off hi.addr).a7 P st (λv s=>v=p/\s=st):=by
  simp only[aG.a7];rw[FW dV];cases hq:ev s1 hi.addr<;>rw[hq] at kI<;>simp[C0] at kI ⊢;exact kI
 refine Oper.wp_mono ?_ (D3 (Q:=Q) q7 hs kg);rintro a' w' ⟨E',v',u',s',rfl,jQ,dh,hv,rfl,rfl,rfl⟩;rw[q5];have rX:listed.getD (nA+2) ak=ak->E'.aJ Z=U l.length:=λhq=>by
  refine dh.ok.aJ Z _ ?_;rw[hq] at hO;simp only[di,ck] at hO;split at hO
  .rw[(WH hO).1];exact T.aJ
  .rw[hO];exact T.aJ
 refine hK _ _ ⟨xT,GL,E',_,bk,cap,rfl,ba.trans jQ,Pr E' _ a hi.dF _ dV (T.dF qO) dh,dV,?_,?_,?_,?_,?_,?_⟩
 .rw[Aj Ks,aB T.hf.ne.2.1];exact Br
 .intro h1;rw[mu,aB (by omega)] at h1;rw[Aj Ks,aB T.hf.ne.2.2];exact Gt h1
 .intro _ _ _;rw[Aj Ks,aD rfl];exact hv
 .intro h1;rw[mu,aB (by omega)] at h1;exact(GA h1).mono jQ (rX h1)
 .intro h1;rw[mu,aB (by omega)] at h1;exact R.mono _ jQ.nl (KI h1)
 .have h5:nA+5=ops.size:=by rw[qO] at cD;simpa using cD
  rw[lE _ (by omega),lE _ (by omega)];exact hO
end
def Cg(fo:Option Nat)(d:Nat)(t:List V):List V:=match fo with | some _=>t.set d .any | none=>t
def qv(hi:HI)(t:List V):List V:=Cg hi.fo hi.dF ((t.set hi.d9 .any).set hi.d10 .any)
def ES(hi:HI)(K:St->Prop)(st:St):Prop:=Ix hi K ⟨qv hi st.t,st.aC,st.out⟩
def Pq{t:List V}{e:Nat}(h:t[e]?=U .any):(t.set d .any)[e]?=U .any:=by
 have az:=(eX.1 h).1
 by_cases hd:d=e
 .subst hd;simp[az]
 .rw[Cs hd];exact h
def I4{t:List V}(h:d<t.length):(t.set d .any)[d]?=U .any:=by simp[h]
def Og(hi:HI)(t:List V):(qv hi t).length=t.length:=by
 unfold qv Cg;cases hi.fo<;>simp
def W8{fo:Option Nat}{e:Nat}{t:List V}(h:t[e]?=U .any):(Cg fo d t)[e]?=U .any:=by
 unfold Cg;cases fo
 .exact h
 .exact Pq h
def ar'{t:List V}(h:hi.d9<t.length):(qv hi t)[hi.d9]?=U .any:=W8 (Pq (I4 h))
def ar_{t:List V}(h:hi.d10<t.length):(qv hi t)[hi.d10]?=U .any:=W8 (I4 (by simpa using h))
def asa{t:List V}{off:Nat}(hf:hi.fo=U off)(h:hi.dF<t.length):(qv hi t)[hi.dF]?=U .any:=by
 unfold qv Cg;rw[hf];exact I4 (by simpa using h)
def asb{t:List V}{us:List Value}(h:RL E t us):RL E (qv hi t) us:=by
 unfold qv Cg;cases hi.fo
 .exact yU _ (yU _ h)
 .exact yU _ (yU _ (yU _ h))
def Wi{S:Nat->Bool}{n:Nat}:∀{tr:List TR} {i:Nat},(∀j,S (i+j)=decide (i+j<n))->cq S i tr=tr.take (n - i)
 | [],i,_=>by simp[cq]
 | r :: tr, i, h => by
  have h0:=h 0;rw[vz] at h0;have ih:=Wi (S:=S) (n:=n) (tr:=tr) (i:=i+1) λj=>by
   have:=h (j+1)
   rw[show i+(j+1)=i+1+j from by omega] at this;exact this
  simp only[cq,h0]
  by_cases hi:i<n
  .simp only[hi,bS,cC,ih];rw[show n - i=(n - (i+1))+1 from by omega,vw]
  .simp only[hi,ff,di,ck,ih];rw[show n - (i+1)=0 from by omega,show n - i=0 from by omega];simp
def VR:∀{a b:List TR} {t:List V},runT (a++b) t=runT b (runT a t)
 | [],_,_=>rfl
 | r::a,b,t=>by simp only[gE,runT];exact VR
def VM:∀{a b:List TR} {s:c7},dr (a++b) s=dr b (dr a s)
 | [],_,_=>rfl
 | r::a,b,t=>by simp only[gE,dr];exact VM
def VQ{E:Env}{us:List Value}:∀{tr:List TR} {t:List V},(∀r∈tr,r.val = .any)->RL E t us->RL E (runT tr t) us
 | [],_,_,h=>h
 | r :: tr, t, hv, h => by
  simp only[eh] at hv;simp only[runT];refine VQ hv.2 ?_;cases hd:r.dst with
  | none=>exact h
  | some d=>simp only[j1,hv.1];exact yU d h
def VL:∀{tr:List TR} {s:c7},(∀r∈tr,r.bf=ak)->dr tr s=s
 | [],_,_=>rfl
 | r :: tr, s, h => by
  simp only[eh] at h;simp only[dr,h.1,di,ck];exact VL h.2
section
variable {P:Program} {ops:Array Oper}
variable{l:List (AO × List Nat)}
def akW(h:Hp P ops=U (l,hi)):
 ∃b,yK ops l b/\b.length=ops.size/\P.follows .mixedOrders=aa/\(∀(i:Nat) o,i<gf ops->ops[i]?=U o->∃x:AO × List Nat,l[i]?=U x/\tg P ops o=U x.1) /\
  (∀(i:Nat) o,gf ops<=i->ops[i]?=U o->∃ms,l[i]?=U (dummy o,ms)) /\
  HF P (ops.getD (gf ops) default) (ops.getD (gf ops+1) default) (ops.getD (gf ops+2) default) (ops.getD (ops.size - 1) default) (rT ops) hi /\
  gf ops+(if (rT ops).isSome then 5 else 4)=ops.size/\(∀j,j<gf ops->jN (ops.getD (gf ops) default) j=aa) /\
  jN (ops.getD (gf ops+1) default) (gf ops)=aa/\(jN (ops.getD (gf ops+2) default) (gf ops)=aa/\jN (ops.getD (gf ops+2) default) (gf ops+1)=aa) /\
  jN (ops.getD (ops.size - 1) default) (gf ops)=aa/\(∀F,rT ops=U F->jN F (gf ops)=aa/\jN (ops.getD (ops.size - 1) default) (gf ops+3)=aa):=by
 unfold Hp at h;split at h
 case h_2=>simp at h
 rename_i A I S O'' l0 a1 a2 a3 a4 a5;split at h
 case h_2=>simp at h
 rename_i c_ ah3;split at h
 case isFalse=>simp at h
 rename_i hc;simp only[aY,nC] at h;obtain⟨rfl,rfl⟩:=h;unfold Su at hc;simp only[bA,b7] at hc;obtain⟨⟨⟨⟨⟨c1,c2⟩,c3⟩,c4⟩,c5⟩,c6⟩:=hc;rw[yk a1,yk a2,yk a3,yk a4];have hlen:=(facts c1).size;have hA:gf ops<ops.size:=(ky.1 a1).1;obtain⟨g1,g2⟩:=Ma a5;have hl0:l0.length=gf ops:=by rw[g1];simp;omega
 refine⟨_,facts c1,?_,c2,λi o hi ho=>?_,λi o hi ho=>?_,aiB ah3,c3,λj hj=>?_,c5.1.1.1,⟨c5.1.1.2,c5.1.2⟩,c5.2,λF hF=>?_⟩
 .unfold xo at c1;simp only[bA,b7] at c1;exact c1.1.1.2
 .obtain⟨x,k1,k2⟩:=g2 i o (by rw[IK,aD hi];simpa using ho);obtain⟨ms,hm⟩:=W7 (l1:=l0++(ops.toList.drop (gf ops)).map dummy) (b:=wy ops.toList []) (i:=i) (y:=x) (by rw[sv (by omega)];exact k1) (by rw[hlen];omega);exact⟨_,hm,k2⟩
 .have az:=(ky.1 ho).1;exact W7 (by rw[AT (by omega),vu,tT,hl0,show gf ops+(i - gf ops)=i from by omega];simp[ho]) (by rw[hlen];exact az)
 .simp only[lf,AV] at c4;exact c4 j hj
 .rw[hF] at c6;simpa using c6
end
section
variable {P:Program} {ops:Array Oper}
def aiC(cD:gf ops+(if (rT ops).isSome then 5 else 4)=ops.size):rT ops=if (rT ops).isSome=aa then U (ops.getD (gf ops+3) default) else none:=by
 cases hq:rT ops with
 | none=>rfl
 | some F =>
  rw[hq] at cD;simp only[E_,cC] at cD ⊢;unfold rT at hq;split at hq
  case h_2=>simp at hq
  rename_i F0 h0;split at hq
  .simp only[aY] at hq;subst hq;rw[yk (i:=gf ops+3) (by rw[<-h0];congr 1;omega)]
  .simp at hq
variable{K:St->Prop}{l:List (AO × List Nat)}
def aiF{id:Nat}(hl:Hp P ops=U (l,hi))(h:cf P l [(st.aC,st.out)] [] (ES hi K) st):
 iD P (.region id ops aa) (λe aH => e = .normal/\K aH) st:=by
 obtain⟨b,F,pw,hf,uK,ah',Bo,cD,eA,eI,eS,eO,eF⟩:=akW hl;have Bn:=aiC cD;intro E a hs;refine wp_region_any hf ?_;obtain⟨ba,_,nZ⟩:=Es hs ((Ext.refl E.w).drew);obtain⟨tr,ht,_,hK⟩:=Ik (t:=st.t) (s:=(st.aC,st.out)) h;have sM:[(st.aC,st.out)]++j_ tr=(st.aC,st.out)::j_ tr:=rfl;rw[sM] at ht;have hlen:=Fh ht;generalize hnA:gf ops=nA at *;generalize hhF:(rT ops).isSome=hF at *;have atd:nA+3<ops.size:=by rw[<-cD];split<;>omega
 have hoA:ops[nA]?=U (ops.getD nA default):=by
  rw[lP (by omega)];simp[show nA<ops.size by omega]
 -- the tail's steps in the run say nothing
 have SM:∀r∈tr.drop nA,r.val = .any/\r.bf=false:=λr hr=>by
  obtain⟨j,hj⟩:=XL.1 hr;rw[tT] at hj;have zC:nA+j<ops.size:=by rw[<-F.size,hlen];exact(eX.1 hj).1
  obtain⟨ms,hm⟩:=ah' (nA+j) _ (by omega) (lP zC);obtain⟨_,e2,run,e3,e4,_⟩:=Fi (i:=0) (k:=nA+j) ht hm hj;simp only[dummy] at e3;subst e3;obtain⟨e5,_⟩:=e4 rfl;simp only[dummy,aG.a7,Exact,ev] at e5;exact⟨e5.1.symm,e2⟩
 have Lc:∀{E' : Env} {us:List Value},RL E' (runT (tr.take nA) st.t) us->RL E' (runT tr st.t) us:=λ{E' us} h=>by
  have e:runT tr st.t=runT (tr.drop nA) (runT (tr.take nA) st.t):=by rw[<-VR,qy]
  rw[e];exact VQ (λr hr=>(SM r hr).1) h
 have SI:dr tr (st.aC,st.out)=dr (tr.take nA) (st.aC,st.out):=by
  have e:dr tr (st.aC,st.out)=dr (tr.drop nA) (dr (tr.take nA) (st.aC,st.out)):=by rw[<-VM,qy]
  rw[e];exact VL (λr hr=>(SM r hr).2)
 -- what the tail asks
 obtain⟨Z,ll,c,t',j,es,ez,QB,jO,rX,qX,fG,nW,h9,iH,RP,p,hp,mH,rU,hKK⟩:=hK;generalize SE:(⟨qv hi (bV (runT tr st.t) (dr tr (st.aC,st.out))).t,(bV (runT tr st.t) (dr tr (st.aC,st.out))).aC,(bV (runT tr st.t) (dr tr (st.aC,st.out))).out⟩:St)=s1 at es ez QB rX qX fG nW h9 iH RP hp rU;have zF:s1.t=qv hi (runT tr st.t):=by rw[<-SE];rfl
 have SF:s1.aC=(dr tr (st.aC,st.out)).1/\s1.out=(dr tr (st.aC,st.out)).2:=by rw[<-SE];exact⟨rfl,rfl⟩
 have uG:hF=aa->∃off,hi.fo=U off:=λhq=>by
  obtain⟨_,_,_,_,q3⟩:=Bo.out;rw[Bn,aD hq] at q3;obtain⟨off,h1,_⟩:=q3;exact⟨off,h1⟩
 have C8 : hi.d9<(runT tr st.t).length:=by rw[zF,Og] at h9;exact h9
 have ahM : hi.d10<(runT tr st.t).length:=by rw[zF,Og] at iH;exact iH
 have T:TF P ops hi nA hF Z ll (bw (ev s1 hi.x).cells) p s1:=by
  refine⟨by rw[Bn] at Bo;exact Bo,cD,eI,eS,eO,λhq=>?_,⟨j,QB⟩,rX,qX,fG,nW,rfl,by rw[zF];exact ar' C8,by rw[zF];exact ar_ ahM,λhq=>?_,hp,⟨mH,rU⟩⟩
  .rw[aD hq] at Bn;exact eF _ Bn
  .obtain⟨off,ho⟩:=uG hq
   have:=RP (by rw[ho];rfl)
   rw[zF,Og] at this;rw[zF];exact asa ho this
 let Q' : Exit->Act->World->Prop:=λe a' w' => ∃E' aH,E'.w=w' /\ bB E' aH a' /\ Fr E E' /\ e = .normal/\K aH
 -- the end
 have fin:∀(listed:Array Bool) (a:Act) (w:World),Tl ops hi nA Z ll (bw (ev s1 hi.x).cells) p hF E s1.t s1 listed a w->(∀j,j<ops.size->listed.getD j ak=aa)->Q' .normal a w:=λlisted a w h dj=>by
  obtain⟨E',aH,bk,cap,h1,h2,h3,h4,_,_,_,_,h5,h6⟩:=h.rel;rw[dj _ (by omega),dj _ (by omega)] at h6;simp only[cC] at h6;have h5:=h5 (dj _ (by omega));have aiO : dm ⟨s1.t,s1.aC,s1.out.aR Z (ll.length+1)⟩ 1 (.sl (.tk Z) hi.k (ll++[bw (ev s1 hi.x).cells])) p=U ⟨mH.t,mH.aC,mH.out.aR Z (ll.length+1)⟩:=by rw[NT,rU];rfl
  have h7:R E' (.sl (.tk Z) hi.k (ll++[bw (ev s1 hi.x).cells])) (.slice (U ⟨bk,0,ae⟩) (ll.length+1) cap):=by
   simp only[R] at h5 ⊢;exact h5
  exact⟨E',_,h1,aqu h6 aiO h5 rfl h7 h3,h2,rfl,hKK⟩
 have Ky:∀(listed:Array Bool) (i:Nat),listed.size=ops.size->i∈Region.ready .any ops listed->∀fuel,listed.toList.count ak<=fuel+1->(listed.setIfInBounds i aa).toList.count ak<=fuel:=λlisted i cD hi fuel hc=>by
  obtain⟨h1,o,ho,_⟩:=mem_ready.1 hi;have az:i<listed.size:=by rw[cD];exact(ky.1 ho).1
  have e:listed.toList[i]?=U false:=by
   have:listed[i]?=U false:=by
    rw[lP az];simpa [az] using h1
   simpa using this
  have:=count_set listed.toList i e
  simp only[OB];omega
 have Gu:∀(listed:Array Bool),listed.size=ops.size->Region.ready .any ops listed=[]->∀n j,j<n->j<ops.size->listed.getD j ak=true:=λlisted cD hr n=>by
  induction n with
  | zero=>intro j h;omega
  | succ n ih =>
   intro j hj lz;cases hq:listed.getD j ak with
   | true=>rfl
   | false =>
    have:j∈Region.ready .any ops listed:=mem_ready.2 ⟨by rw[Ga _ _ (by rw[cD];exact lz)];exact hq,ops[j],lP lz,λe he hb=>by
     have:=F.back j _ (lP lz) e he hb
     exact ih e.on (by omega) (by omega)⟩
    rw[hr] at this;simp at this
 have hzero:∀(listed:Array Bool),listed.size=ops.size->listed.toList.count ak<=0->Region.ready .any ops listed=[]:=λlisted cD hc=>by
  cases hq:Region.ready .any ops listed with
  | nil=>rfl
  | cons j js =>
   obtain⟨h1,o,ho,_⟩:=mem_ready.1 (show j∈Region.ready .any ops listed by rw[hq];simp);have az:j<listed.size:=by rw[cD];exact(ky.1 ho).1
   have:ak∈listed.toList:=by
    have e:listed[j]?=U false:=by
     rw[lP az];simpa [az] using h1
    exact rz (by simpa using e)
   have:=List.count_pos_iff.2 this
   omega
 -- the tail,in every order
 have tail:∀(fuel:Nat) (listed:Array Bool) (a:Act) (w:World),Tl ops hi nA Z ll (bw (ev s1 hi.x).cells) p hF E s1.t s1 listed a w->listed.toList.count ak<=fuel->wpAny P .any ops Q' fuel listed a w:=by
  intro fuel;induction fuel with
  | zero =>
   intro listed a w h hc;have hr:=hzero listed h.size hc;exact⟨hr,fin listed a w h λj hj=>Gu listed h.size hr (j+1) j (by omega) hj⟩
  | succ fuel ih =>
   intro listed a w h hc;refine⟨λhr=>fin listed a w h λj hj=>Gu listed h.size hr (j+1) j (by omega) hj,λi c_ => ?_⟩;exact aqS T h c_ λa w h' => ih _ a w h' (Ky listed i h.size c_ fuel hc)
 -- what comes before
 have key:∀(fuel:Nat) (listed:Array Bool) (a:Act) (w:World),Ck ops tr st.t (st.aC,st.out) E (λ_ _ _=>True) listed a w->(∀j,nA<=j->listed.getD j ak=ak)->listed.toList.count ak<=fuel->wpAny P .any ops Q' fuel listed a w:=by
  intro fuel;induction fuel with
  | zero =>
   intro listed a w h hn hc;have hr:=hzero listed h.size hc
   have:=Gu listed h.size hr (nA+1) nA (by omega) (by omega)
   rw[hn nA (bL _)] at this;simp at this
  | succ fuel ih =>
   intro listed a w h hn hc;refine⟨λhr=>?_,λi c_ => ?_⟩
   .have:=Gu listed h.size hr (nA+1) nA (by omega) (by omega)
    rw[hn nA (bL _)] at this;simp at this
   obtain⟨xV,o,ho,dj⟩:=mem_ready.1 c_;have aim:i<ops.size:=(ky.1 ho).1;have zA : i<listed.size:=by rw[h.size];exact aim
   rcases Cw i nA with az | rfl | hgt
   .refine Qx F pw rfl ht h c_ (λo ho=>let ⟨x,h1,h2⟩:=uK i o az ho;⟨x,h1,.inl ⟨h2,λ_ _ _ _ _ _ _=>trivial⟩⟩) λa w h' => ih _ a w h' (λj hj=>?_) (Ky listed i h.size c_ fuel hc)
    rw[yv zA,aB (by omega)];exact hn j hj
   ·-- the row grows
    have lV:=yk ho;have uM:∀j,j<i->listed.getD j ak=true:=λj hj=>by
     have:=eA j hj
     rw[lV] at this;obtain⟨e,h1,h2,h3⟩:=Gl this;rw[<-h3];exact dj e h1 h2
    obtain⟨E1,rfl,dh,xI,_⟩:=h.rel;have hS:∀j,(λj=>listed.getD j ak) (0+j)=decide (0+j<i):=λj=>by
     rw[jc]
     by_cases hj:j<i
     .simp only[hj,bS];exact uM j hj
     .simp only[hj,ff];exact hn j (by omega)
    rw[Wi hS,Nat.sub_zero] at dh;have DD:bB E1 s1 a:=by
     refine⟨?_,?_,dh.defers,?_⟩
     .rw[SF.2,SI];exact dh.ok
     .rw[SF.1,SI];exact dh.cU
     .rw[zF];exact asb (Lc dh.slot)
    obtain⟨c',t,u,e,inf,z,tE,tN,wv,wU,q1,q2,q3,q4,q5,q6,q7,q8,q9,Ak,q11,q12,q13,_⟩:=Bo.app;rw[lV] at q1;have hg:=Bo.guard.1;rw[lV] at hg;have lu:=Bo.dst.1;rw[lV] at lu;unfold wpOp;rw[ho];simp only;rw[EE hg,aD rfl];left;have cS:(execOp a.eval o).run P E1.w=((Builtin.append_ #[t,u] o.type #[a.eval tE,a.eval tN]).run P E1.w).andThen λv w' => .ok (.value v) w' := by
     simp[execOp,q1,q2,q3,q4,resolve,invoke,builtin]
    have R0:=mz (E:=E1) (st:=s1) (a:=a) DD.slot q12;have R5:=mz (E:=E1) (st:=s1) (a:=a) DD.slot q13;rw[es] at R0;rw[ez] at R5;obtain⟨news,r1,r2,r3,r4⟩:=H2 (P:=P) q6 R5;obtain⟨i',zv,k1,k2,k3,k4⟩:=sr q8;rw[q7] at k1;simp only[aY] at k1;subst k1;have iK:zv.cells.size=inf.size:=by have:=fC (qH (E:=E1) k3);simp at this;omega
    obtain⟨bk,cap,E2,m1,m2,m3,m4,m5⟩:=aiD (P:=P) DD q5 q7 k2 iK q9 cS (by rw[Ak];exact R0) (by rw[Ak];exact r1) r3 jO (DD.ok.aJ Z _ rX);unfold Oper.wp;rw[m2];have Dt:s1.t.length=a.tmps.size:=by have:=fC DD.slot;simpa using this
    have R8:hi.d9<a.tmps.size:=by rw[<-Dt];exact h9
    refine tail fuel _ _ _ ⟨by simp[h.size],λj hj=>?_,E2,s1,bk,cap,rfl,xI.trans m3,?_,rfl,?_,?_,?_,?_,?_,?_⟩ (Ky listed i h.size c_ fuel hc)
    .rw[yv zA];split
     .rfl
     .exact uM j (by omega)
    .rw[lu]
     have:=bB.put m4 (v:=.any) (x:=.slice (U ⟨bk,0,ae⟩) (ll.length+1) cap) (by simp[R]) (U hi.d9)
     have e:s1.put (U hi.d9) .any=s1:=by
      simp only[St.put];rw[Wo T.d9]
     rw[e] at this;exact this
    .rw[lu,Aj R8,aD rfl]
    .intro h1;rw[yv zA,aB (by omega),hn _ (by omega)] at h1;simp at h1
    .intro _ h1;rw[yv zA,aB (by omega),hn _ (by omega)] at h1;simp at h1
    .intro _;rw[<-Ak];exact m1
    .intro h1;rw[yv zA,aB (by omega),hn _ (by omega)] at h1;simp at h1
    .have z1:(listed.setIfInBounds i aa).getD (ops.size - 1) ak=false:=by rw[yv zA,aB (by omega)];exact hn _ (by omega)
     have z2:(listed.setIfInBounds i aa).getD (i+2) ak=false:=by rw[yv zA,aB (by omega)];exact hn _ (by omega)
     rw[z1,z2];simp
   .exfalso
    have lV:=yk ho;have aic:jN o nA=true:=by
     rw[<-lV]
     by_cases h1:i=nA+1
     .rw[h1];exact eI
     by_cases h2:i=nA+2
     .rw[h2];exact eS.1
     by_cases h3:i=ops.size - 1
     .rw[h3];exact eO
     have qO:hF=true:=by
      cases hq:hF with
      | true=>rfl
      | false=>rw[hq] at cD;simp at cD;omega
     have h4:i=nA+3:=by rw[qO] at cD;simp at cD;omega
     rw[aD qO] at Bn;rw[h4];exact(eF _ Bn).1
    obtain⟨e,h1,h2,h3⟩:=Gl aic
    have:=dj e h1 h2
    rw[h3,hn nA (bL _)] at this;simp at this
 have xQ:∀j,(Array.replicate ops.size ak).getD j ak=false:=λj=>by
  by_cases hj:j<ops.size<;>simp[hj]
 have pz:∀(tr:List TR) (q:Nat),cq (λj=>(Array.replicate ops.size ak).getD j ak) q tr=[]:=by
  intro tr;induction tr with
  | nil=>intro q;rfl
  | cons r tr ih=>intro q;rw[cq,aB (by rw[xQ];simp)];exact ih _
 refine key ops.size _ a _ ⟨by simp,λi o _ hi=>by rw[xQ] at hi;simp at hi,{E with w:=E.w.drew},rfl,?_,ba,trivial⟩ (λj _=>xQ j) (by simp);rw[pz];exact nZ
end
section
variable {P:Program} {E:Env} {st:St} {a:Act} {o:Oper} {K:V->St->Prop} {Q:Exit->Act->World->Prop}
def Env.gl(E:Env)(b:Nat):Env:={E with aZ:=λx=>if x=b then .const else E.aZ x}
def ag_{cs:List V}(hs:bB E st a)(hb:st.out.box b=U cs):
 Fr E (E.gl b)/\bB (E.gl b) ⟨st.t,st.aC,st.out.del b⟩ a/\∀(j:Nat) x,cs[j]?=U x->∃v,(E.gl b).w.cell? ⟨b,j,ae⟩=U v/\((E.gl b).aZ b).gW j/\R (E.gl b).nl x v:=by
 obtain⟨dp,c,e,hc,hlen,nR⟩:=hs.ok.box b cs hb;have hc:E.w.heap[b]?=U (.cells c e (0,0)):=hc;have aQ:∀b',E.aZ b' ≠ .pH->b' ≠ b:=λb' h e=>h (by rw[e];exact dp)
 have lD:∀b',b' ≠ b->(E.gl b).aZ b' = E.aZ b' := λb' h=>by simp[Env.gl,h]
 have az:=ko (w:=E.w) hc;have ba:Fr E (E.gl b):=by
  refine⟨rfl,rfl,rfl,bL _,λ_=>rfl,λb' o c' xD hv=>?_,λt n h=>⟨n,h,bL _,λ_ b' c' hr=>⟨?_,λcs e bP=>⟨cs,bP,rfl⟩⟩⟩,λb' _ hr=>⟨rfl,?_⟩,λb' _ h=>?_,λb' t c' _ h=>?_,λb' i _ h=>?_,λb' c' e h=>⟨c',h,rfl⟩⟩
  .have:b' ≠ b:=aQ b' (λe=>by rw[e] at xD;exact xD)
   exact⟨by rw[lD b' this];exact xD,hv⟩
  .rw[lD b' (aQ b' (by rw[hr];simp))];exact hr
  .rw[lD b' (aQ b' (by rcases hr with h | h<;>rw[h]<;>simp))]
  .by_cases e:b' = b
   .rw[e];exact .inl dp
   .rw[lD _ e] at h;exact .inl h
  .by_cases e:b' = b
   .rw[e] at h;simp[Env.gl] at h
   .rw[lD _ e] at h;exact⟨c',h⟩
  .by_cases e:b' = b
   .rw[e] at h;simp[Env.gl] at h
   .rw[lD _ e] at h;exact⟨i,h⟩
 have hle:E.le (E.gl b):=ba.le λi b h=>h
 refine⟨ba,⟨⟨λb' cs' h=>?_,hs.ok.aJ,λb' b8 => ?_,hs.ok.nt,λb cs hc=>dQ.mono _ ba.nl (hs.ok.bO b cs hc)⟩,pI hs.cU hle (λb' i h _=>⟨by rw[lD b' (aQ b' (by rw[h];simp))];exact h,rfl⟩) hs.cU.none,hs.defers,RL.mono _ hle hs.slot⟩,λj x hx=>?_⟩
 .simp only[ag.del] at h;split at h
  .simp at h
  .rename_i zD;obtain⟨h1,h2⟩:=hs.ok.box b' cs' h;exact⟨by rw[lD b' zD];exact h1,ja.mono hle.nl rfl h2⟩
 .have b8 : E.w.heap.size<=b' := b8;rw[lD b' (by omega)];exact hs.ok.fresh b' b8
 .obtain⟨v,hv,hr⟩:=nR j x hx;refine⟨v,?_,by simp[Env.gl,eP.gW],R.mono x ba.nl hr⟩;show E.w.cell? ⟨b,j,ae⟩=U v;simp[World.cell?,hc,hv]
def nw(s:List UInt8):List Value:=s.map λb=>Value.int .u8 b.toNat
variable{base:Option Addr}
def Vn{D:ag}{n:Nat}{s:List UInt8}(b9:E.ok D)(h:HR D base n s){w0:World}(hw:w0.heap=E.w.heap):
 n=0/\s=[]\/∃b off,base=U ⟨b,off,ae⟩/\(loadCells ⟨b,off,ae⟩ n).run P w0 = .ok (nw s).toArray w0:=by
 obtain⟨hl,h⟩:=h
 rcases h with rfl | ⟨b,off,cs,rfl,hb,bP⟩
 .exact .inl ⟨rfl,jq.1 hl⟩
 .right;obtain⟨_,c,e,hc,hlen,nR⟩:=b9.box b cs hb;have hc:w0.heap[b]?=U (.cells c e (0,0)):=by rw[hw];exact hc
  refine⟨b,off,rfl,?_⟩
  have:=run_loadCells_list (P:=P) w0 ⟨b,off,ae⟩ (nw s) (λj u hu=>by
   rw[lh];simp only[nw,vu,cZ] at hu;obtain⟨x,hx,rfl⟩:=hu;have hj:j<n:=by rw[<-hl];exact(eX.1 hx).1
   have hcj:cs[off+j]?=U (.int .u8 x.toNat):=by
    have:=gX (λl:List V=>l[j]?) bP
    simp only[vu,hx,vC,yQ hj,tT] at this;exact this
   obtain⟨v,h1,h2⟩:=nR (off+j) _ hcj;simp only[R] at h2;simp[World.cell?,hc,h1,h2])
  rw[show(nw s).length=n by simp[nw,hl]] at this;exact this
variable{e u:TypeId}
def aqo{n:Nat}{s:List UInt8}(b9:E.ok st.out)(h:HR st.out base n s)(hu:P.underlying u=U (.slice e)):
 Src P E.w 1 (dc s).length u (.slice base n cap) (nw s)/\RL E.nl (dc s).flatten (nw s)/\(∀v∈nw s,v.oneCell' = aa)/\∀y∈dc s,y.length=1:=by
 have hl:=h.1;have hlen:(dc s).length=n:=by simp[dc,hl]
 have cell:∀w0:World,w0.heap=E.w.heap->(Builtin.firstCells 1 n (.slice base n cap)).run P w0 = .ok (nw s).toArray w0:=λw0 hw=>by
  rcases Vn (P:=P) b9 h hw with ⟨rfl,rfl⟩ | ⟨b,off,rfl,hr⟩
  .cases base<;>simp[Builtin.firstCells,loadCells,loadCellsFrom,nw]
  .simp only[Builtin.firstCells,tX];exact hr
 refine⟨⟨⟨_,hu,λ_ h=>by simp at h⟩,λw' => by simp[Builtin.lenOf,hlen],?_,?_,by simp[nw,dc]⟩,?_,?_,?_⟩
 .rw[hlen];exact cell E.w rfl
 .rw[hlen];exact cell E.w.drew rfl
 .rw[JD];clear hl hlen cell h;induction s with
  | nil=>simp[RL,nw]
  | cons b s ih=>simp only[bX,RL,R,nw] at ih ⊢;exact⟨trivial,ih⟩
 .intro v hv;simp only[nw,vv] at hv;obtain⟨b,_,rfl⟩:=hv;rfl
 .intro y hy;simp only[dc,vv] at hy;obtain⟨b,_,rfl⟩:=hy;rfl
variable{t:TypeId}
def apy{lo hi:Option Operand}{my c_ : Option X}(hs:bB E st a)(h1:kn P t lo=U my)(h2:kn P t hi=U c_){len n:Nat}
 (dB:match (generalizing:=false) my with | none=>m=0 | some y=>∃j,ev st y = .int j m) (mr:match (generalizing:=false) c_ with | none=>n=len | some y=>∃j,ev st y = .int j n) (sU:m<=n) (qg:n<=len) :
 (Instr.sliceBounds ak len len (lo.map a.eval) (hi.map a.eval) ae).run P E.w = .ok (m,n,len) E.w:=by
 rcases lH (E:=E) hs.slot h2 with ⟨rfl,rfl⟩ | ⟨u,v,rfl,rfl,hr⟩
 .simp only at mr;subst mr
  rcases lH (E:=E) hs.slot h1 with ⟨rfl,rfl⟩ | ⟨u',v',rfl,rfl,cg⟩
  .simp only at dB;subst dB;simp[Instr.sliceBounds]
  .obtain⟨j',gI⟩:=dB;rw[gI] at cg;simp only[R] at cg;have e2:=qo (P:=P) (w:=E.w) (j:=j') (c:=.sliceB) sU;simp[Instr.sliceBounds,cg,e2]
 .obtain⟨j,hj⟩:=mr;rw[hj] at hr;simp only[R] at hr;have e2:=qo (P:=P) (w:=E.w) (j:=j) (c:=.sliceAlen) qg
  rcases lH (E:=E) hs.slot h1 with ⟨rfl,rfl⟩ | ⟨u',v',rfl,rfl,cg⟩
  .simp only at dB;subst dB;simp[Instr.sliceBounds,hr,e2]
  .obtain⟨j',gI⟩:=dB;rw[gI] at cg;simp only[R] at cg;have e3:=qo (P:=P) (w:=E.w) (j:=j') (c:=.sliceB) sU;simp[Instr.sliceBounds,hr,cg,e2,e3]
def Me(P:Program)(o:Oper):Option aG :=
 match o.op with
 | .slice t x lo hi ae =>
  match cu P t x,kn P t lo,kn P t hi with
  | some y, U my, U c_ =>
   match P.underlying t with
   | some (.array m e)=>(dO P e).map λk=>.own (.HX m k my.isSome c_.isSome) (y::(my.toList++c_.toList))
   | some (.slice e)=>if dO P e=U 1 then U (.own (.gl 1 my.isSome c_.isSome) (y::(my.toList++c_.toList))) else ae
   | _=>ae
  | _,_,_=>ae
 | .buildSlice t len ps =>
  match P.underlying t with
  | some (.slice e) =>
   match dO P e,jB P e,iU P (aA len e) (ps.toList.map (·.2)) with
   | some k,U _,U xs=>if ps.toList.map (·.1)=cc len/\len*k<=16777216 then U (.own (.new k) xs) else ae
   | _,_,_=>ae
  | _=>ae
 | .convert src dst x =>
  match P.underlying src,P.underlying dst,cu P src x with
  | some (.slice e),U .string,U y=>match P.underlying e with | some (.int .u8)=>U (.own .Jv [y]) | _=>ae
  | _,_,_=>ae
 | .call c =>
  match c.callee with
  | .builtin .append =>
   match c.argTypes.toList,c.args.toList with
   | [t, u], [s, x] =>
    match P.underlying t,cu P t s,cu P u x with
    | some (.slice e), U s', U x' =>
     match P.info? e,jB P e with
     | some i, U _ =>
      if i.size=1/\i.bytes<=4096 then
       match P.underlying u with
       | some .string=>U (.own .mj [s',x'])
       | some (.slice _)=>U (.own .I5 [s',x'])
       | _=>ae
      else ae
     | _,_=>ae
    | _,_,_=>ae
   | _,_=>ae
  | _=>ae
 | _=>ae
def asu(hs:bB E st a){len:Nat}{parts:Array (Nat × Operand)}{z:List V}(ho:o.op = .buildSlice t len parts)(ht:P.underlying t=U (.slice e))(hn:dO P e=U k)(hz:jB P e=U z)
 (hr:parts.toList.map (·.1)=cc len) (cD:len*k<=16777216) {l:List (List V)}
 (hf:(parts.toList.map (·.2)).length=len/\l.length=len/\(∀x∈parts.toList.map (·.2),(a.eval x).cells.size=k)/\(∀y∈l,y.length=k)/\RL E.nl l.flatten ((parts.toList.map (·.2)).map λx=>(a.eval x).cells.toList).flatten/\∀v∈((parts.toList.map (·.2)).map λx=>(a.eval x).cells.toList).flatten,v.oneCell' = aa)
 (hk:∀b,st.out.box b=ae->K (V.raw (.slice (U ⟨b,0,ae⟩) l.length l.length)) ⟨st.t,st.aC,st.out.set b l.flatten⟩):o.wp P a E.w (dz E a o.dst K) Q:=by
 obtain⟨k1,k2,k3,k4,k5,k6⟩:=hf;obtain⟨i,zv,h1,h2,h3,h4⟩:=sr hz;have hlen:parts.toList.length=len:=by simpa using k1
 let ps:List (Nat × Value):=parts.toList.map λ(i,x)=>(i,a.eval x)
 have K5:ps.map (·.1)=List.range' 0 ps.length:=by
  have:ps.map (·.1)=parts.toList.map (·.1):=by simp[ps,vr]
  rw[this,hr,tU];congr 1;simp[ps];simpa using hlen.symm
 have K6:(ps.map λp=>p.2.cells.toList)=(parts.toList.map (·.2)).map λx=>(a.eval x).cells.toList:=by simp[ps,vr]
 have dj:∀p∈ps,p.2.cells.size=k:=λp hp=>by
  simp only[ps,vv] at hp;obtain⟨q,hq,rfl⟩:=hp;exact k3 q.2 (vv.2 ⟨q,hq,rfl⟩)
 have nX:ps.length=len:=by simp[ps];simpa using hlen
 have fill:∀cells:Array Value,cells.size=len*k->Instr.fill (λi=>U (i*k,k)) cells ps=U ((parts.toList.map (·.2)).map λx=>(a.eval x).cells.toList).flatten.toArray:=λcells hc=>by
  have:=JK ps 0 cells K5 dj (by rw[nX];simpa using hc)
  rw[this,K6];simp
 generalize rQ:((parts.toList.map (·.2)).map λx=>(a.eval x).cells.toList).flatten=news at fill k5 k6;refine Ol hs (w1:=E.w) (Ext.refl _) rfl (x:=.slice (U ⟨E.w.heap.size,0,ae⟩) len len) (v:=λb=>.raw (.slice (U ⟨b,0,ae⟩) l.length l.length)) (zs:=l.flatten) (c:=news.toArray) (e:=e) ?_ (by simpa using k5) (by simp only[R,k2]) rfl hk;have iK:(zeroValue e).run P E.w = .ok zv E.w:=by simp[zeroValue,typeInfo,h1,h2]
 have DA:(parts.map λ(i,x)=>(i,a.eval x)).toList=ps:=by simp[ps]
 have xT : ¬(16777216<len*k):=by omega
 simp only[execOp,ho,Sem.run_bind];have key:(Instr.buildSlice t len (parts.map λ(i,x)=>(i,a.eval x))).run P E.w = .ok (.slice (U ⟨E.w.heap.size,0,ae⟩) len len) (E.w.alloc (.cells news.toArray e)):=by
  unfold Instr.buildSlice;simp only[Sem.run_bind,run_underlying ht,Result.andThen_ok,nh hn];rw[aB (by simpa using xT)];rw[DA]
  by_cases h0:len*k=0
  .rw[aD h0];simp only[Sem.run_bind,Sem.run_pure,Result.andThen_ok];rw[fill _ (by simp)];simp[newRow]
  .rw[aB h0];simp only[Sem.run_bind,iK,Result.andThen_ok,Sem.run_pure];rw[fill _ (by simp)];simp[newRow]
 rw[key];rfl
variable{ao:aG}
def ano(hl:Me P o=U ao)(hs:bB E st a)(h:ao.a7 P st K):o.wp P a E.w (dz E a o.dst K) Q:=by
 have X:=λ{t:TypeId} {x:Operand} {y:X} (hx:cu P t x=U y)=>mz (E:=E) (st:=st) (a:=a) hs.slot hx
 unfold Me at hl;split at hl
 .rename_i t x lo hi ho;split at hl
  case h_2=>simp at hl
  rename_i y my c_ h1 h2 h3;have hx:=X h1;split at hl
  .rename_i m e ht;simp only[cZ] at hl;obtain⟨k,hk,rfl⟩:=hl;simp only[aG.a7,cW] at h;unfold OQ.a7 at h;split at h<;>try (exfalso;simp_all;done)
   .rename_i m0 k0 b1 b2 b off vs e1 e2;simp only[OQ.HX.injEq] at e1;obtain⟨rfl,rfl,rfl,rfl⟩:=e1;simp only[gu] at e2;obtain⟨e2,rfl⟩:=e2;rw[e2] at hx;simp only[R] at hx;rw[FX] at h;obtain⟨l,h,g1⟩:=y5 h;rw[<-eg (cW st c_.toList)] at h;obtain⟨hh,h,g2⟩:=y5 h;obtain⟨_,k1,k2,h⟩:=h;have hb:=apy (P:=P) hs h2 h3 g1 g2 k1 k2;refine cP hs (v:=.raw _) (x:=.slice (U (if m=l then ⟨b,off,ae⟩ else ⟨b,off+l*k,ae⟩)) (hh - l) (m - l)) ?_ (by simp only[R]) h;simp only[execOp,ho,Sem.run_bind,hx];simp[Instr.sliceAt,run_underlying ht,Instr.sureAddr,hb,nh hk,lh]
  .rename_i e ht;split at hl
   case isFalse=>simp at hl
   rename_i hk;simp only[aY] at hl;subst hl;simp only[aG.a7,cW] at h;unfold OQ.a7 at h;split at h<;>try (exfalso;simp_all;done)
   .rename_i k0 b1 b2 b off n cap vs e1 e2;simp only[OQ.gl.injEq] at e1;obtain⟨rfl,rfl,rfl⟩:=e1;simp only[gu] at e2;obtain⟨e2,rfl⟩:=e2;rw[e2] at hx;simp only[R] at hx;rw[FX] at h;obtain⟨l,h,g1⟩:=y5 h;rw[<-eg (cW st c_.toList)] at h;obtain⟨hh,h,g2⟩:=y5 h;obtain⟨_,k1,k2,_,cs,zr,hlen,fG,nW,h⟩:=h;have hb:=Ns (P:=P) (mx:=none) (mx' := ae) (M:=cap) hs h2 h3 rfl (by simp) g1 g2 rfl k1 k2 (bL _);obtain⟨hf,dh,hc⟩:=ag_ hs zr;unfold Oper.wp;rw[show(execOp a.eval o).run P E.w = .ok (.value (.slice (if cap=l then U ⟨b,off,ae⟩ else U ⟨b,off+l,ae⟩) (hh - l) (cap - l))) E.w by
     simp only[execOp,ho,Sem.run_bind,hx];simp only[Option.map_none] at hb;simp[Instr.sliceAt,run_underlying ht,Instr.slice,hb,nh hk,lh]]
    refine⟨E.gl b,_,_,⟨st.t,st.aC,st.out.del b⟩,rfl,hf,dh,?_,rfl,h⟩;have fy:(A7 (((cs.drop off).take hh).drop l)).length=hh - l:=by simp[A7];omega
    simp only[R];refine⟨_,_,by rw[fy],by rw[fy];omega,?_,trivial⟩
    by_cases hz:hh=l
    .left;exact jq.1 (by rw[fy];omega)
    .right;refine⟨b,off+l,by rw[aB (by omega)],?_⟩;have key:∀(xs:List V) (p:Nat),(∀(j:Nat) x,xs[j]?=U x->cs[p+j]?=U x)->cB xs=aa->fK (E.gl b).nl 1 (A7 xs) b p:=by
      intro xs;induction xs with
      | nil=>intro p _ _;simp[A7,fK]
      | cons x xs ih =>
       intro p hp Dw;simp only[cB,bA] at Dw;simp only[A7,bX,fK,dQ];obtain⟨v,v1,v2,v3⟩:=hc p x (by have:=hp 0 x rfl;simpa using this);refine⟨rfl,⟨⟨v,v1,v2,yj (E:=(E.gl b).nl) (xs:=[x]) (vs:=[v]) (by simp only[RL];exact⟨v3,trivial⟩) (by simp[cB,Dw.1]) v (by simp),by simpa using v3⟩,trivial⟩,?_⟩;refine ih (p+1) (λj y hy=>?_) Dw.2
       have:=hp (j+1) y (by simpa using hy)
       rwa [show p+1+j=p+(j+1) by omega]
     refine key _ _ (λj x jv => ?_) fG;rw[tT,yQ (by
      have:=(eX.1 jv).1
      simp at this;omega),tT] at jv
     rwa [show off+l+j=off+(l+j) by omega]
  .simp at hl
 .rename_i t len ps ho;split at hl
  case h_2=>simp at hl
  rename_i e ht;split at hl
  case h_2=>simp at hl
  rename_i k z xs hk hz pD;split at hl
  case isFalse=>simp at hl
  rename_i hc;simp only[aY] at hl;subst hl;simp only[aG.a7] at h;unfold OQ.a7 at h;split at h<;>try (exfalso;simp_all;done)
  .rename_i k0 vs e1;simp only[OQ.new.injEq] at e1;subst e1;obtain⟨l,h1,qg,h2⟩:=h;exact asu hs ho ht hk hz hc.1 hc.2 (LN (E:=E) hs.slot pD h1) h2
 .rename_i src dst x ho;split at hl
  case h_2=>simp at hl
  rename_i e y h1 h2 h3;split at hl
  case h_2=>simp at hl
  rename_i h4;simp only[aY] at hl;subst hl;have hx:=X h3;simp only[aG.a7,cW] at h;unfold OQ.a7 at h;split at h<;>try (exfalso;simp_all;done)
  .rename_i base n cap e1 e2;simp only[gu,gw] at e2;rw[e2] at hx;simp only[R] at hx;obtain⟨s,ht,h⟩:=h;refine cP hs (v:=.aF s) (x:=.string ⟨s.toArray⟩) ?_ (by simp only[R]) h;have key:(Conv.bytesToString (a.eval x)).run P E.w = .ok (.string ⟨s.toArray⟩) E.w:=by
    rw[hx]
    rcases Vn (P:=P) hs.ok ht rfl with ⟨rfl,rfl⟩ | ⟨b,off,rfl,hr⟩
    .cases base with
     | none=>simp[Conv.bytesToString];rfl
     | some ad =>
      have:=run_bytesToString (P:=P) E.w ad 0 cap [] (by simp[loadCells,loadCellsFrom])
      simp at this ⊢;exact this
    .rw[show nw s=(s.map λb=>(b.toNat:Int)).map (Value.int .u8) by simp[nw]] at hr
     have:=run_bytesToString (P:=P) E.w ⟨b,off,ae⟩ n cap _ hr
     rw[this];have hp:=MY s [];simp only[fY] at hp;exact gX (λz=>Result.ok (Value.string z) E.w) hp
   rw[hx] at key;simp only[execOp,ho,Sem.run_bind,hx];simp[convert,run_underlying h1,run_underlying h2,run_underlying h4,key]
 .rename_i c ho;obtain⟨callee,args,argTypes⟩:=c;simp only at hl;split at hl
  .split at hl
   case h_2=>simp at hl
   rename_i t u s x ht hx;have e1:argTypes=#[t,u]:=by cases argTypes;simpa using ht
   have e2:args=#[s,x]:=by cases args;simpa using hx
   subst e1;subst e2;split at hl
   case h_2=>simp at hl
   rename_i e s' x' hu dh jv;split at hl
   case h_2=>simp at hl
   rename_i i z hi hz;split at hl
   case isFalse=>simp at hl
   rename_i hc;obtain⟨px,mo⟩:=hc;obtain⟨i',z',q1,q2,q3,q4⟩:=sr hz;obtain rfl:i=i' := by rw[hi] at q1;simpa using q1
   have iK:z'.cells.size=i.size:=by have:=fC (qH (E:=E) q3);simp at this;omega
   have uN:=X dh;have fH:=X jv;split at hl
   .rename_i zH;simp only[aY] at hl;subst hl;simp only[aG.a7,cW] at h;unfold OQ.a7 at h;split at h<;>try (exfalso;simp_all;done)
    .rename_i base n cap sx e1 e2;simp only[gu,gw] at e2;obtain⟨e2,e3⟩:=e2;rw[e2] at uN;rw[e3] at fH;simp only[R] at uN fH;obtain⟨news,g1,g2,g3,g4⟩:=Wz (P:=P) (E:=E.nl) (w:=E.w) zH sx;refine Ok hs hu hi q2 iK mo (ty:=o.type) (base:=base) (n:=n) (cap:=cap) (u:=u) (vx:=a.eval x) (m:=dc sx) (news:=news) ?_ ?_ g2 g3 ?_ ?_
     .simp[execOp,ho,resolve,invoke,builtin,uN]
     .rw[px,fH];exact g1
     .rw[px];exact g4
     .rw[px];exact h
   .rename_i e' zH;simp only[aY] at hl;subst hl;simp only[aG.a7,cW] at h;unfold OQ.a7 at h;split at h<;>try (exfalso;simp_all;done)
    .rename_i base n cap Zp n' nH e1 e2;simp only[gu,gw] at e2;obtain⟨e2,e3⟩:=e2;rw[e2] at uN;rw[e3] at fH;simp only[R] at uN fH;obtain⟨sx,hr,h⟩:=h;obtain⟨g1,g2,g3,g4⟩:=aqo (P:=P) (cap:=nH) hs.ok hr zH;refine Ok hs hu hi q2 iK mo (ty:=o.type) (base:=base) (n:=n) (cap:=cap) (u:=u) (vx:=a.eval x) (m:=dc sx) (news:=nw sx) ?_ ?_ g2 g3 ?_ ?_
     .simp[execOp,ho,resolve,invoke,builtin,uN]
     .rw[px,fH];exact g1
     .rw[px];exact g4
     .rw[px];exact h
   .simp at hl
  .simp at hl
 .simp at hl
variable{ty:TypeId}
def Xh(hs:bB E st a){i:TypeInfo}(ht:P.underlying t=U (.slice e))(hi:P.info? e=U i){n:Nat}{vx:Value}{xs:List V}
 (cS:(execOp a.eval o).run P E.w=((Builtin.copy_ #[t,u] ty #[.slice base n cap,vx]).run P E.w).andThen λv w' => .ok (.value v) w')
 {len:Nat} (hlen:(Builtin.lenOf vx).run P E.w = .ok len E.w) (hm:min len n=m) {news:List Value} (nR:(Builtin.firstCells i.size m vx).run P E.w = .ok news.toArray E.w)
 (rQ:RL E.nl xs news) (fG:∀v∈news,v.oneCell' = aa) (cD:news.length=m*i.size)
 (hk:AQ st.out i.size base m xs λv D=>K v ⟨st.t,st.aC,D⟩):o.wp P a E.w (dz E a o.dst K) Q:=by
 obtain⟨Dn,rL⟩:=hk;have hm:Nat.min len n=m:=hm
 by_cases h0:m=0
 .subst h0
  have:news=[]:=su (by simpa using cD)
  subst this;refine cP hs (v:=.int .i64 0) (x:=.int .i64 0) ?_ (by simp only[R]) (Dn rfl);rw[cS];cases base<;>simp[Builtin.copy_,run_underlying ht,sizeOf,typeInfo,hi,hlen,hm,nR,storeCells,goInt]
 .obtain⟨b,off,cs,rfl,nQ,nU,hK⟩:=rL h0;obtain⟨dp,c,e',eT,hln,hc⟩:=hs.ok.box b cs nQ;have eT:E.w.heap[b]?=U (.cells c e' (0,0)):=eT;have wh:=fC rQ;have KG : off+news.length<=c.size:=by omega
  have dV:=run_storeCells_at (P:=P) b off e' news 0 c E.w eT (by simpa using KG) fG;simp only[vz] at dV;have jh:(Builtin.copy_ #[t,u] ty #[.slice (U ⟨b,off,ae⟩) n cap,vx]).run P E.w = .ok (.int .i64 m) (E.w.setRow b (c.toList.take off++news++c.toList.drop (off+news.length)).toArray):=by
   simp[Builtin.copy_,run_underlying ht,sizeOf,typeInfo,hi,hlen,hm,nR,dV,goInt]
  have ba:=F8 (E:=E) (new:=(c.toList.take off++news++c.toList.drop (off+news.length)).toArray) eT (.inr dp) (by simp;omega);have hle:=ba.le λ_ _ h=>h
  have gn:=setRow_heap E.w b c (c.toList.take off++news++c.toList.drop (off+news.length)).toArray e' _ eT;have zr:=FD (E' := Env.nl {E with w:=E.w.setRow b (c.toList.take off++news++c.toList.drop (off+news.length)).toArray}) hln
   (λj x hj=>let ⟨u,h1,h2⟩:=hc j x hj;⟨u,h1,h2.mono _ ba.nl⟩) (RL.mono _ ba.nl rQ) (by omega) gn
  generalize (c.toList.take off++news++c.toList.drop (off+news.length)).toArray=new at jh gn ba hle zr;have jR : ∀b',b' ≠ b->(E.w.setRow b new).heap[b']?=E.w.heap[b']?:=λb' aQ=>setRow_other E.w b b' new aQ
  unfold Oper.wp;rw[cS,jh];refine⟨{E with w:=E.w.setRow b new},.int .i64 m,.int .i64 m,⟨st.t,st.aC,st.out.set b (setAt cs off xs)⟩,rfl,ba,⟨⟨?_,hs.ok.aJ,λb' b8 => hs.ok.fresh b' (by simpa using b8),hs.ok.nt,λb cs hc=>dQ.mono _ ba.nl (hs.ok.bO b cs hc)⟩,
   pI hs.cU hle (λb' i hr _=>⟨hr,jR b' (by rintro rfl;rw[dp] at hr;simp at hr)⟩) hs.cU.none,hs.defers,RL.mono _ hle hs.slot⟩,by simp only[R],rfl,hK⟩
  intro b' cs' xE;simp only[ag.set] at xE;split at xE
  .rename_i e2;subst e2;simp only[aY] at xE;subst xE;exact⟨dp,zr⟩
  .rename_i aQ;obtain⟨h1,h2⟩:=hs.ok.box b' cs' xE;exact⟨h1,h2.mono ba.nl (jR b' aQ)⟩
def abj(b9:E.ok st.out){n:Nat}{xs:List V}(h:OD st.out base n xs):∃news:List Value,news.length=n/\RL E.nl xs news/\(∀v∈news,v.oneCell' = aa) /\
 ∀(k m len cap:Nat),m*k=n->(Builtin.firstCells k m (.slice base len cap)).run P E.w = .ok news.toArray E.w:=by
 rcases h with ⟨rfl,rfl⟩ | ⟨b,o,cs,rfl,hb,hl,rfl,h1⟩
 .refine⟨[],rfl,by simp[RL],by simp,λk m len cap e=>?_⟩;cases base with
  | none=>simp[Builtin.firstCells]
  | some ad=>simp[Builtin.firstCells,e,loadCells,loadCellsFrom]
 .obtain⟨_,c,e,hc,hlen,nR⟩:=b9.box b cs hb;have hc:E.w.heap[b]?=U (.cells c e (0,0)):=hc;have fy:RL E.nl ((cs.drop o).take n) ((c.toList.drop o).take n):=by
   refine CC (by simp;omega) λj x u hx hu=>?_
   have hj:j<n:=by have:=(eX.1 hx).1;simp at this;omega
   rw[yQ hj,tT] at hx;rw[yQ hj,tT] at hu;obtain⟨v,h1,h2⟩:=nR (o+j) x hx
   have:v=u:=by simp at hu;rw[hu] at h1;simpa using h1.symm
   exact this▸h2
  have kK:((c.toList.drop o).take n).length=n:=by simp;omega
  refine⟨(c.toList.drop o).take n,kK,fy,yj fy h1,λk m len cap e2=>?_⟩
  have:=run_loadCells_list (P:=P) E.w ⟨b,o,ae⟩ ((c.toList.drop o).take n) (λj v hv=>by
   have hj:j<n:=by have:=(eX.1 hv).1;omega
   rw[lh];rw[yQ hj,tT] at hv;simpa [World.cell?,hc] using hv)
  rw[kK] at this;simp only[Builtin.firstCells,e2];exact this
def Mb(P:Program)(o:Oper):Option aG :=
 match o.op with
 | .index t x i =>
  match P.underlying t,cu P t x,cu P t i with
  | some (.array m e), U y, U z =>
   match gG P e,dO P e with
   | some ak,U 1=>U (.own (.GY m) [y,z])
   | _,_=>ae
  | _,_,_=>ae
 | .binOp op t x y _ =>
  match P.underlying t,cu P t x,cu P t y with
  | some (.pointer _),U x',U y' => match op with | .eql=>U (.rF ak x' y') | .neq=>U (.rF aa x' y') | _=>ae
  | _,_,_=>ae
 | .unOp .neg t x=>match P.underlying t,cu P t x with | some (.int k),U y=>U (.eD .sub (.c (.int k 0)) y) | _,_=>ae
 | .unOp .xor t x=>match P.underlying t,cu P t x with | some (.int k),U y=>U (.eD .xor (.c (.int k (if k.signed then -1 else k.max))) y) | _,_=>ae
 | .call c =>
  match c.callee with
  | .builtin .min =>
   match c.argTypes.toList,c.args.toList with
   | [t,u],[x,y]=>match P.underlying t,cu P t x,cu P u y with | some (.int _),U x',U y' => U (.own .min [x',y']) | _,_,_=>ae
   | _,_=>ae
  | .builtin .max =>
   match c.argTypes.toList,c.args.toList with
   | [t,u],[x,y]=>match P.underlying t,cu P t x,cu P u y with | some (.int _),U x',U y' => U (.own .max [x',y']) | _,_,_=>ae
   | _,_=>ae
  | .builtin .copy =>
   match c.argTypes.toList,c.args.toList with
   | [t, u], [x, y] =>
    match P.underlying t,P.underlying u,cu P t x,cu P u y with
    | some (.slice e),U (.slice e'),U x',U y' => match P.info? e with | some i=>if e=e' /\ 0<i.size then U (.own (.A_ i.size) [x',y']) else ae | none=>ae
    | _,_,_,_=>ae
   | _,_=>ae
  | _=>ae
 | _=>ae
variable{x:Operand}
def Xi(hs:bB E st a){neg:Bool}{op:BinOp}(lW:op=if neg then .neq else .eql){t':TypeId}(ht:P.underlying t=U (.pointer e)){y:Operand}{vx vy:V}(ho:o.op = .binOp op t x y t')(hx:R E vx (a.eval x))(hy:R E vy (a.eval y))
 (hk:match (generalizing:=false) isNil vx,vy with | some g,.iL=>K (.bool (if neg then !g else g)) st | _,_=>False):o.wp P a E.w (dz E a o.dst K) Q:=by
 split at hk
 case h_2=>exact hk.elim
 rename_i g hg;have hp:P.underlying t=U (.pointer (P.pointee t)):=by rw[ht];simp[Program.pointee,ht]
 obtain⟨p,hv,qd⟩:∃p,a.eval x = .pointer p/\p.isNone=g:=by
  unfold isNil at hg;split at hg
  .simp only[R] at hx;exact⟨ae,hx,by simpa using hg⟩
  .rename_i q off;cases q with
   | aC i=>simp only[R] at hx;obtain⟨b,_,h⟩:=hx;exact⟨_,h,by simpa using hg⟩
   | out b=>simp only[R] at hx;exact⟨_,hx,by simpa using hg⟩
   | jM b=>simp only[R] at hx;exact⟨_,hx,by simpa using hg⟩
  .simp at hg
 simp only[R] at hy;subst lW;subst qd;cases neg
 .refine cP hs (x:=.bool p.isNone) ?_ (by simp[R]) hk;simp only[execOp,ho,hv,hy];simp[eqGuard,run_eql_pointer_nil E.w t p hp]
 .refine cP hs (x:=.bool (!p.isNone)) ?_ (by simp[R]) hk;simp only[execOp,ho,hv,hy];simp[eqGuard,run_neq_pointer_nil E.w t p hp]
def alw(hl:Mb P o=U ao)(hs:bB E st a)(h:ao.a7 P st K):o.wp P a E.w (dz E a o.dst K) Q:=by
 have X:=λ{t:TypeId} {x:Operand} {y:X} (hx:cu P t x=U y)=>mz (E:=E) (st:=st) (a:=a) hs.slot hx
 unfold Mb at hl;split at hl
 .rename_i t x i ho;split at hl
  case h_2=>simp at hl
  rename_i m e y z ht hx hi;split at hl
  case h_2=>simp at hl
  rename_i hg hn;simp only[aY] at hl;subst hl;have fH:=X hx;have xL:=X hi;simp only[aG.a7,cW] at h;unfold OQ.a7 at h;split at h<;>try (exfalso;simp_all;done)
  .rename_i m0 cs k j e1 e2;simp only[OQ.GY.injEq] at e1;subst e1;simp only[gu,gw] at e2;obtain⟨e2,e3⟩:=e2;rw[e2] at fH;rw[e3] at xL;simp only[R] at fH xL;obtain⟨vs,h4,h5⟩:=fH;obtain⟨g1,g2,h⟩:=h;unfold D_ at h;split at h
   .rename_i c hc;obtain⟨u,h6,h7⟩:=qA h5 j.toNat c hc;have h6' : vs[j.toNat]?=U u:=by simpa using h6
    refine cP hs (v:=c) (x:=u) ?_ h7 h.2;simp[execOp,ho,h4,xL,Instr.index,asIntOf,run_underlying ht,g1,g2,part,Ao hg,nh hn,h6']
   .exact h.elim
 .rename_i op t x y t' ho;split at hl
  case h_2=>simp at hl
  rename_i e x' y' ht hx hy;split at hl
  .simp only[aY] at hl;subst hl;exact Xi hs (neg:=false) rfl ht ho (X hx) (X hy) h
  .simp only[aY] at hl;subst hl;exact Xi hs (neg:=true) rfl ht ho (X hx) (X hy) h
  .simp at hl
 .rename_i t x ho;split at hl
  case h_2=>simp at hl
  rename_i k y ht hx;simp only[aY] at hl;subst hl;have hx:=X hx;simp only[aG.a7,ev,opt,K2] at h;split at h
  case h_2=>exact h.elim
  rename_i v hv;unfold uf at hv;split at hv
  case h_2=>simp at hv
  rename_i k' n k2 m e1 e2;simp only[V.int.injEq] at e1;obtain⟨rfl,rfl⟩:=e1;split at hv
  case isFalse=>simp at hv
  rename_i iw;obtain rfl:=GZ (iw.resolve_right (by simp[zQ]));simp only[hC,aY] at hv;subst hv;have e2:ev st y = .int k m:=e2;rw[e2] at hx;simp only[R] at hx;refine cP hs (x:=.int k (k.wrap (0 - m))) ?_ (by simp only[R]) h;simp only[execOp,ho,hx];simp only[Op.unary,Op.intArith];simp
 .rename_i t x ho;split at hl
  case h_2=>simp at hl
  rename_i k y ht hx;simp only[aY] at hl;subst hl;have hx:=X hx;simp only[aG.a7,ev,opt,K2] at h;split at h
  case h_2=>exact h.elim
  rename_i v hv;unfold uf at hv;split at hv
  case h_2=>simp at hv
  rename_i k' n k2 m e1 e2;simp only[V.int.injEq] at e1;obtain⟨rfl,rfl⟩:=e1;split at hv
  case isFalse=>simp at hv
  rename_i iw;obtain rfl:=GZ (iw.resolve_right (by simp[zQ]));simp only[hC,aY] at hv;subst hv;have e2:ev st y = .int k m:=e2;rw[e2] at hx;simp only[R] at hx;refine cP hs (x:=.int k (k.wrap ((BitVec.ofInt k.bits (if k.signed then -1 else k.max) ^^^ BitVec.ofInt k.bits m).toNat:Nat))) ?_ (by simp only[R]) h;simp only[execOp,ho,hx];simp only[Op.unary,Op.intBits];simp
 .rename_i c ho;obtain⟨callee,args,argTypes⟩:=c;simp only at hl;split at hl
  .split at hl
   case h_2=>simp at hl
   rename_i t u x y ht hx;have e1:argTypes=#[t,u]:=by cases argTypes;simpa using ht
   have e2:args=#[x,y]:=by cases args;simpa using hx
   subst e1;subst e2;split at hl
   case h_2=>simp at hl
   rename_i k0 x' y' hu jv zK;simp only[aY] at hl;subst hl;have fH:=X jv;have qh:=X zK;simp only[aG.a7,cW] at h;unfold OQ.a7 at h;split at h<;>try (exfalso;simp_all;done)
   .rename_i k n k' m e1 e2;simp only[gu,gw] at e2;obtain⟨e2,e3⟩:=e2;rw[e2] at fH;rw[e3] at qh;simp only[R] at fH qh;obtain⟨iw,h⟩:=h;refine cP hs (v:=.int k (if m<n then m else n)) (x:=.int k (if m<n then m else n)) ?_ (by simp only[R]) h;simp[execOp,ho,resolve,invoke,builtin,Builtin.min_,Builtin.min2,fH,qh]
  .split at hl
   case h_2=>simp at hl
   rename_i t u x y ht hx;have e1:argTypes=#[t,u]:=by cases argTypes;simpa using ht
   have e2:args=#[x,y]:=by cases args;simpa using hx
   subst e1;subst e2;split at hl
   case h_2=>simp at hl
   rename_i k0 x' y' hu jv zK;simp only[aY] at hl;subst hl;have fH:=X jv;have qh:=X zK;simp only[aG.a7,cW] at h;unfold OQ.a7 at h;split at h<;>try (exfalso;simp_all;done)
   .rename_i k n k' m e1 e2;simp only[gu,gw] at e2;obtain⟨e2,e3⟩:=e2;rw[e2] at fH;rw[e3] at qh;simp only[R] at fH qh;obtain⟨iw,h⟩:=h;refine cP hs (v:=.int k (if n<m then m else n)) (x:=.int k (if n<m then m else n)) ?_ (by simp only[R]) h;simp[execOp,ho,resolve,invoke,builtin,Builtin.max_,Builtin.max2,fH,qh]
  .split at hl
   case h_2=>simp at hl
   rename_i t u x y ht hx;have e1:argTypes=#[t,u]:=by cases argTypes;simpa using ht
   have e2:args=#[x,y]:=by cases args;simpa using hx
   subst e1;subst e2;split at hl
   case h_2=>simp at hl
   rename_i e e' x' y' hu zH jv zK;split at hl
   case h_2=>simp at hl
   rename_i i hi;split at hl
   case isFalse=>simp at hl
   rename_i hc;simp only[aY] at hl;subst hl;obtain⟨rfl,iJ⟩:=hc;have fH:=X jv;have qh:=X zK;simp only[aG.a7,cW] at h;unfold OQ.a7 at h;split at h<;>try (exfalso;simp_all;done)
   .rename_i k0 base n cap Zp n' nH e1 e2;simp only[OQ.A_.injEq] at e1;subst e1;simp only[gu,gw] at e2;obtain⟨e2,e3⟩:=e2;rw[e2] at fH;rw[e3] at qh;simp only[R] at fH qh;obtain⟨xs,Kz,h⟩:=h;obtain⟨news,g1,g2,g3,g4⟩:=abj (P:=P) hs.ok Kz;refine Xh hs (u:=u) (ty:=o.type) (vx:=a.eval y) (news:=news) (base:=base) (n:=n) (cap:=cap) hu hi ?_ (len:=n') ?_ rfl ?_ g2 g3 g1 h
    .simp[execOp,ho,resolve,invoke,builtin,fH]
    .rw[qh];simp[Builtin.lenOf]
    .rw[qh];exact g4 _ _ _ _ rfl
   .rename_i k0 base n cap tk k1 m e1 e2;simp only[OQ.A_.injEq] at e1;subst e1;simp only[gu,gw] at e2;obtain⟨e2,e3⟩:=e2;obtain⟨rfl,hle,h⟩:=h;rw[e2] at fH;rw[e3] at qh;obtain⟨news,g1,g2,g3,g4⟩:=H2 (P:=P) zH qh;simp only[R] at fH;refine Xh hs (u:=u) (ty:=o.type) (vx:=a.eval y) (news:=news) (base:=base) (n:=n) (cap:=cap) (m:=m.length) hu hi ?_ (len:=m.length) (g1.len _) (by omega) g1.cells g2 g3 g1.size h;simp[execOp,ho,resolve,invoke,builtin,fH]
  .simp at hl
 .simp at hl
def L_(P:Program)(o:Oper):Option aG :=
 match o.op with
 | .call c =>
  match c.callee with
  | .value (.func f) =>
   match P.funcs[f]?,iU P c.argTypes.toList c.args.toList with
   | some fn,U xs=>if fn.body.isNone=aa/\fn.origin = "" then(if fn.name = "internal/bytealg.CountString" then U (.own .Jn xs) else if fn.name = "internal/bytealg.IndexByteString" then U (.own .Lm xs) else ae) else ae
   | _,_=>ae
  | _=>ae
 | _=>ae
def adN(s:List UInt8)(c:UInt8):zh s c=Lib.indexByte s c:=by
 induction s with
 | nil=>rfl
 | cons b l ih=>simp only[zh,Lib.indexByte,ih]
variable{fn:Func}
def adQ(h:fn.name = "internal/bytealg.CountString")(ho:fn.origin = ""):Extern.findNext fn=ae/\Extern.find fn=U Extern.BytealgCount.count:=by
 have k1:Extern.allNextRows.lookup "internal/bytealg.CountString" = none:=by kernel_rfl
 have k2:Extern.allNextRows.lookup "" = none:=by kernel_rfl
 have k3:Extern.allGenericRows.lookup "internal/bytealg.CountString" = none:=by kernel_rfl
 have k4:Extern.allTypedRows.lookup "internal/bytealg.CountString" = none:=by kernel_rfl
 have k5:Extern.allRows.lookup "internal/bytealg.CountString" = U Extern.BytealgCount.count:=by kernel_rfl
 exact⟨by simp[Extern.findNext,h,ho,k1,k2],by simp[Extern.find,h,k3,k4,k5]⟩
def adR(h:fn.name = "internal/bytealg.IndexByteString")(ho:fn.origin = ""):Extern.findNext fn=ae/\Extern.find fn=U Extern.BytealgIndexByte.indexByte:=by
 have k1:Extern.allNextRows.lookup "internal/bytealg.IndexByteString" = none:=by kernel_rfl
 have k2:Extern.allNextRows.lookup "" = none:=by kernel_rfl
 have k3:Extern.allGenericRows.lookup "internal/bytealg.IndexByteString" = none:=by kernel_rfl
 have k4:Extern.allTypedRows.lookup "internal/bytealg.IndexByteString" = none:=by kernel_rfl
 have k5:Extern.allRows.lookup "internal/bytealg.IndexByteString" = U Extern.BytealgIndexByte.indexByte:=by kernel_rfl
 exact⟨by simp[Extern.findNext,h,ho,k1,k2],by simp[Extern.find,h,k3,k4,k5]⟩
def WY{O:Type}{l:Array O}{x y:O}(h:l.toList=[x,y]):l=#[x,y]:=by cases l;simpa using h
def adl(hl:L_ P o=U ao)(hs:bB E st a)(h:ao.a7 P st K):o.wp P a E.w (dz E a o.dst K) Q:=by
 unfold L_ at hl;split at hl
 case h_2=>simp at hl
 rename_i c ho;obtain⟨callee,args,argTypes⟩:=c;simp only at hl;split at hl
 case h_2=>simp at hl
 rename_i f;split at hl
 case h_2=>simp at hl
 rename_i fn xs hf pD;split at hl
 case isFalse=>simp at hl
 rename_i hc;have fy:=Mg (E:=E) hs.slot pD;split at hl
 .rename_i hn;simp only[aY] at hl;subst hl;simp only[aG.a7] at h;unfold OQ.a7 at h;split at h<;>try (exfalso;simp_all;done)
  .rename_i s n e1 e2;rw[e2] at fy;obtain⟨q1,q2⟩:=adQ hn hc.2;cases hq:args.toList.map a.eval with
   | nil=>rw[hq] at fy;simp[RL] at fy
   | cons v1 vs =>
    rw[hq] at fy;cases vs with
    | nil=>simp[RL] at fy
    | cons v2 Il =>
     cases Il with
     | cons _ _=>simp[RL] at fy
     | nil =>
      simp only[RL,R,gw] at fy;obtain⟨rfl,rfl⟩:=fy;have ha:args.map a.eval=#[.string ⟨s.toArray⟩,.int .u8 n]:=WY (by simpa using hq);refine cP hs (v:=.int .i64 (s.count n.toNat.toUInt8:Nat)) (x:=.int .i64 (s.count n.toNat.toUInt8:Nat)) ?_ (by simp only[R]) h;have cS:=run_callFunc_extern (P:=P) hf (by rw[hn];decide) hc.1 q1 q2 #[.string ⟨s.toArray⟩,.int .u8 n] E.w;rw[Lib.run_countString] at cS;simp[execOp,ho,resolve,Act.eval,Deferred.ofValue,invoke,ha,cS,Lib.countByte,Result.andThen]
 .split at hl
  case isFalse=>simp at hl
  rename_i hn;simp only[aY] at hl;subst hl;simp only[aG.a7] at h;unfold OQ.a7 at h;split at h<;>try (exfalso;simp_all;done)
  .rename_i s n e1 e2;rw[e2] at fy;obtain⟨q1,q2⟩:=adR hn hc.2;cases hq:args.toList.map a.eval with
   | nil=>rw[hq] at fy;simp[RL] at fy
   | cons v1 vs =>
    rw[hq] at fy;cases vs with
    | nil=>simp[RL] at fy
    | cons v2 Il =>
     cases Il with
     | cons _ _=>simp[RL] at fy
     | nil =>
      simp only[RL,R,gw] at fy;obtain⟨rfl,rfl⟩:=fy;have ha:args.map a.eval=#[.string ⟨s.toArray⟩,.int .u8 n]:=WY (by simpa using hq);refine cP hs (v:=.int .i64 (zh s n.toNat.toUInt8)) (x:=.int .i64 (zh s n.toNat.toUInt8)) ?_ (by simp only[R]) h;have cS:=run_callFunc_extern (P:=P) hf (by rw[hn];decide) hc.1 q1 q2 #[.string ⟨s.toArray⟩,.int .u8 n] E.w;rw[Lib.run_indexByteString] at cS;simp[execOp,ho,resolve,Act.eval,Deferred.ofValue,invoke,ha,cS,adN,Result.andThen]
def D2(P:Program)(h:List Nat)(o:Oper):aG :=
 match (match o.dst with | some d=>if h.contains (d+100000)=aa then Me P o else ae | none=>ae) with
 | some x=>x
 | none => match (match L_ P o with | some x => U x | none => Mc P h o) with
  | some x=>x
  | none => match Mb P o with
   | some x=>x
   | none=>.own .aE []
def akY{h:List Nat}(hs:bB E st a)(hk:(D2 P h o).a7 P st K):o.wp P a E.w (dz E a o.dst K) Q:=by
 unfold D2 at hk;split at hk
 .rename_i x hx;split at hx
  .split at hx
   .exact ano hx hs hk
   .simp at hx
  .simp at hx
 .split at hk
  .rename_i x hx;split at hx
   .rename_i y hy;simp only[aY] at hx;subst hx;exact adl hy hs hk
   .exact akZ hx hs hk
  .split at hk
   .rename_i x hx;exact alw hx hs hk
   .simp only[aG.a7,cW] at hk;unfold OQ.a7 at hk;simp at hk
def TS(P:Program)(h:List Nat)(ops:Array Oper)(o:Oper):Option AO :=
 match o.guard with
 | none=>U ⟨o.dst,D2 P h o,ae⟩
 | some (j, want) =>
  match (ops[j]?).bind (·.dst) with
  | some g=>U ⟨o.dst,D2 P h o,U (g,want)⟩
  | none=>ae
def zY(P:Program)(h:List Nat)(ops:Array Oper):List Oper->Option (List AO)
 | []=>U []
 | o::os=>(TS P h ops o).bind λx=>(zY P h ops os).map (x::·)
end
variable{s:ByteArray}{t:TypeId}{w:World}
def apA(h:P.underlying t=U .string):(Instr.range t (.string s)).run P w = .ok (.pointer (U ⟨w.heap.size,0,ae⟩)) (w.alloc (.stringIter s 0)):=by
 simp[Instr.range,run_underlying h]
def jm(w:World)(b:Nat)(o:Obj):World:={w with heap:=w.heap.setIfInBounds b o}
variable{p:Nat}
def VU(h:w.heap[b]?=U (.stringIter s p)):(getObj b).run P w = .ok (.stringIter s p) w:=by
 simp only[getObj,Sem.run,h]
variable{o:Obj}
def apB(h:w.heap[b]?=U (.stringIter s p)):(setObj b o).run P w = .ok () (jm w b o):=by
 simp only[setObj,Sem.run,h];rfl
def run_next_end(h:w.heap[b]?=U (.stringIter s p))(hp:¬p<s.size):(Instr.next (.pointer (U ⟨b,0,ae⟩)) aa t).run P w = .ok (.tuple #[.bool ak]) w:=by
 unfold Instr.next;simp only[Sem.run_bind,VU h,Result.andThen,hp,ck];rfl
def apz(h:w.heap[b]?=U (.stringIter s p))(hp:p<s.size)(hc:(s.get! p).toNat<128):(Instr.next (.pointer (U ⟨b,0,ae⟩)) aa t).run P w = .ok (.tuple #[.bool aa,.int .i64 p,.int .i32 (s.get! p).toNat]) (jm w b (.stringIter s (p+1))):=by
 have hd:Utf8.decode s p=((s.get! p).toNat,1):=by simp[Utf8.decode,hc]
 unfold Instr.next;simp only[Sem.run_bind,VU h,Result.andThen,hp,cC,hd,apB h];rfl
def yt{b':Nat}(h:b' ≠ b):(jm w b o).heap[b']?=w.heap[b']?:=by
 simp only[jm];rw[XC];simp[fm h]
def Wm{o':Obj}(h:w.heap[b]?=U o'):(jm w b o).heap[b]?=U o:=by
 obtain⟨h1,_⟩:=ky.1 h;simp only[jm];rw[XC];simp[h1]
def Wn:(jm w b o).heap.size=w.heap.size:=by simp[jm]
def Wl{b':Nat}(h:b' ≠ b):(jm w b o).cell? ⟨b',i,ae⟩=w.cell? ⟨b',i,ae⟩:=by
 simp only[World.cell?,yt h]
def Env.jm(E:Env)(b:Nat)(o:Obj):Env:={E with w:=Go.Am.jm E.w b o}
def Env.apY(hr:E.aZ b = .lU):E.le (E.jm b o):=by
 refine⟨λb' i c hc hv=>⟨hc,?_⟩,λ_ _ h=>h,λt n h=>⟨n,h,bL _,λ_ b' c b8 => ⟨b8,λcs e bP=>⟨cs,?_,rfl⟩⟩⟩⟩
 .have aQ:b' ≠ b:=λe=>by rw[e,hr] at hc;exact hc
  exact(Wl aQ).trans hv
 .have aQ:b' ≠ b:=λe=>by rw[e,hr] at b8;simp at b8
  exact(yt aQ).trans bP
def bB.jm(hr:E.aZ b = .lU)(hs:bB E st a):bB (E.jm b o) st a:=by
 have hle:=Env.apY (o:=o) hr;refine⟨⟨λb' cs h=>?_,hs.ok.aJ,λb' h=>hs.ok.fresh b' (by rw[<-Wn (b:=b) (o:=o)];exact h),hs.ok.nt,λb cs hc=>dQ.mono _ hle.nl (hs.ok.bO b cs hc)⟩,⟨λi cs h=>?_,hs.cU.none⟩,hs.defers,RL.mono _ hle hs.slot⟩
 .obtain⟨h1,h2⟩:=hs.ok.box b' cs h;have aQ:b' ≠ b:=λe=>by rw[e,hr] at h1;simp at h1
  exact⟨h1,ja.mono hle.nl (yt aQ) h2⟩
 .obtain⟨b',h1,h2,h3⟩:=hs.cU.box i cs h;have aQ:b' ≠ b:=λe=>by rw[e,hr] at h2;simp at h2
  exact⟨b',h1,h2,ja.mono hle (yt aQ) h3⟩
def Fr.jm{E0:Env}{q:Nat}(hf:Fr E0 E)(hr:E.aZ b = .lU)(hn:E0.w.heap.size<=b)(hb:E.w.heap[b]?=U (.stringIter s p)):Fr E0 (E.jm b (.stringIter s q)):=by
 refine⟨hf.os,hf.output,hf.tape,by rw[show(E.jm b (.stringIter s q)).w.heap.size=E.w.heap.size from Wn];exact hf.size,λa=>?_,λb' i c hc hv=>?_,λt n h=>?_,λb' az h=>?_,hf.CH,hf.CJ,hf.A5,λb' c e h=>by
  obtain⟨c',h1,h2⟩:=hf.shape b' c e h;have aQ:b' ≠ b:=λe=>by rw[e,hb] at h1;simp at h1
  exact⟨c',(yt aQ).trans h1,h2⟩⟩
 .rw[<-hf.gl a]
  by_cases e:a.block=b
  .have e1:(E.jm b (.stringIter s q)).w.heap[a.block]?=U (.stringIter s q):=by rw[e];exact Wm hb
   rw[<-e] at hb;simp only[World.frozen?,e1,hb]
  .simp only[World.frozen?,show(E.jm b (.stringIter s q)).w.heap[a.block]?=E.w.heap[a.block]? from yt e]
 .obtain⟨h1,h2⟩:=hf.cell b' i c hc hv;have aQ:b' ≠ b:=λe=>by rw[e,hr] at h1;exact h1
  exact⟨h1,(Wl aQ).trans h2⟩
 .obtain⟨n',h1,h2,h3⟩:=hf.tok t n h;refine⟨n',h1,h2,λe b' c b8 => ?_⟩;obtain⟨h4,h5⟩:=h3 e b' c b8;refine⟨h4,λcs e' bP=>?_⟩;obtain⟨cs',h6,h7⟩:=h5 cs e' bP;have aQ:b' ≠ b:=λe=>by rw[e,hr] at h4;simp at h4
  exact⟨cs',(yt aQ).trans h6,h7⟩
 .obtain⟨h1,h2⟩:=hf.same b' az h;have aQ:b' ≠ b:=by omega
  exact⟨(yt aQ).trans h1,h2⟩
def Env.l7(E:Env)(o:Obj):Env:={w:=E.w.alloc o,aZ:=λb=>if b=E.w.heap.size then .lU else E.aZ b,aC:=E.aC,aJ:=E.aJ}
def alJ(hs:bB E st a):Fr E (E.l7 (.stringIter s p))/\bB (E.l7 (.stringIter s p)) st a/\(E.l7 (.stringIter s p)).aZ E.w.heap.size = .lU/\(E.l7 (.stringIter s p)).w.heap[E.w.heap.size]?=U (.stringIter s p):=by
 have hold:∀b,b<E.w.heap.size->(E.l7 (.stringIter s p)).w.heap[b]?=E.w.heap[b]?:=λb hb=>heap_alloc_old E.w (.stringIter s p) hb
 have dp:∀b,b<E.w.heap.size->(E.l7 (.stringIter s p)).aZ b=E.aZ b:=λb hb=>by simp only[Env.l7];rw[aB (by omega)]
 have gn:(E.l7 (.stringIter s p)).w.heap[E.w.heap.size]?=U (.stringIter s p):=heap_alloc_new E.w _;have uE:∀b i c,E.w.cell? ⟨b,i,ae⟩=U c->b<E.w.heap.size:=λb i c h=>by
  simp only[World.cell?] at h;split at h
  .rename_i h1;exact(ky.1 h1).1
  .simp at h
 have Kx:∀b i,b<E.w.heap.size->(E.l7 (.stringIter s p)).w.cell? ⟨b,i,ae⟩=E.w.cell? ⟨b,i,ae⟩:=λb i hb=>by simp only[World.cell?,hold b hb]
 have ba:Fr E (E.l7 (.stringIter s p)):=by
  refine⟨rfl,rfl,rfl,by simp[Env.l7],λa=>?_,λb i c hc hv=>?_,λt n h=>⟨n,h,bL _,λ_ b c hb=>?_⟩,λb hb _=>⟨hold b hb,dp b hb⟩,λb hb h=>?_,λb t c hb h=>?_,λb i hb h=>?_,λb c e h=>⟨c,(hold b (ko h)).trans h,rfl⟩⟩
  .by_cases h:a.block<E.w.heap.size
   .simp only[World.frozen?,hold _ h]
   .by_cases h2:a.block=E.w.heap.size
    .have e2:E.w.heap[a.block]?=none:=by simp;omega
     rw[<-h2] at gn;simp only[World.frozen?,gn,e2]
    .have e2:E.w.heap[a.block]?=none:=by simp;omega
     have e1:(E.l7 (.stringIter s p)).w.heap[a.block]?=none:=by simp[Env.l7];omega
     simp only[World.frozen?,e1,e2]
  .have hb:=uE b i c hv;exact⟨by rw[dp b hb];exact hc,(Kx b i hb).trans hv⟩
  .by_cases az:b<E.w.heap.size
   .exact⟨(dp b az).trans hb,λcs e bP=>⟨cs,(hold b az).trans bP,rfl⟩⟩
   .have:=hs.ok.fresh b (by omega)
    rw[this] at hb;simp at hb
  .rw[dp b hb] at h;exact .inl h
  .rw[dp b hb] at h;exact⟨c,h⟩
  .rw[dp b hb] at h;exact⟨i,h⟩
 have hle:E.le (E.l7 (.stringIter s p)):=ba.le λi b h=>h
 refine⟨ba,⟨⟨λb cs h=>?_,hs.ok.aJ,λb hb=>?_,hs.ok.nt,λb cs hc=>dQ.mono _ ba.nl (hs.ok.bO b cs hc)⟩,⟨λi cs h=>?_,hs.cU.none⟩,hs.defers,RL.mono _ hle hs.slot⟩,by simp[Env.l7],gn⟩
 .obtain⟨h1,h2⟩:=hs.ok.box b cs h;have az:b<E.w.heap.size:=by obtain⟨c,e,h3,_⟩:=h2;exact ko (w:=E.w) h3
  exact⟨by rw[dp b az];exact h1,ja.mono hle.nl (hold b az) h2⟩
 .have b8 : E.w.heap.size+1<=b:=by simpa [Env.l7] using hb
  simp only[Env.l7];rw[aB (by omega)];exact hs.ok.fresh b (by omega)
 .obtain⟨b,h1,h2,h3⟩:=hs.cU.box i cs h;have az:b<E.w.heap.size:=by obtain⟨c,e,h4,_⟩:=h3;exact ko (w:=E.w) h4
  exact⟨b,h1,by rw[dp b az];exact h2,ja.mono hle (hold b az) h3⟩
def mK(o:Oper):Option (Nat × TypeId):=match o.op,o.dst,o.guard with | .alloc t,U d,ae=>U (d,t) | _,_,_=>ae
def mL(o:Oper):Option (Nat × TypeId × Operand):=match o.op,o.dst,o.guard with | .store t (.tmp d) x,ae,ae=>U (d,t,x) | _,_,_=>ae
def N6{o:Oper}(h:mK o=U (d,t)):o.op = .alloc t/\o.dst=U d/\o.guard=none:=by
 unfold mK at h;split at h
 .rename_i h1 h2 h3;simp only[aY,nC] at h;obtain⟨rfl,rfl⟩:=h;exact⟨h1,h2,h3⟩
 .simp at h
variable{x:Operand}
def W3{o:Oper}(h:mL o=U (d,t,x)):o.op = .store t (.tmp d) x/\o.dst=ae/\o.guard=none:=by
 unfold mL at h;split at h
 .rename_i h1 h2 h3;simp only[aY,nC] at h;obtain⟨rfl,rfl,rfl⟩:=h;exact⟨h1,h2,h3⟩
 .simp at h
def isVar(ops:Array Oper)(d:Nat)(t:TypeId):Bool:=ops.toList.any λo=>match mK o with | some (d',t')=>d' == d&&t' == t | none=>ak
def D0(P:Program)(ops:Array Oper)(o:Oper):Option AO :=
 match mK o with
 | some (_,t)=>match jB P t,dO P t with | some z,U n=>if z.length=n then U ⟨ae,.mv (.c .any),ae⟩ else ae | _,_=>ae
 | none =>
  match mL o with
  | some (d,t,x)=>if isVar ops d t=aa then(match dO P t,cu P t x with | some n,U y=>U ⟨U d,.ug n y,ae⟩ | _,_=>ae) else tg P ops o
  | none=>tg P ops o
def BR(P:Program)(ops:Array Oper):List Oper->Option (List AO)
 | []=>U []
 | o::os=>(D0 P ops o).bind λx=>(BR P ops os).map (x::·)
def Ji(ops:Array Oper)(b:List Nat):Bool :=
 ops.toList.zipIdx.all λ(o,i)=>match mK o with
  | some (d,t)=>(ops.toList.zipIdx.any λ(o',j)=>match mL o' with | some (d',t',_)=>d' == d&&t' == t&&(b.getD j 0).testBit i | none=>ak) &&
   (ops.toList.zipIdx.all λ(o',j)=>i == j||match mK o' with | some (d',_)=>!(d' == d) | none=>aa)
  | none=>aa
def Hu(ops:Array Oper):List Nat:=ops.toList.filterMap λo=>(mK o).map (·.1)
def Ho(P:Program)(ops:Array Oper):Option (List Nat × List (AO × List Nat)) :=
 match BR P ops ops.toList with
 | none=>ae
 | some l0 =>
  let b:=wy ops.toList []
  let d:=lg eY (l0.map λo=>(o,[])) b
  let l:=(l0.zip d).zipIdx.map λ((o,x),i)=>(o,if o.op.BO then((cc (xK d i+1 - n5 d x)).map (n5 d x+·)).filter (· != Ae d i) else [])
  if xo ops l b=aa/\P.follows .mixedOrders=aa/\Ji ops b=aa then U (Hu ops,l) else ae
def TT{P:Program}{ops:Array Oper}:∀{os:List Oper} {l:List AO},BR P ops os=U l->l.length=os.length/\∀i:Nat,∀o,os[i]?=U o->∃x,l[i]?=U x/\D0 P ops o=U x
 | [],l,h=>by simp only[BR,aY] at h;subst h;exact⟨rfl,λi o h=>by simp at h⟩
 | o :: os, l, h => by
  simp only[BR,gV,cZ] at h;obtain⟨x,h1,l',h2,rfl⟩:=h;obtain⟨h3,h4⟩:=TT h2;refine⟨by simp[h3],λi q hq=>?_⟩;cases i with
  | zero=>simp at hq;subst hq;exact⟨x,by simp,h1⟩
  | succ i=>simp at hq;obtain⟨y,k1,k2⟩:=h4 i q hq;exact⟨y,by simpa using k1,k2⟩
structure OF(ops:Array Oper)(b:List Nat):Prop where
 st:∀(i:Nat) o d t,ops[i]?=U o->mK o=U (d,t)->∃(j:Nat) (o' : Oper) (x:Operand),ops[j]?=U o' /\ mL o' = U (d,t,x)/\(b.getD j 0).testBit i=aa
 uniq:∀(i j:Nat) o o' d t t',ops[i]?=U o->ops[j]?=U o' -> mK o=U (d,t)->mK o' = U (d,t')->i=j
variable{ops:Array Oper}
def adn{b:List Nat}(h:Ji ops b=aa):OF ops b:=by
 unfold Ji at h;rw[lf] at h;have mem:∀(i:Nat) o,ops[i]?=U o->(o,i)∈ops.toList.zipIdx:=λi o ho=>by
  rw[IN];simpa using ho
 refine⟨λi o d t ho hv=>?_,λi j o o' d t t' ho fx hv gp => ?_⟩
 .have:=h _ (mem i o ho)
  simp only[hv,bA,Cp] at this;obtain⟨⟨q,hq,h1⟩,_⟩:=this;obtain⟨o',j⟩:=q;simp only at h1;split at h1
  .rename_i d' t' x gp;simp only[bA,A6] at h1;obtain⟨⟨rfl,rfl⟩,h2⟩:=h1;rw[IN] at hq;exact⟨j,o',x,by simpa using hq,gp,h2⟩
  .simp at h1
 .have:=h _ (mem i o ho)
  simp only[hv,bA,lf] at this;have h2:=this.2 _ (mem j o' fx);simp only[gp,mg,A6,tP] at h2
  rcases h2 with h2 | h2
  .exact h2
  .simp at h2
variable{l:List (AO × List Nat)}{nv:List Nat}
def akU(h:Ho P ops=U (nv,l)):
 ∃b,yK ops l b/\b.length=ops.size/\P.follows .mixedOrders=aa/\OF ops b/\nv=Hu ops/\∀(i:Nat) o,ops[i]?=U o->∃x:AO × List Nat,l[i]?=U x/\D0 P ops o=U x.1:=by
 unfold Ho at h;cases h0:BR P ops ops.toList with
 | none=>rw[h0] at h;simp at h
 | some l0 =>
 rw[h0] at h;simp only at h;split at h
 case isFalse=>simp at h
 rename_i hc;simp only[aY,nC] at h;obtain⟨rfl,rfl⟩:=h;refine⟨_,facts hc.1,?_,hc.2.1,adn hc.2.2,rfl,λi o ho=>?_⟩
 .have:=hc.1
  unfold xo at this;simp only[bA,b7] at this;exact this.1.1.2
 .have hlen:=(facts hc.1).size;obtain⟨h1,h2⟩:=TT h0;obtain⟨x,k1,k2⟩:=h2 i o (by simpa using ho);have az:=(ky.1 ho).1;generalize hL:(l0.zip (lg eY (l0.map λo=>(o,[])) (wy ops.toList [])))=z at hlen ⊢;have hz:i<z.length:=by simp at hlen;omega
  refine⟨_,by rw[vu,OV,cH hz];rfl,?_⟩
  have:z[i].1=x:=by
   have e:z[i]?=U z[i]:=cH hz;subst hL;rw[IL] at e;rw[k1] at e;exact(tY e.1).symm
  simpa [this] using k2
def Env.rf(E:Env)(c:Array Value)(t:TypeId):Env:={w:=E.w.alloc (.cells c t),aZ:=λb=>if b=E.w.heap.size then .lU else E.aZ b,aC:=E.aC,aJ:=E.aJ}
variable{c:Array Value}
def alI(hs:bB E st a):Fr E (E.rf c t)/\bB (E.rf c t) st a:=by
 have hx:=(Ext.refl E.w).alloc c t;have hold:∀b,b<E.w.heap.size->(E.rf c t).w.heap[b]?=E.w.heap[b]?:=λb hb=>hx.block b hb
 have dp:∀b,b<E.w.heap.size->(E.rf c t).aZ b=E.aZ b:=λb hb=>by simp only[Env.rf];rw[aB (by omega)]
 have ba:Fr E (E.rf c t):=xx hs.ok.fresh hx dp λ_ _ h=>h
 have hle:E.le (E.rf c t):=ba.le λ_ _ h=>h
 refine⟨ba,BT hs.ok ba.nl (λb h hb=>⟨by rw[dp b hb];exact h,hold b hb⟩) (λ_ _ h=>h) (λb hb=>?_) hs.ok.nt,
  pI hs.cU hle (λb i h hb=>⟨by rw[dp b hb];exact h,hold b hb⟩) hs.cU.none,hs.defers,RL.mono _ hle hs.slot⟩
 have b8 : E.w.heap.size+1<=b:=by simpa [Env.rf] using hb
 simp only[Env.rf];rw[aB (by omega)];exact hs.ok.fresh b (by omega)
def ap1{t:List V}(h:t.getD d .any = .any):t.set d .any=t:=by
 by_cases hd:d<t.length
 .have:t[d] = .any:=by simpa [gU,hd] using h
  rw[<-this];simp
 .exact List.set_eq_of_length_le (by omega)
def Env.bare(E:Env)(b k:Nat)(new:Array Value):Env :=
 {w:=E.w.setRow b new,aZ:=λx=>if x=b then .iB k else E.aZ x,aC:=λi=>if i=k then U b else E.aC i,aJ:=E.aJ}
variable{e:TypeId}
def Zo{E0:Env}(hs:bB E st a)(hf:Fr E0 E)(hr:E.aZ b = .lU)(hn:E0.w.heap.size<=b)(hb:E.w.heap[b]?=U (.cells c e (0,0))){cs:List V}{vs:List Value}(hv:RL E cs vs)
 {d:Nat} (hd:a.tmps[d]?=U (.pointer (U ⟨b,0,ae⟩))) :
 Fr E0 (E.bare b st.aC.length vs.toArray)/\bB (E.bare b st.aC.length vs.toArray) ⟨st.t.set d (.ptr (.aC st.aC.length) 0),st.aC++[cs],st.out⟩ a:=by
 generalize hE:E.bare b st.aC.length vs.toArray=E';have iy:∀b',b' ≠ b->E'.w.heap[b']?=E.w.heap[b']?:=λb' aQ=>by rw[<-hE];exact setRow_other E.w b b' _ aQ
 have lD:E'.w.heap[b]?=U (.cells vs.toArray e (0,0)):=by rw[<-hE];exact setRow_heap E.w b c _ e _ hb
 have kf:∀b',b' ≠ b->E'.aZ b' = E.aZ b' := λb' aQ=>by rw[<-hE];simp only[Env.bare];rw[aB aQ]
 have py:E'.aZ b = .iB st.aC.length:=by rw[<-hE];simp[Env.bare]
 have cD:E'.w.heap.size=E.w.heap.size:=by rw[<-hE];simp[Env.bare]
 have dB:∀i,i≠st.aC.length->E'.aC i=E.aC i:=λi hi=>by rw[<-hE];simp only[Env.bare];rw[aB hi]
 have So:E'.aC st.aC.length=U b:=by rw[<-hE];simp[Env.bare]
 have xQ:E.aC st.aC.length=none:=hs.cU.none _ (bL _);have rX:E'.aJ=E.aJ:=by rw[<-hE];rfl
 have uE:∀b' o',b' ≠ b->E'.w.cell? ⟨b',o',ae⟩=E.w.cell? ⟨b',o',ae⟩:=λb' o' aQ=>by simp only[World.cell?,iy b' aQ]
 have KJ:∀x,E'.w.frozen? x=E.w.frozen? x:=λx=>by rw[<-hE];exact C3 hb x
 have hle:E.le E' := by
  refine⟨λb' o' c' hc hv=>?_,λi b' h=>?_,λt n h=>⟨n,by rw[rX];exact h,bL _,λ_ b' c' b8 => ?_⟩⟩
  .have aQ:b' ≠ b:=λe=>by rw[e,hr] at hc;exact hc
   exact⟨by rw[kf b' aQ];exact hc,(uE b' o' aQ).trans hv⟩
  .rw[dB i (λe=>by rw[e,xQ] at h;simp at h)];exact h
  .have aQ:b' ≠ b:=λe=>by rw[e,hr] at b8;simp at b8
   exact⟨by rw[kf b' aQ];exact b8,λcs' e' bP=>⟨cs',(iy b' aQ).trans bP,rfl⟩⟩
 refine⟨⟨?_,?_,?_,by rw[cD];exact hf.size,λx=>(KJ x).trans (hf.gl x),λb' o' c' hc hv=>?_,λt n h=>?_,λb' az h=>?_,λb' az h=>?_,λb' t c' az h=>?_,λb' i az h=>?_,λb' c' e' h=>by
  have az:=ko (w:=E0.w) h;have aQ:b' ≠ b:=by omega
  obtain⟨c1,h1,h2⟩:=hf.shape b' c' e' h;exact⟨c1,(iy b' aQ).trans h1,h2⟩⟩,⟨⟨λb' ds h=>?_,λt n h=>by rw[rX];exact hs.ok.aJ t n h,λb' h=>?_,by rw[rX];exact hs.ok.nt,λb cs hc=>dQ.mono _ hle.nl (hs.ok.bO b cs hc)⟩,⟨λi ds h=>?_,λi hi=>?_⟩,hs.defers,?_⟩⟩
 .rw[<-hf.os,<-hE];rfl
 .rw[<-hf.output,<-hE];rfl
 .rw[<-hf.tape,<-hE];rfl
 .obtain⟨h1,h2⟩:=hf.cell b' o' c' hc hv;have aQ:b' ≠ b:=λe=>by rw[e,hr] at h1;exact h1
  exact⟨by rw[kf b' aQ];exact h1,(uE b' o' aQ).trans h2⟩
 .obtain⟨n',h1,h2,h3⟩:=hf.tok t n h;refine⟨n',by rw[rX];exact h1,h2,λe b' c' b8 => ?_⟩;obtain⟨h4,h5⟩:=h3 e b' c' b8;have aQ:b' ≠ b:=λe=>by rw[e,hr] at h4;simp at h4
  refine⟨by rw[kf b' aQ];exact h4,λcs' e' bP=>?_⟩;obtain⟨Ju,h6,h7⟩:=h5 cs' e' bP;exact⟨Ju,(iy b' aQ).trans h6,h7⟩
 .obtain⟨h1,h2⟩:=hf.same b' az h;have aQ:b' ≠ b:=by omega
  exact⟨(iy b' aQ).trans h1,(kf b' aQ).trans h2⟩
 .have aQ:b' ≠ b:=by omega
  rw[kf b' aQ] at h;exact hf.CH b' az h
 .have aQ:b' ≠ b:=by omega
  rw[kf b' aQ] at h;exact hf.CJ b' t c' az h
 .have aQ:b' ≠ b:=by omega
  rw[kf b' aQ] at h;exact hf.A5 b' i az h
 .obtain⟨h1,h2⟩:=hs.ok.box b' ds h;have aQ:b' ≠ b:=λe=>by rw[e,hr] at h1;simp at h1
  exact⟨by rw[kf b' aQ];exact h1,ja.mono hle.nl (iy b' aQ) h2⟩
 .rw[cD] at h;have az:b<E.w.heap.size:=ko hb;rw[kf b' (by omega)];exact hs.ok.fresh b' h
 .by_cases hi:i=st.aC.length
  .subst hi;simp only[List.getElem?_concat_length,aY] at h;subst h;refine⟨b,So,py,vs.toArray,e,lD,by have:=fC hv;simp;omega,λj x hj=>?_⟩;obtain⟨u,h1,h2⟩:=qA hv j x hj;exact⟨u,by simpa using h1,h2.mono _ hle⟩
  .have az:i<st.aC.length:=by
    have:=(eX.1 h).1
    simp at this;omega
   rw[sv az] at h;obtain⟨b',h1,h2,h3⟩:=hs.cU.box i ds h;have aQ:b' ≠ b:=λe=>by rw[e,hr] at h2;simp at h2
   exact⟨b',by rw[dB i hi];exact h1,by rw[kf b' aQ];exact h2,ja.mono hle (iy b' aQ) h3⟩
 .simp at hi;rw[dB i (by omega)];exact hs.cU.none i (by omega)
 .have h1:=RL.mono _ hle hs.slot;have hp:R E' (.ptr (.aC st.aC.length) 0) (.pointer (U ⟨b,0,ae⟩)):=by simp only[R];exact⟨b,So,rfl⟩
  have h2:=Ff h1 d hp
  have:a.tmps.toList.set d (.pointer (U ⟨b,0,ae⟩))=a.tmps.toList:=by
   have az:=(ky.1 hd).1
   have:a.tmps.toList[d]'(by simpa using az) = .pointer (U ⟨b,0,ae⟩):=by
    have:=(ky.1 hd).2;simpa using this
   rw[<-this];exact XN (by simpa using az)
  rw[this] at h2;exact h2
section
variable {P:Program} {ops:Array Oper} {l:List (AO × List Nat)} {b:List Nat}
def XU(P:Program)(ops:Array Oper)(N:Nat)(E0:Env)(listed:Array Bool)(E:Env)(a:Act):Prop :=
 a.tmps.size=N/\∃B:Nat->Nat,∀(i:Nat) o d t,ops[i]?=U o->mK o=U (d,t)->listed.getD i ak=aa->(∀(j:Nat) o' x,ops[j]?=U o' -> mL o' = U (d,t,x)->listed.getD j ak=ak) ->
  a.tmps[d]?=U (.pointer (U ⟨B i,0,ae⟩))/\E.aZ (B i) = .lU/\(∃c e,E.w.heap[B i]?=U (.cells c e (0,0))/\dO P t=U c.size)/\E0.w.heap.size<=B i /\
  ∀(i' : Nat) o' d' t',ops[i']?=U o' -> mK o' = U (d',t')->listed.getD i' ak=aa->(∀(j:Nat) o' x,ops[j]?=U o' -> mL o' = U (d',t',x)->listed.getD j ak=ak)->i≠i' -> B i≠B i'
variable{listed:Array Bool}
def ve{j:Nat}(h:i<listed.size):(listed.setIfInBounds i aa).getD j ak=(decide (j=i)||listed.getD j ak):=by
 by_cases fw:j=i
 .subst fw;simp[h]
 .rw[pU,AK (fm fw),<-pU];simp[fw]
def TQ{o:Oper}{x:AO}(h:D0 P ops o=U x):(∃d t z n,mK o=U (d,t)/\jB P t=U z/\dO P t=U n/\z.length=n/\x=⟨ae,.mv (.c .any),ae⟩) \/
 (∃d t y n q,mL o=U (d,t,y)/\isVar ops d t=aa/\dO P t=U n/\cu P t y=U q/\x=⟨U d,.ug n q,ae⟩)\/(tg P ops o=U x/\mK o=ae/\∀d t y,mL o=U (d,t,y)->isVar ops d t=ak):=by
 unfold D0 at h;split at h
 .rename_i d t hv;split at h
  .rename_i z n hz hn;split at h
   .rename_i hl;simp only[aY] at h;exact .inl ⟨d,t,z,n,hv,hz,hn,hl,h.symm⟩
   .simp at h
  .simp at h
 .rename_i hv;split at h
  .rename_i d t y hs;split at h
   .rename_i hi;split at h
    .rename_i n q hn hq;simp only[aY] at h;exact .inr (.inl ⟨d,t,y,n,q,hs,hi,hn,hq,h.symm⟩)
    .simp at h
   .rename_i hi;exact .inr (.inr ⟨h,hv,λd' t' y' e=>by rw[hs] at e;simp only[aY,nC] at e;obtain⟨rfl,rfl,_⟩:=e;simpa using hi⟩)
  .rename_i hs;exact .inr (.inr ⟨h,hv,λd t y e=>by rw[hs] at e;simp at e⟩)
variable{K:St->Prop}
def ab0{id:Nat}(hl:Ho P ops=U (nv,l))(Ss:∀d∈nv,d<st.t.length/\st.t.getD d .any = .any)(h:cf P l [(st.aC,st.out)] [] K st):
 iD P (.region id ops aa) (λe aH => e = .normal/\K aH) st:=by
 obtain⟨b,F,pw,hf,FA,rfl,uK⟩:=akU hl;intro E0 a0 GN;have atn:=F.size
 -- what a pair of a new variable and its store is like
 have Dy:∀(i:Nat) o d t,ops[i]?=U o->mK o=U (d,t)->isVar ops d t=true:=λi o d t ho hv=>by
  unfold isVar;rw[Cp];exact⟨o,by simpa using OA ho,by simp[hv]⟩
 have aiz:∀d t,isVar ops d t=aa->∃(i:Nat) (o:Oper),ops[i]?=U o/\mK o=U (d,t):=λd t h=>by
  unfold isVar at h;rw[Cp] at h;obtain⟨o,h1,h2⟩:=h;split at h2
  .rename_i d' t' hv;simp only[bA,A6] at h2;obtain⟨rfl,rfl⟩:=h2;obtain⟨i,hi⟩:=XL.1 h1;exact⟨i,o,by simpa using hi,hv⟩
  .simp at h2
 -- a store that is one of these has the variable's slot
 have GQ:∀(j:Nat) o d t x,ops[j]?=U o->mL o=U (d,t,x)->isVar ops d t=aa->∃y:AO × List Nat,l[j]?=U y/\y.1.dst=U d:=λj o d t x ho hv hi=>by
  obtain⟨y,h1,h2⟩:=uK j o ho
  rcases TQ h2 with ⟨d',t',z,n,k1,_⟩ | ⟨d',t',y',n,q,k1,_,_,_,k2⟩ | ⟨_,_,k3⟩
  .obtain⟨e1,_⟩:=N6 k1;obtain⟨e2,_⟩:=W3 hv;rw[e1] at e2;simp at e2
  .rw[hv] at k1;simp only[aY,nC] at k1;obtain⟨rfl,_⟩:=k1;exact⟨y,h1,by rw[k2]⟩
  .rw[k3 d t x hv] at hi;simp at hi
 refine Qw (X:=XU P ops a0.tmps.size E0) F pw hf h GN (λE' => ⟨rfl,λ_=>0,λi o d t _ _ gz => by
  exfalso
  by_cases hj:i<ops.size<;>simp[hj] at gz⟩) λi o ho=>?_
 obtain⟨x,hx,hxo⟩:=uK i o ho;have atg:i<ops.size:=(ky.1 ho).1;refine⟨x,hx,?_⟩
 rcases TQ hxo with ⟨d,t,z,n,hv,hz,hn,hzn,uP⟩ | ⟨d,t,y,n,q,hv,Lh,hn,hq,uP⟩ | ⟨sQ,SQ,BJ⟩
 ·-- a variable is made
  right;obtain⟨v1,v2,v3⟩:=N6 hv;obtain⟨iz,zv,z1,z2,z3,z4⟩:=sr hz;refine⟨v3,by rw[uP],λE a t' s v s' listed Q sS xV Ku R6 lD hs ba hX kg=>?_⟩;rw[uP] at kg ⊢;obtain⟨rfl,kg⟩:=kg;obtain rfl:s=s' := by have:=gX (λq:St=>(q.aC,q.out)) kg;simp only[bV,nC] at this;exact Prod.ext this.1 this.2
  simp only[j1];have Sd:d∈Hu ops:=by unfold Hu;rw[OY];exact⟨o,by simpa using OA ho,by simp[hv]⟩
  have ahV:t'.getD d .any = .any:=by
   rw[lD d λj y hy zL=>?_]
   .exact(Ss d Sd).2
   .obtain⟨j0,o0,x0,k1,k2,k3⟩:=FA.st i o d t ho hv;obtain⟨y0,k4,k5⟩:=GQ j0 o0 d t x0 k1 k2 (Dy i o d t ho hv)
    have:j=j0:=by
     rcases Nat.decEq j j0 with aQ | he
     .exact absurd zL (F.dst j j0 y y0 hy k4 aQ d k5)
     .exact he
    subst this;exact R6 j (by rw[pw];exact(ky.1 k1).1) k3
  obtain⟨xI,dh⟩:=alI (c:=zv.cells) (t:=t) hs;have cS:(execOp a.eval o).run P E.w = .ok (.value (.pointer (U ⟨E.w.heap.size,0,ae⟩))) (E.w.alloc (.cells zv.cells t)):=by
   simp[execOp,v1,Instr.alloc,zeroValue,typeInfo,z1,z2,newVar,newRow]
  unfold Oper.wp;rw[cS];simp only[Oper.upon,v2];refine⟨E.rf zv.cells t,rfl,?_,ba.trans xI,?_⟩
  .have:=bB.put dh (v:=.any) (x:=.pointer (U ⟨E.w.heap.size,0,ae⟩)) (by simp[R]) (U d)
   rw[Ee] at this;simp only[j1,ap1 ahV] at this;exact this
  .obtain⟨hN,B,hB⟩:=hX;have gn:(E.rf zv.cells t).w.heap[E.w.heap.size]?=U (.cells zv.cells t (0,0)):=heap_alloc_new E.w _;have iK:zv.cells.size=n:=by have:=fC (qH (E:=E) z3);rw[<-hzn];simp at this;omega
   refine⟨by simp[Act.put,hN],λk=>if k=i then E.w.heap.size else B k,λk o' d' rl fx gp gz dV=>?_⟩;have DF : ∀(j:Nat) o' x,ops[j]?=U o' -> mL o' = U (d',rl,x)->listed.getD j ak=false:=λj o2 x2 h1 h2=>by
    have:=dV j o2 x2 h1 h2
    rw[ve sS] at this;simp only[AN] at this;exact this.2
   rw[ve sS] at gz
   by_cases qT:k=i
   .subst qT;rw[ho] at fx;simp only[aY] at fx;subst fx;rw[hv] at gp;simp only[aY,nC] at gp;obtain⟨rfl,rfl⟩:=gp;simp only[cC];have Sc:d<a.tmps.size:=by
     have:=(Ss d Sd).1
     have h0:=fC GN.slot;simp at h0;omega
    refine⟨by simp[Act.put,Sc],by simp[Env.rf],⟨_,_,gn,by rw[iK];exact hn⟩,w7 ba.size (bL _),λi' o' d' t' fx gp Sn aiM aQ=>?_⟩;simp only[aB (fm aQ)];have Ld:∀(j:Nat) o' x,ops[j]?=U o' -> mL o' = U (d',t',x)->listed.getD j ak=false:=λj o2 x2 h1 h2=>by
     have:=aiM j o2 x2 h1 h2
     rw[ve sS] at this;simp only[AN] at this;exact this.2
    rw[ve sS] at Sn;have uJ:listed.getD i' ak=true:=by simpa [fm aQ] using Sn
    obtain⟨_,_,⟨c,e,hc,_⟩,_⟩:=hB i' o' d' t' fx gp uJ Ld
    have:=ko hc
    omega
   .simp only[aB qT];have kK:listed.getD k ak=true:=by simpa [qT] using gz
    obtain⟨g1,g2,⟨c,e,g3,g4⟩,g5,g6⟩:=hB k o' d' rl fx gp kK DF;have az:=ko g3;have zu:d' ≠ d:=λe=>by subst e;exact qT (FA.uniq k i o' o d' rl t fx ho gp hv)
    refine⟨by simp only[Act.put];rw[AK (fm zu)];exact g1,by simp only[Env.rf];rw[aB (by omega)];exact g2,⟨c,e,((Ext.refl E.w).alloc zv.cells t).block _ az |>.trans g3,g4⟩,g5,λi' o2 d2 t2 rR rY uJ rU aQ=>?_⟩;have Ld:∀(j:Nat) o' x,ops[j]?=U o' -> mL o' = U (d2,t2,x)->listed.getD j ak=false:=λj o3 x3 h1 h2=>by
     have:=rU j o3 x3 h1 h2
     rw[ve sS] at this;simp only[AN] at this;exact this.2
    by_cases c_ : i' = i
    .simp only[aD c_];omega
    .simp only[aB c_];rw[ve sS] at uJ;exact g6 i' o2 d2 t2 rR rY (by simpa [c_] using uJ) Ld aQ
 ·-- its first store
  right;obtain⟨v1,v2,v3⟩:=W3 hv;refine⟨v3,by rw[uP],λE a t' s v s' listed Q sS xV Ku R6 lD hs ba hX kg=>?_⟩;rw[uP] at kg ⊢;simp only[aG.a7] at kg;obtain⟨qX,fG,rfl,kg⟩:=kg;obtain rfl:(s.1++[(ev (bV t' s) q).cells],s.2)=s' := by have:=gX (λq:St=>(q.aC,q.out)) kg;simp only[bV,nC] at this;exact Prod.ext this.1 this.2
  simp only[j1];obtain⟨i0,o0,k1,k2⟩:=aiz d t Lh;obtain⟨j0,oj,xj,m1,m2,m3⟩:=FA.st i0 o0 d t k1 k2;have KM:j0=i:=by
   obtain⟨y0,k4,k5⟩:=GQ j0 oj d t xj m1 m2 Lh
   rcases Nat.decEq j0 i with aQ | he
   .have:=F.dst i j0 x y0 hx k4 (fm aQ) d k5
    rw[uP] at this;exact absurd rfl this
   .exact he
  subst KM;rw[ho] at m1;simp only[aY] at m1;subst m1;have SL:∀(j:Nat) o' x,ops[j]?=U o' -> mL o' = U (d,t,x)->j=j0:=λj o' x' h1 h2=>by
   obtain⟨y0,k4,k5⟩:=GQ j o' d t x' h1 h2 Lh
   rcases Nat.decEq j j0 with aQ | he
   .have:=F.dst j0 j x y0 hx k4 (fm aQ) d k5
    rw[uP] at this;exact absurd rfl this
   .exact he
  obtain⟨hN,B,hB⟩:=hX;obtain⟨g1,g2,⟨c,e,g3,g4⟩,g5,g6⟩:=hB i0 o0 d t k1 k2 (Ku i0 m3) λj o' x' h1 h2=>by rw[SL j o' x' h1 h2];exact xV
  have hR:=mz (E:=E) (st:=bV t' s) (a:=a) hs.slot hq;obtain⟨rJ,cD⟩:=xc hR qX;have bP:c.size=n:=by rw[hn] at g4;simpa using g4.symm
  have cS:=Nt (P:=P) (off:=0) hn g3 cD (by omega) (yj rJ fG);obtain⟨f1,f2⟩:=Zo hs ba g2 g5 g3 rJ g1;have gn:(c.toList.take 0++(a.eval y).cells.toList++c.toList.drop (0+n)).toArray=(a.eval y).cells.toList.toArray:=by
   rw[OL (by simp;omega)];simp
  rw[gn] at cS;have hde:a.eval (.tmp d) = .pointer (U ⟨B i0,0,ae⟩):=by simp[Act.eval,pU,g1]
  unfold Oper.wp;rw[show(execOp a.eval o).run P E.w = .ok .skip (E.w.setRow (B i0) (a.eval y).cells.toList.toArray) from by simp[execOp,v1,hde,HV cS]];simp only[Oper.upon,v2];refine⟨_,rfl,f2,f1,hN,B,λk o' d' rl fx gp gz dV=>?_⟩;have hkd:d' ≠ d:=λe=>by
   subst e;have e1:=FA.uniq k i0 o' o0 d' rl t fx k1 gp k2;subst e1;rw[k1] at fx;simp only[aY] at fx;subst fx;rw[k2] at gp;simp only[aY,nC] at gp;obtain⟨_,rfl⟩:=gp
   have:=dV j0 o y ho hv
   rw[ve sS] at this;simp at this
  have Dn:k≠i0:=by rintro rfl;rw[k1] at fx;simp only[aY] at fx;subst fx;rw[k2] at gp;simp only[aY,nC] at gp;exact hkd gp.1.symm
  have Sq:∀(k:Nat) o',ops[k]?=U o' -> (mK o').isSome=aa->k≠j0:=λk o' fx dh => by
   rintro rfl;rw[ho] at fx;simp only[aY] at fx;subst fx;cases hq:mK o with
   | none=>rw[hq] at dh;simp at dh
   | some p=>obtain⟨p1,p2⟩:=p;rw[(N6 hq).1] at v1;simp at v1
  have conv:∀{d t},(∀(j:Nat) o' x,ops[j]?=U o' -> mL o' = U (d,t,x)->(listed.setIfInBounds j0 aa).getD j ak=ak)->∀(j:Nat) o' x,ops[j]?=U o' -> mL o' = U (d,t,x)->listed.getD j ak=false:=λ{d t} h j o2 x2 h1 h2=>by
   have:=h j o2 x2 h1 h2
   rw[ve sS] at this;simp only[AN] at this;exact this.2
  have KR:=Sq k o' fx (by simp[gp]);rw[ve sS] at gz;have kK:listed.getD k ak=true:=by simpa [KR] using gz
  obtain⟨p1,p2,⟨c',e',p3,p4⟩,p5,p6⟩:=hB k o' d' rl fx gp kK (conv dV);have rP:B k≠B i0:=p6 i0 o0 d t k1 k2 (Ku i0 m3) (λj o' x' h1 h2=>by rw[SL j o' x' h1 h2];exact xV) Dn;refine⟨p1,by simp only[Env.bare];rw[aB rP];exact p2,⟨c',e',by simp only[Env.bare];rw[setRow_other E.w (B i0) (B k) _ rP];exact p3,p4⟩,p5,λi' o2 d2 t2 rR rY uJ rU aQ=>?_⟩;rw[ve sS] at uJ;exact p6 i' o2 d2 t2 rR rY (by simpa [Sq i' o2 rR (by simp[rY])] using uJ) (conv rU) aQ
 ·-- any other step
  left;refine⟨sQ,λlisted E E' a u hX jQ => ?_⟩;obtain⟨hN,B,hB⟩:=hX;have lu:x.1.dst=o.dst:=by
   unfold tg at sQ;split at sQ
   .simp at sQ
   .split at sQ
    .simp only[aY] at sQ;rw[<-sQ]
    .split at sQ
     .simp only[aY] at sQ;rw[<-sQ]
     .simp at sQ
  have cD:(a.put o.dst u).tmps.size=a.tmps.size:=by cases o.dst<;>simp[Act.put]
  refine⟨by rw[cD];exact hN,B,λk o' d' rl fx gp gz dV=>?_⟩;have qT:k≠i:=by rintro rfl;rw[ho] at fx;simp only[aY] at fx;subst fx;rw[SQ] at gp;simp at gp
  have KV : ∀k,k≠i->(listed.setIfInBounds i aa).getD k ak=listed.getD k false:=λk hk=>by
   rw[pU,AK (fm hk),<-pU]
  have conv:∀{d t},isVar ops d t=aa->(∀(j:Nat) o' x,ops[j]?=U o' -> mL o' = U (d,t,x)->(listed.setIfInBounds i aa).getD j ak=ak)->∀(j:Nat) o' x,ops[j]?=U o' -> mL o' = U (d,t,x)->listed.getD j ak=false:=λ{d t} xL h j o2 x2 h1 h2=>by
   have:=h j o2 x2 h1 h2
   rw[KV j (by rintro rfl;rw[ho] at h1;simp only[aY] at h1;subst h1;rw[BJ _ _ _ h2] at xL;simp at xL)] at this;exact this
  rw[KV k qT] at gz;obtain⟨g1,g2,⟨c,e,g3,g4⟩,g5,g6⟩:=hB k o' d' rl fx gp gz (conv (Dy k o' d' rl fx gp) dV);have az:=ko g3;obtain⟨h1,h2⟩:=jQ.same _ az (.inr g2);obtain⟨j0,oj,xj,m1,m2,m3⟩:=FA.st k o' d' rl fx gp;obtain⟨y0,k4,k5⟩:=GQ j0 oj d' rl xj m1 m2 (Dy k o' d' rl fx gp);have zu:o.dst≠U d' := λhd=>by
   have aQ:i≠j0:=by rintro rfl;rw[ho] at m1;simp only[aY] at m1;subst m1;have:=BJ _ _ _ m2;rw[Dy k o' d' rl fx gp] at this;simp at this
   exact F.dst i j0 x y0 hx k4 aQ d' k5 (by rw[lu];exact hd)
  refine⟨?_,h2.trans g2,⟨c,e,h1.trans g3,g4⟩,g5,λi' o2 d2 t2 rR rY uJ rU aQ=>?_⟩
  .cases hod:o.dst with
   | none=>exact g1
   | some m=>simp only[Act.put];rw[AK (by rintro rfl;exact zu hod)];exact g1
  .have c_ : i' ≠ i:=by rintro rfl;rw[ho] at rR;simp only[aY] at rR;subst rR;rw[SQ] at rY;simp at rY
   rw[KV i' c_] at uJ;exact g6 i' o2 d2 t2 rR rY uJ (conv (Dy i' o2 d2 t2 rR rY) rU) aQ
end
inductive AC where
 | skip
 | Eh (l:List AO)
 | o7 (x:AC)
 | draw (l:List (AO × List Nat))
 | FM (nv:List Nat) (l:List (AO × List Nat))
 | hole (l:List (AO × List Nat)) (h:HI)
 | seq (x y:AC)
 | cond (c:X) (x y:AC)
 | block (id:Nat) (x:AC)
 | loop (x:AC)
 | scope (x:AC)
 | BZ (l:List AO) (x:X) (dI dN dM out nxt:Nat) (y:AC)
 | exit (id:Nat)
 | ret
structure Hint where
 out:List Nat:=[]
 o7:List Nat:=[]
def AC.EA(b:Bool)(x:AC):AC:=if b then .o7 x else x
def Hq(P:Program)(h:Hint)(kp kq:Array Oper)(sG out tq nxt:Nat)(y:Option AC):Option AC :=
 match kp.toList.getLast?,kq.toList,y with
 | some oR, [oN, oM], U y =>
  match oR.op,oR.dst,oR.guard,oN.op,oN.dst,oN.guard,oM.op,oM.dst,oM.guard with
  | .range xt ox, U dI, ae, .next (.tmp Qr) aa, U dN, ae, .extract (.tmp Qs) 0, U dM, ae =>
   match P.underlying xt,zY P h.out kp kp.toList.dropLast,cu P xt ox with
   | some .string,U l,U x=>if Qr = dI/\Qs = dN/\sG = dM/\tq = out then U (.BZ l x dI dN dM out nxt y) else ae
   | _,_,_=>ae
  | _,_,_,_,_,_,_,_,_=>ae
 | _,_,_=>ae
def fJ(P:Program)(h:Hint):Code->Option AC
 | .skip=>U .skip
 | .region id ops ak=>(zY P h.out ops ops.toList).map λl=>AC.EA (h.o7.contains id) (.Eh l)
 | .region id ops aa =>
  match Hn P ops with
  | some l=>U (AC.EA (h.o7.contains id) (.draw l))
  | none =>
   match Hp P ops with
   | some p=>U (AC.EA (h.o7.contains id) (.hole p.1 p.2))
   | none=>(Ho P ops).map λp=>AC.EA (h.o7.contains id) (.FM p.1 p.2)
 | .seq (.region i0 kp ak) (.block out (.loop (.seq (.region i1 kq ak) (.seq (.cond (.tmp sG) .skip (.exit tq)) (.block nxt b))))) =>
  match Hq P h kp kq sG out tq nxt (fJ P h b) with
  | some r=>U r
  | none=>match fJ P h (.region i0 kp ak),fJ P h (.block out (.loop (.seq (.region i1 kq ak) (.seq (.cond (.tmp sG) .skip (.exit tq)) (.block nxt b))))) with | some x,U y=>U (.seq x y) | _,_=>ae
 | .seq a b=>match fJ P h a,fJ P h b with | some x,U y=>U (.seq x y) | _,_=>ae
 | .cond c a b=>match cu P 0 c,fJ P h a,fJ P h b with | some c,U x,U y=>U (.cond c x y) | _,_,_=>ae
 | .block id a=>(fJ P h a).map (.block id)
 | .loop a=>(fJ P h a).map .loop
 | .scope a=>(fJ P h a).map .scope
 | .exit id=>U (.exit id)
 | .ret=>U .ret
 | .label _=>U .skip
 | _=>ae
def bm(st:St)(K:St->Prop):Prop:=∀E a,bB E st a->∃E' aH,E'.w=E.w/\Fr E E' /\ bB E' aH a/\K aH
variable{K:St->Prop}
def bm.id(h:K st):bm st K:=λE _ hs=>⟨E,st,rfl,Fr.refl E,hs,h⟩
variable{K':St->Prop}
def bm.bind(h:bm st K)(k:∀aH,K aH -> bm aH K'):bm st K' := λE a hs =>
 let ⟨E',aH,h1,h2,h3,h4⟩:=h E a hs
 let ⟨mh,Et,k1,k2,k3,k4⟩:=k aH h4 E' a h3
 ⟨mh,Et,k1.trans h1,h2.trans k2,k3,k4⟩
def bm.mono(h:bm st K)(k:∀aH,K aH -> K' aH):bm st K' := h.bind λaH hk=>bm.id (k aH hk)
def sB:List Nat->List V->Option (List V)
 | [],t=>U t
 | d::ds,t=>if d<t.length then sB ds (t.set d .any) else ae
def Pp:∀{ds:List Nat} {t t' : List V},sB ds t=U t' -> t'.length=t.length/\(∀d∈ds,d<t'.length/\t'.getD d .any = .any)/\(∀d,t.getD d .any = .any->t'.getD d .any = .any)/\∀(E:Env) vs,RL E t vs->RL E t' vs
 | [],t,t',h=>by simp only[sB,aY] at h;subst h;exact⟨rfl,by simp,λ_ h=>h,λ_ _ h=>h⟩
 | d :: ds, t, t', h => by
  simp only[sB] at h;split at h
  case isFalse=>simp at h
  rename_i hd;obtain⟨h1,h2,h3,h4⟩:=Pp h;have hlen:t'.length=t.length:=by rw[h1];simp
  refine⟨hlen,λx hx=>?_,λx hx=>h3 x ?_,λE vs hr=>h4 E vs ?_⟩
  .rcases kA.1 hx with rfl | hx
   .exact⟨by omega,h3 x (by simp[gU,hd])⟩
   .exact h2 x hx
  .by_cases e:x=d
   .subst e;simp[gU,hd]
   .simpa [gU,Cs (fm e)] using hx
  .have hl:=fC hr;have hdv:d<vs.length:=by omega
   have:=Ff hr d (x:=.any) (v:=vs[d]) (by simp[R])
   simpa using this
def yM{ι:Type}(I:ι->St)(μ:ι->Nat)(Q:Exit->St->Prop)(n:Nat):Exit->St->Prop
 | .normal,st=>bm st λaH => ∃j,aH = I j/\μ j<n
 | e,st=>Q e st
def Ci(K:St->Prop)(Q:Exit->St->Prop):Exit->St->Prop
 | .normal,st=>K st
 | e,st=>Q e st
def xb(out:Nat)(J:St->Prop)(Q:Exit->St->Prop):Exit->St->Prop
 | .normal,st=>bm st J
 | .exit id,st=>if id=out then Q .normal st else Q (.exit id) st
 | e,st=>Q e st
def AX(Q:Exit->St->Prop):Exit->St->Prop
 | .goto _,_=>False
 | e,st=>Q e st
def vc(P:Program):AC->(Exit->St->Prop)->St->Prop
 | .skip,Q,st=>Q .normal st
 | .Eh l,Q,st=>bT P l (Q .normal) st
 | .draw l,Q,st=>cf P l [(st.aC,st.out)] [] (Q .normal) st
 | .hole l h,Q,st=>cf P l [(st.aC,st.out)] [] (ES h (Q .normal)) st
 | .FM nv l,Q,st=>∃t,sB nv st.t=U t/\cf P l [(st.aC,st.out)] [] (Q .normal) ⟨t,st.aC,st.out⟩
 | .o7 x,Q,st=>bm st λaH => vc P x Q aH
 | .seq x y,Q,st=>vc P x (Ci (vc P y Q) Q) st
 | .cond c x y,Q,st=>match ev st c with | .bool b=>(b=aa->vc P x Q st)/\(b=ak->vc P y Q st) | _=>False
 | .block id x,Q,st=>vc P x (ry id Q) st
 | .loop x,Q,st=>∃(ι:Type) (I:ι->St) (μ:ι->Nat),(bm st λaH => ∃i,aH = I i)/\∀i,vc P x (yM I μ Q (μ i)) (I i)
 | .scope x,Q,st=>vc P x (AX Q) st
 | .BZ l x dI dN dM out nxt y,Q,st=>bT P l (λmG=>∃s:List UInt8,ev mG x = .aF s/\(∀c∈s,c.toNat<128)/\∃I:Nat->Nat->St->Prop,
  (∀b,bm (mG.put (U dI) (.raw (.pointer (U ⟨b,0,ae⟩)))) (I b 0)) /\
  (∀b i aH,I b i aH -> aH.t.getD dI .any = .raw (.pointer (U ⟨b,0,ae⟩))/\dN<aH.t.length/\dM<aH.t.length) /\
  (∀b i c aH,s[i]?=U c->I b i aH -> vc P y (ry nxt (xb out (I b (i+1)) Q)) ((aH.put (U dN) (.bq [.bool aa,.int .i64 (i:Nat),.int .i32 (c.toNat:Nat)])).put (U dM) (.bool aa))) /\
  (∀b aH,I b s.length aH -> Q .normal ((aH.put (U dN) (.bq [.bool ak])).put (U dM) (.bool ak)))) st
 | .exit id,Q,st=>Q (.exit id) st
 | .ret,Q,st=>Q .ret st
variable{Q:Exit->St->Prop}
def aoz{c:Code}(h:bm st (iD P c Q)):iD P c Q st:=by
 intro E a hs;obtain⟨E',aH,h1,h2,h3,h4⟩:=h E a hs;rw[<-h1];exact wp_mono (h4 E' a h3) λ_ _ _ ⟨mh,Et,k1,k2,k3,k4⟩=>⟨mh,Et,k1,k2,h2.trans k3,k4⟩
def akd{N:Nat->Prop}:∀n,N n->∃m,N m/\∀k,N k->m<=k:=λn=>by
 induction n using Nat.strongRecOn with
 | ind n ih =>
  intro h
  by_cases hq:∃k,N k/\k<n
  .obtain⟨k,h1,h2⟩:=hq;exact ih k h2 h1
  .refine⟨n,h,λk hk=>?_⟩
   by_cases az:k<n
   .exact absurd ⟨k,hk,az⟩ hq
   .omega
def aot{c:Code}{ι:Type}(I:ι->St)(μ:ι->Nat)(h0:bm st λaH => ∃i,aH = I i)(hr:∀i,iD P c (yM I μ Q (μ i)) (I i)):iD P (.loop c) Q st:=by
 intro E a hs;obtain⟨E1,mG,h1,h2,h3,i0,rfl⟩:=h0 E a hs
 classical
 let J:Act->World->Prop:=λa w=>∃i E',E'.w=w/\bB E' (I i) a/\Fr E E'
 let N:Act->World->Nat->Prop:=λa w n=>∃i E',E'.w=w/\bB E' (I i) a/\Fr E E' /\ μ i=n
 have hL:∀a w,(∃n,N a w n)->∃m,N a w m/\∀k,N a w k->m<=k:=λa w h=>akd _ h.choose_spec
 let M:Act->World->Nat:=λa w=>if h:∃n,N a w n then(hL a w h).choose else 0
 refine wp_loop J M ⟨i0,E1,h1,h3,h2⟩ ?_;intro a w hJ;have hex:∃n,N a w n:=by obtain⟨i,E',k1,k2,k3⟩:=hJ;exact⟨μ i,i,E',k1,k2,k3,rfl⟩
 obtain⟨i,E',k1,k2,k3,k4⟩:=(hL a w hex).choose_spec.1;have hM:M a w=μ i:=by show(if h:∃n,N a w n then(hL a w h).choose else 0)=_;rw[CS hex];exact k4.symm
 subst k1;refine wp_mono (hr i E' a k2) ?_;rintro e a' w' ⟨E2,mH,rfl,m2,m3,m4⟩;cases e with
 | normal =>
  obtain⟨E3,yB,n1,n2,n3,j,rfl,az⟩:=m4 E2 a' m2;have hN:N a' E2.w (μ j):=⟨j,E3,n1,n3,(k3.trans m3).trans n2,rfl⟩;refine⟨⟨j,E3,n1,n3,(k3.trans m3).trans n2⟩,?_⟩;have atm : M a' E2.w<=μ j:=by
   show(if h:∃n,N a' E2.w n then(hL a' E2.w h).choose else 0)<=_;rw[CS ⟨_,hN⟩];exact(hL a' E2.w ⟨_,hN⟩).choose_spec.2 _ hN
  rw[hM];omega
 | exit id=>exact⟨E2,mH,rfl,m2,k3.trans m3,m4⟩
 | goto l=>exact⟨E2,mH,rfl,m2,k3.trans m3,m4⟩
 | ret=>exact⟨E2,mH,rfl,m2,k3.trans m3,m4⟩
 | panic c=>exact⟨E2,mH,rfl,m2,k3.trans m3,m4⟩
 | outgrown=>exact⟨E2,mH,rfl,m2,k3.trans m3,m4⟩
section
variable {P:Program}
def MD{hn:List Nat}{ops:Array Oper}{K:St->Prop}{Q:Exit->Act->World->Prop}{E0:Env}{rest:List Nat}(hQ:∀E st a,bB E st a->Fr E0 E->K st->wpOps P ops Q rest a E.w):∀(os:List Oper) (l:List AO) (i:Nat),zY P hn ops os=U l ->
 (∀j:Nat,j<os.length->os[j]?=ops[i+j]?)->∀E st a,bB E st a->Fr E0 E->bT P l K st->wpOps P ops Q (List.range' i os.length++rest) a E.w
 | [], l, i, hl, _, E, st, a, hs, hf, h => by
  simp only[zY,aY] at hl;subst hl;exact hQ E st a hs hf h
 | o :: os, l, i, hl, sR, E, st, a, hs, hf, h => by
  simp only[zY,gV,cZ] at hl;obtain⟨x,hx,l',gz,rfl⟩:=hl;have ho:ops[i]?=U o:=by have:=sR 0 (by simp);simpa using this.symm
  have aih : ∀j:Nat,j<os.length->os[j]?=ops[i+1+j]?:=λj hj=>by
   have:=sR (j+1) (by simp;omega)
   rw[show i+(j+1)=i+1+j from by omega] at this;simpa using this
  have ih:=MD hQ os l' (i+1) gz aih;have key:∀{ao:aG} {d:Option Tmp},D2 P hn o=ao->d=o.dst->ao.a7 P st (λv aH => bT P l' K (aH.put d v))->o.wp P a E.w (wpOps P ops Q (List.range' (i+1) os.length++rest)) Q:=λ{ao d} hao hd kg=>by
   subst hd;subst hao;refine Oper.wp_mono ?_ (akY (Q:=Q) hs kg);rintro a' w' ⟨E',v,u,aH,rfl,jQ,dh,hv,rfl,hk⟩;exact ih E' _ _ (bB.put dh hv o.dst) (hf.trans jQ) hk
  simp only[db,Cu,gE,wpOps,ho];unfold TS at hx;cases hg:o.guard with
  | none =>
   rw[hg] at hx;simp only[aY] at hx;subst hx;simp only[bT] at h;rw[aD (by simp[Region.wanted,hg])];exact .inl (key rfl rfl h)
  | some p =>
   obtain⟨j,want⟩:=p;rw[hg] at hx;simp only at hx;split at hx
   case h_2=>simp at hx
   rename_i g nV;simp only[aY] at hx;subst hx;simp only[bT] at h;split at h
   .rename_i b hb;have hR:=Be hs.slot g;rw[hb] at hR;simp only[R,Act.eval] at hR;have sR:a.tmps[g]?=U (.bool b):=by
     rw[pU] at hR;cases hq:a.tmps[g]? with
     | none=>rw[hq] at hR;simp[undef] at hR
     | some u=>rw[hq] at hR;simp at hR;rw[hR]
    have hw:Region.wanted o (yielded ops a.tmps)=(b == want):=by
     simp only[Region.wanted,hg,yielded,nV,vB,sR];cases b<;>cases want<;>rfl
    split at h
    .rename_i Kw;rw[hw,aD (by simp[Kw])];exact .inl (key rfl rfl h)
    .rename_i Kw;rw[hw,aB (by simp[Kw])];exact ih E _ _ (bB.put hs (v:=.bq []) (x:=undef) IX o.dst) hf h
   .rename_i hb;have hR:=Be hs.slot g;rw[hb] at hR;have hu:=O' hR;have hw:Region.wanted o (yielded ops a.tmps)=false:=by
     simp only[Region.wanted,hg,yielded,nV,vB];simp only[Act.eval] at hu;cases hq:a.tmps[g]? with
     | none=>rfl
     | some u =>
      rw[pU,hq] at hu;simp at hu;rw[hu];rfl
    rw[hw,aB (by simp)];exact ih E _ _ (bB.put hs (v:=.bq []) (x:=undef) IX o.dst) hf h
   .exact h.elim
def Ii{c:Code}{x:AC}(ih:∀(Q:Exit->St->Prop) (st:St),vc P x Q st->iD P c Q st)(b:Bool)(Q:Exit->St->Prop)(st:St)(h:vc P (AC.EA b x) Q st):iD P c Q st:=by
 cases b with
 | false=>exact ih Q st h
 | true=>exact aoz (h.mono λaH h' => ih Q aH h')
def eval_put{x:Value}(h:d<a.tmps.size):(a.put (U d) x).eval (.tmp d)=x:=by
 simp[Act.put,Act.eval,h]
variable{cb:Code}{i1 out:Nat}{kq:Array Oper}
def rounds{oN oM:Oper}{dI dN dM nxt:Nat}{E0:Env}{s:List UInt8}{I:Nat->St->Prop}
 (h1:kq.toList=[oN,oM]) (hN:oN.op = .next (.tmp dI) aa) (Kd:oN.dst=U dN) (Ke:oN.guard=ae) (hM:oM.op = .extract (.tmp dN) 0) (Kb:oM.dst=U dM) (Kc:oM.guard=ae)
 (De:E0.w.heap.size<=b) (Kq:∀c∈s,c.toNat<128) (BE:∀i aH,I i aH -> aH.t.getD dI .any = .raw (.pointer (U ⟨b,0,ae⟩))/\dN<aH.t.length/\dM<aH.t.length)
 (Kv:∀i c aH,s[i]?=U c->I i aH -> iD P cb (ry nxt (xb out (I (i+1)) Q)) ((aH.put (U dN) (.bq [.bool aa,.int .i64 (i:Nat),.int .i32 (c.toNat:Nat)])).put (U dM) (.bool aa)))
 (iu:∀aH,I s.length aH -> Q .normal ((aH.put (U dN) (.bq [.bool ak])).put (U dM) (.bool ak)))
 {E:Env} {st:St} {a:Act} (hs:bB E st a) (hf:Fr E0 E) (hr:E.aZ b = .lU) (hh:E.w.heap[b]?=U (.stringIter ⟨s.toArray⟩ 0)) (hI:I 0 st) :
 (Code.block out (.loop (.seq (.region i1 kq ak) (.seq (.cond (.tmp dM) .skip (.exit out)) (.block nxt cb))))).wp P (λe a' w' => ∃E' aH,E'.w=w' /\ bB E' aH a' /\ Fr E0 E' /\ Q e aH) a E.w:=by
 refine wp_block ?_;refine wp_loop (λa w=>∃i aH E',E'.w=w/\i<=s.length/\I i aH /\ bB E' aH a/\Fr E0 E' /\ E'.aZ b = .lU/\E'.w.heap[b]?=U (.stringIter ⟨s.toArray⟩ i)) (λa w=>match w.heap[b]? with | some (.stringIter z p)=>z.size - p | _=>0) ⟨0,st,E,rfl,by omega,hI,hs,hf,hr,hh⟩ ?_;rintro a _ ⟨i,aH,E',rfl,hi,hI,dh,jQ,cg,Dl⟩;obtain⟨hsl,By,kK⟩:=BE i aH hI;have hlen:aH.t.length=a.tmps.size:=by have:=fC dh.slot;simpa using this
 have hdI:a.eval (.tmp dI) = .pointer (U ⟨b,0,ae⟩):=by
  have:=Be dh.slot dI
  rw[show ev aH (.s dI)=aH.t.getD dI .any from rfl,hsl] at this;simpa [R] using this
 have hg0:kq[0]?=U oN:=by rw[<-Oz,h1];rfl
 have Gy:kq[1]?=U oM:=by rw[<-Oz,h1];rfl
 have cD:kq.size=2:=by rw[<-AL,h1];rfl
 refine wp_seq (wp_region ?_);rw[cD];show wpOps P kq _ [0,1] a E'.w;have step:∀(y:Value) (t:V) (us:Array Value) (bb:Bool) (w1:World) (E1:Env),(Instr.next (.pointer (U ⟨b,0,ae⟩)) aa oN.type).run P E'.w = .ok y w1->y = .tuple us->us[0]?=U (.bool bb)->E1.w=w1->bB E1 aH a->R E1 t y ->
  ∀(QQ:Exit->Act->World->Prop),(∀a',bB E1 ((aH.put (U dN) t).put (U dM) (.bool bb)) a' -> a'.eval (.tmp dM) = .bool bb->QQ .normal a' w1)->wpOps P kq QQ [0,1] a E'.w:=by
  intro y t us bb w1 E1 cS hy Lg hw nZ hR QQ hQ;subst hy;simp only[wpOps,hg0,Gy];rw[aD (by simp[Region.wanted,Ke])];left;unfold Oper.wp;rw[show(execOp a.eval oN).run P E'.w = .ok (.value (.tuple us)) w1 by simp[execOp,hN,hdI,cS]];simp only[Oper.upon];rw[aD (by simp[Region.wanted,Kc])];left;have he:(a.put (U dN) (.tuple us)).eval (.tmp dN) = .tuple us:=eval_put (by omega);rw[Kd,show(execOp (a.put (U dN) (.tuple us)).eval oM).run P w1 = .ok (.value (.bool bb)) w1 by simp[execOp,hM,he,Instr.extract,Lg]];simp only[Kb];refine hQ _ ?_ (eval_put (by simp[Act.put];omega));exact bB.put (bB.put nZ hR (U dN)) (by simp[R]) (U dM)
 by_cases az:i<s.length
 .have sR:s[i]?=U s[i]:=cH az;have mo:(⟨s.toArray⟩:ByteArray).get! i=s[i]:=by simp[ByteArray.get!,az]
  have cS:=apz (P:=P) (t:=oN.type) Dl (by simpa [ByteArray.size] using az) (by rw[mo];exact Kq _ (fu az));rw[mo] at cS;refine step _ (.bq [.bool aa,.int .i64 (i:Nat),.int .i32 (s[i].toNat:Nat)]) _ aa _ (E'.jm b (.stringIter ⟨s.toArray⟩ (i+1))) cS rfl rfl rfl (bB.jm cg dh) (by simp[R,RL]) _ ?_;intro a' K9 KE;refine wp_seq (wp_cond_true KE (wp_skip ?_));refine wp_block ?_;have qS:Fr E0 (E'.jm b (.stringIter ⟨s.toArray⟩ (i+1))):=Fr.jm jQ cg De Dl;have Gz:(E'.jm b (.stringIter ⟨s.toArray⟩ (i+1))).w.heap[b]?=U (.stringIter ⟨s.toArray⟩ (i+1)):=Wm Dl;have KX:b<(E'.jm b (.stringIter ⟨s.toArray⟩ (i+1))).w.heap.size:=(ky.1 Gz).1;refine wp_mono (Kv i s[i] aH sR hI _ a' K9) ?_;rintro e a2 w2 ⟨E3,yB,rfl,zG,xH,hq⟩;have Bw:=xH.same b KX (.inr cg);have norm:bm yB (I (i+1))->(∃i aH E',E'.w=E3.w/\i<=s.length/\I i aH /\ bB E' aH a2/\Fr E0 E' /\ E'.aZ b = .lU/\E'.w.heap[b]?=U (.stringIter ⟨s.toArray⟩ i)) /\
   (match E3.w.heap[b]? with | some (.stringIter z p)=>z.size - p | _=>0)<(match E'.w.heap[b]? with | some (.stringIter z p)=>z.size - p | _=>0):=by
   intro hU;obtain⟨E4,WB,Li,Di,K8,J7⟩:=hU E3 a2 zG;have qQ:b<E3.w.heap.size:=by rw[Gz] at Bw;exact(ky.1 Bw.1).1
   have Dp:=Di.same b qQ (.inr (Bw.2.trans cg));refine⟨⟨i+1,WB,E4,Li,az,J7,K8,(qS.trans xH).trans Di,Dp.2.trans (Bw.2.trans cg),Dp.1.trans (Bw.1.trans Gz)⟩,?_⟩;rw[Bw.1,Gz,Dl];simp only[ByteArray.size,O3];omega
  cases e with
  | normal=>exact norm hq
  | exit id =>
   simp only[ry,xb] at hq;simp only[Exit.inBlock,Exit.then]
   by_cases e1:id=nxt
   .rw[aD e1] at hq ⊢;exact norm hq
   .rw[aB e1] at hq ⊢
    by_cases e2:id=out
    .rw[aD e2] at hq ⊢;exact⟨E3,yB,rfl,zG,qS.trans xH,hq⟩
    .rw[aB e2] at hq ⊢;exact⟨E3,yB,rfl,zG,qS.trans xH,hq⟩
  | goto l=>exact⟨E3,yB,rfl,zG,qS.trans xH,hq⟩
  | ret=>exact⟨E3,yB,rfl,zG,qS.trans xH,hq⟩
  | panic c=>exact⟨E3,yB,rfl,zG,qS.trans xH,hq⟩
  | outgrown=>exact⟨E3,yB,rfl,zG,qS.trans xH,hq⟩
 .have zy:i=s.length:=by omega
  subst zy;have cS:=run_next_end (P:=P) (t:=oN.type) Dl (by simp[ByteArray.size]);refine step _ (.bq [.bool ak]) _ ak _ E' cS rfl rfl rfl dh (by simp[R,RL]) _ ?_;intro a' K9 KE;refine wp_seq (wp_cond_false KE (wp_exit ?_));simp only[Exit.then,Exit.inBlock,cC];exact⟨E',_,rfl,K9,jQ,iu aH hI⟩
variable{kp:Array Oper}
def aou{VB:(Exit->St->Prop)->St->Prop}{hn:List Nat}{os:List Oper}{oR oN oM:Oper}{l0:List AO}{xt:TypeId}{ox:Operand}{x:X}{dI dN dM i0 nxt:Nat}
 (h0:kp.toList=os++[oR]) (hR:oR.op = .range xt ox) (hRd:oR.dst=U dI) (hRg:oR.guard=ae) (ht:P.underlying xt=U .string) (hl:zY P hn kp os=U l0) (hx:cu P xt ox=U x)
 (h1:kq.toList=[oN,oM]) (hN:oN.op = .next (.tmp dI) aa) (Kd:oN.dst=U dN) (Ke:oN.guard=ae) (hM:oM.op = .extract (.tmp dN) 0) (Kb:oM.dst=U dM) (Kc:oM.guard=ae)
 (hVB:∀Q st,VB Q st->iD P cb Q st) (h:bT P l0 (λmG=>∃s:List UInt8,ev mG x = .aF s/\(∀c∈s,c.toNat<128)/\∃I:Nat->Nat->St->Prop,
   (∀b,bm (mG.put (U dI) (.raw (.pointer (U ⟨b,0,ae⟩)))) (I b 0)) /\
   (∀b i aH,I b i aH -> aH.t.getD dI .any = .raw (.pointer (U ⟨b,0,ae⟩))/\dN<aH.t.length/\dM<aH.t.length) /\
   (∀b i c aH,s[i]?=U c->I b i aH -> VB (ry nxt (xb out (I b (i+1)) Q)) ((aH.put (U dN) (.bq [.bool aa,.int .i64 (i:Nat),.int .i32 (c.toNat:Nat)])).put (U dM) (.bool aa))) /\
   (∀b aH,I b s.length aH -> Q .normal ((aH.put (U dN) (.bq [.bool ak])).put (U dM) (.bool ak)))) st) :
 iD P (.seq (.region i0 kp ak) (.block out (.loop (.seq (.region i1 kq ak) (.seq (.cond (.tmp dM) .skip (.exit out)) (.block nxt cb)))))) Q st:=by
 intro E a hs;refine wp_seq (wp_region ?_);have cD:kp.size=os.length+1:=by rw[<-AL,h0];simp
 have sR:∀j:Nat,kp[j]?=(os++[oR])[j]?:=λj=>by rw[<-h0];simp
 rw[tU,cD,List.range'_concat,show 0+1*os.length=os.length by omega];refine MD (rest:=[os.length]) (K:=_) (E0:=E) ?_ os l0 0 hl ?_ E st a hs (Fr.refl E) h
 .rintro E1 mG a1 nZ Bs ⟨s,KF,Kq,I,hU,BE,Kv,iu⟩;have ho:kp[os.length]?=U oR:=by rw[sR];simp
  simp only[wpOps,ho];rw[aD (by simp[Region.wanted,hRg])];left;have fH:=mz (E:=E1) (st:=mG) (a:=a1) nZ.slot hx;rw[KF] at fH;simp only[R] at fH;have cS:(execOp a1.eval oR).run P E1.w = .ok (.value (.pointer (U ⟨E1.w.heap.size,0,ae⟩))) (E1.w.alloc (.stringIter ⟨s.toArray⟩ 0)):=by simp[execOp,hR,fH,apA ht]
  unfold Oper.wp;rw[cS];simp only[Oper.upon,hRd];obtain⟨f2,s2,r2,b2⟩:=alJ (s:=⟨s.toArray⟩) (p:=0) nZ;have s3:bB (E1.l7 (.stringIter ⟨s.toArray⟩ 0)) (mG.put (U dI) (.raw (.pointer (U ⟨E1.w.heap.size,0,ae⟩)))) (a1.put (U dI) (.pointer (U ⟨E1.w.heap.size,0,ae⟩))):=bB.put s2 (by simp[R]) (U dI);obtain⟨E4,WB,Li,Di,K8,J7⟩:=hU E1.w.heap.size _ _ s3;have KX:E1.w.heap.size<(E1.l7 (.stringIter ⟨s.toArray⟩ 0)).w.heap.size:=(ky.1 b2).1;have Dp:=Di.same E1.w.heap.size KX (.inr r2)
  have:=rounds (i1:=i1) (out:=out) (nxt:=nxt) (I:=I E1.w.heap.size) h1 hN Kd Ke hM Kb Kc Bs.size Kq (BE E1.w.heap.size) (λi c aH hc hI=>hVB _ _ (Kv E1.w.heap.size i c aH hc hI)) (iu E1.w.heap.size) K8 ((Bs.trans f2).trans Di) (Dp.2.trans r2) (Dp.1.trans b2) J7
  rw[Li] at this;exact this
 .intro j hj;rw[jc,sR,sv hj]
def aow{P:Program}{c:Code}(h:iD P c (AX Q) st):iD P (.scope c) Q st:=by
 intro E a hs;refine wp_scope_straight (wp_mono (h E a hs) ?_);rintro e a' w' ⟨E',aH,rfl,h2,h3,h4⟩;cases e with
 | goto l=>exact h4.elim
 | _=>exact⟨E',aH,rfl,h2,h3,h4⟩
variable{h:Hint}
def akX{sG tq nxt i0:Nat}{y:Option AC}{z:AC}(hz:Hq P h kp kq sG out tq nxt y=U z)(ih:∀y',y=U y' -> ∀(Q:Exit->St->Prop) (st:St),vc P y' Q st->iD P cb Q st)
 (Q:Exit->St->Prop) (st:St) (hv:vc P z Q st):iD P (.seq (.region i0 kp ak) (.block out (.loop (.seq (.region i1 kq ak) (.seq (.cond (.tmp sG) .skip (.exit tq)) (.block nxt cb)))))) Q st:=by
 unfold Hq at hz;split at hz
 case h_2=>simp at hz
 rename_i oR oN oM y' hl h1;split at hz
 case h_2=>simp at hz
 rename_i xt ox dI Qr dN Qs dM g1 g2 g3 g4 g5 g6 g7 g8 g9;split at hz
 case h_2=>simp at hz
 rename_i l x k1 k2 k3;split at hz
 case isFalse=>simp at hz
 rename_i he;obtain⟨rfl,rfl,rfl,rfl⟩:=he;simp only[aY] at hz;subst hz;have h0:kp.toList=kp.toList.dropLast++[oR]:=by
  obtain⟨ys,pE⟩:=List.getLast?_eq_some_iff.1 hl;rw[pE];simp
 exact aou (VB:=vc P y') h0 g1 g2 g3 k1 k2 k3 h1 g4 g5 g6 g7 g8 g9 (ih y' rfl) hv
def akT{a b:Code}{z:AC}(hz:fJ P h (.seq a b)=U z):(∃x y,fJ P h a=U x/\fJ P h b=U y/\z = .seq x y) \/
 (∃i0 kp out i1 kq sG tq nxt cb,a = .region i0 kp ak/\b = .block out (.loop (.seq (.region i1 kq ak) (.seq (.cond (.tmp sG) .skip (.exit tq)) (.block nxt cb))))/\Hq P h kp kq sG out tq nxt (fJ P h cb)=U z):=by
 have gen:(match fJ P h a,fJ P h b with | some x,U y=>U (AC.seq x y) | _,_=>ae)=U z->∃x y,fJ P h a=U x/\fJ P h b=U y/\z = .seq x y:=by
  intro e;split at e
  .rename_i x y hx hy;simp only[aY] at e;exact⟨x,y,hx,hy,e.symm⟩
  .simp at e
 unfold fJ at hz;split at hz
 all_goals (try (exfalso;simp_all;done))
 .rename_i heq;simp only[Code.seq.injEq] at heq;obtain⟨rfl,rfl⟩:=heq;split at hz
  .rename_i r hr;exact .inr ⟨_,_,_,_,_,_,_,_,_,rfl,rfl,by rw[hr];exact hz⟩
  .exact .inl (gen hz)
 .rename_i heq;simp only[Code.seq.injEq] at heq;obtain⟨rfl,rfl⟩:=heq;exact .inl (gen hz)
def wQ{h:Hint}:∀(c:Code) (x:AC),fJ P h c=U x->∀(Q:Exit->St->Prop) (st:St),vc P x Q st->iD P c Q st
 | .skip,x,hl,Q,st,h=>by simp only[fJ,aY] at hl;subst hl;exact aoy h
 | .region id ops ak, x, hl, Q, st, h => by
  simp only[fJ,cZ] at hl;obtain⟨l,hl,rfl⟩:=hl;refine Ii (λQ st h E a hs=>?_) _ Q st h;refine wp_region ?_
  have:=MD (P:=P) (ops:=ops) (K:=Q .normal) (E0:=E) (Q:=λe a' w' => ∃E' aH,E'.w=w' /\ bB E' aH a' /\ Fr E E' /\ Q e aH) (rest:=[]) (λE' aH a' h1 h2 h3=>⟨E',aH,rfl,h1,h2,h3⟩) ops.toList l 0 hl (λj _=>by simp) E st a hs (Fr.refl E) h
  rw[tU];simpa using this
 | .region id ops aa, x, hl, Q, st, h => by
  simp only[fJ] at hl;split at hl
  .rename_i l gz;simp only[aY] at hl;subst hl;refine Ii (λQ st h=>?_) _ Q st h;exact MZ (ab2 gz h) λe aH ⟨h1,h2⟩=>by subst h1;exact h2
  .split at hl
   .rename_i p gz;obtain⟨l,hi⟩:=p;simp only[aY] at hl;subst hl;refine Ii (λQ st h=>?_) _ Q st h;exact MZ (aiF gz h) λe aH ⟨h1,h2⟩=>by subst h1;exact h2
   .simp only[cZ] at hl;obtain⟨⟨nv,l⟩,hl,rfl⟩:=hl;refine Ii (λQ st h=>?_) _ Q st h;obtain⟨t,h1,h2⟩:=h;obtain⟨_,k2,_,k4⟩:=Pp h1;intro E a hs
    have:=ab0 (st:=⟨t,st.aC,st.out⟩) (id:=id) hl k2 h2 E a ⟨hs.ok,hs.cU,hs.defers,k4 E _ hs.slot⟩
    exact wp_mono this λe a' w' ⟨E',aH,m1,m2,m3,m4,m5⟩=>⟨E',aH,m1,m2,m3,by subst m4;exact m5⟩
 | .seq a b, x, hl, Q, st, h => by
  rcases akT hl with ⟨y,z,hy,hz,rfl⟩ | ⟨i0,kp,out,i1,kq,sG,tq,nxt,cb,rfl,rfl,hz⟩
  .refine aox (MZ (wQ a y hy _ st h) λe aH he=>?_);cases e with
   | normal=>exact wQ b z hz Q aH he
   | _=>exact he
  .exact akX hz (λy' hy=>wQ cb y' hy) Q st h
 | .cond c a b, x, hl, Q, st, h => by
  simp only[fJ] at hl;split at hl
  case h_2=>simp at hl
  rename_i ax y z hx hy hz;simp only[aY] at hl;subst hl;simp only[vc] at h;split at h
  case h_2=>exact h.elim
  rename_i b' hb;intro E ac hs;have hR:=mz (E:=E) (st:=st) (a:=ac) hs.slot hx;rw[hb] at hR;simp only[R] at hR;exact wp_cond_split hR (λht=>wQ a y hy Q st (h.1 ht) E ac hs) (λht=>wQ b z hz Q st (h.2 ht) E ac hs)
 | .block id a, x, hl, Q, st, h => by
  simp only[fJ,cZ] at hl;obtain⟨y,hy,rfl⟩:=hl;exact aoq (wQ a y hy _ st h)
 | .loop a, x, hl, Q, st, h => by
  simp only[fJ,cZ] at hl;obtain⟨y,hy,rfl⟩:=hl;obtain⟨ι,I,μ,h0,hr⟩:=h;exact aot I μ h0 λi=>wQ a y hy _ (I i) (hr i)
 | .exit id,x,hl,Q,st,h=>by simp only[fJ,aY] at hl;subst hl;exact aor h
 | .ret,x,hl,Q,st,h=>by simp only[fJ,aY] at hl;subst hl;exact aov h
 | .label l,x,hl,Q,st,h=>by simp only[fJ,aY] at hl;subst hl;exact aos h
 | .goto l,x,hl,Q,st,h=>by simp[fJ] at hl
 | .scope a, x, hl, Q, st, h => by
  simp only[fJ,cZ] at hl;obtain⟨y,hy,rfl⟩:=hl;exact aow (wQ a y hy _ st h)
 | .refuse w,x,hl,Q,st,h=>by simp[fJ] at hl
 | .rangeFunc f p a b,x,hl,Q,st,h=>by simp[fJ] at hl
inductive RV where
 | tmp (t:Nat)
 | cell (t:Nat) (agg:Bool) (n:Nat)
def Mf(P:Program):ResultVar->Option RV
 | .tmp t=>U (.tmp t)
 | .cell a t=>match gG P t,dO P t with | some g,U n=>U (.cell a g n) | _,_=>ae
def z_(P:Program):List ResultVar->Option (List RV)
 | []=>U []
 | r::rs=>(Mf P r).bind λx=>(z_ P rs).map (x::·)
def rv(st:St):RV->Option V
 | .tmp t=>U (st.t.getD t .any)
 | .cell t g n=>kR st g n (st.t.getD t .any)
def tD(st:St):List RV->Option (List V)
 | []=>U []
 | r::rs=>(rv st r).bind λx=>(tD st rs).map (x::·)
def tm:List V->V
 | [x]=>x
 | xs=>.bq xs
def ag.sub(σ' D:ag):Prop:=(∀b cs,σ'.box b=U cs->D.box b=U cs)/\(∀t n,σ'.aJ t=U n->D.aJ t=U n)/\∀b cs,σ'.bO b=U cs->D.bO b=U cs
def ag.bd(D:ag):D.sub D:=⟨λ_ _ h=>h,λ_ _ h=>h,λ_ _ h=>h⟩
def mP(R' : V->ag->Prop)(st:St):V->Prop:=λv=>v.cG=aa/\∃(σ' : ag) (w:V),σ'.sub st.out/\(w=v.erase\/w=v)/\R' w σ'
def Fg(rs:List RV)(R' : V->ag->Prop):Exit->St->Prop
 | .normal,st | .ret,st=>opt ((tD st rs).map tm) (mP R' st)
 | _,_=>False
def VV{E:Env}{st:St}{a:Act}(hs:bB E st a):∀{rs:List ResultVar} {ys:List RV} {vs:List V},z_ P rs=U ys->tD st ys=U vs ->
 ∃us:List Value,(rs.mapM λ| .tmp t=>pure (a.tmps.getD t undef) | .cell ad t=>do loadVar t (<-asAddr (a.tmps.getD ad undef)):Sem (List Value)).run P E.w = .ok us E.w/\RL E vs us
 | [], ys, vs, h1, h2 => by
  simp only[z_,aY] at h1;subst h1;simp only[tD,aY] at h2;subst h2;exact⟨[],by simp,by simp[RL]⟩
 | r :: rs, ys, vs, h1, h2 => by
  simp only[z_,gV,cZ] at h1;obtain⟨y,hy,Xw,pE,rfl⟩:=h1;simp only[tD,gV,cZ] at h2;obtain⟨v,hv,Cb,BJ,rfl⟩:=h2;obtain⟨us,k1,k2⟩:=VV hs pE BJ;cases r with
  | tmp t =>
   simp only[Mf,aY] at hy;subst hy;simp only[rv,aY] at hv;subst hv;have hR:=Be hs.slot t;refine⟨a.tmps.getD t undef::us,?_,by simp only[RL];exact⟨hR,k2⟩⟩;rw[List.mapM_cons];simp only[Sem.run_bind,Sem.run_pure,Result.andThen_ok,k1]
  | cell ad t =>
   simp only[Mf] at hy;split at hy
   case h_2=>simp at hy
   rename_i g n hg hn;simp only[aY] at hy;subst hy;simp only[rv] at hv;have hR:=Be hs.slot ad;have pr : R E (st.t.getD ad .any) (a.tmps.getD ad undef):=hR;obtain⟨b,off,cs,e1,e2,e3⟩:=To hs hv pr;obtain⟨u,e4,e5⟩:=run_load (P:=P) hg hn e2 e3;refine⟨u::us,?_,by simp only[RL];exact⟨e5,k2⟩⟩;rw[List.mapM_cons];have e6:((do loadVar t (<-asAddr (a.tmps.getD ad undef)):Sem Value)).run P E.w = .ok u E.w:=by
    rw[e1];simp only[asAddr,Sem.run_bind,Sem.run_pure,Result.andThen_ok,e4]
   rw[Sem.run_bind];show((do loadVar t (<-asAddr (a.tmps.getD ad undef)):Sem Value).run P E.w).andThen _=_;rw[e6,Result.andThen_ok,Sem.run_bind,k1,Result.andThen_ok,Sem.run_pure]
variable{f:FuncId}{fn:Func}
def acN(hf:P.funcs[f]?=U fn)(hn:(fn.name == "runtime.NumGoroutine")=ak)(hb:fn.body.isNone=ak):OE P f:=λargs w=>by
 have b8 : fn.body.isNone=false:=hb;simp only[callFunc,Sem.run_bind,run_program,Result.andThen_ok,hf];split
 .rename_i h;simp[hn] at h
 .split
  .rename_i h;simp at h;rw[h] at b8;simp at b8
  .rfl
def anO{c:Code}{x:AC}{rs:List RV}(hf:P.funcs[f]?=U fn)(aix:(fn.name == "runtime.NumGoroutine")=ak)(hb:fn.body=U c)(hl:fJ P h c=U x)(hr:z_ P fn.results.toList=U rs)
 {n:Nat} (hn:fn.ntmps=n) {args:List V} {D:ag} {R' : V->ag->Prop} (hv:vc P x (Fg rs R') ⟨args++aA (n - args.length) .any,[],D⟩):cm P f args D R' := by
 refine⟨acN hf aix (by rw[hb];rfl),λE vs KU b9 Kn=>?_⟩;refine calls_of_wp hf hb ?_;have hlen:=fC Kn;have hs:bB E ⟨args++aA (n - args.length) .any,[],D⟩ {tmps:=vs++Array.replicate (fn.ntmps - vs.size) undef,defers:=[]}:=by
  refine⟨b9,⟨λi cs h=>by simp at h,λi _=>KU i⟩,rfl,?_⟩;simp only[Array.toList_append,Array.toList_replicate];refine tZ Kn ?_;rw[hn,show args.length=vs.size from by simpa using hlen]
  have:=O9 (E:=E) (aA (n - vs.size) undef)
  simpa using this
 refine wp_mono (wQ c x hl _ _ hv E _ hs) ?_;rintro e a' w' ⟨E',aH,rfl,dh,ba,hq⟩;have fin:opt ((tD aH rs).map tm) (mP R' aH)->a'.defers=[]/\∃v,(results fn a'.tmps).run P E'.w = .ok v E'.w /\
  ∃v' x mh σ',Ending.returned v = .returned x/\mh.w=E'.w/\(∀i,mh.aC i=ae)/\mh.ok σ' /\ R mh v' x/\Fr E mh /\ R' v' σ' := λhq=>by
  refine⟨dh.defers,?_⟩;unfold opt at hq;split at hq
  case h_2=>exact hq.elim
  rename_i v hv;simp only[cZ] at hv;obtain⟨Cb,BJ,rfl⟩:=hv;obtain⟨us,k1,k2⟩:=VV (P:=P) dh hr BJ;obtain⟨nW,σ',w,pA,hw,pr⟩:=hq;have fG:∃u,(results fn a'.tmps).run P E'.w = .ok u E'.w/\R E' (tm Cb) u:=by
   have iA:(results fn a'.tmps).run P E'.w = .ok (if h:us.toArray.size=1 then us.toArray[0] else .tuple us.toArray) E'.w:=by
    unfold results;rw[<-Array.toArray_toList (xs:=fn.results),List.mapM_toArray];simp only[Sem.run_bind,Sem.run_map]
    erw [k1]
    simp only[Result.andThen_ok,Sem.run_pure]
   refine⟨_,iA,?_⟩;have kK:=fC k2
   match Cb,us,k2 with
   | [y], [u], k2 =>
    simp only[RL] at k2;simp[tm,k2.1]
   | [],[],k2=>simp[tm,R];exact k2
   | y :: z :: ys, u :: u' :: lO, k2 =>
    simp only[tm];rw[dif_neg (by simp)];simp only[R];exact⟨_,rfl,by simpa using k2⟩
  obtain⟨u,hu,RY⟩:=fG
  let mh : Env:={E' with aC:=λ_=>ae,aZ:=λb=>match E'.aZ b with | .iB _=>.lU | r=>r}
  have dp:∀b,mh.aZ b=match E'.aZ b with | .iB _=>.lU | r=>r:=λ_=>rfl
  have ah6:∀b o,(mh.aZ b).gW o↔(E'.aZ b).gW o:=λb o=>by rw[dp];cases E'.aZ b<;>simp[eP.gW]
  have KT:∀b t c,E'.aZ b = .gh t c->mh.aZ b = .gh t c:=λb t c h=>by rw[dp,h]
  have hle:E'.nl.le mh.nl:=⟨λb o _ hc hv=>⟨(ah6 b o).2 hc,hv⟩,λ_ _ h=>by simp at h,λt n hn=>⟨n,hn,bL _,λ_ b c hb=>⟨KT b t c hb,λcs _ hc=>⟨cs,hc,rfl⟩⟩⟩⟩;have xI : Fr E' mh := by
   refine⟨rfl,rfl,rfl,bL _,λ_=>rfl,hle.cell,hle.tok,λb _ hr=>⟨rfl,?_⟩,λb _ h=>?_,λb t c _ h=>?_,λb i _ h=>?_,λ_ c _ h=>⟨c,h,rfl⟩⟩
   .rw[dp];rcases hr with hr | hr<;>rw[hr]
   .rw[dp] at h;cases hq:E'.aZ b<;>rw[hq] at h<;>simp at h;exact .inl rfl
   .rw[dp] at h;cases hq:E'.aZ b<;>rw[hq] at h<;>simp at h;exact⟨_,by rw[h.1]⟩
   .rw[dp] at h;cases hq:E'.aZ b<;>rw[hq] at h<;>simp at h
  refine⟨u,hu,w,u,mh,σ',rfl,rfl,λ_=>rfl,⟨λb cs bP=>?_,λt m ht=>dh.ok.aJ t m (pA.2.1 t m ht),λb hb=>?_,dh.ok.nt,λb cs hc=>dQ.mono _ hle (dh.ok.bO b cs (pA.2.2 b cs hc))⟩,?_,ba.trans xI,pr⟩
  .obtain⟨h1,h2⟩:=dh.ok.box b cs (pA.1 b cs bP);exact⟨by rw[dp,h1],h2.mono hle rfl⟩
  .rw[dp,dh.ok.fresh b hb]
  .rcases hw with rfl | rfl
   .exact R.erase _ (RY.n9 _ hle nW)
   .exact RY.n9 _ hle nW
 cases e with
 | normal=>exact fin hq
 | ret=>exact fin hq
 | _=>exact hq.elim
end
structure aT(P:Program)(f:FuncId)(x:AC)(rs:List RV)(n:Nat):Prop where
 is:∃fn h,P.funcs[f]?=U fn/\(fn.name == "runtime.NumGoroutine")=ak/\fn.body.bind (fJ P h)=U x/\z_ P fn.results.toList=U rs/\fn.ntmps=n
def aU(n:Nat)(args:List V):List V:=args++aA (n - args.length) .any
variable{f:FuncId}
def aT.aV{x:AC}{rs:List RV}{n:Nat}(h:aT P f x rs n){args:List V}{D:ag}{R' : V->ag->Prop}(hv:vc P x (Fg rs R') ⟨aU n args,[],D⟩):cm P f args D R' := by
 obtain⟨fn,hi,h1,h2,h3,h4,h5⟩:=h.is;simp only[gV] at h3;obtain⟨c,hb,hl⟩:=h3;exact anO h1 h2 hb hl h4 h5 hv
end Go.Am
