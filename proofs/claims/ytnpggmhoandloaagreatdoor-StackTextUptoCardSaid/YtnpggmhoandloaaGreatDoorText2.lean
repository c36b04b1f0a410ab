/-
  Part 2 of the proof of StackTextUptoCardSaid: a logic over the model, the forms of the functions that the law reaches, and what they compute.
-/
import Derived.Lib.Bytealg
import Derived.Laws.Pointers
import Derived.Scope
import Derived.Test.YtnpggmhoandloaaGreatDoorText1
set_option linter.unusedVariables false
set_option linter.unusedSimpArgs false
set_option linter.defProp false
set_option linter.unusedSectionVars false
set_option maxRecDepth 4000
set_option maxHeartbeats 4000000
open Option renaming some->aa,none->aj
open Bool renaming true->ab,false->ar
open List renaming replicate->aq,range->bA,getD->fW,zipWith->mu
open Eq renaming mpr->ey
open Ne renaming symm->fJ
namespace Go.Am
def Hq{P:Program}{SN:List dy}{p:Nat->DI->Bool}{S:Nat->Bool}:∀{l:List (AO × List Nat)} {b:List Nat} {tr:List TR} {t:List V} {s:dy} {i:Nat},yX P SN l tr t s->b.length=l.length ->
 (∀(j:Nat) x,l[j]?=aa x->x.1.op.bB=ab->S (i+j)=p (i+j) (fF x (b.getD j 0)))->cU S i tr=(((mu fF l b).zipIdx i).filter λ(x,j)=>x.bB&&p j x).length
 | [],b,[],_,_,_,_,_,_=>by simp[cU]
 | [],_,_::_,_,_,_,h,_,_=>h.elim
 | (_,_)::_,_,[],_,_,_,h,_,_=>h.elim
 | (o,ms)::l,[],_::_,_,_,_,_,hb,_=>by simp at hb
 | (o, ms) :: l, m :: b, r :: tr, t, s, i, h, hb, hp => by
  have ih:=Hq (p:=p) (S:=S) (i:=i+1) h.2 (by simpa using hb) λj x hx he=>by
   have:=hp (j+1) x (by simpa using hx) he
   rw[show i+(j+1)=i+1+j from by omega] at this;simpa using this
  have he:r.bB=o.op.bB:=h.1.2.1;have h0:o.op.bB=ab->S i=p i (fF (o,ms) m):=λhe=>by simpa using hp 0 (o,ms) (by simp) he
  simp only[cU,List.zipWith_cons_cons,List.zipIdx_cons,yM];rw[ih];have hd:(fF (o,ms) m).bB=o.op.bB:=rfl;cases hq:o.op.bB
  .simp[he,hq,hd]
  .rw[h0 hq];simp only[he,hd,hq,rC,iM];cases p i (fF (o,ms) m)
   .simp
   .simp;omega
section
variable {P:Program} {ops:Array Oper} {l:List (AO × List Nat)} {b:List Nat} {SN:List dy} {tr:List TR} {t0:List V} {s0:dy}
structure D3(ops:Array Oper)(tr:List TR)(t0:List V)(s0:dy)(E0:Env)(X:Array Bool->Env->Act->Prop)(listed:Array Bool)(a:Act)(w:World):Prop where
 size:listed.size=ops.size
 closed:∀(i:Nat) o,ops[i]?=aa o->listed.getD i ar=ab->∀e∈o.after,Region.binds .any e=ab->listed.getD e.on ar=ab
 rel:∃E,E.w=w/\bN E (cm (runT (cR (λj=>listed.getD j ar) 0 tr) t0) (eb (cR (λj=>listed.getD j ar) 0 tr) s0)) a/\Fr E0 E/\X listed E a
def Lj(F:AD ops l b){S:Nat->Bool}(hc:∀(i:Nat) o,ops[i]?=aa o->S i=ab->∀e∈o.after,Region.binds .any e=ab->S e.on=ab):
 ∀(n i:Nat),i<n->i<ops.size->S i=ab->∀j,(b.getD i 0).testBit j=ab->S j=true:=by
 intro n;induction n with
 | zero=>intro i h;omega
 | succ n ih =>
  intro i hi aD hS j hj;obtain⟨e,U,h2,h3⟩:=F.mask i ops[i] (np aD) j hj;have he:=hc i _ (np aD) hS e U h2;have hb:=F.back i _ (np aD) e U h2
  rcases h3 with rfl | h3
  .exact he
  .exact ih e.on (by omega) (by omega) he j h3
def HV(listed:Array Bool)(i:Nat)(h:i<listed.size):listed.getD i ab=listed.getD i false:=by simp[h]
def Spec(P:Program)(l:List (AO × List Nat))(b:List Nat)(t0:List V)(E0:Env)(X:Array Bool->Env->Act->Prop)(i:Nat)(o:Oper)(ao:AO):Prop :=
 o.guard=aj/\ao.guard=aj/\∀(E:Env) (a:Act) (t:List V) (s:dy) (v:V) (s' : dy) (listed:Array Bool) (Q:Exit->Act->World->Prop),i<listed.size->listed.getD i ar=ar->(∀j,(b.getD i 0).testBit j=ab->listed.getD j ar=ab) ->
  (∀j,j<b.length->(b.getD j 0).testBit i=ab->listed.getD j ar=ar)->(∀d,(∀(j:Nat) x,l[j]?=aa x->x.1.dst=aa d->listed.getD j ar=ar)->t.getD d .any=t0.getD d .any) ->
  bN E (cm t s) a->Fr E0 E->X listed E a->ao.op.bj P (cm t s) (Exact t v s') ->
  o.wp P a E.w (λa' w' => ∃E',E'.w=w' /\ bN E' (cm (lg t ao.dst v) s') a' /\ Fr E0 E' /\ X (listed.setIfInBounds i ab) E' a') Q
def SP(F:AD ops l b)(qT:b.length=ops.size)(uN:SN=s0::ly tr)(ht:yX P SN l tr t0 s0)
 {E0:Env} {X:Array Bool->Env->Act->Prop} {Q:Exit->Act->World->Prop} {listed:Array Bool} {a:Act} {w:World} (h:D3 ops tr t0 s0 E0 X listed a w) {i:Nat} (hi:i∈Region.ready .any ops listed)
 (wy:∀o,ops[i]?=aa o->∃x:AO × List Nat,l[i]?=aa x/\((uZ P ops o=aa x.1/\∀listed E E' a u,X listed E a->Fr E E' -> X (listed.setIfInBounds i ab) E' (a.put o.dst u))\/Spec P l b t0 E0 X i o x.1)) {K:Act->World->Prop}
 (hK:∀a w,D3 ops tr t0 s0 E0 X (listed.setIfInBounds i ab) a w->K a w):wpOp P ops Q i K a w:=by
 obtain⟨zC,o,ho,dq⟩:=mem_ready.1 hi;have aD:i<ops.size:=(lU.1 ho).1;have mN : i<listed.size:=by rw[h.size];exact aD
 obtain⟨E,rfl,hs,bq,hX⟩:=h.rel
 let S:Nat->Bool:=λj=>listed.getD j ar
 have EO:S i=false:=by show listed.getD i ar=ar;rw[<-HV _ _ mN];exact zC
 obtain⟨x,hx,M3⟩:=wy o ho;obtain⟨ao,ms⟩:=x;have hlen:=G4 ht;have amJ:i<tr.length:=by rw[<-hlen,F.size];exact aD
 obtain⟨r,hr⟩:∃r,tr[i]?=aa r:=⟨tr[i],cK amJ⟩;have eE:=G5 (i:=0) (k:=i) ht hx hr;rw[j6] at eE;obtain⟨hd,he,run,C6,dk,amD⟩:=eE
 -- who is done,who is not
 have C2:∀j,(b.getD i 0).testBit j=ab->S j=true:=λj hj=>by
  obtain⟨e,U,h2,h3⟩:=F.mask i o ho j hj;have hb:=dq e U h2
  rcases h3 with rfl | h3
  .exact hb
  .exact Lj F (S:=S) h.closed ops.size e.on (by have:=F.back i o ho e U h2;omega) (by have:=F.back i o ho e U h2;omega) hb j h3
 have EU:∀j,j<ops.size->(b.getD j 0).testBit i=ab->S j=false:=λj hj hb=>by
  cases hq:S j with
  | false=>rfl
  | true =>
   have:=Lj F (S:=S) h.closed ops.size j hj hj hq i hb
   rw[this] at EO;simp at EO
 have xO:∀(j:Nat) r',tr[j]?=aa r' -> ∃y,l[j]?=aa y/\r'.dst=y.1.dst/\r'.bB=y.1.op.bB/\j<ops.size:=λj r' cL => by
  have hj:=(fy.1 cL).1;have xS:j<l.length:=by omega
  have:=G5 (i:=0) (k:=j) ht (cK xS) cL
  exact⟨l[j],cK xS,this.1,this.2.1,by rw[<-F.size];exact xS⟩
 -- what it reads is what it read in the text's order
 have Dc:∀n,n∈z_ ao->(runT (cR S 0 tr) t0).getD n .any=(runT (cR (eR i) 0 tr) t0).getD n .any:=λn hn=>by
  refine Aj rfl rfl λj r' cL hd' => ?_
  rw[j6];obtain⟨y,hy,Bw,_,mL⟩:=xO j r' cL;obtain⟨a9,kb⟩:=F.slot i j (ao,ms) y hx hy n (by rw[<-Bw];exact hd') hn
  rcases vF j i with gd | gd
  .have hu:eR i j=true:=by simp[eR,gd]
   rw[hu]
   rcases kb with U | U
   .exact C2 j U
   .exfalso
    obtain⟨e,k1,k2,k3⟩:=F.mask j _ (np mL) i U
    have:=F.back j _ (np mL) e k1 k2
    have key:∀n q,q<n->q<ops.size->∀z,(b.getD q 0).testBit z=ab->z<q:=by
     intro n;induction n with
     | zero=>intro q h;omega
     | succ n ih =>
      intro q hq Fo z hz;obtain⟨e',m1,m2,m3⟩:=F.mask q _ (np Fo) z hz;have cC := F.back q _ (np Fo) e' m1 m2
      rcases m3 with rfl | m3
      .exact cC
      .have:=ih e'.on (by omega) (by omega) z m3;omega
    have:=key (j+1) j (by omega) mL i U
    omega
  .have hu:eR i j=false:=by simp[eR];omega
   rw[hu]
   rcases kb with U | U
   .exfalso
    have key:∀n q,q<n->q<ops.size->∀z,(b.getD q 0).testBit z=ab->z<q:=by
     intro n;induction n with
     | zero=>intro q h;omega
     | succ n ih =>
      intro q hq Fo z hz;obtain⟨e',m1,m2,m3⟩:=F.mask q _ (np Fo) z hz;have cC := F.back q _ (np Fo) e' m1 m2
      rcases m3 with rfl | m3
      .exact cC
      .have:=ih e'.on (by omega) (by omega) z m3;omega
    have:=key (i+1) i (by omega) aD j U
    omega
   .exact EU j mL U
 -- memory
 have wA:∀T:Nat->Bool,(∀(j k:Nat),j<ops.size->k<ops.size->(∀y z,l[j]?=aa y->l[k]?=aa z->y.1.op.bB=ab->z.1.op.bB=ab->j<k->T k=ab->T j=ab)) ->
  eb (cR T 0 tr) s0=SN.getD (cU T 0 tr) DK:=λT hT=>by
  rw[uN];refine Yx λj k r1 r2 U h2 e1 e2 Bm hk=>?_
  obtain⟨y,hy,_,ye,mL⟩:=xO j r1 U;obtain⟨z,hz,_,ze,gn⟩:=xO k r2 h2;rw[j6] at hk ⊢;exact hT j k mL gn y z hy hz (by rw[<-ye];exact e1) (by rw[<-ze];exact e2) Bm hk
 have H4:∀(j k:Nat),j<ops.size->k<ops.size->(∀y z,l[j]?=aa y->l[k]?=aa z->y.1.op.bB=ab->z.1.op.bB=ab->j<k->S k=ab->S j=ab):=λj k _ hk y z hy hz e1 e2 Bm C1 =>
  Lj F (S:=S) h.closed ops.size k hk hk C1 j (F.bB j k y z hy hz Bm e1 e2)
 have Np:∀q (j k:Nat),j<ops.size->k<ops.size->(∀y z,l[j]?=aa y->l[k]?=aa z->y.1.op.bB=ab->z.1.op.bB=ab->j<k->eR q k=ab->eR q j=ab):=λq j k _ _ _ _ _ _ _ _ Bm hk=>by
  simp[eR] at hk ⊢;omega
 have U_:ao.op.bB=ab->eb (cR S 0 tr) s0=eb (cR (eR i) 0 tr) s0:=λtI=>by
  rw[wA S H4,wA (eR i) (Np i)];congr 1;refine Hr λj r' cL zA=>?_
  rw[j6];obtain⟨y,hy,_,ye,mL⟩:=xO j r' cL
  rcases AP j i with gd | gd | gd
  .have:eR i j=true:=by simp[eR,gd]
   rw[this];exact C2 j (F.bB j i y (ao,ms) hy hx gd (by rw[<-ye];exact zA) tI)
  .subst gd
   have:eR j j=false:=by simp[eR]
   rw[this];exact EO
  .have:eR i j=false:=by simp[eR];omega
   rw[this];exact EU j mL (F.bB i j (ao,ms) y hx hy gd tI (by rw[<-ye];exact zA))
 -- the next state
 have Mr:(λj=>(listed.setIfInBounds i ab).getD j ar)=add S i:=by
  funext j;simp only[add,S]
  by_cases gd:j=i
  .subst gd;simp[mN]
  .rw[rB,Cj (fJ gd),<-rB];simp[gd]
 have hT:runT (cR (add S i) 0 tr) t0=lg (runT (cR S 0 tr) t0) r.dst r.val :=
  Yz (by omega) (by simpa using hr) EO λj r' cL a9 n hn M6 => by
   obtain⟨y,hy,Bw,_,_⟩:=xO j r' cL;exact F.dst j i y (ao,ms) hy hx (by omega) n (by rw[<-hd];exact hn) (by rw[<-Bw];exact M6)
 have alE:∀(j k:Nat),j<ops.size->k<ops.size->(∀y z,l[j]?=aa y->l[k]?=aa z->y.1.op.bB=ab->z.1.op.bB=ab->j<k->add S i k=ab->add S i j=ab):=λj k hj hk y z hy hz e1 e2 Bm C1=>by
  simp only[add,j1,bQ] at C1 ⊢
  rcases C1 with C1 | rfl
  .exact .inl (H4 j k hj hk y z hy hz e1 e2 Bm C1)
  .exact .inl (C2 j (F.bB j k y z hy hz Bm e1 e2))
 have Mp:eb (cR (add S i) 0 tr) s0=if ao.op.bB then r.An else eb (cR S 0 tr) s0:=by
  rw[wA (add S i) alE];cases tI:ao.op.bB
  .simp only[dP,cF];rw[wA S H4];congr 1;refine Hr λj r' cL zA=>?_
   rw[j6];obtain⟨y,hy,_,ye,_⟩:=xO j r' cL;have gd:j≠i:=by
    rintro rfl;rw[hx] at hy;simp at hy;subst hy;rw[ye,tI] at zA;simp at zA
   simp[add,gd]
  .simp only[cM];have U:cU (add S i) 0 tr=cU (eR (i+1)) 0 tr:=Hr λj r' cL zA=>by
    rw[j6];obtain⟨y,hy,_,ye,mL⟩:=xO j r' cL
    rcases AP j i with gd | gd | gd
    .have:eR (i+1) j=true:=by simp[eR];omega
     rw[this]
     have:=C2 j (F.bB j i y (ao,ms) hy hx gd (by rw[<-ye];exact zA) tI)
     simp[add,this]
    .subst gd;simp[add,eR]
    .have:eR (i+1) j=false:=by simp[eR];omega
     rw[this]
     have:=EU j mL (F.bB i j (ao,ms) y hx hy gd tI (by rw[<-ye];exact zA))
     simp[add,this];omega
   rw[U,<-wA (eR (i+1)) (Np (i+1))];have ax5 : eR (i+1)=add (eR i) i:=by
    funext j;simp only[eR,add];rw[rD];simp;omega
   -- the run up to and with i
   have key:∀(tr:List TR) (q:Nat) (s:dy),q<=i->tr[i - q]?=aa r->eb (cR (eR (i+1)) q tr) s=r.An:=by
    intro tr;induction tr with
    | nil=>intro q s _ h;simp at h
    | cons r' tr ih =>
     intro q s hq h;have hu:eR (i+1) q=true:=by simp[eR];omega
     simp only[cR,hu,cM,eb]
     by_cases hqi:q=i
     .subst hqi;simp at h;subst h;rw[Pz (by omega)];simp[eb,he,tI]
     .exact ih (q+1) _ (by omega) (by rw[show i - q=(i - (q+1))+1 from by omega] at h;simpa using h)
   exact key tr 0 s0 (by omega) (by simpa using hr)
 -- the closure
 have alO : ∀(j:Nat) o',ops[j]?=aa o' -> (listed.setIfInBounds i ab).getD j ar=ab->∀e∈o'.after,Region.binds .any e=ab->(listed.setIfInBounds i ab).getD e.on ar=true:=λj o' gf hj e U h2=>by
  have ej:(listed.setIfInBounds i ab).getD j ar=add S i j:=congrFun Mr j;have ee:(listed.setIfInBounds i ab).getD e.on ar=add S i e.on:=congrFun Mr e.on;rw[ee];rw[ej] at hj;simp only[add,j1,bQ] at hj ⊢
  rcases hj with hj | rfl
  .exact .inl (h.closed j o' gf hj e U h2)
  .rw[ho] at gf;simp only[bc] at gf;subst gf;exact .inl (dq e U h2)
 have WM:∀E' a' t' s',E'.w=E'.w->t' = runT (cR (add S i) 0 tr) t0->s' = eb (cR (add S i) 0 tr) s0->bN E' (cm t' s') a' -> Fr E0 E' -> X (listed.setIfInBounds i ab) E' a' -> K a' E'.w:=λE' a' t' s' _ e1 e2 dS j9 ku => by
  refine hK a' E'.w ⟨by simp[h.size],alO,E',rfl,?_,j9,ku⟩;rw[Mr,<-e1,<-e2];exact dS
 -- the machine's step
 unfold wpOp;rw[ho];simp only;have amh:∀g n y,ao.op = .load g n y->run=ab->sT (eb (cR S 0 tr) s0) g n (ev (cm (runT (cR (eR i) 0 tr) t0) (eb (cR (eR i) 0 tr) s0)) y)=aa r.val:=λg n y hy kc=>by
  obtain⟨lE,xT⟩:=dk kc;rw[wA S H4];have ama:ao.op.Dl=true:=by rw[hy];rfl
  have hm:=F.load i (ao,ms) hx ama (cU S 0 tr);have amg : qq (mu fF l b) (fF (ao,ms) (b.getD i 0))<=cU S 0 tr:=by
   have e:qq (mu fF l b) (fF (ao,ms) (b.getD i 0))=cU (λj=>(b.getD i 0).testBit j) 0 tr:=by
    unfold qq CL;exact(Hq (p:=λj _=>(b.getD i 0).testBit j) (S:=λj=>(b.getD i 0).testBit j) ht (by rw[qT,F.size]) (λj y _ _=>rfl)).symm
   rw[e];exact Ll λj r' _ _ hb=>by rw[j6] at hb ⊢;exact C2 j hb
  have al8 : cU S 0 tr<=zr (mu fF l b) i:=by
   have e:zr (mu fF l b) i=cU (λj=>!((b.getD j 0).testBit i)) 0 tr:=by
    unfold zr CL;exact(Hq (p:=λ_ y=>!(y.mask.testBit i)) (S:=λj=>!((b.getD j 0).testBit i)) ht (by rw[qT,F.size]) (λj y _ _=>by simp[fF])).symm
   rw[e];refine Ll λj r' cL _ Mo=>?_
   rw[j6] at Mo ⊢;obtain⟨y,_,_,_,mL⟩:=xO j r' cL;cases hb:(b.getD j 0).testBit i with
   | false=>rfl
   | true=>rw[EU j mL hb] at Mo;simp at Mo
  rcases hm amg al8 with hm | hm
  .exact xT g n y hy _ hm
  .have e:BW (mu fF l b) i=cU (eR i) 0 tr:=by
    unfold BW CL;exact(Hq (p:=λj _=>decide (j<i)) (S:=eR i) ht (by rw[qT,F.size]) (λj y _ _=>rfl)).symm
   rw[hm,e,<-wA (eR i) (Np i)];rw[hy] at lE;simp only[aO.bj] at lE;rw[VO] at lE;cases hq:sT (eb (cR (eR i) 0 tr) s0) g n (ev (cm (runT (cR (eR i) 0 tr) t0) (eb (cR (eR i) 0 tr) s0)) y) with
   | none=>rw[hq] at lE;exact lE.elim
   | some u=>rw[hq] at lE;rw[lE.1]
 have qZ:∀y∈ao.op.xs,ev (cm (runT (cR S 0 tr) t0) (eb (cR S 0 tr) s0)) y=ev (cm (runT (cR (eR i) 0 tr) t0) (eb (cR (eR i) 0 tr) s0)) y:=λy hy =>
  af6 λn hn=>Dc n (by simp only[z_,fi,tt];exact .inl ⟨y,hy,hn⟩)
 have U6 : run=ab->ao.op.bj P (cm (runT (cR S 0 tr) t0) (eb (cR S 0 tr) s0)) (Exact (runT (cR S 0 tr) t0) r.val (if ao.op.bB then(if ao.op.bB then r.An else eb (cR (eR i) 0 tr) s0) else eb (cR S 0 tr) s0)):=λkc =>
  auE (P:=P) (op:=ao.op) (t:=runT (cR (eR i) 0 tr) t0) (t2:=runT (cR S 0 tr) t0) (s:=eb (cR (eR i) 0 tr) s0) (s2:=eb (cR S 0 tr) s0) qZ U_ (λg n y hy=>amh g n y hy kc) (dk kc).1
 rcases M3 with ⟨M3,hXg⟩ | amE
 case' inr =>
  obtain⟨Ii,xP,tP⟩:=amE;rw[aF (by simp[Region.wanted,Ii])];left;have kc:run=true:=by rw[xP] at C6;exact C6
  have mQ:∀d,(∀(j:Nat) x,l[j]?=aa x->x.1.dst=aa d->listed.getD j ar=ar)->(runT (cR S 0 tr) t0).getD d .any=t0.getD d .any:=λd hd=>by
   have U:=Aj (S:=S) (S' := λ_=>ar) (x:=d) (tr:=tr) (i:=0) (t:=t0) (t' := t0) rfl rfl λj r' cL hrd=>by
    obtain⟨y,hy,Bw,_,_⟩:=xO j r' cL;rw[j6];exact hd j y hy (by rw[<-Bw];exact hrd)
   rw[U]
   have:∀(tr:List TR) (q:Nat),cR (λ_=>ar) q tr=[]:=by
    intro tr;induction tr with
    | nil=>intro q;rfl
    | cons r tr ih=>intro q;simp only[cR,dP,cF];exact ih _
   rw[this];rfl
  refine Oper.wp_mono ?_ (tP E a _ _ _ _ listed Q mN EO C2 (λj hj=>EU j (by omega)) mQ hs bq hX (U6 kc));rintro a' w' ⟨E',rfl,dS,j9,ku⟩;refine WM E' a' _ _ rfl ?_ ?_ dS j9 ku
  .rw[hT,hd]
  .rw[Mp];cases tI:ao.op.bB<;>simp
 have next:∀E' u t' s',t' = runT (cR (add S i) 0 tr) t0->s' = eb (cR (add S i) 0 tr) s0->bN E' (cm t' s') (a.put o.dst u)->Fr E E' -> K (a.put o.dst u) E'.w:=λE' u t' s' e1 e2 dS j9 => WM E' _ t' s' rfl e1 e2 dS (bq.trans j9) (hXg _ _ _ _ _ hX j9)
 have dR:=M3;unfold uZ at dR;split at dR
 .simp at dR
 rename_i op jA;have amL:Region.wanted o (yielded ops a.tmps)=run/\op=ao.op/\o.dst=ao.dst:=by
  cases hg:o.guard with
  | none =>
   rw[hg] at dR;simp only[bc] at dR;subst dR;simp only at C6;exact⟨by simp[Region.wanted,hg,C6],rfl,rfl⟩
  | some p =>
   obtain⟨j,want⟩:=p;rw[hg] at dR;simp only at dR;split at dR
   case h_2=>simp at dR
   rename_i g qh;simp only[bc] at dR;subst dR;simp only at C6;refine⟨?_,rfl,rfl⟩;have zq:=Dc g (by simp[z_])
   rcases C6 with ⟨bb,ek,dx⟩ | ⟨ek,dx⟩
   case' inr =>
    rw[ek] at zq;have hR:=G1 hs.slot g undef;have qS : R E (.bH []) (a.tmps.toList.getD g undef):=by
     have:(cm (runT (cR S 0 tr) t0) (eb (cR S 0 tr) s0)).t.getD g .any = .bH []:=zq
     rw[<-this];exact hR
    have hu:=Rb qS;rw[dx];simp only[Region.wanted,hg,yielded,qh,xl];cases hq:a.tmps[g]? with
    | none=>rfl
    | some u =>
     have:u=undef:=by rw[fW] at hu;simp[hq] at hu;exact hu
     rw[this];rfl
   rw[ek] at zq;have hR:=G1 hs.slot g undef;have qS : R E (.bool bb) (a.tmps.toList.getD g undef):=by
    have:(cm (runT (cR S 0 tr) t0) (eb (cR S 0 tr) s0)).t.getD g .any = .bool bb:=zq
    rw[<-this];exact hR
   simp only[R] at qS;have rP:a.tmps[g]?=aa (.bool bb):=by
    rw[fW] at qS;cases hq:a.tmps.toList[g]? with
    | none=>rw[hq] at qS;simp[undef] at qS
    | some u=>rw[hq] at qS;simp at qS;subst qS;simpa using hq
   simp only[Region.wanted,hg,yielded,qh,xl,rP];rw[dx];cases bb<;>cases want<;>rfl
 obtain⟨xY,rfl,mH⟩:=amL;rw[xY];cases kc:run with
 | true =>
  rw[aF rfl];left;refine Oper.wp_mono ?_ (FP (Q:=Q) jA hs (U6 kc));rintro a' w' ⟨E',v,u,aP,rfl,j9,dS,hv,rfl,Df,rfl⟩;subst Df
  have:=bN.put dS hv o.dst
  rw[F8] at this;refine next E' u _ _ ?_ ?_ this j9
  .rw[hT,hd,mH]
  .rw[Mp];cases tI:ao.op.bB<;>simp
 | false =>
  rw[aB (by simp)];obtain⟨hv,hsk⟩:=amD kc
  have:=bN.put hs (v:=.bH []) (x:=undef) KS o.dst
  rw[F8] at this;refine next E undef _ _ ?_ ?_ this (Fr.refl E)
  .rw[hT,hd,mH,hv]
  .rw[Mp];cases tI:ao.op.bB
   .rw[aB (by simp)]
   .simp only[cM];rw[hsk (by rw[he,tI])];exact U_ tI
def count_set:∀(l:List Bool) (i:Nat),l[i]?=aa ar->(l.set i ab).count ar+1=l.count ar
 | [],i,h=>by simp at h
 | x::l,0,h=>by simp at h;subst h;simp
 | x :: l, i + 1, h => by
  simp at h
  have:=count_set l i h
  cases x<;>simp<;>omega
variable{E:Env}{K:St->Prop}{a:Act}{st:St}
def SO{ops:Array Oper}{l:List (AO × List Nat)}{b:List Nat}(F:AD ops l b)(qT:b.length=ops.size)(hf:P.follows .mixedOrders=ab){id:Nat}(h:cJ P l [(st.aE,st.out)] [] K st)(hs:bN E st a){X:Array Bool->Env->Act->Prop}
 (hX0:∀E',X (Array.replicate ops.size ar) E' a)
 (wy:∀(i:Nat) o,ops[i]?=aa o->∃x:AO × List Nat,l[i]?=aa x/\((uZ P ops o=aa x.1/\∀listed E E' a u,X listed E a->Fr E E' -> X (listed.setIfInBounds i ab) E' (a.put o.dst u))\/Spec P l b st.t E X i o x.1)) :
 (Code.region id ops ab).wp P (λe a' w' => ∃E' aP,E'.w=w' /\ bN E' aP a' /\ Fr E E' /\ e = .normal/\K aP) a E.w:=by
 refine wp_region_any hf ?_;obtain⟨bq,_,qm⟩:=Gj hs ((Ext.refl E.w).drew);obtain⟨tr,ht,_,hK⟩:=Ka (t:=st.t) (s:=(st.aE,st.out)) h;have uN:[(st.aE,st.out)]++ly tr=(st.aE,st.out)::ly tr:=rfl;rw[uN] at ht;have hlen:=G4 ht;have key:∀(fuel:Nat) (listed:Array Bool) (a:Act) (w:World),D3 ops tr st.t (st.aE,st.out) E X listed a w->listed.toList.count ar<=fuel ->
  wpAny P .any ops (λe a' w' => ∃E' aP,E'.w=w' /\ bN E' aP a' /\ Fr E E' /\ e = .normal/\K aP) fuel listed a w:=by
  have done:∀(listed:Array Bool) (a:Act) (w:World),D3 ops tr st.t (st.aE,st.out) E X listed a w->Region.ready .any ops listed=[] ->
   ∃E' aP,E'.w=w/\bN E' aP a/\Fr E E' /\ Exit.normal = .normal/\K aP := λlisted a w h hr=>by
   have dq:∀n j,j<n->j<ops.size->listed.getD j ar=true:=by
    intro n;induction n with
    | zero=>intro j h;omega
    | succ n ih =>
     intro j hj mL;cases hq:listed.getD j ar with
     | true=>rfl
     | false =>
      have:j∈Region.ready .any ops listed:=mem_ready.2 ⟨by rw[HV _ _ (by rw[h.size];exact mL)];exact hq,ops[j],np mL,λe he hb=>by
       have:=F.back j _ (np mL) e he hb
       exact ih e.on (by omega) (by omega)⟩
      rw[hr] at this;simp at this
   obtain⟨E',U,h2,h3,_⟩:=h.rel;rw[Y8 (λj hj=>by rw[j6];exact dq (j+1) j (by omega) (by rw[<-F.size,hlen];exact hj))] at h2;exact⟨E',_,U,h2,h3,rfl,hK⟩
  intro fuel;induction fuel with
  | zero =>
   intro listed a w h hc;have hr:Region.ready .any ops listed=[]:=by
    cases hq:Region.ready .any ops listed with
    | nil=>rfl
    | cons j js =>
     obtain⟨U,o,ho,_⟩:=mem_ready.1 (show j∈Region.ready .any ops listed by rw[hq];simp);have aD:j<listed.size:=by rw[h.size];exact(lU.1 ho).1
     have:ar∈listed.toList:=by
      have e:listed[j]?=aa false:=by
       rw[np aD];simpa [aD] using U
      exact rF (by simpa using e)
     have:=List.count_pos_iff.2 this
     omega
   exact⟨hr,done listed a w h hr⟩
  | succ fuel ih =>
   intro listed a w h hc;refine⟨λhr=>done listed a w h hr,λi hi=>?_⟩;refine SP F qT rfl ht h hi (wy i) λa w h' => ih _ a w h' ?_
   obtain⟨U,o,ho,_⟩:=mem_ready.1 hi;have aD:i<listed.size:=by rw[h.size];exact(lU.1 ho).1
   have e:listed.toList[i]?=aa false:=by
    have:listed[i]?=aa false:=by
     rw[np aD];simpa [aD] using U
    simpa using this
   have:=count_set listed.toList i e
   simp only[QB];omega
 have zy:∀j,(Array.replicate ops.size ar).getD j ar=false:=λj=>by
  by_cases hj:j<ops.size<;>simp[hj]
 have mb:∀(tr:List TR) (q:Nat),cR (λj=>(Array.replicate ops.size ar).getD j ar) q tr=[]:=by
  intro tr;induction tr with
  | nil=>intro q;rfl
  | cons r tr ih=>intro q;rw[cR,aB (by rw[zy];simp)];exact ih _
 refine key ops.size _ a _ ⟨by simp,λi o _ hi=>by rw[zy] at hi;simp at hi,{E with w:=E.w.drew},rfl,?_,bq,hX0 _⟩ (by simp);rw[mb];exact qm
def ae3{ops:Array Oper}{l:List (AO × List Nat)}{id:Nat}(hl:I_ P ops=aa l)(h:cJ P l [(st.aE,st.out)] [] K st):
 ju P (.region id ops ab) (λe aP => e = .normal/\K aP) st:=by
 obtain⟨b,F,qT,hf,wy⟩:=aoT hl;intro E a hs;exact SO (X:=λ_ _ _=>True) F qT hf h hs (λ_=>trivial) λi o ho=>by
  obtain⟨x,U,h2⟩:=wy i o ho;exact⟨x,U,.inl ⟨h2,λ_ _ _ _ _ _ _=>trivial⟩⟩
end
section
variable {P:Program} {E:Env} {st:St} {a:Act} {o:Oper} {K:V->St->Prop} {Q:Exit->Act->World->Prop}
variable{c:Array Value}{e:TypeId}{zs:List V}
def Z'(hs:bN E st a)(hr:(execOp a.eval o).run P E.w = .ok (.value (.pointer (aa ⟨E.w.heap.size,0,aj⟩))) (E.w.alloc (.cells c e)))
 (hz:RL E zs c.toList) (nG:bT zs=ab) (hk:∀b,st.out.box b=aj->K (.ptr (.out b) 0) ⟨st.t,st.aE,st.out.set b zs⟩):o.wp P a E.w (ei E a o.dst K) Q:=by
 unfold Oper.wp;rw[hr]
 let E' : Env:={w:=E.w.alloc (.cells c e),bf:=λb=>if b=E.w.heap.size then .rh else E.bf b,aE:=E.aE,aR:=E.aR}
 have hx:Ext E.w E'.w:=(Ext.refl _).alloc _ _;have bq:Fr E E' := zb hs.ok.fresh hx (λb hb=>by simp only[E'];rw[aB (by omega)]) (λ_ _ h=>h);have hle:E.le E' := bq.le λi b h=>h
 have ka:st.out.box E.w.heap.size=none:=by
  cases hq:st.out.box E.w.heap.size with
  | none=>rfl
  | some cs =>
   obtain⟨_,c',e',h3,_⟩:=hs.ok.box _ cs hq
   have:=lK (w:=E.w) h3
   omega
 refine⟨E',_,_,⟨st.t,st.aE,st.out.set E.w.heap.size zs⟩,rfl,bq,⟨⟨?_,?_,?_,hs.ok.nt,λb cs hc=>eU.mono _ bq.nl (hs.ok.b8 b cs hc)⟩,?_,hs.defers,RL.mono _ hle hs.slot⟩,?_,rfl,hk _ ka⟩
 .intro b cs b7;simp only[ah.set] at b7;split at b7
  .rename_i hb;subst hb;simp only[bc] at b7;subst b7;have Fv := RL.qx (E:=E) (E' := E'.nl) _ bq.nl nG hz;have hl:=gj Fv;refine⟨by simp[E'],c,e,heap_alloc_new _ _,by simp at hl;omega,λj x hx=>?_⟩;obtain⟨v,hv,cL⟩:=sk Fv j x hx;exact⟨v,by simpa using hv,cL⟩
  .rename_i hb;obtain⟨U,h2⟩:=hs.ok.box b cs b7;have aD:b<E.w.heap.size:=by obtain⟨c,e,h3,_⟩:=h2;exact lK (w:=E.w) h3
   exact⟨by simp only[E'];rw[aB hb];exact U,h2.mono bq.nl (hx.block b aD)⟩
 .exact hs.ok.aR
 .intro b hb;simp only[E',World.size_alloc] at hb ⊢;rw[aB (by omega)];exact hs.ok.fresh b (by omega)
 .exact rj hs.dv hle (λb i h hb=>⟨by simp only[E'];rw[aB (by omega)];exact h,hx.block b hb⟩) hs.dv.none
 .simp only[R]
variable{t:TypeId}
def aw3(hs:bN E st a)(ho:o.op = .alloc t)(hz:kF P t=aa zs)(hk:aO.bj P st K (.qL zs)):o.wp P a E.w (ei E a o.dst K) Q:=by
 obtain⟨i,z,U,h2,h3,_⟩:=uh hz;refine Z' hs (c:=z.cells) (e:=t) ?_ (sr h3) hk.1 hk.2;simp[execOp,ho,Instr.alloc,zeroValue,typeInfo,U,h2,newVar,newRow]
variable{x:Operand}
def aw7(hs:bN E st a){n:Nat}{y:X}(ho:o.op = .box t x)(hx:R E (ev st y) (a.eval x))(hk:aO.bj P st K (.gS n y)):o.wp P a E.w (ei E a o.dst K) Q:=by
 refine Z' hs (c:=(a.eval x).cells) (e:=t) ?_ (yV hx hk.1).1 hk.2.1 hk.2.2;simp[execOp,ho,Instr.box,newVar,newRow]
def Qn(hs:bN E st a){w1:World}(ID:Ext E.w w1)(amK:w1.heap.size=E.w.heap.size){x:Value}{v:Nat->V}
 (hr:(execOp a.eval o).run P E.w = .ok (.value x) (w1.alloc (.cells c e)))
 (hz:RL E.nl zs c.toList) (hv:R E (v E.w.heap.size) x) (nG:(v E.w.heap.size).c9=ab) (hk:∀b,st.out.box b=aj->K (v b) ⟨st.t,st.aE,st.out.set b zs⟩):o.wp P a E.w (ei E a o.dst K) Q:=by
 unfold Oper.wp;rw[hr]
 let E' : Env:={w:=w1.alloc (.cells c e),bf:=λb=>if b=E.w.heap.size then .rh else E.bf b,aE:=E.aE,aR:=E.aR}
 have hx:Ext E.w E'.w:=ID.alloc _ _;have bq:Fr E E' := zb hs.ok.fresh hx (λb hb=>by simp only[E'];rw[aB (by omega)]) (λ_ _ h=>h);have hle:E.le E' := bq.le λi b h=>h
 have ka:st.out.box E.w.heap.size=none:=by
  cases hq:st.out.box E.w.heap.size with
  | none=>rfl
  | some cs =>
   obtain⟨_,c',e',h3,_⟩:=hs.ok.box _ cs hq
   have:=lK (w:=E.w) h3
   omega
 refine⟨E',_,_,⟨st.t,st.aE,st.out.set E.w.heap.size zs⟩,rfl,bq,⟨⟨?_,?_,?_,hs.ok.nt,λb cs hc=>eU.mono _ bq.nl (hs.ok.b8 b cs hc)⟩,?_,hs.defers,RL.mono _ hle hs.slot⟩,hv.mono _ hle,rfl,hk _ ka⟩
 .intro b cs b7;simp only[ah.set] at b7;split at b7
  .rename_i hb;subst hb;simp only[bc] at b7;subst b7;have Fv : RL E'.nl zs c.toList:=RL.mono _ bq.nl hz;have hl:=gj Fv;refine⟨by simp[E'],c,e,?_,by simp at hl;omega,λj x hx=>?_⟩
   .show(w1.alloc (.cells c e)).heap[E.w.heap.size]?=_;rw[<-amK];exact heap_alloc_new _ _
   .obtain⟨v,hv,cL⟩:=sk Fv j x hx;exact⟨v,by simpa using hv,cL⟩
  .rename_i hb;obtain⟨U,h2⟩:=hs.ok.box b cs b7;have aD:b<E.w.heap.size:=by obtain⟨c,e,h3,_⟩:=h2;exact lK (w:=E.w) h3
   exact⟨by simp only[E'];rw[aB hb];exact U,h2.mono bq.nl (hx.block b aD)⟩
 .exact hs.ok.aR
 .intro b hb;simp only[E',World.size_alloc] at hb ⊢;rw[aB (by omega)];exact hs.ok.fresh b (by omega)
 .exact rj hs.dv hle (λb i h hb=>⟨by simp only[E'];rw[aB (by omega)];exact h,hx.block b hb⟩) hs.dv.none
variable{ty u:TypeId}
def Qm(hs:bN E st a){i:TypeInfo}{z:Value}(ht:P.underlying t=aa (.slice e))(hi:P.info? e=aa i)(hz:i.zero=aa z)(jB:z.cells.size=i.size)
 (oD:i.bytes<=4096) {base:Option Addr} {n cap:Nat} {vx:Value} {m:List (List V)}
 (dk:(execOp a.eval o).run P E.w=((Builtin.append_ #[t,u] ty #[.slice base n cap,vx]).run P E.w).andThen λv w' => .ok (.value v) w')
 {news:List Value} (sJ:Src P E.w i.size m.length u vx news) (tL:RL E.nl m.flatten news) (gp:∀v∈news,v.oneCell' = ab) (hm:∀y∈m,y.length=i.size)
 (hk:AE st.out i.size base n cap m λv D=>K v ⟨st.t,st.aE,D⟩):o.wp P a E.w (ei E a o.dst K) Q:=by
 obtain⟨Bh,lB,qj,E_,qU,qV⟩:=hk;have tJ:=sJ.size;have EX:(n+m.length)*i.bytes<=140737488355328:=by
  have:=GV lB oD
  simp only[aQ] at this;omega
 have Fs:n+m.length<=9223372036854775807:=by simp only[aQ] at lB;omega
 by_cases rQ:m=[]
 .have hK0:K (V.raw (Value.slice base n cap)) st:=E_ rQ;subst rQ
  have:news=[]:=uk (by simpa using tJ)
  subst this;refine dh hs (v:=.raw (.slice base n cap)) (x:=.slice base n cap) ?_ (by simp only[R]) hK0;rw[dk,YD (P:=P) ht hi Bh sJ];rfl
 rcases vF cap (n+m.length) with aD | ql
 .obtain⟨cs,b7,qV⟩:=qV aD;have hold:∃iL:List Value,(Builtin.firstCells i.size n (.slice base n cap)).run P E.w.drew = .ok iL.toArray E.w.drew/\RL E.nl (cs.take (n*i.size)) iL/\iL.length=n*i.size/\(cs.take (n*i.size)).length=n*i.size:=by
   rcases b7 with ⟨rfl,rfl⟩ | ⟨b,rfl,qd,hle⟩
   .refine⟨[],?_,by simp[RL],by simp,by simp⟩;cases base<;>simp[Builtin.firstCells,loadCells,loadCellsFrom]
   .obtain⟨d_,c,e',fB,hlen,qe⟩:=hs.ok.box b cs qd;have fB:E.w.heap[b]?=aa (.cells c e' (0,0)):=fB;refine⟨c.toList.take (n*i.size),?_,Ee (by simp;omega) λj x u hx hu=>?_,by simp;omega,by simp;omega⟩
    .have hl:(c.toList.take (n*i.size)).length=n*i.size:=by simp;omega
     have:=run_loadCells_list (P:=P) E.w.drew ⟨b,0,aj⟩ (c.toList.take (n*i.size)) (λj v hv=>by
      rw[my];have H8 : E.w.drew.heap[b]?=aa (.cells c e' (0,0)):=fB;have hj:j<n*i.size:=by have:=(fy.1 hv).1;omega
      rw[yP hj] at hv;simpa [World.cell?,H8] using hv)
     rw[hl] at this;simp only[Builtin.firstCells];exact this
    .have hj:j<n*i.size:=by have:=(fy.1 hx).1;simp at this;omega
     rw[yP hj] at hx;rw[yP hj] at hu;obtain⟨v,U,h2⟩:=qe j x hx
     have:v=u:=by simp at hu;rw[hu] at U;simpa using U.symm
     exact this▸h2
  obtain⟨iL,Fi,tM,pB,ho4⟩:=hold;have rO:=grownCap_ge E.w (n+m.length) cap e;have hr:(execOp a.eval o).run P E.w = .ok (.value (.slice (aa ⟨E.w.heap.size,0,aj⟩) (n+m.length) (grownCap E.w (n+m.length) cap e)))
   (E.w.drew.alloc (.cells (iL++(news++(Builtin.zeroCells z.cells (grownCap E.w (n+m.length) cap e - (n+m.length))).toList)).toArray e)):=by
   rw[dk,Pn (P:=P) ht hi hz Fi sJ aD EX Fs];rfl
  have Nu:(Builtin.zeroCells z.cells (grownCap E.w (n+m.length) cap e - (n+m.length))).toList.length=(grownCap E.w (n+m.length) cap e - (n+m.length))*i.size:=by
   simp only[Ck,size_zeroCells,jB]
  generalize grownCap E.w (n+m.length) cap e=nc at hr rO Nu;generalize (Builtin.zeroCells z.cells (nc - (n+m.length))).toList=rest at hr Nu;refine Qn hs (v:=λb=>.raw (.slice (aa ⟨b,0,aj⟩) (n+m.length) nc)) (zs:=cs.take (n*i.size)++m.flatten++aq ((nc - (n+m.length))*i.size) .any) ((Ext.refl E.w).drew) rfl hr ?_ (by simp only[R]) rfl (λb hb=>qV b nc hb rO);simp only[eN];refine vH tM (vH tL ?_);rw[<-Nu];exact Q_ rest
 .obtain⟨b,cs,rfl,qd,qg,hK⟩:=qU rQ ql;obtain⟨d_,c,e',fB,hlen,qe⟩:=hs.ok.box b cs qd;have fB:E.w.heap[b]?=aa (.cells c e' (0,0)):=fB;have l_:=n7 hm;have MN : n*i.size+news.length<=c.size:=by rw[tJ];omega
  have kc:=Po (P:=P) (ty:=ty) ht hi fB sJ gp ql MN;have bq:=HR (E:=E) (new:=(c.toList.take (n*i.size)++news++c.toList.drop (n*i.size+news.length)).toArray) fB (.inr d_) (by simp;omega);have hle:=bq.le λ_ _ h=>h
  have iv:=setRow_heap E.w b c (c.toList.take (n*i.size)++news++c.toList.drop (n*i.size+news.length)).toArray e' _ fB;have Bg:=Hn (E' := Env.nl {E with w:=E.w.setRow b (c.toList.take (n*i.size)++news++c.toList.drop (n*i.size+news.length)).toArray}) hlen
   (λj x hj=>let ⟨u,U,h2⟩:=qe j x hj;⟨u,U,h2.mono _ bq.nl⟩) (RL.mono _ bq.nl tL) (by omega) iv
  generalize (c.toList.take (n*i.size)++news++c.toList.drop (n*i.size+news.length)).toArray=new at kc iv bq hle Bg;have j_ : ∀b',b' ≠ b->(E.w.setRow b new).heap[b']?=E.w.heap[b']?:=λb' a9=>setRow_other E.w b b' new a9
  unfold Oper.wp;rw[dk,kc];refine⟨{E with w:=E.w.setRow b new},.raw (.slice (aa ⟨b,0,aj⟩) (n+m.length) cap),.slice (aa ⟨b,0,aj⟩) (n+m.length) cap,⟨st.t,st.aE,st.out.set b (setAt cs (n*i.size) m.flatten)⟩,rfl,bq,⟨⟨?_,hs.ok.aR,λb' cC => hs.ok.fresh b' (by simpa using cC),hs.ok.nt,λb cs hc=>eU.mono _ bq.nl (hs.ok.b8 b cs hc)⟩,
   rj hs.dv hle (λb' i hr _=>⟨hr,j_ b' (by rintro rfl;rw[d_] at hr;simp at hr)⟩) hs.dv.none,hs.defers,RL.mono _ hle hs.slot⟩,by simp only[R],rfl,hK⟩
  intro b' ds kV
  by_cases cQ:b' = b
  .subst cQ;rw[ah.eW] at kV;simp only[bc] at kV;subst kV;exact⟨d_,Bg⟩
  .rw[ah.eY _ _ cQ] at kV;obtain⟨k1,k2⟩:=hs.ok.box b' ds kV;exact⟨k1,k2.mono bq.nl (j_ b' cQ)⟩
variable{k:Nat}
def apf{z:Array Value}{n:Nat}(hz:z.size=k)(hk:0<k):(madeCells z (n*k)).toList=(aq n z.toList).flatten:=by
 apply QT;intro j;have e:∀(n j:Nat),j<n*k->(aq n z.toList).flatten[j]?=z[j % k]?:=by
  intro n;induction n with
  | zero=>intro j hj;simp at hj
  | succ n ih =>
   intro j hj;rw[AM,lV]
   by_cases h:j<k
   .rw[qJ (by simpa [hz] using h),Q4 h];simp
   .rw[AK (by simp[hz];omega)];have hl:z.toList.length=k:=by simpa using hz
    have iP : j - k<n*k:=by rw[jw,xi] at hj;omega
    rw[hl,ih (j - k) iP,show(j - k) % k=j % k from(Nat.mod_eq_sub_mod (by omega)).symm]
 by_cases hj:j<n*k
 .rw[e n j hj];have hm:j % k<z.size:=by rw[hz];exact Nat.mod_lt _ hk
  rw[getElem?_pos z _ hm];have hg:z[j % k]! = z[j % k]:=getElem!_pos z (j % k) hm;simp[madeCells,hj,hz,hg]
 .rw[xe (by simp[madeCells];omega),xe (by simp[hz];omega)]
def Pt:Operand->Operand->Bool
 | .tmp a,.tmp b=>decide (a=b)
 | .const (.int k a),.const (.int k' b)=>decide (k=k')&&decide (a=b)
 | _,_=>ar
def auo{y:Operand}(h:Pt x y=ab):x=y:=by
 unfold Pt at h;split at h
 .simp at h;rw[h]
 .simp at h;rw[h.1,h.2]
 .simp at h
variable{d:Nat}
def AY{b:Option X}{vs:List V}{K:Nat->List V->Prop}(h:lZ b.isSome d (dw st b.toList++vs) K):∃m,K m vs/\match (generalizing:=false) b with | none=>m=d | some y=>∃j,ev st y = .int j m:=by
 cases b with
 | none=>simp only[Option.isSome,Option.toList,dw,gQ,lZ] at h;exact⟨d,h,rfl⟩
 | some y =>
  simp only[Option.isSome,Option.toList,dw,il,gQ] at h;unfold lZ at h;split at h
  .rename_i e;simp at e
  .rename_i j n r e1 e2;simp only[iE] at e2;obtain⟨e3,rfl⟩:=e2;exact⟨n.toNat,h.2,j,by rw[e3];simp;omega⟩
  .exact h.elim
def HH{xs ys:List X}:dw st (xs++ys)=dw st xs++dw st ys:=by
 induction xs with
 | nil=>rfl
 | cons x xs ih=>simp[dw,ih]
def Oe(P:Program)(o:Oper):Option aO :=
 match o.op with
 | .move (.const (.slice aj 0 0)) | .assign (.const (.slice aj 0 0))=>aa (.own .nil [])
 | .makeSlice t l c =>
  if Pt l c=ab then
   match P.underlying t with
   | some (.slice e) =>
    match P.info? e,kF P e,cS P 0 l with
    | some i,aa z,aa x=>if i.bytes<=4096/\0<i.size/\z.length=i.size then aa (.own (.mk z) [x]) else aj
    | _,_,_=>aj
   | _=>aj
  else aj
 | .buildSlice t len ps =>
  match P.underlying t with
  | some (.slice e) =>
   match eQ P e,kF P e,jO P (aq len e) (ps.toList.map (·.2)) with
   | some k,aa _,aa xs=>if ps.toList.map (·.1)=bA len/\len*k<=16777216 then aa (.own (.mS k) xs) else aj
   | _,_,_=>aj
  | _=>aj
 | .slice t x lo hi mx =>
  match P.underlying t with
  | some (.slice e) =>
   match cS P t x,lJ P t lo,lJ P t hi,lJ P t mx,eQ P e with
   | some x,aa lo,aa hi,aa mx,aa k=>if mx.isSome=ab->hi.isSome=ab then aa (.own (.lT k lo.isSome hi.isSome mx.isSome) (x::(lo.toList++hi.toList++mx.toList))) else aj
   | _,_,_,_,_=>aj
  | _=>aj
 | .indexAddr t x i =>
  match P.underlying t,cS P t x,cS P t i with
  | some (.slice e),aa x,aa i=>(eQ P e).map λk=>.own (.idx k) [x,i]
  | _,_,_=>aj
 | .call c =>
  match c.callee with
  | .builtin .len =>
   match c.argTypes.toList,c.args.toList with
   | [t], [x] =>
    match P.underlying t,cS P t x with
    | some (.slice _),aa y=>aa (.own .len [y])
    | _,_=>aj
   | _,_=>aj
  | .builtin .append =>
   match c.argTypes.toList,c.args.toList with
   | [t, u], [s, x] =>
    match P.underlying t,P.underlying u,cS P t s,cS P u x with
    | some (.slice e), aa (.slice e'), aa s, aa x =>
     match P.info? e,kF P e with
     | some i,aa _=>if e=e' /\ i.bytes<=4096/\0<i.size then aa (.own (.app i.size) [s,x]) else aj
     | _,_=>aj
    | _,_,_,_=>aj
   | _,_=>aj
  | _=>aj
 | _=>aj
variable{ao:aO}
def aru(hl:Oe P o=aa ao)(hs:bN E st a)(h:ao.bj P st K):o.wp P a E.w (ei E a o.dst K) Q:=by
 have X:=λ{t:TypeId} {x:Operand} {y:X} (hx:cS P t x=aa y)=>o9 (E:=E) (st:=st) (a:=a) hs.slot hx
 unfold Oe at hl;split at hl
 .rename_i ho;simp only[bc] at hl;subst hl;refine dh hs (v:=.raw (.slice aj 0 0)) (x:=.slice aj 0 0) ?_ (by simp only[R]) h;simp[execOp,ho,Act.eval]
 .rename_i ho;simp only[bc] at hl;subst hl;refine dh hs (v:=.raw (.slice aj 0 0)) (x:=.slice aj 0 0) ?_ (by simp only[R]) h;simp[execOp,ho,Act.eval]
 .rename_i t l c ho;split at hl
  case isFalse=>simp at hl
  rename_i Fe;have Fe:=auo Fe;subst Fe;split at hl
  case h_2=>simp at hl
  rename_i e ht;split at hl
  case h_2=>simp at hl
  rename_i i z x hi hz hx;split at hl
  case isFalse=>simp at hl
  rename_i hc;simp only[bc] at hl;subst hl;obtain⟨i',z',q1,q2,q3,q4⟩:=uh hz;obtain rfl:i=i' := by rw[hi] at q1;simpa using q1
  have ku := X hx;simp only[aO.bj,dw] at h;unfold OQ.bj at h;split at h<;>try (exfalso;simp_all;done)
  .rename_i z0 k n e1 e2;simp only[OQ.mk.injEq] at e1;subst e1;simp only[iE,im] at e2;rw[e2] at ku;simp only[R] at ku;obtain⟨g1,g2,g3,g4,g5⟩:=h;have jB:z'.cells.size=i.size:=by have:=gj (sr (E:=E) q3);simp at this;omega
   have dk:=run_make (P:=P) E.w t e i z' ht hi q2 k k n n g1 (Kr _) (by
    have:(i.bytes:Int)*n<=4096*aQ:=Int.mul_le_mul (by omega) (by omega) g1 (by omega)
    simp only[aQ] at this;omega) (by simp only[aQ] at g2;omega)
   refine Qn hs (w1:=E.w) (Ext.refl _) rfl (v:=λb=>.raw (.slice (aa ⟨b,0,aj⟩) n.toNat n.toNat)) (zs:=(aq n.toNat z).flatten) (x:=.slice (aa ⟨E.w.heap.size,0,aj⟩) n.toNat n.toNat) (c:=madeCells z'.cells (n.toNat*i.size)) (e:=e) ?_ ?_ (by simp only[R]) rfl (λb hb=>g5 b hb)
   .simp[execOp,ho,ku,dk]
   .rw[apf jB hc.2.1];have hr:=sr (E:=E.nl) q3;induction n.toNat with
    | zero=>simp[RL]
    | succ m ih=>simp only[AM,lV];exact vH hr ih
 .rename_i t len ps ho;split at hl
  case h_2=>simp at hl
  rename_i e ht;split at hl
  case h_2=>simp at hl
  rename_i k z xs hk hz qZ;split at hl
  case isFalse=>simp at hl
  rename_i hc;simp only[bc] at hl;subst hl;simp only[aO.bj] at h;unfold OQ.bj at h;split at h<;>try (exfalso;simp_all;done)
  .rename_i k0 vs e1;simp only[OQ.mS.injEq] at e1;subst e1;obtain⟨l,U,h2⟩:=h;exact Z4 hs ho ht hk hz hc.1 hc.2 (NR (E:=E) hs.slot qZ U) h2
 .rename_i t x lo hi mx ho;split at hl
  case h_2=>simp at hl
  rename_i e ht;split at hl
  case h_2=>simp at hl
  rename_i x' o8 dt mx' k U h2 h3 h4 hk;split at hl
  case isFalse=>simp at hl
  rename_i wz;simp only[bc] at hl;subst hl;have hx:=X U;simp only[aO.bj,dw] at h;unfold OQ.bj at h;split at h<;>try (exfalso;simp_all;done)
  .rename_i k0 b1 b2 b3 base n cap vs e1 e2;simp only[OQ.lT.injEq] at e1;obtain⟨rfl,rfl,rfl,rfl⟩:=e1;simp only[iE] at e2;obtain⟨e2,rfl⟩:=e2;rw[e2] at hx;simp only[R] at hx;rw[HH,HH,eN] at h;obtain⟨m,h,g1⟩:=AY h;obtain⟨hh,h,g2⟩:=AY h;rw[<-eD (dw st mx'.toList)] at h;obtain⟨M,h,g3⟩:=AY h;obtain⟨_,k1,k2,k3,h⟩:=h;have hb:=Pp (P:=P) hs h2 h3 h4 wz g1 g2 g3 k1 k2 k3;refine dh hs (v:=.raw _) (x:=.slice (if M=m then base else base.map (·.add (m*k))) (hh - m) (M - m)) ?_ (by simp only[R]) h;simp only[execOp,ho,Sem.run_bind,hx];simp[Instr.sliceAt,run_underlying ht,Instr.slice,hb,pK hk]
 .rename_i t x i ho;split at hl
  case h_2=>simp at hl
  rename_i e x' i' ht U h2;simp only[dn] at hl;obtain⟨k,hk,rfl⟩:=hl;have hx:=X U;have hi:=X h2;simp only[aO.bj,dw] at h;unfold OQ.bj at h;split at h<;>try (exfalso;simp_all;done)
  .rename_i k0 b off n cap kk j e1 e2;simp only[OQ.idx.injEq] at e1;subst e1;simp only[iE,im] at e2;obtain⟨e2,e3⟩:=e2;rw[e2] at hx;rw[e3] at hi;simp only[R] at hx hi;obtain⟨g1,g2,h⟩:=h;refine dh hs (v:=.ptr (.out b) (off+j.toNat*k)) (x:=.pointer (aa ⟨b,off+j.toNat*k,aj⟩)) ?_ (by simp only[R]) h;simp[execOp,ho,hx,hi,Instr.indexAt,asIntOf,run_underlying ht,g1,g2,pK hk,my]
 .rename_i c ho;obtain⟨callee,args,argTypes⟩:=c;simp only at hl;split at hl
  .split at hl
   case h_2=>simp at hl
   rename_i t x ht hx;have e1:argTypes=#[t]:=by cases argTypes;simpa using ht
   have e2:args=#[x]:=by cases args;simpa using hx
   subst e1;subst e2;split at hl
   case h_2=>simp at hl
   rename_i e y hu U;simp only[bc] at hl;subst hl;have hx:=X U;simp only[aO.bj,dw] at h;unfold OQ.bj at h;split at h<;>try (exfalso;simp_all;done)
   .rename_i base n cap e1 e2;simp only[iE,im] at e2;rw[e2] at hx;simp only[R] at hx;refine dh hs (v:=.int .i64 n) (x:=.int .i64 n) ?_ (by simp only[R]) h;simp[execOp,ho,resolve,invoke,builtin,Builtin.len_,run_underlying hu,hx,goInt]
  .split at hl
   case h_2=>simp at hl
   rename_i t u s x ht hx;have e1:argTypes=#[t,u]:=by cases argTypes;simpa using ht
   have e2:args=#[s,x]:=by cases args;simpa using hx
   subst e1;subst e2;split at hl
   case h_2=>simp at hl
   rename_i e e' s' x' hu Bs dS ku;split at hl
   case h_2=>simp at hl
   rename_i i z hi hz;split at hl
   case isFalse=>simp at hl
   rename_i hc;simp only[bc] at hl;subst hl;obtain⟨rfl,oD,iw⟩:=hc;obtain⟨i',z',q1,q2,q3,q4⟩:=uh hz;obtain rfl:i=i' := by rw[hi] at q1;simpa using q1
   have jB:z'.cells.size=i.size:=by have:=gj (sr (E:=E) q3);simp at this;omega
   have wB:=X dS;have gq:=X ku;simp only[aO.bj,dw] at h;unfold OQ.bj at h;split at h<;>try (exfalso;simp_all;done)
   .rename_i k0 base n cap tk k1 m e1 e2;simp only[OQ.app.injEq] at e1;subst e1;simp only[iE,im] at e2;obtain⟨e2,e3⟩:=e2;obtain⟨rfl,h⟩:=h;rw[e2] at wB;rw[e3] at gq;obtain⟨news,g1,g2,g3,g4⟩:=JQ (P:=P) Bs gq;simp only[R] at wB;refine Qm hs hu hi q2 jB oD (ty:=o.type) (vx:=a.eval x) ?_ g1 g2 g3 g4 h;simp[execOp,ho,resolve,invoke,builtin,wB]
  .simp at hl
 .simp at hl
def Od(P:Program)(h:List Nat)(o:Oper):Option aO :=
 match o.dst with
 | some d =>
  if h.contains d=ab then
   match o.op with
   | .alloc t=>(kF P t).map .qL
   | .box t x=>match eQ P t,cS P t x with | some n,aa y=>aa (.gS n y) | _,_=>aj
   | _=>match Oe P o with | some x=>aa x | none=>zP P o
  else zP P o
 | none=>zP P o
def aoX{h:List Nat}(hl:Od P h o=aa ao)(hs:bN E st a)(hk:ao.bj P st K):o.wp P a E.w (ei E a o.dst K) Q:=by
 unfold Od at hl;split at hl
 case h_2=>exact FP hl hs hk
 split at hl
 case isFalse=>exact FP hl hs hk
 split at hl
 .rename_i t ho;simp only[dn] at hl;obtain⟨z,U,rfl⟩:=hl;exact aw3 hs ho U hk
 .rename_i t x ho;split at hl
  case h_2=>simp at hl
  rename_i n y hn hy;simp only[bc] at hl;subst hl;exact aw7 hs ho (o9 hs.slot hy) hk
 .split at hl
  .rename_i x hx;simp only[bc] at hl;subst hl;exact aru hx hs hk
  .exact FP hl hs hk
end
structure Co(E:Env)(Z k:Nat)(l:List (List V))(b cap:Nat):Prop where
 aR:E.aR Z=aa l.length
 bf:E.bf b = .hZ Z (l.length*k)
 RT:∃cs e,E.w.heap[b]?=aa (.cells cs e (0,0))/\cs.size=cap*k
 cap:l.length+1<=cap
 vY:gv E.nl k l b 0
variable{E:Env}{b cap k Z:Nat}
def Co.mono{E':Env}{l:List (List V)}(h:Co E Z k l b cap)(hf:Fr E E')(ht:E'.aR Z=aa l.length):Co E' Z k l b cap:=by
 obtain⟨n',U,_,h3⟩:=hf.tok Z _ h.aR;rw[ht] at U;simp only[bc] at U;obtain⟨r1,r2⟩:=h3 U.symm b _ h.bf;obtain⟨cs,e,k1,k2⟩:=h.RT;obtain⟨cs',q1,q2⟩:=r2 cs e k1;exact⟨ht,r1,⟨cs',e,q1,q2.trans k2⟩,h.cap,gv.mono _ hf.nl h.vY⟩
section
variable {P:Program} {E:Env} {st:St} {a:Act} {o:Oper}
variable{e t ty u:TypeId}
def amw(hs:bN E st a){i:TypeInfo}{z:Value}(ht:P.underlying t=aa (.slice e))(hi:P.info? e=aa i)(hz:i.zero=aa z)(jB:z.cells.size=i.size)
 (oD:i.bytes<=4096) {vs vx:Value} {Z:Nat} {l:List (List V)}
 (dk:(execOp a.eval o).run P E.w=((Builtin.append_ #[t,u] ty #[vs,vx]).run P E.w).andThen λv w' => .ok (.value v) w')
 (bx:R E (.sl (.tk Z) i.size l) vs) {news:List Value} (sJ:Src P E.w i.size 1 u vx news) (gp:∀v∈news,v.oneCell' = ab)
 (lB:l.length+1<=aQ) (hE:E.aR Z=aa l.length) :
 ∃b cap E',Co E' Z i.size l b cap/\(execOp a.eval o).run P E.w = .ok (.value (.slice (aa ⟨b,0,aj⟩) (l.length+1) cap)) E'.w/\Fr E E' /\ bN E' st a/\(∀j,E'.aE j=E.aE j):=by
 simp only[R] at bx;obtain⟨base,cap,rfl,Bh,mI,wC⟩:=bx;obtain⟨iL,hold,Mn,Mb,dR,hlen⟩:=W1 (P:=P) (cap:=cap) mI;have EX:(l.length+1)*i.bytes<=140737488355328:=by
  have:=GV lB oD
  simp only[aQ] at this;omega
 have Fs:l.length+1<=9223372036854775807:=by simp only[aQ] at lB;omega
 have tJ:=sJ.size;obtain⟨n',U,_,h3⟩:=wC;rw[hE] at U;simp only[bc] at U;subst U
 rcases vF cap (l.length+1) with aD | ql
 .have rO:=grownCap_ge E.w (l.length+1) cap e;have size:(iL++(news++(Builtin.zeroCells z.cells (grownCap E.w (l.length+1) cap e - (l.length+1))).toList)).toArray.size=grownCap E.w (l.length+1) cap e*i.size:=by
   simp only[Q2,bM,Ck,size_zeroCells,jB,hlen,tJ];rw[<-GS,<-jw,<-jw];congr 1;omega
  have hr:=Pn (P:=P) (ty:=ty) ht hi hz hold sJ aD EX Fs;generalize grownCap E.w (l.length+1) cap e=nc at hr rO size;generalize news++(Builtin.zeroCells z.cells (nc - (l.length+1))).toList=rest at hr size
  let E' : Env:={w:=E.w.drew.alloc (.cells (iL++rest).toArray e),bf:=λb=>if b=E.w.heap.size then .hZ Z (l.length*i.size) else E.bf b,aE:=E.aE,aR:=E.aR}
  have hx:Ext E.w E'.w:=((Ext.refl _).drew).alloc _ _;have iv:∀b,b<E.w.heap.size->E'.bf b=E.bf b:=λb hb=>by simp only[E'];rw[aB (by omega)]
  have bq:Fr E E' := zb hs.ok.fresh hx iv (λ_ _ h=>h);have hle:E.le E' := bq.le λ_ _ h=>h
  have Nk:E'.w.heap.size=E.w.heap.size+1:=by simp[E']
  have tK:E'.w.heap[E.w.heap.size]?=aa (.cells (iL++rest).toArray e (0,0)):=heap_alloc_new E.w.drew _;have fT:E'.bf E.w.heap.size = .hZ Z (l.length*i.size):=by simp[E']
  refine⟨E.w.heap.size,nc,E',⟨hE,fT,⟨_,_,tK,size⟩,rO,G0 dR (RL.mono _ bq.nl Mn) Mb tK (λj hj=>by rw[fT];simpa [fz.iX] using hj)⟩,?_,bq,⟨?_,?_,hs.defers,RL.mono _ hle hs.slot⟩,λ_=>rfl⟩
  .rw[dk,hr];rfl
  .refine Dw hs.ok bq.nl (λb h hb=>⟨by rw[iv b hb];exact h,hx.block b hb⟩) (λ_ _ h=>h) (λb hb=>?_) hs.ok.nt;rw[Nk] at hb;simp only[E'];rw[aB (by omega)];exact hs.ok.fresh b (by omega)
  .exact rj hs.dv hle (λb i' h hb=>⟨by rw[iv b hb];exact h,hx.block b hb⟩) hs.dv.none
 .rcases h3 rfl with hc | ⟨b,cs,e',rfl,d_,fB,c8⟩
  .omega
  .have qg:l.length*i.size+news.length<=cs.size:=by
    rw[tJ,c8,<-jw];exact sd _ ql
   have kc:=Po (P:=P) (ty:=ty) ht hi fB sJ gp ql qg;have wo:∀j:Nat,j<l.length*i.size->(cs.toList.take (l.length*i.size)++news++cs.toList.drop (l.length*i.size+news.length)).toArray[j]?=cs[j]?:=λj hj=>by
    have:=Gi (c:=cs.toList) (vs:=news) (off:=l.length*i.size) (by simpa using qg) j
    rw[aF hj] at this;simpa using this
   have tQ:(cs.toList.take (l.length*i.size)++news++cs.toList.drop (l.length*i.size+news.length)).toArray.size=cs.size:=by
    simp;omega
   generalize (cs.toList.take (l.length*i.size)++news++cs.toList.drop (l.length*i.size+news.length)).toArray=new at kc wo tQ
   let E' : Env:={E with w:=E.w.setRow b new}
   have jn:∀b',b' ≠ b->E'.w.heap[b']?=E.w.heap[b']?:=λb' a9=>setRow_other E.w b b' new a9
   have cC : E'.w.heap[b]?=aa (.cells new e' (0,0)):=setRow_heap E.w b cs new e' _ fB;have a9:∀b' r,E.bf b' = r->(∀c,r≠.hZ Z c)->b' ≠ b:=λb' r h h' => by rintro rfl;rw[d_] at h;exact h' _ h.symm
   have bq:Fr E E' := by
    refine⟨rfl,rfl,rfl,by simp[E'],EG fB,?_,?_,?_,λ_ _ h=>.inl h,λ_ _ c _ h=>⟨c,h⟩,λ_ i _ h=>⟨i,h⟩,λb' c' CP hc=>by
     by_cases cQ:b' = b
     .subst cQ;rw[fB] at hc;simp only[bc,Obj.cells.injEq] at hc;obtain⟨rfl,rfl,_⟩:=hc;exact⟨new,cC,tQ⟩
     .exact⟨c',(jn b' cQ).trans hc,rfl⟩⟩
    .intro b' o' c hc hv
     by_cases cQ:b' = b
     .subst cQ;refine⟨hc,?_⟩;rw[d_] at hc;simp only[fz.iX] at hc;simp only[World.cell?,fB] at hv;simp only[World.cell?,cC,wo _ hc];exact hv
     .exact⟨hc,by rw[CH (jn b' cQ)];exact hv⟩
    .intro t n hn;refine⟨n,hn,bY _,λ_ b' c Bf=>⟨Bf,λcs' CP b7=>?_⟩⟩
     by_cases cQ:b' = b
     .subst cQ;rw[fB] at b7;simp only[bc,Obj.cells.injEq] at b7;obtain⟨rfl,rfl,_⟩:=b7;exact⟨new,cC,tQ⟩
     .exact⟨cs',by rw[jn b' cQ];exact b7,rfl⟩
    .intro b' _ hr;have cQ:b' ≠ b:=by rcases hr with hr | hr<;>exact a9 b' _ hr (λc h=>by simp at h)
     exact⟨jn b' cQ,rfl⟩
   have hle:E.le E' := bq.le λ_ _ h=>h
   have Fg:gv E.nl i.size l b 0:=by
    rcases mI with h | ⟨b2,o2,h,hr⟩
    .subst h;simp[gv]
    .simp only[bc,Addr.mk.injEq] at h;obtain⟨rfl,rfl,_⟩:=h;exact hr
   refine⟨b,cap,E',⟨hE,d_,⟨new,e',cC,tQ.trans c8⟩,ql,gv.mono _ bq.nl Fg⟩,?_,bq,⟨?_,?_,hs.defers,RL.mono _ hle hs.slot⟩,λ_=>rfl⟩
   .rw[dk,kc];rfl
   .exact Dw hs.ok bq.nl (λb' hr _=>⟨hr,jn b' (a9 b' _ hr (λc h=>by simp at h))⟩) (λ_ _ h=>h) (λb' rM => hs.ok.fresh b' (by simpa [E'] using rM)) hs.ok.nt
   .exact rj hs.dv hle (λb' i' hr _=>⟨hr,jn b' (a9 b' _ hr (λc h=>by simp at h))⟩) hs.dv.none
def amz(hs:bN E st a){l:List (List V)}(hh:Co E Z k l b cap)(hn:eQ P t=aa k){xs:List V}{v:Value}(hx:RL E.nl xs v.cells.toList)(hv:v.cells.size=k)(U:∀u∈v.cells.toList,u.oneCell' = ab):
 ∃E',(storeVar t ⟨b,l.length*k,aj⟩ v).run P E.w = .ok () E'.w/\Fr E E' /\ bN E' ⟨st.t,st.aE,st.out.a_ Z (l.length+1)⟩ a /\
  R E'.nl (.sl (.tk Z) k (l++[xs])) (.slice (aa ⟨b,0,aj⟩) (l.length+1) cap)/\(∀j,E'.aE j=E.aE j):=by
 obtain⟨cs,e',fB,c8⟩:=hh.RT;have d_:=hh.bf;have hE:=hh.aR;have ql:=hh.cap;obtain⟨dR,_⟩:=sj.1 hh.vY;have xZ:xs.length=k:=by have:=gj hx;simp at this;omega
 have kc:=Pq (P:=P) (off:=l.length*k) hn fB hv (by rw[c8,<-GW];exact sd _ ql) U;generalize tL:v.cells.toList=news at hx U kc;have tJ:news.length=k:=by rw[<-tL];simpa using hv
 have qg:l.length*k+news.length<=cs.size:=by rw[tJ,c8,<-GW];exact sd _ ql
 have wo:∀j:Nat,(cs.toList.take (l.length*k)++news++cs.toList.drop (l.length*k+k)).toArray[j]?=if j<l.length*k then cs[j]? else if j<l.length*k+news.length then news[j - l.length*k]? else cs[j]?:=λj=>by
  have:=Gi (c:=cs.toList) (vs:=news) (off:=l.length*k) (by simpa using qg) j
  rw[tJ] at this ⊢;simpa using this
 have tQ:(cs.toList.take (l.length*k)++news++cs.toList.drop (l.length*k+k)).toArray.size=cs.size:=by
  simp;omega
 generalize (cs.toList.take (l.length*k)++news++cs.toList.drop (l.length*k+k)).toArray=new at kc wo tQ;have alL:l.length*k<=(l.length+1)*k:=sd _ (by omega)
 let E' : Env:={w:=E.w.setRow b new,bf:=λb' => if b' = b then .hZ Z ((l.length+1)*k) else E.bf b',aE:=E.aE,aR:=λt=>if t=Z then aa (l.length+1) else E.aR t}
 have jn:∀b',b' ≠ b->E'.w.heap[b']?=E.w.heap[b']?:=λb' a9=>setRow_other E.w b b' new a9
 have nK:∀b',b' ≠ b->E'.bf b' = E.bf b' := λb' a9=>by simp only[E'];rw[aB a9]
 have cC : E'.w.heap[b]?=aa (.cells new e' (0,0)):=setRow_heap E.w b cs new e' _ fB;have qX:E'.bf b = .hZ Z ((l.length+1)*k):=by simp[E']
 have a9:∀b' r,E.bf b' = r->(∀c,r≠.hZ Z c)->b' ≠ b:=λb' r h h' => by rintro rfl;rw[d_] at h;exact h' _ h.symm
 have bq:Fr E E' := by
  refine⟨rfl,rfl,rfl,by simp[E'],EG fB,?_,?_,?_,?_,?_,?_,λb' c' CP hc=>by
   by_cases cQ:b' = b
   .subst cQ;rw[fB] at hc;simp only[bc,Obj.cells.injEq] at hc;obtain⟨rfl,rfl,_⟩:=hc;exact⟨new,cC,tQ⟩
   .exact⟨c',(jn b' cQ).trans hc,rfl⟩⟩
  .intro b' o' c hc hv
   by_cases cQ:b' = b
   .subst cQ;rw[d_] at hc;simp only[fz.iX] at hc;refine⟨by rw[qX];simp only[fz.iX];omega,?_⟩;simp only[World.cell?,fB] at hv;simp only[World.cell?,cC,wo,aF hc];exact hv
   .exact⟨by rw[nK b' cQ];exact hc,by rw[CH (jn b' cQ)];exact hv⟩
  .intro t n hn
   by_cases sK:t=Z
   .subst sK;rw[hE] at hn;simp only[bc] at hn;exact⟨l.length+1,by simp[E'],by omega,λh=>by omega⟩
   .refine⟨n,by simp only[E'];rw[aB sK];exact hn,bY _,λ_ b' c Bf=>?_⟩;have cQ:b' ≠ b:=a9 b' _ Bf (λc' h=>by simp at h;exact sK h.1);exact⟨by rw[nK b' cQ];exact Bf,λcs' CP b7=>⟨cs',by rw[jn b' cQ];exact b7,rfl⟩⟩
  .intro b' _ hr;have cQ:b' ≠ b:=by rcases hr with hr | hr<;>exact a9 b' _ hr (λc h=>by simp at h)
   exact⟨jn b' cQ,nK b' cQ⟩
  .intro b' _ h;have cQ:b' ≠ b:=by rintro rfl;rw[qX] at h;simp at h
   rw[nK b' cQ] at h;exact .inl h
  .intro b' t c _ h
   by_cases cQ:b' = b
   .subst cQ;rw[qX] at h;simp at h;obtain⟨rfl,_⟩:=h;exact⟨_,d_⟩
   .rw[nK b' cQ] at h;exact⟨c,h⟩
  .intro b' i' _ h;have cQ:b' ≠ b:=by rintro rfl;rw[qX] at h;simp at h
   rw[nK b' cQ] at h;exact⟨_,h⟩
 have hle:E.le E' := bq.le λ_ _ h=>h
 refine⟨E',kc,bq,⟨⟨?_,?_,?_,?_,λb cs hc=>eU.mono _ bq.nl (hs.ok.b8 b cs hc)⟩,?_,hs.defers,RL.mono _ hle hs.slot⟩,?_,λ_=>rfl⟩
 .intro b' cs' b7;obtain⟨k1,k2⟩:=hs.ok.box b' cs' b7;have cQ:b' ≠ b:=a9 b' _ k1 (λc h=>by simp at h);exact⟨by rw[nK b' cQ];exact k1,k2.mono bq.nl (jn b' cQ)⟩
 .intro t n mc;simp only[ah.a_] at mc;simp only[E'];split at mc
  .rename_i h;rw[aF h];exact mc
  .rename_i h;rw[aB h];exact hs.ok.aR t n mc
 .intro b' rM;have cQ:b' ≠ b:=by
   rintro rfl
   have:=lK fB
   simp[E'] at rM;omega
  rw[nK b' cQ];exact hs.ok.fresh b' (by simpa [E'] using rM)
 .obtain⟨N,hN⟩:=hs.ok.nt;exact⟨max N (Z+1),λt rR => by simp only[E'];rw[aB (by omega)];exact hN t (by omega)⟩
 .refine rj hs.dv hle (λb' i' hr _=>?_) hs.dv.none;have cQ:b' ≠ b:=a9 b' _ hr (λc h=>by simp at h);exact⟨by rw[nK b' cQ];exact hr,jn b' cQ⟩
 .have Ml:gv E'.nl k (l++[xs]) b 0:=by
   have Fg:=hh.vY;refine sj.2 ⟨λy hy=>?_,?_⟩
   .rcases fi.1 hy with h | h
    .exact dR y h
    .simp at h;subst h;exact xZ
   rw[vC];refine yT.2 ⟨(sj.1 (gv.mono _ bq.nl Fg)).2,Cw (vs:=news) (by simpa using RL.mono _ bq.nl hx) U (λj v hv=>?_) (λj hj=>?_)⟩
   .have hj:=(fy.1 hv).1;rw[n7 dR];simp only[Env.WO,World.cell?,cC,wo];simp only[Cv,dP,cF];rw[aB (show ¬(0+l.length*k+j<l.length*k) by omega),aF (show 0+l.length*k+j<l.length*k+news.length by omega)];rw[show 0+l.length*k+j - l.length*k=j from by omega];exact hv
   .rw[n7 dR];simp only[lV,QU,eD,xZ] at hj;simp only[Env.WN,qX,fz.iX];rw[jw];omega
  simp only[R,bM,dm,dQ];exact⟨aa ⟨b,0,aj⟩,cap,rfl,ql,.inr ⟨b,0,rfl,Ml⟩,l.length+1,by simp[E'],bY _,λ_=>.inr ⟨b,new,e',rfl,qX,cC,tQ.trans c8⟩⟩
end
structure HI where
 k:Nat
 s:X
 z:X
 len:X
 x:X
 addr:X
 fo:Option Nat
 d9:Nat
 d10:Nat
 dF:Nat
def kU(o:Oper)(j:Nat):Bool:=o.after.toList.any λe=>Region.binds .any e&&e.on == j
def M8(P:Program)(t2:TypeId)(sn:Operand)(other:Nat):Option Oper->Option (X × Option Nat × Nat)
 | none=>(cS P t2 sn).map λy=>(y,aj,other)
 | some F =>
  match F.dst,sn,zP P F with
  | some dF,.tmp p,aa (.qa off y)=>if p=dF/\F.guard=aj then aa (y,aa off,dF) else aj
  | _,_,_=>aj
def M9(P:Program)(A I S O'':Oper)(oF:Option Oper):Option HI :=
 match A.op,A.dst,I.op,I.dst,S.op,O''.op with
 | .call c, aa d9, .indexAddr t q1 yb, aa d10, .store e q2 yF, .store t2 sn q3 =>
  match c,q1,q2,q3 with
  | { callee := .builtin .append, args := args, argTypes := P5 }, .tmp p1, .tmp p2, .tmp p3 =>
   match P5.toList,args.toList with
   | [t', u], [vl, vv] =>
    match P.underlying t,P.underlying u,P.info? e,kF P e with
    | some (.slice e1), aa (.slice e2), aa i, aa _ =>
     match cS P t vl,cS P u vv,cS P t yb,cS P e yF,M8 P t2 sn (d9+d10+1) oF with
     | some s, aa z, aa len, aa x, aa (addr, fo, dF) =>
      if (t' = t/\e1=e/\e2=e/\i.bytes<=4096/\0<i.size)/\(p1=d9/\p2=d10/\p3=d9/\eQ P t2=aa 1)/\(A.guard=aj/\I.guard=aj/\S.guard=aj/\O''.guard=aj/\S.dst=aj/\O''.dst=aj)/\d9≠d10/\d9≠dF/\d10≠dF then
       aa ⟨i.size,s,z,len,x,addr,fo,d9,d10,dF⟩
      else aj
     | _,_,_,_,_=>aj
    | _,_,_,_=>aj
   | _,_=>aj
  | _,_,_,_=>aj
 | _,_,_,_,_,_=>aj
def tN(ops:Array Oper):Option Oper :=
 match ops[ops.size - 2]? with
 | some F=>match F.op with | .fieldAddr _ _ _=>aa F | _=>aj
 | none=>aj
def g_(ops:Array Oper):Nat:=if (tN ops).isSome then ops.size - 5 else ops.size - 4
def dummy(o:Oper):AO:=⟨o.dst,.mv (.c .any),aj⟩
def GA(l1:List AO)(b:List Nat):List (AO × List Nat) :=
 let d:=mu fF (l1.map λo=>(o,[])) b
 (l1.zip d).zipIdx.map λ((o,x),i)=>(o,if o.op.Dl then((bA (zr d i+1 - qq d x)).map (qq d x+·)).filter (· != BW d i) else [])
variable{i:Nat}
def ZU{l1:List AO}{b:List Nat}{y:AO}(hy:l1[i]?=aa y)(aD:i<(GA l1 b).length):∃ms,(GA l1 b)[i]?=aa (y,ms):=by
 unfold GA at aD ⊢
 simp only at aD ⊢;generalize mu fF (l1.map λo=>(o,[])) b=d at aD ⊢;generalize hL:l1.zip d=z at aD ⊢;have hz:i<z.length:=by simpa using aD
 have e:z[i]?=aa z[i]:=cK hz;have e1:z[i].1=y:=by
  subst hL;rw[KC,hy] at e;exact(vG e.1).symm
 rw[uo,QW,e];simp only[uu,e1];exact⟨_,rfl⟩
def UT(P:Program)(ops:Array Oper)(l:List (AO × List Nat))(b:List Nat)(nA:Nat)(A I S O'':Oper)(oF:Option Oper):Bool :=
 (y5 ops l b&&P.follows .mixedOrders)&&decide (nA+(if oF.isSome then 5 else 4)=ops.size)&&((bA nA).all λj=>kU A j) &&
  (kU I nA&&kU S nA&&kU S (nA+1)&&kU O'' nA)&&(match oF with | some F=>kU F nA&&kU O'' (nA+3) | none=>ab)
def Ja(P:Program)(ops:Array Oper):Option (List (AO × List Nat) × HI) :=
 match ops[g_ ops]?,ops[g_ ops+1]?,ops[g_ ops+2]?,ops[ops.size - 1]?,BN P ops (ops.toList.take (g_ ops)) with
 | some A, aa I, aa S, aa O'', aa l0 =>
  match M9 P A I S O'' (tN ops) with
  | some hi =>
   if UT P ops (GA (l0++(ops.toList.drop (g_ ops)).map dummy) (yd ops.toList [])) (yd ops.toList []) (g_ ops) A I S O'' (tN ops)=ab then
    aa (GA (l0++(ops.toList.drop (g_ ops)).map dummy) (yd ops.toList []),hi) else aj
  | none=>aj
 | _,_,_,_,_=>aj
def ED:Option Nat->V->Option V
 | none,v=>aa v
 | some n,.ptr p o=>aa (.ptr p (o+n))
 | some _,_=>aj
def Ko(hi:HI)(K:St->Prop)(st:St):Prop :=
 ∃Z l c t' j,ev st hi.s = .sl (.tk Z) hi.k l/\ev st hi.z = .sl t' hi.k [c]/\ev st hi.len = .int j l.length/\l.length+1<=aQ/\st.out.aR Z=aa l.length /\
  (ev st hi.x).wd=aa hi.k/\cW (ev st hi.x).cells=ab/\bT (ev st hi.x).cells=ab/\hi.d9<st.t.length/\hi.d10<st.t.length/\(hi.fo.isSome=ab->hi.dF<st.t.length) /\
  ∃p,ED hi.fo (ev st hi.addr)=aa p/\∃aP,dW st 1 (.sl (.tk Z) hi.k (l++[bD (ev st hi.x).cells])) p=aa aP /\ K ⟨aP.t,aP.aE,aP.out.a_ Z (l.length+1)⟩
structure HF(P:Program)(A I S O'':Oper)(oF:Option Oper)(hi:HI):Prop where
 app:∃c t u e i z vl vv yb yF,A.op = .call c/\c.callee = .builtin .append/\c.argTypes=#[t,u]/\c.args=#[vl,vv]/\P.underlying t=aa (.slice e)/\P.underlying u=aa (.slice e) /\
  P.info? e=aa i/\kF P e=aa z/\i.bytes<=4096/\i.size=hi.k/\0<hi.k/\cS P t vl=aa hi.s/\cS P u vv=aa hi.z /\
  I.op = .indexAddr t (.tmp hi.d9) yb/\cS P t yb=aa hi.len/\S.op = .store e (.tmp hi.d10) yF/\cS P e yF=aa hi.x
 out:∃t2 sn,O''.op = .store t2 sn (.tmp hi.d9)/\eQ P t2=aa 1/\(match oF with
  | none=>hi.fo=aj/\cS P t2 sn=aa hi.addr
  | some F=>∃off,hi.fo=aa off/\sn = .tmp hi.dF/\F.dst=aa hi.dF/\F.guard=aj/\zP P F=aa (.qa off hi.addr))
 dst:A.dst=aa hi.d9/\I.dst=aa hi.d10/\S.dst=aj/\O''.dst=aj
 guard:A.guard=aj/\I.guard=aj/\S.guard=aj/\O''.guard=aj
 ne:hi.d9≠hi.d10/\hi.d9≠hi.dF/\hi.d10≠hi.dF
variable{P:Program}{hi:HI}
def amu{A I S O'':Oper}{oF:Option Oper}(h:M9 P A I S O'' oF=aa hi):HF P A I S O'' oF hi:=by
 unfold M9 at h;split at h
 case h_2=>simp at h
 rename_i c d9 t q1 yb d10 e q2 yF t2 sn q3 e1 e2 e3 e4 e5 e6;split at h
 case h_2=>simp at h
 rename_i args P5 p1 p2 p3;split at h
 case h_2=>simp at h
 rename_i t' u vl vv e7 e8;split at h
 case h_2=>simp at h
 rename_i et eu i z g1 g2 g3 g4;split at h
 case h_2=>simp at h
 rename_i s zx len x addr fo dF k1 k2 k3 k4 k5;split at h
 case isFalse=>simp at h
 rename_i hc;obtain⟨⟨rfl,rfl,rfl,m1,m2⟩,⟨rfl,rfl,rfl,m3⟩,⟨m4,m5,m6,m7,m8,m9⟩,m10⟩:=hc;simp only[bc] at h;subst h;have ht:P5=#[t',u]:=D2 (by simpa using e7);have ha:args=#[vl,vv]:=D2 (by simpa using e8);refine⟨⟨_,t',u,_,i,z,vl,vv,yb,yF,e1,rfl,ht,ha,g1,g2,g3,g4,m1,rfl,m2,k1,k2,e3,k3,e5,k4⟩,⟨t2,sn,e6,m3,?_⟩,⟨e2,e4,m8,m9⟩,⟨m4,m5,m6,m7⟩,m10⟩;cases oF with
 | none =>
  simp only[M8,dn,pW] at k5;obtain⟨y,U,rfl,rfl,rfl⟩:=k5;exact⟨rfl,U⟩
 | some F =>
  simp only[M8] at k5;split at k5
  case h_2=>simp at k5
  rename_i dF' p off y U h2;split at k5
  case isFalse=>simp at k5
  rename_i hc;simp only[bc,pW] at k5;obtain⟨rfl,rfl,rfl⟩:=k5;obtain⟨rfl,hg⟩:=hc;exact⟨off,rfl,rfl,U,hg,h2⟩
def H7{o:Oper}{j:Nat}(h:kU o j=ab):∃e∈o.after,Region.binds .any e=ab/\e.on=j:=by
 simp only[kU,yK,bg,CD] at h;obtain⟨e,U,h2,h3⟩:=h;exact⟨e,by simpa using U,h2,h3⟩
variable{a:Act}{d:Nat}
def B4{n:Nat}{v u:Value}(hd:d<a.tmps.size):(a.put (aa d) v).tmps.getD n u=if n=d then v else a.tmps.getD n u:=by
 simp only[Act.put]
 by_cases h:n=d
 .subst h;simp[hd]
 .rw[aB h,rB,Cj (fJ h),<-rB]
def AR{E:Env}:∀{l:List V} {vs:List Value} (n:Nat),RL E l vs->RL E (l.set n .any) vs
 | [],[],_,h=>by simpa using h
 | [],_::_,_,h=>by simp[RL] at h
 | _::_,[],_,h=>by simp[RL] at h
 | x :: xs, v :: vs, n, h => by
  simp only[RL] at h;cases n with
  | zero=>simp only[List.set_cons_zero,RL];exact⟨by simp[R],h.2⟩
  | succ n=>simp only[List.set_cons_succ,RL];exact⟨h.1,AR n h.2⟩
variable{st:St}{y:V}
def ave{pg ph:St}{u:Value}{p:V}(U:dW st 1 (.raw u) p=aa pg)(h2:dW st 1 y p=aa ph)(hy:R E.nl y u)(Vj:y.cells=[y])(hyE:R E y u)
 (hs:bN E pg a):bN E ph a:=by
 have PE:∀(cs:List V) (off:Nat) (z:V) (j:Nat),(setAt cs off [z])[j]?=if j=off then(cs[j]?).map λ_=>z else cs[j]?:=by
  intro cs;induction cs with
  | nil=>intro off z j;cases off<;>simp[setAt,over]
  | cons c cs ih =>
   intro off z j;cases off with
   | zero=>cases j<;>simp[setAt,over]<;>(cases cs<;>simp[over])
   | succ off=>cases j<;>simp[setAt,ih]
 have auM:∀(cs:List V) (off:Nat) (z:V),(setAt cs off [z]).length=cs.length:=by
  intro cs;induction cs with
  | nil=>intro off z;cases off<;>simp[setAt,over]
  | cons c cs ih=>intro off z;cases off<;>simp[setAt,over,ih]<;>(cases cs<;>simp[over])
 have box:∀(E1:Env) (b:Nat) (cs:List V) (off:Nat),R E1 y u->j4 E1 b (setAt cs off [.raw u])->j4 E1 b (setAt cs off [y]):=λE1 b cs off hR ⟨c,e,k1,k2,k3⟩=>by
  refine⟨c,e,k1,by rw[auM] at k2 ⊢;exact k2,λj x hx=>?_⟩;rw[PE] at hx
  by_cases hj:j=off
  .rw[aF hj] at hx;simp only[dn] at hx;obtain⟨z,hz,rfl⟩:=hx;obtain⟨v,hv,hr⟩:=k3 j (.raw u) (by rw[PE,aF hj,hz];rfl);simp only[R] at hr;subst hr;exact⟨v,hv,hR⟩
  .rw[aB hj] at hx;exact k3 j x (by rw[PE,aB hj];exact hx)
 cases p with
 | ptr p off =>
  cases p with
  | kT b=>simp[dW] at U
  | aE i =>
   simp only[dW,iV] at U h2;obtain⟨cs,e1,e2⟩:=U;obtain⟨cs',e3,e4⟩:=h2;rw[e1] at e3;simp only[bc] at e3;subst e3;split at e2<;>simp at e2;split at e4<;>simp at e4;subst e2 e4;refine⟨hs.ok,⟨λj ds hj=>?_,λj hj=>hs.dv.none j (by simpa using hj)⟩,hs.defers,hs.slot⟩;have aD:=(fy.1 e1).1
   by_cases gd:j=i
   .subst gd;simp only[QV aD,bc] at hj;subst hj;obtain⟨b,q1,q2,q3⟩:=hs.dv.box j (setAt cs off [.raw u]) (by simp[V.cells,aD]);rw[Vj];exact⟨b,q1,q2,box E b cs off hyE q3⟩
   .simp only[D8 (fJ gd)] at hj;exact hs.dv.box j ds (by simp only[D8 (fJ gd)];exact hj)
  | out i =>
   simp only[dW,iV] at U h2;obtain⟨cs,e1,e2⟩:=U;obtain⟨cs',e3,e4⟩:=h2;rw[e1] at e3;simp only[bc] at e3;subst e3;split at e2<;>simp at e2;split at e4<;>simp at e4;subst e2 e4;refine⟨⟨λj ds hj=>?_,hs.ok.aR,hs.ok.fresh,hs.ok.nt,hs.ok.b8⟩,hs.dv,hs.defers,hs.slot⟩
   by_cases gd:j=i
   .subst gd;rw[ah.eW] at hj;simp only[bc] at hj;subst hj;obtain⟨q2,q3⟩:=hs.ok.box j (setAt cs off [.raw u]) (by simp[V.cells,ah.set]);rw[Vj];exact⟨q2,box E.nl j cs off hy q3⟩
   .rw[ah.eY _ _ gd] at hj;exact hs.ok.box j ds (by rw[ah.eY _ _ gd];exact hj)
 | _=>simp[dW] at U
def Zw{ph:St}{u:Value}{p:V}(h2:dW st 1 y p=aa ph)(hu:u.oneCell' = ab):∃pg,dW st 1 (.raw u) p=aa pg/\pg.t=st.t:=by
 cases p with
 | ptr p off =>
  cases p with
  | kT b=>simp[dW] at h2
  | aE i =>
   simp only[dW,iV] at h2;obtain⟨cs',e3,e4⟩:=h2;split at e4<;>simp at e4;rename_i hc;exact⟨⟨st.t,st.aE.set i (setAt cs' off (V.raw u).cells),st.out⟩,by simp only[dW,e3,xl];rw[aF ⟨hc.1,by simp[V.wd,hu],by simp[V.cells,cW,V.one,hu]⟩],rfl⟩
  | out i =>
   simp only[dW,iV] at h2;obtain⟨cs',e3,e4⟩:=h2;split at e4<;>simp at e4;rename_i hc;exact⟨⟨st.t,st.aE,st.out.set i (setAt cs' off (V.raw u).cells)⟩,by simp only[dW,e3,xl];rw[aF ⟨hc.1,by simp[V.wd,hu],by simp[V.cells,cW,V.one,hu],by simp[V.cells,bT,V.c9]⟩],rfl⟩
 | _=>simp[dW] at h2
variable{m:Nat}
def PO{p:V}{n:Nat}:dW ⟨st.t,st.aE,st.out.a_ Z m⟩ n y p=(dW st n y p).map λs=>⟨s.t,s.aE,s.out.a_ Z m⟩:=by
 cases p with
 | ptr p off =>
  cases p with
  | kT b=>simp[dW]
  | aE i =>
   simp only[dW];cases st.aE[i]? with
   | none=>rfl
   | some cs=>simp only[xl];split<;>rfl
  | out i =>
   simp only[dW];show((st.out.box i).bind _)=_;cases st.out.box i with
   | none=>rfl
   | some cs=>simp only[xl];split<;>rfl
 | _=>rfl
def Zx{aP:St}{p:V}{n:Nat}(h:dW st n y p=aa aP):aP.out.aR=st.out.aR/\aP.t=st.t:=by
 cases p with
 | ptr p off =>
  cases p with
  | kT b=>simp[dW] at h
  | aE i =>
   simp only[dW,iV] at h;obtain⟨cs,_,e2⟩:=h;split at e2<;>simp at e2;subst e2;exact⟨rfl,rfl⟩
  | out i =>
   simp only[dW,iV] at h;obtain⟨cs,_,e2⟩:=h;split at e2<;>simp at e2;subst e2;exact⟨rfl,rfl⟩
 | _=>simp[dW] at h
section
variable {P:Program} {ops:Array Oper}
structure Tl(ops:Array Oper)(hi:HI)(nA Z:Nat)(l:List (List V))(xs:List V)(p:V)(hF:Bool)(E0:Env)(tw:List V)(s1:St)(listed:Array Bool)(a:Act)(w:World):Prop where
 size:listed.size=ops.size
 pre:∀j,j<=nA->listed.getD j ar=ab
 rel:∃E st b cap,E.w=w/\Fr E0 E/\bN E st a/\st.t=tw/\a.tmps.getD hi.d9 undef = .slice (aa ⟨b,0,aj⟩) (l.length+1) cap /\
  (listed.getD (nA+1) ar=ab->a.tmps.getD hi.d10 undef = .pointer (aa ⟨b,l.length*hi.k,aj⟩)) /\
  (hF=ab->listed.getD (nA+3) ar=ab->listed.getD (ops.size - 1) ar=ar->R E p (a.tmps.getD hi.dF undef)) /\
  (listed.getD (nA+2) ar=ar->Co E Z hi.k l b cap) /\
  (listed.getD (nA+2) ar=ab->R E.nl (.sl (.tk Z) hi.k (l++[xs])) (.slice (aa ⟨b,0,aj⟩) (l.length+1) cap)) /\
  (if listed.getD (ops.size - 1) ar=ab then dW (if listed.getD (nA+2) ar=ab then ⟨s1.t,s1.aE,s1.out.a_ Z (l.length+1)⟩ else s1) 1 (.raw (.slice (aa ⟨b,0,aj⟩) (l.length+1) cap)) p=aa st
    else st=if listed.getD (nA+2) ar=ab then ⟨s1.t,s1.aE,s1.out.a_ Z (l.length+1)⟩ else s1)
def Zd{l:List V}{n:Nat}{x:V}(h:l[n]?=aa x):l.set n x=l:=by
 have:=(fy.1 h)
 obtain⟨U,h2⟩:=this;rw[<-h2,aaC]
variable{listed:Array Bool}
def Af(hi:i<listed.size)(j:Nat):(listed.setIfInBounds i ab).getD j ar=if j=i then ab else listed.getD j false:=by
 by_cases h:j=i
 .subst h;simp[hi]
 .rw[aB h,rB,Cj (fJ h),<-rB]
def HG{aP:St}(h:st.t=aP.t)(x:X):ev st x=ev aP x:=by cases x<;>simp[ev,h]
structure TF(P:Program)(ops:Array Oper)(hi:HI)(nA:Nat)(hF:Bool)(Z:Nat)(l:List (List V))(xs:List V)(p:V)(s1:St):Prop where
 hf:HF P (ops.getD nA default) (ops.getD (nA+1) default) (ops.getD (nA+2) default) (ops.getD (ops.size - 1) default) (if hF then aa (ops.getD (nA+3) default) else aj) hi
 size:nA+(if hF then 5 else 4)=ops.size
 eI:kU (ops.getD (nA+1) default) nA=ab
 eS:kU (ops.getD (nA+2) default) nA=ab/\kU (ops.getD (nA+2) default) (nA+1)=ab
 eO:kU (ops.getD (ops.size - 1) default) nA=ab
 eF:hF=ab->kU (ops.getD (nA+3) default) nA=ab/\kU (ops.getD (ops.size - 1) default) (nA+3)=ab
 len:∃j,ev s1 hi.len = .int j l.length
 aR:s1.out.aR Z=aa l.length
 wd:(ev s1 hi.x).wd=aa hi.k
 one:cW (ev s1 hi.x).cells=ab
 c9:bT (ev s1 hi.x).cells=ab
 exs:xs=bD (ev s1 hi.x).cells
 d9:s1.t[hi.d9]?=aa .any
 d10:s1.t[hi.d10]?=aa .any
 dF:hF=ab->s1.t[hi.dF]?=aa .any
 qa:ED hi.fo (ev s1 hi.addr)=aa p
 st:∃ph,dW s1 1 (.sl (.tk Z) hi.k (l++[xs])) p=aa ph
def zV{ops:Array Oper}{o:Oper}(h:ops[i]?=aa o):ops.getD i default=o:=by simp[rB,h]
def Gy{o:Oper}(h:o.guard=aj):Region.wanted o (yielded ops a.tmps)=true:=by simp[Region.wanted,h]
variable{w:World}
def avE{nA:Nat}{hF:Bool}{l:List (List V)}{xs:List V}{p:V}{s1:St}(T:TF P ops hi nA hF Z l xs p s1){E0:Env}{Q:Exit->Act->World->Prop}
 (h:Tl ops hi nA Z l xs p hF E0 s1.t s1 listed a w) {i:Nat} (hr:i∈Region.ready .any ops listed) {K:Act->World->Prop}
 (hK:∀a w,Tl ops hi nA Z l xs p hF E0 s1.t s1 (listed.setIfInBounds i ab) a w->K a w):wpOp P ops Q i K a w:=by
 obtain⟨zC,o,ho,dq⟩:=mem_ready.1 hr;have aD:i<ops.size:=(lU.1 ho).1;have mN : i<listed.size:=by rw[h.size];exact aD
 have De : listed.getD i ar=false:=by rw[<-HV _ _ mN];exact zC
 have hgt:nA<i:=by
  rcases vF nA i with hq | hq
  .exact hq
  .rw[h.pre i hq] at De;simp at De
 have o5:=Af mN;have nH:=zV ho;have zB : (listed.setIfInBounds i ab).size=ops.size:=by simp[h.size]
 have Iw : ∀j,j<=nA->(listed.setIfInBounds i ab).getD j ar=true:=λj hj=>by rw[o5,aB (by omega)];exact h.pre j hj
 obtain⟨E,st,bk,cap,rfl,bq,hs,eE,C3,Ic,MH,Ik,MP,hO⟩:=h.rel;have c8:=T.size;have Ff:s1.t.length=a.tmps.size:=by have:=gj hs.slot;rw[eE] at this;simpa using this
 have Uz:hi.d9<a.tmps.size:=by rw[<-Ff];exact(fy.1 T.d9).1
 have Mv:hi.d10<a.tmps.size:=by rw[<-Ff];exact(fy.1 T.d10).1
 have aya:nA+2<ops.size - 1:=by rw[<-c8];cases hF<;>simp<;>omega
 have mS:∀j,j≠i->(listed.setIfInBounds i ab).getD j ar=listed.getD j false:=λj hj=>by rw[o5,aB hj]
 have made:(listed.setIfInBounds i ab).getD i ar=true:=by rw[o5,aF rfl]
 unfold wpOp;rw[ho];simp only;have Rt:∀(E' : Env) (aP : St) (a:Act) (d:Nat) (v:Value),aP.t=s1.t->s1.t[d]?=aa .any->bN E' aP a->bN E' aP (a.put (aa d) v):=λE' aP a d v e1 e2 h=>by
  have:=bN.put h (v:=.any) (x:=v) (by simp[R]) (aa d)
  have e:aP.put (aa d) .any=aP := by
   simp only[St.put];rw[e1,Zd e2,<-e1]
  rw[e] at this;exact this
 by_cases hI:i=nA+1
 ·-- the element's address
  subst hI;obtain⟨c,t,u,e,inf,z,vl,vv,yb,yF,_,_,_,_,q5,_,q7,_,_,B5,_,_,_,XN,q15,_,_⟩:=T.hf.app;rw[nH] at XN;have hg:=T.hf.guard.2.1;rw[nH] at hg;have mH:=T.hf.dst.2.1;rw[nH] at mH;rw[Gy hg,aF rfl];left;obtain⟨jk,hlen⟩:=T.len;have Mf:=o9 (E:=E) (st:=st) (a:=a) hs.slot q15;rw[HG eE,hlen] at Mf;simp only[R] at Mf;have hn:eQ P e=aa hi.k:=by simp[eQ,q7,B5]
  have dk:(execOp a.eval o).run P E.w = .ok (.value (.pointer (aa ⟨bk,l.length*hi.k,aj⟩))) E.w:=by
   have alU : a.eval (.tmp hi.d9) = .slice (aa ⟨bk,0,aj⟩) (l.length+1) cap:=C3;simp[execOp,XN,alU,Mf,Instr.indexAt,asIntOf,run_underlying q5,pK hn,my]
  unfold Oper.wp;rw[dk];refine hK _ _ ⟨zB,Iw,E,st,bk,cap,rfl,bq,?_,eE,?_,?_,?_,?_,?_,?_⟩
  .rw[mH];exact Rt E st a hi.d10 _ eE T.d10 hs
  .rw[mH,B4 Mv,aB T.hf.ne.1];exact C3
  .intro _;rw[mH,B4 Mv,aF rfl]
  .intro U h2 h3;rw[o5,aB (by omega)] at h2;rw[mS _ (by omega)] at h3;rw[mH,B4 Mv,aB (fJ T.hf.ne.2.2)];exact MH U h2 h3
  .intro U;rw[o5,aB (by omega)] at U;exact Ik U
  .intro U;rw[o5,aB (by omega)] at U;exact MP U
  .rw[mS _ (by omega),mS _ (by omega)];exact hO
 by_cases hS:i=nA+2
 ·-- the element is filled in
  subst hS;obtain⟨c,t,u,e,inf,z,vl,vv,yb,yF,_,_,_,_,_,_,q7,_,_,B5,_,_,_,_,_,XO,q17⟩:=T.hf.app;rw[nH] at XO;have hg:=T.hf.guard.2.2.1;rw[nH] at hg;have mH:=T.hf.dst.2.2.1;rw[nH] at mH;rw[Gy hg,aF rfl];left;have Ui : listed.getD (nA+1) ar=true:=by
   have:=T.eS.2
   rw[nH] at this;obtain⟨e,U,h2,h3⟩:=H7 this;rw[<-h3];exact dq e U h2
  have hX:=o9 (E:=E) (st:=st) (a:=a) hs.slot q17;rw[HG eE] at hX;have hn:eQ P e=aa hi.k:=by simp[eQ,q7,B5]
  obtain⟨r1,r2⟩:=yV hX T.wd;have r3:=RL.qx (E:=E) (E' := E.nl) _ (Env.le.refl E.nl) T.c9 r1;have r4:=zU r1 T.one;obtain⟨E',k1,k2,k3,k4,k5⟩:=amz (P:=P) hs (Ik De) hn (RL.erase _ r3) r2 r4;rw[<-T.exs] at k4;have dk:(execOp a.eval o).run P E.w = .ok .skip E'.w:=by
   have e1:a.eval (.tmp hi.d10) = .pointer (aa ⟨bk,l.length*hi.k,aj⟩):=Ic Ui;simp[execOp,XO,e1,JK k1]
  unfold Oper.wp;rw[dk];show K (a.put o.dst undef) E'.w;rw[mH];have hle:E.le E' := k2.le λj b hb=>by rw[k5];exact hb
  refine hK _ _ ⟨zB,Iw,E',_,bk,cap,rfl,bq.trans k2,k3,eE,C3,?_,?_,?_,?_,?_⟩
  .intro _;exact Ic Ui
  .intro U h2 h3;rw[o5,aB (by omega)] at h2;rw[mS _ (by omega)] at h3;exact R.mono _ hle (MH U h2 h3)
  .intro U;rw[o5,aF rfl] at U;simp at U
  .intro _;exact k4
  .rw[mS (ops.size - 1) (by omega),made];rw[De] at hO;simp only[dP,cF] at hO;simp only[cM];split at hO
   .rename_i U;rw[aF U,PO,hO];rfl
   .rename_i U;rw[aB U,hO]
 by_cases hOi:i=ops.size - 1
 ·-- the list is laid down
  subst hOi;obtain⟨t2,sn,q1,q2,q3⟩:=T.hf.out;rw[nH] at q1;have hg:=T.hf.guard.2.2.2;rw[nH] at hg;have mH:=T.hf.dst.2.2.2;rw[nH] at mH;rw[Gy hg,aF rfl];left;rw[De] at hO;simp only[dP,cF] at hO;have alF:R E p (a.eval sn):=by
   cases sE:hF with
   | false =>
    rw[sE] at q3;simp only[dP,cF] at q3;have l_:=T.qa;rw[q3.1] at l_;simp only[ED,bc] at l_
    have:=o9 (E:=E) (st:=st) (a:=a) hs.slot q3.2
    rw[HG eE,l_] at this;exact this
   | true =>
    rw[sE] at q3;simp only[cM] at q3;obtain⟨off,_,ha,_⟩:=q3;subst ha
    have:=(T.eF sE).2
    rw[nH] at this;obtain⟨e,U,h2,h3⟩:=H7 this;exact MH sE (by rw[<-h3];exact dq e U h2) De
  obtain⟨ph,tO⟩:=T.st
  let v:Value:=.slice (aa ⟨bk,0,aj⟩) (l.length+1) cap
  have gp:v.oneCell' = true:=rfl;obtain⟨aP,Ft,amG⟩:∃aP,dW st 1 (.raw v) p=aa aP /\ aP.t=st.t:=by
   rw[hO];split
   .exact Zw (by rw[PO,tO];rfl) gp
   .exact Zw tO gp
  refine Oper.wp_mono ?_ (aaa (Q:=Q) (K:=λ_ s=>s=aP) hs (by omega) q1 q2 alF (ay:=.raw v) (by simp only[R];exact C3) Ft rfl);rintro a' w' ⟨E',v',u',s',rfl,j9,dS,_,rfl,rfl⟩;rw[mH];simp only[Act.put];have tR:listed.getD (nA+2) ar=ar->E'.aR Z=aa l.length:=λhq=>by
   refine dS.ok.aR Z _ ?_;rw[(Zx Ft).1,hO,hq];simpa using T.aR
  refine hK _ _ ⟨zB,Iw,E',_,bk,cap,rfl,bq.trans j9,dS,by rw[amG,eE],C3,?_,?_,?_,?_,?_⟩
  .intro U;rw[mS _ (by omega)] at U;exact Ic U
  .intro _ _ h3;rw[o5,aF rfl] at h3;simp at h3
  .intro U;rw[mS _ (by omega)] at U;exact(Ik U).mono j9 (tR U)
  .intro U;rw[mS _ (by omega)] at U;exact R.mono _ j9.nl (MP U)
  .rw[made,mS _ (by omega)];simp only[cM];rw[<-hO];exact Ft
 -- the field's address
 have sE:hF=true:=by
  cases hq:hF with
  | true=>rfl
  | false=>rw[hq] at c8;simp at c8;omega
 have MS:i=nA+3:=by rw[sE] at c8;simp at c8;omega
 subst MS;obtain⟨t2,sn,_,_,q3⟩:=T.hf.out;rw[sE] at q3;simp only[cM] at q3;obtain⟨off,q4,_,q5,q6,q7⟩:=q3;rw[nH] at q5 q6 q7;rw[Gy q6,aF rfl];left;have Mw:hi.dF<a.tmps.size:=by rw[<-Ff];exact(fy.1 (T.dF sE)).1
 have l_:=T.qa;rw[q4] at l_;have lE:(aO.qa off hi.addr).bj P st (λv s=>v=p/\s=st):=by
  simp only[aO.bj];rw[HG eE];cases hq:ev s1 hi.addr<;>rw[hq] at l_<;>simp[ED] at l_ ⊢;exact l_
 refine Oper.wp_mono ?_ (FP (Q:=Q) q7 hs lE);rintro a' w' ⟨E',v',u',s',rfl,j9,dS,hv,rfl,rfl,rfl⟩;rw[q5];have tR:listed.getD (nA+2) ar=ar->E'.aR Z=aa l.length:=λhq=>by
  refine dS.ok.aR Z _ ?_;rw[hq] at hO;simp only[dP,cF] at hO;split at hO
  .rw[(Zx hO).1];exact T.aR
  .rw[hO];exact T.aR
 refine hK _ _ ⟨zB,Iw,E',_,bk,cap,rfl,bq.trans j9,Rt E' _ a hi.dF _ eE (T.dF sE) dS,eE,?_,?_,?_,?_,?_,?_⟩
 .rw[B4 Mw,aB T.hf.ne.2.1];exact C3
 .intro U;rw[o5,aB (by omega)] at U;rw[B4 Mw,aB T.hf.ne.2.2];exact Ic U
 .intro _ _ _;rw[B4 Mw,aF rfl];exact hv
 .intro U;rw[o5,aB (by omega)] at U;exact(Ik U).mono j9 (tR U)
 .intro U;rw[o5,aB (by omega)] at U;exact R.mono _ j9.nl (MP U)
 .have h5:nA+5=ops.size:=by rw[sE] at c8;simpa using c8
  rw[mS _ (by omega),mS _ (by omega)];exact hO
end
def DW(fo:Option Nat)(d:Nat)(t:List V):List V:=match fo with | some _=>t.set d .any | none=>t
def sb(hi:HI)(t:List V):List V:=DW hi.fo hi.dF ((t.set hi.d9 .any).set hi.d10 .any)
def GK(hi:HI)(K:St->Prop)(st:St):Prop:=Ko hi K ⟨sb hi st.t,st.aE,st.out⟩
def Rs{t:List V}{e:Nat}(h:t[e]?=aa .any):(t.set d .any)[e]?=aa .any:=by
 have aD:=(fy.1 h).1
 by_cases hd:d=e
 .subst hd;simp[aD]
 .rw[D8 hd];exact h
def K1{t:List V}(h:d<t.length):(t.set d .any)[d]?=aa .any:=by simp[h]
def Qi(hi:HI)(t:List V):(sb hi t).length=t.length:=by
 unfold sb DW;cases hi.fo<;>simp
def ZV{fo:Option Nat}{e:Nat}{t:List V}(h:t[e]?=aa .any):(DW fo d t)[e]?=aa .any:=by
 unfold DW;cases fo
 .exact h
 .exact Rs h
def awO{t:List V}(h:hi.d9<t.length):(sb hi t)[hi.d9]?=aa .any:=ZV (Rs (K1 h))
def awN{t:List V}(h:hi.d10<t.length):(sb hi t)[hi.d10]?=aa .any:=ZV (K1 (by simpa using h))
def awP{t:List V}{off:Nat}(hf:hi.fo=aa off)(h:hi.dF<t.length):(sb hi t)[hi.dF]?=aa .any:=by
 unfold sb DW;rw[hf];exact K1 (by simpa using h)
def awQ{t:List V}{us:List Value}(h:RL E t us):RL E (sb hi t) us:=by
 unfold sb DW;cases hi.fo
 .exact AR _ (AR _ h)
 .exact AR _ (AR _ (AR _ h))
def Y9{S:Nat->Bool}{n:Nat}:∀{tr:List TR} {i:Nat},(∀j,S (i+j)=decide (i+j<n))->cR S i tr=tr.take (n - i)
 | [],i,_=>by simp[cR]
 | r :: tr, i, h => by
  have h0:=h 0;rw[xg] at h0;have ih:=Y9 (S:=S) (n:=n) (tr:=tr) (i:=i+1) λj=>by
   have:=h (j+1)
   rw[show i+(j+1)=i+1+j from by omega] at this;exact this
  simp only[cR,h0]
  by_cases hi:i<n
  .simp only[hi,b9,cM,ih];rw[show n - i=(n - (i+1))+1 from by omega,xf]
  .simp only[hi,fL,dP,cF,ih];rw[show n - (i+1)=0 from by omega,show n - i=0 from by omega];simp
def YB:∀{a b:List TR} {t:List V},runT (a++b) t=runT b (runT a t)
 | [],_,_=>rfl
 | r::a,b,t=>by simp only[il,runT];exact YB
def Yw:∀{a b:List TR} {s:dy},eb (a++b) s=eb b (eb a s)
 | [],_,_=>rfl
 | r::a,b,t=>by simp only[il,eb];exact Yw
def YA{E:Env}{us:List Value}:∀{tr:List TR} {t:List V},(∀r∈tr,r.val = .any)->RL E t us->RL E (runT tr t) us
 | [],_,_,h=>h
 | r :: tr, t, hv, h => by
  simp only[fh] at hv;simp only[runT];refine YA hv.2 ?_;cases hd:r.dst with
  | none=>exact h
  | some d=>simp only[lg,hv.1];exact AR d h
def Yv:∀{tr:List TR} {s:dy},(∀r∈tr,r.bB=ar)->eb tr s=s
 | [],_,_=>rfl
 | r :: tr, s, h => by
  simp only[fh] at h;simp only[eb,h.1,dP,cF];exact Yv h.2
section
variable {P:Program} {ops:Array Oper}
variable{l:List (AO × List Nat)}
def aoU(h:Ja P ops=aa (l,hi)):
 ∃b,AD ops l b/\b.length=ops.size/\P.follows .mixedOrders=ab/\(∀(i:Nat) o,i<g_ ops->ops[i]?=aa o->∃x:AO × List Nat,l[i]?=aa x/\uZ P ops o=aa x.1) /\
  (∀(i:Nat) o,g_ ops<=i->ops[i]?=aa o->∃ms,l[i]?=aa (dummy o,ms)) /\
  HF P (ops.getD (g_ ops) default) (ops.getD (g_ ops+1) default) (ops.getD (g_ ops+2) default) (ops.getD (ops.size - 1) default) (tN ops) hi /\
  g_ ops+(if (tN ops).isSome then 5 else 4)=ops.size/\(∀j,j<g_ ops->kU (ops.getD (g_ ops) default) j=ab) /\
  kU (ops.getD (g_ ops+1) default) (g_ ops)=ab/\(kU (ops.getD (g_ ops+2) default) (g_ ops)=ab/\kU (ops.getD (g_ ops+2) default) (g_ ops+1)=ab) /\
  kU (ops.getD (ops.size - 1) default) (g_ ops)=ab/\(∀F,tN ops=aa F->kU F (g_ ops)=ab/\kU (ops.getD (ops.size - 1) default) (g_ ops+3)=ab):=by
 unfold Ja at h;split at h
 case h_2=>simp at h
 rename_i A I S O'' l0 a1 a2 a3 a4 a5;split at h
 case h_2=>simp at h
 rename_i dt alN;split at h
 case isFalse=>simp at h
 rename_i hc;simp only[bc,pW] at h;obtain⟨rfl,rfl⟩:=h;unfold UT at hc;simp only[bg,bQ] at hc;obtain⟨⟨⟨⟨⟨c1,c2⟩,c3⟩,c4⟩,c5⟩,c6⟩:=hc;rw[zV a1,zV a2,zV a3,zV a4];have hlen:=(facts c1).size;have hA:g_ ops<ops.size:=(lU.1 a1).1;obtain⟨g1,g2⟩:=Ob a5;have Io:l0.length=g_ ops:=by rw[g1];simp;omega
 refine⟨_,facts c1,?_,c2,λi o hi ho=>?_,λi o hi ho=>?_,amu alN,c3,λj hj=>?_,c5.1.1.1,⟨c5.1.1.2,c5.1.2⟩,c5.2,λF hF=>?_⟩
 .unfold y5 at c1;simp only[bg,bQ] at c1;exact c1.1.1.2
 .obtain⟨x,k1,k2⟩:=g2 i o (by rw[KB,aF hi];simpa using ho);obtain⟨ms,hm⟩:=ZU (l1:=l0++(ops.toList.drop (g_ ops)).map dummy) (b:=yd ops.toList []) (i:=i) (y:=x) (by rw[qJ (by omega)];exact k1) (by rw[hlen];omega);exact⟨_,hm,k2⟩
 .have aD:=(lU.1 ho).1;exact ZU (by rw[AK (by omega),uo,vD,Io,show g_ ops+(i - g_ ops)=i from by omega];simp[ho]) (by rw[hlen];exact aD)
 .simp only[eM,mq] at c4;exact c4 j hj
 .rw[hF] at c6;simpa using c6
end
section
variable {P:Program} {ops:Array Oper}
def amv(c8:g_ ops+(if (tN ops).isSome then 5 else 4)=ops.size):tN ops=if (tN ops).isSome=ab then aa (ops.getD (g_ ops+3) default) else none:=by
 cases hq:tN ops with
 | none=>rfl
 | some F =>
  rw[hq] at c8;simp only[Ec,cM] at c8 ⊢;unfold tN at hq;split at hq
  case h_2=>simp at hq
  rename_i F0 h0;split at hq
  .simp only[bc] at hq;subst hq;rw[zV (i:=g_ ops+3) (by rw[<-h0];congr 1;omega)]
  .simp at hq
variable{K:St->Prop}{l:List (AO × List Nat)}
def amy{id:Nat}(hl:Ja P ops=aa (l,hi))(h:cJ P l [(st.aE,st.out)] [] (GK hi K) st):
 ju P (.region id ops ab) (λe aP => e = .normal/\K aP) st:=by
 obtain⟨b,F,qT,hf,wy,alV,C0,c8,eA,eI,eS,eO,eF⟩:=aoU hl;have CZ:=amv c8;intro E a hs;refine wp_region_any hf ?_;obtain⟨bq,_,qm⟩:=Gj hs ((Ext.refl E.w).drew);obtain⟨tr,ht,_,hK⟩:=Ka (t:=st.t) (s:=(st.aE,st.out)) h;have uN:[(st.aE,st.out)]++ly tr=(st.aE,st.out)::ly tr:=rfl;rw[uN] at ht;have hlen:=G4 ht;generalize hnA:g_ ops=nA at *;generalize hhF:(tN ops).isSome=hF at *;have ax4:nA+3<ops.size:=by rw[<-c8];split<;>omega
 have hoA:ops[nA]?=aa (ops.getD nA default):=by
  rw[np (by omega)];simp[show nA<ops.size by omega]
 -- the tail's steps in the run say nothing
 have Va:∀r∈tr.drop nA,r.val = .any/\r.bB=false:=λr hr=>by
  obtain⟨j,hj⟩:=aax.1 hr;rw[vD] at hj;have xS:nA+j<ops.size:=by rw[<-F.size,hlen];exact(fy.1 hj).1
  obtain⟨ms,hm⟩:=alV (nA+j) _ (by omega) (np xS);obtain⟨_,e2,run,e3,e4,_⟩:=G5 (i:=0) (k:=nA+j) ht hm hj;simp only[dummy] at e3;subst e3;obtain⟨e5,_⟩:=e4 rfl;simp only[dummy,aO.bj,Exact,ev] at e5;exact⟨e5.1.symm,e2⟩
 have Nl:∀{E' : Env} {us:List Value},RL E' (runT (tr.take nA) st.t) us->RL E' (runT tr st.t) us:=λ{E' us} h=>by
  have e:runT tr st.t=runT (tr.drop nA) (runT (tr.take nA) st.t):=by rw[<-YB,rG]
  rw[e];exact YA (λr hr=>(Va r hr).1) h
 have U8:eb tr (st.aE,st.out)=eb (tr.take nA) (st.aE,st.out):=by
  have e:eb tr (st.aE,st.out)=eb (tr.drop nA) (eb (tr.take nA) (st.aE,st.out)):=by rw[<-Yw,rG]
  rw[e];exact Yv (λr hr=>(Va r hr).2)
 -- what the tail asks
 obtain⟨Z,ll,c,t',j,es,ez,SU,lB,tR,sL,gp,qj,h9,fM,Ug,p,hp,ph,tO,hKK⟩:=hK;generalize U4:(⟨sb hi (cm (runT tr st.t) (eb tr (st.aE,st.out))).t,(cm (runT tr st.t) (eb tr (st.aE,st.out))).aE,(cm (runT tr st.t) (eb tr (st.aE,st.out))).out⟩:St)=s1 at es ez SU tR sL gp qj h9 fM Ug hp tO;have Bp:s1.t=sb hi (runT tr st.t):=by rw[<-U4];rfl
 have U5:s1.aE=(eb tr (st.aE,st.out)).1/\s1.out=(eb tr (st.aE,st.out)).2:=by rw[<-U4];exact⟨rfl,rfl⟩
 have wm:hF=ab->∃off,hi.fo=aa off:=λhq=>by
  obtain⟨_,_,_,_,q3⟩:=C0.out;rw[CZ,aF hq] at q3;obtain⟨off,U,_⟩:=q3;exact⟨off,U⟩
 have EK : hi.d9<(runT tr st.t).length:=by rw[Bp,Qi] at h9;exact h9
 have alx : hi.d10<(runT tr st.t).length:=by rw[Bp,Qi] at fM;exact fM
 have T:TF P ops hi nA hF Z ll (bD (ev s1 hi.x).cells) p s1:=by
  refine⟨by rw[CZ] at C0;exact C0,c8,eI,eS,eO,λhq=>?_,⟨j,SU⟩,tR,sL,gp,qj,rfl,by rw[Bp];exact awO EK,by rw[Bp];exact awN alx,λhq=>?_,hp,⟨ph,tO⟩⟩
  .rw[aF hq] at CZ;exact eF _ CZ
  .obtain⟨off,ho⟩:=wm hq
   have:=Ug (by rw[ho];rfl)
   rw[Bp,Qi] at this;rw[Bp];exact awP ho this
 let Q' : Exit->Act->World->Prop:=λe a' w' => ∃E' aP,E'.w=w' /\ bN E' aP a' /\ Fr E E' /\ e = .normal/\K aP
 -- the end
 have fin:∀(listed:Array Bool) (a:Act) (w:World),Tl ops hi nA Z ll (bD (ev s1 hi.x).cells) p hF E s1.t s1 listed a w->(∀j,j<ops.size->listed.getD j ar=ab)->Q' .normal a w:=λlisted a w h dq=>by
  obtain⟨E',aP,bk,cap,U,h2,h3,h4,_,_,_,_,h5,h6⟩:=h.rel;rw[dq _ (by omega),dq _ (by omega)] at h6;simp only[cM] at h6;have h5:=h5 (dq _ (by omega));have amH : dW ⟨s1.t,s1.aE,s1.out.a_ Z (ll.length+1)⟩ 1 (.sl (.tk Z) hi.k (ll++[bD (ev s1 hi.x).cells])) p=aa ⟨ph.t,ph.aE,ph.out.a_ Z (ll.length+1)⟩:=by rw[PO,tO];rfl
  have h7:R E' (.sl (.tk Z) hi.k (ll++[bD (ev s1 hi.x).cells])) (.slice (aa ⟨bk,0,aj⟩) (ll.length+1) cap):=by
   simp only[R] at h5 ⊢;exact h5
  exact⟨E',_,U,ave h6 amH h5 rfl h7 h3,h2,rfl,hKK⟩
 have MC:∀(listed:Array Bool) (i:Nat),listed.size=ops.size->i∈Region.ready .any ops listed->∀fuel,listed.toList.count ar<=fuel+1->(listed.setIfInBounds i ab).toList.count ar<=fuel:=λlisted i c8 hi fuel hc=>by
  obtain⟨U,o,ho,_⟩:=mem_ready.1 hi;have aD:i<listed.size:=by rw[c8];exact(lU.1 ho).1
  have e:listed.toList[i]?=aa false:=by
   have:listed[i]?=aa false:=by
    rw[np aD];simpa [aD] using U
   simpa using this
  have:=count_set listed.toList i e
  simp only[QB];omega
 have Ie:∀(listed:Array Bool),listed.size=ops.size->Region.ready .any ops listed=[]->∀n j,j<n->j<ops.size->listed.getD j ar=true:=λlisted c8 hr n=>by
  induction n with
  | zero=>intro j h;omega
  | succ n ih =>
   intro j hj mL;cases hq:listed.getD j ar with
   | true=>rfl
   | false =>
    have:j∈Region.ready .any ops listed:=mem_ready.2 ⟨by rw[HV _ _ (by rw[c8];exact mL)];exact hq,ops[j],np mL,λe he hb=>by
     have:=F.back j _ (np mL) e he hb
     exact ih e.on (by omega) (by omega)⟩
    rw[hr] at this;simp at this
 have hzero:∀(listed:Array Bool),listed.size=ops.size->listed.toList.count ar<=0->Region.ready .any ops listed=[]:=λlisted c8 hc=>by
  cases hq:Region.ready .any ops listed with
  | nil=>rfl
  | cons j js =>
   obtain⟨U,o,ho,_⟩:=mem_ready.1 (show j∈Region.ready .any ops listed by rw[hq];simp);have aD:j<listed.size:=by rw[c8];exact(lU.1 ho).1
   have:ar∈listed.toList:=by
    have e:listed[j]?=aa false:=by
     rw[np aD];simpa [aD] using U
    exact rF (by simpa using e)
   have:=List.count_pos_iff.2 this
   omega
 -- the tail,in every order
 have tail:∀(fuel:Nat) (listed:Array Bool) (a:Act) (w:World),Tl ops hi nA Z ll (bD (ev s1 hi.x).cells) p hF E s1.t s1 listed a w->listed.toList.count ar<=fuel->wpAny P .any ops Q' fuel listed a w:=by
  intro fuel;induction fuel with
  | zero =>
   intro listed a w h hc;have hr:=hzero listed h.size hc;exact⟨hr,fin listed a w h λj hj=>Ie listed h.size hr (j+1) j (by omega) hj⟩
  | succ fuel ih =>
   intro listed a w h hc;refine⟨λhr=>fin listed a w h λj hj=>Ie listed h.size hr (j+1) j (by omega) hj,λi dt => ?_⟩;exact avE T h dt λa w h' => ih _ a w h' (MC listed i h.size dt fuel hc)
 -- what comes before
 have key:∀(fuel:Nat) (listed:Array Bool) (a:Act) (w:World),D3 ops tr st.t (st.aE,st.out) E (λ_ _ _=>True) listed a w->(∀j,nA<=j->listed.getD j ar=ar)->listed.toList.count ar<=fuel->wpAny P .any ops Q' fuel listed a w:=by
  intro fuel;induction fuel with
  | zero =>
   intro listed a w h hn hc;have hr:=hzero listed h.size hc
   have:=Ie listed h.size hr (nA+1) nA (by omega) (by omega)
   rw[hn nA (bY _)] at this;simp at this
  | succ fuel ih =>
   intro listed a w h hn hc;refine⟨λhr=>?_,λi dt => ?_⟩
   .have:=Ie listed h.size hr (nA+1) nA (by omega) (by omega)
    rw[hn nA (bY _)] at this;simp at this
   obtain⟨zC,o,ho,dq⟩:=mem_ready.1 dt;have al9:i<ops.size:=(lU.1 ho).1;have Bl : i<listed.size:=by rw[h.size];exact al9
   rcases AP i nA with aD | rfl | hgt
   .refine SP F qT rfl ht h dt (λo ho=>let ⟨x,U,h2⟩:=wy i o aD ho;⟨x,U,.inl ⟨h2,λ_ _ _ _ _ _ _=>trivial⟩⟩) λa w h' => ih _ a w h' (λj hj=>?_) (MC listed i h.size dt fuel hc)
    rw[Af Bl,aB (by omega)];exact hn j hj
   ·-- the row grows
    have nH:=zV ho;have wA:∀j,j<i->listed.getD j ar=true:=λj hj=>by
     have:=eA j hj
     rw[nH] at this;obtain⟨e,U,h2,h3⟩:=H7 this;rw[<-h3];exact dq e U h2
    obtain⟨E1,rfl,dS,zp,_⟩:=h.rel;have hS:∀j,(λj=>listed.getD j ar) (0+j)=decide (0+j<i):=λj=>by
     rw[j6]
     by_cases hj:j<i
     .simp only[hj,b9];exact wA j hj
     .simp only[hj,fL];exact hn j (by omega)
    rw[Y9 hS,Nat.sub_zero] at dS;have Fq:bN E1 s1 a:=by
     refine⟨?_,?_,dS.defers,?_⟩
     .rw[U5.2,U8];exact dS.ok
     .rw[U5.1,U8];exact dS.dv
     .rw[Bp];exact awQ (Nl dS.slot)
    obtain⟨c',t,u,e,inf,z,vl,vv,yb,yF,q1,q2,q3,q4,q5,q6,q7,q8,q9,B5,q11,q12,q13,_⟩:=C0.app;rw[nH] at q1;have hg:=C0.guard.1;rw[nH] at hg;have mH:=C0.dst.1;rw[nH] at mH;unfold wpOp;rw[ho];simp only;rw[Gy hg,aF rfl];left;have dk:(execOp a.eval o).run P E1.w=((Builtin.append_ #[t,u] o.type #[a.eval vl,a.eval vv]).run P E1.w).andThen λv w' => .ok (.value v) w' := by
     simp[execOp,q1,q2,q3,q4,resolve,invoke,builtin]
    have Uq:=o9 (E:=E1) (st:=s1) (a:=a) Fq.slot q12;have Uv:=o9 (E:=E1) (st:=s1) (a:=a) Fq.slot q13;rw[es] at Uq;rw[ez] at Uv;obtain⟨news,r1,r2,r3,r4⟩:=JQ (P:=P) q6 Uv;obtain⟨i',zv,k1,k2,k3,k4⟩:=uh q8;rw[q7] at k1;simp only[bc] at k1;subst k1;have jB:zv.cells.size=inf.size:=by have:=gj (sr (E:=E1) k3);simp at this;omega
    obtain⟨bk,cap,E2,m1,m2,m3,m4,m5⟩:=amw (P:=P) Fq q5 q7 k2 jB q9 dk (by rw[B5];exact Uq) (by rw[B5];exact r1) r3 lB (Fq.ok.aR Z _ tR);unfold Oper.wp;rw[m2];have Ff:s1.t.length=a.tmps.size:=by have:=gj Fq.slot;simpa using this
    have Uz:hi.d9<a.tmps.size:=by rw[<-Ff];exact h9
    refine tail fuel _ _ _ ⟨by simp[h.size],λj hj=>?_,E2,s1,bk,cap,rfl,zp.trans m3,?_,rfl,?_,?_,?_,?_,?_,?_⟩ (MC listed i h.size dt fuel hc)
    .rw[Af Bl];split
     .rfl
     .exact wA j (by omega)
    .rw[mH]
     have:=bN.put m4 (v:=.any) (x:=.slice (aa ⟨bk,0,aj⟩) (ll.length+1) cap) (by simp[R]) (aa hi.d9)
     have e:s1.put (aa hi.d9) .any=s1:=by
      simp only[St.put];rw[Zd T.d9]
     rw[e] at this;exact this
    .rw[mH,B4 Uz,aF rfl]
    .intro U;rw[Af Bl,aB (by omega),hn _ (by omega)] at U;simp at U
    .intro _ U;rw[Af Bl,aB (by omega),hn _ (by omega)] at U;simp at U
    .intro _;rw[<-B5];exact m1
    .intro U;rw[Af Bl,aB (by omega),hn _ (by omega)] at U;simp at U
    .have z1:(listed.setIfInBounds i ab).getD (ops.size - 1) ar=false:=by rw[Af Bl,aB (by omega)];exact hn _ (by omega)
     have z2:(listed.setIfInBounds i ab).getD (i+2) ar=false:=by rw[Af Bl,aB (by omega)];exact hn _ (by omega)
     rw[z1,z2];simp
   .exfalso
    have nH:=zV ho;have alY:kU o nA=true:=by
     rw[<-nH]
     by_cases U:i=nA+1
     .rw[U];exact eI
     by_cases h2:i=nA+2
     .rw[h2];exact eS.1
     by_cases h3:i=ops.size - 1
     .rw[h3];exact eO
     have sE:hF=true:=by
      cases hq:hF with
      | true=>rfl
      | false=>rw[hq] at c8;simp at c8;omega
     have h4:i=nA+3:=by rw[sE] at c8;simp at c8;omega
     rw[aF sE] at CZ;rw[h4];exact(eF _ CZ).1
    obtain⟨e,U,h2,h3⟩:=H7 alY
    have:=dq e U h2
    rw[h3,hn nA (bY _)] at this;simp at this
 have zy:∀j,(Array.replicate ops.size ar).getD j ar=false:=λj=>by
  by_cases hj:j<ops.size<;>simp[hj]
 have mb:∀(tr:List TR) (q:Nat),cR (λj=>(Array.replicate ops.size ar).getD j ar) q tr=[]:=by
  intro tr;induction tr with
  | nil=>intro q;rfl
  | cons r tr ih=>intro q;rw[cR,aB (by rw[zy];simp)];exact ih _
 refine key ops.size _ a _ ⟨by simp,λi o _ hi=>by rw[zy] at hi;simp at hi,{E with w:=E.w.drew},rfl,?_,bq,trivial⟩ (λj _=>zy j) (by simp);rw[mb];exact qm
end
section
variable {P:Program} {E:Env} {st:St} {a:Act} {o:Oper} {K:V->St->Prop} {Q:Exit->Act->World->Prop}
def Env.iq(E:Env)(b:Nat):Env:={E with bf:=λx=>if x=b then .const else E.bf x}
def akR{cs:List V}(hs:bN E st a)(hb:st.out.box b=aa cs):
 Fr E (E.iq b)/\bN (E.iq b) ⟨st.t,st.aE,st.out.del b⟩ a/\∀(j:Nat) x,cs[j]?=aa x->∃v,(E.iq b).w.cell? ⟨b,j,aj⟩=aa v/\((E.iq b).bf b).iX j/\R (E.iq b).nl x v:=by
 obtain⟨d_,c,e,hc,hlen,qe⟩:=hs.ok.box b cs hb;have hc:E.w.heap[b]?=aa (.cells c e (0,0)):=hc;have a9:∀b',E.bf b' ≠ .rh->b' ≠ b:=λb' h e=>h (by rw[e];exact d_)
 have mQ:∀b',b' ≠ b->(E.iq b).bf b' = E.bf b' := λb' h=>by simp[Env.iq,h]
 have aD:=lK (w:=E.w) hc;have bq:Fr E (E.iq b):=by
  refine⟨rfl,rfl,rfl,bY _,λ_=>rfl,λb' o c' zk hv=>?_,λt n h=>⟨n,h,bY _,λ_ b' c' hr=>⟨?_,λcs e b7=>⟨cs,b7,rfl⟩⟩⟩,λb' _ hr=>⟨rfl,?_⟩,λb' _ h=>?_,λb' t c' _ h=>?_,λb' i _ h=>?_,λb' c' e h=>⟨c',h,rfl⟩⟩
  .have:b' ≠ b:=a9 b' (λe=>by rw[e] at zk;exact zk)
   exact⟨by rw[mQ b' this];exact zk,hv⟩
  .rw[mQ b' (a9 b' (by rw[hr];simp))];exact hr
  .rw[mQ b' (a9 b' (by rcases hr with h | h<;>rw[h]<;>simp))]
  .by_cases e:b' = b
   .rw[e];exact .inl d_
   .rw[mQ _ e] at h;exact .inl h
  .by_cases e:b' = b
   .rw[e] at h;simp[Env.iq] at h
   .rw[mQ _ e] at h;exact⟨c',h⟩
  .by_cases e:b' = b
   .rw[e] at h;simp[Env.iq] at h
   .rw[mQ _ e] at h;exact⟨i,h⟩
 have hle:E.le (E.iq b):=bq.le λi b h=>h
 refine⟨bq,⟨⟨λb' cs' h=>?_,hs.ok.aR,λb' cC => ?_,hs.ok.nt,λb cs hc=>eU.mono _ bq.nl (hs.ok.b8 b cs hc)⟩,rj hs.dv hle (λb' i h _=>⟨by rw[mQ b' (a9 b' (by rw[h];simp))];exact h,rfl⟩) hs.dv.none,hs.defers,RL.mono _ hle hs.slot⟩,λj x hx=>?_⟩
 .simp only[ah.del] at h;split at h
  .simp at h
  .rename_i Bn;obtain⟨U,h2⟩:=hs.ok.box b' cs' h;exact⟨by rw[mQ b' Bn];exact U,j4.mono hle.nl rfl h2⟩
 .have cC : E.w.heap.size<=b' := cC;rw[mQ b' (by omega)];exact hs.ok.fresh b' cC
 .obtain⟨v,hv,hr⟩:=qe j x hx;refine⟨v,?_,by simp[Env.iq,fz.iX],R.mono x bq.nl hr⟩;show E.w.cell? ⟨b,j,aj⟩=aa v;simp[World.cell?,hc,hv]
def pS(s:List UInt8):List Value:=s.map λb=>Value.int .u8 b.toNat
variable{base:Option Addr}
def XX{D:ah}{n:Nat}{s:List UInt8}(ck:E.ok D)(h:JD D base n s){w0:World}(hw:w0.heap=E.w.heap):
 n=0/\s=[]\/∃b off,base=aa ⟨b,off,aj⟩/\(loadCells ⟨b,off,aj⟩ n).run P w0 = .ok (pS s).toArray w0:=by
 obtain⟨hl,h⟩:=h
 rcases h with rfl | ⟨b,off,cs,rfl,hb,b7⟩
 .exact .inl ⟨rfl,kn.1 hl⟩
 .right;obtain⟨_,c,e,hc,hlen,qe⟩:=ck.box b cs hb;have hc:w0.heap[b]?=aa (.cells c e (0,0)):=by rw[hw];exact hc
  refine⟨b,off,rfl,?_⟩
  have:=run_loadCells_list (P:=P) w0 ⟨b,off,aj⟩ (pS s) (λj u hu=>by
   rw[my];simp only[pS,uo,dn] at hu;obtain⟨x,hx,rfl⟩:=hu;have hj:j<n:=by rw[<-hl];exact(fy.1 hx).1
   have hcj:cs[off+j]?=aa (.int .u8 x.toNat):=by
    have:=iH (λl:List V=>l[j]?) b7
    simp only[uo,hx,uu,yP hj,vD] at this;exact this
   obtain⟨v,U,h2⟩:=qe (off+j) _ hcj;simp only[R] at h2;simp[World.cell?,hc,U,h2])
  rw[show(pS s).length=n by simp[pS,hl]] at this;exact this
variable{e u:TypeId}
def au_{n:Nat}{s:List UInt8}(ck:E.ok st.out)(h:JD st.out base n s)(hu:P.underlying u=aa (.slice e)):
 Src P E.w 1 (dK s).length u (.slice base n cap) (pS s)/\RL E.nl (dK s).flatten (pS s)/\(∀v∈pS s,v.oneCell' = ab)/\∀y∈dK s,y.length=1:=by
 have hl:=h.1;have hlen:(dK s).length=n:=by simp[dK,hl]
 have cell:∀w0:World,w0.heap=E.w.heap->(Builtin.firstCells 1 n (.slice base n cap)).run P w0 = .ok (pS s).toArray w0:=λw0 hw=>by
  rcases XX (P:=P) ck h hw with ⟨rfl,rfl⟩ | ⟨b,off,rfl,hr⟩
  .cases base<;>simp[Builtin.firstCells,loadCells,loadCellsFrom,pS]
  .simp only[Builtin.firstCells,se];exact hr
 refine⟨⟨⟨_,hu,λ_ h=>by simp at h⟩,λw' => by simp[Builtin.lenOf,hlen],?_,?_,by simp[pS,dK]⟩,?_,?_,?_⟩
 .rw[hlen];exact cell E.w rfl
 .rw[hlen];exact cell E.w.drew rfl
 .rw[LD];clear hl hlen cell h;induction s with
  | nil=>simp[RL,pS]
  | cons b s ih=>simp only[cz,RL,R,pS] at ih ⊢;exact⟨trivial,ih⟩
 .intro v hv;simp only[pS,px] at hv;obtain⟨b,_,rfl⟩:=hv;rfl
 .intro y hy;simp only[dK,px] at hy;obtain⟨b,_,rfl⟩:=hy;rfl
variable{t:TypeId}
def at7{lo hi:Option Operand}{o8 dt : Option X}(hs:bN E st a)(U:lJ P t lo=aa o8)(h2:lJ P t hi=aa dt){len n:Nat}
 (dR:match (generalizing:=false) o8 with | none=>m=0 | some y=>∃j,ev st y = .int j m) (oJ:match (generalizing:=false) dt with | none=>n=len | some y=>∃j,ev st y = .int j n) (uT:m<=n) (nG:n<=len) :
 (Instr.sliceBounds ar len len (lo.map a.eval) (hi.map a.eval) aj).run P E.w = .ok (m,n,len) E.w:=by
 rcases mV (E:=E) hs.slot h2 with ⟨rfl,rfl⟩ | ⟨u,v,rfl,rfl,hr⟩
 .simp only at oJ;subst oJ
  rcases mV (E:=E) hs.slot U with ⟨rfl,rfl⟩ | ⟨u',v',rfl,rfl,cL⟩
  .simp only at dR;subst dR;simp[Instr.sliceBounds]
  .obtain⟨j',iP⟩:=dR;rw[iP] at cL;simp only[R] at cL;have e2:=r5 (P:=P) (w:=E.w) (j:=j') (c:=.sliceB) uT;simp[Instr.sliceBounds,cL,e2]
 .obtain⟨j,hj⟩:=oJ;rw[hj] at hr;simp only[R] at hr;have e2:=r5 (P:=P) (w:=E.w) (j:=j) (c:=.sliceAlen) nG
  rcases mV (E:=E) hs.slot U with ⟨rfl,rfl⟩ | ⟨u',v',rfl,rfl,cL⟩
  .simp only at dR;subst dR;simp[Instr.sliceBounds,hr,e2]
  .obtain⟨j',iP⟩:=dR;rw[iP] at cL;simp only[R] at cL;have e3:=r5 (P:=P) (w:=E.w) (j:=j') (c:=.sliceB) uT;simp[Instr.sliceBounds,hr,cL,e2,e3]
def Of(P:Program)(o:Oper):Option aO :=
 match o.op with
 | .slice t x lo hi aj =>
  match cS P t x,lJ P t lo,lJ P t hi with
  | some y, aa o8, aa dt =>
   match P.underlying t with
   | some (.array m e)=>(eQ P e).map λk=>.own (.JM m k o8.isSome dt.isSome) (y::(o8.toList++dt.toList))
   | some (.slice e)=>if eQ P e=aa 1 then aa (.own (.iq 1 o8.isSome dt.isSome) (y::(o8.toList++dt.toList))) else aj
   | _=>aj
  | _,_,_=>aj
 | .buildSlice t len ps =>
  match P.underlying t with
  | some (.slice e) =>
   match eQ P e,kF P e,jO P (aq len e) (ps.toList.map (·.2)) with
   | some k,aa _,aa xs=>if ps.toList.map (·.1)=bA len/\len*k<=16777216 then aa (.own (.new k) xs) else aj
   | _,_,_=>aj
  | _=>aj
 | .convert src dst x =>
  match P.underlying src,P.underlying dst,cS P src x with
  | some (.slice e),aa .string,aa y=>match P.underlying e with | some (.int .u8)=>aa (.own .Lr [y]) | _=>aj
  | _,_,_=>aj
 | .call c =>
  match c.callee with
  | .builtin .append =>
   match c.argTypes.toList,c.args.toList with
   | [t, u], [s, x] =>
    match P.underlying t,cS P t s,cS P u x with
    | some (.slice e), aa s', aa x' =>
     match P.info? e,kF P e with
     | some i, aa _ =>
      if i.size=1/\i.bytes<=4096 then
       match P.underlying u with
       | some .string=>aa (.own .n6 [s',x'])
       | some (.slice _)=>aa (.own .K3 [s',x'])
       | _=>aj
      else aj
     | _,_=>aj
    | _,_,_=>aj
   | _,_=>aj
  | _=>aj
 | _=>aj
def aw9(hs:bN E st a){len:Nat}{parts:Array (Nat × Operand)}{z:List V}(ho:o.op = .buildSlice t len parts)(ht:P.underlying t=aa (.slice e))(hn:eQ P e=aa k)(hz:kF P e=aa z)
 (hr:parts.toList.map (·.1)=bA len) (c8:len*k<=16777216) {l:List (List V)}
 (hf:(parts.toList.map (·.2)).length=len/\l.length=len/\(∀x∈parts.toList.map (·.2),(a.eval x).cells.size=k)/\(∀y∈l,y.length=k)/\RL E.nl l.flatten ((parts.toList.map (·.2)).map λx=>(a.eval x).cells.toList).flatten/\∀v∈((parts.toList.map (·.2)).map λx=>(a.eval x).cells.toList).flatten,v.oneCell' = ab)
 (hk:∀b,st.out.box b=aj->K (V.raw (.slice (aa ⟨b,0,aj⟩) l.length l.length)) ⟨st.t,st.aE,st.out.set b l.flatten⟩):o.wp P a E.w (ei E a o.dst K) Q:=by
 obtain⟨k1,k2,k3,k4,k5,k6⟩:=hf;obtain⟨i,zv,U,h2,h3,h4⟩:=uh hz;have hlen:parts.toList.length=len:=by simpa using k1
 let ps:List (Nat × Value):=parts.toList.map λ(i,x)=>(i,a.eval x)
 have Nb:ps.map (·.1)=List.range' 0 ps.length:=by
  have:ps.map (·.1)=parts.toList.map (·.1):=by simp[ps,tq]
  rw[this,hr,vE];congr 1;simp[ps];simpa using hlen.symm
 have Nc:(ps.map λp=>p.2.cells.toList)=(parts.toList.map (·.2)).map λx=>(a.eval x).cells.toList:=by simp[ps,tq]
 have dq:∀p∈ps,p.2.cells.size=k:=λp hp=>by
  simp only[ps,px] at hp;obtain⟨q,hq,rfl⟩:=hp;exact k3 q.2 (px.2 ⟨q,hq,rfl⟩)
 have qk:ps.length=len:=by simp[ps];simpa using hlen
 have fill:∀cells:Array Value,cells.size=len*k->Instr.fill (λi=>aa (i*k,k)) cells ps=aa ((parts.toList.map (·.2)).map λx=>(a.eval x).cells.toList).flatten.toArray:=λcells hc=>by
  have:=LM ps 0 cells Nb dq (by rw[qk];simpa using hc)
  rw[this,Nc];simp
 generalize tL:((parts.toList.map (·.2)).map λx=>(a.eval x).cells.toList).flatten=news at fill k5 k6;refine Qn hs (w1:=E.w) (Ext.refl _) rfl (x:=.slice (aa ⟨E.w.heap.size,0,aj⟩) len len) (v:=λb=>.raw (.slice (aa ⟨b,0,aj⟩) l.length l.length)) (zs:=l.flatten) (c:=news.toArray) (e:=e) ?_ (by simpa using k5) (by simp only[R,k2]) rfl hk;have jB:(zeroValue e).run P E.w = .ok zv E.w:=by simp[zeroValue,typeInfo,U,h2]
 have Fm:(parts.map λ(i,x)=>(i,a.eval x)).toList=ps:=by simp[ps]
 have zB : ¬(16777216<len*k):=by omega
 simp only[execOp,ho,Sem.run_bind];have key:(Instr.buildSlice t len (parts.map λ(i,x)=>(i,a.eval x))).run P E.w = .ok (.slice (aa ⟨E.w.heap.size,0,aj⟩) len len) (E.w.alloc (.cells news.toArray e)):=by
  unfold Instr.buildSlice;simp only[Sem.run_bind,run_underlying ht,Result.andThen_ok,pK hn];rw[aB (by simpa using zB)];rw[Fm]
  by_cases h0:len*k=0
  .rw[aF h0];simp only[Sem.run_bind,Sem.run_pure,Result.andThen_ok];rw[fill _ (by simp)];simp[newRow]
  .rw[aB h0];simp only[Sem.run_bind,jB,Result.andThen_ok,Sem.run_pure];rw[fill _ (by simp)];simp[newRow]
 rw[key];rfl
variable{ao:aO}
def arq(hl:Of P o=aa ao)(hs:bN E st a)(h:ao.bj P st K):o.wp P a E.w (ei E a o.dst K) Q:=by
 have X:=λ{t:TypeId} {x:Operand} {y:X} (hx:cS P t x=aa y)=>o9 (E:=E) (st:=st) (a:=a) hs.slot hx
 unfold Of at hl;split at hl
 .rename_i t x lo hi ho;split at hl
  case h_2=>simp at hl
  rename_i y o8 dt U h2 h3;have hx:=X U;split at hl
  .rename_i m e ht;simp only[dn] at hl;obtain⟨k,hk,rfl⟩:=hl;simp only[aO.bj,dw] at h;unfold OQ.bj at h;split at h<;>try (exfalso;simp_all;done)
   .rename_i m0 k0 b1 b2 b off vs e1 e2;simp only[OQ.JM.injEq] at e1;obtain⟨rfl,rfl,rfl,rfl⟩:=e1;simp only[iE] at e2;obtain⟨e2,rfl⟩:=e2;rw[e2] at hx;simp only[R] at hx;rw[HH] at h;obtain⟨l,h,g1⟩:=AY h;rw[<-eD (dw st dt.toList)] at h;obtain⟨hh,h,g2⟩:=AY h;obtain⟨_,k1,k2,h⟩:=h;have hb:=at7 (P:=P) hs h2 h3 g1 g2 k1 k2;refine dh hs (v:=.raw _) (x:=.slice (aa (if m=l then ⟨b,off,aj⟩ else ⟨b,off+l*k,aj⟩)) (hh - l) (m - l)) ?_ (by simp only[R]) h;simp only[execOp,ho,Sem.run_bind,hx];simp[Instr.sliceAt,run_underlying ht,Instr.sureAddr,hb,pK hk,my]
  .rename_i e ht;split at hl
   case isFalse=>simp at hl
   rename_i hk;simp only[bc] at hl;subst hl;simp only[aO.bj,dw] at h;unfold OQ.bj at h;split at h<;>try (exfalso;simp_all;done)
   .rename_i k0 b1 b2 b off n cap vs e1 e2;simp only[OQ.iq.injEq] at e1;obtain⟨rfl,rfl,rfl⟩:=e1;simp only[iE] at e2;obtain⟨e2,rfl⟩:=e2;rw[e2] at hx;simp only[R] at hx;rw[HH] at h;obtain⟨l,h,g1⟩:=AY h;rw[<-eD (dw st dt.toList)] at h;obtain⟨hh,h,g2⟩:=AY h;obtain⟨_,k1,k2,_,cs,Bg,hlen,gp,qj,h⟩:=h;have hb:=Pp (P:=P) (mx:=none) (mx' := aj) (M:=cap) hs h2 h3 rfl (by simp) g1 g2 rfl k1 k2 (bY _);obtain⟨hf,dS,hc⟩:=akR hs Bg;unfold Oper.wp;rw[show(execOp a.eval o).run P E.w = .ok (.value (.slice (if cap=l then aa ⟨b,off,aj⟩ else aa ⟨b,off+l,aj⟩) (hh - l) (cap - l))) E.w by
     simp only[execOp,ho,Sem.run_bind,hx];simp only[Option.map_none] at hb;simp[Instr.sliceAt,run_underlying ht,Instr.slice,hb,pK hk,my]]
    refine⟨E.iq b,_,_,⟨st.t,st.aE,st.out.del b⟩,rfl,hf,dS,?_,rfl,h⟩;have fT:(CG (((cs.drop off).take hh).drop l)).length=hh - l:=by simp[CG];omega
    simp only[R];refine⟨_,_,by rw[fT],by rw[fT];omega,?_,trivial⟩
    by_cases hz:hh=l
    .left;exact kn.1 (by rw[fT];omega)
    .right;refine⟨b,off+l,by rw[aB (by omega)],?_⟩;have key:∀(xs:List V) (p:Nat),(∀(j:Nat) x,xs[j]?=aa x->cs[p+j]?=aa x)->cW xs=ab->gv (E.iq b).nl 1 (CG xs) b p:=by
      intro xs;induction xs with
      | nil=>intro p _ _;simp[CG,gv]
      | cons x xs ih =>
       intro p hp Fi;simp only[cW,bg] at Fi;simp only[CG,cz,gv,eU];obtain⟨v,v1,v2,v3⟩:=hc p x (by have:=hp 0 x rfl;simpa using this);refine⟨rfl,⟨⟨v,v1,v2,zU (E:=(E.iq b).nl) (xs:=[x]) (vs:=[v]) (by simp only[RL];exact⟨v3,trivial⟩) (by simp[cW,Fi.1]) v (by simp),by simpa using v3⟩,trivial⟩,?_⟩;refine ih (p+1) (λj y hy=>?_) Fi.2
       have:=hp (j+1) y (by simpa using hy)
       rwa [show p+1+j=p+(j+1) by omega]
     refine key _ _ (λj x ku => ?_) gp;rw[vD,yP (by
      have:=(fy.1 ku).1
      simp at this;omega),vD] at ku
     rwa [show off+l+j=off+(l+j) by omega]
  .simp at hl
 .rename_i t len ps ho;split at hl
  case h_2=>simp at hl
  rename_i e ht;split at hl
  case h_2=>simp at hl
  rename_i k z xs hk hz qZ;split at hl
  case isFalse=>simp at hl
  rename_i hc;simp only[bc] at hl;subst hl;simp only[aO.bj] at h;unfold OQ.bj at h;split at h<;>try (exfalso;simp_all;done)
  .rename_i k0 vs e1;simp only[OQ.new.injEq] at e1;subst e1;obtain⟨l,U,nG,h2⟩:=h;exact aw9 hs ho ht hk hz hc.1 hc.2 (NR (E:=E) hs.slot qZ U) h2
 .rename_i src dst x ho;split at hl
  case h_2=>simp at hl
  rename_i e y U h2 h3;split at hl
  case h_2=>simp at hl
  rename_i h4;simp only[bc] at hl;subst hl;have hx:=X h3;simp only[aO.bj,dw] at h;unfold OQ.bj at h;split at h<;>try (exfalso;simp_all;done)
  .rename_i base n cap e1 e2;simp only[iE,im] at e2;rw[e2] at hx;simp only[R] at hx;obtain⟨s,ht,h⟩:=h;refine dh hs (v:=.aG s) (x:=.string ⟨s.toArray⟩) ?_ (by simp only[R]) h;have key:(Conv.bytesToString (a.eval x)).run P E.w = .ok (.string ⟨s.toArray⟩) E.w:=by
    rw[hx]
    rcases XX (P:=P) hs.ok ht rfl with ⟨rfl,rfl⟩ | ⟨b,off,rfl,hr⟩
    .cases base with
     | none=>simp[Conv.bytesToString];rfl
     | some ad =>
      have:=run_bytesToString (P:=P) E.w ad 0 cap [] (by simp[loadCells,loadCellsFrom])
      simp at this ⊢;exact this
    .rw[show pS s=(s.map λb=>(b.toNat:Int)).map (Value.int .u8) by simp[pS]] at hr
     have:=run_bytesToString (P:=P) E.w ⟨b,off,aj⟩ n cap _ hr
     rw[this];have hp:=OY s [];simp only[gQ] at hp;exact iH (λz=>Result.ok (Value.string z) E.w) hp
   rw[hx] at key;simp only[execOp,ho,Sem.run_bind,hx];simp[convert,run_underlying U,run_underlying h2,run_underlying h4,key]
 .rename_i c ho;obtain⟨callee,args,argTypes⟩:=c;simp only at hl;split at hl
  .split at hl
   case h_2=>simp at hl
   rename_i t u s x ht hx;have e1:argTypes=#[t,u]:=by cases argTypes;simpa using ht
   have e2:args=#[s,x]:=by cases args;simpa using hx
   subst e1;subst e2;split at hl
   case h_2=>simp at hl
   rename_i e s' x' hu dS ku;split at hl
   case h_2=>simp at hl
   rename_i i z hi hz;split at hl
   case isFalse=>simp at hl
   rename_i hc;obtain⟨qi,oD⟩:=hc;obtain⟨i',z',q1,q2,q3,q4⟩:=uh hz;obtain rfl:i=i' := by rw[hi] at q1;simpa using q1
   have jB:z'.cells.size=i.size:=by have:=gj (sr (E:=E) q3);simp at this;omega
   have wB:=X dS;have gq:=X ku;split at hl
   .rename_i Bs;simp only[bc] at hl;subst hl;simp only[aO.bj,dw] at h;unfold OQ.bj at h;split at h<;>try (exfalso;simp_all;done)
    .rename_i base n cap sx e1 e2;simp only[iE,im] at e2;obtain⟨e2,e3⟩:=e2;rw[e2] at wB;rw[e3] at gq;simp only[R] at wB gq;obtain⟨news,g1,g2,g3,g4⟩:=Zq (P:=P) (E:=E.nl) (w:=E.w) Bs sx;refine Qm hs hu hi q2 jB oD (ty:=o.type) (base:=base) (n:=n) (cap:=cap) (u:=u) (vx:=a.eval x) (m:=dK sx) (news:=news) ?_ ?_ g2 g3 ?_ ?_
     .simp[execOp,ho,resolve,invoke,builtin,wB]
     .rw[qi,gq];exact g1
     .rw[qi];exact g4
     .rw[qi];exact h
   .rename_i e' Bs;simp only[bc] at hl;subst hl;simp only[aO.bj,dw] at h;unfold OQ.bj at h;split at h<;>try (exfalso;simp_all;done)
    .rename_i base n cap acg n' p8 e1 e2;simp only[iE,im] at e2;obtain⟨e2,e3⟩:=e2;rw[e2] at wB;rw[e3] at gq;simp only[R] at wB gq;obtain⟨sx,hr,h⟩:=h;obtain⟨g1,g2,g3,g4⟩:=au_ (P:=P) (cap:=p8) hs.ok hr Bs;refine Qm hs hu hi q2 jB oD (ty:=o.type) (base:=base) (n:=n) (cap:=cap) (u:=u) (vx:=a.eval x) (m:=dK sx) (news:=pS sx) ?_ ?_ g2 g3 ?_ ?_
     .simp[execOp,ho,resolve,invoke,builtin,wB]
     .rw[qi,gq];exact g1
     .rw[qi];exact g4
     .rw[qi];exact h
   .simp at hl
  .simp at hl
 .simp at hl
variable{ty:TypeId}
def Z6(hs:bN E st a){i:TypeInfo}(ht:P.underlying t=aa (.slice e))(hi:P.info? e=aa i){n:Nat}{vx:Value}{xs:List V}
 (dk:(execOp a.eval o).run P E.w=((Builtin.copy_ #[t,u] ty #[.slice base n cap,vx]).run P E.w).andThen λv w' => .ok (.value v) w')
 {len:Nat} (hlen:(Builtin.lenOf vx).run P E.w = .ok len E.w) (hm:min len n=m) {news:List Value} (qe:(Builtin.firstCells i.size m vx).run P E.w = .ok news.toArray E.w)
 (tL:RL E.nl xs news) (gp:∀v∈news,v.oneCell' = ab) (c8:news.length=m*i.size)
 (hk:Cn st.out i.size base m xs λv D=>K v ⟨st.t,st.aE,D⟩):o.wp P a E.w (ei E a o.dst K) Q:=by
 obtain⟨E_,qU⟩:=hk;have hm:Nat.min len n=m:=hm
 by_cases h0:m=0
 .subst h0
  have:news=[]:=uk (by simpa using c8)
  subst this;refine dh hs (v:=.int .i64 0) (x:=.int .i64 0) ?_ (by simp only[R]) (E_ rfl);rw[dk];cases base<;>simp[Builtin.copy_,run_underlying ht,sizeOf,typeInfo,hi,hlen,hm,qe,storeCells,goInt]
 .obtain⟨b,off,cs,rfl,qd,qg,hK⟩:=qU h0;obtain⟨d_,c,e',fB,hln,hc⟩:=hs.ok.box b cs qd;have fB:E.w.heap[b]?=aa (.cells c e' (0,0)):=fB;have xZ:=gj tL;have MN : off+news.length<=c.size:=by omega
  have eE:=run_storeCells_at (P:=P) b off e' news 0 c E.w fB (by simpa using MN) gp;simp only[xg] at eE;have kc:(Builtin.copy_ #[t,u] ty #[.slice (aa ⟨b,off,aj⟩) n cap,vx]).run P E.w = .ok (.int .i64 m) (E.w.setRow b (c.toList.take off++news++c.toList.drop (off+news.length)).toArray):=by
   simp[Builtin.copy_,run_underlying ht,sizeOf,typeInfo,hi,hlen,hm,qe,eE,goInt]
  have bq:=HR (E:=E) (new:=(c.toList.take off++news++c.toList.drop (off+news.length)).toArray) fB (.inr d_) (by simp;omega);have hle:=bq.le λ_ _ h=>h
  have iv:=setRow_heap E.w b c (c.toList.take off++news++c.toList.drop (off+news.length)).toArray e' _ fB;have Bg:=Hn (E' := Env.nl {E with w:=E.w.setRow b (c.toList.take off++news++c.toList.drop (off+news.length)).toArray}) hln
   (λj x hj=>let ⟨u,U,h2⟩:=hc j x hj;⟨u,U,h2.mono _ bq.nl⟩) (RL.mono _ bq.nl tL) (by omega) iv
  generalize (c.toList.take off++news++c.toList.drop (off+news.length)).toArray=new at kc iv bq hle Bg;have j_ : ∀b',b' ≠ b->(E.w.setRow b new).heap[b']?=E.w.heap[b']?:=λb' a9=>setRow_other E.w b b' new a9
  unfold Oper.wp;rw[dk,kc];refine⟨{E with w:=E.w.setRow b new},.int .i64 m,.int .i64 m,⟨st.t,st.aE,st.out.set b (setAt cs off xs)⟩,rfl,bq,⟨⟨?_,hs.ok.aR,λb' cC => hs.ok.fresh b' (by simpa using cC),hs.ok.nt,λb cs hc=>eU.mono _ bq.nl (hs.ok.b8 b cs hc)⟩,
   rj hs.dv hle (λb' i hr _=>⟨hr,j_ b' (by rintro rfl;rw[d_] at hr;simp at hr)⟩) hs.dv.none,hs.defers,RL.mono _ hle hs.slot⟩,by simp only[R],rfl,hK⟩
  intro b' cs' zm;simp only[ah.set] at zm;split at zm
  .rename_i e2;subst e2;simp only[bc] at zm;subst zm;exact⟨d_,Bg⟩
  .rename_i a9;obtain⟨U,h2⟩:=hs.ok.box b' cs' zm;exact⟨U,h2.mono bq.nl (j_ b' a9)⟩
def aem(ck:E.ok st.out){n:Nat}{xs:List V}(h:QG st.out base n xs):∃news:List Value,news.length=n/\RL E.nl xs news/\(∀v∈news,v.oneCell' = ab) /\
 ∀(k m len cap:Nat),m*k=n->(Builtin.firstCells k m (.slice base len cap)).run P E.w = .ok news.toArray E.w:=by
 rcases h with ⟨rfl,rfl⟩ | ⟨b,o,cs,rfl,hb,hl,rfl,U⟩
 .refine⟨[],rfl,by simp[RL],by simp,λk m len cap e=>?_⟩;cases base with
  | none=>simp[Builtin.firstCells]
  | some ad=>simp[Builtin.firstCells,e,loadCells,loadCellsFrom]
 .obtain⟨_,c,e,hc,hlen,qe⟩:=ck.box b cs hb;have hc:E.w.heap[b]?=aa (.cells c e (0,0)):=hc;have fT:RL E.nl ((cs.drop o).take n) ((c.toList.drop o).take n):=by
   refine Ee (by simp;omega) λj x u hx hu=>?_
   have hj:j<n:=by have:=(fy.1 hx).1;simp at this;omega
   rw[yP hj,vD] at hx;rw[yP hj,vD] at hu;obtain⟨v,U,h2⟩:=qe (o+j) x hx
   have:v=u:=by simp at hu;rw[hu] at U;simpa using U.symm
   exact this▸h2
  have iu:((c.toList.drop o).take n).length=n:=by simp;omega
  refine⟨(c.toList.drop o).take n,iu,fT,zU fT U,λk m len cap e2=>?_⟩
  have:=run_loadCells_list (P:=P) E.w ⟨b,o,aj⟩ ((c.toList.drop o).take n) (λj v hv=>by
   have hj:j<n:=by have:=(fy.1 hv).1;omega
   rw[my];rw[yP hj,vD] at hv;simpa [World.cell?,hc] using hv)
  rw[iu] at this;simp only[Builtin.firstCells,e2];exact this
def Oc(P:Program)(o:Oper):Option aO :=
 match o.op with
 | .index t x i =>
  match P.underlying t,cS P t x,cS P t i with
  | some (.array m e), aa y, aa z =>
   match iO P e,eQ P e with
   | some ar,aa 1=>aa (.own (.IE m) [y,z])
   | _,_=>aj
  | _,_,_=>aj
 | .binOp op t x y _ =>
  match P.underlying t,cS P t x,cS P t y with
  | some (.pointer _),aa x',aa y' => match op with | .eql=>aa (.sy ar x' y') | .neq=>aa (.sy ab x' y') | _=>aj
  | _,_,_=>aj
 | .unOp .neg t x=>match P.underlying t,cS P t x with | some (.int k),aa y=>aa (.dU .sub (.c (.int k 0)) y) | _,_=>aj
 | .unOp .xor t x=>match P.underlying t,cS P t x with | some (.int k),aa y=>aa (.dU .xor (.c (.int k (if k.signed then -1 else k.max))) y) | _,_=>aj
 | .call c =>
  match c.callee with
  | .builtin .min =>
   match c.argTypes.toList,c.args.toList with
   | [t,u],[x,y]=>match P.underlying t,cS P t x,cS P u y with | some (.int _),aa x',aa y' => aa (.own .min [x',y']) | _,_,_=>aj
   | _,_=>aj
  | .builtin .max =>
   match c.argTypes.toList,c.args.toList with
   | [t,u],[x,y]=>match P.underlying t,cS P t x,cS P u y with | some (.int _),aa x',aa y' => aa (.own .max [x',y']) | _,_,_=>aj
   | _,_=>aj
  | .builtin .copy =>
   match c.argTypes.toList,c.args.toList with
   | [t, u], [x, y] =>
    match P.underlying t,P.underlying u,cS P t x,cS P u y with
    | some (.slice e),aa (.slice e'),aa x',aa y' => match P.info? e with | some i=>if e=e' /\ 0<i.size then aa (.own (.CN i.size) [x',y']) else aj | none=>aj
    | _,_,_,_=>aj
   | _,_=>aj
  | _=>aj
 | _=>aj
variable{x:Operand}
def Z7(hs:bN E st a){neg:Bool}{op:BinOp}(jA:op=if neg then .neq else .eql){t':TypeId}(ht:P.underlying t=aa (.pointer e)){y:Operand}{vx vy:V}(ho:o.op = .binOp op t x y t')(hx:R E vx (a.eval x))(hy:R E vy (a.eval y))
 (hk:match (generalizing:=false) isNil vx,vy with | some g,.jr=>K (.bool (if neg then !g else g)) st | _,_=>False):o.wp P a E.w (ei E a o.dst K) Q:=by
 split at hk
 case h_2=>exact hk.elim
 rename_i g hg;have hp:P.underlying t=aa (.pointer (P.pointee t)):=by rw[ht];simp[Program.pointee,ht]
 obtain⟨p,hv,rN⟩:∃p,a.eval x = .pointer p/\p.isNone=g:=by
  unfold isNil at hg;split at hg
  .simp only[R] at hx;exact⟨aj,hx,by simpa using hg⟩
  .rename_i q off;cases q with
   | aE i=>simp only[R] at hx;obtain⟨b,_,h⟩:=hx;exact⟨_,h,by simpa using hg⟩
   | out b=>simp only[R] at hx;exact⟨_,hx,by simpa using hg⟩
   | kT b=>simp only[R] at hx;exact⟨_,hx,by simpa using hg⟩
  .simp at hg
 simp only[R] at hy;subst jA;subst rN;cases neg
 .refine dh hs (x:=.bool p.isNone) ?_ (by simp[R]) hk;simp only[execOp,ho,hv,hy];simp[eqGuard,run_eql_pointer_nil E.w t p hp]
 .refine dh hs (x:=.bool (!p.isNone)) ?_ (by simp[R]) hk;simp only[execOp,ho,hv,hy];simp[eqGuard,run_neq_pointer_nil E.w t p hp]
def apt(hl:Oc P o=aa ao)(hs:bN E st a)(h:ao.bj P st K):o.wp P a E.w (ei E a o.dst K) Q:=by
 have X:=λ{t:TypeId} {x:Operand} {y:X} (hx:cS P t x=aa y)=>o9 (E:=E) (st:=st) (a:=a) hs.slot hx
 unfold Oc at hl;split at hl
 .rename_i t x i ho;split at hl
  case h_2=>simp at hl
  rename_i m e y z ht hx hi;split at hl
  case h_2=>simp at hl
  rename_i hg hn;simp only[bc] at hl;subst hl;have gq:=X hx;have C8:=X hi;simp only[aO.bj,dw] at h;unfold OQ.bj at h;split at h<;>try (exfalso;simp_all;done)
  .rename_i m0 cs k j e1 e2;simp only[OQ.IE.injEq] at e1;subst e1;simp only[iE,im] at e2;obtain⟨e2,e3⟩:=e2;rw[e2] at gq;rw[e3] at C8;simp only[R] at gq C8;obtain⟨vs,h4,h5⟩:=gq;obtain⟨g1,g2,h⟩:=h;unfold FZ at h;split at h
   .rename_i c hc;obtain⟨u,h6,h7⟩:=sk h5 j.toNat c hc;have h6' : vs[j.toNat]?=aa u:=by simpa using h6
    refine dh hs (v:=c) (x:=u) ?_ h7 h.2;simp[execOp,ho,h4,C8,Instr.index,asIntOf,run_underlying ht,g1,g2,part,B8 hg,pK hn,h6']
   .exact h.elim
 .rename_i op t x y t' ho;split at hl
  case h_2=>simp at hl
  rename_i e x' y' ht hx hy;split at hl
  .simp only[bc] at hl;subst hl;exact Z7 hs (neg:=false) rfl ht ho (X hx) (X hy) h
  .simp only[bc] at hl;subst hl;exact Z7 hs (neg:=true) rfl ht ho (X hx) (X hy) h
  .simp at hl
 .rename_i t x ho;split at hl
  case h_2=>simp at hl
  rename_i k y ht hx;simp only[bc] at hl;subst hl;have hx:=X hx;simp only[aO.bj,ev,opt,K2] at h;split at h
  case h_2=>exact h.elim
  rename_i v hv;unfold vN at hv;split at hv
  case h_2=>simp at hv
  rename_i k' n k2 m e1 e2;simp only[V.int.injEq] at e1;obtain⟨rfl,rfl⟩:=e1;split at hv
  case isFalse=>simp at hv
  rename_i gY;obtain rfl:=IF (gY.resolve_right (by simp[BF]));simp only[iJ,bc] at hv;subst hv;have e2:ev st y = .int k m:=e2;rw[e2] at hx;simp only[R] at hx;refine dh hs (x:=.int k (k.wrap (0 - m))) ?_ (by simp only[R]) h;simp only[execOp,ho,hx];simp only[Op.unary,Op.intArith];simp
 .rename_i t x ho;split at hl
  case h_2=>simp at hl
  rename_i k y ht hx;simp only[bc] at hl;subst hl;have hx:=X hx;simp only[aO.bj,ev,opt,K2] at h;split at h
  case h_2=>exact h.elim
  rename_i v hv;unfold vN at hv;split at hv
  case h_2=>simp at hv
  rename_i k' n k2 m e1 e2;simp only[V.int.injEq] at e1;obtain⟨rfl,rfl⟩:=e1;split at hv
  case isFalse=>simp at hv
  rename_i gY;obtain rfl:=IF (gY.resolve_right (by simp[BF]));simp only[iJ,bc] at hv;subst hv;have e2:ev st y = .int k m:=e2;rw[e2] at hx;simp only[R] at hx;refine dh hs (x:=.int k (k.wrap ((BitVec.ofInt k.bits (if k.signed then -1 else k.max) ^^^ BitVec.ofInt k.bits m).toNat:Nat))) ?_ (by simp only[R]) h;simp only[execOp,ho,hx];simp only[Op.unary,Op.intBits];simp
 .rename_i c ho;obtain⟨callee,args,argTypes⟩:=c;simp only at hl;split at hl
  .split at hl
   case h_2=>simp at hl
   rename_i t u x y ht hx;have e1:argTypes=#[t,u]:=by cases argTypes;simpa using ht
   have e2:args=#[x,y]:=by cases args;simpa using hx
   subst e1;subst e2;split at hl
   case h_2=>simp at hl
   rename_i k0 x' y' hu ku Bv;simp only[bc] at hl;subst hl;have gq:=X ku;have rU:=X Bv;simp only[aO.bj,dw] at h;unfold OQ.bj at h;split at h<;>try (exfalso;simp_all;done)
   .rename_i k n k' m e1 e2;simp only[iE,im] at e2;obtain⟨e2,e3⟩:=e2;rw[e2] at gq;rw[e3] at rU;simp only[R] at gq rU;obtain⟨gY,h⟩:=h;refine dh hs (v:=.int k (if m<n then m else n)) (x:=.int k (if m<n then m else n)) ?_ (by simp only[R]) h;simp[execOp,ho,resolve,invoke,builtin,Builtin.min_,Builtin.min2,gq,rU]
  .split at hl
   case h_2=>simp at hl
   rename_i t u x y ht hx;have e1:argTypes=#[t,u]:=by cases argTypes;simpa using ht
   have e2:args=#[x,y]:=by cases args;simpa using hx
   subst e1;subst e2;split at hl
   case h_2=>simp at hl
   rename_i k0 x' y' hu ku Bv;simp only[bc] at hl;subst hl;have gq:=X ku;have rU:=X Bv;simp only[aO.bj,dw] at h;unfold OQ.bj at h;split at h<;>try (exfalso;simp_all;done)
   .rename_i k n k' m e1 e2;simp only[iE,im] at e2;obtain⟨e2,e3⟩:=e2;rw[e2] at gq;rw[e3] at rU;simp only[R] at gq rU;obtain⟨gY,h⟩:=h;refine dh hs (v:=.int k (if n<m then m else n)) (x:=.int k (if n<m then m else n)) ?_ (by simp only[R]) h;simp[execOp,ho,resolve,invoke,builtin,Builtin.max_,Builtin.max2,gq,rU]
  .split at hl
   case h_2=>simp at hl
   rename_i t u x y ht hx;have e1:argTypes=#[t,u]:=by cases argTypes;simpa using ht
   have e2:args=#[x,y]:=by cases args;simpa using hx
   subst e1;subst e2;split at hl
   case h_2=>simp at hl
   rename_i e e' x' y' hu Bs ku Bv;split at hl
   case h_2=>simp at hl
   rename_i i hi;split at hl
   case isFalse=>simp at hl
   rename_i hc;simp only[bc] at hl;subst hl;obtain⟨rfl,iw⟩:=hc;have gq:=X ku;have rU:=X Bv;simp only[aO.bj,dw] at h;unfold OQ.bj at h;split at h<;>try (exfalso;simp_all;done)
   .rename_i k0 base n cap acg n' p8 e1 e2;simp only[OQ.CN.injEq] at e1;subst e1;simp only[iE,im] at e2;obtain⟨e2,e3⟩:=e2;rw[e2] at gq;rw[e3] at rU;simp only[R] at gq rU;obtain⟨xs,MD,h⟩:=h;obtain⟨news,g1,g2,g3,g4⟩:=aem (P:=P) hs.ok MD;refine Z6 hs (u:=u) (ty:=o.type) (vx:=a.eval y) (news:=news) (base:=base) (n:=n) (cap:=cap) hu hi ?_ (len:=n') ?_ rfl ?_ g2 g3 g1 h
    .simp[execOp,ho,resolve,invoke,builtin,gq]
    .rw[rU];simp[Builtin.lenOf]
    .rw[rU];exact g4 _ _ _ _ rfl
   .rename_i k0 base n cap tk k1 m e1 e2;simp only[OQ.CN.injEq] at e1;subst e1;simp only[iE,im] at e2;obtain⟨e2,e3⟩:=e2;obtain⟨rfl,hle,h⟩:=h;rw[e2] at gq;rw[e3] at rU;obtain⟨news,g1,g2,g3,g4⟩:=JQ (P:=P) Bs rU;simp only[R] at gq;refine Z6 hs (u:=u) (ty:=o.type) (vx:=a.eval y) (news:=news) (base:=base) (n:=n) (cap:=cap) (m:=m.length) hu hi ?_ (len:=m.length) (g1.len _) (by omega) g1.cells g2 g3 g1.size h;simp[execOp,ho,resolve,invoke,builtin,gq]
  .simp at hl
 .simp at hl
def Oa(P:Program)(o:Oper):Option aO :=
 match o.op with
 | .call c =>
  match c.callee with
  | .value (.func f) =>
   match P.funcs[f]?,jO P c.argTypes.toList c.args.toList with
   | some fn,aa xs=>if fn.body.isNone=ab/\fn.origin = "" then(if fn.name = "internal/bytealg.CountString" then aa (.own .Lk xs) else if fn.name = "internal/bytealg.IndexByteString" then aa (.own .Nx xs) else aj) else aj
   | _,_=>aj
  | _=>aj
 | _=>aj
def agI(s:List UInt8)(c:UInt8):Ba s c=Lib.indexByte s c:=by
 induction s with
 | nil=>rfl
 | cons b l ih=>simp only[Ba,Lib.indexByte,ih]
variable{fn:Func}
def agN(h:fn.name = "internal/bytealg.CountString")(ho:fn.origin = ""):Extern.findNext fn=aj/\Extern.find fn=aa Extern.BytealgCount.count:=by
 have k1:Extern.allNextRows.lookup "internal/bytealg.CountString" = none:=by kernel_rfl
 have k2:Extern.allNextRows.lookup "" = none:=by kernel_rfl
 have k3:Extern.allGenericRows.lookup "internal/bytealg.CountString" = none:=by kernel_rfl
 have k4:Extern.allTypedRows.lookup "internal/bytealg.CountString" = none:=by kernel_rfl
 have k5:Extern.allRows.lookup "internal/bytealg.CountString" = aa Extern.BytealgCount.count:=by kernel_rfl
 exact⟨by simp[Extern.findNext,h,ho,k1,k2],by simp[Extern.find,h,k3,k4,k5]⟩
def agO(h:fn.name = "internal/bytealg.IndexByteString")(ho:fn.origin = ""):Extern.findNext fn=aj/\Extern.find fn=aa Extern.BytealgIndexByte.indexByte:=by
 have k1:Extern.allNextRows.lookup "internal/bytealg.IndexByteString" = none:=by kernel_rfl
 have k2:Extern.allNextRows.lookup "" = none:=by kernel_rfl
 have k3:Extern.allGenericRows.lookup "internal/bytealg.IndexByteString" = none:=by kernel_rfl
 have k4:Extern.allTypedRows.lookup "internal/bytealg.IndexByteString" = none:=by kernel_rfl
 have k5:Extern.allRows.lookup "internal/bytealg.IndexByteString" = aa Extern.BytealgIndexByte.indexByte:=by kernel_rfl
 exact⟨by simp[Extern.findNext,h,ho,k1,k2],by simp[Extern.find,h,k3,k4,k5]⟩
def ZL{O:Type}{l:Array O}{x y:O}(h:l.toList=[x,y]):l=#[x,y]:=by cases l;simpa using h
def agf(hl:Oa P o=aa ao)(hs:bN E st a)(h:ao.bj P st K):o.wp P a E.w (ei E a o.dst K) Q:=by
 unfold Oa at hl;split at hl
 case h_2=>simp at hl
 rename_i c ho;obtain⟨callee,args,argTypes⟩:=c;simp only at hl;split at hl
 case h_2=>simp at hl
 rename_i f;split at hl
 case h_2=>simp at hl
 rename_i fn xs hf qZ;split at hl
 case isFalse=>simp at hl
 rename_i hc;have fT:=Oh (E:=E) hs.slot qZ;split at hl
 .rename_i hn;simp only[bc] at hl;subst hl;simp only[aO.bj] at h;unfold OQ.bj at h;split at h<;>try (exfalso;simp_all;done)
  .rename_i s n e1 e2;rw[e2] at fT;obtain⟨q1,q2⟩:=agN hn hc.2;cases hq:args.toList.map a.eval with
   | nil=>rw[hq] at fT;simp[RL] at fT
   | cons v1 vs =>
    rw[hq] at fT;cases vs with
    | nil=>simp[RL] at fT
    | cons v2 P8 =>
     cases P8 with
     | cons _ _=>simp[RL] at fT
     | nil =>
      simp only[RL,R,im] at fT;obtain⟨rfl,rfl⟩:=fT;have ha:args.map a.eval=#[.string ⟨s.toArray⟩,.int .u8 n]:=ZL (by simpa using hq);refine dh hs (v:=.int .i64 (s.count n.toNat.toUInt8:Nat)) (x:=.int .i64 (s.count n.toNat.toUInt8:Nat)) ?_ (by simp only[R]) h;have dk:=run_callFunc_extern (P:=P) hf (by rw[hn];decide) hc.1 q1 q2 #[.string ⟨s.toArray⟩,.int .u8 n] E.w;rw[Lib.run_countString] at dk;simp[execOp,ho,resolve,Act.eval,Deferred.ofValue,invoke,ha,dk,Lib.countByte,Result.andThen]
 .split at hl
  case isFalse=>simp at hl
  rename_i hn;simp only[bc] at hl;subst hl;simp only[aO.bj] at h;unfold OQ.bj at h;split at h<;>try (exfalso;simp_all;done)
  .rename_i s n e1 e2;rw[e2] at fT;obtain⟨q1,q2⟩:=agO hn hc.2;cases hq:args.toList.map a.eval with
   | nil=>rw[hq] at fT;simp[RL] at fT
   | cons v1 vs =>
    rw[hq] at fT;cases vs with
    | nil=>simp[RL] at fT
    | cons v2 P8 =>
     cases P8 with
     | cons _ _=>simp[RL] at fT
     | nil =>
      simp only[RL,R,im] at fT;obtain⟨rfl,rfl⟩:=fT;have ha:args.map a.eval=#[.string ⟨s.toArray⟩,.int .u8 n]:=ZL (by simpa using hq);refine dh hs (v:=.int .i64 (Ba s n.toNat.toUInt8)) (x:=.int .i64 (Ba s n.toNat.toUInt8)) ?_ (by simp only[R]) h;have dk:=run_callFunc_extern (P:=P) hf (by rw[hn];decide) hc.1 q1 q2 #[.string ⟨s.toArray⟩,.int .u8 n] E.w;rw[Lib.run_indexByteString] at dk;simp[execOp,ho,resolve,Act.eval,Deferred.ofValue,invoke,ha,dk,agI,Result.andThen]
def FO(P:Program)(h:List Nat)(o:Oper):aO :=
 match (match o.dst with | some d=>if h.contains (d+100000)=ab then Of P o else aj | none=>aj) with
 | some x=>x
 | none => match (match Oa P o with | some x => aa x | none => Od P h o) with
  | some x=>x
  | none => match Oc P o with
   | some x=>x
   | none=>.own .aM []
def aoW{h:List Nat}(hs:bN E st a)(hk:(FO P h o).bj P st K):o.wp P a E.w (ei E a o.dst K) Q:=by
 unfold FO at hk;split at hk
 .rename_i x hx;split at hx
  .split at hx
   .exact arq hx hs hk
   .simp at hx
  .simp at hx
 .split at hk
  .rename_i x hx;split at hx
   .rename_i y hy;simp only[bc] at hx;subst hx;exact agf hy hs hk
   .exact aoX hx hs hk
  .split at hk
   .rename_i x hx;exact apt hx hs hk
   .simp only[aO.bj,dw] at hk;unfold OQ.bj at hk;simp at hk
def Wo(P:Program)(h:List Nat)(ops:Array Oper)(o:Oper):Option AO :=
 match o.guard with
 | none=>aa ⟨o.dst,FO P h o,aj⟩
 | some (j, want) =>
  match (ops[j]?).bind (·.dst) with
  | some g=>aa ⟨o.dst,FO P h o,aa (g,want)⟩
  | none=>aj
def BO(P:Program)(h:List Nat)(ops:Array Oper):List Oper->Option (List AO)
 | []=>aa []
 | o::os=>(Wo P h ops o).bind λx=>(BO P h ops os).map (x::·)
end
variable{s:ByteArray}{t:TypeId}{w:World}
def aub(h:P.underlying t=aa .string):(Instr.range t (.string s)).run P w = .ok (.pointer (aa ⟨w.heap.size,0,aj⟩)) (w.alloc (.stringIter s 0)):=by
 simp[Instr.range,run_underlying h]
def kj(w:World)(b:Nat)(o:Obj):World:={w with heap:=w.heap.setIfInBounds b o}
variable{p:Nat}
def YE(h:w.heap[b]?=aa (.stringIter s p)):(getObj b).run P w = .ok (.stringIter s p) w:=by
 simp only[getObj,Sem.run,h]
variable{o:Obj}
def auc(h:w.heap[b]?=aa (.stringIter s p)):(setObj b o).run P w = .ok () (kj w b o):=by
 simp only[setObj,Sem.run,h];rfl
def run_next_end(h:w.heap[b]?=aa (.stringIter s p))(hp:¬p<s.size):(Instr.next (.pointer (aa ⟨b,0,aj⟩)) ab t).run P w = .ok (.tuple #[.bool ar]) w:=by
 unfold Instr.next;simp only[Sem.run_bind,YE h,Result.andThen,hp,cF];rfl
def aua(h:w.heap[b]?=aa (.stringIter s p))(hp:p<s.size)(hc:(s.get! p).toNat<128):(Instr.next (.pointer (aa ⟨b,0,aj⟩)) ab t).run P w = .ok (.tuple #[.bool ab,.int .i64 p,.int .i32 (s.get! p).toNat]) (kj w b (.stringIter s (p+1))):=by
 have hd:Utf8.decode s p=((s.get! p).toNat,1):=by simp[Utf8.decode,hc]
 unfold Instr.next;simp only[Sem.run_bind,YE h,Result.andThen,hp,cM,hd,auc h];rfl
def Ad{b':Nat}(h:b' ≠ b):(kj w b o).heap[b']?=w.heap[b']?:=by
 simp only[kj];rw[aam];simp[fJ h]
def Zb{o':Obj}(h:w.heap[b]?=aa o'):(kj w b o).heap[b]?=aa o:=by
 obtain⟨U,_⟩:=lU.1 h;simp only[kj];rw[aam];simp[U]
def Zc:(kj w b o).heap.size=w.heap.size:=by simp[kj]
def Za{b':Nat}(h:b' ≠ b):(kj w b o).cell? ⟨b',i,aj⟩=w.cell? ⟨b',i,aj⟩:=by
 simp only[World.cell?,Ad h]
def Env.kj(E:Env)(b:Nat)(o:Obj):Env:={E with w:=Go.Am.kj E.w b o}
def Env.auH(hr:E.bf b = .nC):E.le (E.kj b o):=by
 refine⟨λb' i c hc hv=>⟨hc,?_⟩,λ_ _ h=>h,λt n h=>⟨n,h,bY _,λ_ b' c cC => ⟨cC,λcs e b7=>⟨cs,?_,rfl⟩⟩⟩⟩
 .have a9:b' ≠ b:=λe=>by rw[e,hr] at hc;exact hc
  exact(Za a9).trans hv
 .have a9:b' ≠ b:=λe=>by rw[e,hr] at cC;simp at cC
  exact(Ad a9).trans b7
def bN.kj(hr:E.bf b = .nC)(hs:bN E st a):bN (E.kj b o) st a:=by
 have hle:=Env.auH (o:=o) hr;refine⟨⟨λb' cs h=>?_,hs.ok.aR,λb' h=>hs.ok.fresh b' (by rw[<-Zc (b:=b) (o:=o)];exact h),hs.ok.nt,λb cs hc=>eU.mono _ hle.nl (hs.ok.b8 b cs hc)⟩,⟨λi cs h=>?_,hs.dv.none⟩,hs.defers,RL.mono _ hle hs.slot⟩
 .obtain⟨U,h2⟩:=hs.ok.box b' cs h;have a9:b' ≠ b:=λe=>by rw[e,hr] at U;simp at U
  exact⟨U,j4.mono hle.nl (Ad a9) h2⟩
 .obtain⟨b',U,h2,h3⟩:=hs.dv.box i cs h;have a9:b' ≠ b:=λe=>by rw[e,hr] at h2;simp at h2
  exact⟨b',U,h2,j4.mono hle (Ad a9) h3⟩
def Fr.kj{E0:Env}{q:Nat}(hf:Fr E0 E)(hr:E.bf b = .nC)(hn:E0.w.heap.size<=b)(hb:E.w.heap[b]?=aa (.stringIter s p)):Fr E0 (E.kj b (.stringIter s q)):=by
 refine⟨hf.os,hf.output,hf.tape,by rw[show(E.kj b (.stringIter s q)).w.heap.size=E.w.heap.size from Zc];exact hf.size,λa=>?_,λb' i c hc hv=>?_,λt n h=>?_,λb' aD h=>?_,hf.Ej,hf.Ek,hf.CC,λb' c e h=>by
  obtain⟨c',U,h2⟩:=hf.shape b' c e h;have a9:b' ≠ b:=λe=>by rw[e,hb] at U;simp at U
  exact⟨c',(Ad a9).trans U,h2⟩⟩
 .rw[<-hf.iq a]
  by_cases e:a.block=b
  .have e1:(E.kj b (.stringIter s q)).w.heap[a.block]?=aa (.stringIter s q):=by rw[e];exact Zb hb
   rw[<-e] at hb;simp only[World.frozen?,e1,hb]
  .simp only[World.frozen?,show(E.kj b (.stringIter s q)).w.heap[a.block]?=E.w.heap[a.block]? from Ad e]
 .obtain⟨U,h2⟩:=hf.cell b' i c hc hv;have a9:b' ≠ b:=λe=>by rw[e,hr] at U;exact U
  exact⟨U,(Za a9).trans h2⟩
 .obtain⟨n',U,h2,h3⟩:=hf.tok t n h;refine⟨n',U,h2,λe b' c cC => ?_⟩;obtain⟨h4,h5⟩:=h3 e b' c cC;refine⟨h4,λcs e' b7=>?_⟩;obtain⟨cs',h6,h7⟩:=h5 cs e' b7;have a9:b' ≠ b:=λe=>by rw[e,hr] at h4;simp at h4
  exact⟨cs',(Ad a9).trans h6,h7⟩
 .obtain⟨U,h2⟩:=hf.same b' aD h;have a9:b' ≠ b:=by omega
  exact⟨(Ad a9).trans U,h2⟩
def Env.nQ(E:Env)(o:Obj):Env:={w:=E.w.alloc o,bf:=λb=>if b=E.w.heap.size then .nC else E.bf b,aE:=E.aE,aR:=E.aR}
def apJ(hs:bN E st a):Fr E (E.nQ (.stringIter s p))/\bN (E.nQ (.stringIter s p)) st a/\(E.nQ (.stringIter s p)).bf E.w.heap.size = .nC/\(E.nQ (.stringIter s p)).w.heap[E.w.heap.size]?=aa (.stringIter s p):=by
 have hold:∀b,b<E.w.heap.size->(E.nQ (.stringIter s p)).w.heap[b]?=E.w.heap[b]?:=λb hb=>heap_alloc_old E.w (.stringIter s p) hb
 have d_:∀b,b<E.w.heap.size->(E.nQ (.stringIter s p)).bf b=E.bf b:=λb hb=>by simp only[Env.nQ];rw[aB (by omega)]
 have iv:(E.nQ (.stringIter s p)).w.heap[E.w.heap.size]?=aa (.stringIter s p):=heap_alloc_new E.w _;have wg:∀b i c,E.w.cell? ⟨b,i,aj⟩=aa c->b<E.w.heap.size:=λb i c h=>by
  simp only[World.cell?] at h;split at h
  .rename_i U;exact(lU.1 U).1
  .simp at h
 have MB:∀b i,b<E.w.heap.size->(E.nQ (.stringIter s p)).w.cell? ⟨b,i,aj⟩=E.w.cell? ⟨b,i,aj⟩:=λb i hb=>by simp only[World.cell?,hold b hb]
 have bq:Fr E (E.nQ (.stringIter s p)):=by
  refine⟨rfl,rfl,rfl,by simp[Env.nQ],λa=>?_,λb i c hc hv=>?_,λt n h=>⟨n,h,bY _,λ_ b c hb=>?_⟩,λb hb _=>⟨hold b hb,d_ b hb⟩,λb hb h=>?_,λb t c hb h=>?_,λb i hb h=>?_,λb c e h=>⟨c,(hold b (lK h)).trans h,rfl⟩⟩
  .by_cases h:a.block<E.w.heap.size
   .simp only[World.frozen?,hold _ h]
   .by_cases h2:a.block=E.w.heap.size
    .have e2:E.w.heap[a.block]?=none:=by simp;omega
     rw[<-h2] at iv;simp only[World.frozen?,iv,e2]
    .have e2:E.w.heap[a.block]?=none:=by simp;omega
     have e1:(E.nQ (.stringIter s p)).w.heap[a.block]?=none:=by simp[Env.nQ];omega
     simp only[World.frozen?,e1,e2]
  .have hb:=wg b i c hv;exact⟨by rw[d_ b hb];exact hc,(MB b i hb).trans hv⟩
  .by_cases aD:b<E.w.heap.size
   .exact⟨(d_ b aD).trans hb,λcs e b7=>⟨cs,(hold b aD).trans b7,rfl⟩⟩
   .have:=hs.ok.fresh b (by omega)
    rw[this] at hb;simp at hb
  .rw[d_ b hb] at h;exact .inl h
  .rw[d_ b hb] at h;exact⟨c,h⟩
  .rw[d_ b hb] at h;exact⟨i,h⟩
 have hle:E.le (E.nQ (.stringIter s p)):=bq.le λi b h=>h
 refine⟨bq,⟨⟨λb cs h=>?_,hs.ok.aR,λb hb=>?_,hs.ok.nt,λb cs hc=>eU.mono _ bq.nl (hs.ok.b8 b cs hc)⟩,⟨λi cs h=>?_,hs.dv.none⟩,hs.defers,RL.mono _ hle hs.slot⟩,by simp[Env.nQ],iv⟩
 .obtain⟨U,h2⟩:=hs.ok.box b cs h;have aD:b<E.w.heap.size:=by obtain⟨c,e,h3,_⟩:=h2;exact lK (w:=E.w) h3
  exact⟨by rw[d_ b aD];exact U,j4.mono hle.nl (hold b aD) h2⟩
 .have cC : E.w.heap.size+1<=b:=by simpa [Env.nQ] using hb
  simp only[Env.nQ];rw[aB (by omega)];exact hs.ok.fresh b (by omega)
 .obtain⟨b,U,h2,h3⟩:=hs.dv.box i cs h;have aD:b<E.w.heap.size:=by obtain⟨c,e,h4,_⟩:=h3;exact lK (w:=E.w) h4
  exact⟨b,U,by rw[d_ b aD];exact h2,j4.mono hle (hold b aD) h3⟩
def pq(o:Oper):Option (Nat × TypeId):=match o.op,o.dst,o.guard with | .alloc t,aa d,aj=>aa (d,t) | _,_,_=>aj
def pr(o:Oper):Option (Nat × TypeId × Operand):=match o.op,o.dst,o.guard with | .store t (.tmp d) x,aj,aj=>aa (d,t,x) | _,_,_=>aj
def P6{o:Oper}(h:pq o=aa (d,t)):o.op = .alloc t/\o.dst=aa d/\o.guard=none:=by
 unfold pq at h;split at h
 .rename_i U h2 h3;simp only[bc,pW] at h;obtain⟨rfl,rfl⟩:=h;exact⟨U,h2,h3⟩
 .simp at h
variable{x:Operand}
def ZP{o:Oper}(h:pr o=aa (d,t,x)):o.op = .store t (.tmp d) x/\o.dst=aj/\o.guard=none:=by
 unfold pr at h;split at h
 .rename_i U h2 h3;simp only[bc,pW] at h;obtain⟨rfl,rfl,rfl⟩:=h;exact⟨U,h2,h3⟩
 .simp at h
def isVar(ops:Array Oper)(d:Nat)(t:TypeId):Bool:=ops.toList.any λo=>match pq o with | some (d',t')=>d' == d&&t' == t | none=>ar
def FM(P:Program)(ops:Array Oper)(o:Oper):Option AO :=
 match pq o with
 | some (_,t)=>match kF P t,eQ P t with | some z,aa n=>if z.length=n then aa ⟨aj,.mv (.c .any),aj⟩ else aj | _,_=>aj
 | none =>
  match pr o with
  | some (d,t,x)=>if isVar ops d t=ab then(match eQ P t,cS P t x with | some n,aa y=>aa ⟨aa d,.vO n y,aj⟩ | _,_=>aj) else uZ P ops o
  | none=>uZ P ops o
def Dq(P:Program)(ops:Array Oper):List Oper->Option (List AO)
 | []=>aa []
 | o::os=>(FM P ops o).bind λx=>(Dq P ops os).map (x::·)
def Lf(ops:Array Oper)(b:List Nat):Bool :=
 ops.toList.zipIdx.all λ(o,i)=>match pq o with
  | some (d,t)=>(ops.toList.zipIdx.any λ(o',j)=>match pr o' with | some (d',t',_)=>d' == d&&t' == t&&(b.getD j 0).testBit i | none=>ar) &&
   (ops.toList.zipIdx.all λ(o',j)=>i == j||match pq o' with | some (d',_)=>!(d' == d) | none=>ab)
  | none=>ab
def Je(ops:Array Oper):List Nat:=ops.toList.filterMap λo=>(pq o).map (·.1)
def I'(P:Program)(ops:Array Oper):Option (List Nat × List (AO × List Nat)) :=
 match Dq P ops ops.toList with
 | none=>aj
 | some l0 =>
  let b:=yd ops.toList []
  let d:=mu fF (l0.map λo=>(o,[])) b
  let l:=(l0.zip d).zipIdx.map λ((o,x),i)=>(o,if o.op.Dl then((bA (zr d i+1 - qq d x)).map (qq d x+·)).filter (· != BW d i) else [])
  if y5 ops l b=ab/\P.follows .mixedOrders=ab/\Lf ops b=ab then aa (Je ops,l) else aj
def Wp{P:Program}{ops:Array Oper}:∀{os:List Oper} {l:List AO},Dq P ops os=aa l->l.length=os.length/\∀i:Nat,∀o,os[i]?=aa o->∃x,l[i]?=aa x/\FM P ops o=aa x
 | [],l,h=>by simp only[Dq,bc] at h;subst h;exact⟨rfl,λi o h=>by simp at h⟩
 | o :: os, l, h => by
  simp only[Dq,iV,dn] at h;obtain⟨x,U,l',h2,rfl⟩:=h;obtain⟨h3,h4⟩:=Wp h2;refine⟨by simp[h3],λi q hq=>?_⟩;cases i with
  | zero=>simp at hq;subst hq;exact⟨x,by simp,U⟩
  | succ i=>simp at hq;obtain⟨y,k1,k2⟩:=h4 i q hq;exact⟨y,by simpa using k1,k2⟩
structure QI(ops:Array Oper)(b:List Nat):Prop where
 st:∀(i:Nat) o d t,ops[i]?=aa o->pq o=aa (d,t)->∃(j:Nat) (o' : Oper) (x:Operand),ops[j]?=aa o' /\ pr o' = aa (d,t,x)/\(b.getD j 0).testBit i=ab
 uniq:∀(i j:Nat) o o' d t t',ops[i]?=aa o->ops[j]?=aa o' -> pq o=aa (d,t)->pq o' = aa (d,t')->i=j
variable{ops:Array Oper}
def agj{b:List Nat}(h:Lf ops b=ab):QI ops b:=by
 unfold Lf at h;rw[eM] at h;have mem:∀(i:Nat) o,ops[i]?=aa o->(o,i)∈ops.toList.zipIdx:=λi o ho=>by
  rw[KG];simpa using ho
 refine⟨λi o d t ho hv=>?_,λi j o o' d t t' ho gf hv iy => ?_⟩
 .have:=h _ (mem i o ho)
  simp only[hv,bg,yK] at this;obtain⟨⟨q,hq,U⟩,_⟩:=this;obtain⟨o',j⟩:=q;simp only at U;split at U
  .rename_i d' t' x iy;simp only[bg,CD] at U;obtain⟨⟨rfl,rfl⟩,h2⟩:=U;rw[KG] at hq;exact⟨j,o',x,by simpa using hq,iy,h2⟩
  .simp at U
 .have:=h _ (mem i o ho)
  simp only[hv,bg,eM] at this;have h2:=this.2 _ (mem j o' gf);simp only[iy,j1,CD,tm] at h2
  rcases h2 with h2 | h2
  .exact h2
  .simp at h2
variable{l:List (AO × List Nat)}{nv:List Nat}
def aoS(h:I' P ops=aa (nv,l)):
 ∃b,AD ops l b/\b.length=ops.size/\P.follows .mixedOrders=ab/\QI ops b/\nv=Je ops/\∀(i:Nat) o,ops[i]?=aa o->∃x:AO × List Nat,l[i]?=aa x/\FM P ops o=aa x.1:=by
 unfold I' at h;cases h0:Dq P ops ops.toList with
 | none=>rw[h0] at h;simp at h
 | some l0 =>
 rw[h0] at h;simp only at h;split at h
 case isFalse=>simp at h
 rename_i hc;simp only[bc,pW] at h;obtain⟨rfl,rfl⟩:=h;refine⟨_,facts hc.1,?_,hc.2.1,agj hc.2.2,rfl,λi o ho=>?_⟩
 .have:=hc.1
  unfold y5 at this;simp only[bg,bQ] at this;exact this.1.1.2
 .have hlen:=(facts hc.1).size;obtain⟨U,h2⟩:=Wp h0;obtain⟨x,k1,k2⟩:=h2 i o (by simpa using ho);have aD:=(lU.1 ho).1;generalize hL:(l0.zip (mu fF (l0.map λo=>(o,[])) (yd ops.toList [])))=z at hlen ⊢;have hz:i<z.length:=by simp at hlen;omega
  refine⟨_,by rw[uo,QW,cK hz];rfl,?_⟩
  have:z[i].1=x:=by
   have e:z[i]?=aa z[i]:=cK hz;subst hL;rw[KC] at e;rw[k1] at e;exact(vG e.1).symm
  simpa [this] using k2
def Env.sX(E:Env)(c:Array Value)(t:TypeId):Env:={w:=E.w.alloc (.cells c t),bf:=λb=>if b=E.w.heap.size then .nC else E.bf b,aE:=E.aE,aR:=E.aR}
variable{c:Array Value}
def apI(hs:bN E st a):Fr E (E.sX c t)/\bN (E.sX c t) st a:=by
 have hx:=(Ext.refl E.w).alloc c t;have hold:∀b,b<E.w.heap.size->(E.sX c t).w.heap[b]?=E.w.heap[b]?:=λb hb=>hx.block b hb
 have d_:∀b,b<E.w.heap.size->(E.sX c t).bf b=E.bf b:=λb hb=>by simp only[Env.sX];rw[aB (by omega)]
 have bq:Fr E (E.sX c t):=zb hs.ok.fresh hx d_ λ_ _ h=>h
 have hle:E.le (E.sX c t):=bq.le λ_ _ h=>h
 refine⟨bq,Dw hs.ok bq.nl (λb h hb=>⟨by rw[d_ b hb];exact h,hold b hb⟩) (λ_ _ h=>h) (λb hb=>?_) hs.ok.nt,
  rj hs.dv hle (λb i h hb=>⟨by rw[d_ b hb];exact h,hold b hb⟩) hs.dv.none,hs.defers,RL.mono _ hle hs.slot⟩
 have cC : E.w.heap.size+1<=b:=by simpa [Env.sX] using hb
 simp only[Env.sX];rw[aB (by omega)];exact hs.ok.fresh b (by omega)
def auK{t:List V}(h:t.getD d .any = .any):t.set d .any=t:=by
 by_cases hd:d<t.length
 .have:t[d] = .any:=by simpa [fW,hd] using h
  rw[<-this];simp
 .exact List.set_eq_of_length_le (by omega)
def Env.bare(E:Env)(b k:Nat)(new:Array Value):Env :=
 {w:=E.w.setRow b new,bf:=λx=>if x=b then .jq k else E.bf x,aE:=λi=>if i=k then aa b else E.aE i,aR:=E.aR}
variable{e:TypeId}
def acf{E0:Env}(hs:bN E st a)(hf:Fr E0 E)(hr:E.bf b = .nC)(hn:E0.w.heap.size<=b)(hb:E.w.heap[b]?=aa (.cells c e (0,0))){cs:List V}{vs:List Value}(hv:RL E cs vs)
 {d:Nat} (hd:a.tmps[d]?=aa (.pointer (aa ⟨b,0,aj⟩))) :
 Fr E0 (E.bare b st.aE.length vs.toArray)/\bN (E.bare b st.aE.length vs.toArray) ⟨st.t.set d (.ptr (.aE st.aE.length) 0),st.aE++[cs],st.out⟩ a:=by
 generalize hE:E.bare b st.aE.length vs.toArray=E';have jn:∀b',b' ≠ b->E'.w.heap[b']?=E.w.heap[b']?:=λb' a9=>by rw[<-hE];exact setRow_other E.w b b' _ a9
 have mQ:E'.w.heap[b]?=aa (.cells vs.toArray e (0,0)):=by rw[<-hE];exact setRow_heap E.w b c _ e _ hb
 have lD:∀b',b' ≠ b->E'.bf b' = E.bf b' := λb' a9=>by rw[<-hE];simp only[Env.bare];rw[aB a9]
 have qX:E'.bf b = .jq st.aE.length:=by rw[<-hE];simp[Env.bare]
 have c8:E'.w.heap.size=E.w.heap.size:=by rw[<-hE];simp[Env.bare]
 have dR:∀i,i≠st.aE.length->E'.aE i=E.aE i:=λi hi=>by rw[<-hE];simp only[Env.bare];rw[aB hi]
 have UO:E'.aE st.aE.length=aa b:=by rw[<-hE];simp[Env.bare]
 have zy:E.aE st.aE.length=none:=hs.dv.none _ (bY _);have tR:E'.aR=E.aR:=by rw[<-hE];rfl
 have wg:∀b' o',b' ≠ b->E'.w.cell? ⟨b',o',aj⟩=E.w.cell? ⟨b',o',aj⟩:=λb' o' a9=>by simp only[World.cell?,jn b' a9]
 have MQ:∀x,E'.w.frozen? x=E.w.frozen? x:=λx=>by rw[<-hE];exact EG hb x
 have hle:E.le E' := by
  refine⟨λb' o' c' hc hv=>?_,λi b' h=>?_,λt n h=>⟨n,by rw[tR];exact h,bY _,λ_ b' c' cC => ?_⟩⟩
  .have a9:b' ≠ b:=λe=>by rw[e,hr] at hc;exact hc
   exact⟨by rw[lD b' a9];exact hc,(wg b' o' a9).trans hv⟩
  .rw[dR i (λe=>by rw[e,zy] at h;simp at h)];exact h
  .have a9:b' ≠ b:=λe=>by rw[e,hr] at cC;simp at cC
   exact⟨by rw[lD b' a9];exact cC,λcs' e' b7=>⟨cs',(jn b' a9).trans b7,rfl⟩⟩
 refine⟨⟨?_,?_,?_,by rw[c8];exact hf.size,λx=>(MQ x).trans (hf.iq x),λb' o' c' hc hv=>?_,λt n h=>?_,λb' aD h=>?_,λb' aD h=>?_,λb' t c' aD h=>?_,λb' i aD h=>?_,λb' c' e' h=>by
  have aD:=lK (w:=E0.w) h;have a9:b' ≠ b:=by omega
  obtain⟨c1,U,h2⟩:=hf.shape b' c' e' h;exact⟨c1,(jn b' a9).trans U,h2⟩⟩,⟨⟨λb' ds h=>?_,λt n h=>by rw[tR];exact hs.ok.aR t n h,λb' h=>?_,by rw[tR];exact hs.ok.nt,λb cs hc=>eU.mono _ hle.nl (hs.ok.b8 b cs hc)⟩,⟨λi ds h=>?_,λi hi=>?_⟩,hs.defers,?_⟩⟩
 .rw[<-hf.os,<-hE];rfl
 .rw[<-hf.output,<-hE];rfl
 .rw[<-hf.tape,<-hE];rfl
 .obtain⟨U,h2⟩:=hf.cell b' o' c' hc hv;have a9:b' ≠ b:=λe=>by rw[e,hr] at U;exact U
  exact⟨by rw[lD b' a9];exact U,(wg b' o' a9).trans h2⟩
 .obtain⟨n',U,h2,h3⟩:=hf.tok t n h;refine⟨n',by rw[tR];exact U,h2,λe b' c' cC => ?_⟩;obtain⟨h4,h5⟩:=h3 e b' c' cC;have a9:b' ≠ b:=λe=>by rw[e,hr] at h4;simp at h4
  refine⟨by rw[lD b' a9];exact h4,λcs' e' b7=>?_⟩;obtain⟨Lq,h6,h7⟩:=h5 cs' e' b7;exact⟨Lq,(jn b' a9).trans h6,h7⟩
 .obtain⟨U,h2⟩:=hf.same b' aD h;have a9:b' ≠ b:=by omega
  exact⟨(jn b' a9).trans U,(lD b' a9).trans h2⟩
 .have a9:b' ≠ b:=by omega
  rw[lD b' a9] at h;exact hf.Ej b' aD h
 .have a9:b' ≠ b:=by omega
  rw[lD b' a9] at h;exact hf.Ek b' t c' aD h
 .have a9:b' ≠ b:=by omega
  rw[lD b' a9] at h;exact hf.CC b' i aD h
 .obtain⟨U,h2⟩:=hs.ok.box b' ds h;have a9:b' ≠ b:=λe=>by rw[e,hr] at U;simp at U
  exact⟨by rw[lD b' a9];exact U,j4.mono hle.nl (jn b' a9) h2⟩
 .rw[c8] at h;have aD:b<E.w.heap.size:=lK hb;rw[lD b' (by omega)];exact hs.ok.fresh b' h
 .by_cases hi:i=st.aE.length
  .subst hi;simp only[List.getElem?_concat_length,bc] at h;subst h;refine⟨b,UO,qX,vs.toArray,e,mQ,by have:=gj hv;simp;omega,λj x hj=>?_⟩;obtain⟨u,U,h2⟩:=sk hv j x hj;exact⟨u,by simpa using U,h2.mono _ hle⟩
  .have aD:i<st.aE.length:=by
    have:=(fy.1 h).1
    simp at this;omega
   rw[qJ aD] at h;obtain⟨b',U,h2,h3⟩:=hs.dv.box i ds h;have a9:b' ≠ b:=λe=>by rw[e,hr] at h2;simp at h2
   exact⟨b',by rw[dR i hi];exact U,by rw[lD b' a9];exact h2,j4.mono hle (jn b' a9) h3⟩
 .simp at hi;rw[dR i (by omega)];exact hs.dv.none i (by omega)
 .have U:=RL.mono _ hle hs.slot;have hp:R E' (.ptr (.aE st.aE.length) 0) (.pointer (aa ⟨b,0,aj⟩)):=by simp only[R];exact⟨b,UO,rfl⟩
  have h2:=G2 U d hp
  have:a.tmps.toList.set d (.pointer (aa ⟨b,0,aj⟩))=a.tmps.toList:=by
   have aD:=(lU.1 hd).1
   have:a.tmps.toList[d]'(by simpa using aD) = .pointer (aa ⟨b,0,aj⟩):=by
    have:=(lU.1 hd).2;simpa using this
   rw[<-this];exact aaC (by simpa using aD)
  rw[this] at h2;exact h2
section
variable {P:Program} {ops:Array Oper} {l:List (AO × List Nat)} {b:List Nat}
def aaH(P:Program)(ops:Array Oper)(N:Nat)(E0:Env)(listed:Array Bool)(E:Env)(a:Act):Prop :=
 a.tmps.size=N/\∃B:Nat->Nat,∀(i:Nat) o d t,ops[i]?=aa o->pq o=aa (d,t)->listed.getD i ar=ab->(∀(j:Nat) o' x,ops[j]?=aa o' -> pr o' = aa (d,t,x)->listed.getD j ar=ar) ->
  a.tmps[d]?=aa (.pointer (aa ⟨B i,0,aj⟩))/\E.bf (B i) = .nC/\(∃c e,E.w.heap[B i]?=aa (.cells c e (0,0))/\eQ P t=aa c.size)/\E0.w.heap.size<=B i /\
  ∀(i' : Nat) o' d' t',ops[i']?=aa o' -> pq o' = aa (d',t')->listed.getD i' ar=ab->(∀(j:Nat) o' x,ops[j]?=aa o' -> pr o' = aa (d',t',x)->listed.getD j ar=ar)->i≠i' -> B i≠B i'
variable{listed:Array Bool}
def wU{j:Nat}(h:i<listed.size):(listed.setIfInBounds i ab).getD j ar=(decide (j=i)||listed.getD j ar):=by
 by_cases gd:j=i
 .subst gd;simp[h]
 .rw[rB,Cj (fJ gd),<-rB];simp[gd]
def Wn{o:Oper}{x:AO}(h:FM P ops o=aa x):(∃d t z n,pq o=aa (d,t)/\kF P t=aa z/\eQ P t=aa n/\z.length=n/\x=⟨aj,.mv (.c .any),aj⟩) \/
 (∃d t y n q,pr o=aa (d,t,y)/\isVar ops d t=ab/\eQ P t=aa n/\cS P t y=aa q/\x=⟨aa d,.vO n q,aj⟩)\/(uZ P ops o=aa x/\pq o=aj/\∀d t y,pr o=aa (d,t,y)->isVar ops d t=ar):=by
 unfold FM at h;split at h
 .rename_i d t hv;split at h
  .rename_i z n hz hn;split at h
   .rename_i hl;simp only[bc] at h;exact .inl ⟨d,t,z,n,hv,hz,hn,hl,h.symm⟩
   .simp at h
  .simp at h
 .rename_i hv;split at h
  .rename_i d t y hs;split at h
   .rename_i hi;split at h
    .rename_i n q hn hq;simp only[bc] at h;exact .inr (.inl ⟨d,t,y,n,q,hs,hi,hn,hq,h.symm⟩)
    .simp at h
   .rename_i hi;exact .inr (.inr ⟨h,hv,λd' t' y' e=>by rw[hs] at e;simp only[bc,pW] at e;obtain⟨rfl,rfl,_⟩:=e;simpa using hi⟩)
  .rename_i hs;exact .inr (.inr ⟨h,hv,λd t y e=>by rw[hs] at e;simp at e⟩)
variable{K:St->Prop}
def ae1{id:Nat}(hl:I' P ops=aa (nv,l))(US:∀d∈nv,d<st.t.length/\st.t.getD d .any = .any)(h:cJ P l [(st.aE,st.out)] [] K st):
 ju P (.region id ops ab) (λe aP => e = .normal/\K aP) st:=by
 obtain⟨b,F,qT,hf,FA,rfl,wy⟩:=aoS hl;intro E0 a0 Iy;have ayd:=F.size
 -- what a pair of a new variable and its store is like
 have Fk:∀(i:Nat) o d t,ops[i]?=aa o->pq o=aa (d,t)->isVar ops d t=true:=λi o d t ho hv=>by
  unfold isVar;rw[yK];exact⟨o,by simpa using QA ho,by simp[hv]⟩
 have amr:∀d t,isVar ops d t=ab->∃(i:Nat) (o:Oper),ops[i]?=aa o/\pq o=aa (d,t):=λd t h=>by
  unfold isVar at h;rw[yK] at h;obtain⟨o,U,h2⟩:=h;split at h2
  .rename_i d' t' hv;simp only[bg,CD] at h2;obtain⟨rfl,rfl⟩:=h2;obtain⟨i,hi⟩:=aax.1 U;exact⟨i,o,by simpa using hi,hv⟩
  .simp at h2
 -- a store that is one of these has the variable's slot
 have IA:∀(j:Nat) o d t x,ops[j]?=aa o->pr o=aa (d,t,x)->isVar ops d t=ab->∃y:AO × List Nat,l[j]?=aa y/\y.1.dst=aa d:=λj o d t x ho hv hi=>by
  obtain⟨y,U,h2⟩:=wy j o ho
  rcases Wn h2 with ⟨d',t',z,n,k1,_⟩ | ⟨d',t',y',n,q,k1,_,_,_,k2⟩ | ⟨_,_,k3⟩
  .obtain⟨e1,_⟩:=P6 k1;obtain⟨e2,_⟩:=ZP hv;rw[e1] at e2;simp at e2
  .rw[hv] at k1;simp only[bc,pW] at k1;obtain⟨rfl,_⟩:=k1;exact⟨y,U,by rw[k2]⟩
  .rw[k3 d t x hv] at hi;simp at hi
 refine SO (X:=aaH P ops a0.tmps.size E0) F qT hf h Iy (λE' => ⟨rfl,λ_=>0,λi o d t _ _ fS => by
  exfalso
  by_cases hj:i<ops.size<;>simp[hj] at fS⟩) λi o ho=>?_
 obtain⟨x,hx,hxo⟩:=wy i o ho;have ax7:i<ops.size:=(lU.1 ho).1;refine⟨x,hx,?_⟩
 rcases Wn hxo with ⟨d,t,z,n,hv,hz,hn,hzn,wD⟩ | ⟨d,t,y,n,q,hv,Nr,hn,hq,wD⟩ | ⟨uQ,Vd,Dh⟩
 ·-- a variable is made
  right;obtain⟨v1,v2,v3⟩:=P6 hv;obtain⟨iz,zv,z1,z2,z3,z4⟩:=uh hz;refine⟨v3,by rw[wD],λE a t' s v s' listed Q uS zC My Uw mQ hs bq hX lE=>?_⟩;rw[wD] at lE ⊢;obtain⟨rfl,lE⟩:=lE;obtain rfl:s=s' := by have:=iH (λq:St=>(q.aE,q.out)) lE;simp only[cm,pW] at this;exact Prod.ext this.1 this.2
  simp only[lg];have UE:d∈Je ops:=by unfold Je;rw[Q0];exact⟨o,by simpa using QA ho,by simp[hv]⟩
  have alG:t'.getD d .any = .any:=by
   rw[mQ d λj y hy Bw=>?_]
   .exact(US d UE).2
   .obtain⟨j0,o0,x0,k1,k2,k3⟩:=FA.st i o d t ho hv;obtain⟨y0,k4,k5⟩:=IA j0 o0 d t x0 k1 k2 (Fk i o d t ho hv)
    have:j=j0:=by
     rcases Nat.decEq j j0 with a9 | he
     .exact absurd Bw (F.dst j j0 y y0 hy k4 a9 d k5)
     .exact he
    subst this;exact Uw j (by rw[qT];exact(lU.1 k1).1) k3
  obtain⟨zp,dS⟩:=apI (c:=zv.cells) (t:=t) hs;have dk:(execOp a.eval o).run P E.w = .ok (.value (.pointer (aa ⟨E.w.heap.size,0,aj⟩))) (E.w.alloc (.cells zv.cells t)):=by
   simp[execOp,v1,Instr.alloc,zeroValue,typeInfo,z1,z2,newVar,newRow]
  unfold Oper.wp;rw[dk];simp only[Oper.upon,v2];refine⟨E.sX zv.cells t,rfl,?_,bq.trans zp,?_⟩
  .have:=bN.put dS (v:=.any) (x:=.pointer (aa ⟨E.w.heap.size,0,aj⟩)) (by simp[R]) (aa d)
   rw[F8] at this;simp only[lg,auK alG] at this;exact this
  .obtain⟨hN,B,hB⟩:=hX;have iv:(E.sX zv.cells t).w.heap[E.w.heap.size]?=aa (.cells zv.cells t (0,0)):=heap_alloc_new E.w _;have jB:zv.cells.size=n:=by have:=gj (sr (E:=E) z3);rw[<-hzn];simp at this;omega
   refine⟨by simp[Act.put,hN],λk=>if k=i then E.w.heap.size else B k,λk o' d' s5 gf iy fS eE=>?_⟩;have Ft : ∀(j:Nat) o' x,ops[j]?=aa o' -> pr o' = aa (d',s5,x)->listed.getD j ar=false:=λj o2 x2 U h2=>by
    have:=eE j o2 x2 U h2
    rw[wU uS] at this;simp only[ui] at this;exact this.2
   rw[wU uS] at fS
   by_cases sH:k=i
   .subst sH;rw[ho] at gf;simp only[bc] at gf;subst gf;rw[hv] at iy;simp only[bc,pW] at iy;obtain⟨rfl,rfl⟩:=iy;simp only[cM];have UD:d<a.tmps.size:=by
     have:=(US d UE).1
     have h0:=gj Iy.slot;simp at h0;omega
    refine⟨by simp[Act.put,UD],by simp[Env.sX],⟨_,_,iv,by rw[jB];exact hn⟩,yQ bq.size (bY _),λi' o' d' t' gf iy UN amF a9=>?_⟩;simp only[aB (fJ a9)];have Nm:∀(j:Nat) o' x,ops[j]?=aa o' -> pr o' = aa (d',t',x)->listed.getD j ar=false:=λj o2 x2 U h2=>by
     have:=amF j o2 x2 U h2
     rw[wU uS] at this;simp only[ui] at this;exact this.2
    rw[wU uS] at UN;have wx:listed.getD i' ar=true:=by simpa [fJ a9] using UN
    obtain⟨_,_,⟨c,e,hc,_⟩,_⟩:=hB i' o' d' t' gf iy wx Nm
    have:=lK hc
    omega
   .simp only[aB sH];have iu:listed.getD k ar=true:=by simpa [sH] using fS
    obtain⟨g1,g2,⟨c,e,g3,g4⟩,g5,g6⟩:=hB k o' d' s5 gf iy iu Ft;have aD:=lK g3;have Bi:d' ≠ d:=λe=>by subst e;exact sH (FA.uniq k i o' o d' s5 t gf ho iy hv)
    refine⟨by simp only[Act.put];rw[Cj (fJ Bi)];exact g1,by simp only[Env.sX];rw[aB (by omega)];exact g2,⟨c,e,((Ext.refl E.w).alloc zv.cells t).block _ aD |>.trans g3,g4⟩,g5,λi' o2 d2 t2 tM rT wx tO a9=>?_⟩;have Nm:∀(j:Nat) o' x,ops[j]?=aa o' -> pr o' = aa (d2,t2,x)->listed.getD j ar=false:=λj o3 x3 U h2=>by
     have:=tO j o3 x3 U h2
     rw[wU uS] at this;simp only[ui] at this;exact this.2
    by_cases dt : i' = i
    .simp only[aF dt];omega
    .simp only[aB dt];rw[wU uS] at wx;exact g6 i' o2 d2 t2 tM rT (by simpa [dt] using wx) Nm a9
 ·-- its first store
  right;obtain⟨v1,v2,v3⟩:=ZP hv;refine⟨v3,by rw[wD],λE a t' s v s' listed Q uS zC My Uw mQ hs bq hX lE=>?_⟩;rw[wD] at lE ⊢;simp only[aO.bj] at lE;obtain⟨sL,gp,rfl,lE⟩:=lE;obtain rfl:(s.1++[(ev (cm t' s) q).cells],s.2)=s' := by have:=iH (λq:St=>(q.aE,q.out)) lE;simp only[cm,pW] at this;exact Prod.ext this.1 this.2
  simp only[lg];obtain⟨i0,o0,k1,k2⟩:=amr d t Nr;obtain⟨j0,oj,xj,m1,m2,m3⟩:=FA.st i0 o0 d t k1 k2;have Im:j0=i:=by
   obtain⟨y0,k4,k5⟩:=IA j0 oj d t xj m1 m2 Nr
   rcases Nat.decEq j0 i with a9 | he
   .have:=F.dst i j0 x y0 hx k4 (fJ a9) d k5
    rw[wD] at this;exact absurd rfl this
   .exact he
  subst Im;rw[ho] at m1;simp only[bc] at m1;subst m1;have U':∀(j:Nat) o' x,ops[j]?=aa o' -> pr o' = aa (d,t,x)->j=j0:=λj o' x' U h2=>by
   obtain⟨y0,k4,k5⟩:=IA j o' d t x' U h2 Nr
   rcases Nat.decEq j j0 with a9 | he
   .have:=F.dst j0 j x y0 hx k4 (fJ a9) d k5
    rw[wD] at this;exact absurd rfl this
   .exact he
  obtain⟨hN,B,hB⟩:=hX;obtain⟨g1,g2,⟨c,e,g3,g4⟩,g5,g6⟩:=hB i0 o0 d t k1 k2 (My i0 m3) λj o' x' U h2=>by rw[U' j o' x' U h2];exact zC
  have hR:=o9 (E:=E) (st:=cm t' s) (a:=a) hs.slot hq;obtain⟨tH,c8⟩:=yV hR sL;have b7:c.size=n:=by rw[hn] at g4;simpa using g4.symm
  have dk:=Pq (P:=P) (off:=0) hn g3 c8 (by omega) (zU tH gp);obtain⟨f1,f2⟩:=acf hs bq g2 g5 g3 tH g1;have iv:(c.toList.take 0++(a.eval y).cells.toList++c.toList.drop (0+n)).toArray=(a.eval y).cells.toList.toArray:=by
   rw[QO (by simp;omega)];simp
  rw[iv] at dk;have hde:a.eval (.tmp d) = .pointer (aa ⟨B i0,0,aj⟩):=by simp[Act.eval,rB,g1]
  unfold Oper.wp;rw[show(execOp a.eval o).run P E.w = .ok .skip (E.w.setRow (B i0) (a.eval y).cells.toList.toArray) from by simp[execOp,v1,hde,JK dk]];simp only[Oper.upon,v2];refine⟨_,rfl,f2,f1,hN,B,λk o' d' s5 gf iy fS eE=>?_⟩;have hkd:d' ≠ d:=λe=>by
   subst e;have e1:=FA.uniq k i0 o' o0 d' s5 t gf k1 iy k2;subst e1;rw[k1] at gf;simp only[bc] at gf;subst gf;rw[k2] at iy;simp only[bc,pW] at iy;obtain⟨_,rfl⟩:=iy
   have:=eE j0 o y ho hv
   rw[wU uS] at this;simp at this
  have E_:k≠i0:=by rintro rfl;rw[k1] at gf;simp only[bc] at gf;subst gf;rw[k2] at iy;simp only[bc,pW] at iy;exact hkd iy.1.symm
  have UQ:∀(k:Nat) o',ops[k]?=aa o' -> (pq o').isSome=ab->k≠j0:=λk o' gf dS => by
   rintro rfl;rw[ho] at gf;simp only[bc] at gf;subst gf;cases hq:pq o with
   | none=>rw[hq] at dS;simp at dS
   | some p=>obtain⟨p1,p2⟩:=p;rw[(P6 hq).1] at v1;simp at v1
  have conv:∀{d t},(∀(j:Nat) o' x,ops[j]?=aa o' -> pr o' = aa (d,t,x)->(listed.setIfInBounds j0 ab).getD j ar=ar)->∀(j:Nat) o' x,ops[j]?=aa o' -> pr o' = aa (d,t,x)->listed.getD j ar=false:=λ{d t} h j o2 x2 U h2=>by
   have:=h j o2 x2 U h2
   rw[wU uS] at this;simp only[ui] at this;exact this.2
  have MX:=UQ k o' gf (by simp[iy]);rw[wU uS] at fS;have iu:listed.getD k ar=true:=by simpa [MX] using fS
  obtain⟨p1,p2,⟨c',e',p3,p4⟩,p5,p6⟩:=hB k o' d' s5 gf iy iu (conv eE);have tK:B k≠B i0:=p6 i0 o0 d t k1 k2 (My i0 m3) (λj o' x' U h2=>by rw[U' j o' x' U h2];exact zC) E_;refine⟨p1,by simp only[Env.bare];rw[aB tK];exact p2,⟨c',e',by simp only[Env.bare];rw[setRow_other E.w (B i0) (B k) _ tK];exact p3,p4⟩,p5,λi' o2 d2 t2 tM rT wx tO a9=>?_⟩;rw[wU uS] at wx;exact p6 i' o2 d2 t2 tM rT (by simpa [UQ i' o2 tM (by simp[rT])] using wx) (conv tO) a9
 ·-- any other step
  left;refine⟨uQ,λlisted E E' a u hX j9 => ?_⟩;obtain⟨hN,B,hB⟩:=hX;have mH:x.1.dst=o.dst:=by
   unfold uZ at uQ;split at uQ
   .simp at uQ
   .split at uQ
    .simp only[bc] at uQ;rw[<-uQ]
    .split at uQ
     .simp only[bc] at uQ;rw[<-uQ]
     .simp at uQ
  have c8:(a.put o.dst u).tmps.size=a.tmps.size:=by cases o.dst<;>simp[Act.put]
  refine⟨by rw[c8];exact hN,B,λk o' d' s5 gf iy fS eE=>?_⟩;have sH:k≠i:=by rintro rfl;rw[ho] at gf;simp only[bc] at gf;subst gf;rw[Vd] at iy;simp at iy
  have M1 : ∀k,k≠i->(listed.setIfInBounds i ab).getD k ar=listed.getD k false:=λk hk=>by
   rw[rB,Cj (fJ hk),<-rB]
  have conv:∀{d t},isVar ops d t=ab->(∀(j:Nat) o' x,ops[j]?=aa o' -> pr o' = aa (d,t,x)->(listed.setIfInBounds i ab).getD j ar=ar)->∀(j:Nat) o' x,ops[j]?=aa o' -> pr o' = aa (d,t,x)->listed.getD j ar=false:=λ{d t} C8 h j o2 x2 U h2=>by
   have:=h j o2 x2 U h2
   rw[M1 j (by rintro rfl;rw[ho] at U;simp only[bc] at U;subst U;rw[Dh _ _ _ h2] at C8;simp at C8)] at this;exact this
  rw[M1 k sH] at fS;obtain⟨g1,g2,⟨c,e,g3,g4⟩,g5,g6⟩:=hB k o' d' s5 gf iy fS (conv (Fk k o' d' s5 gf iy) eE);have aD:=lK g3;obtain⟨U,h2⟩:=j9.same _ aD (.inr g2);obtain⟨j0,oj,xj,m1,m2,m3⟩:=FA.st k o' d' s5 gf iy;obtain⟨y0,k4,k5⟩:=IA j0 oj d' s5 xj m1 m2 (Fk k o' d' s5 gf iy);have Bi:o.dst≠aa d' := λhd=>by
   have a9:i≠j0:=by rintro rfl;rw[ho] at m1;simp only[bc] at m1;subst m1;have:=Dh _ _ _ m2;rw[Fk k o' d' s5 gf iy] at this;simp at this
   exact F.dst i j0 x y0 hx k4 a9 d' k5 (by rw[mH];exact hd)
  refine⟨?_,h2.trans g2,⟨c,e,U.trans g3,g4⟩,g5,λi' o2 d2 t2 tM rT wx tO a9=>?_⟩
  .cases hod:o.dst with
   | none=>exact g1
   | some m=>simp only[Act.put];rw[Cj (by rintro rfl;exact Bi hod)];exact g1
  .have dt : i' ≠ i:=by rintro rfl;rw[ho] at tM;simp only[bc] at tM;subst tM;rw[Vd] at rT;simp at rT
   rw[M1 i' dt] at wx;exact g6 i' o2 d2 t2 tM rT wx (conv (Fk i' o2 d2 t2 tM rT) tO) a9
end
inductive AC where
 | skip
 | Ga (l:List AO)
 | qG (x:AC)
 | draw (l:List (AO × List Nat))
 | Hw (nv:List Nat) (l:List (AO × List Nat))
 | hole (l:List (AO × List Nat)) (h:HI)
 | seq (x y:AC)
 | cond (c:X) (x y:AC)
 | block (id:Nat) (x:AC)
 | loop (x:AC)
 | scope (x:AC)
 | DC (l:List AO) (x:X) (dI dN dM out nxt:Nat) (y:AC)
 | exit (id:Nat)
 | ret
structure Hint where
 out:List Nat:=[]
 qG:List Nat:=[]
def AC.Gv(b:Bool)(x:AC):AC:=if b then .qG x else x
def Jb(P:Program)(h:Hint)(lN lO:Array Oper)(uE out va nxt:Nat)(y:Option AC):Option AC :=
 match lN.toList.getLast?,lO.toList,y with
 | some oR, [oN, oM], aa y =>
  match oR.op,oR.dst,oR.guard,oN.op,oN.dst,oN.guard,oM.op,oM.dst,oM.guard with
  | .range xt ox, aa dI, aj, .next (.tmp SF) ab, aa dN, aj, .extract (.tmp SG) 0, aa dM, aj =>
   match P.underlying xt,BO P h.out lN lN.toList.dropLast,cS P xt ox with
   | some .string,aa l,aa x=>if SF = dI/\SG = dN/\uE = dM/\va = out then aa (.DC l x dI dN dM out nxt y) else aj
   | _,_,_=>aj
  | _,_,_,_,_,_,_,_,_=>aj
 | _,_,_=>aj
def gu(P:Program)(h:Hint):Code->Option AC
 | .skip=>aa .skip
 | .region id ops ar=>(BO P h.out ops ops.toList).map λl=>AC.Gv (h.qG.contains id) (.Ga l)
 | .region id ops ab =>
  match I_ P ops with
  | some l=>aa (AC.Gv (h.qG.contains id) (.draw l))
  | none =>
   match Ja P ops with
   | some p=>aa (AC.Gv (h.qG.contains id) (.hole p.1 p.2))
   | none=>(I' P ops).map λp=>AC.Gv (h.qG.contains id) (.Hw p.1 p.2)
 | .seq (.region i0 lN ar) (.block out (.loop (.seq (.region i1 lO ar) (.seq (.cond (.tmp uE) .skip (.exit va)) (.block nxt b))))) =>
  match Jb P h lN lO uE out va nxt (gu P h b) with
  | some r=>aa r
  | none=>match gu P h (.region i0 lN ar),gu P h (.block out (.loop (.seq (.region i1 lO ar) (.seq (.cond (.tmp uE) .skip (.exit va)) (.block nxt b))))) with | some x,aa y=>aa (.seq x y) | _,_=>aj
 | .seq a b=>match gu P h a,gu P h b with | some x,aa y=>aa (.seq x y) | _,_=>aj
 | .cond c a b=>match cS P 0 c,gu P h a,gu P h b with | some c,aa x,aa y=>aa (.cond c x y) | _,_,_=>aj
 | .block id a=>(gu P h a).map (.block id)
 | .loop a=>(gu P h a).map .loop
 | .scope a=>(gu P h a).map .scope
 | .exit id=>aa (.exit id)
 | .ret=>aa .ret
 | .label _=>aa .skip
 | _=>aj
def bI(st:St)(K:St->Prop):Prop:=∀E a,bN E st a->∃E' aP,E'.w=E.w/\Fr E E' /\ bN E' aP a/\K aP
variable{K:St->Prop}
def bI.id(h:K st):bI st K:=λE _ hs=>⟨E,st,rfl,Fr.refl E,hs,h⟩
variable{K':St->Prop}
def bI.bind(h:bI st K)(k:∀aP,K aP -> bI aP K'):bI st K' := λE a hs =>
 let ⟨E',aP,U,h2,h3,h4⟩:=h E a hs
 let ⟨n5,Gk,k1,k2,k3,k4⟩:=k aP h4 E' a h3
 ⟨n5,Gk,k1.trans U,h2.trans k2,k3,k4⟩
def bI.mono(h:bI st K)(k:∀aP,K aP -> K' aP):bI st K' := h.bind λaP hk=>bI.id (k aP hk)
def uz:List Nat->List V->Option (List V)
 | [],t=>aa t
 | d::ds,t=>if d<t.length then uz ds (t.set d .any) else aj
def Rr:∀{ds:List Nat} {t t' : List V},uz ds t=aa t' -> t'.length=t.length/\(∀d∈ds,d<t'.length/\t'.getD d .any = .any)/\(∀d,t.getD d .any = .any->t'.getD d .any = .any)/\∀(E:Env) vs,RL E t vs->RL E t' vs
 | [],t,t',h=>by simp only[uz,bc] at h;subst h;exact⟨rfl,by simp,λ_ h=>h,λ_ _ h=>h⟩
 | d :: ds, t, t', h => by
  simp only[uz] at h;split at h
  case isFalse=>simp at h
  rename_i hd;obtain⟨U,h2,h3,h4⟩:=Rr h;have hlen:t'.length=t.length:=by rw[U];simp
  refine⟨hlen,λx hx=>?_,λx hx=>h3 x ?_,λE vs hr=>h4 E vs ?_⟩
  .rcases lq.1 hx with rfl | hx
   .exact⟨by omega,h3 x (by simp[fW,hd])⟩
   .exact h2 x hx
  .by_cases e:x=d
   .subst e;simp[fW,hd]
   .simpa [fW,D8 (fJ e)] using hx
  .have hl:=gj hr;have hdv:d<vs.length:=by omega
   have:=G2 hr d (x:=.any) (v:=vs[d]) (by simp[R])
   simpa using this
def AH{ι:Type}(I:ι->St)(μ:ι->Nat)(Q:Exit->St->Prop)(n:Nat):Exit->St->Prop
 | .normal,st=>bI st λaP => ∃j,aP = I j/\μ j<n
 | e,st=>Q e st
def D1(K:St->Prop)(Q:Exit->St->Prop):Exit->St->Prop
 | .normal,st=>K st
 | e,st=>Q e st
def yU(out:Nat)(J:St->Prop)(Q:Exit->St->Prop):Exit->St->Prop
 | .normal,st=>bI st J
 | .exit id,st=>if id=out then Q .normal st else Q (.exit id) st
 | e,st=>Q e st
def Ct(Q:Exit->St->Prop):Exit->St->Prop
 | .goto _,_=>False
 | e,st=>Q e st
def vc(P:Program):AC->(Exit->St->Prop)->St->Prop
 | .skip,Q,st=>Q .normal st
 | .Ga l,Q,st=>cg P l (Q .normal) st
 | .draw l,Q,st=>cJ P l [(st.aE,st.out)] [] (Q .normal) st
 | .hole l h,Q,st=>cJ P l [(st.aE,st.out)] [] (GK h (Q .normal)) st
 | .Hw nv l,Q,st=>∃t,uz nv st.t=aa t/\cJ P l [(st.aE,st.out)] [] (Q .normal) ⟨t,st.aE,st.out⟩
 | .qG x,Q,st=>bI st λaP => vc P x Q aP
 | .seq x y,Q,st=>vc P x (D1 (vc P y Q) Q) st
 | .cond c x y,Q,st=>match ev st c with | .bool b=>(b=ab->vc P x Q st)/\(b=ar->vc P y Q st) | _=>False
 | .block id x,Q,st=>vc P x (tj id Q) st
 | .loop x,Q,st=>∃(ι:Type) (I:ι->St) (μ:ι->Nat),(bI st λaP => ∃i,aP = I i)/\∀i,vc P x (AH I μ Q (μ i)) (I i)
 | .scope x,Q,st=>vc P x (Ct Q) st
 | .DC l x dI dN dM out nxt y,Q,st=>cg P l (λpg=>∃s:List UInt8,ev pg x = .aG s/\(∀c∈s,c.toNat<128)/\∃I:Nat->Nat->St->Prop,
  (∀b,bI (pg.put (aa dI) (.raw (.pointer (aa ⟨b,0,aj⟩)))) (I b 0)) /\
  (∀b i aP,I b i aP -> aP.t.getD dI .any = .raw (.pointer (aa ⟨b,0,aj⟩))/\dN<aP.t.length/\dM<aP.t.length) /\
  (∀b i c aP,s[i]?=aa c->I b i aP -> vc P y (tj nxt (yU out (I b (i+1)) Q)) ((aP.put (aa dN) (.bH [.bool ab,.int .i64 (i:Nat),.int .i32 (c.toNat:Nat)])).put (aa dM) (.bool ab))) /\
  (∀b aP,I b s.length aP -> Q .normal ((aP.put (aa dN) (.bH [.bool ar])).put (aa dM) (.bool ar)))) st
 | .exit id,Q,st=>Q (.exit id) st
 | .ret,Q,st=>Q .ret st
variable{Q:Exit->St->Prop}
def asO{c:Code}(h:bI st (ju P c Q)):ju P c Q st:=by
 intro E a hs;obtain⟨E',aP,U,h2,h3,h4⟩:=h E a hs;rw[<-U];exact wp_mono (h4 E' a h3) λ_ _ _ ⟨n5,Gk,k1,k2,k3,k4⟩=>⟨n5,Gk,k1,k2,h2.trans k3,k4⟩
def aod{N:Nat->Prop}:∀n,N n->∃m,N m/\∀k,N k->m<=k:=λn=>by
 induction n using Nat.strongRecOn with
 | ind n ih =>
  intro h
  by_cases hq:∃k,N k/\k<n
  .obtain⟨k,U,h2⟩:=hq;exact ih k h2 U
  .refine⟨n,h,λk hk=>?_⟩
   by_cases aD:k<n
   .exact absurd ⟨k,hk,aD⟩ hq
   .omega
def asI{c:Code}{ι:Type}(I:ι->St)(μ:ι->Nat)(h0:bI st λaP => ∃i,aP = I i)(hr:∀i,ju P c (AH I μ Q (μ i)) (I i)):ju P (.loop c) Q st:=by
 intro E a hs;obtain⟨E1,pg,U,h2,h3,i0,rfl⟩:=h0 E a hs
 classical
 let J:Act->World->Prop:=λa w=>∃i E',E'.w=w/\bN E' (I i) a/\Fr E E'
 let N:Act->World->Nat->Prop:=λa w n=>∃i E',E'.w=w/\bN E' (I i) a/\Fr E E' /\ μ i=n
 have hL:∀a w,(∃n,N a w n)->∃m,N a w m/\∀k,N a w k->m<=k:=λa w h=>aod _ h.choose_spec
 let M:Act->World->Nat:=λa w=>if h:∃n,N a w n then(hL a w h).choose else 0
 refine wp_loop J M ⟨i0,E1,U,h3,h2⟩ ?_;intro a w hJ;have hex:∃n,N a w n:=by obtain⟨i,E',k1,k2,k3⟩:=hJ;exact⟨μ i,i,E',k1,k2,k3,rfl⟩
 obtain⟨i,E',k1,k2,k3,k4⟩:=(hL a w hex).choose_spec.1;have hM:M a w=μ i:=by show(if h:∃n,N a w n then(hL a w h).choose else 0)=_;rw[Ew hex];exact k4.symm
 subst k1;refine wp_mono (hr i E' a k2) ?_;rintro e a' w' ⟨E2,ph,rfl,m2,m3,m4⟩;cases e with
 | normal =>
  obtain⟨E3,Al,n1,n2,n3,j,rfl,aD⟩:=m4 E2 a' m2;have hN:N a' E2.w (μ j):=⟨j,E3,n1,n3,(k3.trans m3).trans n2,rfl⟩;refine⟨⟨j,E3,n1,n3,(k3.trans m3).trans n2⟩,?_⟩;have ayc : M a' E2.w<=μ j:=by
   show(if h:∃n,N a' E2.w n then(hL a' E2.w h).choose else 0)<=_;rw[Ew ⟨_,hN⟩];exact(hL a' E2.w ⟨_,hN⟩).choose_spec.2 _ hN
  rw[hM];omega
 | exit id=>exact⟨E2,ph,rfl,m2,k3.trans m3,m4⟩
 | goto l=>exact⟨E2,ph,rfl,m2,k3.trans m3,m4⟩
 | ret=>exact⟨E2,ph,rfl,m2,k3.trans m3,m4⟩
 | panic c=>exact⟨E2,ph,rfl,m2,k3.trans m3,m4⟩
 | outgrown=>exact⟨E2,ph,rfl,m2,k3.trans m3,m4⟩
section
variable {P:Program}
def OE{hn:List Nat}{ops:Array Oper}{K:St->Prop}{Q:Exit->Act->World->Prop}{E0:Env}{rest:List Nat}(hQ:∀E st a,bN E st a->Fr E0 E->K st->wpOps P ops Q rest a E.w):∀(os:List Oper) (l:List AO) (i:Nat),BO P hn ops os=aa l ->
 (∀j:Nat,j<os.length->os[j]?=ops[i+j]?)->∀E st a,bN E st a->Fr E0 E->cg P l K st->wpOps P ops Q (List.range' i os.length++rest) a E.w
 | [], l, i, hl, _, E, st, a, hs, hf, h => by
  simp only[BO,bc] at hl;subst hl;exact hQ E st a hs hf h
 | o :: os, l, i, hl, rP, E, st, a, hs, hf, h => by
  simp only[BO,iV,dn] at hl;obtain⟨x,hx,l',fS,rfl⟩:=hl;have ho:ops[i]?=aa o:=by have:=rP 0 (by simp);simpa using this.symm
  have al3 : ∀j:Nat,j<os.length->os[j]?=ops[i+1+j]?:=λj hj=>by
   have:=rP (j+1) (by simp;omega)
   rw[show i+(j+1)=i+1+j from by omega] at this;simpa using this
  have ih:=OE hQ os l' (i+1) fS al3;have key:∀{ao:aO} {d:Option Tmp},FO P hn o=ao->d=o.dst->ao.bj P st (λv aP => cg P l' K (aP.put d v))->o.wp P a E.w (wpOps P ops Q (List.range' (i+1) os.length++rest)) Q:=λ{ao d} hao hd lE=>by
   subst hd;subst hao;refine Oper.wp_mono ?_ (aoW (Q:=Q) hs lE);rintro a' w' ⟨E',v,u,aP,rfl,j9,dS,hv,rfl,hk⟩;exact ih E' _ _ (bN.put dS hv o.dst) (hf.trans j9) hk
  simp only[dm,D_,il,wpOps,ho];unfold Wo at hx;cases hg:o.guard with
  | none =>
   rw[hg] at hx;simp only[bc] at hx;subst hx;simp only[cg] at h;rw[aF (by simp[Region.wanted,hg])];exact .inl (key rfl rfl h)
  | some p =>
   obtain⟨j,want⟩:=p;rw[hg] at hx;simp only at hx;split at hx
   case h_2=>simp at hx
   rename_i g qh;simp only[bc] at hx;subst hx;simp only[cg] at h;split at h
   .rename_i b hb;have hR:=CR hs.slot g;rw[hb] at hR;simp only[R,Act.eval] at hR;have rP:a.tmps[g]?=aa (.bool b):=by
     rw[rB] at hR;cases hq:a.tmps[g]? with
     | none=>rw[hq] at hR;simp[undef] at hR
     | some u=>rw[hq] at hR;simp at hR;rw[hR]
    have hw:Region.wanted o (yielded ops a.tmps)=(b == want):=by
     simp only[Region.wanted,hg,yielded,qh,xl,rP];cases b<;>cases want<;>rfl
    split at h
    .rename_i MA;rw[hw,aF (by simp[MA])];exact .inl (key rfl rfl h)
    .rename_i MA;rw[hw,aB (by simp[MA])];exact ih E _ _ (bN.put hs (v:=.bH []) (x:=undef) KS o.dst) hf h
   .rename_i hb;have hR:=CR hs.slot g;rw[hb] at hR;have hu:=Rb hR;have hw:Region.wanted o (yielded ops a.tmps)=false:=by
     simp only[Region.wanted,hg,yielded,qh,xl];simp only[Act.eval] at hu;cases hq:a.tmps[g]? with
     | none=>rfl
     | some u =>
      rw[rB,hq] at hu;simp at hu;rw[hu];rfl
    rw[hw,aB (by simp)];exact ih E _ _ (bN.put hs (v:=.bH []) (x:=undef) KS o.dst) hf h
   .exact h.elim
def J6{c:Code}{x:AC}(ih:∀(Q:Exit->St->Prop) (st:St),vc P x Q st->ju P c Q st)(b:Bool)(Q:Exit->St->Prop)(st:St)(h:vc P (AC.Gv b x) Q st):ju P c Q st:=by
 cases b with
 | false=>exact ih Q st h
 | true=>exact asO (h.mono λaP h' => ih Q aP h')
def eval_put{x:Value}(h:d<a.tmps.size):(a.put (aa d) x).eval (.tmp d)=x:=by
 simp[Act.put,Act.eval,h]
variable{cb:Code}{i1 out:Nat}{lO:Array Oper}
def rounds{oN oM:Oper}{dI dN dM nxt:Nat}{E0:Env}{s:List UInt8}{I:Nat->St->Prop}
 (U:lO.toList=[oN,oM]) (hN:oN.op = .next (.tmp dI) ab) (Mj:oN.dst=aa dN) (Mk:oN.guard=aj) (hM:oM.op = .extract (.tmp dN) 0) (Mh:oM.dst=aa dM) (Mi:oM.guard=aj)
 (EV:E0.w.heap.size<=b) (Mu:∀c∈s,c.toNat<128) (Dc:∀i aP,I i aP -> aP.t.getD dI .any = .raw (.pointer (aa ⟨b,0,aj⟩))/\dN<aP.t.length/\dM<aP.t.length)
 (Mz:∀i c aP,s[i]?=aa c->I i aP -> ju P cb (tj nxt (yU out (I (i+1)) Q)) ((aP.put (aa dN) (.bH [.bool ab,.int .i64 (i:Nat),.int .i32 (c.toNat:Nat)])).put (aa dM) (.bool ab)))
 (jm:∀aP,I s.length aP -> Q .normal ((aP.put (aa dN) (.bH [.bool ar])).put (aa dM) (.bool ar)))
 {E:Env} {st:St} {a:Act} (hs:bN E st a) (hf:Fr E0 E) (hr:E.bf b = .nC) (hh:E.w.heap[b]?=aa (.stringIter ⟨s.toArray⟩ 0)) (hI:I 0 st) :
 (Code.block out (.loop (.seq (.region i1 lO ar) (.seq (.cond (.tmp dM) .skip (.exit out)) (.block nxt cb))))).wp P (λe a' w' => ∃E' aP,E'.w=w' /\ bN E' aP a' /\ Fr E0 E' /\ Q e aP) a E.w:=by
 refine wp_block ?_;refine wp_loop (λa w=>∃i aP E',E'.w=w/\i<=s.length/\I i aP /\ bN E' aP a/\Fr E0 E' /\ E'.bf b = .nC/\E'.w.heap[b]?=aa (.stringIter ⟨s.toArray⟩ i)) (λa w=>match w.heap[b]? with | some (.stringIter z p)=>z.size - p | _=>0) ⟨0,st,E,rfl,by omega,hI,hs,hf,hr,hh⟩ ?_;rintro a _ ⟨i,aP,E',rfl,hi,hI,dS,j9,cL,E6⟩;obtain⟨hsl,C_,iu⟩:=Dc i aP hI;have hlen:aP.t.length=a.tmps.size:=by have:=gj dS.slot;simpa using this
 have hdI:a.eval (.tmp dI) = .pointer (aa ⟨b,0,aj⟩):=by
  have:=CR dS.slot dI
  rw[show ev aP (.s dI)=aP.t.getD dI .any from rfl,hsl] at this;simpa [R] using this
 have hg0:lO[0]?=aa oN:=by rw[<-Qz,U];rfl
 have Ii:lO[1]?=aa oM:=by rw[<-Qz,U];rfl
 have c8:lO.size=2:=by rw[<-Ck,U];rfl
 refine wp_seq (wp_region ?_);rw[c8];show wpOps P lO _ [0,1] a E'.w;have step:∀(y:Value) (t:V) (us:Array Value) (bb:Bool) (w1:World) (E1:Env),(Instr.next (.pointer (aa ⟨b,0,aj⟩)) ab oN.type).run P E'.w = .ok y w1->y = .tuple us->us[0]?=aa (.bool bb)->E1.w=w1->bN E1 aP a->R E1 t y ->
  ∀(QQ:Exit->Act->World->Prop),(∀a',bN E1 ((aP.put (aa dN) t).put (aa dM) (.bool bb)) a' -> a'.eval (.tmp dM) = .bool bb->QQ .normal a' w1)->wpOps P lO QQ [0,1] a E'.w:=by
  intro y t us bb w1 E1 dk hy Nq hw qm hR QQ hQ;subst hy;simp only[wpOps,hg0,Ii];rw[aF (by simp[Region.wanted,Mk])];left;unfold Oper.wp;rw[show(execOp a.eval oN).run P E'.w = .ok (.value (.tuple us)) w1 by simp[execOp,hN,hdI,dk]];simp only[Oper.upon];rw[aF (by simp[Region.wanted,Mi])];left;have he:(a.put (aa dN) (.tuple us)).eval (.tmp dN) = .tuple us:=eval_put (by omega);rw[Mj,show(execOp (a.put (aa dN) (.tuple us)).eval oM).run P w1 = .ok (.value (.bool bb)) w1 by simp[execOp,hM,he,Instr.extract,Nq]];simp only[Mh];refine hQ _ ?_ (eval_put (by simp[Act.put];omega));exact bN.put (bN.put qm hR (aa dN)) (by simp[R]) (aa dM)
 by_cases aD:i<s.length
 .have rP:s[i]?=aa s[i]:=cK aD;have oD:(⟨s.toArray⟩:ByteArray).get! i=s[i]:=by simp[ByteArray.get!,aD]
  have dk:=aua (P:=P) (t:=oN.type) E6 (by simpa [ByteArray.size] using aD) (by rw[oD];exact Mu _ (dj aD));rw[oD] at dk;refine step _ (.bH [.bool ab,.int .i64 (i:Nat),.int .i32 (s[i].toNat:Nat)]) _ ab _ (E'.kj b (.stringIter ⟨s.toArray⟩ (i+1))) dk rfl rfl rfl (bN.kj cL dS) (by simp[R,RL]) _ ?_;intro a' Nh MJ;refine wp_seq (wp_cond_true MJ (wp_skip ?_));refine wp_block ?_;have sG:Fr E0 (E'.kj b (.stringIter ⟨s.toArray⟩ (i+1))):=Fr.kj j9 cL EV E6;have Ij:(E'.kj b (.stringIter ⟨s.toArray⟩ (i+1))).w.heap[b]?=aa (.stringIter ⟨s.toArray⟩ (i+1)):=Zb E6;have M4:b<(E'.kj b (.stringIter ⟨s.toArray⟩ (i+1))).w.heap.size:=(lU.1 Ij).1;refine wp_mono (Mz i s[i] aP rP hI _ a' Nh) ?_;rintro e a2 w2 ⟨E3,Al,rfl,Bq,zo,hq⟩;have C9:=zo.same b M4 (.inr cL);have norm:bI Al (I (i+1))->(∃i aP E',E'.w=E3.w/\i<=s.length/\I i aP /\ bN E' aP a2/\Fr E0 E' /\ E'.bf b = .nC/\E'.w.heap[b]?=aa (.stringIter ⟨s.toArray⟩ i)) /\
   (match E3.w.heap[b]? with | some (.stringIter z p)=>z.size - p | _=>0)<(match E'.w.heap[b]? with | some (.stringIter z p)=>z.size - p | _=>0):=by
   intro hU;obtain⟨E4,Zs,Ns,EZ,Ng,Md⟩:=hU E3 a2 Bq;have sF:b<E3.w.heap.size:=by rw[Ij] at C9;exact(lU.1 C9.1).1
   have Fa:=EZ.same b sF (.inr (C9.2.trans cL));refine⟨⟨i+1,Zs,E4,Ns,aD,Md,Ng,(sG.trans zo).trans EZ,Fa.2.trans (C9.2.trans cL),Fa.1.trans (C9.1.trans Ij)⟩,?_⟩;rw[C9.1,Ij,E6];simp only[ByteArray.size,Q2];omega
  cases e with
  | normal=>exact norm hq
  | exit id =>
   simp only[tj,yU] at hq;simp only[Exit.inBlock,Exit.then]
   by_cases e1:id=nxt
   .rw[aF e1] at hq ⊢;exact norm hq
   .rw[aB e1] at hq ⊢
    by_cases e2:id=out
    .rw[aF e2] at hq ⊢;exact⟨E3,Al,rfl,Bq,sG.trans zo,hq⟩
    .rw[aB e2] at hq ⊢;exact⟨E3,Al,rfl,Bq,sG.trans zo,hq⟩
  | goto l=>exact⟨E3,Al,rfl,Bq,sG.trans zo,hq⟩
  | ret=>exact⟨E3,Al,rfl,Bq,sG.trans zo,hq⟩
  | panic c=>exact⟨E3,Al,rfl,Bq,sG.trans zo,hq⟩
  | outgrown=>exact⟨E3,Al,rfl,Bq,sG.trans zo,hq⟩
 .have Bk:i=s.length:=by omega
  subst Bk;have dk:=run_next_end (P:=P) (t:=oN.type) E6 (by simp[ByteArray.size]);refine step _ (.bH [.bool ar]) _ ar _ E' dk rfl rfl rfl dS (by simp[R,RL]) _ ?_;intro a' Nh MJ;refine wp_seq (wp_cond_false MJ (wp_exit ?_));simp only[Exit.then,Exit.inBlock,cM];exact⟨E',_,rfl,Nh,j9,jm aP hI⟩
variable{lN:Array Oper}
def asJ{VB:(Exit->St->Prop)->St->Prop}{hn:List Nat}{os:List Oper}{oR oN oM:Oper}{l0:List AO}{xt:TypeId}{ox:Operand}{x:X}{dI dN dM i0 nxt:Nat}
 (h0:lN.toList=os++[oR]) (hR:oR.op = .range xt ox) (hRd:oR.dst=aa dI) (hRg:oR.guard=aj) (ht:P.underlying xt=aa .string) (hl:BO P hn lN os=aa l0) (hx:cS P xt ox=aa x)
 (U:lO.toList=[oN,oM]) (hN:oN.op = .next (.tmp dI) ab) (Mj:oN.dst=aa dN) (Mk:oN.guard=aj) (hM:oM.op = .extract (.tmp dN) 0) (Mh:oM.dst=aa dM) (Mi:oM.guard=aj)
 (hVB:∀Q st,VB Q st->ju P cb Q st) (h:cg P l0 (λpg=>∃s:List UInt8,ev pg x = .aG s/\(∀c∈s,c.toNat<128)/\∃I:Nat->Nat->St->Prop,
   (∀b,bI (pg.put (aa dI) (.raw (.pointer (aa ⟨b,0,aj⟩)))) (I b 0)) /\
   (∀b i aP,I b i aP -> aP.t.getD dI .any = .raw (.pointer (aa ⟨b,0,aj⟩))/\dN<aP.t.length/\dM<aP.t.length) /\
   (∀b i c aP,s[i]?=aa c->I b i aP -> VB (tj nxt (yU out (I b (i+1)) Q)) ((aP.put (aa dN) (.bH [.bool ab,.int .i64 (i:Nat),.int .i32 (c.toNat:Nat)])).put (aa dM) (.bool ab))) /\
   (∀b aP,I b s.length aP -> Q .normal ((aP.put (aa dN) (.bH [.bool ar])).put (aa dM) (.bool ar)))) st) :
 ju P (.seq (.region i0 lN ar) (.block out (.loop (.seq (.region i1 lO ar) (.seq (.cond (.tmp dM) .skip (.exit out)) (.block nxt cb)))))) Q st:=by
 intro E a hs;refine wp_seq (wp_region ?_);have c8:lN.size=os.length+1:=by rw[<-Ck,h0];simp
 have rP:∀j:Nat,lN[j]?=(os++[oR])[j]?:=λj=>by rw[<-h0];simp
 rw[vE,c8,List.range'_concat,show 0+1*os.length=os.length by omega];refine OE (rest:=[os.length]) (K:=_) (E0:=E) ?_ os l0 0 hl ?_ E st a hs (Fr.refl E) h
 .rintro E1 pg a1 qm C4 ⟨s,ML,Mu,I,hU,Dc,Mz,jm⟩;have ho:lN[os.length]?=aa oR:=by rw[rP];simp
  simp only[wpOps,ho];rw[aF (by simp[Region.wanted,hRg])];left;have gq:=o9 (E:=E1) (st:=pg) (a:=a1) qm.slot hx;rw[ML] at gq;simp only[R] at gq;have dk:(execOp a1.eval oR).run P E1.w = .ok (.value (.pointer (aa ⟨E1.w.heap.size,0,aj⟩))) (E1.w.alloc (.stringIter ⟨s.toArray⟩ 0)):=by simp[execOp,hR,gq,aub ht]
  unfold Oper.wp;rw[dk];simp only[Oper.upon,hRd];obtain⟨f2,s2,r2,b2⟩:=apJ (s:=⟨s.toArray⟩) (p:=0) qm;have s3:bN (E1.nQ (.stringIter ⟨s.toArray⟩ 0)) (pg.put (aa dI) (.raw (.pointer (aa ⟨E1.w.heap.size,0,aj⟩)))) (a1.put (aa dI) (.pointer (aa ⟨E1.w.heap.size,0,aj⟩))):=bN.put s2 (by simp[R]) (aa dI);obtain⟨E4,Zs,Ns,EZ,Ng,Md⟩:=hU E1.w.heap.size _ _ s3;have M4:E1.w.heap.size<(E1.nQ (.stringIter ⟨s.toArray⟩ 0)).w.heap.size:=(lU.1 b2).1;have Fa:=EZ.same E1.w.heap.size M4 (.inr r2)
  have:=rounds (i1:=i1) (out:=out) (nxt:=nxt) (I:=I E1.w.heap.size) U hN Mj Mk hM Mh Mi C4.size Mu (Dc E1.w.heap.size) (λi c aP hc hI=>hVB _ _ (Mz E1.w.heap.size i c aP hc hI)) (jm E1.w.heap.size) Ng ((C4.trans f2).trans EZ) (Fa.2.trans r2) (Fa.1.trans b2) Md
  rw[Ns] at this;exact this
 .intro j hj;rw[j6,rP,qJ hj]
def asL{P:Program}{c:Code}(h:ju P c (Ct Q) st):ju P (.scope c) Q st:=by
 intro E a hs;refine wp_scope_straight (wp_mono (h E a hs) ?_);rintro e a' w' ⟨E',aP,rfl,h2,h3,h4⟩;cases e with
 | goto l=>exact h4.elim
 | _=>exact⟨E',aP,rfl,h2,h3,h4⟩
variable{h:Hint}
def aoV{uE va nxt i0:Nat}{y:Option AC}{z:AC}(hz:Jb P h lN lO uE out va nxt y=aa z)(ih:∀y',y=aa y' -> ∀(Q:Exit->St->Prop) (st:St),vc P y' Q st->ju P cb Q st)
 (Q:Exit->St->Prop) (st:St) (hv:vc P z Q st):ju P (.seq (.region i0 lN ar) (.block out (.loop (.seq (.region i1 lO ar) (.seq (.cond (.tmp uE) .skip (.exit va)) (.block nxt cb)))))) Q st:=by
 unfold Jb at hz;split at hz
 case h_2=>simp at hz
 rename_i oR oN oM y' hl U;split at hz
 case h_2=>simp at hz
 rename_i xt ox dI SF dN SG dM g1 g2 g3 g4 g5 g6 g7 g8 g9;split at hz
 case h_2=>simp at hz
 rename_i l x k1 k2 k3;split at hz
 case isFalse=>simp at hz
 rename_i he;obtain⟨rfl,rfl,rfl,rfl⟩:=he;simp only[bc] at hz;subst hz;have h0:lN.toList=lN.toList.dropLast++[oR]:=by
  obtain⟨ys,q_⟩:=List.getLast?_eq_some_iff.1 hl;rw[q_];simp
 exact asJ (VB:=vc P y') h0 g1 g2 g3 k1 k2 k3 U g4 g5 g6 g7 g8 g9 (ih y' rfl) hv
def aoR{a b:Code}{z:AC}(hz:gu P h (.seq a b)=aa z):(∃x y,gu P h a=aa x/\gu P h b=aa y/\z = .seq x y) \/
 (∃i0 lN out i1 lO uE va nxt cb,a = .region i0 lN ar/\b = .block out (.loop (.seq (.region i1 lO ar) (.seq (.cond (.tmp uE) .skip (.exit va)) (.block nxt cb))))/\Jb P h lN lO uE out va nxt (gu P h cb)=aa z):=by
 have gen:(match gu P h a,gu P h b with | some x,aa y=>aa (AC.seq x y) | _,_=>aj)=aa z->∃x y,gu P h a=aa x/\gu P h b=aa y/\z = .seq x y:=by
  intro e;split at e
  .rename_i x y hx hy;simp only[bc] at e;exact⟨x,y,hx,hy,e.symm⟩
  .simp at e
 unfold gu at hz;split at hz
 all_goals (try (exfalso;simp_all;done))
 .rename_i heq;simp only[Code.seq.injEq] at heq;obtain⟨rfl,rfl⟩:=heq;split at hz
  .rename_i r hr;exact .inr ⟨_,_,_,_,_,_,_,_,_,rfl,rfl,by rw[hr];exact hz⟩
  .exact .inl (gen hz)
 .rename_i heq;simp only[Code.seq.injEq] at heq;obtain⟨rfl,rfl⟩:=heq;exact .inl (gen hz)
def yB{h:Hint}:∀(c:Code) (x:AC),gu P h c=aa x->∀(Q:Exit->St->Prop) (st:St),vc P x Q st->ju P c Q st
 | .skip,x,hl,Q,st,h=>by simp only[gu,bc] at hl;subst hl;exact asN h
 | .region id ops ar, x, hl, Q, st, h => by
  simp only[gu,dn] at hl;obtain⟨l,hl,rfl⟩:=hl;refine J6 (λQ st h E a hs=>?_) _ Q st h;refine wp_region ?_
  have:=OE (P:=P) (ops:=ops) (K:=Q .normal) (E0:=E) (Q:=λe a' w' => ∃E' aP,E'.w=w' /\ bN E' aP a' /\ Fr E E' /\ Q e aP) (rest:=[]) (λE' aP a' U h2 h3=>⟨E',aP,rfl,U,h2,h3⟩) ops.toList l 0 hl (λj _=>by simp) E st a hs (Fr.refl E) h
  rw[vE];simpa using this
 | .region id ops ab, x, hl, Q, st, h => by
  simp only[gu] at hl;split at hl
  .rename_i l fS;simp only[bc] at hl;subst hl;refine J6 (λQ st h=>?_) _ Q st h;exact OZ (ae3 fS h) λe aP ⟨U,h2⟩=>by subst U;exact h2
  .split at hl
   .rename_i p fS;obtain⟨l,hi⟩:=p;simp only[bc] at hl;subst hl;refine J6 (λQ st h=>?_) _ Q st h;exact OZ (amy fS h) λe aP ⟨U,h2⟩=>by subst U;exact h2
   .simp only[dn] at hl;obtain⟨⟨nv,l⟩,hl,rfl⟩:=hl;refine J6 (λQ st h=>?_) _ Q st h;obtain⟨t,U,h2⟩:=h;obtain⟨_,k2,_,k4⟩:=Rr U;intro E a hs
    have:=ae1 (st:=⟨t,st.aE,st.out⟩) (id:=id) hl k2 h2 E a ⟨hs.ok,hs.dv,hs.defers,k4 E _ hs.slot⟩
    exact wp_mono this λe a' w' ⟨E',aP,m1,m2,m3,m4,m5⟩=>⟨E',aP,m1,m2,m3,by subst m4;exact m5⟩
 | .seq a b, x, hl, Q, st, h => by
  rcases aoR hl with ⟨y,z,hy,hz,rfl⟩ | ⟨i0,lN,out,i1,lO,uE,va,nxt,cb,rfl,rfl,hz⟩
  .refine asM (OZ (yB a y hy _ st h) λe aP he=>?_);cases e with
   | normal=>exact yB b z hz Q aP he
   | _=>exact he
  .exact aoV hz (λy' hy=>yB cb y' hy) Q st h
 | .cond c a b, x, hl, Q, st, h => by
  simp only[gu] at hl;split at hl
  case h_2=>simp at hl
  rename_i ax y z hx hy hz;simp only[bc] at hl;subst hl;simp only[vc] at h;split at h
  case h_2=>exact h.elim
  rename_i b' hb;intro E ac hs;have hR:=o9 (E:=E) (st:=st) (a:=ac) hs.slot hx;rw[hb] at hR;simp only[R] at hR;exact wp_cond_split hR (λht=>yB a y hy Q st (h.1 ht) E ac hs) (λht=>yB b z hz Q st (h.2 ht) E ac hs)
 | .block id a, x, hl, Q, st, h => by
  simp only[gu,dn] at hl;obtain⟨y,hy,rfl⟩:=hl;exact asF (yB a y hy _ st h)
 | .loop a, x, hl, Q, st, h => by
  simp only[gu,dn] at hl;obtain⟨y,hy,rfl⟩:=hl;obtain⟨ι,I,μ,h0,hr⟩:=h;exact asI I μ h0 λi=>yB a y hy _ (I i) (hr i)
 | .exit id,x,hl,Q,st,h=>by simp only[gu,bc] at hl;subst hl;exact asG h
 | .ret,x,hl,Q,st,h=>by simp only[gu,bc] at hl;subst hl;exact asK h
 | .label l,x,hl,Q,st,h=>by simp only[gu,bc] at hl;subst hl;exact asH h
 | .goto l,x,hl,Q,st,h=>by simp[gu] at hl
 | .scope a, x, hl, Q, st, h => by
  simp only[gu,dn] at hl;obtain⟨y,hy,rfl⟩:=hl;exact asL (yB a y hy _ st h)
 | .refuse w,x,hl,Q,st,h=>by simp[gu] at hl
 | .rangeFunc f p a b,x,hl,Q,st,h=>by simp[gu] at hl
inductive RV where
 | tmp (t:Nat)
 | cell (t:Nat) (agg:Bool) (n:Nat)
def Og(P:Program):ResultVar->Option RV
 | .tmp t=>aa (.tmp t)
 | .cell a t=>match iO P t,eQ P t with | some g,aa n=>aa (.cell a g n) | _,_=>aj
def BQ(P:Program):List ResultVar->Option (List RV)
 | []=>aa []
 | r::rs=>(Og P r).bind λx=>(BQ P rs).map (x::·)
def rv(st:St):RV->Option V
 | .tmp t=>aa (st.t.getD t .any)
 | .cell t g n=>mf st g n (st.t.getD t .any)
def vk(st:St):List RV->Option (List V)
 | []=>aa []
 | r::rs=>(rv st r).bind λx=>(vk st rs).map (x::·)
def u_:List V->V
 | [x]=>x
 | xs=>.bH xs
def ah.sub(σ' D:ah):Prop:=(∀b cs,σ'.box b=aa cs->D.box b=aa cs)/\(∀t n,σ'.aR t=aa n->D.aR t=aa n)/\∀b cs,σ'.b8 b=aa cs->D.b8 b=aa cs
def ah.bm(D:ah):D.sub D:=⟨λ_ _ h=>h,λ_ _ h=>h,λ_ _ h=>h⟩
def mw(R' : V->ah->Prop)(st:St):V->Prop:=λv=>v.c9=ab/\∃(σ' : ah) (w:V),σ'.sub st.out/\(w=v.erase\/w=v)/\R' w σ'
def G3(rs:List RV)(R' : V->ah->Prop):Exit->St->Prop
 | .normal,st | .ret,st=>opt ((vk st rs).map u_) (mw R' st)
 | _,_=>False
def YF{E:Env}{st:St}{a:Act}(hs:bN E st a):∀{rs:List ResultVar} {ys:List RV} {vs:List V},BQ P rs=aa ys->vk st ys=aa vs ->
 ∃us:List Value,(rs.mapM λ| .tmp t=>pure (a.tmps.getD t undef) | .cell ad t=>do loadVar t (<-asAddr (a.tmps.getD ad undef)):Sem (List Value)).run P E.w = .ok us E.w/\RL E vs us
 | [], ys, vs, U, h2 => by
  simp only[BQ,bc] at U;subst U;simp only[vk,bc] at h2;subst h2;exact⟨[],by simp,by simp[RL]⟩
 | r :: rs, ys, vs, U, h2 => by
  simp only[BQ,iV,dn] at U;obtain⟨y,hy,ys',q_,rfl⟩:=U;simp only[vk,iV,dn] at h2;obtain⟨v,hv,DR,Dh,rfl⟩:=h2;obtain⟨us,k1,k2⟩:=YF hs q_ Dh;cases r with
  | tmp t =>
   simp only[Og,bc] at hy;subst hy;simp only[rv,bc] at hv;subst hv;have hR:=CR hs.slot t;refine⟨a.tmps.getD t undef::us,?_,by simp only[RL];exact⟨hR,k2⟩⟩;rw[List.mapM_cons];simp only[Sem.run_bind,Sem.run_pure,Result.andThen_ok,k1]
  | cell ad t =>
   simp only[Og] at hy;split at hy
   case h_2=>simp at hy
   rename_i g n hg hn;simp only[bc] at hy;subst hy;simp only[rv] at hv;have hR:=CR hs.slot ad;have qS : R E (st.t.getD ad .any) (a.tmps.getD ad undef):=hR;obtain⟨b,off,cs,e1,e2,e3⟩:=VN hs hv qS;obtain⟨u,e4,e5⟩:=run_load (P:=P) hg hn e2 e3;refine⟨u::us,?_,by simp only[RL];exact⟨e5,k2⟩⟩;rw[List.mapM_cons];have e6:((do loadVar t (<-asAddr (a.tmps.getD ad undef)):Sem Value)).run P E.w = .ok u E.w:=by
    rw[e1];simp only[asAddr,Sem.run_bind,Sem.run_pure,Result.andThen_ok,e4]
   rw[Sem.run_bind];show((do loadVar t (<-asAddr (a.tmps.getD ad undef)):Sem Value).run P E.w).andThen _=_;rw[e6,Result.andThen_ok,Sem.run_bind,k1,Result.andThen_ok,Sem.run_pure]
variable{f:FuncId}{fn:Func}
def afJ(hf:P.funcs[f]?=aa fn)(hn:(fn.name == "runtime.NumGoroutine")=ar)(hb:fn.body.isNone=ar):QH P f:=λargs w=>by
 have cC : fn.body.isNone=false:=hb;simp only[callFunc,Sem.run_bind,run_program,Result.andThen_ok,hf];split
 .rename_i h;simp[hn] at h
 .split
  .rename_i h;simp at h;rw[h] at cC;simp at cC
  .rfl
def arX{c:Code}{x:AC}{rs:List RV}(hf:P.funcs[f]?=aa fn)(amm:(fn.name == "runtime.NumGoroutine")=ar)(hb:fn.body=aa c)(hl:gu P h c=aa x)(hr:BQ P fn.results.toList=aa rs)
 {n:Nat} (hn:fn.ntmps=n) {args:List V} {D:ah} {R' : V->ah->Prop} (hv:vc P x (G3 rs R') ⟨args++aq (n - args.length) .any,[],D⟩):ch P f args D R' := by
 refine⟨afJ hf amm (by rw[hb];rfl),λE vs M0 ck Ms=>?_⟩;refine calls_of_wp hf hb ?_;have hlen:=gj Ms;have hs:bN E ⟨args++aq (n - args.length) .any,[],D⟩ {tmps:=vs++Array.replicate (fn.ntmps - vs.size) undef,defers:=[]}:=by
  refine⟨ck,⟨λi cs h=>by simp at h,λi _=>M0 i⟩,rfl,?_⟩;simp only[Array.toList_append,Array.toList_replicate];refine vH Ms ?_;rw[hn,show args.length=vs.size from by simpa using hlen]
  have:=Q_ (E:=E) (aq (n - vs.size) undef)
  simpa using this
 refine wp_mono (yB c x hl _ _ hv E _ hs) ?_;rintro e a' w' ⟨E',aP,rfl,dS,bq,hq⟩;have fin:opt ((vk aP rs).map u_) (mw R' aP)->a'.defers=[]/\∃v,(results fn a'.tmps).run P E'.w = .ok v E'.w /\
  ∃v' x n5 σ',Ending.returned v = .returned x/\n5.w=E'.w/\(∀i,n5.aE i=aj)/\n5.ok σ' /\ R n5 v' x/\Fr E n5 /\ R' v' σ' := λhq=>by
  refine⟨dS.defers,?_⟩;unfold opt at hq;split at hq
  case h_2=>exact hq.elim
  rename_i v hv;simp only[dn] at hv;obtain⟨DR,Dh,rfl⟩:=hv;obtain⟨us,k1,k2⟩:=YF (P:=P) dS hr Dh;obtain⟨qj,σ',w,qY,hw,qS⟩:=hq;have gp:∃u,(results fn a'.tmps).run P E'.w = .ok u E'.w/\R E' (u_ DR) u:=by
   have jo:(results fn a'.tmps).run P E'.w = .ok (if h:us.toArray.size=1 then us.toArray[0] else .tuple us.toArray) E'.w:=by
    unfold results;rw[<-Array.toArray_toList (xs:=fn.results),List.mapM_toArray];simp only[Sem.run_bind,Sem.run_map]
    erw [k1]
    simp only[Result.andThen_ok,Sem.run_pure]
   refine⟨_,jo,?_⟩;have iu:=gj k2
   match DR,us,k2 with
   | [y], [u], k2 =>
    simp only[RL] at k2;simp[u_,k2.1]
   | [],[],k2=>simp[u_,R];exact k2
   | y :: z :: ys, u :: u' :: ni, k2 =>
    simp only[u_];rw[dif_neg (by simp)];simp only[R];exact⟨_,rfl,by simpa using k2⟩
  obtain⟨u,hu,Uo⟩:=gp
  let n5 : Env:={E' with aE:=λ_=>aj,bf:=λb=>match E'.bf b with | .jq _=>.nC | r=>r}
  have d_:∀b,n5.bf b=match E'.bf b with | .jq _=>.nC | r=>r:=λ_=>rfl
  have alQ:∀b o,(n5.bf b).iX o↔(E'.bf b).iX o:=λb o=>by rw[d_];cases E'.bf b<;>simp[fz.iX]
  have MZ:∀b t c,E'.bf b = .hZ t c->n5.bf b = .hZ t c:=λb t c h=>by rw[d_,h]
  have hle:E'.nl.le n5.nl:=⟨λb o _ hc hv=>⟨(alQ b o).2 hc,hv⟩,λ_ _ h=>by simp at h,λt n hn=>⟨n,hn,bY _,λ_ b c hb=>⟨MZ b t c hb,λcs _ hc=>⟨cs,hc,rfl⟩⟩⟩⟩;have zp : Fr E' n5 := by
   refine⟨rfl,rfl,rfl,bY _,λ_=>rfl,hle.cell,hle.tok,λb _ hr=>⟨rfl,?_⟩,λb _ h=>?_,λb t c _ h=>?_,λb i _ h=>?_,λ_ c _ h=>⟨c,h,rfl⟩⟩
   .rw[d_];rcases hr with hr | hr<;>rw[hr]
   .rw[d_] at h;cases hq:E'.bf b<;>rw[hq] at h<;>simp at h;exact .inl rfl
   .rw[d_] at h;cases hq:E'.bf b<;>rw[hq] at h<;>simp at h;exact⟨_,by rw[h.1]⟩
   .rw[d_] at h;cases hq:E'.bf b<;>rw[hq] at h<;>simp at h
  refine⟨u,hu,w,u,n5,σ',rfl,rfl,λ_=>rfl,⟨λb cs b7=>?_,λt m ht=>dS.ok.aR t m (qY.2.1 t m ht),λb hb=>?_,dS.ok.nt,λb cs hc=>eU.mono _ hle (dS.ok.b8 b cs (qY.2.2 b cs hc))⟩,?_,bq.trans zp,qS⟩
  .obtain⟨U,h2⟩:=dS.ok.box b cs (qY.1 b cs b7);exact⟨by rw[d_,U],h2.mono hle rfl⟩
  .rw[d_,dS.ok.fresh b hb]
  .rcases hw with rfl | rfl
   .exact R.erase _ (Uo.qx _ hle qj)
   .exact Uo.qx _ hle qj
 cases e with
 | normal=>exact fin hq
 | ret=>exact fin hq
 | _=>exact hq.elim
end
structure aS(P:Program)(f:FuncId)(x:AC)(rs:List RV)(n:Nat):Prop where
 is:∃fn h,P.funcs[f]?=aa fn/\(fn.name == "runtime.NumGoroutine")=ar/\fn.body.bind (gu P h)=aa x/\BQ P fn.results.toList=aa rs/\fn.ntmps=n
def aU(n:Nat)(args:List V):List V:=args++aq (n - args.length) .any
variable{f:FuncId}
def aS.aV{x:AC}{rs:List RV}{n:Nat}(h:aS P f x rs n){args:List V}{D:ah}{R' : V->ah->Prop}(hv:vc P x (G3 rs R') ⟨aU n args,[],D⟩):ch P f args D R' := by
 obtain⟨fn,hi,U,h2,h3,h4,h5⟩:=h.is;simp only[iV] at h3;obtain⟨c,hb,hl⟩:=h3;exact arX U h2 hb hl h4 h5 hv
end Go.Am
