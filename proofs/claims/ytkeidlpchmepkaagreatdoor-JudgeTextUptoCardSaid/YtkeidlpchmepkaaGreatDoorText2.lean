/-
  Part 2 of the proof of JudgeTextUptoCardSaid: a logic over the model, the forms of the functions that the law reaches, and what they compute.
-/
import Derived.Lib.Bytealg
import Derived.Scope
import Derived.Test.YtkeidlpchmepkaaGreatDoorText1
set_option linter.unusedVariables false
set_option linter.unusedSimpArgs false
set_option linter.defProp false
set_option linter.unusedSectionVars false
namespace Go.Am
theorem Er {P:Program} {SN:List cy} {p:Nat→DI→Bool} {S:Nat→Bool}:∀{l:List (AO × List Nat)} {b:List Nat} {tr:List TR} {t:List V} {s:cy} {i:Nat},uY P SN l tr t s→b.length=l.length →
    (∀(j:Nat) x,l[j]?=some x→x.1.op.aT=true→S (i+j)=p (i+j) (dY x (b.getD j 0)))→bS S i tr=(((List.zipWith dY l b).zipIdx i).filter fun (x,j)=>x.aT&&p j x).length
  | [],b,[],_,_,_,_,_,_=>by simp[bS]
  | [],_,_::_,_,_,_,h,_,_=>h.elim
  | (_,_)::_,_,[],_,_,_,h,_,_=>h.elim
  | (o,ms)::l,[],_::_,_,_,_,_,hb,_=>by simp at hb
  | (o, ms) :: l, m :: b, r :: tr, t, s, i, h, hb, hp => by
    have ih:=Er (p:=p) (S:=S) (i:=i+1) h.2 (by simpa using hb) fun j x hx he=>by
      have:=hp (j+1) x (by simpa using hx) he
      rw[show i+(j+1)=i+1+j from by omega] at this;simpa using this
    have he:r.aT=o.op.aT:=h.1.2.1;have h0:o.op.aT=true→S i=p i (dY (o,ms) m):=fun he=>by simpa using hp 0 (o,ms) (by simp) he
    simp only[bS,List.zipWith_cons_cons,List.zipIdx_cons,Nv];rw[ih];have hd:(dY (o,ms) m).aT=o.op.aT:=rfl;cases hq:o.op.aT
    · simp[he,hq,hd]
    · rw[h0 hq];simp only[he,hd,hq,s4,mS];cases p i (dY (o,ms) m)
      · simp
      · simp;omega
section
variable {P:Program} {ops:Array Oper} {l:List (AO × List Nat)} {b:List Nat} {SN:List cy} {tr:List TR} {t0:List V} {s0:cy}
structure wy (ops:Array Oper) (tr:List TR) (t0:List V) (s0:cy) (E0:Env) (X:Array Bool→Env→Act→Prop) (listed:Array Bool) (a:Act) (w:World):Prop where
  size:listed.size=ops.size
  closed:∀(i:Nat) o,ops[i]?=some o→listed.getD i false=true→∀e∈o.after,Region.binds .any e=true→listed.getD e.on false=true
  rel:∃E,E.w=w∧bc E (bB (runT (bQ (fun j=>listed.getD j false) 0 tr) t0) (cP (bQ (fun j=>listed.getD j false) 0 tr) s0)) a∧Fr E0 E∧X listed E a
theorem Il (F:uN ops l b) {S:Nat→Bool} (hc:∀(i:Nat) o,ops[i]?=some o→S i=true→∀e∈o.after,Region.binds .any e=true→S e.on=true) :
    ∀(n i:Nat),i<n→i<ops.size→S i=true→∀j,(b.getD i 0).testBit j=true→S j=true:=by
  intro n;induction n with
  | zero=>intro i h;omega
  | succ n ih =>
    intro i hi aj hS j hj;obtain⟨e,h1,U,h3⟩:=F.mask i ops[i] (gi aj) j hj;have he:=hc i _ (gi aj) hS e h1 U;have hb:=F.back i _ (gi aj) e h1 U
    rcases h3 with rfl | h3
    · exact he
    · exact ih e.on (by omega) (by omega) he j h3
theorem pQ (listed:Array Bool) (i:Nat) (h:i<listed.size):listed.getD i true=listed.getD i false:=by simp[h]
def Spec (P:Program) (l:List (AO × List Nat)) (b:List Nat) (t0:List V) (E0:Env) (X:Array Bool→Env→Act→Prop) (i:Nat) (o:Oper) (ao:AO):Prop :=
  o.guard=none∧ao.guard=none∧∀(E:Env) (a:Act) (t:List V) (s:cy) (v:V) (s' : cy) (listed:Array Bool) (Q:Exit→Act→World→Prop),i<listed.size→listed.getD i false=false→(∀j,(b.getD i 0).testBit j=true→listed.getD j false=true) →
    (∀j,j<b.length→(b.getD j 0).testBit i=true→listed.getD j false=false)→(∀d,(∀(j:Nat) x,l[j]?=some x→x.1.dst=some d→listed.getD j false=false)→t.getD d .any=t0.getD d .any) →
    bc E (bB t s) a→Fr E0 E→X listed E a→ao.op.aM P (bB t s) (Exact t v s') →
    o.wp P a E.w (fun a' w' => ∃E',E'.w=w' ∧ bc E' (bB (jd t ao.dst v) s') a' ∧ Fr E0 E' ∧ X (listed.setIfInBounds i true) E' a') Q
theorem Ix (F:uN ops l b) (kT:b.length=ops.size) (o6:SN=s0::iH tr) (ht:uY P SN l tr t0 s0)
    {E0:Env} {X:Array Bool→Env→Act→Prop} {Q:Exit→Act→World→Prop} {listed:Array Bool} {a:Act} {w:World} (h:wy ops tr t0 s0 E0 X listed a w) {i:Nat} (hi:i∈Region.ready .any ops listed)
    (nj:∀o,ops[i]?=some o→∃x:AO × List Nat,l[i]?=some x∧((pw P ops o=some x.1∧∀listed E E' a u,X listed E a→Fr E E' → X (listed.setIfInBounds i true) E' (a.put o.dst u))∨Spec P l b t0 E0 X i o x.1)) {K:Act→World→Prop}
    (hK:∀a w,wy ops tr t0 s0 E0 X (listed.setIfInBounds i true) a w→K a w):wpOp P ops Q i K a w:=by
  obtain⟨vE,o,ho,b8⟩:=mem_ready.1 hi;have aj:i<ops.size:=(gj.1 ho).1;have kq : i<listed.size:=by rw[h.size];exact aj
  obtain⟨E,rfl,hs,aS,hX⟩:=h.rel
  let S:Nat→Bool:=fun j=>listed.getD j false
  have BT:S i=false:=by show listed.getD i false=false;rw[←pQ _ _ kq];exact vE
  obtain⟨x,hx,J0⟩:=nj o ho;obtain⟨ao,ms⟩:=x;have hlen:=Bh ht;have ajO:i<tr.length:=by rw[←hlen,F.size];exact aj
  obtain⟨r,hr⟩:∃r,tr[i]?=some r:=⟨tr[i],cw ajO⟩;have dH:=D4 (i:=0) (k:=i) ht hx hr;rw[gQ] at dH;obtain⟨hd,he,run,zK,cn,ajI⟩:=dH
  -- who is done,who is not
  have zF:∀j,(b.getD i 0).testBit j=true→S j=true:=fun j hj=>by
    obtain⟨e,h1,U,h3⟩:=F.mask i o ho j hj;have hb:=b8 e h1 U
    rcases h3 with rfl | h3
    · exact hb
    · exact Il F (S:=S) h.closed ops.size e.on (by have:=F.back i o ho e h1 U;omega) (by have:=F.back i o ho e h1 U;omega) hb j h3
  have BZ:∀j,j<ops.size→(b.getD j 0).testBit i=true→S j=false:=fun j hj hb=>by
    cases hq:S j with
    | false=>rfl
    | true =>
      have:=Il F (S:=S) h.closed ops.size j hj hj hq i hb
      rw[this] at BT;simp at BT
  have tP:∀(j:Nat) r',tr[j]?=some r' → ∃y,l[j]?=some y∧r'.dst=y.1.dst∧r'.aT=y.1.op.aT∧j<ops.size:=fun j r' bN => by
    have hj:=(dD.1 bN).1;have xH:j<l.length:=by omega
    have:=D4 (i:=0) (k:=j) ht (cw xH) bN
    exact⟨l[j],cw xH,this.1,this.2.1,by rw[←F.size];exact xH⟩
  -- what it reads is what it read in the text's order
  have zS:∀n,n∈v5 ao→(runT (bQ S 0 tr) t0).getD n .any=(runT (bQ (de i) 0 tr) t0).getD n .any:=fun n hn=>by
    refine wg rfl rfl fun j r' bN hd' => ?_
    rw[gQ];obtain⟨y,hy,xU,_,fY⟩:=tP j r' bN;obtain⟨aI,ir⟩:=F.slot i j (ao,ms) y hx hy n (by rw[←xU];exact hd') hn
    rcases nS j i with eE | eE
    · have hu:de i j=true:=by simp[de,eE]
      rw[hu]
      rcases ir with h1 | h1
      · exact zF j h1
      · exfalso
        obtain⟨e,k1,k2,k3⟩:=F.mask j _ (gi fY) i h1
        have:=F.back j _ (gi fY) e k1 k2
        have key:∀n q,q<n→q<ops.size→∀z,(b.getD q 0).testBit z=true→z<q:=by
          intro n;induction n with
          | zero=>intro q h;omega
          | succ n ih =>
            intro q hq Ck z hz;obtain⟨e',m1,m2,m3⟩:=F.mask q _ (gi Ck) z hz;have bz := F.back q _ (gi Ck) e' m1 m2
            rcases m3 with rfl | m3
            · exact bz
            · have:=ih e'.on (by omega) (by omega) z m3;omega
        have:=key (j+1) j (by omega) fY i h1
        omega
    · have hu:de i j=false:=by simp[de];omega
      rw[hu]
      rcases ir with h1 | h1
      · exfalso
        have key:∀n q,q<n→q<ops.size→∀z,(b.getD q 0).testBit z=true→z<q:=by
          intro n;induction n with
          | zero=>intro q h;omega
          | succ n ih =>
            intro q hq Ck z hz;obtain⟨e',m1,m2,m3⟩:=F.mask q _ (gi Ck) z hz;have bz := F.back q _ (gi Ck) e' m1 m2
            rcases m3 with rfl | m3
            · exact bz
            · have:=ih e'.on (by omega) (by omega) z m3;omega
        have:=key (i+1) i (by omega) aj j h1
        omega
      · exact BZ j fY h1
  -- memory
  have sr:∀T:Nat→Bool,(∀(j k:Nat),j<ops.size→k<ops.size→(∀y z,l[j]?=some y→l[k]?=some z→y.1.op.aT=true→z.1.op.aT=true→j<k→T k=true→T j=true)) →
      cP (bQ T 0 tr) s0=SN.getD (bS T 0 tr) AD:=fun T hT=>by
    rw[o6];refine Xs fun j k r1 r2 h1 U e1 e2 tT hk=>?_
    obtain⟨y,hy,_,ye,fY⟩:=tP j r1 h1;obtain⟨z,hz,_,ze,e9⟩:=tP k r2 U;rw[gQ] at hk ⊢;exact hT j k fY e9 y z hy hz (by rw[←ye];exact e1) (by rw[←ze];exact e2) tT hk
  have E6:∀(j k:Nat),j<ops.size→k<ops.size→(∀y z,l[j]?=some y→l[k]?=some z→y.1.op.aT=true→z.1.op.aT=true→j<k→S k=true→S j=true):=fun j k _ hk y z hy hz e1 e2 tT zE =>
    Il F (S:=S) h.closed ops.size k hk hk zE j (F.aT j k y z hy hz tT e1 e2)
  have Kk:∀q (j k:Nat),j<ops.size→k<ops.size→(∀y z,l[j]?=some y→l[k]?=some z→y.1.op.aT=true→z.1.op.aT=true→j<k→de q k=true→de q j=true):=fun q j k _ _ _ _ _ _ _ _ tT hk=>by
    simp[de] at hk ⊢;omega
  have Ux:ao.op.aT=true→cP (bQ S 0 tr) s0=cP (bQ (de i) 0 tr) s0:=fun pT=>by
    rw[sr S E6,sr (de i) (Kk i)];congr 1;refine Es fun j r' bN vB=>?_
    rw[gQ];obtain⟨y,hy,_,ye,fY⟩:=tP j r' bN
    rcases Bb j i with eE | eE | eE
    · have:de i j=true:=by simp[de,eE]
      rw[this];exact zF j (F.aT j i y (ao,ms) hy hx eE (by rw[←ye];exact vB) pT)
    · subst eE
      have:de j j=false:=by simp[de]
      rw[this];exact BT
    · have:de i j=false:=by simp[de];omega
      rw[this];exact BZ j fY (F.aT i j (ao,ms) y hx hy eE pT (by rw[←ye];exact vB))
  -- the next state
  have Jp:(fun j=>(listed.setIfInBounds i true).getD j false)=add S i:=by
    funext j;simp only[add,S]
    by_cases eE:j=i
    · subst eE;simp[kq]
    · rw[nO,yQ (Ne.symm eE),←nO];simp[eE]
  have hT:runT (bQ (add S i) 0 tr) t0=jd (runT (bQ S 0 tr) t0) r.dst r.val :=
    Xu (by omega) (by simpa using hr) BT fun j r' bN aI n hn Uc => by
      obtain⟨y,hy,xU,_,_⟩:=tP j r' bN;exact F.dst j i y (ao,ms) hy hx (by omega) n (by rw[←hd];exact hn) (by rw[←xU];exact Uc)
  have aiT:∀(j k:Nat),j<ops.size→k<ops.size→(∀y z,l[j]?=some y→l[k]?=some z→y.1.op.aT=true→z.1.op.aT=true→j<k→add S i k=true→add S i j=true):=fun j k hj hk y z hy hz e1 e2 tT zE=>by
    simp only[add,kK,bH] at zE ⊢
    rcases zE with zE | rfl
    · exact .inl (E6 j k hj hk y z hy hz e1 e2 tT zE)
    · exact .inl (zF j (F.aT j k y z hy hz tT e1 e2))
  have Jm:cP (bQ (add S i) 0 tr) s0=if ao.op.aT then r.wm else cP (bQ S 0 tr) s0:=by
    rw[sr (add S i) aiT];cases pT:ao.op.aT
    · simp only[cI,bP];rw[sr S E6];congr 1;refine Es fun j r' bN vB=>?_
      rw[gQ];obtain⟨y,hy,_,ye,_⟩:=tP j r' bN;have eE:j≠i:=by
        rintro rfl;rw[hx] at hy;simp at hy;subst hy;rw[ye,pT] at vB;simp at vB
      simp[add,eE]
    · simp only[b7];have h1:bS (add S i) 0 tr=bS (de (i+1)) 0 tr:=Es fun j r' bN vB=>by
        rw[gQ];obtain⟨y,hy,_,ye,fY⟩:=tP j r' bN
        rcases Bb j i with eE | eE | eE
        · have:de (i+1) j=true:=by simp[de];omega
          rw[this]
          have:=zF j (F.aT j i y (ao,ms) hy hx eE (by rw[←ye];exact vB) pT)
          simp[add,this]
        · subst eE;simp[add,de]
        · have:de (i+1) j=false:=by simp[de];omega
          rw[this]
          have:=BZ j fY (F.aT i j (ao,ms) y hx hy eE pT (by rw[←ye];exact vB))
          simp[add,this];omega
      rw[h1,←sr (de (i+1)) (Kk (i+1))];have at0 : de (i+1)=add (de i) i:=by
        funext j;simp only[de,add];rw[Dz];simp;omega
      -- the run up to and with i
      have key:∀(tr:List TR) (q:Nat) (s:cy),q≤i→tr[i - q]?=some r→cP (bQ (de (i+1)) q tr) s=r.wm:=by
        intro tr;induction tr with
        | nil=>intro q s _ h;simp at h
        | cons r' tr ih =>
          intro q s hq h;have hu:de (i+1) q=true:=by simp[de];omega
          simp only[bQ,hu,b7,cP]
          by_cases Un:q=i
          · subst Un;simp at h;subst h;rw[Mh (by omega)];simp[cP,he,pT]
          · exact ih (q+1) _ (by omega) (by rw[show i - q=(i - (q+1))+1 from by omega] at h;simpa using h)
      exact key tr 0 s0 (by omega) (by simpa using hr)
  -- the closure
  have ai4 : ∀(j:Nat) o',ops[j]?=some o' → (listed.setIfInBounds i true).getD j false=true→∀e∈o'.after,Region.binds .any e=true→(listed.setIfInBounds i true).getD e.on false=true:=fun j o' dZ hj e h1 U=>by
    have ej:(listed.setIfInBounds i true).getD j false=add S i j:=congrFun Jp j;have ee:(listed.setIfInBounds i true).getD e.on false=add S i e.on:=congrFun Jp e.on;rw[ee];rw[ej] at hj;simp only[add,kK,bH] at hj ⊢
    rcases hj with hj | rfl
    · exact .inl (h.closed j o' dZ hj e h1 U)
    · rw[ho] at dZ;simp only[aH] at dZ;subst dZ;exact .inl (b8 e h1 U)
  have VX:∀E' a' t' s',E'.w=E'.w→t' = runT (bQ (add S i) 0 tr) t0→s' = cP (bQ (add S i) 0 tr) s0→bc E' (bB t' s') a' → Fr E0 E' → X (listed.setIfInBounds i true) E' a' → K a' E'.w:=fun E' a' t' s' _ e1 e2 ct iW iK => by
    refine hK a' E'.w ⟨by simp[h.size],ai4,E',rfl,?_,iW,iK⟩;rw[Jp,←e1,←e2];exact ct
  -- the machine's step
  unfold wpOp;rw[ho];simp only;have ajt:∀g n y,ao.op = .load g n y→run=true→pr (cP (bQ S 0 tr) s0) g n (ev (bB (runT (bQ (de i) 0 tr) t0) (cP (bQ (de i) 0 tr) s0)) y)=some r.val:=fun g n y hy iu=>by
      obtain⟨jw,tU⟩:=cn iu;rw[sr S E6];have ajo:ao.op.Ac=true:=by rw[hy];rfl
      have hm:=F.load i (ao,ms) hx ajo (bS S 0 tr);have ajs : mJ (List.zipWith dY l b) (dY (ao,ms) (b.getD i 0))≤bS S 0 tr:=by
        have e:mJ (List.zipWith dY l b) (dY (ao,ms) (b.getD i 0))=bS (fun j=>(b.getD i 0).testBit j) 0 tr:=by
          unfold mJ zh;exact(Er (p:=fun j _=>(b.getD i 0).testBit j) (S:=fun j=>(b.getD i 0).testBit j) ht (by rw[kT,F.size]) (fun j y _ _=>rfl)).symm
        rw[e];exact Io fun j r' _ _ hb=>by rw[gQ] at hb ⊢;exact zF j hb
      have ajk : bS S 0 tr≤vu (List.zipWith dY l b) i:=by
        have e:vu (List.zipWith dY l b) i=bS (fun j=>!((b.getD j 0).testBit i)) 0 tr:=by
          unfold vu zh;exact(Er (p:=fun _ y=>!(y.mask.testBit i)) (S:=fun j=>!((b.getD j 0).testBit i)) ht (by rw[kT,F.size]) (fun j y _ _=>by simp[dY])).symm
        rw[e];refine Io fun j r' bN _ Jl=>?_
        rw[gQ] at Jl ⊢;obtain⟨y,_,_,_,fY⟩:=tP j r' bN;cases hb:(b.getD j 0).testBit i with
        | false=>rfl
        | true=>rw[BZ j fY hb] at Jl;simp at Jl
      rcases hm ajs ajk with hm | hm
      · exact tU g n y hy _ hm
      · have e:ym (List.zipWith dY l b) i=bS (de i) 0 tr:=by
          unfold ym zh;exact(Er (p:=fun j _=>decide (j<i)) (S:=de i) ht (by rw[kT,F.size]) (fun j y _ _=>rfl)).symm
        rw[hm,e,←sr (de i) (Kk i)];rw[hy] at jw;simp only[ar.aM] at jw;rw[Va] at jw;cases hq:pr (cP (bQ (de i) 0 tr) s0) g n (ev (bB (runT (bQ (de i) 0 tr) t0) (cP (bQ (de i) 0 tr) s0)) y) with
        | none=>rw[hq] at jw;exact jw.elim
        | some u=>rw[hq] at jw;rw[jw.1]
  have lA:∀y∈ao.op.xs,ev (bB (runT (bQ S 0 tr) t0) (cP (bQ S 0 tr) s0)) y=ev (bB (runT (bQ (de i) 0 tr) t0) (cP (bQ (de i) 0 tr) s0)) y:=fun y hy =>
      aex fun n hn=>zS n (by simp only[v5,il,List.mem_flatMap];exact .inl ⟨y,hy,hn⟩)
  have Ut : run=true→ao.op.aM P (bB (runT (bQ S 0 tr) t0) (cP (bQ S 0 tr) s0)) (Exact (runT (bQ S 0 tr) t0) r.val (if ao.op.aT then (if ao.op.aT then r.wm else cP (bQ (de i) 0 tr) s0) else cP (bQ S 0 tr) s0)):=fun iu =>
    aqQ (P:=P) (op:=ao.op) (t:=runT (bQ (de i) 0 tr) t0) (t2:=runT (bQ S 0 tr) t0) (s:=cP (bQ (de i) 0 tr) s0) (s2:=cP (bQ S 0 tr) s0) lA Ux (fun g n y hy=>ajt g n y hy iu) (cn iu).1
  rcases J0 with ⟨J0,hXg⟩ | ajJ
  case' inr =>
    obtain⟨Fk,tR,qd⟩:=ajJ;rw[ak (by simp[Region.wanted,Fk])];left;have iu:run=true:=by rw[tR] at zK;exact zK
    have ku:∀d,(∀(j:Nat) x,l[j]?=some x→x.1.dst=some d→listed.getD j false=false)→(runT (bQ S 0 tr) t0).getD d .any=t0.getD d .any:=fun d hd=>by
      have h1:=wg (S:=S) (S' := fun _=>false) (x:=d) (tr:=tr) (i:=0) (t:=t0) (t' := t0) rfl rfl fun j r' bN hrd=>by
        obtain⟨y,hy,xU,_,_⟩:=tP j r' bN;rw[gQ];exact hd j y hy (by rw[←xU];exact hrd)
      rw[h1]
      have:∀(tr:List TR) (q:Nat),bQ (fun _=>false) q tr=[]:=by
        intro tr;induction tr with
        | nil=>intro q;rfl
        | cons r tr ih=>intro q;simp only[bQ,cI,bP];exact ih _
      rw[this];rfl
    refine Oper.wp_mono ?_ (qd E a _ _ _ _ listed Q kq BT zF (fun j hj=>BZ j (by omega)) ku hs aS hX (Ut iu));rintro a' w' ⟨E',rfl,ct,iW,iK⟩;refine VX E' a' _ _ rfl ?_ ?_ ct iW iK
    · rw[hT,hd]
    · rw[Jm];cases pT:ao.op.aT<;>simp
  have next:∀E' u t' s',t' = runT (bQ (add S i) 0 tr) t0→s' = cP (bQ (add S i) 0 tr) s0→bc E' (bB t' s') (a.put o.dst u)→Fr E E' → K (a.put o.dst u) E'.w:=fun E' u t' s' e1 e2 ct iW => VX E' _ t' s' rfl e1 e2 ct (aS.trans iW) (hXg _ _ _ _ _ hX iW)
  have cW:=J0;unfold pw at cW;split at cW
  · simp at cW
  rename_i op qb;have ajQ:Region.wanted o (yielded ops a.tmps)=run∧op=ao.op∧o.dst=ao.dst:=by
    cases hg:o.guard with
    | none =>
      rw[hg] at cW;simp only[aH] at cW;subst cW;simp only at zK;exact⟨by simp[Region.wanted,hg,zK],rfl,rfl⟩
    | some p =>
      obtain⟨j,want⟩:=p;rw[hg] at cW;simp only at cW;split at cW
      case h_2=>simp at cW
      rename_i g kn;simp only[aH] at cW;subst cW;simp only at zK;refine⟨?_,rfl,rfl⟩;have vt:=zS g (by simp[v5])
      rcases zK with ⟨bb,fG,dg⟩ | ⟨fG,dg⟩
      case' inr =>
        rw[fG] at vt;have hR:=D1 hs.slot g undef;have nh : R E (.aX []) (a.tmps.toList.getD g undef):=by
          have:(bB (runT (bQ S 0 tr) t0) (cP (bQ S 0 tr) s0)).t.getD g .any = .aX []:=vt
          rw[←this];exact hR
        have hu:=NV nh;rw[dg];simp only[Region.wanted,hg,yielded,kn,s9];cases hq:a.tmps[g]? with
        | none=>rfl
        | some u =>
          have:u=undef:=by rw[List.getD] at hu;simp[hq] at hu;exact hu
          rw[this];rfl
      rw[fG] at vt;have hR:=D1 hs.slot g undef;have nh : R E (.bool bb) (a.tmps.toList.getD g undef):=by
        have:(bB (runT (bQ S 0 tr) t0) (cP (bQ S 0 tr) s0)).t.getD g .any = .bool bb:=vt
        rw[←this];exact hR
      simp only[R] at nh;have lu:a.tmps[g]?=some (.bool bb):=by
        rw[List.getD] at nh;cases hq:a.tmps.toList[g]? with
        | none=>rw[hq] at nh;simp[undef] at nh
        | some u=>rw[hq] at nh;simp at nh;subst nh;simpa using hq
      simp only[Region.wanted,hg,yielded,kn,s9,lu];rw[dg];cases bb<;>cases want<;>rfl
  obtain⟨tZ,rfl,kj⟩:=ajQ;rw[tZ];cases iu:run with
  | true =>
    rw[ak rfl];left;refine Oper.wp_mono ?_ (CM (Q:=Q) qb hs (Ut iu));rintro a' w' ⟨E',v,u,aq,rfl,iW,ct,hv,rfl,FF,rfl⟩;subst FF
    have:=bc.put ct hv o.dst
    rw[CZ] at this;refine next E' u _ _ ?_ ?_ this iW
    · rw[hT,hd,kj]
    · rw[Jm];cases pT:ao.op.aT<;>simp
  | false =>
    rw[ah (by simp)];obtain⟨hv,hsk⟩:=ajI iu
    have:=bc.put hs (v:=.aX []) (x:=undef) HV o.dst
    rw[CZ] at this;refine next E undef _ _ ?_ ?_ this (Fr.refl E)
    · rw[hT,hd,kj,hv]
    · rw[Jm];cases pT:ao.op.aT
      · rw[ah (by simp)]
      · simp only[b7];rw[hsk (by rw[he,pT])];exact Ux pT
theorem count_set:∀(l:List Bool) (i:Nat),l[i]?=some false→(l.set i true).count false+1=l.count false
  | [],i,h=>by simp at h
  | x::l,0,h=>by simp at h;subst h;simp
  | x :: l, i + 1, h => by
    simp at h
    have:=count_set l i h
    cases x<;>simp<;>omega
theorem Se {ops:Array Oper} {l:List (AO × List Nat)} {b:List Nat} (F:uN ops l b) (kT:b.length=ops.size) (hf:P.follows .mixedOrders=true) {id:Nat} {K:St→Prop} {st:St} (h:bL P l [(st.loc,st.out)] [] K st) {E:Env} {a:Act} (hs:bc E st a) {X:Array Bool→Env→Act→Prop}
    (Jn:∀E',X (Array.replicate ops.size false) E' a)
    (nj:∀(i:Nat) o,ops[i]?=some o→∃x:AO × List Nat,l[i]?=some x∧((pw P ops o=some x.1∧∀listed E E' a u,X listed E a→Fr E E' → X (listed.setIfInBounds i true) E' (a.put o.dst u))∨Spec P l b st.t E X i o x.1)) :
    (Code.region id ops true).wp P (fun e a' w' => ∃E' aq,E'.w=w' ∧ bc E' aq a' ∧ Fr E E' ∧ e = .normal∧K aq) a E.w:=by
  refine wp_region_any hf ?_;obtain⟨aS,_,lx⟩:=AB hs ((Ext.refl E.w).drew);obtain⟨tr,ht,_,hK⟩:=Dk (t:=st.t) (s:=(st.loc,st.out)) h;have o6:[(st.loc,st.out)]++iH tr=(st.loc,st.out)::iH tr:=rfl;rw[o6] at ht;have hlen:=Bh ht;have key:∀(fuel:Nat) (listed:Array Bool) (a:Act) (w:World),wy ops tr st.t (st.loc,st.out) E X listed a w→listed.toList.count false≤fuel →
      wpAny P .any ops (fun e a' w' => ∃E' aq,E'.w=w' ∧ bc E' aq a' ∧ Fr E E' ∧ e = .normal∧K aq) fuel listed a w:=by
    have done:∀(listed:Array Bool) (a:Act) (w:World),wy ops tr st.t (st.loc,st.out) E X listed a w→Region.ready .any ops listed=[] →
        ∃E' aq,E'.w=w∧bc E' aq a∧Fr E E' ∧ Exit.normal = .normal∧K aq := fun listed a w h hr=>by
      have b8:∀n j,j<n→j<ops.size→listed.getD j false=true:=by
        intro n;induction n with
        | zero=>intro j h;omega
        | succ n ih =>
          intro j hj fY;cases hq:listed.getD j false with
          | true=>rfl
          | false =>
            have:j∈Region.ready .any ops listed:=mem_ready.2 ⟨by rw[pQ _ _ (by rw[h.size];exact fY)];exact hq,ops[j],gi fY,fun e he hb=>by
              have:=F.back j _ (gi fY) e he hb
              exact ih e.on (by omega) (by omega)⟩
            rw[hr] at this;simp at this
      obtain⟨E',h1,U,h3,_⟩:=h.rel;rw[Mf (fun j hj=>by rw[gQ];exact b8 (j+1) j (by omega) (by rw[←F.size,hlen];exact hj))] at U;exact⟨E',_,h1,U,h3,rfl,hK⟩
    intro fuel;induction fuel with
    | zero =>
      intro listed a w h hc;have hr:Region.ready .any ops listed=[]:=by
        cases hq:Region.ready .any ops listed with
        | nil=>rfl
        | cons j js =>
          obtain⟨h1,o,ho,_⟩:=mem_ready.1 (show j∈Region.ready .any ops listed by rw[hq];simp);have aj:j<listed.size:=by rw[h.size];exact(gj.1 ho).1
          have:false∈listed.toList:=by
            have e:listed[j]?=some false:=by
              rw[gi aj];simpa [aj] using h1
            exact pI (by simpa using e)
          have:=Nq.2 this
          omega
      exact⟨hr,done listed a w h hr⟩
    | succ fuel ih =>
      intro listed a w h hc;refine⟨fun hr=>done listed a w h hr,fun i hi=>?_⟩;refine Ix F kT rfl ht h hi (nj i) fun a w h' => ih _ a w h' ?_
      obtain⟨h1,o,ho,_⟩:=mem_ready.1 hi;have aj:i<listed.size:=by rw[h.size];exact(gj.1 ho).1
      have e:listed.toList[i]?=some false:=by
        have:listed[i]?=some false:=by
          rw[gi aj];simpa [aj] using h1
        simpa using this
      have:=count_set listed.toList i e
      simp only[Hq];omega
  have qO:∀j,(Array.replicate ops.size false).getD j false=false:=fun j=>by
    by_cases hj:j<ops.size<;>simp[hj]
  have l9:∀(tr:List TR) (q:Nat),bQ (fun j=>(Array.replicate ops.size false).getD j false) q tr=[]:=by
    intro tr;induction tr with
    | nil=>intro q;rfl
    | cons r tr ih=>intro q;rw[bQ,ah (by rw[qO];simp)];exact ih _
  refine key ops.size _ a _ ⟨by simp,fun i o _ hi=>by rw[qO] at hi;simp at hi,{E with w:=E.w.drew},rfl,?_,aS,Jn _⟩ (by simp);rw[l9];exact lx
theorem adt {ops:Array Oper} {l:List (AO × List Nat)} {id:Nat} (hl:CK P ops=some l) {K:St→Prop} {st:St} (h:bL P l [(st.loc,st.out)] [] K st) :
    gu P (.region id ops true) (fun e aq => e = .normal∧K aq) st:=by
  obtain⟨b,F,kT,hf,nj⟩:=VD hl;intro E a hs;exact Se (X:=fun _ _ _=>True) F kT hf h hs (fun _=>trivial) fun i o ho=>by
    obtain⟨x,h1,U⟩:=nj i o ho;exact⟨x,h1,.inl ⟨U,fun _ _ _ _ _ _ _=>trivial⟩⟩
end
section
variable {P:Program} {E:Env} {st:St} {a:Act} {o:Oper} {K:V→St→Prop} {Q:Exit→Act→World→Prop}
theorem Y2 (hs:bc E st a) {zs:List V} {c:Array Value} {e:TypeId} (hr:(execOp a.eval o).run P E.w = .ok (.value (.pointer (some ⟨E.w.heap.size,0,none⟩))) (E.w.alloc (.cells c e)))
    (hz:RL E zs c.toList) (n9:bm zs=true) (hk:∀b,st.out.box b=none→K (.ptr (.out b) 0) ⟨st.t,st.loc,st.out.set b zs⟩):o.wp P a E.w (cZ E a o.dst K) Q:=by
  unfold Oper.wp;rw[hr]
  let E' : Env:={w:=E.w.alloc (.cells c e),role:=fun b=>if b=E.w.heap.size then .nB else E.role b,loc:=E.loc,aC:=E.aC}
  have hx:Ext E.w E'.w:=(Ext.refl _).alloc _ _;have aS:Fr E E' := vh hs.ok.fresh hx (fun b hb=>by simp only[E'];rw[ah (by omega)]) (fun _ _ h=>h);have hle:E.le E' := aS.le fun i b h=>h
  have g_:st.out.box E.w.heap.size=none:=by
    cases hq:st.out.box E.w.heap.size with
    | none=>rfl
    | some cs =>
      obtain⟨_,c',e',h3,_⟩:=hs.ok.box _ cs hq
      have:=jC (w:=E.w) h3
      omega
  refine⟨E',_,_,⟨st.t,st.loc,st.out.set E.w.heap.size zs⟩,rfl,aS,⟨⟨?_,?_,?_,hs.ok.nt,fun b cs hc=>c7.mono _ aS.nl (hs.ok.bR b cs hc)⟩,?_,hs.defers,RL.mono _ hle hs.slot⟩,?_,rfl,hk _ g_⟩
  · intro b cs hcs;simp only[ae.set] at hcs;split at hcs
    · rename_i hb;subst hb;simp only[aH] at hcs;subst hcs;have Cq := RL.nz (E:=E) (E' := E'.nl) _ aS.nl n9 hz;have hl:=eM Cq;refine⟨by simp[E'],c,e,heap_alloc_new _ _,by simp at hl;omega,fun j x hx=>?_⟩;obtain⟨v,hv,bN⟩:=oI Cq j x hx;exact⟨v,by simpa using hv,bN⟩
    · rename_i hb;obtain⟨h1,U⟩:=hs.ok.box b cs hcs;have aj:b<E.w.heap.size:=by obtain⟨c,e,h3,_⟩:=U;exact jC (w:=E.w) h3
      exact⟨by simp only[E'];rw[ah hb];exact h1,U.mono aS.nl (hx.block b aj)⟩
  · exact hs.ok.aC
  · intro b hb;simp only[E',World.size_alloc] at hb ⊢;rw[ah (by omega)];exact hs.ok.fresh b (by omega)
  · exact nC hs.cg hle (fun b i h hb=>⟨by simp only[E'];rw[ah (by omega)];exact h,hx.block b hb⟩) hs.cg.none
  · simp only[R]
theorem as8 (hs:bc E st a) {t:TypeId} {zs:List V} (ho:o.op = .alloc t) (hz:iO P t=some zs) (hk:ar.aM P st K (.mX zs)):o.wp P a E.w (cZ E a o.dst K) Q:=by
  obtain⟨i,z,h1,U,h3,_⟩:=qw hz;refine Y2 hs (c:=z.cells) (e:=t) ?_ (oS h3) hk.1 hk.2;simp[execOp,ho,Instr.alloc,zeroValue,typeInfo,h1,U,newVar,newRow]
theorem atb (hs:bc E st a) {t:TypeId} {x:Operand} {n:Nat} {y:X} (ho:o.op = .box t x) (hx:R E (ev st y) (a.eval x)) (hk:ar.aM P st K (.ff n y)):o.wp P a E.w (cZ E a o.dst K) Q:=by
  refine Y2 hs (c:=(a.eval x).cells) (e:=t) ?_ (uW hx hk.1).1 hk.2.1 hk.2.2;simp[execOp,ho,Instr.box,newVar,newRow]
theorem M3 (hs:bc E st a) {zs:List V} {c:Array Value} {e:TypeId} {w1:World} (FG:Ext E.w w1) (ajP:w1.heap.size=E.w.heap.size) {x:Value} {v:Nat→V}
    (hr:(execOp a.eval o).run P E.w = .ok (.value x) (w1.alloc (.cells c e)))
    (hz:RL E.nl zs c.toList) (hv:R E (v E.w.heap.size) x) (n9:(v E.w.heap.size).cc=true) (hk:∀b,st.out.box b=none→K (v b) ⟨st.t,st.loc,st.out.set b zs⟩):o.wp P a E.w (cZ E a o.dst K) Q:=by
  unfold Oper.wp;rw[hr]
  let E' : Env:={w:=w1.alloc (.cells c e),role:=fun b=>if b=E.w.heap.size then .nB else E.role b,loc:=E.loc,aC:=E.aC}
  have hx:Ext E.w E'.w:=FG.alloc _ _;have aS:Fr E E' := vh hs.ok.fresh hx (fun b hb=>by simp only[E'];rw[ah (by omega)]) (fun _ _ h=>h);have hle:E.le E' := aS.le fun i b h=>h
  have g_:st.out.box E.w.heap.size=none:=by
    cases hq:st.out.box E.w.heap.size with
    | none=>rfl
    | some cs =>
      obtain⟨_,c',e',h3,_⟩:=hs.ok.box _ cs hq
      have:=jC (w:=E.w) h3
      omega
  refine⟨E',_,_,⟨st.t,st.loc,st.out.set E.w.heap.size zs⟩,rfl,aS,⟨⟨?_,?_,?_,hs.ok.nt,fun b cs hc=>c7.mono _ aS.nl (hs.ok.bR b cs hc)⟩,?_,hs.defers,RL.mono _ hle hs.slot⟩,hv.mono _ hle,rfl,hk _ g_⟩
  · intro b cs hcs;simp only[ae.set] at hcs;split at hcs
    · rename_i hb;subst hb;simp only[aH] at hcs;subst hcs;have Cq : RL E'.nl zs c.toList:=RL.mono _ aS.nl hz;have hl:=eM Cq;refine⟨by simp[E'],c,e,?_,by simp at hl;omega,fun j x hx=>?_⟩
      · show (w1.alloc (.cells c e)).heap[E.w.heap.size]?=_;rw[←ajP];exact heap_alloc_new _ _
      · obtain⟨v,hv,bN⟩:=oI Cq j x hx;exact⟨v,by simpa using hv,bN⟩
    · rename_i hb;obtain⟨h1,U⟩:=hs.ok.box b cs hcs;have aj:b<E.w.heap.size:=by obtain⟨c,e,h3,_⟩:=U;exact jC (w:=E.w) h3
      exact⟨by simp only[E'];rw[ah hb];exact h1,U.mono aS.nl (hx.block b aj)⟩
  · exact hs.ok.aC
  · intro b hb;simp only[E',World.size_alloc] at hb ⊢;rw[ah (by omega)];exact hs.ok.fresh b (by omega)
  · exact nC hs.cg hle (fun b i h hb=>⟨by simp only[E'];rw[ah (by omega)];exact h,hx.block b hb⟩) hs.cg.none
theorem M1 (hs:bc E st a) {t u ty e:TypeId} {i:TypeInfo} {z:Value} (ht:P.underlying t=some (.slice e)) (hi:P.info? e=some i) (hz:i.zero=some z) (gU:z.cells.size=i.size)
    (lq:i.bytes≤4096) {base:Option Addr} {n cap:Nat} {vx:Value} {m:List (List V)}
    (cn:(execOp a.eval o).run P E.w=((Builtin.append_ #[t,u] ty #[.slice base n cap,vx]).run P E.w).andThen fun v w' => .ok (.value v) w')
    {news:List Value} (pg:Src P E.w i.size m.length u vx news) (p9:RL E.nl m.flatten news) (ey:∀v∈news,v.oneCell' = true) (hm:∀y∈m,y.length=i.size)
    (hk:wA st.out i.size base n cap m fun v σ=>K v ⟨st.t,st.loc,σ⟩):o.wp P a E.w (cZ E a o.dst K) Q:=by
  obtain⟨xD,hbig,nk,B9,pX,pY⟩:=hk;have p7:=pg.size;have B2:(n+m.length)*i.bytes≤140737488355328:=by
    have:=NL hbig lq
    simp only[aF] at this;omega
  have Cn:n+m.length≤9223372036854775807:=by simp only[aF] at hbig;omega
  by_cases n8:m=[]
  · have hK0:K (V.raw (Value.slice base n cap)) st:=B9 n8;subst n8
    have:news=[]:=oB (by simpa using p7)
    subst this;refine cq hs (v:=.raw (.slice base n cap)) (x:=.slice base n cap) ?_ (by simp only[R]) hK0;rw[cn,Xy (P:=P) ht hi xD pg];rfl
  rcases nS cap (n+m.length) with aj | mH
  · obtain⟨cs,hcs,pY⟩:=pY aj;have hold:∃fT:List Value,(Builtin.firstCells i.size n (.slice base n cap)).run P E.w.drew = .ok fT.toArray E.w.drew∧RL E.nl (cs.take (n*i.size)) fT∧fT.length=n*i.size∧(cs.take (n*i.size)).length=n*i.size:=by
      rcases hcs with ⟨rfl,rfl⟩ | ⟨b,rfl,mD,hle⟩
      · refine⟨[],?_,by simp[RL],by simp,by simp⟩;cases base<;>simp[Builtin.firstCells,loadCells,loadCellsFrom]
      · obtain⟨cL,c,e',dQ,hlen,mE⟩:=hs.ok.box b cs mD;have dQ:E.w.heap[b]?=some (.cells c e' (0,0)):=dQ;refine⟨c.toList.take (n*i.size),?_,Bf (by simp;omega) fun j x u hx hu=>?_,by simp;omega,by simp;omega⟩
        · have hl:(c.toList.take (n*i.size)).length=n*i.size:=by simp;omega
          have:=run_loadCells_list (P:=P) E.w.drew ⟨b,0,none⟩ (c.toList.take (n*i.size)) (fun j v hv=>by
            rw[kb];have E_ : E.w.drew.heap[b]?=some (.cells c e' (0,0)):=dQ;have hj:j<n*i.size:=by have:=(dD.1 hv).1;omega
            rw[wG hj] at hv;simpa [World.cell?,E_] using hv)
          rw[hl] at this;simp only[Builtin.firstCells];exact this
        · have hj:j<n*i.size:=by have:=(dD.1 hx).1;simp at this;omega
          rw[wG hj] at hx;rw[wG hj] at hu;obtain⟨v,h1,U⟩:=mE j x hx
          have:v=u:=by simp at hu;rw[hu] at h1;simpa using h1.symm
          exact this▸U
    obtain⟨fT,Cf,p_,l6,ho4⟩:=hold;have ni:=grownCap_ge E.w (n+m.length) cap e;have hr:(execOp a.eval o).run P E.w = .ok (.value (.slice (some ⟨E.w.heap.size,0,none⟩) (n+m.length) (grownCap E.w (n+m.length) cap e)))
        (E.w.drew.alloc (.cells (fT++(news++(Builtin.zeroCells z.cells (grownCap E.w (n+m.length) cap e - (n+m.length))).toList)).toArray e)):=by
      rw[cn,L7 (P:=P) ht hi hz Cf pg aj B2 Cn];rfl
    have Kp:(Builtin.zeroCells z.cells (grownCap E.w (n+m.length) cap e - (n+m.length))).toList.length=(grownCap E.w (n+m.length) cap e - (n+m.length))*i.size:=by
      simp only[yR,size_zeroCells,gU]
    generalize grownCap E.w (n+m.length) cap e=nc at hr ni Kp;generalize (Builtin.zeroCells z.cells (nc - (n+m.length))).toList=rest at hr Kp;refine M3 hs (v:=fun b=>.raw (.slice (some ⟨b,0,none⟩) (n+m.length) nc)) (zs:=cs.take (n*i.size)++m.flatten++List.replicate ((nc - (n+m.length))*i.size) .any) ((Ext.refl E.w).drew) rfl hr ?_ (by simp only[R]) rfl (fun b hb=>pY b nc hb ni);simp only[dt];refine rP p_ (rP p9 ?_);rw[←Kp];exact NR rest
  · obtain⟨b,cs,rfl,mD,mF,hK⟩:=pX n8 mH;obtain⟨cL,c,e',dQ,hlen,mE⟩:=hs.ok.box b cs mD;have dQ:E.w.heap[b]?=some (.cells c e' (0,0)):=dQ;have km:=jr hm;have JK : n*i.size+news.length≤c.size:=by rw[p7];omega
    have iu:=L8 (P:=P) (ty:=ty) ht hi dQ pg ey mH JK;have aS:=EP (E:=E) (new:=(c.toList.take (n*i.size)++news++c.toList.drop (n*i.size+news.length)).toArray) dQ (.inr cL) (by simp;omega);have hle:=aS.le fun _ _ h=>h
    have fI:=setRow_heap E.w b c (c.toList.take (n*i.size)++news++c.toList.drop (n*i.size+news.length)).toArray e' _ dQ;have tO:=Em (E' := Env.nl {E with w:=E.w.setRow b (c.toList.take (n*i.size)++news++c.toList.drop (n*i.size+news.length)).toArray}) hlen
      (fun j x hj=>let ⟨u,h1,U⟩:=mE j x hj;⟨u,h1,U.mono _ aS.nl⟩) (RL.mono _ aS.nl p9) (by omega) fI
    generalize (c.toList.take (n*i.size)++news++c.toList.drop (n*i.size+news.length)).toArray=new at iu fI aS hle tO;have iX : ∀b',b' ≠ b→(E.w.setRow b new).heap[b']?=E.w.heap[b']?:=fun b' aI=>setRow_other E.w b b' new aI
    unfold Oper.wp;rw[cn,iu];refine⟨{E with w:=E.w.setRow b new},.raw (.slice (some ⟨b,0,none⟩) (n+m.length) cap),.slice (some ⟨b,0,none⟩) (n+m.length) cap,⟨st.t,st.loc,st.out.set b (setAt cs (n*i.size) m.flatten)⟩,rfl,aS,⟨⟨?_,hs.ok.aC,fun b' bz => hs.ok.fresh b' (by simpa using bz),hs.ok.nt,fun b cs hc=>c7.mono _ aS.nl (hs.ok.bR b cs hc)⟩,
      nC hs.cg hle (fun b' i hr _=>⟨hr,iX b' (by rintro rfl;rw[cL] at hr;simp at hr)⟩) hs.cg.none,hs.defers,RL.mono _ hle hs.slot⟩,by simp only[R],rfl,hK⟩
    intro b' ds jP
    by_cases bU:b' = b
    · subst bU;rw[ae.cX] at jP;simp only[aH] at jP;subst jP;exact⟨cL,tO⟩
    · rw[ae.dc _ _ bU] at jP;obtain⟨k1,k2⟩:=hs.ok.box b' ds jP;exact⟨k1,k2.mono aS.nl (iX b' bU)⟩
theorem al9 {z:Array Value} {n k:Nat} (hz:z.size=k) (hk:0<k):(madeCells z (n*k)).toList=(List.replicate n z.toList).flatten:=by
  apply Nu;intro j;have e:∀(n j:Nat),j<n*k→(List.replicate n z.toList).flatten[j]?=z[j % k]?:=by
    intro n;induction n with
    | zero=>intro j hj;simp at hj
    | succ n ih =>
      intro j hj;rw[wI,iC]
      by_cases h:j<k
      · rw[oC (by simpa [hz] using h),NK h];simp
      · rw[wE (by simp[hz];omega)];have hl:z.toList.length=k:=by simpa using hz
        have fX : j - k<n*k:=by rw[gP,uT] at hj;omega
        rw[hl,ih (j - k) fX,show (j - k) % k=j % k from (Nat.mod_eq_sub_mod (by omega)).symm]
  by_cases hj:j<n*k
  · rw[e n j hj];have hm:j % k<z.size:=by rw[hz];exact Nat.mod_lt _ hk
    rw[getElem?_pos z _ hm];have hg:z[j % k]! = z[j % k]:=getElem!_pos z (j % k) hm;simp[madeCells,hj,hz,hg]
  · rw[wF (by simp[madeCells];omega),wF (by simp[hz];omega)]
def Mc:Operand→Operand→Bool
  | .tmp a,.tmp b=>decide (a=b)
  | .const (.int k a),.const (.int k' b)=>decide (k=k')&&decide (a=b)
  | _,_=>false
theorem aqF {x y:Operand} (h:Mc x y=true):x=y:=by
  unfold Mc at h;split at h
  · simp at h;rw[h]
  · simp at h;rw[h.1,h.2]
  · simp at h
theorem wR {b:Option X} {d:Nat} {vs:List V} {K:Nat→List V→Prop} (h:jM b.isSome d (cr st b.toList++vs) K):∃m,K m vs∧match (generalizing:=false) b with | none=>m=d | some y=>∃j,ev st y = .int j m:=by
  cases b with
  | none=>simp only[Option.isSome,Option.toList,cr,gk,jM] at h;exact⟨d,h,rfl⟩
  | some y =>
    simp only[Option.isSome,Option.toList,cr,fN,gk] at h;unfold jM at h;split at h
    · rename_i e;simp at e
    · rename_i j n r e1 e2;simp only[fM] at e2;obtain⟨e3,rfl⟩:=e2;exact⟨n.toNat,h.2,j,by rw[e3];simp;omega⟩
    · exact h.elim
theorem EF {xs ys:List X}:cr st (xs++ys)=cr st xs++cr st ys:=by
  induction xs with
  | nil=>rfl
  | cons x xs ih=>simp[cr,ih]
def K0 (P:Program) (o:Oper):Option ar :=
  match o.op with
  | .move (.const (.slice none 0 0)) | .assign (.const (.slice none 0 0))=>some (.own .nil [])
  | .makeSlice t l c =>
    if Mc l c=true then
      match P.underlying t with
      | some (.slice e) =>
        match P.info? e,iO P e,bX P 0 l with
        | some i,some z,some x=>if i.bytes≤4096∧0<i.size∧z.length=i.size then some (.own (.mk z) [x]) else none
        | _,_,_=>none
      | _=>none
    else none
  | .buildSlice t len ps =>
    match P.underlying t with
    | some (.slice e) =>
      match dd P e,iO P e,hH P (List.replicate len e) (ps.toList.map (·.2)) with
      | some k,some _,some xs=>if ps.toList.map (·.1)=List.range len∧len*k≤16777216 then some (.own (.kx k) xs) else none
      | _,_,_=>none
    | _=>none
  | .slice t x lo hi mx =>
    match P.underlying t with
    | some (.slice e) =>
      match bX P t x,jB P t lo,jB P t hi,jB P t mx,dd P e with
      | some x,some lo,some hi,some mx,some k=>if mx.isSome=true→hi.isSome=true then some (.own (.lg k lo.isSome hi.isSome mx.isSome) (x::(lo.toList++hi.toList++mx.toList))) else none
      | _,_,_,_,_=>none
    | _=>none
  | .indexAddr t x i =>
    match P.underlying t,bX P t x,bX P t i with
    | some (.slice e),some x,some i=>(dd P e).map fun k=>.own (.idx k) [x,i]
    | _,_,_=>none
  | .call c =>
    match c.callee with
    | .builtin .len =>
      match c.argTypes.toList,c.args.toList with
      | [t], [x] =>
        match P.underlying t,bX P t x with
        | some (.slice _),some y=>some (.own .len [y])
        | _,_=>none
      | _,_=>none
    | .builtin .append =>
      match c.argTypes.toList,c.args.toList with
      | [t, u], [s, x] =>
        match P.underlying t,P.underlying u,bX P t s,bX P u x with
        | some (.slice e), some (.slice e'), some s, some x =>
          match P.info? e,iO P e with
          | some i,some _=>if e=e' ∧ i.bytes≤4096∧0<i.size then some (.own (.app i.size) [s,x]) else none
          | _,_=>none
        | _,_,_,_=>none
      | _,_=>none
    | _=>none
  | _=>none
theorem aoc {ao:ar} (hl:K0 P o=some ao) (hs:bc E st a) (h:ao.aM P st K):o.wp P a E.w (cZ E a o.dst K) Q:=by
  have X:=fun {t:TypeId} {x:Operand} {y:X} (hx:bX P t x=some y)=>lD (E:=E) (st:=st) (a:=a) hs.slot hx
  unfold K0 at hl;split at hl
  · rename_i ho;simp only[aH] at hl;subst hl;refine cq hs (v:=.raw (.slice none 0 0)) (x:=.slice none 0 0) ?_ (by simp only[R]) h;simp[execOp,ho,Act.eval]
  · rename_i ho;simp only[aH] at hl;subst hl;refine cq hs (v:=.raw (.slice none 0 0)) (x:=.slice none 0 0) ?_ (by simp only[R]) h;simp[execOp,ho,Act.eval]
  · rename_i t l c ho;split at hl
    case isFalse=>simp at hl
    rename_i Cb;have Cb:=aqF Cb;subst Cb;split at hl
    case h_2=>simp at hl
    rename_i e ht;split at hl
    case h_2=>simp at hl
    rename_i i z x hi hz hx;split at hl
    case isFalse=>simp at hl
    rename_i hc;simp only[aH] at hl;subst hl;obtain⟨i',z',q1,q2,q3,q4⟩:=qw hz;obtain rfl:i=i' := by rw[hi] at q1;simpa using q1
    have iK := X hx;simp only[ar.aM,cr] at h;unfold OQ.aM at h;split at h<;>try (exfalso;simp_all;done)
    · rename_i z0 k n e1 e2;simp only[OQ.mk.injEq] at e1;subst e1;simp only[fM,fO] at e2;rw[e2] at iK;simp only[R] at iK;obtain⟨g1,g2,g3,g4,g5⟩:=h;have gU:z'.cells.size=i.size:=by have:=eM (oS (E:=E) q3);simp at this;omega
      have cn:=run_make (P:=P) E.w t e i z' ht hi q2 k k n n g1 (Hy _) (by
        have:(i.bytes:Int)*n≤4096*aF:=Int.mul_le_mul (by omega) (by omega) g1 (by omega)
        simp only[aF] at this;omega) (by simp only[aF] at g2;omega)
      refine M3 hs (w1:=E.w) (Ext.refl _) rfl (v:=fun b=>.raw (.slice (some ⟨b,0,none⟩) n.toNat n.toNat)) (zs:=(List.replicate n.toNat z).flatten) (x:=.slice (some ⟨E.w.heap.size,0,none⟩) n.toNat n.toNat) (c:=madeCells z'.cells (n.toNat*i.size)) (e:=e) ?_ ?_ (by simp only[R]) rfl (fun b hb=>g5 b hb)
      · simp[execOp,ho,iK,cn]
      · rw[al9 gU hc.2.1];have hr:=oS (E:=E.nl) q3;induction n.toNat with
        | zero=>simp[RL]
        | succ m ih=>simp only[wI,iC];exact rP hr ih
  · rename_i t len ps ho;split at hl
    case h_2=>simp at hl
    rename_i e ht;split at hl
    case h_2=>simp at hl
    rename_i k z xs hk hz lA;split at hl
    case isFalse=>simp at hl
    rename_i hc;simp only[aH] at hl;subst hl;simp only[ar.aM] at h;unfold OQ.aM at h;split at h<;>try (exfalso;simp_all;done)
    · rename_i k0 vs e1;simp only[OQ.kx.injEq] at e1;subst e1;obtain⟨l,h1,U⟩:=h;exact YW hs ho ht hk hz hc.1 hc.2 (KE (E:=E) hs.slot lA h1) U
  · rename_i t x lo hi mx ho;split at hl
    case h_2=>simp at hl
    rename_i e ht;split at hl
    case h_2=>simp at hl
    rename_i x' lC cT mx' k h1 U h3 h4 hk;split at hl
    case isFalse=>simp at hl
    rename_i sq;simp only[aH] at hl;subst hl;have hx:=X h1;simp only[ar.aM,cr] at h;unfold OQ.aM at h;split at h<;>try (exfalso;simp_all;done)
    · rename_i k0 b1 b2 b3 base n cap vs e1 e2;simp only[OQ.lg.injEq] at e1;obtain⟨rfl,rfl,rfl,rfl⟩:=e1;simp only[fM] at e2;obtain⟨e2,rfl⟩:=e2;rw[e2] at hx;simp only[R] at hx;rw[EF,EF,dt] at h;obtain⟨m,h,g1⟩:=wR h;obtain⟨hh,h,g2⟩:=wR h;rw[←dn (cr st mx'.toList)] at h;obtain⟨M,h,g3⟩:=wR h;obtain⟨_,k1,k2,k3,h⟩:=h;have hb:=L9 (P:=P) hs U h3 h4 sq g1 g2 g3 k1 k2 k3;refine cq hs (v:=.raw _) (x:=.slice (if M=m then base else base.map (·.add (m*k))) (hh - m) (M - m)) ?_ (by simp only[R]) h;simp only[execOp,ho,Sem.run_bind,hx];simp[Instr.sliceAt,run_underlying ht,Instr.slice,hb,mh hk]
  · rename_i t x i ho;split at hl
    case h_2=>simp at hl
    rename_i e x' i' ht h1 U;simp only[cx] at hl;obtain⟨k,hk,rfl⟩:=hl;have hx:=X h1;have hi:=X U;simp only[ar.aM,cr] at h;unfold OQ.aM at h;split at h<;>try (exfalso;simp_all;done)
    · rename_i k0 b off n cap kk j e1 e2;simp only[OQ.idx.injEq] at e1;subst e1;simp only[fM,fO] at e2;obtain⟨e2,e3⟩:=e2;rw[e2] at hx;rw[e3] at hi;simp only[R] at hx hi;obtain⟨g1,g2,h⟩:=h;refine cq hs (v:=.ptr (.out b) (off+j.toNat*k)) (x:=.pointer (some ⟨b,off+j.toNat*k,none⟩)) ?_ (by simp only[R]) h;simp[execOp,ho,hx,hi,Instr.indexAt,asIntOf,run_underlying ht,g1,g2,mh hk,kb]
  · rename_i c ho;obtain⟨callee,args,argTypes⟩:=c;simp only at hl;split at hl
    · split at hl
      case h_2=>simp at hl
      rename_i t x ht hx;have e1:argTypes=#[t]:=by cases argTypes;simpa using ht
      have e2:args=#[x]:=by cases args;simpa using hx
      subst e1;subst e2;split at hl
      case h_2=>simp at hl
      rename_i e y hu h1;simp only[aH] at hl;subst hl;have hx:=X h1;simp only[ar.aM,cr] at h;unfold OQ.aM at h;split at h<;>try (exfalso;simp_all;done)
      · rename_i base n cap e1 e2;simp only[fM,fO] at e2;rw[e2] at hx;simp only[R] at hx;refine cq hs (v:=.int .i64 n) (x:=.int .i64 n) ?_ (by simp only[R]) h;simp[execOp,ho,resolve,invoke,builtin,Builtin.len_,run_underlying hu,hx,goInt]
    · split at hl
      case h_2=>simp at hl
      rename_i t u s x ht hx;have e1:argTypes=#[t,u]:=by cases argTypes;simpa using ht
      have e2:args=#[s,x]:=by cases args;simpa using hx
      subst e1;subst e2;split at hl
      case h_2=>simp at hl
      rename_i e e' s' x' hu xO ct iK;split at hl
      case h_2=>simp at hl
      rename_i i z hi hz;split at hl
      case isFalse=>simp at hl
      rename_i hc;simp only[aH] at hl;subst hl;obtain⟨rfl,lq,gT⟩:=hc;obtain⟨i',z',q1,q2,q3,q4⟩:=qw hz;obtain rfl:i=i' := by rw[hi] at q1;simpa using q1
      have gU:z'.cells.size=i.size:=by have:=eM (oS (E:=E) q3);simp at this;omega
      have su:=X ct;have eT:=X iK;simp only[ar.aM,cr] at h;unfold OQ.aM at h;split at h<;>try (exfalso;simp_all;done)
      · rename_i k0 base n cap tk k1 m e1 e2;simp only[OQ.app.injEq] at e1;subst e1;simp only[fM,fO] at e2;obtain⟨e2,e3⟩:=e2;obtain⟨rfl,h⟩:=h;rw[e2] at su;rw[e3] at eT;obtain⟨news,g1,g2,g3,g4⟩:=G2 (P:=P) xO eT;simp only[R] at su;refine M1 hs hu hi q2 gU lq (ty:=o.type) (vx:=a.eval x) ?_ g1 g2 g3 g4 h;simp[execOp,ho,resolve,invoke,builtin,su]
    · simp at hl
  · simp at hl
def KZ (P:Program) (h:List Nat) (o:Oper):Option ar :=
  match o.dst with
  | some d =>
    if h.contains d=true then
      match o.op with
      | .alloc t=>(iO P t).map .mX
      | .box t x=>match dd P t,bX P t x with | some n,some y=>some (.ff n y) | _,_=>none
      | _=>match K0 P o with | some x=>some x | none=>vQ P o
    else vQ P o
  | none=>vQ P o
theorem alV {ao:ar} {h:List Nat} (hl:KZ P h o=some ao) (hs:bc E st a) (hk:ao.aM P st K):o.wp P a E.w (cZ E a o.dst K) Q:=by
  unfold KZ at hl;split at hl
  case h_2=>exact CM hl hs hk
  split at hl
  case isFalse=>exact CM hl hs hk
  split at hl
  · rename_i t ho;simp only[cx] at hl;obtain⟨z,h1,rfl⟩:=hl;exact as8 hs ho h1 hk
  · rename_i t x ho;split at hl
    case h_2=>simp at hl
    rename_i n y hn hy;simp only[aH] at hl;subst hl;exact atb hs ho (lD hs.slot hy) hk
  · split at hl
    · rename_i x hx;simp only[aH] at hl;subst hl;exact aoc hx hs hk
    · exact CM hl hs hk
end
structure yV (E:Env) (τ k:Nat) (l:List (List V)) (b cap:Nat):Prop where
  aC:E.aC τ=some l.length
  role:E.role b = .fA τ (l.length*k)
  Rw:∃cs e,E.w.heap[b]?=some (.cells cs e (0,0))∧cs.size=cap*k
  cap:l.length+1≤cap
  r8:ek E.nl k l b 0
theorem yV.mono {E E' : Env} {τ k:Nat} {l:List (List V)} {b cap:Nat} (h:yV E τ k l b cap) (hf:Fr E E') (ht:E'.aC τ=some l.length):yV E' τ k l b cap:=by
  obtain⟨n',h1,_,h3⟩:=hf.tok τ _ h.aC;rw[ht] at h1;simp only[aH] at h1;obtain⟨r1,r2⟩:=h3 h1.symm b _ h.role;obtain⟨cs,e,k1,k2⟩:=h.Rw;obtain⟨cs',q1,q2⟩:=r2 cs e k1;exact⟨ht,r1,⟨cs',e,q1,q2.trans k2⟩,h.cap,ek.mono _ hf.nl h.r8⟩
section
variable {P:Program} {E:Env} {st:St} {a:Act} {o:Oper}
theorem ajB (hs:bc E st a) {t u ty e:TypeId} {i:TypeInfo} {z:Value} (ht:P.underlying t=some (.slice e)) (hi:P.info? e=some i) (hz:i.zero=some z) (gU:z.cells.size=i.size)
    (lq:i.bytes≤4096) {vs vx:Value} {τ:Nat} {l:List (List V)}
    (cn:(execOp a.eval o).run P E.w=((Builtin.append_ #[t,u] ty #[vs,vx]).run P E.w).andThen fun v w' => .ok (.value v) w')
    (dh:R E (.sl (.tk τ) i.size l) vs) {news:List Value} (pg:Src P E.w i.size 1 u vx news) (ey:∀v∈news,v.oneCell' = true)
    (hbig:l.length+1≤aF) (hE:E.aC τ=some l.length) :
    ∃b cap E',yV E' τ i.size l b cap∧(execOp a.eval o).run P E.w = .ok (.value (.slice (some ⟨b,0,none⟩) (l.length+1) cap)) E'.w∧Fr E E' ∧ bc E' st a∧(∀j,E'.loc j=E.loc j):=by
  simp only[R] at dh;obtain⟨base,cap,rfl,xD,kl,ph⟩:=dh;obtain⟨fT,hold,Jk,I8,cW,hlen⟩:=V_ (P:=P) (cap:=cap) kl;have B2:(l.length+1)*i.bytes≤140737488355328:=by
    have:=NL hbig lq
    simp only[aF] at this;omega
  have Cn:l.length+1≤9223372036854775807:=by simp only[aF] at hbig;omega
  have p7:=pg.size;obtain⟨n',h1,_,h3⟩:=ph;rw[hE] at h1;simp only[aH] at h1;subst h1
  rcases nS cap (l.length+1) with aj | mH
  · have ni:=grownCap_ge E.w (l.length+1) cap e;have size:(fT++(news++(Builtin.zeroCells z.cells (grownCap E.w (l.length+1) cap e - (l.length+1))).toList)).toArray.size=grownCap E.w (l.length+1) cap e*i.size:=by
      simp only[NG,bw,yR,size_zeroCells,gU,hlen,p7];rw[←DS,←gP,←gP];congr 1;omega
    have hr:=L7 (P:=P) (ty:=ty) ht hi hz hold pg aj B2 Cn;generalize grownCap E.w (l.length+1) cap e=nc at hr ni size;generalize news++(Builtin.zeroCells z.cells (nc - (l.length+1))).toList=rest at hr size
    let E' : Env:={w:=E.w.drew.alloc (.cells (fT++rest).toArray e),role:=fun b=>if b=E.w.heap.size then .fA τ (l.length*i.size) else E.role b,loc:=E.loc,aC:=E.aC}
    have hx:Ext E.w E'.w:=((Ext.refl _).drew).alloc _ _;have fI:∀b,b<E.w.heap.size→E'.role b=E.role b:=fun b hb=>by simp only[E'];rw[ah (by omega)]
    have aS:Fr E E' := vh hs.ok.fresh hx fI (fun _ _ h=>h);have hle:E.le E' := aS.le fun _ _ h=>h
    have Kf:E'.w.heap.size=E.w.heap.size+1:=by simp[E']
    have p8:E'.w.heap[E.w.heap.size]?=some (.cells (fT++rest).toArray e (0,0)):=heap_alloc_new E.w.drew _;have dR:E'.role E.w.heap.size = .fA τ (l.length*i.size):=by simp[E']
    refine⟨E.w.heap.size,nc,E',⟨hE,dR,⟨_,_,p8,size⟩,ni,D0 cW (RL.mono _ aS.nl Jk) I8 p8 (fun j hj=>by rw[dR];simpa [dO.fP] using hj)⟩,?_,aS,⟨?_,?_,hs.defers,RL.mono _ hle hs.slot⟩,fun _=>rfl⟩
    · rw[cn,hr];rfl
    · refine Al hs.ok aS.nl (fun b h hb=>⟨by rw[fI b hb];exact h,hx.block b hb⟩) (fun _ _ h=>h) (fun b hb=>?_) hs.ok.nt;rw[Kf] at hb;simp only[E'];rw[ah (by omega)];exact hs.ok.fresh b (by omega)
    · exact nC hs.cg hle (fun b i' h hb=>⟨by rw[fI b hb];exact h,hx.block b hb⟩) hs.cg.none
  · rcases h3 rfl with hc | ⟨b,cs,e',rfl,cL,dQ,bO⟩
    · omega
    · have mF:l.length*i.size+news.length≤cs.size:=by
        rw[p7,bO,←gP];exact nT _ mH
      have iu:=L8 (P:=P) (ty:=ty) ht hi dQ pg ey mH mF;have si:∀j:Nat,j<l.length*i.size→(cs.toList.take (l.length*i.size)++news++cs.toList.drop (l.length*i.size+news.length)).toArray[j]?=cs[j]?:=fun j hj=>by
        have:=C' (c:=cs.toList) (vs:=news) (off:=l.length*i.size) (by simpa using mF) j
        rw[ak hj] at this;simpa using this
      have qe:(cs.toList.take (l.length*i.size)++news++cs.toList.drop (l.length*i.size+news.length)).toArray.size=cs.size:=by
        simp;omega
      generalize (cs.toList.take (l.length*i.size)++news++cs.toList.drop (l.length*i.size+news.length)).toArray=new at iu si qe
      let E' : Env:={E with w:=E.w.setRow b new}
      have gI:∀b',b' ≠ b→E'.w.heap[b']?=E.w.heap[b']?:=fun b' aI=>setRow_other E.w b b' new aI
      have bz : E'.w.heap[b]?=some (.cells new e' (0,0)):=setRow_heap E.w b cs new e' _ dQ;have aI:∀b' r,E.role b' = r→(∀c,r≠.fA τ c)→b' ≠ b:=fun b' r h h' => by rintro rfl;rw[cL] at h;exact h' _ h.symm
      have aS:Fr E E' := by
        refine⟨rfl,rfl,rfl,by simp[E'],BK dQ,?_,?_,?_,fun _ _ h=>.inl h,fun _ _ c _ h=>⟨c,h⟩,fun _ i _ h=>⟨i,h⟩,fun b' c' zk hc=>by
              by_cases bU:b' = b
              · subst bU;rw[dQ] at hc;simp only[aH,Obj.cells.injEq] at hc;obtain⟨rfl,rfl,_⟩:=hc;exact⟨new,bz,qe⟩
              · exact⟨c',(gI b' bU).trans hc,rfl⟩⟩
        · intro b' o' c hc hv
          by_cases bU:b' = b
          · subst bU;refine⟨hc,?_⟩;rw[cL] at hc;simp only[dO.fP] at hc;simp only[World.cell?,dQ] at hv;simp only[World.cell?,bz,si _ hc];exact hv
          · exact⟨hc,by rw[zg (gI b' bU)];exact hv⟩
        · intro t n hn;refine⟨n,hn,bt _,fun _ b' c xC=>⟨xC,fun cs' zk hcs=>?_⟩⟩
          by_cases bU:b' = b
          · subst bU;rw[dQ] at hcs;simp only[aH,Obj.cells.injEq] at hcs;obtain⟨rfl,rfl,_⟩:=hcs;exact⟨new,bz,qe⟩
          · exact⟨cs',by rw[gI b' bU];exact hcs,rfl⟩
        · intro b' _ hr;have bU:b' ≠ b:=by rcases hr with hr | hr<;>exact aI b' _ hr (fun c h=>by simp at h)
          exact⟨gI b' bU,rfl⟩
      have hle:E.le E' := aS.le fun _ _ h=>h
      have Cd:ek E.nl i.size l b 0:=by
        rcases kl with h | ⟨b2,o2,h,hr⟩
        · subst h;simp[ek]
        · simp only[aH,Addr.mk.injEq] at h;obtain⟨rfl,rfl,_⟩:=h;exact hr
      refine⟨b,cap,E',⟨hE,cL,⟨new,e',bz,qe.trans bO⟩,mH,ek.mono _ aS.nl Cd⟩,?_,aS,⟨?_,?_,hs.defers,RL.mono _ hle hs.slot⟩,fun _=>rfl⟩
      · rw[cn,iu];rfl
      · exact Al hs.ok aS.nl (fun b' hr _=>⟨hr,gI b' (aI b' _ hr (fun c h=>by simp at h))⟩) (fun _ _ h=>h) (fun b' n6 => hs.ok.fresh b' (by simpa [E'] using n6)) hs.ok.nt
      · exact nC hs.cg hle (fun b' i' hr _=>⟨hr,gI b' (aI b' _ hr (fun c h=>by simp at h))⟩) hs.cg.none
theorem ajE (hs:bc E st a) {τ k b cap:Nat} {l:List (List V)} (hh:yV E τ k l b cap) {t:TypeId} (hn:dd P t=some k) {xs:List V} {v:Value} (hx:RL E.nl xs v.cells.toList) (hv:v.cells.size=k) (h1:∀u∈v.cells.toList,u.oneCell' = true) :
    ∃E',(storeVar t ⟨b,l.length*k,none⟩ v).run P E.w = .ok () E'.w∧Fr E E' ∧ bc E' ⟨st.t,st.loc,st.out.aL τ (l.length+1)⟩ a ∧
      R E'.nl (.sl (.tk τ) k (l++[xs])) (.slice (some ⟨b,0,none⟩) (l.length+1) cap)∧(∀j,E'.loc j=E.loc j):=by
  obtain⟨cs,e',dQ,bO⟩:=hh.Rw;have cL:=hh.role;have hE:=hh.aC;have mH:=hh.cap;obtain⟨cW,_⟩:=oH.1 hh.r8;have qg:xs.length=k:=by have:=eM hx;simp at this;omega
  have iu:=L_ (P:=P) (off:=l.length*k) hn dQ hv (by rw[bO,←DU];exact nT _ mH) h1;generalize p9:v.cells.toList=news at hx h1 iu;have p7:news.length=k:=by rw[←p9];simpa using hv
  have mF:l.length*k+news.length≤cs.size:=by rw[p7,bO,←DU];exact nT _ mH
  have si:∀j:Nat,(cs.toList.take (l.length*k)++news++cs.toList.drop (l.length*k+k)).toArray[j]?=if j<l.length*k then cs[j]? else if j<l.length*k+news.length then news[j - l.length*k]? else cs[j]?:=fun j=>by
    have:=C' (c:=cs.toList) (vs:=news) (off:=l.length*k) (by simpa using mF) j
    rw[p7] at this ⊢;simpa using this
  have qe:(cs.toList.take (l.length*k)++news++cs.toList.drop (l.length*k+k)).toArray.size=cs.size:=by
    simp;omega
  generalize (cs.toList.take (l.length*k)++news++cs.toList.drop (l.length*k+k)).toArray=new at iu si qe;have ai1:l.length*k≤(l.length+1)*k:=nT _ (by omega)
  let E' : Env:={w:=E.w.setRow b new,role:=fun b' => if b' = b then .fA τ ((l.length+1)*k) else E.role b',loc:=E.loc,aC:=fun t=>if t=τ then some (l.length+1) else E.aC t}
  have gI:∀b',b' ≠ b→E'.w.heap[b']?=E.w.heap[b']?:=fun b' aI=>setRow_other E.w b b' new aI
  have kW:∀b',b' ≠ b→E'.role b' = E.role b' := fun b' aI=>by simp only[E'];rw[ah aI]
  have bz : E'.w.heap[b]?=some (.cells new e' (0,0)):=setRow_heap E.w b cs new e' _ dQ;have np:E'.role b = .fA τ ((l.length+1)*k):=by simp[E']
  have aI:∀b' r,E.role b' = r→(∀c,r≠.fA τ c)→b' ≠ b:=fun b' r h h' => by rintro rfl;rw[cL] at h;exact h' _ h.symm
  have aS:Fr E E' := by
    refine⟨rfl,rfl,rfl,by simp[E'],BK dQ,?_,?_,?_,?_,?_,?_,fun b' c' zk hc=>by
          by_cases bU:b' = b
          · subst bU;rw[dQ] at hc;simp only[aH,Obj.cells.injEq] at hc;obtain⟨rfl,rfl,_⟩:=hc;exact⟨new,bz,qe⟩
          · exact⟨c',(gI b' bU).trans hc,rfl⟩⟩
    · intro b' o' c hc hv
      by_cases bU:b' = b
      · subst bU;rw[cL] at hc;simp only[dO.fP] at hc;refine⟨by rw[np];simp only[dO.fP];omega,?_⟩;simp only[World.cell?,dQ] at hv;simp only[World.cell?,bz,si,ak hc];exact hv
      · exact⟨by rw[kW b' bU];exact hc,by rw[zg (gI b' bU)];exact hv⟩
    · intro t n hn
      by_cases pj:t=τ
      · subst pj;rw[hE] at hn;simp only[aH] at hn;exact⟨l.length+1,by simp[E'],by omega,fun h=>by omega⟩
      · refine⟨n,by simp only[E'];rw[ah pj];exact hn,bt _,fun _ b' c xC=>?_⟩;have bU:b' ≠ b:=aI b' _ xC (fun c' h=>by simp at h;exact pj h.1);exact⟨by rw[kW b' bU];exact xC,fun cs' zk hcs=>⟨cs',by rw[gI b' bU];exact hcs,rfl⟩⟩
    · intro b' _ hr;have bU:b' ≠ b:=by rcases hr with hr | hr<;>exact aI b' _ hr (fun c h=>by simp at h)
      exact⟨gI b' bU,kW b' bU⟩
    · intro b' _ h;have bU:b' ≠ b:=by rintro rfl;rw[np] at h;simp at h
      rw[kW b' bU] at h;exact .inl h
    · intro b' t c _ h
      by_cases bU:b' = b
      · subst bU;rw[np] at h;simp at h;obtain⟨rfl,_⟩:=h;exact⟨_,cL⟩
      · rw[kW b' bU] at h;exact⟨c,h⟩
    · intro b' i' _ h;have bU:b' ≠ b:=by rintro rfl;rw[np] at h;simp at h
      rw[kW b' bU] at h;exact⟨_,h⟩
  have hle:E.le E' := aS.le fun _ _ h=>h
  refine⟨E',iu,aS,⟨⟨?_,?_,?_,?_,fun b cs hc=>c7.mono _ aS.nl (hs.ok.bR b cs hc)⟩,?_,hs.defers,RL.mono _ hle hs.slot⟩,?_,fun _=>rfl⟩
  · intro b' cs' hcs;obtain⟨k1,k2⟩:=hs.ok.box b' cs' hcs;have bU:b' ≠ b:=aI b' _ k1 (fun c h=>by simp at h);exact⟨by rw[kW b' bU];exact k1,k2.mono aS.nl (gI b' bU)⟩
  · intro t n jT;simp only[ae.aL] at jT;simp only[E'];split at jT
    · rename_i h;rw[ak h];exact jT
    · rename_i h;rw[ah h];exact hs.ok.aC t n jT
  · intro b' n6;have bU:b' ≠ b:=by
      rintro rfl
      have:=jC dQ
      simp[E'] at n6;omega
    rw[kW b' bU];exact hs.ok.fresh b' (by simpa [E'] using n6)
  · obtain⟨N,hN⟩:=hs.ok.nt;exact⟨max N (τ+1),fun t zT => by simp only[E'];rw[ah (by omega)];exact hN t (by omega)⟩
  · refine nC hs.cg hle (fun b' i' hr _=>?_) hs.cg.none;have bU:b' ≠ b:=aI b' _ hr (fun c h=>by simp at h);exact⟨by rw[kW b' bU];exact hr,gI b' bU⟩
  · have Ji:ek E'.nl k (l++[xs]) b 0:=by
      have Cd:=hh.r8;refine oH.2 ⟨fun y hy=>?_,?_⟩
      · rcases il.1 hy with h | h
        · exact cW y h
        · simp at h;subst h;exact qg
      rw[pH];refine uU.2 ⟨(oH.1 (ek.mono _ aS.nl Cd)).2,y4 (vs:=news) (by simpa using RL.mono _ aS.nl hx) h1 (fun j v hv=>?_) (fun j hj=>?_)⟩
      · have hj:=(dD.1 hv).1;rw[jr cW];simp only[Env.V0,World.cell?,bz,si];simp only[Be,cI,bP];rw[ah (show ¬(0+l.length*k+j<l.length*k) by omega),ak (show 0+l.length*k+j<l.length*k+news.length by omega)];rw[show 0+l.length*k+j - l.length*k=j from by omega];exact hv
      · rw[jr cW];simp only[iC,Nw,dn,qg] at hj;simp only[Env.VZ,np,dO.fP];rw[gP];omega
    simp only[R,bw,cG,dv];exact⟨some ⟨b,0,none⟩,cap,rfl,mH,.inr ⟨b,0,rfl,Ji⟩,l.length+1,by simp[E'],bt _,fun _=>.inr ⟨b,new,e',rfl,np,bz,qe.trans bO⟩⟩
end
structure HI where
  k:Nat
  s:X
  z:X
  len:X
  x:X
  addr:X
  fo:Option Nat
  d9:Nat
  d10:Nat
  dF:Nat
def iV (o:Oper) (j:Nat):Bool:=o.after.toList.any fun e=>Region.binds .any e&&e.on == j
def J3 (P:Program) (t2:TypeId) (oJ:Operand) (other:Nat):Option Oper→Option (X × Option Nat × Nat)
  | none=>(bX P t2 oJ).map fun y=>(y,none,other)
  | some F =>
    match F.dst,oJ,vQ P F with
    | some dF,.tmp p,some (.mB off y)=>if p=dF∧F.guard=none then some (y,some off,dF) else none
    | _,_,_=>none
def J4 (P:Program) (A I S O:Oper) (oF:Option Oper):Option HI :=
  match A.op,A.dst,I.op,I.dst,S.op,O.op with
  | .call c, some d9, .indexAddr t q1 uf, some d10, .store e q2 uL, .store t2 oJ q3 =>
    match c,q1,q2,q3 with
    | { callee := .builtin .append, args := args, argTypes := MH }, .tmp p1, .tmp p2, .tmp p3 =>
      match MH.toList,args.toList with
      | [t', u], [rk, rB] =>
        match P.underlying t,P.underlying u,P.info? e,iO P e with
        | some (.slice e1), some (.slice e2), some i, some _ =>
          match bX P t rk,bX P u rB,bX P t uf,bX P e uL,J3 P t2 oJ (d9+d10+1) oF with
          | some s, some z, some len, some x, some (addr, fo, dF) =>
            if (t' = t∧e1=e∧e2=e∧i.bytes≤4096∧0<i.size)∧(p1=d9∧p2=d10∧p3=d9∧dd P t2=some 1)∧(A.guard=none∧I.guard=none∧S.guard=none∧O.guard=none∧S.dst=none∧O.dst=none)∧d9≠d10∧d9≠dF∧d10≠dF then
              some ⟨i.size,s,z,len,x,addr,fo,d9,d10,dF⟩
            else none
          | _,_,_,_,_=>none
        | _,_,_,_=>none
      | _,_=>none
    | _,_,_,_=>none
  | _,_,_,_,_,_=>none
def qa (ops:Array Oper):Option Oper :=
  match ops[ops.size - 2]? with
  | some F=>match F.op with | .fieldAddr _ _ _=>some F | _=>none
  | none=>none
def fx (ops:Array Oper):Nat:=if (qa ops).isSome then ops.size - 5 else ops.size - 4
def dummy (o:Oper):AO:=⟨o.dst,.mv (.c .any),none⟩
def Dn (l1:List AO) (b:List Nat):List (AO × List Nat) :=
  let d:=List.zipWith dY (l1.map fun o=>(o,[])) b
  (l1.zip d).zipIdx.map fun ((o,x),i)=>(o,if o.op.Ac then ((List.range (vu d i+1 - mJ d x)).map (mJ d x+·)).filter (· != ym d i) else [])
theorem YN {l1:List AO} {b:List Nat} {i:Nat} {y:AO} (hy:l1[i]?=some y) (aj:i<(Dn l1 b).length):∃ms,(Dn l1 b)[i]?=some (y,ms):=by
  unfold Dn at aj ⊢
  simp only at aj ⊢;generalize List.zipWith dY (l1.map fun o=>(o,[])) b=d at aj ⊢;generalize hL:l1.zip d=z at aj ⊢;have hz:i<z.length:=by simpa using aj
  have e:z[i]?=some z[i]:=cw hz;have e1:z[i].1=y:=by
    subst hL;rw[HM,hy] at e;exact(mV e.1).symm
  rw[s7,Ny,e];simp only[s_,e1];exact⟨_,rfl⟩
def Ug (P:Program) (ops:Array Oper) (l:List (AO × List Nat)) (b:List Nat) (nA:Nat) (A I S O:Oper) (oF:Option Oper):Bool :=
  (u_ ops l b&&P.follows .mixedOrders)&&decide (nA+(if oF.isSome then 5 else 4)=ops.size)&&((List.range nA).all fun j=>iV A j) &&
    (iV I nA&&iV S nA&&iV S (nA+1)&&iV O nA)&&(match oF with | some F=>iV F nA&&iV O (nA+3) | none=>true)
def Ge (P:Program) (ops:Array Oper):Option (List (AO × List Nat) × HI) :=
  match ops[fx ops]?,ops[fx ops+1]?,ops[fx ops+2]?,ops[ops.size - 1]?,yg P ops (ops.toList.take (fx ops)) with
  | some A, some I, some S, some O, some l0 =>
    match J4 P A I S O (qa ops) with
    | some hi =>
      if Ug P ops (Dn (l0++(ops.toList.drop (fx ops)).map dummy) (sH ops.toList [])) (sH ops.toList []) (fx ops) A I S O (qa ops)=true then
        some (Dn (l0++(ops.toList.drop (fx ops)).map dummy) (sH ops.toList []),hi) else none
    | none=>none
  | _,_,_,_,_=>none
def BH:Option Nat→V→Option V
  | none,v=>some v
  | some n,.ptr p o=>some (.ptr p (o+n))
  | some _,_=>none
def Hw (hi:HI) (K:St→Prop) (st:St):Prop :=
  ∃τ l c t' j,ev st hi.s = .sl (.tk τ) hi.k l∧ev st hi.z = .sl t' hi.k [c]∧ev st hi.len = .int j l.length∧l.length+1≤aF∧st.out.aC τ=some l.length ∧
    (ev st hi.x).wd=some hi.k∧bE (ev st hi.x).cells=true∧bm (ev st hi.x).cells=true∧hi.d9<st.t.length∧hi.d10<st.t.length∧(hi.fo.isSome=true→hi.dF<st.t.length) ∧
    ∃p,BH hi.fo (ev st hi.addr)=some p∧∃aq,cJ st 1 (.sl (.tk τ) hi.k (l++[a9 (ev st hi.x).cells])) p=some aq ∧ K ⟨aq.t,aq.loc,aq.out.aL τ (l.length+1)⟩
structure HF (P:Program) (A I S O:Oper) (oF:Option Oper) (hi:HI):Prop where
  app:∃c t u e i z rk rB uf uL,A.op = .call c∧c.callee = .builtin .append∧c.argTypes=#[t,u]∧c.args=#[rk,rB]∧P.underlying t=some (.slice e)∧P.underlying u=some (.slice e) ∧
    P.info? e=some i∧iO P e=some z∧i.bytes≤4096∧i.size=hi.k∧0<hi.k∧bX P t rk=some hi.s∧bX P u rB=some hi.z ∧
    I.op = .indexAddr t (.tmp hi.d9) uf∧bX P t uf=some hi.len∧S.op = .store e (.tmp hi.d10) uL∧bX P e uL=some hi.x
  out:∃t2 oJ,O.op = .store t2 oJ (.tmp hi.d9)∧dd P t2=some 1∧(match oF with
    | none=>hi.fo=none∧bX P t2 oJ=some hi.addr
    | some F=>∃off,hi.fo=some off∧oJ = .tmp hi.dF∧F.dst=some hi.dF∧F.guard=none∧vQ P F=some (.mB off hi.addr))
  dst:A.dst=some hi.d9∧I.dst=some hi.d10∧S.dst=none∧O.dst=none
  guard:A.guard=none∧I.guard=none∧S.guard=none∧O.guard=none
  ne:hi.d9≠hi.d10∧hi.d9≠hi.dF∧hi.d10≠hi.dF
theorem ajz {P:Program} {A I S O:Oper} {oF:Option Oper} {hi:HI} (h:J4 P A I S O oF=some hi):HF P A I S O oF hi:=by
  unfold J4 at h;split at h
  case h_2=>simp at h
  rename_i c d9 t q1 uf d10 e q2 uL t2 oJ q3 e1 e2 e3 e4 e5 e6;split at h
  case h_2=>simp at h
  rename_i args MH p1 p2 p3;split at h
  case h_2=>simp at h
  rename_i t' u rk rB e7 e8;split at h
  case h_2=>simp at h
  rename_i et eu i z g1 g2 g3 g4;split at h
  case h_2=>simp at h
  rename_i s zx len x addr fo dF k1 k2 k3 k4 k5;split at h
  case isFalse=>simp at h
  rename_i hc;obtain⟨⟨rfl,rfl,rfl,m1,m2⟩,⟨rfl,rfl,rfl,m3⟩,⟨m4,m5,m6,m7,m8,m9⟩,m10⟩:=hc;simp only[aH] at h;subst h;have ht:MH=#[t',u]:=A0 (by simpa using e7);have ha:args=#[rk,rB]:=A0 (by simpa using e8);refine⟨⟨_,t',u,_,i,z,rk,rB,uf,uL,e1,rfl,ht,ha,g1,g2,g3,g4,m1,rfl,m2,k1,k2,e3,k3,e5,k4⟩,⟨t2,oJ,e6,m3,?_⟩,⟨e2,e4,m8,m9⟩,⟨m4,m5,m6,m7⟩,m10⟩;cases oF with
  | none =>
    simp only[J3,cx,mu] at k5;obtain⟨y,h1,rfl,rfl,rfl⟩:=k5;exact⟨rfl,h1⟩
  | some F =>
    simp only[J3] at k5;split at k5
    case h_2=>simp at k5
    rename_i dF' p off y h1 U;split at k5
    case isFalse=>simp at k5
    rename_i hc;simp only[aH,mu] at k5;obtain⟨rfl,rfl,rfl⟩:=k5;obtain⟨rfl,hg⟩:=hc;exact⟨off,rfl,rfl,h1,hg,U⟩
theorem E9 {o:Oper} {j:Nat} (h:iV o j=true):∃e∈o.after,Region.binds .any e=true∧e.on=j:=by
  simp only[iV,A4,a_,zd] at h;obtain⟨e,h1,U,h3⟩:=h;exact⟨e,by simpa using h1,U,h3⟩
theorem yq {a:Act} {d n:Nat} {v u:Value} (hd:d<a.tmps.size):(a.put (some d) v).tmps.getD n u=if n=d then v else a.tmps.getD n u:=by
  simp only[Act.put]
  by_cases h:n=d
  · subst h;simp[hd]
  · rw[ah h,nO,yQ (Ne.symm h),←nO]
theorem wK {E:Env}:∀{l:List V} {vs:List Value} (n:Nat),RL E l vs→RL E (l.set n .any) vs
  | [],[],_,h=>by simpa using h
  | [],_::_,_,h=>by simp[RL] at h
  | _::_,[],_,h=>by simp[RL] at h
  | x :: xs, v :: vs, n, h => by
    simp only[RL] at h;cases n with
    | zero=>simp only[List.set_cons_zero,RL];exact⟨by simp[R],h.2⟩
    | succ n=>simp only[List.set_cons_succ,RL];exact⟨h.1,wK n h.2⟩
theorem ars {E:Env} {a:Act} {st lM lN:St} {u:Value} {y:V} {p:V} (h1:cJ st 1 (.raw u) p=some lM) (U:cJ st 1 y p=some lN) (hy:R E.nl y u) (UI:y.cells=[y]) (hyE:R E y u)
    (hs:bc E lM a):bc E lN a:=by
  have Mm:∀(cs:List V) (off:Nat) (z:V) (j:Nat),(setAt cs off [z])[j]?=if j=off then (cs[j]?).map fun _=>z else cs[j]?:=by
    intro cs;induction cs with
    | nil=>intro off z j;cases off<;>simp[setAt,over]
    | cons c cs ih =>
      intro off z j;cases off with
      | zero=>cases j<;>simp[setAt,over]<;>(cases cs<;>simp[over])
      | succ off=>cases j<;>simp[setAt,ih]
  have aqY:∀(cs:List V) (off:Nat) (z:V),(setAt cs off [z]).length=cs.length:=by
    intro cs;induction cs with
    | nil=>intro off z;cases off<;>simp[setAt,over]
    | cons c cs ih=>intro off z;cases off<;>simp[setAt,over,ih]<;>(cases cs<;>simp[over])
  have box:∀(E1:Env) (b:Nat) (cs:List V) (off:Nat),R E1 y u→ig E1 b (setAt cs off [.raw u])→ig E1 b (setAt cs off [y]):=fun E1 b cs off hR ⟨c,e,k1,k2,k3⟩=>by
    refine⟨c,e,k1,by rw[aqY] at k2 ⊢;exact k2,fun j x hx=>?_⟩;rw[Mm] at hx
    by_cases hj:j=off
    · rw[ak hj] at hx;simp only[cx] at hx;obtain⟨z,hz,rfl⟩:=hx;obtain⟨v,hv,hr⟩:=k3 j (.raw u) (by rw[Mm,ak hj,hz];rfl);simp only[R] at hr;subst hr;exact⟨v,hv,hR⟩
    · rw[ah hj] at hx;exact k3 j x (by rw[Mm,ah hj];exact hx)
  cases p with
  | ptr p off =>
    cases p with
    | jt b=>simp[cJ] at h1
    | loc i =>
      simp only[cJ,gl] at h1 U;obtain⟨cs,e1,e2⟩:=h1;obtain⟨cs',e3,e4⟩:=U;rw[e1] at e3;simp only[aH] at e3;subst e3;split at e2<;>simp at e2;split at e4<;>simp at e4;subst e2 e4;refine⟨hs.ok,⟨fun j ds hj=>?_,fun j hj=>hs.cg.none j (by simpa using hj)⟩,hs.defers,hs.slot⟩;have aj:=(dD.1 e1).1
      by_cases eE:j=i
      · subst eE;simp only[Nx aj,aH] at hj;subst hj;obtain⟨b,q1,q2,q3⟩:=hs.cg.box j (setAt cs off [.raw u]) (by simp[V.cells,aj]);rw[UI];exact⟨b,q1,q2,box E b cs off hyE q3⟩
      · simp only[A8 (Ne.symm eE)] at hj;exact hs.cg.box j ds (by simp only[A8 (Ne.symm eE)];exact hj)
    | out i =>
      simp only[cJ,gl] at h1 U;obtain⟨cs,e1,e2⟩:=h1;obtain⟨cs',e3,e4⟩:=U;rw[e1] at e3;simp only[aH] at e3;subst e3;split at e2<;>simp at e2;split at e4<;>simp at e4;subst e2 e4;refine⟨⟨fun j ds hj=>?_,hs.ok.aC,hs.ok.fresh,hs.ok.nt,hs.ok.bR⟩,hs.cg,hs.defers,hs.slot⟩
      by_cases eE:j=i
      · subst eE;rw[ae.cX] at hj;simp only[aH] at hj;subst hj;obtain⟨q2,q3⟩:=hs.ok.box j (setAt cs off [.raw u]) (by simp[V.cells,ae.set]);rw[UI];exact⟨q2,box E.nl j cs off hy q3⟩
      · rw[ae.dc _ _ eE] at hj;exact hs.ok.box j ds (by rw[ae.dc _ _ eE];exact hj)
  | _=>simp[cJ] at h1
theorem Yp {st lN:St} {u:Value} {y:V} {p:V} (U:cJ st 1 y p=some lN) (hu:u.oneCell' = true):∃lM,cJ st 1 (.raw u) p=some lM∧lM.t=st.t:=by
  cases p with
  | ptr p off =>
    cases p with
    | jt b=>simp[cJ] at U
    | loc i =>
      simp only[cJ,gl] at U;obtain⟨cs',e3,e4⟩:=U;split at e4<;>simp at e4;rename_i hc;exact⟨⟨st.t,st.loc.set i (setAt cs' off (V.raw u).cells),st.out⟩,by simp only[cJ,e3,s9];rw[ak ⟨hc.1,by simp[V.wd,hu],by simp[V.cells,bE,V.one,hu]⟩],rfl⟩
    | out i =>
      simp only[cJ,gl] at U;obtain⟨cs',e3,e4⟩:=U;split at e4<;>simp at e4;rename_i hc;exact⟨⟨st.t,st.loc,st.out.set i (setAt cs' off (V.raw u).cells)⟩,by simp only[cJ,e3,s9];rw[ak ⟨hc.1,by simp[V.wd,hu],by simp[V.cells,bE,V.one,hu],by simp[V.cells,bm,V.cc]⟩],rfl⟩
  | _=>simp[cJ] at U
theorem Mv {st:St} {y p:V} {n τ m:Nat}:cJ ⟨st.t,st.loc,st.out.aL τ m⟩ n y p=(cJ st n y p).map fun s=>⟨s.t,s.loc,s.out.aL τ m⟩:=by
  cases p with
  | ptr p off =>
    cases p with
    | jt b=>simp[cJ]
    | loc i =>
      simp only[cJ];cases st.loc[i]? with
      | none=>rfl
      | some cs=>simp only[s9];split<;>rfl
    | out i =>
      simp only[cJ];show ((st.out.box i).bind _)=_;cases st.out.box i with
      | none=>rfl
      | some cs=>simp only[s9];split<;>rfl
  | _=>rfl
theorem Yq {st aq : St} {y p:V} {n:Nat} (h:cJ st n y p=some aq):aq.out.aC=st.out.aC∧aq.t=st.t:=by
  cases p with
  | ptr p off =>
    cases p with
    | jt b=>simp[cJ] at h
    | loc i =>
      simp only[cJ,gl] at h;obtain⟨cs,_,e2⟩:=h;split at e2<;>simp at e2;subst e2;exact⟨rfl,rfl⟩
    | out i =>
      simp only[cJ,gl] at h;obtain⟨cs,_,e2⟩:=h;split at e2<;>simp at e2;subst e2;exact⟨rfl,rfl⟩
  | _=>simp[cJ] at h
section
variable {P:Program} {ops:Array Oper}
structure Tl (ops:Array Oper) (hi:HI) (nA τ:Nat) (l:List (List V)) (xs:List V) (p:V) (hF:Bool) (E0:Env) (tw:List V) (s1:St) (listed:Array Bool) (a:Act) (w:World):Prop where
  size:listed.size=ops.size
  pre:∀j,j≤nA→listed.getD j false=true
  rel:∃E st b cap,E.w=w∧Fr E0 E∧bc E st a∧st.t=tw∧a.tmps.getD hi.d9 undef = .slice (some ⟨b,0,none⟩) (l.length+1) cap ∧
    (listed.getD (nA+1) false=true→a.tmps.getD hi.d10 undef = .pointer (some ⟨b,l.length*hi.k,none⟩)) ∧
    (hF=true→listed.getD (nA+3) false=true→listed.getD (ops.size - 1) false=false→R E p (a.tmps.getD hi.dF undef)) ∧
    (listed.getD (nA+2) false=false→yV E τ hi.k l b cap) ∧
    (listed.getD (nA+2) false=true→R E.nl (.sl (.tk τ) hi.k (l++[xs])) (.slice (some ⟨b,0,none⟩) (l.length+1) cap)) ∧
    (if listed.getD (ops.size - 1) false=true then cJ (if listed.getD (nA+2) false=true then ⟨s1.t,s1.loc,s1.out.aL τ (l.length+1)⟩ else s1) 1 (.raw (.slice (some ⟨b,0,none⟩) (l.length+1) cap)) p=some st
      else st=if listed.getD (nA+2) false=true then ⟨s1.t,s1.loc,s1.out.aL τ (l.length+1)⟩ else s1)
theorem X9 {l:List V} {n:Nat} {x:V} (h:l[n]?=some x):l.set n x=l:=by
  have:=(dD.1 h)
  obtain⟨h1,U⟩:=this;rw[←U,Zp]
theorem wb {listed:Array Bool} {i:Nat} (hi:i<listed.size) (j:Nat):(listed.setIfInBounds i true).getD j false=if j=i then true else listed.getD j false:=by
  by_cases h:j=i
  · subst h;simp[hi]
  · rw[ah h,nO,yQ (Ne.symm h),←nO]
theorem EE {st aq : St} (h:st.t=aq.t) (x:X):ev st x=ev aq x:=by cases x<;>simp[ev,h]
structure TF (P:Program) (ops:Array Oper) (hi:HI) (nA:Nat) (hF:Bool) (τ:Nat) (l:List (List V)) (xs:List V) (p:V) (s1:St):Prop where
  hf:HF P (ops.getD nA default) (ops.getD (nA+1) default) (ops.getD (nA+2) default) (ops.getD (ops.size - 1) default) (if hF then some (ops.getD (nA+3) default) else none) hi
  size:nA+(if hF then 5 else 4)=ops.size
  eI:iV (ops.getD (nA+1) default) nA=true
  eS:iV (ops.getD (nA+2) default) nA=true∧iV (ops.getD (nA+2) default) (nA+1)=true
  eO:iV (ops.getD (ops.size - 1) default) nA=true
  eF:hF=true→iV (ops.getD (nA+3) default) nA=true∧iV (ops.getD (ops.size - 1) default) (nA+3)=true
  len:∃j,ev s1 hi.len = .int j l.length
  aC:s1.out.aC τ=some l.length
  wd:(ev s1 hi.x).wd=some hi.k
  one:bE (ev s1 hi.x).cells=true
  cc:bm (ev s1 hi.x).cells=true
  exs:xs=a9 (ev s1 hi.x).cells
  d9:s1.t[hi.d9]?=some .any
  d10:s1.t[hi.d10]?=some .any
  dF:hF=true→s1.t[hi.dF]?=some .any
  mB:BH hi.fo (ev s1 hi.addr)=some p
  st:∃lN,cJ s1 1 (.sl (.tk τ) hi.k (l++[xs])) p=some lN
theorem vV {ops:Array Oper} {i:Nat} {o:Oper} (h:ops[i]?=some o):ops.getD i default=o:=by simp[nO,h]
theorem Dm {o:Oper} {a:Act} (h:o.guard=none):Region.wanted o (yielded ops a.tmps)=true:=by simp[Region.wanted,h]
theorem arJ {hi:HI} {nA:Nat} {hF:Bool} {τ:Nat} {l:List (List V)} {xs:List V} {p:V} {s1:St} (T:TF P ops hi nA hF τ l xs p s1) {E0:Env} {Q:Exit→Act→World→Prop} {listed:Array Bool} {a:Act} {w:World}
    (h:Tl ops hi nA τ l xs p hF E0 s1.t s1 listed a w) {i:Nat} (hr:i∈Region.ready .any ops listed) {K:Act→World→Prop}
    (hK:∀a w,Tl ops hi nA τ l xs p hF E0 s1.t s1 (listed.setIfInBounds i true) a w→K a w):wpOp P ops Q i K a w:=by
  obtain⟨vE,o,ho,b8⟩:=mem_ready.1 hr;have aj:i<ops.size:=(gj.1 ho).1;have kq : i<listed.size:=by rw[h.size];exact aj
  have zV : listed.getD i false=false:=by rw[←pQ _ _ kq];exact vE
  have hgt:nA<i:=by
    rcases nS nA i with hq | hq
    · exact hq
    · rw[h.pre i hq] at zV;simp at zV
  have ly:=wb kq;have kV:=vV ho;have vD : (listed.setIfInBounds i true).size=ops.size:=by simp[h.size]
  have Fx : ∀j,j≤nA→(listed.setIfInBounds i true).getD j false=true:=fun j hj=>by rw[ly,ah (by omega)];exact h.pre j hj
  obtain⟨E,st,bk,cap,rfl,aS,hs,dH,zH,Fe,JE,Fm,JM,hO⟩:=h.rel;have bO:=T.size;have Cc:s1.t.length=a.tmps.size:=by have:=eM hs.slot;rw[dH] at this;simpa using this
  have TS:hi.d9<a.tmps.size:=by rw[←Cc];exact(dD.1 T.d9).1
  have Jt:hi.d10<a.tmps.size:=by rw[←Cc];exact(dD.1 T.d10).1
  have at6:nA+2<ops.size - 1:=by rw[←bO];cases hF<;>simp<;>omega
  have kx:∀j,j≠i→(listed.setIfInBounds i true).getD j false=listed.getD j false:=fun j hj=>by rw[ly,ah hj]
  have made:(listed.setIfInBounds i true).getD i false=true:=by rw[ly,ak rfl]
  unfold wpOp;rw[ho];simp only;have Ra:∀(E' : Env) (aq : St) (a:Act) (d:Nat) (v:Value),aq.t=s1.t→s1.t[d]?=some .any→bc E' aq a→bc E' aq (a.put (some d) v):=fun E' aq a d v e1 e2 h=>by
    have:=bc.put h (v:=.any) (x:=v) (by simp[R]) (some d)
    have e:aq.put (some d) .any=aq := by
      simp only[St.put];rw[e1,X9 e2,←e1]
    rw[e] at this;exact this
  by_cases hI:i=nA+1
  · -- the element's address
    subst hI;obtain⟨c,t,u,e,inf,z,rk,rB,uf,uL,_,_,_,_,q5,_,q7,_,_,yr,_,_,_,WU,q15,_,_⟩:=T.hf.app;rw[kV] at WU;have hg:=T.hf.guard.2.1;rw[kV] at hg;have kj:=T.hf.dst.2.1;rw[kV] at kj;rw[Dm hg,ak rfl];left;obtain⟨jk,hlen⟩:=T.len;have Jb:=lD (E:=E) (st:=st) (a:=a) hs.slot q15;rw[EE dH,hlen] at Jb;simp only[R] at Jb;have hn:dd P e=some hi.k:=by simp[dd,q7,yr]
    have cn:(execOp a.eval o).run P E.w = .ok (.value (.pointer (some ⟨bk,l.length*hi.k,none⟩))) E.w:=by
      have ai_ : a.eval (.tmp hi.d9) = .slice (some ⟨bk,0,none⟩) (l.length+1) cap:=zH;simp[execOp,WU,ai_,Jb,Instr.indexAt,asIntOf,run_underlying q5,mh hn,kb]
    unfold Oper.wp;rw[cn];refine hK _ _ ⟨vD,Fx,E,st,bk,cap,rfl,aS,?_,dH,?_,?_,?_,?_,?_,?_⟩
    · rw[kj];exact Ra E st a hi.d10 _ dH T.d10 hs
    · rw[kj,yq Jt,ah T.hf.ne.1];exact zH
    · intro _;rw[kj,yq Jt,ak rfl]
    · intro h1 U h3;rw[ly,ah (by omega)] at U;rw[kx _ (by omega)] at h3;rw[kj,yq Jt,ah (Ne.symm T.hf.ne.2.2)];exact JE h1 U h3
    · intro h1;rw[ly,ah (by omega)] at h1;exact Fm h1
    · intro h1;rw[ly,ah (by omega)] at h1;exact JM h1
    · rw[kx _ (by omega),kx _ (by omega)];exact hO
  by_cases hS:i=nA+2
  · -- the element is filled in
    subst hS;obtain⟨c,t,u,e,inf,z,rk,rB,uf,uL,_,_,_,_,_,_,q7,_,_,yr,_,_,_,_,_,WV,q17⟩:=T.hf.app;rw[kV] at WV;have hg:=T.hf.guard.2.2.1;rw[kV] at hg;have kj:=T.hf.dst.2.2.1;rw[kV] at kj;rw[Dm hg,ak rfl];left;have TA : listed.getD (nA+1) false=true:=by
      have:=T.eS.2
      rw[kV] at this;obtain⟨e,h1,U,h3⟩:=E9 this;rw[←h3];exact b8 e h1 U
    have hX:=lD (E:=E) (st:=st) (a:=a) hs.slot q17;rw[EE dH] at hX;have hn:dd P e=some hi.k:=by simp[dd,q7,yr]
    obtain⟨r1,r2⟩:=uW hX T.wd;have r3:=RL.nz (E:=E) (E' := E.nl) _ (Env.le.refl E.nl) T.cc r1;have r4:=ui r1 T.one;obtain⟨E',k1,k2,k3,k4,k5⟩:=ajE (P:=P) hs (Fm zV) hn (RL.erase _ r3) r2 r4;rw[←T.exs] at k4;have cn:(execOp a.eval o).run P E.w = .ok .skip E'.w:=by
      have e1:a.eval (.tmp hi.d10) = .pointer (some ⟨bk,l.length*hi.k,none⟩):=Fe TA;simp[execOp,WV,e1,GV k1]
    unfold Oper.wp;rw[cn];show K (a.put o.dst undef) E'.w;rw[kj];have hle:E.le E' := k2.le fun j b hb=>by rw[k5];exact hb
    refine hK _ _ ⟨vD,Fx,E',_,bk,cap,rfl,aS.trans k2,k3,dH,zH,?_,?_,?_,?_,?_⟩
    · intro _;exact Fe TA
    · intro h1 U h3;rw[ly,ah (by omega)] at U;rw[kx _ (by omega)] at h3;exact R.mono _ hle (JE h1 U h3)
    · intro h1;rw[ly,ak rfl] at h1;simp at h1
    · intro _;exact k4
    · rw[kx (ops.size - 1) (by omega),made];rw[zV] at hO;simp only[cI,bP] at hO;simp only[b7];split at hO
      · rename_i h1;rw[ak h1,Mv,hO];rfl
      · rename_i h1;rw[ah h1,hO]
  by_cases hOi:i=ops.size - 1
  · -- the list is laid down
    subst hOi;obtain⟨t2,oJ,q1,q2,q3⟩:=T.hf.out;rw[kV] at q1;have hg:=T.hf.guard.2.2.2;rw[kV] at hg;have kj:=T.hf.dst.2.2.2;rw[kV] at kj;rw[Dm hg,ak rfl];left;rw[zV] at hO;simp only[cI,bP] at hO;have aiU:R E p (a.eval oJ):=by
      cases oZ:hF with
      | false =>
        rw[oZ] at q3;simp only[cI,bP] at q3;have km:=T.mB;rw[q3.1] at km;simp only[BH,aH] at km
        have:=lD (E:=E) (st:=st) (a:=a) hs.slot q3.2
        rw[EE dH,km] at this;exact this
      | true =>
        rw[oZ] at q3;simp only[b7] at q3;obtain⟨off,_,ha,_⟩:=q3;subst ha
        have:=(T.eF oZ).2
        rw[kV] at this;obtain⟨e,h1,U,h3⟩:=E9 this;exact JE oZ (by rw[←h3];exact b8 e h1 U) zV
    obtain⟨lN,qc⟩:=T.st
    let v:Value:=.slice (some ⟨bk,0,none⟩) (l.length+1) cap
    have ey:v.oneCell' = true:=rfl;obtain⟨aq,Co,ajL⟩:∃aq,cJ st 1 (.raw v) p=some aq ∧ aq.t=st.t:=by
      rw[hO];split
      · exact Yp (by rw[Mv,qc];rfl) ey
      · exact Yp qc ey
    refine Oper.wp_mono ?_ (Y3 (Q:=Q) (K:=fun _ s=>s=aq) hs (by omega) q1 q2 aiU (ay:=.raw v) (by simp only[R];exact zH) Co rfl);rintro a' w' ⟨E',v',u',s',rfl,iW,ct,_,rfl,rfl⟩;rw[kj];simp only[Act.put];have qf:listed.getD (nA+2) false=false→E'.aC τ=some l.length:=fun hq=>by
      refine ct.ok.aC τ _ ?_;rw[(Yq Co).1,hO,hq];simpa using T.aC
    refine hK _ _ ⟨vD,Fx,E',_,bk,cap,rfl,aS.trans iW,ct,by rw[ajL,dH],zH,?_,?_,?_,?_,?_⟩
    · intro h1;rw[kx _ (by omega)] at h1;exact Fe h1
    · intro _ _ h3;rw[ly,ak rfl] at h3;simp at h3
    · intro h1;rw[kx _ (by omega)] at h1;exact(Fm h1).mono iW (qf h1)
    · intro h1;rw[kx _ (by omega)] at h1;exact R.mono _ iW.nl (JM h1)
    · rw[made,kx _ (by omega)];simp only[b7];rw[←hO];exact Co
  -- the field's address
  have oZ:hF=true:=by
    cases hq:hF with
    | true=>rfl
    | false=>rw[hq] at bO;simp at bO;omega
  have JQ:i=nA+3:=by rw[oZ] at bO;simp at bO;omega
  subst JQ;obtain⟨t2,oJ,_,_,q3⟩:=T.hf.out;rw[oZ] at q3;simp only[b7] at q3;obtain⟨off,q4,_,q5,q6,q7⟩:=q3;rw[kV] at q5 q6 q7;rw[Dm q6,ak rfl];left;have Ju:hi.dF<a.tmps.size:=by rw[←Cc];exact(dD.1 (T.dF oZ)).1
  have km:=T.mB;rw[q4] at km;have jw:(ar.mB off hi.addr).aM P st (fun v s=>v=p∧s=st):=by
    simp only[ar.aM];rw[EE dH];cases hq:ev s1 hi.addr<;>rw[hq] at km<;>simp[BH] at km ⊢;exact km
  refine Oper.wp_mono ?_ (CM (Q:=Q) q7 hs jw);rintro a' w' ⟨E',v',u',s',rfl,iW,ct,hv,rfl,rfl,rfl⟩;rw[q5];have qf:listed.getD (nA+2) false=false→E'.aC τ=some l.length:=fun hq=>by
    refine ct.ok.aC τ _ ?_;rw[hq] at hO;simp only[cI,bP] at hO;split at hO
    · rw[(Yq hO).1];exact T.aC
    · rw[hO];exact T.aC
  refine hK _ _ ⟨vD,Fx,E',_,bk,cap,rfl,aS.trans iW,Ra E' _ a hi.dF _ dH (T.dF oZ) ct,dH,?_,?_,?_,?_,?_,?_⟩
  · rw[yq Ju,ah T.hf.ne.2.1];exact zH
  · intro h1;rw[ly,ah (by omega)] at h1;rw[yq Ju,ah T.hf.ne.2.2];exact Fe h1
  · intro _ _ _;rw[yq Ju,ak rfl];exact hv
  · intro h1;rw[ly,ah (by omega)] at h1;exact(Fm h1).mono iW (qf h1)
  · intro h1;rw[ly,ah (by omega)] at h1;exact R.mono _ iW.nl (JM h1)
  · have h5:nA+5=ops.size:=by rw[oZ] at bO;simpa using bO
    rw[kx _ (by omega),kx _ (by omega)];exact hO
end
def AV (fo:Option Nat) (d:Nat) (t:List V):List V:=match fo with | some _=>t.set d .any | none=>t
def oz (hi:HI) (t:List V):List V:=AV hi.fo hi.dF ((t.set hi.d9 .any).set hi.d10 .any)
def DE (hi:HI) (K:St→Prop) (st:St):Prop:=Hw hi K ⟨oz hi st.t,st.loc,st.out⟩
theorem Q_ {t:List V} {d e:Nat} (h:t[e]?=some .any):(t.set d .any)[e]?=some .any:=by
  have aj:=(dD.1 h).1
  by_cases hd:d=e
  · subst hd;simp[aj]
  · rw[A8 hd];exact h
theorem H3 {t:List V} {d:Nat} (h:d<t.length):(t.set d .any)[d]?=some .any:=by simp[h]
theorem MX (hi:HI) (t:List V):(oz hi t).length=t.length:=by
  unfold oz AV;cases hi.fo<;>simp
theorem YO {fo:Option Nat} {d e:Nat} {t:List V} (h:t[e]?=some .any):(AV fo d t)[e]?=some .any:=by
  unfold AV;cases fo
  · exact h
  · exact Q_ h
theorem asV {hi:HI} {t:List V} (h:hi.d9<t.length):(oz hi t)[hi.d9]?=some .any:=YO (Q_ (H3 h))
theorem asU {hi:HI} {t:List V} (h:hi.d10<t.length):(oz hi t)[hi.d10]?=some .any:=YO (H3 (by simpa using h))
theorem asW {hi:HI} {t:List V} {off:Nat} (hf:hi.fo=some off) (h:hi.dF<t.length):(oz hi t)[hi.dF]?=some .any:=by
  unfold oz AV;rw[hf];exact H3 (by simpa using h)
theorem asX {E:Env} {hi:HI} {t:List V} {us:List Value} (h:RL E t us):RL E (oz hi t) us:=by
  unfold oz AV;cases hi.fo
  · exact wK _ (wK _ h)
  · exact wK _ (wK _ (wK _ h))
theorem X4 {S:Nat→Bool} {n:Nat}:∀{tr:List TR} {i:Nat},(∀j,S (i+j)=decide (i+j<n))→bQ S i tr=tr.take (n - i)
  | [],i,_=>by simp[bQ]
  | r :: tr, i, h => by
    have h0:=h 0;rw[rL] at h0;have ih:=X4 (S:=S) (n:=n) (tr:=tr) (i:=i+1) fun j=>by
      have:=h (j+1)
      rw[show i+(j+1)=i+1+j from by omega] at this;exact this
    simp only[bQ,h0]
    by_cases hi:i<n
    · simp only[hi,bZ,b7,ih];rw[show n - i=(n - (i+1))+1 from by omega,oE]
    · simp only[hi,fh,cI,bP,ih];rw[show n - (i+1)=0 from by omega,show n - i=0 from by omega];simp
theorem Xw:∀{a b:List TR} {t:List V},runT (a++b) t=runT b (runT a t)
  | [],_,_=>rfl
  | r::a,b,t=>by simp only[fN,runT];exact Xw
theorem Xr:∀{a b:List TR} {s:cy},cP (a++b) s=cP b (cP a s)
  | [],_,_=>rfl
  | r::a,b,t=>by simp only[fN,cP];exact Xr
theorem Xv {E:Env} {us:List Value}:∀{tr:List TR} {t:List V},(∀r∈tr,r.val = .any)→RL E t us→RL E (runT tr t) us
  | [],_,_,h=>h
  | r :: tr, t, hv, h => by
    simp only[du] at hv;simp only[runT];refine Xv hv.2 ?_;cases hd:r.dst with
    | none=>exact h
    | some d=>simp only[jd,hv.1];exact wK d h
theorem Xq:∀{tr:List TR} {s:cy},(∀r∈tr,r.aT=false)→cP tr s=s
  | [],_,_=>rfl
  | r :: tr, s, h => by
    simp only[du] at h;simp only[cP,h.1,cI,bP];exact Xq h.2
section
variable {P:Program} {ops:Array Oper}
theorem alS {l:List (AO × List Nat)} {hi:HI} (h:Ge P ops=some (l,hi)) :
    ∃b,uN ops l b∧b.length=ops.size∧P.follows .mixedOrders=true∧(∀(i:Nat) o,i<fx ops→ops[i]?=some o→∃x:AO × List Nat,l[i]?=some x∧pw P ops o=some x.1) ∧
      (∀(i:Nat) o,fx ops≤i→ops[i]?=some o→∃ms,l[i]?=some (dummy o,ms)) ∧
      HF P (ops.getD (fx ops) default) (ops.getD (fx ops+1) default) (ops.getD (fx ops+2) default) (ops.getD (ops.size - 1) default) (qa ops) hi ∧
      fx ops+(if (qa ops).isSome then 5 else 4)=ops.size∧(∀j,j<fx ops→iV (ops.getD (fx ops) default) j=true) ∧
      iV (ops.getD (fx ops+1) default) (fx ops)=true∧(iV (ops.getD (fx ops+2) default) (fx ops)=true∧iV (ops.getD (fx ops+2) default) (fx ops+1)=true) ∧
      iV (ops.getD (ops.size - 1) default) (fx ops)=true∧(∀F,qa ops=some F→iV F (fx ops)=true∧iV (ops.getD (ops.size - 1) default) (fx ops+3)=true):=by
  unfold Ge at h;split at h
  case h_2=>simp at h
  rename_i A I S O l0 a1 a2 a3 a4 a5;split at h
  case h_2=>simp at h
  rename_i cT ai3;split at h
  case isFalse=>simp at h
  rename_i hc;simp only[aH,mu] at h;obtain⟨rfl,rfl⟩:=h;unfold Ug at hc;simp only[a_,bH] at hc;obtain⟨⟨⟨⟨⟨c1,c2⟩,c3⟩,c4⟩,c5⟩,c6⟩:=hc;rw[vV a1,vV a2,vV a3,vV a4];have hlen:=(facts c1).size;have hA:fx ops<ops.size:=(gj.1 a1).1;obtain⟨g1,g2⟩:=KX a5;have hl0:l0.length=fx ops:=by rw[g1];simp;omega
  refine⟨_,facts c1,?_,c2,fun i o hi ho=>?_,fun i o hi ho=>?_,ajz ai3,c3,fun j hj=>?_,c5.1.1.1,⟨c5.1.1.2,c5.1.2⟩,c5.2,fun F hF=>?_⟩
  · unfold u_ at c1;simp only[a_,bH] at c1;exact c1.1.1.2
  · obtain⟨x,k1,k2⟩:=g2 i o (by rw[DM,ak hi];simpa using ho);obtain⟨ms,hm⟩:=YN (l1:=l0++(ops.toList.drop (fx ops)).map dummy) (b:=sH ops.toList []) (i:=i) (y:=x) (by rw[oC (by omega)];exact k1) (by rw[hlen];omega);exact⟨_,hm,k2⟩
  · have aj:=(gj.1 ho).1;exact YN (by rw[wE (by omega),s7,rH,hl0,show fx ops+(i - fx ops)=i from by omega];simp[ho]) (by rw[hlen];exact aj)
  · simp only[jl,wH] at c4;exact c4 j hj
  · rw[hF] at c6;simpa using c6
end
section
variable {P:Program} {ops:Array Oper}
theorem ajA (bO:fx ops+(if (qa ops).isSome then 5 else 4)=ops.size):qa ops=if (qa ops).isSome=true then some (ops.getD (fx ops+3) default) else none:=by
  cases hq:qa ops with
  | none=>rfl
  | some F =>
    rw[hq] at bO;simp only[DX,b7] at bO ⊢;unfold qa at hq;split at hq
    case h_2=>simp at hq
    rename_i F0 h0;split at hq
    · simp only[aH] at hq;subst hq;rw[vV (i:=fx ops+3) (by rw[←h0];congr 1;omega)]
    · simp at hq
theorem ajD {l:List (AO × List Nat)} {hi:HI} {id:Nat} (hl:Ge P ops=some (l,hi)) {K:St→Prop} {st:St} (h:bL P l [(st.loc,st.out)] [] (DE hi K) st) :
    gu P (.region id ops true) (fun e aq => e = .normal∧K aq) st:=by
  obtain⟨b,F,kT,hf,nj,ai',zD,bO,eA,eI,eS,eO,eF⟩:=alS hl;have zC:=ajA bO;intro E a hs;refine wp_region_any hf ?_;obtain⟨aS,_,lx⟩:=AB hs ((Ext.refl E.w).drew);obtain⟨tr,ht,_,hK⟩:=Dk (t:=st.t) (s:=(st.loc,st.out)) h;have o6:[(st.loc,st.out)]++iH tr=(st.loc,st.out)::iH tr:=rfl;rw[o6] at ht;have hlen:=Bh ht;generalize hnA:fx ops=nA at *;generalize hhF:(qa ops).isSome=hF at *;have atZ:nA+3<ops.size:=by rw[←bO];split<;>omega
  have hoA:ops[nA]?=some (ops.getD nA default):=by
    rw[gi (by omega)];simp[show nA<ops.size by omega]
  -- the tail's steps in the run say nothing
  have Uz:∀r∈tr.drop nA,r.val = .any∧r.aT=false:=fun r hr=>by
    obtain⟨j,hj⟩:=Zn.1 hr;rw[rH] at hj;have xH:nA+j<ops.size:=by rw[←F.size,hlen];exact(dD.1 hj).1
    obtain⟨ms,hm⟩:=ai' (nA+j) _ (by omega) (gi xH);obtain⟨_,e2,run,e3,e4,_⟩:=D4 (i:=0) (k:=nA+j) ht hm hj;simp only[dummy] at e3;subst e3;obtain⟨e5,_⟩:=e4 rfl;simp only[dummy,ar.aM,Exact,ev] at e5;exact⟨e5.1.symm,e2⟩
  have Kg:∀{E' : Env} {us:List Value},RL E' (runT (tr.take nA) st.t) us→RL E' (runT tr st.t) us:=fun {E' us} h=>by
    have e:runT tr st.t=runT (tr.drop nA) (runT (tr.take nA) st.t):=by rw[←Xw,nR]
    rw[e];exact Xv (fun r hr=>(Uz r hr).1) h
  have Uv:cP tr (st.loc,st.out)=cP (tr.take nA) (st.loc,st.out):=by
    have e:cP tr (st.loc,st.out)=cP (tr.drop nA) (cP (tr.take nA) (st.loc,st.out)):=by rw[←Xr,nR]
    rw[e];exact Xq (fun r hr=>(Uz r hr).2)
  -- what the tail asks
  obtain⟨τ,ll,c,t',j,es,ez,Sj,hbig,qf,pk,ey,nk,h9,gS,Tz,p,hp,lN,qc,hKK⟩:=hK;generalize Ur:(⟨oz hi (bB (runT tr st.t) (cP tr (st.loc,st.out))).t,(bB (runT tr st.t) (cP tr (st.loc,st.out))).loc,(bB (runT tr st.t) (cP tr (st.loc,st.out))).out⟩:St)=s1 at es ez Sj qf pk ey nk h9 gS Tz hp qc;have xK:s1.t=oz hi (runT tr st.t):=by rw[←Ur];rfl
  have Us:s1.loc=(cP tr (st.loc,st.out)).1∧s1.out=(cP tr (st.loc,st.out)).2:=by rw[←Ur];exact⟨rfl,rfl⟩
  have sf:hF=true→∃off,hi.fo=some off:=fun hq=>by
    obtain⟨_,_,_,_,q3⟩:=zD.out;rw[zC,ak hq] at q3;obtain⟨off,h1,_⟩:=q3;exact⟨off,h1⟩
  have BP : hi.d9<(runT tr st.t).length:=by rw[xK,MX] at h9;exact h9
  have aiM : hi.d10<(runT tr st.t).length:=by rw[xK,MX] at gS;exact gS
  have T:TF P ops hi nA hF τ ll (a9 (ev s1 hi.x).cells) p s1:=by
    refine⟨by rw[zC] at zD;exact zD,bO,eI,eS,eO,fun hq=>?_,⟨j,Sj⟩,qf,pk,ey,nk,rfl,by rw[xK];exact asV BP,by rw[xK];exact asU aiM,fun hq=>?_,hp,⟨lN,qc⟩⟩
    · rw[ak hq] at zC;exact eF _ zC
    · obtain⟨off,ho⟩:=sf hq
      have:=Tz (by rw[ho];rfl)
      rw[xK,MX] at this;rw[xK];exact asW ho this
  let Q' : Exit→Act→World→Prop:=fun e a' w' => ∃E' aq,E'.w=w' ∧ bc E' aq a' ∧ Fr E E' ∧ e = .normal∧K aq
  -- the end
  have fin:∀(listed:Array Bool) (a:Act) (w:World),Tl ops hi nA τ ll (a9 (ev s1 hi.x).cells) p hF E s1.t s1 listed a w→(∀j,j<ops.size→listed.getD j false=true)→Q' .normal a w:=fun listed a w h b8=>by
    obtain⟨E',aq,bk,cap,h1,U,h3,h4,_,_,_,_,h5,h6⟩:=h.rel;rw[b8 _ (by omega),b8 _ (by omega)] at h6;simp only[b7] at h6;have h5:=h5 (b8 _ (by omega));have ajM : cJ ⟨s1.t,s1.loc,s1.out.aL τ (ll.length+1)⟩ 1 (.sl (.tk τ) hi.k (ll++[a9 (ev s1 hi.x).cells])) p=some ⟨lN.t,lN.loc,lN.out.aL τ (ll.length+1)⟩:=by rw[Mv,qc];rfl
    have h7:R E' (.sl (.tk τ) hi.k (ll++[a9 (ev s1 hi.x).cells])) (.slice (some ⟨bk,0,none⟩) (ll.length+1) cap):=by
      simp only[R] at h5 ⊢;exact h5
    exact⟨E',_,h1,ars h6 ajM h5 rfl h7 h3,U,rfl,hKK⟩
  have JA:∀(listed:Array Bool) (i:Nat),listed.size=ops.size→i∈Region.ready .any ops listed→∀fuel,listed.toList.count false≤fuel+1→(listed.setIfInBounds i true).toList.count false≤fuel:=fun listed i bO hi fuel hc=>by
    obtain⟨h1,o,ho,_⟩:=mem_ready.1 hi;have aj:i<listed.size:=by rw[bO];exact(gj.1 ho).1
    have e:listed.toList[i]?=some false:=by
      have:listed[i]?=some false:=by
        rw[gi aj];simpa [aj] using h1
      simpa using this
    have:=count_set listed.toList i e
    simp only[Hq];omega
  have Fg:∀(listed:Array Bool),listed.size=ops.size→Region.ready .any ops listed=[]→∀n j,j<n→j<ops.size→listed.getD j false=true:=fun listed bO hr n=>by
    induction n with
    | zero=>intro j h;omega
    | succ n ih =>
      intro j hj fY;cases hq:listed.getD j false with
      | true=>rfl
      | false =>
        have:j∈Region.ready .any ops listed:=mem_ready.2 ⟨by rw[pQ _ _ (by rw[bO];exact fY)];exact hq,ops[j],gi fY,fun e he hb=>by
          have:=F.back j _ (gi fY) e he hb
          exact ih e.on (by omega) (by omega)⟩
        rw[hr] at this;simp at this
  have hzero:∀(listed:Array Bool),listed.size=ops.size→listed.toList.count false≤0→Region.ready .any ops listed=[]:=fun listed bO hc=>by
    cases hq:Region.ready .any ops listed with
    | nil=>rfl
    | cons j js =>
      obtain⟨h1,o,ho,_⟩:=mem_ready.1 (show j∈Region.ready .any ops listed by rw[hq];simp);have aj:j<listed.size:=by rw[bO];exact(gj.1 ho).1
      have:false∈listed.toList:=by
        have e:listed[j]?=some false:=by
          rw[gi aj];simpa [aj] using h1
        exact pI (by simpa using e)
      have:=Nq.2 this
      omega
  -- the tail,in every order
  have tail:∀(fuel:Nat) (listed:Array Bool) (a:Act) (w:World),Tl ops hi nA τ ll (a9 (ev s1 hi.x).cells) p hF E s1.t s1 listed a w→listed.toList.count false≤fuel→wpAny P .any ops Q' fuel listed a w:=by
    intro fuel;induction fuel with
    | zero =>
      intro listed a w h hc;have hr:=hzero listed h.size hc;exact⟨hr,fin listed a w h fun j hj=>Fg listed h.size hr (j+1) j (by omega) hj⟩
    | succ fuel ih =>
      intro listed a w h hc;refine⟨fun hr=>fin listed a w h fun j hj=>Fg listed h.size hr (j+1) j (by omega) hj,fun i cT => ?_⟩;exact arJ T h cT fun a w h' => ih _ a w h' (JA listed i h.size cT fuel hc)
  -- what comes before
  have key:∀(fuel:Nat) (listed:Array Bool) (a:Act) (w:World),wy ops tr st.t (st.loc,st.out) E (fun _ _ _=>True) listed a w→(∀j,nA≤j→listed.getD j false=false)→listed.toList.count false≤fuel→wpAny P .any ops Q' fuel listed a w:=by
    intro fuel;induction fuel with
    | zero =>
      intro listed a w h hn hc;have hr:=hzero listed h.size hc
      have:=Fg listed h.size hr (nA+1) nA (by omega) (by omega)
      rw[hn nA (bt _)] at this;simp at this
    | succ fuel ih =>
      intro listed a w h hn hc;refine⟨fun hr=>?_,fun i cT => ?_⟩
      · have:=Fg listed h.size hr (nA+1) nA (by omega) (by omega)
        rw[hn nA (bt _)] at this;simp at this
      obtain⟨vE,o,ho,b8⟩:=mem_ready.1 cT;have ajl:i<ops.size:=(gj.1 ho).1;have xG : i<listed.size:=by rw[h.size];exact ajl
      rcases Bb i nA with aj | rfl | hgt
      · refine Ix F kT rfl ht h cT (fun o ho=>let ⟨x,h1,U⟩:=nj i o aj ho;⟨x,h1,.inl ⟨U,fun _ _ _ _ _ _ _=>trivial⟩⟩) fun a w h' => ih _ a w h' (fun j hj=>?_) (JA listed i h.size cT fuel hc)
        rw[wb xG,ah (by omega)];exact hn j hj
      · -- the row grows
        have kV:=vV ho;have sr:∀j,j<i→listed.getD j false=true:=fun j hj=>by
          have:=eA j hj
          rw[kV] at this;obtain⟨e,h1,U,h3⟩:=E9 this;rw[←h3];exact b8 e h1 U
        obtain⟨E1,rfl,ct,vr,_⟩:=h.rel;have hS:∀j,(fun j=>listed.getD j false) (0+j)=decide (0+j<i):=fun j=>by
          rw[gQ]
          by_cases hj:j<i
          · simp only[hj,bZ];exact sr j hj
          · simp only[hj,fh];exact hn j (by omega)
        rw[X4 hS,Nat.sub_zero] at ct;have Cm:bc E1 s1 a:=by
          refine⟨?_,?_,ct.defers,?_⟩
          · rw[Us.2,Uv];exact ct.ok
          · rw[Us.1,Uv];exact ct.cg
          · rw[xK];exact asX (Kg ct.slot)
        obtain⟨c',t,u,e,inf,z,rk,rB,uf,uL,q1,q2,q3,q4,q5,q6,q7,q8,q9,yr,q11,q12,q13,_⟩:=zD.app;rw[kV] at q1;have hg:=zD.guard.1;rw[kV] at hg;have kj:=zD.dst.1;rw[kV] at kj;unfold wpOp;rw[ho];simp only;rw[Dm hg,ak rfl];left;have cn:(execOp a.eval o).run P E1.w=((Builtin.append_ #[t,u] o.type #[a.eval rk,a.eval rB]).run P E1.w).andThen fun v w' => .ok (.value v) w' := by
          simp[execOp,q1,q2,q3,q4,resolve,invoke,builtin]
        have TI:=lD (E:=E1) (st:=s1) (a:=a) Cm.slot q12;have TP:=lD (E:=E1) (st:=s1) (a:=a) Cm.slot q13;rw[es] at TI;rw[ez] at TP;obtain⟨news,r1,r2,r3,r4⟩:=G2 (P:=P) q6 TP;obtain⟨i',zv,k1,k2,k3,k4⟩:=qw q8;rw[q7] at k1;simp only[aH] at k1;subst k1;have gU:zv.cells.size=inf.size:=by have:=eM (oS (E:=E1) k3);simp at this;omega
        obtain⟨bk,cap,E2,m1,m2,m3,m4,m5⟩:=ajB (P:=P) Cm q5 q7 k2 gU q9 cn (by rw[yr];exact TI) (by rw[yr];exact r1) r3 hbig (Cm.ok.aC τ _ qf);unfold Oper.wp;rw[m2];have Cc:s1.t.length=a.tmps.size:=by have:=eM Cm.slot;simpa using this
        have TS:hi.d9<a.tmps.size:=by rw[←Cc];exact h9
        refine tail fuel _ _ _ ⟨by simp[h.size],fun j hj=>?_,E2,s1,bk,cap,rfl,vr.trans m3,?_,rfl,?_,?_,?_,?_,?_,?_⟩ (JA listed i h.size cT fuel hc)
        · rw[wb xG];split
          · rfl
          · exact sr j (by omega)
        · rw[kj]
          have:=bc.put m4 (v:=.any) (x:=.slice (some ⟨bk,0,none⟩) (ll.length+1) cap) (by simp[R]) (some hi.d9)
          have e:s1.put (some hi.d9) .any=s1:=by
            simp only[St.put];rw[X9 T.d9]
          rw[e] at this;exact this
        · rw[kj,yq TS,ak rfl]
        · intro h1;rw[wb xG,ah (by omega),hn _ (by omega)] at h1;simp at h1
        · intro _ h1;rw[wb xG,ah (by omega),hn _ (by omega)] at h1;simp at h1
        · intro _;rw[←yr];exact m1
        · intro h1;rw[wb xG,ah (by omega),hn _ (by omega)] at h1;simp at h1
        · have z1:(listed.setIfInBounds i true).getD (ops.size - 1) false=false:=by rw[wb xG,ah (by omega)];exact hn _ (by omega)
          have z2:(listed.setIfInBounds i true).getD (i+2) false=false:=by rw[wb xG,ah (by omega)];exact hn _ (by omega)
          rw[z1,z2];simp
      · exfalso
        have kV:=vV ho;have ajc:iV o nA=true:=by
          rw[←kV]
          by_cases h1:i=nA+1
          · rw[h1];exact eI
          by_cases U:i=nA+2
          · rw[U];exact eS.1
          by_cases h3:i=ops.size - 1
          · rw[h3];exact eO
          have oZ:hF=true:=by
            cases hq:hF with
            | true=>rfl
            | false=>rw[hq] at bO;simp at bO;omega
          have h4:i=nA+3:=by rw[oZ] at bO;simp at bO;omega
          rw[ak oZ] at zC;rw[h4];exact(eF _ zC).1
        obtain⟨e,h1,U,h3⟩:=E9 ajc
        have:=b8 e h1 U
        rw[h3,hn nA (bt _)] at this;simp at this
  have qO:∀j,(Array.replicate ops.size false).getD j false=false:=fun j=>by
    by_cases hj:j<ops.size<;>simp[hj]
  have l9:∀(tr:List TR) (q:Nat),bQ (fun j=>(Array.replicate ops.size false).getD j false) q tr=[]:=by
    intro tr;induction tr with
    | nil=>intro q;rfl
    | cons r tr ih=>intro q;rw[bQ,ah (by rw[qO];simp)];exact ih _
  refine key ops.size _ a _ ⟨by simp,fun i o _ hi=>by rw[qO] at hi;simp at hi,{E with w:=E.w.drew},rfl,?_,aS,trivial⟩ (fun j _=>qO j) (by simp);rw[l9];exact lx
end
section
variable {P:Program} {E:Env} {st:St} {a:Act} {o:Oper} {K:V→St→Prop} {Q:Exit→Act→World→Prop}
def Env.eZ (E:Env) (b:Nat):Env:={E with role:=fun x=>if x=b then .const else E.role x}
theorem Ta {b:Nat} {cs:List V} (hs:bc E st a) (hb:st.out.box b=some cs) :
    Fr E (E.eZ b)∧bc (E.eZ b) ⟨st.t,st.loc,st.out.del b⟩ a∧∀(j:Nat) x,cs[j]?=some x→∃v,(E.eZ b).w.cell? ⟨b,j,none⟩=some v∧((E.eZ b).role b).fP j∧R (E.eZ b).nl x v:=by
  obtain⟨cL,c,e,hc,hlen,mE⟩:=hs.ok.box b cs hb;have hc:E.w.heap[b]?=some (.cells c e (0,0)):=hc;have aI:∀b',E.role b' ≠ .nB→b' ≠ b:=fun b' h e=>h (by rw[e];exact cL)
  have ku:∀b',b' ≠ b→(E.eZ b).role b' = E.role b' := fun b' h=>by simp[Env.eZ,h]
  have aj:=jC (w:=E.w) hc;have aS:Fr E (E.eZ b):=by
    refine⟨rfl,rfl,rfl,bt _,fun _=>rfl,fun b' o c' vn hv=>?_,fun t n h=>⟨n,h,bt _,fun _ b' c' hr=>⟨?_,fun cs e hcs=>⟨cs,hcs,rfl⟩⟩⟩,fun b' _ hr=>⟨rfl,?_⟩,fun b' _ h=>?_,fun b' t c' _ h=>?_,fun b' i _ h=>?_,fun b' c' e h=>⟨c',h,rfl⟩⟩
    · have:b' ≠ b:=aI b' (fun e=>by rw[e] at vn;exact vn)
      exact⟨by rw[ku b' this];exact vn,hv⟩
    · rw[ku b' (aI b' (by rw[hr];simp))];exact hr
    · rw[ku b' (aI b' (by rcases hr with h | h<;>rw[h]<;>simp))]
    · by_cases e:b' = b
      · rw[e];exact .inl cL
      · rw[ku _ e] at h;exact .inl h
    · by_cases e:b' = b
      · rw[e] at h;simp[Env.eZ] at h
      · rw[ku _ e] at h;exact⟨c',h⟩
    · by_cases e:b' = b
      · rw[e] at h;simp[Env.eZ] at h
      · rw[ku _ e] at h;exact⟨i,h⟩
  have hle:E.le (E.eZ b):=aS.le fun i b h=>h
  refine⟨aS,⟨⟨fun b' cs' h=>?_,hs.ok.aC,fun b' bz => ?_,hs.ok.nt,fun b cs hc=>c7.mono _ aS.nl (hs.ok.bR b cs hc)⟩,nC hs.cg hle (fun b' i h _=>⟨by rw[ku b' (aI b' (by rw[h];simp))];exact h,rfl⟩) hs.cg.none,hs.defers,RL.mono _ hle hs.slot⟩,fun j x hx=>?_⟩
  · simp only[ae.del] at h;split at h
    · simp at h
    · rename_i xI;obtain⟨h1,U⟩:=hs.ok.box b' cs' h;exact⟨by rw[ku b' xI];exact h1,ig.mono hle.nl rfl U⟩
  · have bz : E.w.heap.size≤b' := bz;rw[ku b' (by omega)];exact hs.ok.fresh b' bz
  · obtain⟨v,hv,hr⟩:=mE j x hx;refine⟨v,?_,by simp[Env.eZ,dO.fP],R.mono x aS.nl hr⟩;show E.w.cell? ⟨b,j,none⟩=some v;simp[World.cell?,hc,hv]
def mo (s:List UInt8):List Value:=s.map fun b=>Value.int .u8 b.toNat
theorem W2 {σ:ae} {base:Option Addr} {n:Nat} {s:List UInt8} (bM:E.ok σ) (h:C4 σ base n s) {w0:World} (hw:w0.heap=E.w.heap) :
    n=0∧s=[]∨∃b off,base=some ⟨b,off,none⟩∧(loadCells ⟨b,off,none⟩ n).run P w0 = .ok (mo s).toArray w0:=by
  obtain⟨hl,h⟩:=h
  rcases h with rfl | ⟨b,off,cs,rfl,hb,hcs⟩
  · exact .inl ⟨rfl,iD.1 hl⟩
  · right;obtain⟨_,c,e,hc,hlen,mE⟩:=bM.box b cs hb;have hc:w0.heap[b]?=some (.cells c e (0,0)):=by rw[hw];exact hc
    refine⟨b,off,rfl,?_⟩
    have:=run_loadCells_list (P:=P) w0 ⟨b,off,none⟩ (mo s) (fun j u hu=>by
      rw[kb];simp only[mo,s7,cx] at hu;obtain⟨x,hx,rfl⟩:=hu;have hj:j<n:=by rw[←hl];exact(dD.1 hx).1
      have hcj:cs[off+j]?=some (.int .u8 x.toNat):=by
        have:=gm (fun l:List V=>l[j]?) hcs
        simp only[s7,hx,s_,wG hj,rH] at this;exact this
      obtain⟨v,h1,U⟩:=mE (off+j) _ hcj;simp only[R] at U;simp[World.cell?,hc,h1,U])
    rw[show (mo s).length=n by simp[mo,hl]] at this;exact this
theorem ark {base:Option Addr} {n cap:Nat} {s:List UInt8} (bM:E.ok st.out) (h:C4 st.out base n s) {u e:TypeId} (hu:P.underlying u=some (.slice e)) :
    Src P E.w 1 (cm s).length u (.slice base n cap) (mo s)∧RL E.nl (cm s).flatten (mo s)∧(∀v∈mo s,v.oneCell' = true)∧∀y∈cm s,y.length=1:=by
  have hl:=h.1;have hlen:(cm s).length=n:=by simp[cm,hl]
  have cell:∀w0:World,w0.heap=E.w.heap→(Builtin.firstCells 1 n (.slice base n cap)).run P w0 = .ok (mo s).toArray w0:=fun w0 hw=>by
    rcases W2 (P:=P) bM h hw with ⟨rfl,rfl⟩ | ⟨b,off,rfl,hr⟩
    · cases base<;>simp[Builtin.firstCells,loadCells,loadCellsFrom,mo]
    · simp only[Builtin.firstCells,pJ];exact hr
  refine⟨⟨⟨_,hu,fun _ h=>by simp at h⟩,fun w' => by simp[Builtin.lenOf,hlen],?_,?_,by simp[mo,cm]⟩,?_,?_,?_⟩
  · rw[hlen];exact cell E.w rfl
  · rw[hlen];exact cell E.w.drew rfl
  · rw[BC];clear hl hlen cell h;induction s with
    | nil=>simp[RL,mo]
    | cons b s ih=>simp only[bC,RL,R,mo] at ih ⊢;exact⟨trivial,ih⟩
  · intro v hv;simp only[mo,rI] at hv;obtain⟨b,_,rfl⟩:=hv;rfl
  · intro y hy;simp only[cm,rI] at hy;obtain⟨b,_,rfl⟩:=hy;rfl
theorem aqv {t:TypeId} {lo hi:Option Operand} {lC cT : Option X} (hs:bc E st a) (h1:jB P t lo=some lC) (U:jB P t hi=some cT) {len m n:Nat}
    (cW:match (generalizing:=false) lC with | none=>m=0 | some y=>∃j,ev st y = .int j m) (lv:match (generalizing:=false) cT with | none=>n=len | some y=>∃j,ev st y = .int j n) (qN:m≤n) (n9:n≤len) :
    (Instr.sliceBounds false len len (lo.map a.eval) (hi.map a.eval) none).run P E.w = .ok (m,n,len) E.w:=by
  rcases kA (E:=E) hs.slot U with ⟨rfl,rfl⟩ | ⟨u,v,rfl,rfl,hr⟩
  · simp only at lv;subst lv
    rcases kA (E:=E) hs.slot h1 with ⟨rfl,rfl⟩ | ⟨u',v',rfl,rfl,bN⟩
    · simp only at cW;subst cW;simp[Instr.sliceBounds]
    · obtain⟨j',fX⟩:=cW;rw[fX] at bN;simp only[R] at bN;have e2:=oq (P:=P) (w:=E.w) (j:=j') (c:=.sliceB) qN;simp[Instr.sliceBounds,bN,e2]
  · obtain⟨j,hj⟩:=lv;rw[hj] at hr;simp only[R] at hr;have e2:=oq (P:=P) (w:=E.w) (j:=j) (c:=.sliceAlen) n9
    rcases kA (E:=E) hs.slot h1 with ⟨rfl,rfl⟩ | ⟨u',v',rfl,rfl,bN⟩
    · simp only at cW;subst cW;simp[Instr.sliceBounds,hr,e2]
    · obtain⟨j',fX⟩:=cW;rw[fX] at bN;simp only[R] at bN;have e3:=oq (P:=P) (w:=E.w) (j:=j') (c:=.sliceB) qN;simp[Instr.sliceBounds,hr,bN,e2,e3]
def K1 (P:Program) (o:Oper):Option ar :=
  match o.op with
  | .slice t x lo hi none =>
    match bX P t x,jB P t lo,jB P t hi with
    | some y, some lC, some cT =>
      match P.underlying t with
      | some (.array m e)=>(dd P e).map fun k=>.own (.GZ m k lC.isSome cT.isSome) (y::(lC.toList++cT.toList))
      | some (.slice e)=>if dd P e=some 1 then some (.own (.eZ 1 lC.isSome cT.isSome) (y::(lC.toList++cT.toList))) else none
      | _=>none
    | _,_,_=>none
  | .buildSlice t len ps =>
    match P.underlying t with
    | some (.slice e) =>
      match dd P e,iO P e,hH P (List.replicate len e) (ps.toList.map (·.2)) with
      | some k,some _,some xs=>if ps.toList.map (·.1)=List.range len∧len*k≤16777216 then some (.own (.new k) xs) else none
      | _,_,_=>none
    | _=>none
  | .convert src dst x =>
    match P.underlying src,P.underlying dst,bX P src x with
    | some (.slice e),some .string,some y=>match P.underlying e with | some (.int .u8)=>some (.own .Bu [y]) | _=>none
    | _,_,_=>none
  | .call c =>
    match c.callee with
    | .builtin .append =>
      match c.argTypes.toList,c.args.toList with
      | [t, u], [s, x] =>
        match P.underlying t,bX P t s,bX P u x with
        | some (.slice e), some s', some x' =>
          match P.info? e,iO P e with
          | some i, some _ =>
            if i.size=1∧i.bytes≤4096 then
              match P.underlying u with
              | some .string=>some (.own .kc [s',x'])
              | some (.slice _)=>some (.own .Bk [s',x'])
              | _=>none
            else none
          | _,_=>none
        | _,_,_=>none
      | _,_=>none
    | _=>none
  | _=>none
theorem atd (hs:bc E st a) {t e:TypeId} {len k:Nat} {parts:Array (Nat × Operand)} {z:List V} (ho:o.op = .buildSlice t len parts) (ht:P.underlying t=some (.slice e)) (hn:dd P e=some k) (hz:iO P e=some z)
    (hr:parts.toList.map (·.1)=List.range len) (bO:len*k≤16777216) {l:List (List V)}
    (hf:(parts.toList.map (·.2)).length=len∧l.length=len∧(∀x∈parts.toList.map (·.2),(a.eval x).cells.size=k)∧(∀y∈l,y.length=k)∧RL E.nl l.flatten ((parts.toList.map (·.2)).map fun x=>(a.eval x).cells.toList).flatten∧∀v∈((parts.toList.map (·.2)).map fun x=>(a.eval x).cells.toList).flatten,v.oneCell' = true)
    (hk:∀b,st.out.box b=none→K (V.raw (.slice (some ⟨b,0,none⟩) l.length l.length)) ⟨st.t,st.loc,st.out.set b l.flatten⟩):o.wp P a E.w (cZ E a o.dst K) Q:=by
  obtain⟨k1,k2,k3,k4,k5,k6⟩:=hf;obtain⟨i,zv,h1,U,h3,h4⟩:=qw hz;have hlen:parts.toList.length=len:=by simpa using k1
  let ps:List (Nat × Value):=parts.toList.map fun (i,x)=>(i,a.eval x)
  have J8:ps.map (·.1)=List.range' 0 ps.length:=by
    have:ps.map (·.1)=parts.toList.map (·.1):=by simp[ps,s5]
    rw[this,hr,rJ];congr 1;simp[ps];simpa using hlen.symm
  have J9:(ps.map fun p=>p.2.cells.toList)=(parts.toList.map (·.2)).map fun x=>(a.eval x).cells.toList:=by simp[ps,s5]
  have b8:∀p∈ps,p.2.cells.size=k:=fun p hp=>by
    simp only[ps,rI] at hp;obtain⟨q,hq,rfl⟩:=hp;exact k3 q.2 (rI.2 ⟨q,hq,rfl⟩)
  have mG:ps.length=len:=by simp[ps];simpa using hlen
  have fill:∀cells:Array Value,cells.size=len*k→Instr.fill (fun i=>some (i*k,k)) cells ps=some ((parts.toList.map (·.2)).map fun x=>(a.eval x).cells.toList).flatten.toArray:=fun cells hc=>by
    have:=IL ps 0 cells J8 b8 (by rw[mG];simpa using hc)
    rw[this,J9];simp
  generalize p9:((parts.toList.map (·.2)).map fun x=>(a.eval x).cells.toList).flatten=news at fill k5 k6;refine M3 hs (w1:=E.w) (Ext.refl _) rfl (x:=.slice (some ⟨E.w.heap.size,0,none⟩) len len) (v:=fun b=>.raw (.slice (some ⟨b,0,none⟩) l.length l.length)) (zs:=l.flatten) (c:=news.toArray) (e:=e) ?_ (by simpa using k5) (by simp only[R,k2]) rfl hk;have gU:(zeroValue e).run P E.w = .ok zv E.w:=by simp[zeroValue,typeInfo,h1,U]
  have Cj:(parts.map fun (i,x)=>(i,a.eval x)).toList=ps:=by simp[ps]
  have vD : ¬(16777216<len*k):=by omega
  simp only[execOp,ho,Sem.run_bind];have key:(Instr.buildSlice t len (parts.map fun (i,x)=>(i,a.eval x))).run P E.w = .ok (.slice (some ⟨E.w.heap.size,0,none⟩) len len) (E.w.alloc (.cells news.toArray e)):=by
    unfold Instr.buildSlice;simp only[Sem.run_bind,run_underlying ht,Result.andThen_ok,mh hn];rw[ah (by simpa using vD)];rw[Cj]
    by_cases h0:len*k=0
    · rw[ak h0];simp only[Sem.run_bind,Sem.run_pure,Result.andThen_ok];rw[fill _ (by simp)];simp[newRow]
    · rw[ah h0];simp only[Sem.run_bind,gU,Result.andThen_ok,Sem.run_pure];rw[fill _ (by simp)];simp[newRow]
  rw[key];rfl
theorem an' {ao:ar} (hl:K1 P o=some ao) (hs:bc E st a) (h:ao.aM P st K):o.wp P a E.w (cZ E a o.dst K) Q:=by
  have X:=fun {t:TypeId} {x:Operand} {y:X} (hx:bX P t x=some y)=>lD (E:=E) (st:=st) (a:=a) hs.slot hx
  unfold K1 at hl;split at hl
  · rename_i t x lo hi ho;split at hl
    case h_2=>simp at hl
    rename_i y lC cT h1 U h3;have hx:=X h1;split at hl
    · rename_i m e ht;simp only[cx] at hl;obtain⟨k,hk,rfl⟩:=hl;simp only[ar.aM,cr] at h;unfold OQ.aM at h;split at h<;>try (exfalso;simp_all;done)
      · rename_i m0 k0 b1 b2 b off vs e1 e2;simp only[OQ.GZ.injEq] at e1;obtain⟨rfl,rfl,rfl,rfl⟩:=e1;simp only[fM] at e2;obtain⟨e2,rfl⟩:=e2;rw[e2] at hx;simp only[R] at hx;rw[EF] at h;obtain⟨l,h,g1⟩:=wR h;rw[←dn (cr st cT.toList)] at h;obtain⟨hh,h,g2⟩:=wR h;obtain⟨_,k1,k2,h⟩:=h;have hb:=aqv (P:=P) hs U h3 g1 g2 k1 k2;refine cq hs (v:=.raw _) (x:=.slice (some (if m=l then ⟨b,off,none⟩ else ⟨b,off+l*k,none⟩)) (hh - l) (m - l)) ?_ (by simp only[R]) h;simp only[execOp,ho,Sem.run_bind,hx];simp[Instr.sliceAt,run_underlying ht,Instr.sureAddr,hb,mh hk,kb]
    · rename_i e ht;split at hl
      case isFalse=>simp at hl
      rename_i hk;simp only[aH] at hl;subst hl;simp only[ar.aM,cr] at h;unfold OQ.aM at h;split at h<;>try (exfalso;simp_all;done)
      · rename_i k0 b1 b2 b off n cap vs e1 e2;simp only[OQ.eZ.injEq] at e1;obtain⟨rfl,rfl,rfl⟩:=e1;simp only[fM] at e2;obtain⟨e2,rfl⟩:=e2;rw[e2] at hx;simp only[R] at hx;rw[EF] at h;obtain⟨l,h,g1⟩:=wR h;rw[←dn (cr st cT.toList)] at h;obtain⟨hh,h,g2⟩:=wR h;obtain⟨_,k1,k2,_,cs,tO,hlen,ey,nk,h⟩:=h;have hb:=L9 (P:=P) (mx:=none) (mx' := none) (M:=cap) hs U h3 rfl (by simp) g1 g2 rfl k1 k2 (bt _);obtain⟨hf,ct,hc⟩:=Ta hs tO;unfold Oper.wp;rw[show (execOp a.eval o).run P E.w = .ok (.value (.slice (if cap=l then some ⟨b,off,none⟩ else some ⟨b,off+l,none⟩) (hh - l) (cap - l))) E.w by
          simp only[execOp,ho,Sem.run_bind,hx];simp only[Option.map_none] at hb;simp[Instr.sliceAt,run_underlying ht,Instr.slice,hb,mh hk,kb]]
        refine⟨E.eZ b,_,_,⟨st.t,st.loc,st.out.del b⟩,rfl,hf,ct,?_,rfl,h⟩;have dR:(zf (((cs.drop off).take hh).drop l)).length=hh - l:=by simp[zf];omega
        simp only[R];refine⟨_,_,by rw[dR],by rw[dR];omega,?_,trivial⟩
        by_cases hz:hh=l
        · left;exact iD.1 (by rw[dR];omega)
        · right;refine⟨b,off+l,by rw[ah (by omega)],?_⟩;have key:∀(xs:List V) (p:Nat),(∀(j:Nat) x,xs[j]?=some x→cs[p+j]?=some x)→bE xs=true→ek (E.eZ b).nl 1 (zf xs) b p:=by
            intro xs;induction xs with
            | nil=>intro p _ _;simp[zf,ek]
            | cons x xs ih =>
              intro p hp Cf;simp only[bE,a_] at Cf;simp only[zf,bC,ek,c7];obtain⟨v,v1,v2,v3⟩:=hc p x (by have:=hp 0 x rfl;simpa using this);refine⟨rfl,⟨⟨v,v1,v2,ui (E:=(E.eZ b).nl) (xs:=[x]) (vs:=[v]) (by simp only[RL];exact⟨v3,trivial⟩) (by simp[bE,Cf.1]) v (by simp),by simpa using v3⟩,trivial⟩,?_⟩;refine ih (p+1) (fun j y hy=>?_) Cf.2
              have:=hp (j+1) y (by simpa using hy)
              rwa [show p+1+j=p+(j+1) by omega]
          refine key _ _ (fun j x iK => ?_) ey;rw[rH,wG (by
            have:=(dD.1 iK).1
            simp at this;omega),rH] at iK
          rwa [show off+l+j=off+(l+j) by omega]
    · simp at hl
  · rename_i t len ps ho;split at hl
    case h_2=>simp at hl
    rename_i e ht;split at hl
    case h_2=>simp at hl
    rename_i k z xs hk hz lA;split at hl
    case isFalse=>simp at hl
    rename_i hc;simp only[aH] at hl;subst hl;simp only[ar.aM] at h;unfold OQ.aM at h;split at h<;>try (exfalso;simp_all;done)
    · rename_i k0 vs e1;simp only[OQ.new.injEq] at e1;subst e1;obtain⟨l,h1,n9,U⟩:=h;exact atd hs ho ht hk hz hc.1 hc.2 (KE (E:=E) hs.slot lA h1) U
  · rename_i src dst x ho;split at hl
    case h_2=>simp at hl
    rename_i e y h1 U h3;split at hl
    case h_2=>simp at hl
    rename_i h4;simp only[aH] at hl;subst hl;have hx:=X h3;simp only[ar.aM,cr] at h;unfold OQ.aM at h;split at h<;>try (exfalso;simp_all;done)
    · rename_i base n cap e1 e2;simp only[fM,fO] at e2;rw[e2] at hx;simp only[R] at hx;obtain⟨s,ht,h⟩:=h;refine cq hs (v:=.str s) (x:=.string ⟨s.toArray⟩) ?_ (by simp only[R]) h;have key:(Conv.bytesToString (a.eval x)).run P E.w = .ok (.string ⟨s.toArray⟩) E.w:=by
        rw[hx]
        rcases W2 (P:=P) hs.ok ht rfl with ⟨rfl,rfl⟩ | ⟨b,off,rfl,hr⟩
        · cases base with
          | none=>simp[Conv.bytesToString];rfl
          | some ad =>
            have:=run_bytesToString (P:=P) E.w ad 0 cap [] (by simp[loadCells,loadCellsFrom])
            simp at this ⊢;exact this
        · rw[show mo s=(s.map fun b=>(b.toNat:Int)).map (Value.int .u8) by simp[mo]] at hr
          have:=run_bytesToString (P:=P) E.w ⟨b,off,none⟩ n cap _ hr
          rw[this];have hp:=LM s [];simp only[gk] at hp;exact gm (fun z=>Result.ok (Value.string z) E.w) hp
      rw[hx] at key;simp only[execOp,ho,Sem.run_bind,hx];simp[convert,run_underlying h1,run_underlying U,run_underlying h4,key]
  · rename_i c ho;obtain⟨callee,args,argTypes⟩:=c;simp only at hl;split at hl
    · split at hl
      case h_2=>simp at hl
      rename_i t u s x ht hx;have e1:argTypes=#[t,u]:=by cases argTypes;simpa using ht
      have e2:args=#[s,x]:=by cases args;simpa using hx
      subst e1;subst e2;split at hl
      case h_2=>simp at hl
      rename_i e s' x' hu ct iK;split at hl
      case h_2=>simp at hl
      rename_i i z hi hz;split at hl
      case isFalse=>simp at hl
      rename_i hc;obtain⟨lY,lq⟩:=hc;obtain⟨i',z',q1,q2,q3,q4⟩:=qw hz;obtain rfl:i=i' := by rw[hi] at q1;simpa using q1
      have gU:z'.cells.size=i.size:=by have:=eM (oS (E:=E) q3);simp at this;omega
      have su:=X ct;have eT:=X iK;split at hl
      · rename_i xO;simp only[aH] at hl;subst hl;simp only[ar.aM,cr] at h;unfold OQ.aM at h;split at h<;>try (exfalso;simp_all;done)
        · rename_i base n cap sx e1 e2;simp only[fM,fO] at e2;obtain⟨e2,e3⟩:=e2;rw[e2] at su;rw[e3] at eT;simp only[R] at su eT;obtain⟨news,g1,g2,g3,g4⟩:=Yj (P:=P) (E:=E.nl) (w:=E.w) xO sx;refine M1 hs hu hi q2 gU lq (ty:=o.type) (base:=base) (n:=n) (cap:=cap) (u:=u) (vx:=a.eval x) (m:=cm sx) (news:=news) ?_ ?_ g2 g3 ?_ ?_
          · simp[execOp,ho,resolve,invoke,builtin,su]
          · rw[lY,eT];exact g1
          · rw[lY];exact g4
          · rw[lY];exact h
      · rename_i e' xO;simp only[aH] at hl;subst hl;simp only[ar.aM,cr] at h;unfold OQ.aM at h;split at h<;>try (exfalso;simp_all;done)
        · rename_i base n cap aaF n' my e1 e2;simp only[fM,fO] at e2;obtain⟨e2,e3⟩:=e2;rw[e2] at su;rw[e3] at eT;simp only[R] at su eT;obtain⟨sx,hr,h⟩:=h;obtain⟨g1,g2,g3,g4⟩:=ark (P:=P) (cap:=my) hs.ok hr xO;refine M1 hs hu hi q2 gU lq (ty:=o.type) (base:=base) (n:=n) (cap:=cap) (u:=u) (vx:=a.eval x) (m:=cm sx) (news:=mo sx) ?_ ?_ g2 g3 ?_ ?_
          · simp[execOp,ho,resolve,invoke,builtin,su]
          · rw[lY,eT];exact g1
          · rw[lY];exact g4
          · rw[lY];exact h
      · simp at hl
    · simp at hl
  · simp at hl
theorem YY (hs:bc E st a) {t u ty e:TypeId} {i:TypeInfo} (ht:P.underlying t=some (.slice e)) (hi:P.info? e=some i) {base:Option Addr} {n cap m:Nat} {vx:Value} {xs:List V}
    (cn:(execOp a.eval o).run P E.w=((Builtin.copy_ #[t,u] ty #[.slice base n cap,vx]).run P E.w).andThen fun v w' => .ok (.value v) w')
    {len:Nat} (hlen:(Builtin.lenOf vx).run P E.w = .ok len E.w) (hm:min len n=m) {news:List Value} (mE:(Builtin.firstCells i.size m vx).run P E.w = .ok news.toArray E.w)
    (p9:RL E.nl xs news) (ey:∀v∈news,v.oneCell' = true) (bO:news.length=m*i.size)
    (hk:wz st.out i.size base m xs fun v σ=>K v ⟨st.t,st.loc,σ⟩):o.wp P a E.w (cZ E a o.dst K) Q:=by
  obtain⟨B9,pX⟩:=hk;have hm:Nat.min len n=m:=hm
  by_cases h0:m=0
  · subst h0
    have:news=[]:=oB (by simpa using bO)
    subst this;refine cq hs (v:=.int .i64 0) (x:=.int .i64 0) ?_ (by simp only[R]) (B9 rfl);rw[cn];cases base<;>simp[Builtin.copy_,run_underlying ht,sizeOf,typeInfo,hi,hlen,hm,mE,storeCells,goInt]
  · obtain⟨b,off,cs,rfl,mD,mF,hK⟩:=pX h0;obtain⟨cL,c,e',dQ,Ua,hc⟩:=hs.ok.box b cs mD;have dQ:E.w.heap[b]?=some (.cells c e' (0,0)):=dQ;have qg:=eM p9;have JK : off+news.length≤c.size:=by omega
    have dH:=run_storeCells_at (P:=P) b off e' news 0 c E.w dQ (by simpa using JK) ey;simp only[rL] at dH;have iu:(Builtin.copy_ #[t,u] ty #[.slice (some ⟨b,off,none⟩) n cap,vx]).run P E.w = .ok (.int .i64 m) (E.w.setRow b (c.toList.take off++news++c.toList.drop (off+news.length)).toArray):=by
      simp[Builtin.copy_,run_underlying ht,sizeOf,typeInfo,hi,hlen,hm,mE,dH,goInt]
    have aS:=EP (E:=E) (new:=(c.toList.take off++news++c.toList.drop (off+news.length)).toArray) dQ (.inr cL) (by simp;omega);have hle:=aS.le fun _ _ h=>h
    have fI:=setRow_heap E.w b c (c.toList.take off++news++c.toList.drop (off+news.length)).toArray e' _ dQ;have tO:=Em (E' := Env.nl {E with w:=E.w.setRow b (c.toList.take off++news++c.toList.drop (off+news.length)).toArray}) Ua
      (fun j x hj=>let ⟨u,h1,U⟩:=hc j x hj;⟨u,h1,U.mono _ aS.nl⟩) (RL.mono _ aS.nl p9) (by omega) fI
    generalize (c.toList.take off++news++c.toList.drop (off+news.length)).toArray=new at iu fI aS hle tO;have iX : ∀b',b' ≠ b→(E.w.setRow b new).heap[b']?=E.w.heap[b']?:=fun b' aI=>setRow_other E.w b b' new aI
    unfold Oper.wp;rw[cn,iu];refine⟨{E with w:=E.w.setRow b new},.int .i64 m,.int .i64 m,⟨st.t,st.loc,st.out.set b (setAt cs off xs)⟩,rfl,aS,⟨⟨?_,hs.ok.aC,fun b' bz => hs.ok.fresh b' (by simpa using bz),hs.ok.nt,fun b cs hc=>c7.mono _ aS.nl (hs.ok.bR b cs hc)⟩,
      nC hs.cg hle (fun b' i hr _=>⟨hr,iX b' (by rintro rfl;rw[cL] at hr;simp at hr)⟩) hs.cg.none,hs.defers,RL.mono _ hle hs.slot⟩,by simp only[R],rfl,hK⟩
    intro b' cs' vo;simp only[ae.set] at vo;split at vo
    · rename_i e2;subst e2;simp only[aH] at vo;subst vo;exact⟨cL,tO⟩
    · rename_i aI;obtain⟨h1,U⟩:=hs.ok.box b' cs' vo;exact⟨h1,U.mono aS.nl (iX b' aI)⟩
theorem acI (bM:E.ok st.out) {base:Option Addr} {n:Nat} {xs:List V} (h:Hu st.out base n xs):∃news:List Value,news.length=n∧RL E.nl xs news∧(∀v∈news,v.oneCell' = true) ∧
    ∀(k m len cap:Nat),m*k=n→(Builtin.firstCells k m (.slice base len cap)).run P E.w = .ok news.toArray E.w:=by
  rcases h with ⟨rfl,rfl⟩ | ⟨b,o,cs,rfl,hb,hl,rfl,h1⟩
  · refine⟨[],rfl,by simp[RL],by simp,fun k m len cap e=>?_⟩;cases base with
    | none=>simp[Builtin.firstCells]
    | some ad=>simp[Builtin.firstCells,e,loadCells,loadCellsFrom]
  · obtain⟨_,c,e,hc,hlen,mE⟩:=bM.box b cs hb;have hc:E.w.heap[b]?=some (.cells c e (0,0)):=hc;have dR:RL E.nl ((cs.drop o).take n) ((c.toList.drop o).take n):=by
      refine Bf (by simp;omega) fun j x u hx hu=>?_
      have hj:j<n:=by have:=(dD.1 hx).1;simp at this;omega
      rw[wG hj,rH] at hx;rw[wG hj,rH] at hu;obtain⟨v,h1,U⟩:=mE (o+j) x hx
      have:v=u:=by simp at hu;rw[hu] at h1;simpa using h1.symm
      exact this▸U
    have jQ:((c.toList.drop o).take n).length=n:=by simp;omega
    refine⟨(c.toList.drop o).take n,jQ,dR,ui dR h1,fun k m len cap e2=>?_⟩
    have:=run_loadCells_list (P:=P) E.w ⟨b,o,none⟩ ((c.toList.drop o).take n) (fun j v hv=>by
      have hj:j<n:=by have:=(dD.1 hv).1;omega
      rw[kb];rw[wG hj,rH] at hv;simpa [World.cell?,hc] using hv)
    rw[jQ] at this;simp only[Builtin.firstCells,e2];exact this
def KY (P:Program) (o:Oper):Option ar :=
  match o.op with
  | .index t x i =>
    match P.underlying t,bX P t x,bX P t i with
    | some (.array m e), some y, some z =>
      match fV P e,dd P e with
      | some false,some 1=>some (.own (.FK m) [y,z])
      | _,_=>none
    | _,_,_=>none
  | .unOp .neg t x=>match P.underlying t,bX P t x with | some (.int k),some y=>some (.dA .sub (.c (.int k 0)) y) | _,_=>none
  | .unOp .xor t x=>match P.underlying t,bX P t x with | some (.int k),some y=>some (.dA .xor (.c (.int k (if k.signed then -1 else k.max))) y) | _,_=>none
  | .call c =>
    match c.callee with
    | .builtin .min =>
      match c.argTypes.toList,c.args.toList with
      | [t,u],[x,y]=>match P.underlying t,bX P t x,bX P u y with | some (.int _),some x',some y' => some (.own .min [x',y']) | _,_,_=>none
      | _,_=>none
    | .builtin .max =>
      match c.argTypes.toList,c.args.toList with
      | [t,u],[x,y]=>match P.underlying t,bX P t x,bX P u y with | some (.int _),some x',some y' => some (.own .max [x',y']) | _,_,_=>none
      | _,_=>none
    | .builtin .copy =>
      match c.argTypes.toList,c.args.toList with
      | [t, u], [x, y] =>
        match P.underlying t,P.underlying u,bX P t x,bX P u y with
        | some (.slice e),some (.slice e'),some x',some y' => match P.info? e with | some i=>if e=e' ∧ 0<i.size then some (.own (.u5 i.size) [x',y']) else none | none=>none
        | _,_,_,_=>none
      | _,_=>none
    | _=>none
  | _=>none
theorem amk {ao:ar} (hl:KY P o=some ao) (hs:bc E st a) (h:ao.aM P st K):o.wp P a E.w (cZ E a o.dst K) Q:=by
  have X:=fun {t:TypeId} {x:Operand} {y:X} (hx:bX P t x=some y)=>lD (E:=E) (st:=st) (a:=a) hs.slot hx
  unfold KY at hl;split at hl
  · rename_i t x i ho;split at hl
    case h_2=>simp at hl
    rename_i m e y z ht hx hi;split at hl
    case h_2=>simp at hl
    rename_i hg hn;simp only[aH] at hl;subst hl;have eT:=X hx;have zM:=X hi;simp only[ar.aM,cr] at h;unfold OQ.aM at h;split at h<;>try (exfalso;simp_all;done)
    · rename_i m0 cs k j e1 e2;simp only[OQ.FK.injEq] at e1;subst e1;simp only[fM,fO] at e2;obtain⟨e2,e3⟩:=e2;rw[e2] at eT;rw[e3] at zM;simp only[R] at eT zM;obtain⟨vs,h4,h5⟩:=eT;obtain⟨g1,g2,h⟩:=h;unfold CT at h;split at h
      · rename_i c hc;obtain⟨u,h6,h7⟩:=oI h5 j.toNat c hc;have h6' : vs[j.toNat]?=some u:=by simpa using h6
        refine cq hs (v:=c) (x:=u) ?_ h7 h.2;simp[execOp,ho,h4,zM,Instr.index,asIntOf,run_underlying ht,g1,g2,part,yw hg,mh hn,h6']
      · exact h.elim
  · rename_i t x ho;split at hl
    case h_2=>simp at hl
    rename_i k y ht hx;simp only[aH] at hl;subst hl;have hx:=X hx;simp only[ar.aM,ev,opt,K2] at h;split at h
    case h_2=>exact h.elim
    rename_i v hv;unfold rV at hv;split at hv
    case h_2=>simp at hv
    rename_i k' n k2 m e1 e2;simp only[V.int.injEq] at e1;obtain⟨rfl,rfl⟩:=e1;split at hv
    case isFalse=>simp at hv
    rename_i gH;obtain rfl:=FL (gH.resolve_right (by simp[x6]));simp only[gV,aH] at hv;subst hv;have e2:ev st y = .int k m:=e2;rw[e2] at hx;simp only[R] at hx;refine cq hs (x:=.int k (k.wrap (0 - m))) ?_ (by simp only[R]) h;simp only[execOp,ho,hx];simp only[Op.unary,Op.intArith];simp
  · rename_i t x ho;split at hl
    case h_2=>simp at hl
    rename_i k y ht hx;simp only[aH] at hl;subst hl;have hx:=X hx;simp only[ar.aM,ev,opt,K2] at h;split at h
    case h_2=>exact h.elim
    rename_i v hv;unfold rV at hv;split at hv
    case h_2=>simp at hv
    rename_i k' n k2 m e1 e2;simp only[V.int.injEq] at e1;obtain⟨rfl,rfl⟩:=e1;split at hv
    case isFalse=>simp at hv
    rename_i gH;obtain rfl:=FL (gH.resolve_right (by simp[x6]));simp only[gV,aH] at hv;subst hv;have e2:ev st y = .int k m:=e2;rw[e2] at hx;simp only[R] at hx;refine cq hs (x:=.int k (k.wrap ((BitVec.ofInt k.bits (if k.signed then -1 else k.max) ^^^ BitVec.ofInt k.bits m).toNat:Nat))) ?_ (by simp only[R]) h;simp only[execOp,ho,hx];simp only[Op.unary,Op.intBits];simp
  · rename_i c ho;obtain⟨callee,args,argTypes⟩:=c;simp only at hl;split at hl
    · split at hl
      case h_2=>simp at hl
      rename_i t u x y ht hx;have e1:argTypes=#[t,u]:=by cases argTypes;simpa using ht
      have e2:args=#[x,y]:=by cases args;simpa using hx
      subst e1;subst e2;split at hl
      case h_2=>simp at hl
      rename_i k0 x' y' hu iK xR;simp only[aH] at hl;subst hl;have eT:=X iK;have n_:=X xR;simp only[ar.aM,cr] at h;unfold OQ.aM at h;split at h<;>try (exfalso;simp_all;done)
      · rename_i k n k' m e1 e2;simp only[fM,fO] at e2;obtain⟨e2,e3⟩:=e2;rw[e2] at eT;rw[e3] at n_;simp only[R] at eT n_;obtain⟨gH,h⟩:=h;refine cq hs (v:=.int k (if m<n then m else n)) (x:=.int k (if m<n then m else n)) ?_ (by simp only[R]) h;simp[execOp,ho,resolve,invoke,builtin,Builtin.min_,Builtin.min2,eT,n_]
    · split at hl
      case h_2=>simp at hl
      rename_i t u x y ht hx;have e1:argTypes=#[t,u]:=by cases argTypes;simpa using ht
      have e2:args=#[x,y]:=by cases args;simpa using hx
      subst e1;subst e2;split at hl
      case h_2=>simp at hl
      rename_i k0 x' y' hu iK xR;simp only[aH] at hl;subst hl;have eT:=X iK;have n_:=X xR;simp only[ar.aM,cr] at h;unfold OQ.aM at h;split at h<;>try (exfalso;simp_all;done)
      · rename_i k n k' m e1 e2;simp only[fM,fO] at e2;obtain⟨e2,e3⟩:=e2;rw[e2] at eT;rw[e3] at n_;simp only[R] at eT n_;obtain⟨gH,h⟩:=h;refine cq hs (v:=.int k (if n<m then m else n)) (x:=.int k (if n<m then m else n)) ?_ (by simp only[R]) h;simp[execOp,ho,resolve,invoke,builtin,Builtin.max_,Builtin.max2,eT,n_]
    · split at hl
      case h_2=>simp at hl
      rename_i t u x y ht hx;have e1:argTypes=#[t,u]:=by cases argTypes;simpa using ht
      have e2:args=#[x,y]:=by cases args;simpa using hx
      subst e1;subst e2;split at hl
      case h_2=>simp at hl
      rename_i e e' x' y' hu xO iK xR;split at hl
      case h_2=>simp at hl
      rename_i i hi;split at hl
      case isFalse=>simp at hl
      rename_i hc;simp only[aH] at hl;subst hl;obtain⟨rfl,gT⟩:=hc;have eT:=X iK;have n_:=X xR;simp only[ar.aM,cr] at h;unfold OQ.aM at h;split at h<;>try (exfalso;simp_all;done)
      · rename_i k0 base n cap aaF n' my e1 e2;simp only[OQ.u5.injEq] at e1;subst e1;simp only[fM,fO] at e2;obtain⟨e2,e3⟩:=e2;rw[e2] at eT;rw[e3] at n_;simp only[R] at eT n_;obtain⟨xs,JB,h⟩:=h;obtain⟨news,g1,g2,g3,g4⟩:=acI (P:=P) hs.ok JB;refine YY hs (u:=u) (ty:=o.type) (vx:=a.eval y) (news:=news) (base:=base) (n:=n) (cap:=cap) hu hi ?_ (len:=n') ?_ rfl ?_ g2 g3 g1 h
        · simp[execOp,ho,resolve,invoke,builtin,eT]
        · rw[n_];simp[Builtin.lenOf]
        · rw[n_];exact g4 _ _ _ _ rfl
      · rename_i k0 base n cap tk k1 m e1 e2;simp only[OQ.u5.injEq] at e1;subst e1;simp only[fM,fO] at e2;obtain⟨e2,e3⟩:=e2;obtain⟨rfl,hle,h⟩:=h;rw[e2] at eT;rw[e3] at n_;obtain⟨news,g1,g2,g3,g4⟩:=G2 (P:=P) xO n_;simp only[R] at eT;refine YY hs (u:=u) (ty:=o.type) (vx:=a.eval y) (news:=news) (base:=base) (n:=n) (cap:=cap) (m:=m.length) hu hi ?_ (len:=m.length) (g1.len _) (by omega) g1.cells g2 g3 g1.size h;simp[execOp,ho,resolve,invoke,builtin,eT]
    · simp at hl
  · simp at hl
def KW (P:Program) (o:Oper):Option ar :=
  match o.op with
  | .call c =>
    match c.callee with
    | .value (.func f) =>
      match P.funcs[f]?,hH P c.argTypes.toList c.args.toList with
      | some fn,some xs=>if fn.body.isNone=true∧fn.origin = "" then (if fn.name = "internal/bytealg.CountString" then some (.own .Im xs) else if fn.name = "internal/bytealg.IndexByteString" then some (.own .Kr xs) else none) else none
      | _,_=>none
    | _=>none
  | _=>none
theorem ae2 (s:List UInt8) (c:UInt8):w_ s c=Lib.indexByte s c:=by
  induction s with
  | nil=>rfl
  | cons b l ih=>simp only[w_,Lib.indexByte,ih]
theorem ae5 {fn:Func} (h:fn.name = "internal/bytealg.CountString") (ho:fn.origin = ""):Extern.findNext fn=none∧Extern.find fn=some Extern.BytealgCount.count:=by
  have k1:Extern.allNextRows.lookup "internal/bytealg.CountString" = none:=by kernel_rfl
  have k2:Extern.allNextRows.lookup "" = none:=by kernel_rfl
  have k3:Extern.allGenericRows.lookup "internal/bytealg.CountString" = none:=by kernel_rfl
  have k4:Extern.allTypedRows.lookup "internal/bytealg.CountString" = none:=by kernel_rfl
  have k5:Extern.allRows.lookup "internal/bytealg.CountString" = some Extern.BytealgCount.count:=by kernel_rfl
  exact⟨by simp[Extern.findNext,h,ho,k1,k2],by simp[Extern.find,h,k3,k4,k5]⟩
theorem ae6 {fn:Func} (h:fn.name = "internal/bytealg.IndexByteString") (ho:fn.origin = ""):Extern.findNext fn=none∧Extern.find fn=some Extern.BytealgIndexByte.indexByte:=by
  have k1:Extern.allNextRows.lookup "internal/bytealg.IndexByteString" = none:=by kernel_rfl
  have k2:Extern.allNextRows.lookup "" = none:=by kernel_rfl
  have k3:Extern.allGenericRows.lookup "internal/bytealg.IndexByteString" = none:=by kernel_rfl
  have k4:Extern.allTypedRows.lookup "internal/bytealg.IndexByteString" = none:=by kernel_rfl
  have k5:Extern.allRows.lookup "internal/bytealg.IndexByteString" = some Extern.BytealgIndexByte.indexByte:=by kernel_rfl
  exact⟨by simp[Extern.findNext,h,ho,k1,k2],by simp[Extern.find,h,k3,k4,k5]⟩
theorem YE {α:Type} {l:Array α} {x y:α} (h:l.toList=[x,y]):l=#[x,y]:=by cases l;simpa using h
theorem aeF {ao:ar} (hl:KW P o=some ao) (hs:bc E st a) (h:ao.aM P st K):o.wp P a E.w (cZ E a o.dst K) Q:=by
  unfold KW at hl;split at hl
  case h_2=>simp at hl
  rename_i c ho;obtain⟨callee,args,argTypes⟩:=c;simp only at hl;split at hl
  case h_2=>simp at hl
  rename_i f;split at hl
  case h_2=>simp at hl
  rename_i fn xs hf lA;split at hl
  case isFalse=>simp at hl
  rename_i hc;have dR:=K5 (E:=E) hs.slot lA;split at hl
  · rename_i hn;simp only[aH] at hl;subst hl;simp only[ar.aM] at h;unfold OQ.aM at h;split at h<;>try (exfalso;simp_all;done)
    · rename_i s n e1 e2;rw[e2] at dR;obtain⟨q1,q2⟩:=ae5 hn hc.2;cases hq:args.toList.map a.eval with
      | nil=>rw[hq] at dR;simp[RL] at dR
      | cons v1 vs =>
        rw[hq] at dR;cases vs with
        | nil=>simp[RL] at dR
        | cons v2 Hg =>
          cases Hg with
          | cons _ _=>simp[RL] at dR
          | nil =>
            simp only[RL,R,fO] at dR;obtain⟨rfl,rfl⟩:=dR;have ha:args.map a.eval=#[.string ⟨s.toArray⟩,.int .u8 n]:=YE (by simpa using hq);refine cq hs (v:=.int .i64 (s.count n.toNat.toUInt8:Nat)) (x:=.int .i64 (s.count n.toNat.toUInt8:Nat)) ?_ (by simp only[R]) h;have cn:=run_callFunc_extern (P:=P) hf (by rw[hn];decide) hc.1 q1 q2 #[.string ⟨s.toArray⟩,.int .u8 n] E.w;rw[Lib.run_countString] at cn;simp[execOp,ho,resolve,Act.eval,Deferred.ofValue,invoke,ha,cn,Lib.countByte,Result.andThen]
  · split at hl
    case isFalse=>simp at hl
    rename_i hn;simp only[aH] at hl;subst hl;simp only[ar.aM] at h;unfold OQ.aM at h;split at h<;>try (exfalso;simp_all;done)
    · rename_i s n e1 e2;rw[e2] at dR;obtain⟨q1,q2⟩:=ae6 hn hc.2;cases hq:args.toList.map a.eval with
      | nil=>rw[hq] at dR;simp[RL] at dR
      | cons v1 vs =>
        rw[hq] at dR;cases vs with
        | nil=>simp[RL] at dR
        | cons v2 Hg =>
          cases Hg with
          | cons _ _=>simp[RL] at dR
          | nil =>
            simp only[RL,R,fO] at dR;obtain⟨rfl,rfl⟩:=dR;have ha:args.map a.eval=#[.string ⟨s.toArray⟩,.int .u8 n]:=YE (by simpa using hq);refine cq hs (v:=.int .i64 (w_ s n.toNat.toUInt8)) (x:=.int .i64 (w_ s n.toNat.toUInt8)) ?_ (by simp only[R]) h;have cn:=run_callFunc_extern (P:=P) hf (by rw[hn];decide) hc.1 q1 q2 #[.string ⟨s.toArray⟩,.int .u8 n] E.w;rw[Lib.run_indexByteString] at cn;simp[execOp,ho,resolve,Act.eval,Deferred.ofValue,invoke,ha,cn,ae2,Result.andThen]
def CL (P:Program) (h:List Nat) (o:Oper):ar :=
  match (match o.dst with | some d=>if h.contains (d+100000)=true then K1 P o else none | none=>none) with
  | some x=>x
  | none => match (match KW P o with | some x => some x | none => KZ P h o) with
    | some x=>x
    | none => match KY P o with
      | some x=>x
      | none=>.own .bad []
theorem alU {h:List Nat} (hs:bc E st a) (hk:(CL P h o).aM P st K):o.wp P a E.w (cZ E a o.dst K) Q:=by
  unfold CL at hk;split at hk
  · rename_i x hx;split at hx
    · split at hx
      · exact an' hx hs hk
      · simp at hx
    · simp at hx
  · split at hk
    · rename_i x hx;split at hx
      · rename_i y hy;simp only[aH] at hx;subst hx;exact aeF hy hs hk
      · exact alV hx hs hk
    · split at hk
      · rename_i x hx;exact amk hx hs hk
      · simp only[ar.aM,cr] at hk;unfold OQ.aM at hk;simp at hk
def VC (P:Program) (h:List Nat) (ops:Array Oper) (o:Oper):Option AO :=
  match o.guard with
  | none=>some ⟨o.dst,CL P h o,none⟩
  | some (j, want) =>
    match (ops[j]?).bind (·.dst) with
    | some g=>some ⟨o.dst,CL P h o,some (g,want)⟩
    | none=>none
def vP (P:Program) (h:List Nat) (ops:Array Oper):List Oper→Option (List AO)
  | []=>some []
  | o::os=>(VC P h ops o).bind fun x=>(vP P h ops os).map (x::·)
end
theorem aqx {P:Program} {t:TypeId} {s:ByteArray} {w:World} (h:P.underlying t=some .string):(Instr.range t (.string s)).run P w = .ok (.pointer (some ⟨w.heap.size,0,none⟩)) (w.alloc (.stringIter s 0)):=by
  simp[Instr.range,run_underlying h]
def iA (w:World) (b:Nat) (o:Obj):World:={w with heap:=w.heap.setIfInBounds b o}
theorem Xz {P:Program} {s:ByteArray} {b p:Nat} {w:World} (h:w.heap[b]?=some (.stringIter s p)):(getObj b).run P w = .ok (.stringIter s p) w:=by
  simp only[getObj,Sem.run,h]
theorem aqy {P:Program} {s:ByteArray} {b p:Nat} {o:Obj} {w:World} (h:w.heap[b]?=some (.stringIter s p)):(setObj b o).run P w = .ok () (iA w b o):=by
  simp only[setObj,Sem.run,h];rfl
theorem run_next_end {P:Program} {t:TypeId} {s:ByteArray} {b p:Nat} {w:World} (h:w.heap[b]?=some (.stringIter s p)) (hp:¬p<s.size):(Instr.next (.pointer (some ⟨b,0,none⟩)) true t).run P w = .ok (.tuple #[.bool false]) w:=by
  unfold Instr.next;simp only[Sem.run_bind,Xz h,Result.andThen,hp,bP];rfl
theorem aqw {P:Program} {t:TypeId} {s:ByteArray} {b p:Nat} {w:World} (h:w.heap[b]?=some (.stringIter s p)) (hp:p<s.size) (hc:(s.get! p).toNat<128):(Instr.next (.pointer (some ⟨b,0,none⟩)) true t).run P w = .ok (.tuple #[.bool true,.int .i64 p,.int .i32 (s.get! p).toNat]) (iA w b (.stringIter s (p+1))):=by
  have hd:Utf8.decode s p=((s.get! p).toNat,1):=by simp[Utf8.decode,hc]
  unfold Instr.next;simp only[Sem.run_bind,Xz h,Result.andThen,hp,b7,hd,aqy h];rfl
theorem v_ {w:World} {b b' : Nat} {o:Obj} (h:b' ≠ b):(iA w b o).heap[b']?=w.heap[b']?:=by
  simp only[iA];rw[Ze];simp[Ne.symm h]
theorem X7 {w:World} {b:Nat} {o o' : Obj} (h:w.heap[b]?=some o'):(iA w b o).heap[b]?=some o:=by
  obtain⟨h1,_⟩:=gj.1 h;simp only[iA];rw[Ze];simp[h1]
theorem X8 {w:World} {b:Nat} {o:Obj}:(iA w b o).heap.size=w.heap.size:=by simp[iA]
theorem X6 {w:World} {b b' i:Nat} {o:Obj} (h:b' ≠ b):(iA w b o).cell? ⟨b',i,none⟩=w.cell? ⟨b',i,none⟩:=by
  simp only[World.cell?,v_ h]
def Env.iA (E:Env) (b:Nat) (o:Obj):Env:={E with w:=Go.Am.iA E.w b o}
theorem Env.aqT {E:Env} {b:Nat} {o:Obj} (hr:E.role b = .kU):E.le (E.iA b o):=by
  refine⟨fun b' i c hc hv=>⟨hc,?_⟩,fun _ _ h=>h,fun t n h=>⟨n,h,bt _,fun _ b' c bz => ⟨bz,fun cs e hcs=>⟨cs,?_,rfl⟩⟩⟩⟩
  · have aI:b' ≠ b:=fun e=>by rw[e,hr] at hc;exact hc
    exact(X6 aI).trans hv
  · have aI:b' ≠ b:=fun e=>by rw[e,hr] at bz;simp at bz
    exact(v_ aI).trans hcs
theorem bc.iA {E:Env} {b:Nat} {o:Obj} {st:St} {a:Act} (hr:E.role b = .kU) (hs:bc E st a):bc (E.iA b o) st a:=by
  have hle:=Env.aqT (o:=o) hr;refine⟨⟨fun b' cs h=>?_,hs.ok.aC,fun b' h=>hs.ok.fresh b' (by rw[←X8 (b:=b) (o:=o)];exact h),hs.ok.nt,fun b cs hc=>c7.mono _ hle.nl (hs.ok.bR b cs hc)⟩,⟨fun i cs h=>?_,hs.cg.none⟩,hs.defers,RL.mono _ hle hs.slot⟩
  · obtain⟨h1,U⟩:=hs.ok.box b' cs h;have aI:b' ≠ b:=fun e=>by rw[e,hr] at h1;simp at h1
    exact⟨h1,ig.mono hle.nl (v_ aI) U⟩
  · obtain⟨b',h1,U,h3⟩:=hs.cg.box i cs h;have aI:b' ≠ b:=fun e=>by rw[e,hr] at U;simp at U
    exact⟨b',h1,U,ig.mono hle (v_ aI) h3⟩
theorem Fr.iA {E0 E:Env} {b:Nat} {s:ByteArray} {p q:Nat} (hf:Fr E0 E) (hr:E.role b = .kU) (hn:E0.w.heap.size≤b) (hb:E.w.heap[b]?=some (.stringIter s p)):Fr E0 (E.iA b (.stringIter s q)):=by
  refine⟨hf.os,hf.output,hf.tape,by rw[show (E.iA b (.stringIter s q)).w.heap.size=E.w.heap.size from X8];exact hf.size,fun a=>?_,fun b' i c hc hv=>?_,fun t n h=>?_,fun b' aj h=>?_,hf.Bm,hf.Bn,hf.zc,fun b' c e h=>by
    obtain⟨c',h1,U⟩:=hf.shape b' c e h;have aI:b' ≠ b:=fun e=>by rw[e,hb] at h1;simp at h1
    exact⟨c',(v_ aI).trans h1,U⟩⟩
  · rw[←hf.eZ a]
    by_cases e:a.block=b
    · have e1:(E.iA b (.stringIter s q)).w.heap[a.block]?=some (.stringIter s q):=by rw[e];exact X7 hb
      rw[←e] at hb;simp only[World.frozen?,e1,hb]
    · simp only[World.frozen?,show (E.iA b (.stringIter s q)).w.heap[a.block]?=E.w.heap[a.block]? from v_ e]
  · obtain⟨h1,U⟩:=hf.cell b' i c hc hv;have aI:b' ≠ b:=fun e=>by rw[e,hr] at h1;exact h1
    exact⟨h1,(X6 aI).trans U⟩
  · obtain⟨n',h1,U,h3⟩:=hf.tok t n h;refine⟨n',h1,U,fun e b' c bz => ?_⟩;obtain⟨h4,h5⟩:=h3 e b' c bz;refine⟨h4,fun cs e' hcs=>?_⟩;obtain⟨cs',h6,h7⟩:=h5 cs e' hcs;have aI:b' ≠ b:=fun e=>by rw[e,hr] at h4;simp at h4
    exact⟨cs',(v_ aI).trans h6,h7⟩
  · obtain⟨h1,U⟩:=hf.same b' aj h;have aI:b' ≠ b:=by omega
    exact⟨(v_ aI).trans h1,U⟩
def Env.kY (E:Env) (o:Obj):Env:={w:=E.w.alloc o,role:=fun b=>if b=E.w.heap.size then .kU else E.role b,loc:=E.loc,aC:=E.aC}
theorem amB {E:Env} {st:St} {a:Act} {s:ByteArray} {p:Nat} (hs:bc E st a):Fr E (E.kY (.stringIter s p))∧bc (E.kY (.stringIter s p)) st a∧(E.kY (.stringIter s p)).role E.w.heap.size = .kU∧(E.kY (.stringIter s p)).w.heap[E.w.heap.size]?=some (.stringIter s p):=by
  have hold:∀b,b<E.w.heap.size→(E.kY (.stringIter s p)).w.heap[b]?=E.w.heap[b]?:=fun b hb=>heap_alloc_old E.w (.stringIter s p) hb
  have cL:∀b,b<E.w.heap.size→(E.kY (.stringIter s p)).role b=E.role b:=fun b hb=>by simp only[Env.kY];rw[ah (by omega)]
  have fI:(E.kY (.stringIter s p)).w.heap[E.w.heap.size]?=some (.stringIter s p):=heap_alloc_new E.w _;have pU:∀b i c,E.w.cell? ⟨b,i,none⟩=some c→b<E.w.heap.size:=fun b i c h=>by
    simp only[World.cell?] at h;split at h
    · rename_i h1;exact(gj.1 h1).1
    · simp at h
  have Jz:∀b i,b<E.w.heap.size→(E.kY (.stringIter s p)).w.cell? ⟨b,i,none⟩=E.w.cell? ⟨b,i,none⟩:=fun b i hb=>by simp only[World.cell?,hold b hb]
  have aS:Fr E (E.kY (.stringIter s p)):=by
    refine⟨rfl,rfl,rfl,by simp[Env.kY],fun a=>?_,fun b i c hc hv=>?_,fun t n h=>⟨n,h,bt _,fun _ b c hb=>?_⟩,fun b hb _=>⟨hold b hb,cL b hb⟩,fun b hb h=>?_,fun b t c hb h=>?_,fun b i hb h=>?_,fun b c e h=>⟨c,(hold b (jC h)).trans h,rfl⟩⟩
    · by_cases h:a.block<E.w.heap.size
      · simp only[World.frozen?,hold _ h]
      · by_cases U:a.block=E.w.heap.size
        · have e2:E.w.heap[a.block]?=none:=by simp;omega
          rw[←U] at fI;simp only[World.frozen?,fI,e2]
        · have e2:E.w.heap[a.block]?=none:=by simp;omega
          have e1:(E.kY (.stringIter s p)).w.heap[a.block]?=none:=by simp[Env.kY];omega
          simp only[World.frozen?,e1,e2]
    · have hb:=pU b i c hv;exact⟨by rw[cL b hb];exact hc,(Jz b i hb).trans hv⟩
    · by_cases aj:b<E.w.heap.size
      · exact⟨(cL b aj).trans hb,fun cs e hcs=>⟨cs,(hold b aj).trans hcs,rfl⟩⟩
      · have:=hs.ok.fresh b (by omega)
        rw[this] at hb;simp at hb
    · rw[cL b hb] at h;exact .inl h
    · rw[cL b hb] at h;exact⟨c,h⟩
    · rw[cL b hb] at h;exact⟨i,h⟩
  have hle:E.le (E.kY (.stringIter s p)):=aS.le fun i b h=>h
  refine⟨aS,⟨⟨fun b cs h=>?_,hs.ok.aC,fun b hb=>?_,hs.ok.nt,fun b cs hc=>c7.mono _ aS.nl (hs.ok.bR b cs hc)⟩,⟨fun i cs h=>?_,hs.cg.none⟩,hs.defers,RL.mono _ hle hs.slot⟩,by simp[Env.kY],fI⟩
  · obtain⟨h1,U⟩:=hs.ok.box b cs h;have aj:b<E.w.heap.size:=by obtain⟨c,e,h3,_⟩:=U;exact jC (w:=E.w) h3
    exact⟨by rw[cL b aj];exact h1,ig.mono hle.nl (hold b aj) U⟩
  · have bz : E.w.heap.size+1≤b:=by simpa [Env.kY] using hb
    simp only[Env.kY];rw[ah (by omega)];exact hs.ok.fresh b (by omega)
  · obtain⟨b,h1,U,h3⟩:=hs.cg.box i cs h;have aj:b<E.w.heap.size:=by obtain⟨c,e,h4,_⟩:=h3;exact jC (w:=E.w) h4
    exact⟨b,h1,by rw[cL b aj];exact U,ig.mono hle (hold b aj) h3⟩
def lQ (o:Oper):Option (Nat × TypeId):=match o.op,o.dst,o.guard with | .alloc t,some d,none=>some (d,t) | _,_,_=>none
def lR (o:Oper):Option (Nat × TypeId × Operand):=match o.op,o.dst,o.guard with | .store t (.tmp d) x,none,none=>some (d,t,x) | _,_,_=>none
theorem MK {o:Oper} {d:Nat} {t:TypeId} (h:lQ o=some (d,t)):o.op = .alloc t∧o.dst=some d∧o.guard=none:=by
  unfold lQ at h;split at h
  · rename_i h1 U h3;simp only[aH,mu] at h;obtain⟨rfl,rfl⟩:=h;exact⟨h1,U,h3⟩
  · simp at h
theorem YK {o:Oper} {d:Nat} {t:TypeId} {x:Operand} (h:lR o=some (d,t,x)):o.op = .store t (.tmp d) x∧o.dst=none∧o.guard=none:=by
  unfold lR at h;split at h
  · rename_i h1 U h3;simp only[aH,mu] at h;obtain⟨rfl,rfl,rfl⟩:=h;exact⟨h1,U,h3⟩
  · simp at h
def isVar (ops:Array Oper) (d:Nat) (t:TypeId):Bool:=ops.toList.any fun o=>match lQ o with | some (d',t')=>d' == d&&t' == t | none=>false
def CH (P:Program) (ops:Array Oper) (o:Oper):Option AO :=
  match lQ o with
  | some (_,t)=>match iO P t,dd P t with | some z,some n=>if z.length=n then some ⟨none,.mv (.c .any),none⟩ else none | _,_=>none
  | none =>
    match lR o with
    | some (d,t,x)=>if isVar ops d t=true then (match dd P t,bX P t x with | some n,some y=>some ⟨some d,.kf n y,none⟩ | _,_=>none) else pw P ops o
    | none=>pw P ops o
def Ag (P:Program) (ops:Array Oper):List Oper→Option (List AO)
  | []=>some []
  | o::os=>(CH P ops o).bind fun x=>(Ag P ops os).map (x::·)
def Ih (ops:Array Oper) (b:List Nat):Bool :=
  ops.toList.zipIdx.all fun (o,i)=>match lQ o with
    | some (d,t)=>(ops.toList.zipIdx.any fun (o',j)=>match lR o' with | some (d',t',_)=>d' == d&&t' == t&&(b.getD j 0).testBit i | none=>false) &&
        (ops.toList.zipIdx.all fun (o',j)=>i == j||match lQ o' with | some (d',_)=>!(d' == d) | none=>true)
    | none=>true
def Gi (ops:Array Oper):List Nat:=ops.toList.filterMap fun o=>(lQ o).map (·.1)
def Gd (P:Program) (ops:Array Oper):Option (List Nat × List (AO × List Nat)) :=
  match Ag P ops ops.toList with
  | none=>none
  | some l0 =>
    let b:=sH ops.toList []
    let d:=List.zipWith dY (l0.map fun o=>(o,[])) b
    let l:=(l0.zip d).zipIdx.map fun ((o,x),i)=>(o,if o.op.Ac then ((List.range (vu d i+1 - mJ d x)).map (mJ d x+·)).filter (· != ym d i) else [])
    if u_ ops l b=true∧P.follows .mixedOrders=true∧Ih ops b=true then some (Gi ops,l) else none
theorem VE {P:Program} {ops:Array Oper}:∀{os:List Oper} {l:List AO},Ag P ops os=some l→l.length=os.length∧∀i:Nat,∀o,os[i]?=some o→∃x,l[i]?=some x∧CH P ops o=some x
  | [],l,h=>by simp only[Ag,aH] at h;subst h;exact⟨rfl,fun i o h=>by simp at h⟩
  | o :: os, l, h => by
    simp only[Ag,gl,cx] at h;obtain⟨x,h1,l',U,rfl⟩:=h;obtain⟨h3,h4⟩:=VE U;refine⟨by simp[h3],fun i q hq=>?_⟩;cases i with
    | zero=>simp at hq;subst hq;exact⟨x,by simp,h1⟩
    | succ i=>simp at hq;obtain⟨y,k1,k2⟩:=h4 i q hq;exact⟨y,by simpa using k1,k2⟩
structure Nj (ops:Array Oper) (b:List Nat):Prop where
  st:∀(i:Nat) o d t,ops[i]?=some o→lQ o=some (d,t)→∃(j:Nat) (o' : Oper) (x:Operand),ops[j]?=some o' ∧ lR o' = some (d,t,x)∧(b.getD j 0).testBit i=true
  uniq:∀(i j:Nat) o o' d t t',ops[i]?=some o→ops[j]?=some o' → lQ o=some (d,t)→lQ o' = some (d,t')→i=j
theorem aeH {ops:Array Oper} {b:List Nat} (h:Ih ops b=true):Nj ops b:=by
  unfold Ih at h;rw[jl] at h;have mem:∀(i:Nat) o,ops[i]?=some o→(o,i)∈ops.toList.zipIdx:=fun i o ho=>by
    rw[DR];simpa using ho
  refine⟨fun i o d t ho hv=>?_,fun i j o o' d t t' ho dZ hv fJ => ?_⟩
  · have:=h _ (mem i o ho)
    simp only[hv,a_,A4] at this;obtain⟨⟨q,hq,h1⟩,_⟩:=this;obtain⟨o',j⟩:=q;simp only at h1;split at h1
    · rename_i d' t' x fJ;simp only[a_,zd] at h1;obtain⟨⟨rfl,rfl⟩,U⟩:=h1;rw[DR] at hq;exact⟨j,o',x,by simpa using hq,fJ,U⟩
    · simp at h1
  · have:=h _ (mem i o ho)
    simp only[hv,a_,jl] at this;have U:=this.2 _ (mem j o' dZ);simp only[fJ,kK,zd,rD] at U
    rcases U with U | U
    · exact U
    · simp at U
theorem alR {P:Program} {ops:Array Oper} {nv:List Nat} {l:List (AO × List Nat)} (h:Gd P ops=some (nv,l)) :
    ∃b,uN ops l b∧b.length=ops.size∧P.follows .mixedOrders=true∧Nj ops b∧nv=Gi ops∧∀(i:Nat) o,ops[i]?=some o→∃x:AO × List Nat,l[i]?=some x∧CH P ops o=some x.1:=by
  unfold Gd at h;cases h0:Ag P ops ops.toList with
  | none=>rw[h0] at h;simp at h
  | some l0 =>
  rw[h0] at h;simp only at h;split at h
  case isFalse=>simp at h
  rename_i hc;simp only[aH,mu] at h;obtain⟨rfl,rfl⟩:=h;refine⟨_,facts hc.1,?_,hc.2.1,aeH hc.2.2,rfl,fun i o ho=>?_⟩
  · have:=hc.1
    unfold u_ at this;simp only[a_,bH] at this;exact this.1.1.2
  · have hlen:=(facts hc.1).size;obtain⟨h1,U⟩:=VE h0;obtain⟨x,k1,k2⟩:=U i o (by simpa using ho);have aj:=(gj.1 ho).1;generalize hL:(l0.zip (List.zipWith dY (l0.map fun o=>(o,[])) (sH ops.toList [])))=z at hlen ⊢;have hz:i<z.length:=by simp at hlen;omega
    refine⟨_,by rw[s7,Ny,cw hz];rfl,?_⟩
    have:z[i].1=x:=by
      have e:z[i]?=some z[i]:=cw hz;subst hL;rw[HM] at e;rw[k1] at e;exact(mV e.1).symm
    simpa [this] using k2
def Env.py (E:Env) (c:Array Value) (t:TypeId):Env:={w:=E.w.alloc (.cells c t),role:=fun b=>if b=E.w.heap.size then .kU else E.role b,loc:=E.loc,aC:=E.aC}
theorem amA {E:Env} {st:St} {a:Act} {c:Array Value} {t:TypeId} (hs:bc E st a):Fr E (E.py c t)∧bc (E.py c t) st a:=by
  have hx:=(Ext.refl E.w).alloc c t;have hold:∀b,b<E.w.heap.size→(E.py c t).w.heap[b]?=E.w.heap[b]?:=fun b hb=>hx.block b hb
  have cL:∀b,b<E.w.heap.size→(E.py c t).role b=E.role b:=fun b hb=>by simp only[Env.py];rw[ah (by omega)]
  have aS:Fr E (E.py c t):=vh hs.ok.fresh hx cL fun _ _ h=>h
  have hle:E.le (E.py c t):=aS.le fun _ _ h=>h
  refine⟨aS,Al hs.ok aS.nl (fun b h hb=>⟨by rw[cL b hb];exact h,hold b hb⟩) (fun _ _ h=>h) (fun b hb=>?_) hs.ok.nt,
    nC hs.cg hle (fun b i h hb=>⟨by rw[cL b hb];exact h,hold b hb⟩) hs.cg.none,hs.defers,RL.mono _ hle hs.slot⟩
  have bz : E.w.heap.size+1≤b:=by simpa [Env.py] using hb
  simp only[Env.py];rw[ah (by omega)];exact hs.ok.fresh b (by omega)
theorem aqW {t:List V} {d:Nat} (h:t.getD d .any = .any):t.set d .any=t:=by
  by_cases hd:d<t.length
  · have:t[d] = .any:=by simpa [List.getD,hd] using h
    rw[←this];simp
  · exact List.set_eq_of_length_le (by omega)
def Env.bare (E:Env) (b k:Nat) (new:Array Value):Env :=
  {w:=E.w.setRow b new,role:=fun x=>if x=b then .gK k else E.role x,loc:=fun i=>if i=k then some b else E.loc i,aC:=E.aC}
theorem aaE {E0 E:Env} {st:St} {a:Act} {b:Nat} {c:Array Value} {e:TypeId} (hs:bc E st a) (hf:Fr E0 E) (hr:E.role b = .kU) (hn:E0.w.heap.size≤b) (hb:E.w.heap[b]?=some (.cells c e (0,0))) {cs:List V} {vs:List Value} (hv:RL E cs vs)
    {d:Nat} (hd:a.tmps[d]?=some (.pointer (some ⟨b,0,none⟩))) :
    Fr E0 (E.bare b st.loc.length vs.toArray)∧bc (E.bare b st.loc.length vs.toArray) ⟨st.t.set d (.ptr (.loc st.loc.length) 0),st.loc++[cs],st.out⟩ a:=by
  generalize hE:E.bare b st.loc.length vs.toArray=E';have gI:∀b',b' ≠ b→E'.w.heap[b']?=E.w.heap[b']?:=fun b' aI=>by rw[←hE];exact setRow_other E.w b b' _ aI
  have ku:E'.w.heap[b]?=some (.cells vs.toArray e (0,0)):=by rw[←hE];exact setRow_heap E.w b c _ e _ hb
  have jv:∀b',b' ≠ b→E'.role b' = E.role b' := fun b' aI=>by rw[←hE];simp only[Env.bare];rw[ah aI]
  have np:E'.role b = .gK st.loc.length:=by rw[←hE];simp[Env.bare]
  have bO:E'.w.heap.size=E.w.heap.size:=by rw[←hE];simp[Env.bare]
  have cW:∀i,i≠st.loc.length→E'.loc i=E.loc i:=fun i hi=>by rw[←hE];simp only[Env.bare];rw[ah hi]
  have T':E'.loc st.loc.length=some b:=by rw[←hE];simp[Env.bare]
  have qO:E.loc st.loc.length=none:=hs.cg.none _ (bt _);have qf:E'.aC=E.aC:=by rw[←hE];rfl
  have pU:∀b' o',b' ≠ b→E'.w.cell? ⟨b',o',none⟩=E.w.cell? ⟨b',o',none⟩:=fun b' o' aI=>by simp only[World.cell?,gI b' aI]
  have JN:∀x,E'.w.frozen? x=E.w.frozen? x:=fun x=>by rw[←hE];exact BK hb x
  have hle:E.le E' := by
    refine⟨fun b' o' c' hc hv=>?_,fun i b' h=>?_,fun t n h=>⟨n,by rw[qf];exact h,bt _,fun _ b' c' bz => ?_⟩⟩
    · have aI:b' ≠ b:=fun e=>by rw[e,hr] at hc;exact hc
      exact⟨by rw[jv b' aI];exact hc,(pU b' o' aI).trans hv⟩
    · rw[cW i (fun e=>by rw[e,qO] at h;simp at h)];exact h
    · have aI:b' ≠ b:=fun e=>by rw[e,hr] at bz;simp at bz
      exact⟨by rw[jv b' aI];exact bz,fun cs' e' hcs=>⟨cs',(gI b' aI).trans hcs,rfl⟩⟩
  refine⟨⟨?_,?_,?_,by rw[bO];exact hf.size,fun x=>(JN x).trans (hf.eZ x),fun b' o' c' hc hv=>?_,fun t n h=>?_,fun b' aj h=>?_,fun b' aj h=>?_,fun b' t c' aj h=>?_,fun b' i aj h=>?_,fun b' c' e' h=>by
    have aj:=jC (w:=E0.w) h;have aI:b' ≠ b:=by omega
    obtain⟨c1,h1,U⟩:=hf.shape b' c' e' h;exact⟨c1,(gI b' aI).trans h1,U⟩⟩,⟨⟨fun b' ds h=>?_,fun t n h=>by rw[qf];exact hs.ok.aC t n h,fun b' h=>?_,by rw[qf];exact hs.ok.nt,fun b cs hc=>c7.mono _ hle.nl (hs.ok.bR b cs hc)⟩,⟨fun i ds h=>?_,fun i hi=>?_⟩,hs.defers,?_⟩⟩
  · rw[←hf.os,←hE];rfl
  · rw[←hf.output,←hE];rfl
  · rw[←hf.tape,←hE];rfl
  · obtain⟨h1,U⟩:=hf.cell b' o' c' hc hv;have aI:b' ≠ b:=fun e=>by rw[e,hr] at h1;exact h1
    exact⟨by rw[jv b' aI];exact h1,(pU b' o' aI).trans U⟩
  · obtain⟨n',h1,U,h3⟩:=hf.tok t n h;refine⟨n',by rw[qf];exact h1,U,fun e b' c' bz => ?_⟩;obtain⟨h4,h5⟩:=h3 e b' c' bz;have aI:b' ≠ b:=fun e=>by rw[e,hr] at h4;simp at h4
    refine⟨by rw[jv b' aI];exact h4,fun cs' e' hcs=>?_⟩;obtain⟨Iv,h6,h7⟩:=h5 cs' e' hcs;exact⟨Iv,(gI b' aI).trans h6,h7⟩
  · obtain⟨h1,U⟩:=hf.same b' aj h;have aI:b' ≠ b:=by omega
    exact⟨(gI b' aI).trans h1,(jv b' aI).trans U⟩
  · have aI:b' ≠ b:=by omega
    rw[jv b' aI] at h;exact hf.Bm b' aj h
  · have aI:b' ≠ b:=by omega
    rw[jv b' aI] at h;exact hf.Bn b' t c' aj h
  · have aI:b' ≠ b:=by omega
    rw[jv b' aI] at h;exact hf.zc b' i aj h
  · obtain⟨h1,U⟩:=hs.ok.box b' ds h;have aI:b' ≠ b:=fun e=>by rw[e,hr] at h1;simp at h1
    exact⟨by rw[jv b' aI];exact h1,ig.mono hle.nl (gI b' aI) U⟩
  · rw[bO] at h;have aj:b<E.w.heap.size:=jC hb;rw[jv b' (by omega)];exact hs.ok.fresh b' h
  · by_cases hi:i=st.loc.length
    · subst hi;simp only[List.getElem?_concat_length,aH] at h;subst h;refine⟨b,T',np,vs.toArray,e,ku,by have:=eM hv;simp;omega,fun j x hj=>?_⟩;obtain⟨u,h1,U⟩:=oI hv j x hj;exact⟨u,by simpa using h1,U.mono _ hle⟩
    · have aj:i<st.loc.length:=by
        have:=(dD.1 h).1
        simp at this;omega
      rw[oC aj] at h;obtain⟨b',h1,U,h3⟩:=hs.cg.box i ds h;have aI:b' ≠ b:=fun e=>by rw[e,hr] at U;simp at U
      exact⟨b',by rw[cW i hi];exact h1,by rw[jv b' aI];exact U,ig.mono hle (gI b' aI) h3⟩
  · simp at hi;rw[cW i (by omega)];exact hs.cg.none i (by omega)
  · have h1:=RL.mono _ hle hs.slot;have hp:R E' (.ptr (.loc st.loc.length) 0) (.pointer (some ⟨b,0,none⟩)):=by simp only[R];exact⟨b,T',rfl⟩
    have U:=D2 h1 d hp
    have:a.tmps.toList.set d (.pointer (some ⟨b,0,none⟩))=a.tmps.toList:=by
      have aj:=(gj.1 hd).1
      have:a.tmps.toList[d]'(by simpa using aj) = .pointer (some ⟨b,0,none⟩):=by
        have:=(gj.1 hd).2;simpa using this
      rw[←this];exact Zp (by simpa using aj)
    rw[this] at U;exact U
section
variable {P:Program} {ops:Array Oper} {l:List (AO × List Nat)} {b:List Nat}
def Zu (P:Program) (ops:Array Oper) (N:Nat) (E0:Env) (listed:Array Bool) (E:Env) (a:Act):Prop :=
  a.tmps.size=N∧∃B:Nat→Nat,∀(i:Nat) o d t,ops[i]?=some o→lQ o=some (d,t)→listed.getD i false=true→(∀(j:Nat) o' x,ops[j]?=some o' → lR o' = some (d,t,x)→listed.getD j false=false) →
    a.tmps[d]?=some (.pointer (some ⟨B i,0,none⟩))∧E.role (B i) = .kU∧(∃c e,E.w.heap[B i]?=some (.cells c e (0,0))∧dd P t=some c.size)∧E0.w.heap.size≤B i ∧
    ∀(i' : Nat) o' d' t',ops[i']?=some o' → lQ o' = some (d',t')→listed.getD i' false=true→(∀(j:Nat) o' x,ops[j]?=some o' → lR o' = some (d',t',x)→listed.getD j false=false)→i≠i' → B i≠B i'
theorem sP {listed:Array Bool} {i j:Nat} (h:i<listed.size):(listed.setIfInBounds i true).getD j false=(decide (j=i)||listed.getD j false):=by
  by_cases eE:j=i
  · subst eE;simp[h]
  · rw[nO,yQ (Ne.symm eE),←nO];simp[eE]
theorem VA {o:Oper} {x:AO} (h:CH P ops o=some x):(∃d t z n,lQ o=some (d,t)∧iO P t=some z∧dd P t=some n∧z.length=n∧x=⟨none,.mv (.c .any),none⟩) ∨
    (∃d t y n q,lR o=some (d,t,y)∧isVar ops d t=true∧dd P t=some n∧bX P t y=some q∧x=⟨some d,.kf n q,none⟩)∨(pw P ops o=some x∧lQ o=none∧∀d t y,lR o=some (d,t,y)→isVar ops d t=false):=by
  unfold CH at h;split at h
  · rename_i d t hv;split at h
    · rename_i z n hz hn;split at h
      · rename_i hl;simp only[aH] at h;exact .inl ⟨d,t,z,n,hv,hz,hn,hl,h.symm⟩
      · simp at h
    · simp at h
  · rename_i hv;split at h
    · rename_i d t y hs;split at h
      · rename_i hi;split at h
        · rename_i n q hn hq;simp only[aH] at h;exact .inr (.inl ⟨d,t,y,n,q,hs,hi,hn,hq,h.symm⟩)
        · simp at h
      · rename_i hi;exact .inr (.inr ⟨h,hv,fun d' t' y' e=>by rw[hs] at e;simp only[aH,mu] at e;obtain⟨rfl,rfl,_⟩:=e;simpa using hi⟩)
    · rename_i hs;exact .inr (.inr ⟨h,hv,fun d t y e=>by rw[hs] at e;simp at e⟩)
theorem adr {nv:List Nat} {id:Nat} (hl:Gd P ops=some (nv,l)) {K:St→Prop} {st:St} (Uf:∀d∈nv,d<st.t.length∧st.t.getD d .any = .any) (h:bL P l [(st.loc,st.out)] [] K st) :
    gu P (.region id ops true) (fun e aq => e = .normal∧K aq) st:=by
  obtain⟨b,F,kT,hf,FA,rfl,nj⟩:=alR hl;intro E0 a0 Fz;have aub:=F.size
  -- what a pair of a new variable and its store is like
  have Ch:∀(i:Nat) o d t,ops[i]?=some o→lQ o=some (d,t)→isVar ops d t=true:=fun i o d t ho hv=>by
    unfold isVar;rw[A4];exact⟨o,by simpa using Nf ho,by simp[hv]⟩
  have ajx:∀d t,isVar ops d t=true→∃(i:Nat) (o:Oper),ops[i]?=some o∧lQ o=some (d,t):=fun d t h=>by
    unfold isVar at h;rw[A4] at h;obtain⟨o,h1,U⟩:=h;split at U
    · rename_i d' t' hv;simp only[a_,zd] at U;obtain⟨rfl,rfl⟩:=U;obtain⟨i,hi⟩:=Zn.1 h1;exact⟨i,o,by simpa using hi,hv⟩
    · simp at U
  -- a store that is one of these has the variable's slot
  have FD:∀(j:Nat) o d t x,ops[j]?=some o→lR o=some (d,t,x)→isVar ops d t=true→∃y:AO × List Nat,l[j]?=some y∧y.1.dst=some d:=fun j o d t x ho hv hi=>by
    obtain⟨y,h1,U⟩:=nj j o ho
    rcases VA U with ⟨d',t',z,n,k1,_⟩ | ⟨d',t',y',n,q,k1,_,_,_,k2⟩ | ⟨_,_,k3⟩
    · obtain⟨e1,_⟩:=MK k1;obtain⟨e2,_⟩:=YK hv;rw[e1] at e2;simp at e2
    · rw[hv] at k1;simp only[aH,mu] at k1;obtain⟨rfl,_⟩:=k1;exact⟨y,h1,by rw[k2]⟩
    · rw[k3 d t x hv] at hi;simp at hi
  refine Se (X:=Zu P ops a0.tmps.size E0) F kT hf h Fz (fun E' => ⟨rfl,fun _=>0,fun i o d t _ _ fH => by
    exfalso
    by_cases hj:i<ops.size<;>simp[hj] at fH⟩) fun i o ho=>?_
  obtain⟨x,hx,hxo⟩:=nj i o ho;have at2:i<ops.size:=(gj.1 ho).1;refine⟨x,hx,?_⟩
  rcases VA hxo with ⟨d,t,z,n,hv,hz,hn,hzn,sy⟩ | ⟨d,t,y,n,q,hv,Km,hn,hq,sy⟩ | ⟨qL,UC,zY⟩
  · -- a variable is made
    right;obtain⟨v1,v2,v3⟩:=MK hv;obtain⟨iz,zv,z1,z2,z3,z4⟩:=qw hz;refine⟨v3,by rw[sy],fun E a t' s v s' listed Q pe vE Jw TQ ku hs aS hX jw=>?_⟩;rw[sy] at jw ⊢;obtain⟨rfl,jw⟩:=jw;obtain rfl:s=s' := by have:=gm (fun q:St=>(q.loc,q.out)) jw;simp only[bB,mu] at this;exact Prod.ext this.1 this.2
    simp only[jd];have TW:d∈Gi ops:=by unfold Gi;rw[NB];exact⟨o,by simpa using Nf ho,by simp[hv]⟩
    have aiV:t'.getD d .any = .any:=by
      rw[ku d fun j y hy xU=>?_]
      · exact(Uf d TW).2
      · obtain⟨j0,o0,x0,k1,k2,k3⟩:=FA.st i o d t ho hv;obtain⟨y0,k4,k5⟩:=FD j0 o0 d t x0 k1 k2 (Ch i o d t ho hv)
        have:j=j0:=by
          rcases Nat.decEq j j0 with aI | he
          · exact absurd xU (F.dst j j0 y y0 hy k4 aI d k5)
          · exact he
        subst this;exact TQ j (by rw[kT];exact(gj.1 k1).1) k3
    obtain⟨vr,ct⟩:=amA (c:=zv.cells) (t:=t) hs;have cn:(execOp a.eval o).run P E.w = .ok (.value (.pointer (some ⟨E.w.heap.size,0,none⟩))) (E.w.alloc (.cells zv.cells t)):=by
      simp[execOp,v1,Instr.alloc,zeroValue,typeInfo,z1,z2,newVar,newRow]
    unfold Oper.wp;rw[cn];simp only[Oper.upon,v2];refine⟨E.py zv.cells t,rfl,?_,aS.trans vr,?_⟩
    · have:=bc.put ct (v:=.any) (x:=.pointer (some ⟨E.w.heap.size,0,none⟩)) (by simp[R]) (some d)
      rw[CZ] at this;simp only[jd,aqW aiV] at this;exact this
    · obtain⟨hN,B,hB⟩:=hX;have fI:(E.py zv.cells t).w.heap[E.w.heap.size]?=some (.cells zv.cells t (0,0)):=heap_alloc_new E.w _;have gU:zv.cells.size=n:=by have:=eM (oS (E:=E) z3);rw[←hzn];simp at this;omega
      refine⟨by simp[Act.put,hN],fun k=>if k=i then E.w.heap.size else B k,fun k o' d' pC dZ fJ fH dH=>?_⟩;have Co : ∀(j:Nat) o' x,ops[j]?=some o' → lR o' = some (d',pC,x)→listed.getD j false=false:=fun j o2 x2 h1 U=>by
        have:=dH j o2 x2 h1 U
        rw[sP pe] at this;simp only[yU] at this;exact this.2
      rw[sP pe] at fH
      by_cases pd:k=i
      · subst pd;rw[ho] at dZ;simp only[aH] at dZ;subst dZ;rw[hv] at fJ;simp only[aH,mu] at fJ;obtain⟨rfl,rfl⟩:=fJ;simp only[b7];have Ff:d<a.tmps.size:=by
          have:=(Uf d TW).1
          have h0:=eM Fz.slot;simp at h0;omega
        refine⟨by simp[Act.put,Ff],by simp[Env.py],⟨_,_,fI,by rw[gU];exact hn⟩,uS aS.size (bt _),fun i' o' d' t' dZ fJ T_ ajK aI=>?_⟩;simp only[ah (Ne.symm aI)];have Kh:∀(j:Nat) o' x,ops[j]?=some o' → lR o' = some (d',t',x)→listed.getD j false=false:=fun j o2 x2 h1 U=>by
          have:=ajK j o2 x2 h1 U
          rw[sP pe] at this;simp only[yU] at this;exact this.2
        rw[sP pe] at T_;have sn:listed.getD i' false=true:=by simpa [Ne.symm aI] using T_
        obtain⟨_,_,⟨c,e,hc,_⟩,_⟩:=hB i' o' d' t' dZ fJ sn Kh
        have:=jC hc
        omega
      · simp only[ah pd];have jQ:listed.getD k false=true:=by simpa [pd] using fH
        obtain⟨g1,g2,⟨c,e,g3,g4⟩,g5,g6⟩:=hB k o' d' pC dZ fJ jQ Co;have aj:=jC g3;have xE:d' ≠ d:=fun e=>by subst e;exact pd (FA.uniq k i o' o d' pC t dZ ho fJ hv)
        refine⟨by simp only[Act.put];rw[yQ (Ne.symm xE)];exact g1,by simp only[Env.py];rw[ah (by omega)];exact g2,⟨c,e,((Ext.refl E.w).alloc zv.cells t).block _ aj |>.trans g3,g4⟩,g5,fun i' o2 d2 t2 p_ sv sn qc aI=>?_⟩;have Kh:∀(j:Nat) o' x,ops[j]?=some o' → lR o' = some (d2,t2,x)→listed.getD j false=false:=fun j o3 x3 h1 U=>by
          have:=qc j o3 x3 h1 U
          rw[sP pe] at this;simp only[yU] at this;exact this.2
        by_cases cT : i' = i
        · simp only[ak cT];omega
        · simp only[ah cT];rw[sP pe] at sn;exact g6 i' o2 d2 t2 p_ sv (by simpa [cT] using sn) Kh aI
  · -- its first store
    right;obtain⟨v1,v2,v3⟩:=YK hv;refine⟨v3,by rw[sy],fun E a t' s v s' listed Q pe vE Jw TQ ku hs aS hX jw=>?_⟩;rw[sy] at jw ⊢;simp only[ar.aM] at jw;obtain⟨pk,ey,rfl,jw⟩:=jw;obtain rfl:(s.1++[(ev (bB t' s) q).cells],s.2)=s' := by have:=gm (fun q:St=>(q.loc,q.out)) jw;simp only[bB,mu] at this;exact Prod.ext this.1 this.2
    simp only[jd];obtain⟨i0,o0,k1,k2⟩:=ajx d t Km;obtain⟨j0,oj,xj,m1,m2,m3⟩:=FA.st i0 o0 d t k1 k2;have o_:j0=i:=by
      obtain⟨y0,k4,k5⟩:=FD j0 oj d t xj m1 m2 Km
      rcases Nat.decEq j0 i with aI | he
      · have:=F.dst i j0 x y0 hx k4 (Ne.symm aI) d k5
        rw[sy] at this;exact absurd rfl this
      · exact he
    subst o_;rw[ho] at m1;simp only[aH] at m1;subst m1;have Uy:∀(j:Nat) o' x,ops[j]?=some o' → lR o' = some (d,t,x)→j=j0:=fun j o' x' h1 U=>by
      obtain⟨y0,k4,k5⟩:=FD j o' d t x' h1 U Km
      rcases Nat.decEq j j0 with aI | he
      · have:=F.dst j0 j x y0 hx k4 (Ne.symm aI) d k5
        rw[sy] at this;exact absurd rfl this
      · exact he
    obtain⟨hN,B,hB⟩:=hX;obtain⟨g1,g2,⟨c,e,g3,g4⟩,g5,g6⟩:=hB i0 o0 d t k1 k2 (Jw i0 m3) fun j o' x' h1 U=>by rw[Uy j o' x' h1 U];exact vE
    have hR:=lD (E:=E) (st:=bB t' s) (a:=a) hs.slot hq;obtain⟨pS,bO⟩:=uW hR pk;have hcs:c.size=n:=by rw[hn] at g4;simpa using g4.symm
    have cn:=L_ (P:=P) (off:=0) hn g3 bO (by omega) (ui pS ey);obtain⟨f1,f2⟩:=aaE hs aS g2 g5 g3 pS g1;have fI:(c.toList.take 0++(a.eval y).cells.toList++c.toList.drop (0+n)).toArray=(a.eval y).cells.toList.toArray:=by
      rw[Ns (by simp;omega)];simp
    rw[fI] at cn;have hde:a.eval (.tmp d) = .pointer (some ⟨B i0,0,none⟩):=by simp[Act.eval,nO,g1]
    unfold Oper.wp;rw[show (execOp a.eval o).run P E.w = .ok .skip (E.w.setRow (B i0) (a.eval y).cells.toList.toArray) from by simp[execOp,v1,hde,GV cn]];simp only[Oper.upon,v2];refine⟨_,rfl,f2,f1,hN,B,fun k o' d' pC dZ fJ fH dH=>?_⟩;have hkd:d' ≠ d:=fun e=>by
      subst e;have e1:=FA.uniq k i0 o' o0 d' pC t dZ k1 fJ k2;subst e1;rw[k1] at dZ;simp only[aH] at dZ;subst dZ;rw[k2] at fJ;simp only[aH,mu] at fJ;obtain⟨_,rfl⟩:=fJ
      have:=dH j0 o y ho hv
      rw[sP pe] at this;simp at this
    have B9:k≠i0:=by rintro rfl;rw[k1] at dZ;simp only[aH] at dZ;subst dZ;rw[k2] at fJ;simp only[aH,mu] at fJ;exact hkd fJ.1.symm
    have Ud:∀(k:Nat) o',ops[k]?=some o' → (lQ o').isSome=true→k≠j0:=fun k o' dZ ct => by
      rintro rfl;rw[ho] at dZ;simp only[aH] at dZ;subst dZ;cases hq:lQ o with
      | none=>rw[hq] at ct;simp at ct
      | some p=>obtain⟨p1,p2⟩:=p;rw[(MK hq).1] at v1;simp at v1
    have conv:∀{d t},(∀(j:Nat) o' x,ops[j]?=some o' → lR o' = some (d,t,x)→(listed.setIfInBounds j0 true).getD j false=false)→∀(j:Nat) o' x,ops[j]?=some o' → lR o' = some (d,t,x)→listed.getD j false=false:=fun {d t} h j o2 x2 h1 U=>by
      have:=h j o2 x2 h1 U
      rw[sP pe] at this;simp only[yU] at this;exact this.2
    have JV:=Ud k o' dZ (by simp[fJ]);rw[sP pe] at fH;have jQ:listed.getD k false=true:=by simpa [JV] using fH
    obtain⟨p1,p2,⟨c',e',p3,p4⟩,p5,p6⟩:=hB k o' d' pC dZ fJ jQ (conv dH);have p8:B k≠B i0:=p6 i0 o0 d t k1 k2 (Jw i0 m3) (fun j o' x' h1 U=>by rw[Uy j o' x' h1 U];exact vE) B9;refine⟨p1,by simp only[Env.bare];rw[ah p8];exact p2,⟨c',e',by simp only[Env.bare];rw[setRow_other E.w (B i0) (B k) _ p8];exact p3,p4⟩,p5,fun i' o2 d2 t2 p_ sv sn qc aI=>?_⟩;rw[sP pe] at sn;exact p6 i' o2 d2 t2 p_ sv (by simpa [Ud i' o2 p_ (by simp[sv])] using sn) (conv qc) aI
  · -- any other step
    left;refine⟨qL,fun listed E E' a u hX iW => ?_⟩;obtain⟨hN,B,hB⟩:=hX;have kj:x.1.dst=o.dst:=by
      unfold pw at qL;split at qL
      · simp at qL
      · split at qL
        · simp only[aH] at qL;rw[←qL]
        · split at qL
          · simp only[aH] at qL;rw[←qL]
          · simp at qL
    have bO:(a.put o.dst u).tmps.size=a.tmps.size:=by cases o.dst<;>simp[Act.put]
    refine⟨by rw[bO];exact hN,B,fun k o' d' pC dZ fJ fH dH=>?_⟩;have pd:k≠i:=by rintro rfl;rw[ho] at dZ;simp only[aH] at dZ;subst dZ;rw[UC] at fJ;simp at fJ
    have JZ : ∀k,k≠i→(listed.setIfInBounds i true).getD k false=listed.getD k false:=fun k hk=>by
      rw[nO,yQ (Ne.symm hk),←nO]
    have conv:∀{d t},isVar ops d t=true→(∀(j:Nat) o' x,ops[j]?=some o' → lR o' = some (d,t,x)→(listed.setIfInBounds i true).getD j false=false)→∀(j:Nat) o' x,ops[j]?=some o' → lR o' = some (d,t,x)→listed.getD j false=false:=fun {d t} zM h j o2 x2 h1 U=>by
      have:=h j o2 x2 h1 U
      rw[JZ j (by rintro rfl;rw[ho] at h1;simp only[aH] at h1;subst h1;rw[zY _ _ _ U] at zM;simp at zM)] at this;exact this
    rw[JZ k pd] at fH;obtain⟨g1,g2,⟨c,e,g3,g4⟩,g5,g6⟩:=hB k o' d' pC dZ fJ fH (conv (Ch k o' d' pC dZ fJ) dH);have aj:=jC g3;obtain⟨h1,U⟩:=iW.same _ aj (.inr g2);obtain⟨j0,oj,xj,m1,m2,m3⟩:=FA.st k o' d' pC dZ fJ;obtain⟨y0,k4,k5⟩:=FD j0 oj d' pC xj m1 m2 (Ch k o' d' pC dZ fJ);have xE:o.dst≠some d' := fun hd=>by
      have aI:i≠j0:=by rintro rfl;rw[ho] at m1;simp only[aH] at m1;subst m1;have:=zY _ _ _ m2;rw[Ch k o' d' pC dZ fJ] at this;simp at this
      exact F.dst i j0 x y0 hx k4 aI d' k5 (by rw[kj];exact hd)
    refine⟨?_,U.trans g2,⟨c,e,h1.trans g3,g4⟩,g5,fun i' o2 d2 t2 p_ sv sn qc aI=>?_⟩
    · cases hod:o.dst with
      | none=>exact g1
      | some m=>simp only[Act.put];rw[yQ (by rintro rfl;exact xE hod)];exact g1
    · have cT : i' ≠ i:=by rintro rfl;rw[ho] at p_;simp only[aH] at p_;subst p_;rw[UC] at sv;simp at sv
      rw[JZ i' cT] at sn;exact g6 i' o2 d2 t2 p_ sv sn (conv (Ch i' o2 d2 t2 p_ sv) qc) aI
end
def Dr (P:Program) (ops:Array Oper) (Q:Exit→Act→World→Prop) (N:Act→World→Prop):Nat→Array Bool→Act→World→Prop
  | 0,listed,a,w=>Region.ready .any ops listed=[]∧N a w
  | fuel+1,listed,a,w=>(Region.ready .any ops listed=[]→N a w)∧∀i∈Region.ready .any ops listed,wpOp P ops Q i (Dr P ops Q N fuel (listed.setIfInBounds i true)) a w
section
variable {P:Program}
theorem adu {ops:Array Oper} {l:List (AO × List Nat)} {b:List Nat} (F:uN ops l b) (kT:b.length=ops.size) {K:St→Prop} {st:St} (h:bL P l [(st.loc,st.out)] [] K st) {E:Env} {a:Act} (hs:bc E st a) {X:Array Bool→Env→Act→Prop}
    {Q:Exit→Act→World→Prop} {N:Act→World→Prop} (hN:∀E' aq a',bc E' aq a' → Fr E E' → K aq → N a' E'.w) (Jn:∀E',X (Array.replicate ops.size false) E' a)
    (nj:∀(i:Nat) o,ops[i]?=some o→∃x:AO × List Nat,l[i]?=some x∧((pw P ops o=some x.1∧∀listed E E' a u,X listed E a→Fr E E' → X (listed.setIfInBounds i true) E' (a.put o.dst u))∨Spec P l b st.t E X i o x.1)) :
    Dr P ops Q N ops.size (Array.replicate ops.size false) a {E.w with drawn:=E.w.drawn+1}:=by
  obtain⟨aS,_,lx⟩:=AB hs ((Ext.refl E.w).drew);obtain⟨tr,ht,_,hK⟩:=Dk (t:=st.t) (s:=(st.loc,st.out)) h;have o6:[(st.loc,st.out)]++iH tr=(st.loc,st.out)::iH tr:=rfl;rw[o6] at ht;have hlen:=Bh ht;have key:∀(fuel:Nat) (listed:Array Bool) (a:Act) (w:World),wy ops tr st.t (st.loc,st.out) E X listed a w→listed.toList.count false≤fuel →
      Dr P ops Q N fuel listed a w:=by
    have done:∀(listed:Array Bool) (a:Act) (w:World),wy ops tr st.t (st.loc,st.out) E X listed a w→Region.ready .any ops listed=[] →
        N a w:=fun listed a w h hr=>by
      have b8:∀n j,j<n→j<ops.size→listed.getD j false=true:=by
        intro n;induction n with
        | zero=>intro j h;omega
        | succ n ih =>
          intro j hj fY;cases hq:listed.getD j false with
          | true=>rfl
          | false =>
            have:j∈Region.ready .any ops listed:=mem_ready.2 ⟨by rw[pQ _ _ (by rw[h.size];exact fY)];exact hq,ops[j],gi fY,fun e he hb=>by
              have:=F.back j _ (gi fY) e he hb
              exact ih e.on (by omega) (by omega)⟩
            rw[hr] at this;simp at this
      obtain⟨E',h1,U,h3,_⟩:=h.rel;rw[Mf (fun j hj=>by rw[gQ];exact b8 (j+1) j (by omega) (by rw[←F.size,hlen];exact hj))] at U;rw[←h1];exact hN E' _ _ U h3 hK
    intro fuel;induction fuel with
    | zero =>
      intro listed a w h hc;have hr:Region.ready .any ops listed=[]:=by
        cases hq:Region.ready .any ops listed with
        | nil=>rfl
        | cons j js =>
          obtain⟨h1,o,ho,_⟩:=mem_ready.1 (show j∈Region.ready .any ops listed by rw[hq];simp);have aj:j<listed.size:=by rw[h.size];exact(gj.1 ho).1
          have:false∈listed.toList:=by
            have e:listed[j]?=some false:=by
              rw[gi aj];simpa [aj] using h1
            exact pI (by simpa using e)
          have:=Nq.2 this
          omega
      exact⟨hr,done listed a w h hr⟩
    | succ fuel ih =>
      intro listed a w h hc;refine⟨fun hr=>done listed a w h hr,fun i hi=>?_⟩;refine Ix F kT rfl ht h hi (nj i) fun a w h' => ih _ a w h' ?_
      obtain⟨h1,o,ho,_⟩:=mem_ready.1 hi;have aj:i<listed.size:=by rw[h.size];exact(gj.1 ho).1
      have e:listed.toList[i]?=some false:=by
        have:listed[i]?=some false:=by
          rw[gi aj];simpa [aj] using h1
        simpa using this
      have:=count_set listed.toList i e
      simp only[Hq];omega
  have qO:∀j,(Array.replicate ops.size false).getD j false=false:=fun j=>by
    by_cases hj:j<ops.size<;>simp[hj]
  have l9:∀(tr:List TR) (q:Nat),bQ (fun j=>(Array.replicate ops.size false).getD j false) q tr=[]:=by
    intro tr;induction tr with
    | nil=>intro q;rfl
    | cons r tr ih=>intro q;rw[bQ,ah (by rw[qO];simp)];exact ih _
  refine key ops.size _ a _ ⟨by simp,fun i o _ hi=>by rw[qO] at hi;simp at hi,{E with w:=E.w.drew},rfl,?_,aS,Jn _⟩ (by simp);rw[l9];exact lx
def My (ops:Array Oper) (b:List Nat) (k:Nat):Bool :=
  decide (k<ops.size)&&ops.toList.zipIdx.all fun x =>
    (x.1.after.toList.all fun e=>!Region.binds .any e||decide (e.on<x.2))&&decide (b.getD x.2 0=CU b x.1)&&(decide (x.2<k)||(List.range x.2).all fun j=>(b.getD x.2 0).testBit j)
structure N0 (ops:Array Oper) (b:List Nat) (k:Nat):Prop where
  lt:k<ops.size
  back:∀(i:Nat) o,ops[i]?=some o→∀e∈o.after,Region.binds .any e=true→e.on<i
  mask:∀(i:Nat) o,ops[i]?=some o→∀j,(b.getD i 0).testBit j=true→∃e∈o.after,Region.binds .any e=true∧(j=e.on∨(b.getD e.on 0).testBit j=true)
  all:∀(i:Nat) o,ops[i]?=some o→k≤i→∀j,j<i→(b.getD i 0).testBit j=true
theorem arG {ops:Array Oper} {b:List Nat} {k:Nat} (h:My ops b k=true):N0 ops b k:=by
  unfold My at h;simp only[a_,bH,jl] at h;obtain⟨h1,U⟩:=h;have mem:∀(i:Nat) o,ops[i]?=some o→(o,i)∈ops.toList.zipIdx:=fun i o ho=>by
    rw[DR];simpa using ho
  refine⟨h1,fun i o ho e he hb=>?_,fun i o ho j hj=>?_,fun i o ho hk j hj=>?_⟩
  · have:=(U _ (mem i o ho)).1.1 e (by simpa using he)
    simpa [hb] using this
  · rw[(U _ (mem i o ho)).1.2] at hj;exact Wc hj
  · have:=(U _ (mem i o ho)).2
    simp only[kK,bH,jl,wH] at this
    rcases this with h | h
    · omega
    · exact h j hj
def th (ops:Array Oper) (listed:Array Bool):Prop:=∀(i:Nat) o,ops[i]?=some o→listed.getD i false=true→∀e∈o.after,Region.binds .any e=true→listed.getD e.on false=true
section
variable {ops:Array Oper} {b:List Nat} {k:Nat} (F:N0 ops b k)
include F
theorem aq' {listed:Array Bool} (hs:th ops listed):∀(n i:Nat) o,i<n→ops[i]?=some o→listed.getD i false=true→∀j,(b.getD i 0).testBit j=true→listed.getD j false=true:=by
  intro n;induction n with
  | zero=>intro i o h;omega
  | succ n ih =>
    intro i o hi ho hl j hj;obtain⟨e,he,hb,h⟩:=F.mask i o ho j hj;have hon:=F.back i o ho e he hb;have hle:=hs i o ho hl e he hb
    rcases h with rfl | h
    · exact hle
    · have aj:=(gj.1 ho).1;exact ih e.on ops[e.on] (by omega) (gi (by omega)) hle j h
theorem W6 {listed:Array Bool} (hs:th ops listed) {i:Nat} (hi:i∈Region.ready .any ops listed) {j:Nat} (hj:(b.getD i 0).testBit j=true):listed.getD j false=true:=by
  obtain⟨_,o,ho,b8⟩:=mem_ready.1 hi;obtain⟨e,he,hb,h⟩:=F.mask i o ho j hj;have hle:=b8 e he hb
  rcases h with rfl | h
  · exact hle
  · have hon:=F.back i o ho e he hb;have aj:=(gj.1 ho).1;exact aq' F hs (e.on+1) e.on ops[e.on] (by omega) (gi (by omega)) hle j h
omit F in
theorem Ya {listed:Array Bool} (hs:th ops listed) {i:Nat} (hi:i∈Region.ready .any ops listed):th ops (listed.setIfInBounds i true):=by
  obtain⟨_,o,ho,b8⟩:=mem_ready.1 hi;intro j o' dZ hl e he hb;have up:listed.getD e.on false=true→(listed.setIfInBounds i true).getD e.on false=true:=fun h=>by
    by_cases sk:i=e.on
    · rw[←sk] at h ⊢
      by_cases aj:i<listed.size
      · simp[aj]
      · simp[aj] at h
    · rw[getD_set_ne false sk];exact h
  by_cases o_:i=j
  · subst o_;obtain rfl:o=o' := mV (ho.symm.trans dZ);exact up (b8 e he hb)
  · rw[getD_set_ne false o_] at hl;exact up (hs j o' dZ hl e he hb)
theorem W7 {listed:Array Bool} (bO:listed.size=ops.size) (h:Region.ready .any ops listed=[]):∀n j,j<n→j<ops.size→listed.getD j false=true:=by
  intro n;induction n with
  | zero=>intro j h;omega
  | succ n ih =>
    intro j hj fY;cases hq:listed.getD j false with
    | true=>rfl
    | false =>
      have:j∈Region.ready .any ops listed:=mem_ready.2 ⟨by rw[pQ _ _ (by rw[bO];exact fY)];exact hq,ops[j],gi fY,fun e he hb=>by
        have:=F.back j _ (gi fY) e he hb
        exact ih e.on (by omega) (by omega)⟩
      rw[h] at this;simp at this
theorem arH {Q:Exit→Act→World→Prop}:∀(fuel q:Nat) (listed:Array Bool) (a:Act) (w:World),k≤q→q≤ops.size→ops.size - q≤fuel→listed.size=ops.size→th ops listed→(∀j,j<ops.size→(listed.getD j false=true↔j<q)) →
    wpOps P ops Q (List.range' q (ops.size - q)) a w→wpAny P .any ops Q fuel listed a w:=by
  have am0:∀(q:Nat) (listed:Array Bool),q=ops.size→listed.size=ops.size→(∀j,j<ops.size→(listed.getD j false=true↔j<q))→Region.ready .any ops listed=[]:=fun q listed hq bO hl=>by
    cases hr:Region.ready .any ops listed with
    | nil=>rfl
    | cons j js =>
      obtain⟨h1,o,ho,_⟩:=mem_ready.1 (show j∈Region.ready .any ops listed by rw[hr];simp);have aj:=(gj.1 ho).1
      have:=(hl j aj).2 (by omega)
      rw[pQ _ _ (by omega)] at h1;rw[h1] at this;simp at this
  intro fuel;induction fuel with
  | zero =>
    intro q listed a w hk hq hf bO hs hl h;have J_:q=ops.size:=by omega
    subst J_;rw[HU] at h;exact⟨am0 _ listed rfl bO hl,h⟩
  | succ fuel ih =>
    intro q listed a w hk hq hf bO hs hl h;refine⟨fun hr=>?_,fun i hi=>?_⟩
    · have b8:=W7 F bO hr ops.size;have J_:q=ops.size:=by
        rcases nS q ops.size with aj | ni
        · have:=(hl q aj).1 (b8 q aj aj);omega
        · omega
      subst J_;rw[HU] at h;exact h
    · obtain⟨h1,o,ho,_⟩:=mem_ready.1 hi;have aj:=(gj.1 ho).1;rw[pQ _ _ (by omega)] at h1;have Un:q≤i:=by
        rcases nS i q with U | U
        · rw[(hl i aj).2 U] at h1;simp at h1
        · exact U
      have hiq:i=q:=by
        rcases nS q i with U | U
        · have:=W6 F hs hi (F.all i o ho (by omega) q U)
          have:=(hl q (by omega)).1 this;omega
        · omega
      subst hiq;rw[show ops.size - i=(ops.size - (i+1))+1 by omega,yW,wpOps_cons] at h;refine wpOp_mono (fun a w h' => ih (i+1) _ a w (by omega) (by omega) (by omega) (by simpa using bO) (Ya hs hi) (fun j hj=>?_) h') h
      by_cases o_:i=j
      · subst o_;simp[bO,hj]
      · rw[getD_set_ne false o_,hl j hj];omega
theorem ZR {Q:Exit→Act→World→Prop} {N:Act→World→Prop} (hg:∀(i:Nat) o,i<k→ops[i]?=some o→∀j want,o.guard=some (j,want)→j<k) (hN:∀a w,N a w→wpOps P ops Q (List.range' k (ops.size - k)) a w) :
    ∀(fuel:Nat) (l1 listed:Array Bool) (a:Act) (w:World),l1.size=k→listed.size=ops.size→th ops listed→(∀j,j<k→listed.getD j false=l1.getD j false)→(∀j,k≤j→j<ops.size→listed.getD j false=false) →
      Dr P (ops.extract 0 k) Q N fuel l1 a w→wpAny P .any ops Q (fuel+(ops.size - k)) listed a w:=by
  have Ki:(ops.extract 0 k).size=k:=by have:=F.lt;simp;omega
  have lu:∀i,i<k→(ops.extract 0 k)[i]?=ops[i]?:=fun i hi=>by
    have:=F.lt
    rw[Hp];simp;intro h;omega
  have apX:∀(l1 listed:Array Bool),l1.size=k→listed.size=ops.size→(∀j,j<k→listed.getD j false=l1.getD j false)→∀i,i<k→(i∈Region.ready .any (ops.extract 0 k) l1↔i∈Region.ready .any ops listed):=fun l1 listed h1 U hl i hi=>by
    have hk:=F.lt;rw[mem_ready,mem_ready,lu i hi,pQ _ _ (by omega),pQ _ _ (by omega),hl i hi];refine and_congr Iff.rfl ⟨fun⟨o,ho,h⟩=>⟨o,ho,fun e he hb=>?_⟩,fun⟨o,ho,h⟩=>⟨o,ho,fun e he hb=>?_⟩⟩
    · have:=F.back i o ho e he hb
      rw[hl e.on (by omega)];exact h e he hb
    · have:=F.back i o ho e he hb
      rw[←hl e.on (by omega)];exact h e he hb
  have ado:∀(l1 listed:Array Bool),l1.size=k→listed.size=ops.size→(∀j,j<k→listed.getD j false=l1.getD j false)→th ops listed→(∀j,j<k→listed.getD j false=true)→Region.ready .any (ops.extract 0 k) l1=[]:=fun l1 listed h1 U hl _ b8=>by
    cases hr:Region.ready .any (ops.extract 0 k) l1 with
    | nil=>rfl
    | cons j js =>
      obtain⟨h3,o,ho,_⟩:=mem_ready.1 (show j∈Region.ready .any (ops.extract 0 k) l1 by rw[hr];simp);have aj:=(gj.1 ho).1;rw[Ki] at aj;rw[pQ _ _ (by omega),←hl j aj,b8 j aj] at h3;simp at h3
  have Yr:∀(fuel:Nat) (l1 listed:Array Bool) (a:Act) (w:World),l1.size=k→listed.size=ops.size→th ops listed→(∀j,j<k→listed.getD j false=l1.getD j false)→(∀j,k≤j→j<ops.size→listed.getD j false=false) →
      (Region.ready .any (ops.extract 0 k) l1=[]→N a w)→(∀j,j<k→listed.getD j false=true)→wpAny P .any ops Q (fuel+(ops.size - k)) listed a w:=fun fuel l1 listed a w h1 U hs hl hh hn b8=>by
    refine arH F _ k listed a w (bt _) (by have:=F.lt;omega) (by omega) U hs (fun j hj=>⟨fun h=>?_,fun h=>b8 j h⟩) (hN a w (hn (ado l1 listed h1 U hl hs b8)))
    rcases nS j k with h3 | h3
    · exact h3
    · rw[hh j h3 hj] at h;simp at h
  have ZI:∀(l1 listed:Array Bool),listed.size=ops.size→th ops listed→Region.ready .any ops listed=[]∨(∃i∈Region.ready .any ops listed,k≤i)→∀j,j<k→listed.getD j false=true:=fun l1 listed U hs h j hj=>by
    have hk:=F.lt
    rcases h with h | ⟨i,hi,pd⟩
    · exact W7 F U h ops.size j (by omega) (by omega)
    · obtain⟨_,o,ho,_⟩:=mem_ready.1 hi;exact W6 F hs hi (F.all i o ho pd j (by omega))
  intro fuel;induction fuel with
  | zero =>
    intro l1 listed a w h1 U hs hl hh h;refine Yr 0 l1 listed a w h1 U hs hl hh (fun _=>h.2) fun j hj=>?_
    rw[hl j hj];have b8:∀n j,j<n→j<k→l1.getD j false=true:=by
      intro n;induction n with
      | zero=>intro j h;omega
      | succ n ih =>
        intro j hj tT;have hk:=F.lt;cases hq:l1.getD j false with
        | true=>rfl
        | false =>
          have:j∈Region.ready .any (ops.extract 0 k) l1:=mem_ready.2 ⟨by rw[pQ _ _ (by omega)];exact hq,ops[j],by rw[lu j tT];exact gi (by omega),fun e he hb=>by
            have:=F.back j _ (gi (by omega)) e he hb
            exact ih e.on (by omega) (by omega)⟩
          rw[h.1] at this;simp at this
    exact b8 k j hj hj
  | succ fuel ih =>
    intro l1 listed a w h1 U hs hl hh h
    by_cases hc:Region.ready .any ops listed=[]∨(∃i∈Region.ready .any ops listed,k≤i)
    · exact Yr (fuel+1) l1 listed a w h1 U hs hl hh h.1 (ZI l1 listed U hs hc)
    · rw[show fuel+1+(ops.size - k)=(fuel+(ops.size - k))+1 by omega];refine⟨fun hr=>absurd (.inl hr) hc,fun i hi=>?_⟩;have Fq:i<k:=by
        rcases nS i k with h3 | h3
        · exact h3
        · exact absurd (.inr ⟨i,hi,h3⟩) hc
      have hk:=F.lt;have lY:=(apX l1 listed h1 U hl i Fq).2 hi;have hw:=h.2 i lY;have hww:wpOp P ops Q i (Dr P (ops.extract 0 k) Q N fuel (l1.setIfInBounds i true)) a w:=by
        unfold wpOp at hw ⊢;rw[lu i Fq] at hw;cases ho:ops[i]? with
        | none=>rw[ho] at hw;exact hw
        | some o =>
          rw[ho] at hw;have hy:Region.wanted o (yielded (ops.extract 0 k) a.tmps)=Region.wanted o (yielded ops a.tmps):=by
            unfold Region.wanted;cases kn:o.guard with
            | none=>rfl
            | some p =>
              obtain⟨j,want⟩:=p
              have:=hg i o Fq ho j want kn
              simp only[yielded,lu j this]
          simp only at hw ⊢;rw[←hy];exact hw
      refine wpOp_mono (fun a w h' => ih _ _ a w (by simpa using h1) (by simpa using U) (Ya hs hi) (fun j hj=>?_) (fun j hj fY=>?_) h') hww
      · by_cases o_:i=j
        · subst o_;simp[h1,U,hj,show i<ops.size by omega]
        · rw[getD_set_ne false o_,getD_set_ne false o_,hl j hj]
      · rw[getD_set_ne false (by omega),hh j hj fY]
end
end
inductive AC where
  | skip
  | aa (l:List AO)
  | mQ (x:AC)
  | draw (l:List (AO × List Nat))
  | tu (nv:List Nat) (l:List (AO × List Nat))
  | hole (l:List (AO × List Nat)) (h:HI)
  | seq (x y:AC)
  | cond (c:X) (x y:AC)
  | block (id:Nat) (x:AC)
  | loop (x:AC)
  | scope (x:AC)
  | As (l:List AO) (x:X) (dI dN dM out nxt:Nat) (y:AC)
  | exit (id:Nat)
  | ret
structure Hint where
  out:List Nat:=[]
  mQ:List Nat:=[]
  tail:List Nat:=[]
def AC.AJ (b:Bool) (x:AC):AC:=if b then .mQ x else x
def K4 (P:Program) (hn:List Nat) (ops:Array Oper):Option (List (AO × List Nat) × List AO) :=
  match (List.range ops.size).find? (My ops (sH ops.toList [])) with
  | none=>none
  | some k =>
    match CK P (ops.extract 0 k),vP P hn ops (ops.toList.drop k) with
    | some l,some m=>some (l,m)
    | _,_=>none
def Gf (P:Program) (h:Hint) (jD jE:Array Oper) (qC out qY nxt:Nat) (y:Option AC):Option AC :=
  match jD.toList.getLast?,jE.toList,y with
  | some oR, [oN, oM], some y =>
    match oR.op,oR.dst,oR.guard,oN.op,oN.dst,oN.guard,oM.op,oM.dst,oM.guard with
    | .range xt ox, some dI, none, .next (.tmp Sa) true, some dN, none, .extract (.tmp Sb) 0, some dM, none =>
      match P.underlying xt,vP P h.out jD jD.toList.dropLast,bX P xt ox with
      | some .string,some l,some x=>if Sa = dI∧Sb = dN∧qC = dM∧qY = out then some (.As l x dI dN dM out nxt y) else none
      | _,_,_=>none
    | _,_,_,_,_,_,_,_,_=>none
  | _,_,_=>none
def e_ (P:Program) (h:Hint):Code→Option AC
  | .skip=>some .skip
  | .region id ops false=>(vP P h.out ops ops.toList).map fun l=>AC.AJ (h.mQ.contains id) (.aa l)
  | .region id ops true =>
    if h.tail.contains id then (K4 P h.out ops).map fun p=>AC.AJ (h.mQ.contains id) (.seq (.draw p.1) (.aa p.2)) else
    match CK P ops with
    | some l=>some (AC.AJ (h.mQ.contains id) (.draw l))
    | none =>
      match Ge P ops with
      | some p=>some (AC.AJ (h.mQ.contains id) (.hole p.1 p.2))
      | none=>(Gd P ops).map fun p=>AC.AJ (h.mQ.contains id) (.tu p.1 p.2)
  | .seq (.region i0 jD false) (.block out (.loop (.seq (.region i1 jE false) (.seq (.cond (.tmp qC) .skip (.exit qY)) (.block nxt b))))) =>
    match Gf P h jD jE qC out qY nxt (e_ P h b) with
    | some r=>some r
    | none=>match e_ P h (.region i0 jD false),e_ P h (.block out (.loop (.seq (.region i1 jE false) (.seq (.cond (.tmp qC) .skip (.exit qY)) (.block nxt b))))) with | some x,some y=>some (.seq x y) | _,_=>none
  | .seq a b=>match e_ P h a,e_ P h b with | some x,some y=>some (.seq x y) | _,_=>none
  | .cond c a b=>match bX P 0 c,e_ P h a,e_ P h b with | some c,some x,some y=>some (.cond c x y) | _,_,_=>none
  | .block id a=>(e_ P h a).map (.block id)
  | .loop a=>(e_ P h a).map .loop
  | .scope a=>(e_ P h a).map .scope
  | .exit id=>some (.exit id)
  | .ret=>some .ret
  | .label _=>some .skip
  | _=>none
def ba (st:St) (K:St→Prop):Prop:=∀E a,bc E st a→∃E' aq,E'.w=E.w∧Fr E E' ∧ bc E' aq a∧K aq
theorem ba.id {st:St} {K:St→Prop} (h:K st):ba st K:=fun E _ hs=>⟨E,st,rfl,Fr.refl E,hs,h⟩
theorem ba.bind {st:St} {K K' : St→Prop} (h:ba st K) (k:∀aq,K aq → ba aq K'):ba st K' := fun E a hs =>
  let ⟨E',aq,h1,U,h3,h4⟩:=h E a hs
  let ⟨lk,Da,k1,k2,k3,k4⟩:=k aq h4 E' a h3
  ⟨lk,Da,k1.trans h1,U.trans k2,k3,k4⟩
theorem ba.mono {st:St} {K K' : St→Prop} (h:ba st K) (k:∀aq,K aq → K' aq):ba st K' := h.bind fun aq hk=>ba.id (k aq hk)
def qy:List Nat→List V→Option (List V)
  | [],t=>some t
  | d::ds,t=>if d<t.length then qy ds (t.set d .any) else none
theorem Q9:∀{ds:List Nat} {t t' : List V},qy ds t=some t' → t'.length=t.length∧(∀d∈ds,d<t'.length∧t'.getD d .any = .any)∧(∀d,t.getD d .any = .any→t'.getD d .any = .any)∧∀(E:Env) vs,RL E t vs→RL E t' vs
  | [],t,t',h=>by simp only[qy,aH] at h;subst h;exact⟨rfl,by simp,fun _ h=>h,fun _ _ h=>h⟩
  | d :: ds, t, t', h => by
    simp only[qy] at h;split at h
    case isFalse=>simp at h
    rename_i hd;obtain⟨h1,U,h3,h4⟩:=Q9 h;have hlen:t'.length=t.length:=by rw[h1];simp
    refine⟨hlen,fun x hx=>?_,fun x hx=>h3 x ?_,fun E vs hr=>h4 E vs ?_⟩
    · rcases j_.1 hx with rfl | hx
      · exact⟨by omega,h3 x (by simp[List.getD,hd])⟩
      · exact U x hx
    · by_cases e:x=d
      · subst e;simp[List.getD,hd]
      · simpa [List.getD,A8 (Ne.symm e)] using hx
    · have hl:=eM hr;have hdv:d<vs.length:=by omega
      have:=D2 hr d (x:=.any) (v:=vs[d]) (by simp[R])
      simpa using this
def wB {ι:Type} (I:ι→St) (μ:ι→Nat) (Q:Exit→St→Prop) (n:Nat):Exit→St→Prop
  | .normal,st=>ba st fun aq => ∃j,aq = I j∧μ j<n
  | e,st=>Q e st
def AZ (K:St→Prop) (Q:Exit→St→Prop):Exit→St→Prop
  | .normal,st=>K st
  | e,st=>Q e st
def uV (out:Nat) (J:St→Prop) (Q:Exit→St→Prop):Exit→St→Prop
  | .normal,st=>ba st J
  | .exit id,st=>if id=out then Q .normal st else Q (.exit id) st
  | e,st=>Q e st
def yY (Q:Exit→St→Prop):Exit→St→Prop
  | .goto _,_=>False
  | e,st=>Q e st
def vc (P:Program):AC→(Exit→St→Prop)→St→Prop
  | .skip,Q,st=>Q .normal st
  | .aa l,Q,st=>bA P l (Q .normal) st
  | .draw l,Q,st=>bL P l [(st.loc,st.out)] [] (Q .normal) st
  | .hole l h,Q,st=>bL P l [(st.loc,st.out)] [] (DE h (Q .normal)) st
  | .tu nv l,Q,st=>∃t,qy nv st.t=some t∧bL P l [(st.loc,st.out)] [] (Q .normal) ⟨t,st.loc,st.out⟩
  | .mQ x,Q,st=>ba st fun aq => vc P x Q aq
  | .seq x y,Q,st=>vc P x (AZ (vc P y Q) Q) st
  | .cond c x y,Q,st=>match ev st c with | .bool b=>(b=true→vc P x Q st)∧(b=false→vc P y Q st) | _=>False
  | .block id x,Q,st=>vc P x (pG id Q) st
  | .loop x,Q,st=>∃(ι:Type) (I:ι→St) (μ:ι→Nat),(ba st fun aq => ∃i,aq = I i)∧∀i,vc P x (wB I μ Q (μ i)) (I i)
  | .scope x,Q,st=>vc P x (yY Q) st
  | .As l x dI dN dM out nxt y,Q,st=>bA P l (fun lM=>∃s:List UInt8,ev lM x = .str s∧(∀c∈s,c.toNat<128)∧∃I:Nat→Nat→St→Prop,
      (∀b,ba (lM.put (some dI) (.raw (.pointer (some ⟨b,0,none⟩)))) (I b 0)) ∧
      (∀b i aq,I b i aq → aq.t.getD dI .any = .raw (.pointer (some ⟨b,0,none⟩))∧dN<aq.t.length∧dM<aq.t.length) ∧
      (∀b i c aq,s[i]?=some c→I b i aq → vc P y (pG nxt (uV out (I b (i+1)) Q)) ((aq.put (some dN) (.aX [.bool true,.int .i64 (i:Nat),.int .i32 (c.toNat:Nat)])).put (some dM) (.bool true))) ∧
      (∀b aq,I b s.length aq → Q .normal ((aq.put (some dN) (.aX [.bool false])).put (some dM) (.bool false)))) st
  | .exit id,Q,st=>Q (.exit id) st
  | .ret,Q,st=>Q .ret st
theorem apk {P:Program} {c:Code} {Q:Exit→St→Prop} {st:St} (h:ba st (gu P c Q)):gu P c Q st:=by
  intro E a hs;obtain⟨E',aq,h1,U,h3,h4⟩:=h E a hs;rw[←h1];exact wp_mono (h4 E' a h3) fun _ _ _ ⟨lk,Da,k1,k2,k3,k4⟩=>⟨lk,Da,k1,k2,U.trans k3,k4⟩
theorem alc {N:Nat→Prop}:∀n,N n→∃m,N m∧∀k,N k→m≤k:=fun n=>by
  induction n using Nat.strongRecOn with
  | ind n ih =>
    intro h
    by_cases hq:∃k,N k∧k<n
    · obtain⟨k,h1,U⟩:=hq;exact ih k U h1
    · refine⟨n,h,fun k hk=>?_⟩
      by_cases aj:k<n
      · exact absurd ⟨k,hk,aj⟩ hq
      · omega
theorem ape {P:Program} {c:Code} {Q:Exit→St→Prop} {st:St} {ι:Type} (I:ι→St) (μ:ι→Nat) (h0:ba st fun aq => ∃i,aq = I i) (hr:∀i,gu P c (wB I μ Q (μ i)) (I i)):gu P (.loop c) Q st:=by
  intro E a hs;obtain⟨E1,lM,h1,U,h3,i0,rfl⟩:=h0 E a hs
  classical
  let J:Act→World→Prop:=fun a w=>∃i E',E'.w=w∧bc E' (I i) a∧Fr E E'
  let N:Act→World→Nat→Prop:=fun a w n=>∃i E',E'.w=w∧bc E' (I i) a∧Fr E E' ∧ μ i=n
  have hL:∀a w,(∃n,N a w n)→∃m,N a w m∧∀k,N a w k→m≤k:=fun a w h=>alc _ h.choose_spec
  let M:Act→World→Nat:=fun a w=>if h:∃n,N a w n then (hL a w h).choose else 0
  refine wp_loop J M ⟨i0,E1,h1,h3,U⟩ ?_;intro a w hJ;have hex:∃n,N a w n:=by obtain⟨i,E',k1,k2,k3⟩:=hJ;exact⟨μ i,i,E',k1,k2,k3,rfl⟩
  obtain⟨i,E',k1,k2,k3,k4⟩:=(hL a w hex).choose_spec.1;have hM:M a w=μ i:=by show (if h:∃n,N a w n then (hL a w h).choose else 0)=_;rw[By hex];exact k4.symm
  subst k1;refine wp_mono (hr i E' a k2) ?_;rintro e a' w' ⟨E2,lN,rfl,m2,m3,m4⟩;cases e with
  | normal =>
    obtain⟨E3,wj,n1,n2,n3,j,rfl,aj⟩:=m4 E2 a' m2;have hN:N a' E2.w (μ j):=⟨j,E3,n1,n3,(k3.trans m3).trans n2,rfl⟩;refine⟨⟨j,E3,n1,n3,(k3.trans m3).trans n2⟩,?_⟩;have aua : M a' E2.w≤μ j:=by
      show (if h:∃n,N a' E2.w n then (hL a' E2.w h).choose else 0)≤_;rw[By ⟨_,hN⟩];exact(hL a' E2.w ⟨_,hN⟩).choose_spec.2 _ hN
    rw[hM];omega
  | exit id=>exact⟨E2,lN,rfl,m2,k3.trans m3,m4⟩
  | goto l=>exact⟨E2,lN,rfl,m2,k3.trans m3,m4⟩
  | ret=>exact⟨E2,lN,rfl,m2,k3.trans m3,m4⟩
  | panic c=>exact⟨E2,lN,rfl,m2,k3.trans m3,m4⟩
  | outgrown=>exact⟨E2,lN,rfl,m2,k3.trans m3,m4⟩
section
variable {P:Program}
theorem Gq {hn:List Nat} {ops:Array Oper} {K:St→Prop} {Q:Exit→Act→World→Prop} {E0:Env} {rest:List Nat} (hQ:∀E st a,bc E st a→Fr E0 E→K st→wpOps P ops Q rest a E.w):∀(os:List Oper) (l:List AO) (i:Nat),vP P hn ops os=some l →
    (∀j:Nat,j<os.length→os[j]?=ops[i+j]?)→∀E st a,bc E st a→Fr E0 E→bA P l K st→wpOps P ops Q (List.range' i os.length++rest) a E.w
  | [], l, i, hl, _, E, st, a, hs, hf, h => by
    simp only[vP,aH] at hl;subst hl;exact hQ E st a hs hf h
  | o :: os, l, i, hl, lu, E, st, a, hs, hf, h => by
    simp only[vP,gl,cx] at hl;obtain⟨x,hx,l',fH,rfl⟩:=hl;have ho:ops[i]?=some o:=by have:=lu 0 (by simp);simpa using this.symm
    have ajg : ∀j:Nat,j<os.length→os[j]?=ops[i+1+j]?:=fun j hj=>by
      have:=lu (j+1) (by simp;omega)
      rw[show i+(j+1)=i+1+j from by omega] at this;simpa using this
    have ih:=Gq hQ os l' (i+1) fH ajg;have key:∀{ao:ar} {d:Option Tmp},CL P hn o=ao→d=o.dst→ao.aM P st (fun v aq => bA P l' K (aq.put d v))→o.wp P a E.w (wpOps P ops Q (List.range' (i+1) os.length++rest)) Q:=fun {ao d} hao hd jw=>by
      subst hd;subst hao;refine Oper.wp_mono ?_ (alU (Q:=Q) hs jw);rintro a' w' ⟨E',v,u,aq,rfl,iW,ct,hv,rfl,hk⟩;exact ih E' _ _ (bc.put ct hv o.dst) (hf.trans iW) hk
    simp only[cG,yW,fN,wpOps,ho];unfold VC at hx;cases hg:o.guard with
    | none =>
      rw[hg] at hx;simp only[aH] at hx;subst hx;simp only[bA] at h;rw[ak (by simp[Region.wanted,hg])];exact .inl (key rfl rfl h)
    | some p =>
      obtain⟨j,want⟩:=p;rw[hg] at hx;simp only at hx;split at hx
      case h_2=>simp at hx
      rename_i g kn;simp only[aH] at hx;subst hx;simp only[bA] at h;split at h
      · rename_i b hb;have hR:=zp hs.slot g;rw[hb] at hR;simp only[R,Act.eval] at hR;have lu:a.tmps[g]?=some (.bool b):=by
          rw[nO] at hR;cases hq:a.tmps[g]? with
          | none=>rw[hq] at hR;simp[undef] at hR
          | some u=>rw[hq] at hR;simp at hR;rw[hR]
        have hw:Region.wanted o (yielded ops a.tmps)=(b == want):=by
          simp only[Region.wanted,hg,yielded,kn,s9,lu];cases b<;>cases want<;>rfl
        split at h
        · rename_i Jy;rw[hw,ak (by simp[Jy])];exact .inl (key rfl rfl h)
        · rename_i Jy;rw[hw,ah (by simp[Jy])];exact ih E _ _ (bc.put hs (v:=.aX []) (x:=undef) HV o.dst) hf h
      · rename_i hb;have hR:=zp hs.slot g;rw[hb] at hR;have hu:=NV hR;have hw:Region.wanted o (yielded ops a.tmps)=false:=by
          simp only[Region.wanted,hg,yielded,kn,s9];simp only[Act.eval] at hu;cases hq:a.tmps[g]? with
          | none=>rfl
          | some u =>
            rw[nO,hq] at hu;simp at hu;rw[hu];rfl
        rw[hw,ah (by simp)];exact ih E _ _ (bc.put hs (v:=.aX []) (x:=undef) HV o.dst) hf h
      · exact h.elim
theorem Dj {c:Code} {x:AC} (ih:∀(Q:Exit→St→Prop) (st:St),vc P x Q st→gu P c Q st) (b:Bool) (Q:Exit→St→Prop) (st:St) (h:vc P (AC.AJ b x) Q st):gu P c Q st:=by
  cases b with
  | false=>exact ih Q st h
  | true=>exact apk (h.mono fun aq h' => ih Q aq h')
theorem eval_put {a:Act} {d:Nat} {x:Value} (h:d<a.tmps.size):(a.put (some d) x).eval (.tmp d)=x:=by
  simp[Act.put,Act.eval,h]
theorem rounds {jE:Array Oper} {oN oM:Oper} {dI dN dM i1 out nxt b:Nat} {cb:Code} {Q:Exit→St→Prop} {E0:Env} {s:List UInt8} {I:Nat→St→Prop}
    (h1:jE.toList=[oN,oM]) (hN:oN.op = .next (.tmp dI) true) (Jf:oN.dst=some dN) (Jg:oN.guard=none) (hM:oM.op = .extract (.tmp dN) 0) (Jd:oM.dst=some dM) (Je:oM.guard=none)
    (B0:E0.w.heap.size≤b) (Js:∀c∈s,c.toNat<128) (zS:∀i aq,I i aq → aq.t.getD dI .any = .raw (.pointer (some ⟨b,0,none⟩))∧dN<aq.t.length∧dM<aq.t.length)
    (Jx:∀i c aq,s[i]?=some c→I i aq → gu P cb (pG nxt (uV out (I (i+1)) Q)) ((aq.put (some dN) (.aX [.bool true,.int .i64 (i:Nat),.int .i32 (c.toNat:Nat)])).put (some dM) (.bool true)))
    (fS:∀aq,I s.length aq → Q .normal ((aq.put (some dN) (.aX [.bool false])).put (some dM) (.bool false)))
    {E:Env} {st:St} {a:Act} (hs:bc E st a) (hf:Fr E0 E) (hr:E.role b = .kU) (hh:E.w.heap[b]?=some (.stringIter ⟨s.toArray⟩ 0)) (hI:I 0 st) :
    (Code.block out (.loop (.seq (.region i1 jE false) (.seq (.cond (.tmp dM) .skip (.exit out)) (.block nxt cb))))).wp P (fun e a' w' => ∃E' aq,E'.w=w' ∧ bc E' aq a' ∧ Fr E0 E' ∧ Q e aq) a E.w:=by
  refine wp_block ?_;refine wp_loop (fun a w=>∃i aq E',E'.w=w∧i≤s.length∧I i aq ∧ bc E' aq a∧Fr E0 E' ∧ E'.role b = .kU∧E'.w.heap[b]?=some (.stringIter ⟨s.toArray⟩ i)) (fun a w=>match w.heap[b]? with | some (.stringIter z p)=>z.size - p | _=>0) ⟨0,st,E,rfl,by omega,hI,hs,hf,hr,hh⟩ ?_;rintro a _ ⟨i,aq,E',rfl,hi,hI,ct,iW,bN,B7⟩;obtain⟨hsl,zO,jQ⟩:=zS i aq hI;have hlen:aq.t.length=a.tmps.size:=by have:=eM ct.slot;simpa using this
  have hdI:a.eval (.tmp dI) = .pointer (some ⟨b,0,none⟩):=by
    have:=zp ct.slot dI
    rw[show ev aq (.s dI)=aq.t.getD dI .any from rfl,hsl] at this;simpa [R] using this
  have hg0:jE[0]?=some oN:=by rw[←Nc,h1];rfl
  have Fk:jE[1]?=some oM:=by rw[←Nc,h1];rfl
  have bO:jE.size=2:=by rw[←yR,h1];rfl
  refine wp_seq (wp_region ?_);rw[bO];show wpOps P jE _ [0,1] a E'.w;have step:∀(y:Value) (t:V) (us:Array Value) (bb:Bool) (w1:World) (E1:Env),(Instr.next (.pointer (some ⟨b,0,none⟩)) true oN.type).run P E'.w = .ok y w1→y = .tuple us→us[0]?=some (.bool bb)→E1.w=w1→bc E1 aq a→R E1 t y →
      ∀(QQ:Exit→Act→World→Prop),(∀a',bc E1 ((aq.put (some dN) t).put (some dM) (.bool bb)) a' → a'.eval (.tmp dM) = .bool bb→QQ .normal a' w1)→wpOps P jE QQ [0,1] a E'.w:=by
    intro y t us bb w1 E1 cn hy Kl hw lx hR QQ hQ;subst hy;simp only[wpOps,hg0,Fk];rw[ak (by simp[Region.wanted,Jg])];left;unfold Oper.wp;rw[show (execOp a.eval oN).run P E'.w = .ok (.value (.tuple us)) w1 by simp[execOp,hN,hdI,cn]];simp only[Oper.upon];rw[ak (by simp[Region.wanted,Je])];left;have he:(a.put (some dN) (.tuple us)).eval (.tmp dN) = .tuple us:=eval_put (by omega);rw[Jf,show (execOp (a.put (some dN) (.tuple us)).eval oM).run P w1 = .ok (.value (.bool bb)) w1 by simp[execOp,hM,he,Instr.extract,Kl]];simp only[Jd];refine hQ _ ?_ (eval_put (by simp[Act.put];omega));exact bc.put (bc.put lx hR (some dN)) (by simp[R]) (some dM)
  by_cases aj:i<s.length
  · have lu:s[i]?=some s[i]:=cw aj;have lq:(⟨s.toArray⟩:ByteArray).get! i=s[i]:=by simp[ByteArray.get!,aj]
    have cn:=aqw (P:=P) (t:=oN.type) B7 (by simpa [ByteArray.size] using aj) (by rw[lq];exact Js _ (fD aj));rw[lq] at cn;refine step _ (.aX [.bool true,.int .i64 (i:Nat),.int .i32 (s[i].toNat:Nat)]) _ true _ (E'.iA b (.stringIter ⟨s.toArray⟩ (i+1))) cn rfl rfl rfl (bc.iA bN ct) (by simp[R,RL]) _ ?_;intro a' Kc JH;refine wp_seq (wp_cond_true JH (wp_skip ?_));refine wp_block ?_;have o9:Fr E0 (E'.iA b (.stringIter ⟨s.toArray⟩ (i+1))):=Fr.iA iW bN B0 B7;have Fl:(E'.iA b (.stringIter ⟨s.toArray⟩ (i+1))).w.heap[b]?=some (.stringIter ⟨s.toArray⟩ (i+1)):=X7 B7;have J1:b<(E'.iA b (.stringIter ⟨s.toArray⟩ (i+1))).w.heap.size:=(gj.1 Fl).1;refine wp_mono (Jx i s[i] aq lu hI _ a' Kc) ?_;rintro e a2 w2 ⟨E3,wj,rfl,xM,vq,hq⟩;have zN:=vq.same b J1 (.inr bN);have norm:ba wj (I (i+1))→(∃i aq E',E'.w=E3.w∧i≤s.length∧I i aq ∧ bc E' aq a2∧Fr E0 E' ∧ E'.role b = .kU∧E'.w.heap[b]?=some (.stringIter ⟨s.toArray⟩ i)) ∧
        (match E3.w.heap[b]? with | some (.stringIter z p)=>z.size - p | _=>0)<(match E'.w.heap[b]? with | some (.stringIter z p)=>z.size - p | _=>0):=by
      intro hU;obtain⟨E4,Yl,Kn,B4,Kb,I_⟩:=hU E3 a2 xM;have o7:b<E3.w.heap.size:=by rw[Fl] at zN;exact(gj.1 zN.1).1
      have B_:=B4.same b o7 (.inr (zN.2.trans bN));refine⟨⟨i+1,Yl,E4,Kn,aj,I_,Kb,(o9.trans vq).trans B4,B_.2.trans (zN.2.trans bN),B_.1.trans (zN.1.trans Fl)⟩,?_⟩;rw[zN.1,Fl,B7];simp only[ByteArray.size,NG];omega
    cases e with
    | normal=>exact norm hq
    | exit id =>
      simp only[pG,uV] at hq;simp only[Exit.inBlock,Exit.then]
      by_cases e1:id=nxt
      · rw[ak e1] at hq ⊢;exact norm hq
      · rw[ah e1] at hq ⊢
        by_cases e2:id=out
        · rw[ak e2] at hq ⊢;exact⟨E3,wj,rfl,xM,o9.trans vq,hq⟩
        · rw[ah e2] at hq ⊢;exact⟨E3,wj,rfl,xM,o9.trans vq,hq⟩
    | goto l=>exact⟨E3,wj,rfl,xM,o9.trans vq,hq⟩
    | ret=>exact⟨E3,wj,rfl,xM,o9.trans vq,hq⟩
    | panic c=>exact⟨E3,wj,rfl,xM,o9.trans vq,hq⟩
    | outgrown=>exact⟨E3,wj,rfl,xM,o9.trans vq,hq⟩
  · have sk:i=s.length:=by omega
    subst sk;have cn:=run_next_end (P:=P) (t:=oN.type) B7 (by simp[ByteArray.size]);refine step _ (.aX [.bool false]) _ false _ E' cn rfl rfl rfl ct (by simp[R,RL]) _ ?_;intro a' Kc JH;refine wp_seq (wp_cond_false JH (wp_exit ?_));simp only[Exit.then,Exit.inBlock,b7];exact⟨E',_,rfl,Kc,iW,fS aq hI⟩
theorem apf {VB:(Exit→St→Prop)→St→Prop} {hn:List Nat} {jD jE:Array Oper} {os:List Oper} {oR oN oM:Oper} {l0:List AO} {xt:TypeId} {ox:Operand} {x:X} {dI dN dM i0 i1 out nxt:Nat} {cb:Code} {Q:Exit→St→Prop} {st:St}
    (h0:jD.toList=os++[oR]) (hR:oR.op = .range xt ox) (hRd:oR.dst=some dI) (hRg:oR.guard=none) (ht:P.underlying xt=some .string) (hl:vP P hn jD os=some l0) (hx:bX P xt ox=some x)
    (h1:jE.toList=[oN,oM]) (hN:oN.op = .next (.tmp dI) true) (Jf:oN.dst=some dN) (Jg:oN.guard=none) (hM:oM.op = .extract (.tmp dN) 0) (Jd:oM.dst=some dM) (Je:oM.guard=none)
    (hVB:∀Q st,VB Q st→gu P cb Q st) (h:bA P l0 (fun lM=>∃s:List UInt8,ev lM x = .str s∧(∀c∈s,c.toNat<128)∧∃I:Nat→Nat→St→Prop,
      (∀b,ba (lM.put (some dI) (.raw (.pointer (some ⟨b,0,none⟩)))) (I b 0)) ∧
      (∀b i aq,I b i aq → aq.t.getD dI .any = .raw (.pointer (some ⟨b,0,none⟩))∧dN<aq.t.length∧dM<aq.t.length) ∧
      (∀b i c aq,s[i]?=some c→I b i aq → VB (pG nxt (uV out (I b (i+1)) Q)) ((aq.put (some dN) (.aX [.bool true,.int .i64 (i:Nat),.int .i32 (c.toNat:Nat)])).put (some dM) (.bool true))) ∧
      (∀b aq,I b s.length aq → Q .normal ((aq.put (some dN) (.aX [.bool false])).put (some dM) (.bool false)))) st) :
    gu P (.seq (.region i0 jD false) (.block out (.loop (.seq (.region i1 jE false) (.seq (.cond (.tmp dM) .skip (.exit out)) (.block nxt cb)))))) Q st:=by
  intro E a hs;refine wp_seq (wp_region ?_);have bO:jD.size=os.length+1:=by rw[←yR,h0];simp
  have lu:∀j:Nat,jD[j]?=(os++[oR])[j]?:=fun j=>by rw[←h0];simp
  rw[rJ,bO,List.range'_concat,show 0+1*os.length=os.length by omega];refine Gq (rest:=[os.length]) (K:=_) (E0:=E) ?_ os l0 0 hl ?_ E st a hs (Fr.refl E) h
  · rintro E1 lM a1 lx zI ⟨s,JI,Js,I,hU,zS,Jx,fS⟩;have ho:jD[os.length]?=some oR:=by rw[lu];simp
    simp only[wpOps,ho];rw[ak (by simp[Region.wanted,hRg])];left;have eT:=lD (E:=E1) (st:=lM) (a:=a1) lx.slot hx;rw[JI] at eT;simp only[R] at eT;have cn:(execOp a1.eval oR).run P E1.w = .ok (.value (.pointer (some ⟨E1.w.heap.size,0,none⟩))) (E1.w.alloc (.stringIter ⟨s.toArray⟩ 0)):=by simp[execOp,hR,eT,aqx ht]
    unfold Oper.wp;rw[cn];simp only[Oper.upon,hRd];obtain⟨f2,s2,r2,b2⟩:=amB (s:=⟨s.toArray⟩) (p:=0) lx;have s3:bc (E1.kY (.stringIter ⟨s.toArray⟩ 0)) (lM.put (some dI) (.raw (.pointer (some ⟨E1.w.heap.size,0,none⟩)))) (a1.put (some dI) (.pointer (some ⟨E1.w.heap.size,0,none⟩))):=bc.put s2 (by simp[R]) (some dI);obtain⟨E4,Yl,Kn,B4,Kb,I_⟩:=hU E1.w.heap.size _ _ s3;have J1:E1.w.heap.size<(E1.kY (.stringIter ⟨s.toArray⟩ 0)).w.heap.size:=(gj.1 b2).1;have B_:=B4.same E1.w.heap.size J1 (.inr r2)
    have:=rounds (i1:=i1) (out:=out) (nxt:=nxt) (I:=I E1.w.heap.size) h1 hN Jf Jg hM Jd Je zI.size Js (zS E1.w.heap.size) (fun i c aq hc hI=>hVB _ _ (Jx E1.w.heap.size i c aq hc hI)) (fS E1.w.heap.size) Kb ((zI.trans f2).trans B4) (B_.2.trans r2) (B_.1.trans b2) I_
    rw[Kn] at this;exact this
  · intro j hj;rw[gQ,lu,oC hj]
theorem aph {P:Program} {c:Code} {Q:Exit→St→Prop} {st:St} (h:gu P c (yY Q) st):gu P (.scope c) Q st:=by
  intro E a hs;refine wp_scope_straight (wp_mono (h E a hs) ?_);rintro e a' w' ⟨E',aq,rfl,U,h3,h4⟩;cases e with
  | goto l=>exact h4.elim
  | _=>exact⟨E',aq,rfl,U,h3,h4⟩
theorem alT {h:Hint} {jD jE:Array Oper} {qC out qY nxt i0 i1:Nat} {cb:Code} {y:Option AC} {z:AC} (hz:Gf P h jD jE qC out qY nxt y=some z) (ih:∀y',y=some y' → ∀(Q:Exit→St→Prop) (st:St),vc P y' Q st→gu P cb Q st)
    (Q:Exit→St→Prop) (st:St) (hv:vc P z Q st):gu P (.seq (.region i0 jD false) (.block out (.loop (.seq (.region i1 jE false) (.seq (.cond (.tmp qC) .skip (.exit qY)) (.block nxt cb)))))) Q st:=by
  unfold Gf at hz;split at hz
  case h_2=>simp at hz
  rename_i oR oN oM y' hl h1;split at hz
  case h_2=>simp at hz
  rename_i xt ox dI Sa dN Sb dM g1 g2 g3 g4 g5 g6 g7 g8 g9;split at hz
  case h_2=>simp at hz
  rename_i l x k1 k2 k3;split at hz
  case isFalse=>simp at hz
  rename_i he;obtain⟨rfl,rfl,rfl,rfl⟩:=he;simp only[aH] at hz;subst hz;have h0:jD.toList=jD.toList.dropLast++[oR]:=by
    obtain⟨ys,nr⟩:=List.getLast?_eq_some_iff.1 hl;rw[nr];simp
  exact apf (VB:=vc P y') h0 g1 g2 g3 k1 k2 k3 h1 g4 g5 g6 g7 g8 g9 (ih y' rfl) hv
theorem alQ {h:Hint} {a b:Code} {z:AC} (hz:e_ P h (.seq a b)=some z):(∃x y,e_ P h a=some x∧e_ P h b=some y∧z = .seq x y) ∨
    (∃i0 jD out i1 jE qC qY nxt cb,a = .region i0 jD false∧b = .block out (.loop (.seq (.region i1 jE false) (.seq (.cond (.tmp qC) .skip (.exit qY)) (.block nxt cb))))∧Gf P h jD jE qC out qY nxt (e_ P h cb)=some z):=by
  have gen:(match e_ P h a,e_ P h b with | some x,some y=>some (AC.seq x y) | _,_=>none)=some z→∃x y,e_ P h a=some x∧e_ P h b=some y∧z = .seq x y:=by
    intro e;split at e
    · rename_i x y hx hy;simp only[aH] at e;exact⟨x,y,hx,hy,e.symm⟩
    · simp at e
  unfold e_ at hz;split at hz
  all_goals (try (exfalso;simp_all;done))
  · rename_i heq;simp only[Code.seq.injEq] at heq;obtain⟨rfl,rfl⟩:=heq;split at hz
    · rename_i r hr;exact .inr ⟨_,_,_,_,_,_,_,_,_,rfl,rfl,by rw[hr];exact hz⟩
    · exact .inl (gen hz)
  · rename_i heq;simp only[Code.seq.injEq] at heq;obtain⟨rfl,rfl⟩:=heq;exact .inl (gen hz)
theorem arI {hn:List Nat} {ops:Array Oper} {id:Nat} {p:List (AO × List Nat) × List AO} (hl:K4 P hn ops=some p) {Q:Exit→St→Prop} {st:St} (h:vc P (.seq (.draw p.1) (.aa p.2)) Q st) :
    gu P (.region id ops true) Q st:=by
  unfold K4 at hl;split at hl
  · simp at hl
  rename_i k hk;split at hl
  case h_2=>simp at hl
  rename_i l m h1 U;obtain rfl:=mV hl;have T:=arG (List.find?_some hk);obtain⟨b,F,kT,hf,nj⟩:=VD h1;have aj:=T.lt;have Ki:(ops.extract 0 k).size=k:=by simp;omega
  have lu:∀i,i<k→(ops.extract 0 k)[i]?=ops[i]?:=fun i hi=>by
    rw[Hp];simp;intro h;omega
  have hg:∀(i:Nat) o,i<k→ops[i]?=some o→∀j want,o.guard=some (j,want)→j<k:=fun i o hi ho j want kn=>by
    obtain⟨x,_,hx⟩:=nj i o (by rw[lu i hi];exact ho);unfold pw at hx;split at hx
    · simp at hx
    rw[kn] at hx;simp only at hx;cases hj:(ops.extract 0 k)[j]? with
    | none=>rw[hj] at hx;simp at hx
    | some o' =>
      have:=(gj.1 hj).1
      omega
  simp only[vc] at h;intro E a hs;refine wp_region_any hf ?_;have hd:=adu (X:=fun _ _ _=>True) F kT h hs (Q:=fun e a' w' => ∃E' aq,E'.w=w' ∧ bc E' aq a' ∧ Fr E E' ∧ Q e aq)
    (N:=fun a w=>wpOps P ops (fun e a' w' => ∃E' aq,E'.w=w' ∧ bc E' aq a' ∧ Fr E E' ∧ Q e aq) (List.range' k (ops.size - k)) a w)
    (fun E' aq a' q1 q2 q3=>by
      have:=Gq (P:=P) (ops:=ops) (K:=Q .normal) (E0:=E) (Q:=fun e a' w' => ∃E' aq,E'.w=w' ∧ bc E' aq a' ∧ Fr E E' ∧ Q e aq) (rest:=[]) (fun E' aq a' h1 U h3=>⟨E',aq,rfl,h1,U,h3⟩) (ops.toList.drop k) _ k U (fun j hj=>by simp) E' aq a' q1 q2 q3
      simpa using this)
    (fun _=>trivial) fun i o ho=>by
      obtain⟨x,h1,U⟩:=nj i o ho;exact⟨x,h1,.inl ⟨U,fun _ _ _ _ _ _ _=>trivial⟩⟩
  rw[Ki] at hd
  have:=ZR T hg (fun _ _ h=>h) k (Array.replicate k false) (Array.replicate ops.size false) a _ (by simp) (by simp) (fun i o _ pe=>by by_cases hj:i<ops.size<;>simp[hj] at pe) (fun j hj=>by simp[hj,show j<ops.size by omega]) (fun j _ hj=>by simp[hj]) hd
  rwa [show k+(ops.size - k)=ops.size by omega] at this
theorem uI {h:Hint}:∀(c:Code) (x:AC),e_ P h c=some x→∀(Q:Exit→St→Prop) (st:St),vc P x Q st→gu P c Q st
  | .skip,x,hl,Q,st,h=>by simp only[e_,aH] at hl;subst hl;exact apj h
  | .region id ops false, x, hl, Q, st, h => by
    simp only[e_,cx] at hl;obtain⟨l,hl,rfl⟩:=hl;refine Dj (fun Q st h E a hs=>?_) _ Q st h;refine wp_region ?_
    have:=Gq (P:=P) (ops:=ops) (K:=Q .normal) (E0:=E) (Q:=fun e a' w' => ∃E' aq,E'.w=w' ∧ bc E' aq a' ∧ Fr E E' ∧ Q e aq) (rest:=[]) (fun E' aq a' h1 U h3=>⟨E',aq,rfl,h1,U,h3⟩) ops.toList l 0 hl (fun j _=>by simp) E st a hs (Fr.refl E) h
    rw[rJ];simpa using this
  | .region id ops true, x, hl, Q, st, h => by
    simp only[e_] at hl;split at hl
    · simp only[cx] at hl;obtain⟨p,hl,rfl⟩:=hl;exact Dj (fun Q st h=>arI hl h) _ Q st h
    split at hl
    · rename_i l fH;simp only[aH] at hl;subst hl;refine Dj (fun Q st h=>?_) _ Q st h;exact LN (adt fH h) fun e aq ⟨h1,U⟩=>by subst h1;exact U
    · split at hl
      · rename_i p fH;obtain⟨l,hi⟩:=p;simp only[aH] at hl;subst hl;refine Dj (fun Q st h=>?_) _ Q st h;exact LN (ajD fH h) fun e aq ⟨h1,U⟩=>by subst h1;exact U
      · simp only[cx] at hl;obtain⟨⟨nv,l⟩,hl,rfl⟩:=hl;refine Dj (fun Q st h=>?_) _ Q st h;obtain⟨t,h1,U⟩:=h;obtain⟨_,k2,_,k4⟩:=Q9 h1;intro E a hs
        have:=adr (st:=⟨t,st.loc,st.out⟩) (id:=id) hl k2 U E a ⟨hs.ok,hs.cg,hs.defers,k4 E _ hs.slot⟩
        exact wp_mono this fun e a' w' ⟨E',aq,m1,m2,m3,m4,m5⟩=>⟨E',aq,m1,m2,m3,by subst m4;exact m5⟩
  | .seq a b, x, hl, Q, st, h => by
    rcases alQ hl with ⟨y,z,hy,hz,rfl⟩ | ⟨i0,jD,out,i1,jE,qC,qY,nxt,cb,rfl,rfl,hz⟩
    · refine api (LN (uI a y hy _ st h) fun e aq he=>?_);cases e with
      | normal=>exact uI b z hz Q aq he
      | _=>exact he
    · exact alT hz (fun y' hy=>uI cb y' hy) Q st h
  | .cond c a b, x, hl, Q, st, h => by
    simp only[e_] at hl;split at hl
    case h_2=>simp at hl
    rename_i ax y z hx hy hz;simp only[aH] at hl;subst hl;simp only[vc] at h;split at h
    case h_2=>exact h.elim
    rename_i b' hb;intro E ac hs;have hR:=lD (E:=E) (st:=st) (a:=ac) hs.slot hx;rw[hb] at hR;simp only[R] at hR;exact wp_cond_split hR (fun ht=>uI a y hy Q st (h.1 ht) E ac hs) (fun ht=>uI b z hz Q st (h.2 ht) E ac hs)
  | .block id a, x, hl, Q, st, h => by
    simp only[e_,cx] at hl;obtain⟨y,hy,rfl⟩:=hl;exact apb (uI a y hy _ st h)
  | .loop a, x, hl, Q, st, h => by
    simp only[e_,cx] at hl;obtain⟨y,hy,rfl⟩:=hl;obtain⟨ι,I,μ,h0,hr⟩:=h;exact ape I μ h0 fun i=>uI a y hy _ (I i) (hr i)
  | .exit id,x,hl,Q,st,h=>by simp only[e_,aH] at hl;subst hl;exact apc h
  | .ret,x,hl,Q,st,h=>by simp only[e_,aH] at hl;subst hl;exact apg h
  | .label l,x,hl,Q,st,h=>by simp only[e_,aH] at hl;subst hl;exact apd h
  | .goto l,x,hl,Q,st,h=>by simp[e_] at hl
  | .scope a, x, hl, Q, st, h => by
    simp only[e_,cx] at hl;obtain⟨y,hy,rfl⟩:=hl;exact aph (uI a y hy _ st h)
  | .refuse w,x,hl,Q,st,h=>by simp[e_] at hl
  | .rangeFunc f p a b,x,hl,Q,st,h=>by simp[e_] at hl
inductive RV where
  | tmp (t:Nat)
  | cell (t:Nat) (agg:Bool) (n:Nat)
def K3 (P:Program):ResultVar→Option RV
  | .tmp t=>some (.tmp t)
  | .cell a t=>match fV P t,dd P t with | some g,some n=>some (.cell a g n) | _,_=>none
def Ai (P:Program):List ResultVar→Option (List RV)
  | []=>some []
  | r::rs=>(K3 P r).bind fun x=>(Ai P rs).map (x::·)
def rv (st:St):RV→Option V
  | .tmp t=>some (st.t.getD t .any)
  | .cell t g n=>jV st g n (st.t.getD t .any)
def rj (st:St):List RV→Option (List V)
  | []=>some []
  | r::rs=>(rv st r).bind fun x=>(rj st rs).map (x::·)
def qn:List V→V
  | [x]=>x
  | xs=>.aX xs
def ae.sub (σ' σ:ae):Prop:=(∀b cs,σ'.box b=some cs→σ.box b=some cs)∧(∀t n,σ'.aC t=some n→σ.aC t=some n)∧∀b cs,σ'.bR b=some cs→σ.bR b=some cs
theorem ae.aW (σ:ae):σ.sub σ:=⟨fun _ _ h=>h,fun _ _ h=>h,fun _ _ h=>h⟩
def nU (R' : V→ae→Prop) (st:St):V→Prop:=fun v=>v.cc=true∧∃σ' : ae,σ'.sub st.out∧R' v.erase σ'
def D3 (rs:List RV) (R' : V→ae→Prop):Exit→St→Prop
  | .normal,st | .ret,st=>opt ((rj st rs).map qn) (nU R' st)
  | _,_=>False
theorem XA {E:Env} {st:St} {a:Act} (hs:bc E st a):∀{rs:List ResultVar} {ys:List RV} {vs:List V},Ai P rs=some ys→rj st ys=some vs →
    ∃us:List Value,(rs.mapM fun | .tmp t=>pure (a.tmps.getD t undef) | .cell ad t=>do loadVar t (←asAddr (a.tmps.getD ad undef)):Sem (List Value)).run P E.w = .ok us E.w∧RL E vs us
  | [], ys, vs, h1, U => by
    simp only[Ai,aH] at h1;subst h1;simp only[rj,aH] at U;subst U;exact⟨[],by simp,by simp[RL]⟩
  | r :: rs, ys, vs, h1, U => by
    simp only[Ai,gl,cx] at h1;obtain⟨y,hy,Za,nr,rfl⟩:=h1;simp only[rj,gl,cx] at U;obtain⟨v,hv,yM,zY,rfl⟩:=U;obtain⟨us,k1,k2⟩:=XA hs nr zY;cases r with
    | tmp t =>
      simp only[K3,aH] at hy;subst hy;simp only[rv,aH] at hv;subst hv;have hR:=zp hs.slot t;refine⟨a.tmps.getD t undef::us,?_,by simp only[RL];exact⟨hR,k2⟩⟩;rw[List.mapM_cons];simp only[Sem.run_bind,Sem.run_pure,Result.andThen_ok,k1]
    | cell ad t =>
      simp only[K3] at hy;split at hy
      case h_2=>simp at hy
      rename_i g n hg hn;simp only[aH] at hy;subst hy;simp only[rv] at hv;have hR:=zp hs.slot ad;have nh : R E (st.t.getD ad .any) (a.tmps.getD ad undef):=hR;obtain⟨b,off,cs,e1,e2,e3⟩:=U' hs hv nh;obtain⟨u,e4,e5⟩:=run_load (P:=P) hg hn e2 e3;refine⟨u::us,?_,by simp only[RL];exact⟨e5,k2⟩⟩;rw[List.mapM_cons];have e6:((do loadVar t (←asAddr (a.tmps.getD ad undef)):Sem Value)).run P E.w = .ok u E.w:=by
        rw[e1];simp only[asAddr,Sem.run_bind,Sem.run_pure,Result.andThen_ok,e4]
      rw[Sem.run_bind];show ((do loadVar t (←asAddr (a.tmps.getD ad undef)):Sem Value).run P E.w).andThen _=_;rw[e6,Result.andThen_ok,Sem.run_bind,k1,Result.andThen_ok,Sem.run_pure]
theorem aea {f:FuncId} {fn:Func} (hf:P.funcs[f]?=some fn) (hn:(fn.name == "runtime.NumGoroutine")=false) (hb:fn.body.isNone=false):Ni P f:=fun args w=>by
  have bz : fn.body.isNone=false:=hb;simp only[callFunc,Sem.run_bind,run_program,Result.andThen_ok,hf];split
  · rename_i h;simp[hn] at h
  · split
    · rename_i h;simp at h;rw[h] at bz;simp at bz
    · rfl
theorem aoy {h:Hint} {f:FuncId} {fn:Func} {c:Code} {x:AC} {rs:List RV} (hf:P.funcs[f]?=some fn) (ajw:(fn.name == "runtime.NumGoroutine")=false) (hb:fn.body=some c) (hl:e_ P h c=some x) (hr:Ai P fn.results.toList=some rs)
    {n:Nat} (hn:fn.ntmps=n) {args:List V} {σ:ae} {R' : V→ae→Prop} (hv:vc P x (D3 rs R') ⟨args++List.replicate (n - args.length) .any,[],σ⟩):al P f args σ R' := by
  refine⟨aea hf ajw (by rw[hb];rfl),fun E vs JY bM Jq=>?_⟩;refine calls_of_wp hf hb ?_;have hlen:=eM Jq;have hs:bc E ⟨args++List.replicate (n - args.length) .any,[],σ⟩ {tmps:=vs++Array.replicate (fn.ntmps - vs.size) undef,defers:=[]}:=by
    refine⟨bM,⟨fun i cs h=>by simp at h,fun i _=>JY i⟩,rfl,?_⟩;simp only[Array.toList_append,Array.toList_replicate];refine rP Jq ?_;rw[hn,show args.length=vs.size from by simpa using hlen]
    have:=NR (E:=E) (List.replicate (n - vs.size) undef)
    simpa using this
  refine wp_mono (uI c x hl _ _ hv E _ hs) ?_;rintro e a' w' ⟨E',aq,rfl,ct,aS,hq⟩;have fin:opt ((rj aq rs).map qn) (nU R' aq)→a'.defers=[]∧∃v,(results fn a'.tmps).run P E'.w = .ok v E'.w ∧
      ∃v' x lk σ',Ending.returned v = .returned x∧lk.w=E'.w∧(∀i,lk.loc i=none)∧lk.ok σ' ∧ R lk v' x∧Fr E lk ∧ R' v' σ' := fun hq=>by
    refine⟨ct.defers,?_⟩;unfold opt at hq;split at hq
    case h_2=>exact hq.elim
    rename_i v hv;simp only[cx] at hv;obtain⟨yM,zY,rfl⟩:=hv;obtain⟨us,k1,k2⟩:=XA (P:=P) ct hr zY;obtain⟨nk,σ',lz,nh⟩:=hq;have ey:∃u,(results fn a'.tmps).run P E'.w = .ok u E'.w∧R E' (qn yM) u:=by
      have gJ:(results fn a'.tmps).run P E'.w = .ok (if h:us.toArray.size=1 then us.toArray[0] else .tuple us.toArray) E'.w:=by
        unfold results;rw[←Array.toArray_toList (xs:=fn.results),List.mapM_toArray];simp only[Sem.run_bind,Sem.run_map]
        erw [k1]
        simp only[Result.andThen_ok,Sem.run_pure]
      refine⟨_,gJ,?_⟩;have jQ:=eM k2
      match yM,us,k2 with
      | [y], [u], k2 =>
        simp only[RL] at k2;simp[qn,k2.1]
      | [],[],k2=>simp[qn,R];exact k2
      | y :: z :: ys, u :: u' :: kJ, k2 =>
        simp only[qn];rw[dif_neg (by simp)];simp only[R];exact⟨_,rfl,by simpa using k2⟩
    obtain⟨u,hu,hRu⟩:=ey
    let lk : Env:={E' with loc:=fun _=>none,role:=fun b=>match E'.role b with | .gK _=>.kU | r=>r}
    have cL:∀b,lk.role b=match E'.role b with | .gK _=>.kU | r=>r:=fun _=>rfl
    have ai6:∀b o,(lk.role b).fP o↔(E'.role b).fP o:=fun b o=>by rw[cL];cases E'.role b<;>simp[dO.fP]
    have JX:∀b t c,E'.role b = .fA t c→lk.role b = .fA t c:=fun b t c h=>by rw[cL,h]
    have hle:E'.nl.le lk.nl:=⟨fun b o _ hc hv=>⟨(ai6 b o).2 hc,hv⟩,fun _ _ h=>by simp at h,fun t n hn=>⟨n,hn,bt _,fun _ b c hb=>⟨JX b t c hb,fun cs _ hc=>⟨cs,hc,rfl⟩⟩⟩⟩;have vr : Fr E' lk := by
      refine⟨rfl,rfl,rfl,bt _,fun _=>rfl,hle.cell,hle.tok,fun b _ hr=>⟨rfl,?_⟩,fun b _ h=>?_,fun b t c _ h=>?_,fun b i _ h=>?_,fun _ c _ h=>⟨c,h,rfl⟩⟩
      · rw[cL];rcases hr with hr | hr<;>rw[hr]
      · rw[cL] at h;cases hq:E'.role b<;>rw[hq] at h<;>simp at h;exact .inl rfl
      · rw[cL] at h;cases hq:E'.role b<;>rw[hq] at h<;>simp at h;exact⟨_,by rw[h.1]⟩
      · rw[cL] at h;cases hq:E'.role b<;>rw[hq] at h<;>simp at h
    refine⟨u,hu,(qn yM).erase,u,lk,σ',rfl,rfl,fun _=>rfl,⟨fun b cs hcs=>?_,fun t m ht=>ct.ok.aC t m (lz.2.1 t m ht),fun b hb=>?_,ct.ok.nt,fun b cs hc=>c7.mono _ hle (ct.ok.bR b cs (lz.2.2 b cs hc))⟩,R.erase _ (hRu.nz _ hle nk),aS.trans vr,nh⟩
    · obtain⟨h1,U⟩:=ct.ok.box b cs (lz.1 b cs hcs);exact⟨by rw[cL,h1],U.mono hle rfl⟩
    · rw[cL,ct.ok.fresh b hb]
  cases e with
  | normal=>exact fin hq
  | ret=>exact fin hq
  | _=>exact hq.elim
end
structure aK (P:Program) (f:FuncId) (x:AC) (rs:List RV) (n:Nat):Prop where
  is:∃fn h,P.funcs[f]?=some fn∧(fn.name == "runtime.NumGoroutine")=false∧fn.body.bind (e_ P h)=some x∧Ai P fn.results.toList=some rs∧fn.ntmps=n
def aJ (n:Nat) (args:List V):List V:=args++List.replicate (n - args.length) .any
theorem aK.calls {P:Program} {f:FuncId} {x:AC} {rs:List RV} {n:Nat} (h:aK P f x rs n) {args:List V} {σ:ae} {R' : V→ae→Prop} (hv:vc P x (D3 rs R') ⟨aJ n args,[],σ⟩):al P f args σ R' := by
  obtain⟨fn,hi,h1,U,h3,h4,h5⟩:=h.is;simp only[gl] at h3;obtain⟨c,hb,hl⟩:=h3;exact aoy h1 U hb hl h4 h5 hv
end Go.Am
