/-
  Part 2 of the proof of JudgeShiftsUptoCardSaid: a logic over the model, the forms of the functions that the law reaches, and what they compute.
-/
import Derived.Lib.Bytealg
import Derived.Scope
import Derived.Test.YtkeidlpchmepkaaGreatDoorShifts1
set_option linter.unusedVariables false
set_option linter.unusedSimpArgs false
set_option linter.defProp false
set_option linter.unusedSectionVars false
namespace Go.Am
theorem Cv {P:Program} {SN:List ch} {p:Nat→DI→Bool} {S:Nat→Bool}:∀{l:List (AO × List Nat)} {b:List Nat} {tr:List TR} {t:List V} {s:ch} {i:Nat},sY P SN l tr t s→b.length=l.length →
    (∀(j:Nat) x,l[j]?=some x→x.1.op.aR=true→S (i+j)=p (i+j) (dy x (b.getD j 0)))→bI S i tr=(((List.zipWith dy l b).zipIdx i).filter fun (x,j)=>x.aR&&p j x).length
  | [],b,[],_,_,_,_,_,_=>by simp[bI]
  | [],_,_::_,_,_,_,h,_,_=>h.elim
  | (_,_)::_,_,[],_,_,_,h,_,_=>h.elim
  | (o,ms)::l,[],_::_,_,_,_,_,hb,_=>by simp at hb
  | (o, ms) :: l, m :: b, r :: tr, t, s, i, h, hb, hp => by
    have ih:=Cv (p:=p) (S:=S) (i:=i+1) h.2 (by simpa using hb) fun j x hx he=>by
      have:=hp (j+1) x (by simpa using hx) he
      rw[show i+(j+1)=i+1+j from by omega] at this;simpa using this
    have he:r.aR=o.op.aR:=h.1.2.1;have h0:o.op.aR=true→S i=p i (dy (o,ms) m):=fun he=>by simpa using hp 0 (o,ms) (by simp) he
    simp only[bI,List.zipWith_cons_cons,List.zipIdx_cons,KR];rw[ih];have hd:(dy (o,ms) m).aR=o.op.aR:=rfl;cases hq:o.op.aR
    · simp[he,hq,hd]
    · rw[h0 hq];simp only[he,hd,hq,rq,lJ];cases p i (dy (o,ms) m)
      · simp
      · simp;omega
section
variable {P:Program} {ops:Array Oper} {l:List (AO × List Nat)} {b:List Nat} {SN:List ch} {tr:List TR} {t0:List V} {s0:ch}
structure uJ (ops:Array Oper) (tr:List TR) (t0:List V) (s0:ch) (E0:Env) (X:Array Bool→Env→Act→Prop) (listed:Array Bool) (a:Act) (w:World):Prop where
  size:listed.size=ops.size
  closed:∀(i:Nat) o,ops[i]?=some o→listed.getD i false=true→∀e∈o.after,Region.binds .any e=true→listed.getD e.on false=true
  rel:∃E,E.w=w∧a7 E (br (runT (bG (fun j=>listed.getD j false) 0 tr) t0) (cy (bG (fun j=>listed.getD j false) 0 tr) s0)) a∧Fr E0 E∧X listed E a
theorem FU (F:sM ops l b) {S:Nat→Bool} (hc:∀(i:Nat) o,ops[i]?=some o→S i=true→∀e∈o.after,Region.binds .any e=true→S e.on=true) :
    ∀(n i:Nat),i<n→i<ops.size→S i=true→∀j,(b.getD i 0).testBit j=true→S j=true:=by
  intro n;induction n with
  | zero=>intro i h;omega
  | succ n ih =>
    intro i hi ag hS j hj;obtain⟨e,h1,h2,h3⟩:=F.mask i ops[i] (fF ag) j hj;have he:=hc i _ (fF ag) hS e h1 h2;have hb:=F.back i _ (fF ag) e h1 h2
    rcases h3 with rfl | h3
    · exact he
    · exact ih e.on (by omega) (by omega) he j h3
theorem ot (listed:Array Bool) (i:Nat) (h:i<listed.size):listed.getD i true=listed.getD i false:=by simp[h]
def Spec (P:Program) (l:List (AO × List Nat)) (b:List Nat) (t0:List V) (E0:Env) (X:Array Bool→Env→Act→Prop) (i:Nat) (o:Oper) (ao:AO):Prop :=
  o.guard=none∧ao.guard=none∧∀(E:Env) (a:Act) (t:List V) (s:ch) (v:V) (s' : ch) (listed:Array Bool) (Q:Exit→Act→World→Prop),i<listed.size→listed.getD i false=false→(∀j,(b.getD i 0).testBit j=true→listed.getD j false=true) →
    (∀j,j<b.length→(b.getD j 0).testBit i=true→listed.getD j false=false)→(∀d,(∀(j:Nat) x,l[j]?=some x→x.1.dst=some d→listed.getD j false=false)→t.getD d .any=t0.getD d .any) →
    a7 E (br t s) a→Fr E0 E→X listed E a→ao.op.aL P (br t s) (Exact t v s') →
    o.wp P a E.w (fun a' w' => ∃E',E'.w=w' ∧ a7 E' (br (ij t ao.dst v) s') a' ∧ Fr E0 E' ∧ X (listed.setIfInBounds i true) E' a') Q
theorem F8 (F:sM ops l b) (jY:b.length=ops.size) (nJ:SN=s0::gQ tr) (ht:sY P SN l tr t0 s0)
    {E0:Env} {X:Array Bool→Env→Act→Prop} {Q:Exit→Act→World→Prop} {listed:Array Bool} {a:Act} {w:World} (h:uJ ops tr t0 s0 E0 X listed a w) {i:Nat} (hi:i∈Region.ready .any ops listed)
    (lU:∀o,ops[i]?=some o→∃x:AO × List Nat,l[i]?=some x∧((nW P ops o=some x.1∧∀listed E E' a u,X listed E a→Fr E E' → X (listed.setIfInBounds i true) E' (a.put o.dst u))∨Spec P l b t0 E0 X i o x.1)) {K:Act→World→Prop}
    (hK:∀a w,uJ ops tr t0 s0 E0 X (listed.setIfInBounds i true) a w→K a w):wpOp P ops Q i K a w:=by
  obtain⟨tR,o,ho,bT⟩:=mem_ready.1 hi;have ag:i<ops.size:=(fG.1 ho).1;have jD : i<listed.size:=by rw[h.size];exact ag
  obtain⟨E,rfl,hs,aQ,hX⟩:=h.rel
  let S:Nat→Bool:=fun j=>listed.getD j false
  have Aa:S i=false:=by show listed.getD i false=false;rw[←ot _ _ jD];exact tR
  obtain⟨x,hx,Hw⟩:=lU o ho;obtain⟨ao,ms⟩:=x;have hlen:=zk ht;have agk:i<tr.length:=by rw[←hlen,F.size];exact ag
  obtain⟨r,hr⟩:∃r,tr[i]?=some r:=⟨tr[i],cc agk⟩;have dO:=Cc (i:=0) (k:=i) ht hx hr;rw[gh] at dO;obtain⟨hd,he,run,ya,cg,agd⟩:=dO
  -- who is done,who is not
  have xZ:∀j,(b.getD i 0).testBit j=true→S j=true:=fun j hj=>by
    obtain⟨e,h1,h2,h3⟩:=F.mask i o ho j hj;have hb:=bT e h1 h2
    rcases h3 with rfl | h3
    · exact hb
    · exact FU F (S:=S) h.closed ops.size e.on (by have:=F.back i o ho e h1 h2;omega) (by have:=F.back i o ho e h1 h2;omega) hb j h3
  have Ac:∀j,j<ops.size→(b.getD j 0).testBit i=true→S j=false:=fun j hj hb=>by
    cases hq:S j with
    | false=>rfl
    | true =>
      have:=FU F (S:=S) h.closed ops.size j hj hj hq i hb
      rw[this] at Aa;simp at Aa
  have rU:∀(j:Nat) r',tr[j]?=some r' → ∃y,l[j]?=some y∧r'.dst=y.1.dst∧r'.aR=y.1.op.aR∧j<ops.size:=fun j r' bF => by
    have hj:=(dj.1 bF).1;have vz:j<l.length:=by omega
    have:=Cc (i:=0) (k:=j) ht (cc vz) bF
    exact⟨l[j],cc vz,this.1,this.2.1,by rw[←F.size];exact vz⟩
  -- what it reads is what it read in the text's order
  have yj:∀n,n∈uq ao→(runT (bG S 0 tr) t0).getD n .any=(runT (bG (cP i) 0 tr) t0).getD n .any:=fun n hn=>by
    refine uy rfl rfl fun j r' bF hd' => ?_
    rw[gh];obtain⟨y,hy,vJ,_,fz⟩:=rU j r' bF;obtain⟨aH,gA⟩:=F.slot i j (ao,ms) y hx hy n (by rw[←vJ];exact hd') hn
    rcases mz j i with dL | dL
    · have hu:cP i j=true:=by simp[cP,dL]
      rw[hu]
      rcases gA with h1 | h1
      · exact xZ j h1
      · exfalso
        obtain⟨e,k1,k2,k3⟩:=F.mask j _ (fF fz) i h1
        have:=F.back j _ (fF fz) e k1 k2
        have key:∀n q,q<n→q<ops.size→∀z,(b.getD q 0).testBit z=true→z<q:=by
          intro n;induction n with
          | zero=>intro q h;omega
          | succ n ih =>
            intro q hq Az z hz;obtain⟨e',m1,m2,m3⟩:=F.mask q _ (fF Az) z hz;have bl := F.back q _ (fF Az) e' m1 m2
            rcases m3 with rfl | m3
            · exact bl
            · have:=ih e'.on (by omega) (by omega) z m3;omega
        have:=key (j+1) j (by omega) fz i h1
        omega
    · have hu:cP i j=false:=by simp[cP];omega
      rw[hu]
      rcases gA with h1 | h1
      · exfalso
        have key:∀n q,q<n→q<ops.size→∀z,(b.getD q 0).testBit z=true→z<q:=by
          intro n;induction n with
          | zero=>intro q h;omega
          | succ n ih =>
            intro q hq Az z hz;obtain⟨e',m1,m2,m3⟩:=F.mask q _ (fF Az) z hz;have bl := F.back q _ (fF Az) e' m1 m2
            rcases m3 with rfl | m3
            · exact bl
            · have:=ih e'.on (by omega) (by omega) z m3;omega
        have:=key (i+1) i (by omega) ag j h1
        omega
      · exact Ac j fz h1
  -- memory
  have qN:∀T:Nat→Bool,(∀(j k:Nat),j<ops.size→k<ops.size→(∀y z,l[j]?=some y→l[k]?=some z→y.1.op.aR=true→z.1.op.aR=true→j<k→T k=true→T j=true)) →
      cy (bG T 0 tr) s0=SN.getD (bI T 0 tr) yN:=fun T hT=>by
    rw[nJ];refine Uj fun j k r1 r2 h1 h2 e1 e2 rW hk=>?_
    obtain⟨y,hy,_,ye,fz⟩:=rU j r1 h1;obtain⟨z,hz,_,ze,eU⟩:=rU k r2 h2;rw[gh] at hk ⊢;exact hT j k fz eU y z hy hz (by rw[←ye];exact e1) (by rw[←ze];exact e2) rW hk
  have CZ:∀(j k:Nat),j<ops.size→k<ops.size→(∀y z,l[j]?=some y→l[k]?=some z→y.1.op.aR=true→z.1.op.aR=true→j<k→S k=true→S j=true):=fun j k _ hk y z hy hz e1 e2 rW xY =>
    FU F (S:=S) h.closed ops.size k hk hk xY j (F.aR j k y z hy hz rW e1 e2)
  have HS:∀q (j k:Nat),j<ops.size→k<ops.size→(∀y z,l[j]?=some y→l[k]?=some z→y.1.op.aR=true→z.1.op.aR=true→j<k→cP q k=true→cP q j=true):=fun q j k _ _ _ _ _ _ _ _ rW hk=>by
    simp[cP] at hk ⊢;omega
  have Rw:ao.op.aR=true→cy (bG S 0 tr) s0=cy (bG (cP i) 0 tr) s0:=fun ow=>by
    rw[qN S CZ,qN (cP i) (HS i)];congr 1;refine Cw fun j r' bF tO=>?_
    rw[gh];obtain⟨y,hy,_,ye,fz⟩:=rU j r' bF
    rcases zh j i with dL | dL | dL
    · have:cP i j=true:=by simp[cP,dL]
      rw[this];exact xZ j (F.aR j i y (ao,ms) hy hx dL (by rw[←ye];exact tO) ow)
    · subst dL
      have:cP j j=false:=by simp[cP]
      rw[this];exact Aa
    · have:cP i j=false:=by simp[cP];omega
      rw[this];exact Ac j fz (F.aR i j (ao,ms) y hx hy dL ow (by rw[←ye];exact tO))
  -- the next state
  have G1:(fun j=>(listed.setIfInBounds i true).getD j false)=add S i:=by
    funext j;simp only[add,S]
    by_cases dL:j=i
    · subst dL;simp[jD]
    · rw[mw,wI (Ne.symm dL),←mw];simp[dL]
  have hT:runT (bG (add S i) 0 tr) t0=ij (runT (bG S 0 tr) t0) r.dst r.val :=
    Ul (by omega) (by simpa using hr) Aa fun j r' bF aH n hn Q_ => by
      obtain⟨y,hy,vJ,_,_⟩:=rU j r' bF;exact F.dst j i y (ao,ms) hy hx (by omega) n (by rw[←hd];exact hn) (by rw[←vJ];exact Q_)
  have afq:∀(j k:Nat),j<ops.size→k<ops.size→(∀y z,l[j]?=some y→l[k]?=some z→y.1.op.aR=true→z.1.op.aR=true→j<k→add S i k=true→add S i j=true):=fun j k hj hk y z hy hz e1 e2 rW xY=>by
    simp only[add,jS,cq] at xY ⊢
    rcases xY with xY | rfl
    · exact .inl (CZ j k hj hk y z hy hz e1 e2 rW xY)
    · exact .inl (xZ j (F.aR j k y z hy hz rW e1 e2))
  have GY:cy (bG (add S i) 0 tr) s0=if ao.op.aR then r.uD else cy (bG S 0 tr) s0:=by
    rw[qN (add S i) afq];cases ow:ao.op.aR
    · simp only[fO,ey];rw[qN S CZ];congr 1;refine Cw fun j r' bF tO=>?_
      rw[gh];obtain⟨y,hy,_,ye,_⟩:=rU j r' bF;have dL:j≠i:=by
        rintro rfl;rw[hx] at hy;simp at hy;subst hy;rw[ye,ow] at tO;simp at tO
      simp[add,dL]
    · simp only[dP];have h1:bI (add S i) 0 tr=bI (cP (i+1)) 0 tr:=Cw fun j r' bF tO=>by
        rw[gh];obtain⟨y,hy,_,ye,fz⟩:=rU j r' bF
        rcases zh j i with dL | dL | dL
        · have:cP (i+1) j=true:=by simp[cP];omega
          rw[this]
          have:=xZ j (F.aR j i y (ao,ms) hy hx dL (by rw[←ye];exact tO) ow)
          simp[add,this]
        · subst dL;simp[add,cP]
        · have:cP (i+1) j=false:=by simp[cP];omega
          rw[this]
          have:=Ac j fz (F.aR i j (ao,ms) y hx hy dL ow (by rw[←ye];exact tO))
          simp[add,this];omega
      rw[h1,←qN (cP (i+1)) (HS (i+1))];have aqi : cP (i+1)=add (cP i) i:=by
        funext j;simp only[cP,add];rw[BM];simp;omega
      -- the run up to and with i
      have key:∀(tr:List TR) (q:Nat) (s:ch),q≤i→tr[i - q]?=some r→cy (bG (cP (i+1)) q tr) s=r.uD:=by
        intro tr;induction tr with
        | nil=>intro q s _ h;simp at h
        | cons r' tr ih =>
          intro q s hq h;have hu:cP (i+1) q=true:=by simp[cP];omega
          simp only[bG,hu,dP,cy]
          by_cases Rk:q=i
          · subst Rk;simp at h;subst h;rw[JM (by omega)];simp[cy,he,ow]
          · exact ih (q+1) _ (by omega) (by rw[show i - q=(i - (q+1))+1 from by omega] at h;simpa using h)
      exact key tr 0 s0 (by omega) (by simpa using hr)
  -- the closure
  have afB : ∀(j:Nat) o',ops[j]?=some o' → (listed.setIfInBounds i true).getD j false=true→∀e∈o'.after,Region.binds .any e=true→(listed.setIfInBounds i true).getD e.on false=true:=fun j o' dz hj e h1 h2=>by
    have ej:(listed.setIfInBounds i true).getD j false=add S i j:=congrFun G1 j;have ee:(listed.setIfInBounds i true).getD e.on false=add S i e.on:=congrFun G1 e.on;rw[ee];rw[ej] at hj;simp only[add,jS,cq] at hj ⊢
    rcases hj with hj | rfl
    · exact .inl (h.closed j o' dz hj e h1 h2)
    · rw[ho] at dz;simp only[aG] at dz;subst dz;exact .inl (bT e h1 h2)
  have SP:∀E' a' t' s',E'.w=E'.w→t' = runT (bG (add S i) 0 tr) t0→s' = cy (bG (add S i) 0 tr) s0→a7 E' (br t' s') a' → Fr E0 E' → X (listed.setIfInBounds i true) E' a' → K a' E'.w:=fun E' a' t' s' _ e1 e2 b_ hH gS => by
    refine hK a' E'.w ⟨by simp[h.size],afB,E',rfl,?_,hH,gS⟩;rw[G1,←e1,←e2];exact b_
  -- the machine's step
  unfold wpOp;rw[ho];simp only;have af1:∀g n y,ao.op = .load g n y→run=true→nU (cy (bG S 0 tr) s0) g n (ev (br (runT (bG (cP i) 0 tr) t0) (cy (bG (cP i) 0 tr) s0)) y)=some r.val:=fun g n y hy gC=>by
      obtain⟨iG,rX⟩:=cg gC;rw[qN S CZ];have afV:ao.op.yv=true:=by rw[hy];rfl
      have hm:=F.load i (ao,ms) hx afV (bI S 0 tr);have af0 : lD (List.zipWith dy l b) (dy (ao,ms) (b.getD i 0))≤bI S 0 tr:=by
        have e:lD (List.zipWith dy l b) (dy (ao,ms) (b.getD i 0))=bI (fun j=>(b.getD i 0).testBit j) 0 tr:=by
          unfold lD xy;exact(Cv (p:=fun j _=>(b.getD i 0).testBit j) (S:=fun j=>(b.getD i 0).testBit j) ht (by rw[jY,F.size]) (fun j y _ _=>rfl)).symm
        rw[e];exact FX fun j r' _ _ hb=>by rw[gh] at hb ⊢;exact xZ j hb
      have afR : bI S 0 tr≤tJ (List.zipWith dy l b) i:=by
        have e:tJ (List.zipWith dy l b) i=bI (fun j=>!((b.getD j 0).testBit i)) 0 tr:=by
          unfold tJ xy;exact(Cv (p:=fun _ y=>!(y.mask.testBit i)) (S:=fun j=>!((b.getD j 0).testBit i)) ht (by rw[jY,F.size]) (fun j y _ _=>by simp[dy])).symm
        rw[e];refine FX fun j r' bF _ GX=>?_
        rw[gh] at GX ⊢;obtain⟨y,_,_,_,fz⟩:=rU j r' bF;cases hb:(b.getD j 0).testBit i with
        | false=>rfl
        | true=>rw[Ac j fz hb] at GX;simp at GX
      rcases hm af0 afR with hm | hm
      · exact rX g n y hy _ hm
      · have e:wa (List.zipWith dy l b) i=bI (cP i) 0 tr:=by
          unfold wa xy;exact(Cv (p:=fun j _=>decide (j<i)) (S:=cP i) ht (by rw[jY,F.size]) (fun j y _ _=>rfl)).symm
        rw[hm,e,←qN (cP i) (HS i)];rw[hy] at iG;simp only[aq.aL] at iG;rw[R8] at iG;cases hq:nU (cy (bG (cP i) 0 tr) s0) g n (ev (br (runT (bG (cP i) 0 tr) t0) (cy (bG (cP i) 0 tr) s0)) y) with
        | none=>rw[hq] at iG;exact iG.elim
        | some u=>rw[hq] at iG;rw[iG.1]
  have kp:∀y∈ao.op.xs,ev (br (runT (bG S 0 tr) t0) (cy (bG S 0 tr) s0)) y=ev (br (runT (bG (cP i) 0 tr) t0) (cy (bG (cP i) 0 tr) s0)) y:=fun y hy =>
      aa6 fun n hn=>yj n (by simp only[uq,gY,List.mem_flatMap];exact .inl ⟨y,hy,hn⟩)
  have Rs : run=true→ao.op.aL P (br (runT (bG S 0 tr) t0) (cy (bG S 0 tr) s0)) (Exact (runT (bG S 0 tr) t0) r.val (if ao.op.aR then (if ao.op.aR then r.uD else cy (bG (cP i) 0 tr) s0) else cy (bG S 0 tr) s0)):=fun gC =>
    anf (P:=P) (op:=ao.op) (t:=runT (bG (cP i) 0 tr) t0) (t2:=runT (bG S 0 tr) t0) (s:=cy (bG (cP i) 0 tr) s0) (s2:=cy (bG S 0 tr) s0) kp Rw (fun g n y hy=>af1 g n y hy gC) (cg gC).1
  rcases Hw with ⟨Hw,hXg⟩ | age
  case' inr =>
    obtain⟨C_,vu,oK⟩:=age;rw[aw (by simp[Region.wanted,C_])];left;have gC:run=true:=by rw[vu] at ya;exact ya
    have jG:∀d,(∀(j:Nat) x,l[j]?=some x→x.1.dst=some d→listed.getD j false=false)→(runT (bG S 0 tr) t0).getD d .any=t0.getD d .any:=fun d hd=>by
      have h1:=uy (S:=S) (S' := fun _=>false) (x:=d) (tr:=tr) (i:=0) (t:=t0) (t' := t0) rfl rfl fun j r' bF hrd=>by
        obtain⟨y,hy,vJ,_,_⟩:=rU j r' bF;rw[gh];exact hd j y hy (by rw[←vJ];exact hrd)
      rw[h1]
      have:∀(tr:List TR) (q:Nat),bG (fun _=>false) q tr=[]:=by
        intro tr;induction tr with
        | nil=>intro q;rfl
        | cons r tr ih=>intro q;simp only[bG,fO,ey];exact ih _
      rw[this];rfl
    refine Oper.wp_mono ?_ (oK E a _ _ _ _ listed Q jD Aa xZ (fun j hj=>Ac j (by omega)) jG hs aQ hX (Rs gC));rintro a' w' ⟨E',rfl,b_,hH,gS⟩;refine SP E' a' _ _ rfl ?_ ?_ b_ hH gS
    · rw[hT,hd]
    · rw[GY];cases ow:ao.op.aR<;>simp
  have next:∀E' u t' s',t' = runT (bG (add S i) 0 tr) t0→s' = cy (bG (add S i) 0 tr) s0→a7 E' (br t' s') (a.put o.dst u)→Fr E E' → K (a.put o.dst u) E'.w:=fun E' u t' s' e1 e2 b_ hH => SP E' _ t' s' rfl e1 e2 b_ (aQ.trans hH) (hXg _ _ _ _ _ hX hH)
  have cG:=Hw;unfold nW at cG;split at cG
  · simp at cG
  rename_i op lW;have agm:Region.wanted o (yielded ops a.tmps)=run∧op=ao.op∧o.dst=ao.dst:=by
    cases hg:o.guard with
    | none =>
      rw[hg] at cG;simp only[aG] at cG;subst cG;simp only at ya;exact⟨by simp[Region.wanted,hg,ya],rfl,rfl⟩
    | some p =>
      obtain⟨j,want⟩:=p;rw[hg] at cG;simp only at cG;split at cG
      case h_2=>simp at cG
      rename_i g jB;simp only[aG] at cG;subst cG;simp only at ya;refine⟨?_,rfl,rfl⟩;have tI:=yj g (by simp[uq])
      rcases ya with ⟨bb,fK,cR⟩ | ⟨fK,cR⟩
      case' inr =>
        rw[fK] at tI;have hR:=B' hs.slot g undef;have lT : R E (.aT []) (a.tmps.toList.getD g undef):=by
          have:(br (runT (bG S 0 tr) t0) (cy (bG S 0 tr) s0)).t.getD g .any = .aT []:=tI
          rw[←this];exact hR
        have hu:=Lf lT;rw[cR];simp only[Region.wanted,hg,yielded,jB,rz];cases hq:a.tmps[g]? with
        | none=>rfl
        | some u =>
          have:u=undef:=by rw[List.getD] at hu;simp[hq] at hu;exact hu
          rw[this];rfl
      rw[fK] at tI;have hR:=B' hs.slot g undef;have lT : R E (.bool bb) (a.tmps.toList.getD g undef):=by
        have:(br (runT (bG S 0 tr) t0) (cy (bG S 0 tr) s0)).t.getD g .any = .bool bb:=tI
        rw[←this];exact hR
      simp only[R] at lT;have kh:a.tmps[g]?=some (.bool bb):=by
        rw[List.getD] at lT;cases hq:a.tmps.toList[g]? with
        | none=>rw[hq] at lT;simp[undef] at lT
        | some u=>rw[hq] at lT;simp at lT;subst lT;simpa using hq
      simp only[Region.wanted,hg,yielded,jB,rz,kh];rw[cR];cases bb<;>cases want<;>rfl
  obtain⟨r8,rfl,jx⟩:=agm;rw[r8];cases gC:run with
  | true =>
    rw[aw rfl];left;refine Oper.wp_mono ?_ (A1 (Q:=Q) lW hs (Rs gC));rintro a' w' ⟨E',v,u,al,rfl,hH,b_,hv,rfl,Dp,rfl⟩;subst Dp
    have:=a7.put b_ hv o.dst
    rw[Bb] at this;refine next E' u _ _ ?_ ?_ this hH
    · rw[hT,hd,jx]
    · rw[GY];cases ow:ao.op.aR<;>simp
  | false =>
    rw[ah (by simp)];obtain⟨hv,hsk⟩:=agd gC
    have:=a7.put hs (v:=.aT []) (x:=undef) Fx o.dst
    rw[Bb] at this;refine next E undef _ _ ?_ ?_ this (Fr.refl E)
    · rw[hT,hd,jx,hv]
    · rw[GY];cases ow:ao.op.aR
      · rw[ah (by simp)]
      · simp only[dP];rw[hsk (by rw[he,ow])];exact Rw ow
theorem count_set:∀(l:List Bool) (i:Nat),l[i]?=some false→(l.set i true).count false+1=l.count false
  | [],i,h=>by simp at h
  | x::l,0,h=>by simp at h;subst h;simp
  | x :: l, i + 1, h => by
    simp at h
    have:=count_set l i h
    cases x<;>simp<;>omega
theorem Pv {ops:Array Oper} {l:List (AO × List Nat)} {b:List Nat} (F:sM ops l b) (jY:b.length=ops.size) (hf:P.follows .mixedOrders=true) {id:Nat} {K:St→Prop} {st:St} (h:bE P l [(st.loc,st.out)] [] K st) {E:Env} {a:Act} (hs:a7 E st a) {X:Array Bool→Env→Act→Prop}
    (GZ:∀E',X (Array.replicate ops.size false) E' a)
    (lU:∀(i:Nat) o,ops[i]?=some o→∃x:AO × List Nat,l[i]?=some x∧((nW P ops o=some x.1∧∀listed E E' a u,X listed E a→Fr E E' → X (listed.setIfInBounds i true) E' (a.put o.dst u))∨Spec P l b st.t E X i o x.1)) :
    (Code.region id ops true).wp P (fun e a' w' => ∃E' al,E'.w=w' ∧ a7 E' al a' ∧ Fr E E' ∧ e = .normal∧K al) a E.w:=by
  refine wp_region_any hf ?_;obtain⟨aQ,_,km⟩:=yM hs ((Ext.refl E.w).drew);obtain⟨tr,ht,_,hK⟩:=Bv (t:=st.t) (s:=(st.loc,st.out)) h;have nJ:[(st.loc,st.out)]++gQ tr=(st.loc,st.out)::gQ tr:=rfl;rw[nJ] at ht;have hlen:=zk ht;have key:∀(fuel:Nat) (listed:Array Bool) (a:Act) (w:World),uJ ops tr st.t (st.loc,st.out) E X listed a w→listed.toList.count false≤fuel →
      wpAny P .any ops (fun e a' w' => ∃E' al,E'.w=w' ∧ a7 E' al a' ∧ Fr E E' ∧ e = .normal∧K al) fuel listed a w:=by
    have done:∀(listed:Array Bool) (a:Act) (w:World),uJ ops tr st.t (st.loc,st.out) E X listed a w→Region.ready .any ops listed=[] →
        ∃E' al,E'.w=w∧a7 E' al a∧Fr E E' ∧ Exit.normal = .normal∧K al := fun listed a w h hr=>by
      have bT:∀n j,j<n→j<ops.size→listed.getD j false=true:=by
        intro n;induction n with
        | zero=>intro j h;omega
        | succ n ih =>
          intro j hj fz;cases hq:listed.getD j false with
          | true=>rfl
          | false =>
            have:j∈Region.ready .any ops listed:=mem_ready.2 ⟨by rw[ot _ _ (by rw[h.size];exact fz)];exact hq,ops[j],fF fz,fun e he hb=>by
              have:=F.back j _ (fF fz) e he hb
              exact ih e.on (by omega) (by omega)⟩
            rw[hr] at this;simp at this
      obtain⟨E',h1,h2,h3,_⟩:=h.rel;rw[JK (fun j hj=>by rw[gh];exact bT (j+1) j (by omega) (by rw[←F.size,hlen];exact hj))] at h2;exact⟨E',_,h1,h2,h3,rfl,hK⟩
    intro fuel;induction fuel with
    | zero =>
      intro listed a w h hc;have hr:Region.ready .any ops listed=[]:=by
        cases hq:Region.ready .any ops listed with
        | nil=>rfl
        | cons j js =>
          obtain⟨h1,o,ho,_⟩:=mem_ready.1 (show j∈Region.ready .any ops listed by rw[hq];simp);have ag:j<listed.size:=by rw[h.size];exact(fG.1 ho).1
          have:false∈listed.toList:=by
            have e:listed[j]?=some false:=by
              rw[fF ag];simpa [ag] using h1
            exact wP (by simpa using e)
          have:=KM.2 this
          omega
      exact⟨hr,done listed a w h hr⟩
    | succ fuel ih =>
      intro listed a w h hc;refine⟨fun hr=>done listed a w h hr,fun i hi=>?_⟩;refine F8 F jY rfl ht h hi (lU i) fun a w h' => ih _ a w h' ?_
      obtain⟨h1,o,ho,_⟩:=mem_ready.1 hi;have ag:i<listed.size:=by rw[h.size];exact(fG.1 ho).1
      have e:listed.toList[i]?=some false:=by
        have:listed[i]?=some false:=by
          rw[fF ag];simpa [ag] using h1
        simpa using this
      have:=count_set listed.toList i e
      simp only[EV];omega
  have pD:∀j,(Array.replicate ops.size false).getD j false=false:=fun j=>by
    by_cases hj:j<ops.size<;>simp[hj]
  have kQ:∀(tr:List TR) (q:Nat),bG (fun j=>(Array.replicate ops.size false).getD j false) q tr=[]:=by
    intro tr;induction tr with
    | nil=>intro q;rfl
    | cons r tr ih=>intro q;rw[bG,ah (by rw[pD];simp)];exact ih _
  refine key ops.size _ a _ ⟨by simp,fun i o _ hi=>by rw[pD] at hi;simp at hi,{E with w:=E.w.drew},rfl,?_,aQ,GZ _⟩ (by simp);rw[kQ];exact km
theorem Z1 {ops:Array Oper} {l:List (AO × List Nat)} {id:Nat} (hl:AZ P ops=some l) {K:St→Prop} {st:St} (h:bE P l [(st.loc,st.out)] [] K st) :
    fL P (.region id ops true) (fun e al => e = .normal∧K al) st:=by
  obtain⟨b,F,jY,hf,lU⟩:=Sv hl;intro E a hs;exact Pv (X:=fun _ _ _=>True) F jY hf h hs (fun _=>trivial) fun i o ho=>by
    obtain⟨x,h1,h2⟩:=lU i o ho;exact⟨x,h1,.inl ⟨h2,fun _ _ _ _ _ _ _=>trivial⟩⟩
end
section
variable {P:Program} {E:Env} {st:St} {a:Act} {o:Oper} {K:V→St→Prop} {Q:Exit→Act→World→Prop}
theorem VK (hs:a7 E st a) {zs:List V} {c:Array Value} {e:TypeId} (hr:(execOp a.eval o).run P E.w = .ok (.value (.pointer (some ⟨E.w.heap.size,0,none⟩))) (E.w.alloc (.cells c e)))
    (hz:RL E zs c.toList) (mM:bd zs=true) (hk:∀b,st.out.box b=none→K (.ptr (.out b) 0) ⟨st.t,st.loc,st.out.set b zs⟩):o.wp P a E.w (cI E a o.dst K) Q:=by
  unfold Oper.wp;rw[hr]
  let E' : Env:={w:=E.w.alloc (.cells c e),role:=fun b=>if b=E.w.heap.size then .mb else E.role b,loc:=E.loc,aB:=E.aB}
  have hx:Ext E.w E'.w:=(Ext.refl _).alloc _ _;have aQ:Fr E E' := tz hs.ok.fresh hx (fun b hb=>by simp only[E'];rw[ah (by omega)]) (fun _ _ h=>h);have hle:E.le E' := aQ.le fun i b h=>h
  have gm:st.out.box E.w.heap.size=none:=by
    cases hq:st.out.box E.w.heap.size with
    | none=>rfl
    | some cs =>
      obtain⟨_,c',e',h3,_⟩:=hs.ok.box _ cs hq
      have:=iK (w:=E.w) h3
      omega
  refine⟨E',_,_,⟨st.t,st.loc,st.out.set E.w.heap.size zs⟩,rfl,aQ,⟨⟨?_,?_,?_,hs.ok.nt,fun b cs hc=>cJ.mono _ aQ.nl (hs.ok.bH b cs hc)⟩,?_,hs.defers,RL.mono _ hle hs.slot⟩,?_,rfl,hk _ gm⟩
  · intro b cs hcs;simp only[ab.set] at hcs;split at hcs
    · rename_i hb;subst hb;simp only[aG] at hcs;subst hcs;have AG := RL.ma (E:=E) (E' := E'.nl) _ aQ.nl mM hz;have hl:=dS AG;refine⟨by simp[E'],c,e,heap_alloc_new _ _,by simp at hl;omega,fun j x hx=>?_⟩;obtain⟨v,hv,bF⟩:=nr AG j x hx;exact⟨v,by simpa using hv,bF⟩
    · rename_i hb;obtain⟨h1,h2⟩:=hs.ok.box b cs hcs;have ag:b<E.w.heap.size:=by obtain⟨c,e,h3,_⟩:=h2;exact iK (w:=E.w) h3
      exact⟨by simp only[E'];rw[ah hb];exact h1,h2.mono aQ.nl (hx.block b ag)⟩
  · exact hs.ok.aB
  · intro b hb;simp only[E',World.size_alloc] at hb ⊢;rw[ah (by omega)];exact hs.ok.fresh b (by omega)
  · exact mc hs.bW hle (fun b i h hb=>⟨by simp only[E'];rw[ah (by omega)];exact h,hx.block b hb⟩) hs.bW.none
  · simp only[R]
theorem apt (hs:a7 E st a) {t:TypeId} {zs:List V} (ho:o.op = .alloc t) (hz:gW P t=some zs) (hk:aq.aL P st K (.lO zs)):o.wp P a E.w (cI E a o.dst K) Q:=by
  obtain⟨i,z,h1,h2,h3,_⟩:=o_ hz;refine VK hs (c:=z.cells) (e:=t) ?_ (nz h3) hk.1 hk.2;simp[execOp,ho,Instr.alloc,zeroValue,typeInfo,h1,h2,newVar,newRow]
theorem apx (hs:a7 E st a) {t:TypeId} {x:Operand} {n:Nat} {y:X} (ho:o.op = .box t x) (hx:R E (ev st y) (a.eval x)) (hk:aq.aL P st K (.eD n y)):o.wp P a E.w (cI E a o.dst K) Q:=by
  refine VK hs (c:=(a.eval x).cells) (e:=t) ?_ (sW hx hk.1).1 hk.2.1 hk.2.2;simp[execOp,ho,Instr.box,newVar,newRow]
theorem Ks (hs:a7 E st a) {zs:List V} {c:Array Value} {e:TypeId} {w1:World} (Dq:Ext E.w w1) (agl:w1.heap.size=E.w.heap.size) {x:Value} {v:Nat→V}
    (hr:(execOp a.eval o).run P E.w = .ok (.value x) (w1.alloc (.cells c e)))
    (hz:RL E.nl zs c.toList) (hv:R E (v E.w.heap.size) x) (mM:(v E.w.heap.size).bS=true) (hk:∀b,st.out.box b=none→K (v b) ⟨st.t,st.loc,st.out.set b zs⟩):o.wp P a E.w (cI E a o.dst K) Q:=by
  unfold Oper.wp;rw[hr]
  let E' : Env:={w:=w1.alloc (.cells c e),role:=fun b=>if b=E.w.heap.size then .mb else E.role b,loc:=E.loc,aB:=E.aB}
  have hx:Ext E.w E'.w:=Dq.alloc _ _;have aQ:Fr E E' := tz hs.ok.fresh hx (fun b hb=>by simp only[E'];rw[ah (by omega)]) (fun _ _ h=>h);have hle:E.le E' := aQ.le fun i b h=>h
  have gm:st.out.box E.w.heap.size=none:=by
    cases hq:st.out.box E.w.heap.size with
    | none=>rfl
    | some cs =>
      obtain⟨_,c',e',h3,_⟩:=hs.ok.box _ cs hq
      have:=iK (w:=E.w) h3
      omega
  refine⟨E',_,_,⟨st.t,st.loc,st.out.set E.w.heap.size zs⟩,rfl,aQ,⟨⟨?_,?_,?_,hs.ok.nt,fun b cs hc=>cJ.mono _ aQ.nl (hs.ok.bH b cs hc)⟩,?_,hs.defers,RL.mono _ hle hs.slot⟩,hv.mono _ hle,rfl,hk _ gm⟩
  · intro b cs hcs;simp only[ab.set] at hcs;split at hcs
    · rename_i hb;subst hb;simp only[aG] at hcs;subst hcs;have AG : RL E'.nl zs c.toList:=RL.mono _ aQ.nl hz;have hl:=dS AG;refine⟨by simp[E'],c,e,?_,by simp at hl;omega,fun j x hx=>?_⟩
      · show (w1.alloc (.cells c e)).heap[E.w.heap.size]?=_;rw[←agl];exact heap_alloc_new _ _
      · obtain⟨v,hv,bF⟩:=nr AG j x hx;exact⟨v,by simpa using hv,bF⟩
    · rename_i hb;obtain⟨h1,h2⟩:=hs.ok.box b cs hcs;have ag:b<E.w.heap.size:=by obtain⟨c,e,h3,_⟩:=h2;exact iK (w:=E.w) h3
      exact⟨by simp only[E'];rw[ah hb];exact h1,h2.mono aQ.nl (hx.block b ag)⟩
  · exact hs.ok.aB
  · intro b hb;simp only[E',World.size_alloc] at hb ⊢;rw[ah (by omega)];exact hs.ok.fresh b (by omega)
  · exact mc hs.bW hle (fun b i h hb=>⟨by simp only[E'];rw[ah (by omega)];exact h,hx.block b hb⟩) hs.bW.none
theorem Kr (hs:a7 E st a) {t u ty e:TypeId} {i:TypeInfo} {z:Value} (ht:P.underlying t=some (.slice e)) (hi:P.info? e=some i) (hz:i.zero=some z) (gf:z.cells.size=i.size)
    (kf:i.bytes≤4096) {base:Option Addr} {n cap:Nat} {vx:Value} {m:List (List V)}
    (cg:(execOp a.eval o).run P E.w=((Builtin.append_ #[t,u] ty #[.slice base n cap,vx]).run P E.w).andThen fun v w' => .ok (.value v) w')
    {news:List Value} (nQ:Src P E.w i.size m.length u vx news) (oG:RL E.nl m.flatten news) (dH:∀v∈news,v.oneCell' = true) (hm:∀y∈m,y.length=i.size)
    (hk:uM st.out i.size base n cap m fun v σ=>K v ⟨st.t,st.loc,σ⟩):o.wp P a E.w (cI E a o.dst K) Q:=by
  obtain⟨vq,hbig,lV,Al,tK,oB⟩:=hk;have oD:=nQ.size;have Ae:(n+m.length)*i.bytes≤140737488355328:=by
    have:=K7 hbig kf
    simp only[aE] at this;omega
  have AD:n+m.length≤9223372036854775807:=by simp only[aE] at hbig;omega
  by_cases mL:m=[]
  · have hK0:K (V.raw (Value.slice base n cap)) st:=Al mL;subst mL
    have:news=[]:=nj (by simpa using oD)
    subst this;refine b8 hs (v:=.raw (.slice base n cap)) (x:=.slice base n cap) ?_ (by simp only[R]) hK0;rw[cg,Up (P:=P) ht hi vq nQ];rfl
  rcases mz cap (n+m.length) with ag | lB
  · obtain⟨cs,hcs,oB⟩:=oB ag;have hold:∃ft:List Value,(Builtin.firstCells i.size n (.slice base n cap)).run P E.w.drew = .ok ft.toArray E.w.drew∧RL E.nl (cs.take (n*i.size)) ft∧ft.length=n*i.size∧(cs.take (n*i.size)).length=n*i.size:=by
      rcases hcs with ⟨rfl,rfl⟩ | ⟨b,rfl,lv,hle⟩
      · refine⟨[],?_,by simp[RL],by simp,by simp⟩;cases base<;>simp[Builtin.firstCells,loadCells,loadCellsFrom]
      · obtain⟨cu,c,e',dn,hlen,lx⟩:=hs.ok.box b cs lv;have dn:E.w.heap[b]?=some (.cells c e' (0,0)):=dn;refine⟨c.toList.take (n*i.size),?_,zj (by simp;omega) fun j x u hx hu=>?_,by simp;omega,by simp;omega⟩
        · have hl:(c.toList.take (n*i.size)).length=n*i.size:=by simp;omega
          have:=run_loadCells_list (P:=P) E.w.drew ⟨b,0,none⟩ (c.toList.take (n*i.size)) (fun j v hv=>by
            rw[jq];have C1 : E.w.drew.heap[b]?=some (.cells c e' (0,0)):=dn;have hj:j<n*i.size:=by have:=(dj.1 hv).1;omega
            rw[uS hj] at hv;simpa [World.cell?,C1] using hv)
          rw[hl] at this;simp only[Builtin.firstCells];exact this
        · have hj:j<n*i.size:=by have:=(dj.1 hx).1;simp at this;omega
          rw[uS hj] at hx;rw[uS hj] at hu;obtain⟨v,h1,h2⟩:=lx j x hx
          have:v=u:=by simp at hu;rw[hu] at h1;simpa using h1.symm
          exact this▸h2
    obtain⟨ft,Av,oH,kM,ho4⟩:=hold;have pz:=grownCap_ge E.w (n+m.length) cap e;have hr:(execOp a.eval o).run P E.w = .ok (.value (.slice (some ⟨E.w.heap.size,0,none⟩) (n+m.length) (grownCap E.w (n+m.length) cap e)))
        (E.w.drew.alloc (.cells (ft++(news++(Builtin.zeroCells z.cells (grownCap E.w (n+m.length) cap e - (n+m.length))).toList)).toArray e)):=by
      rw[cg,Jz (P:=P) ht hi hz Av nQ ag Ae AD];rfl
    have HW:(Builtin.zeroCells z.cells (grownCap E.w (n+m.length) cap e - (n+m.length))).toList.length=(grownCap E.w (n+m.length) cap e - (n+m.length))*i.size:=by
      simp only[wJ,size_zeroCells,gf]
    generalize grownCap E.w (n+m.length) cap e=nc at hr pz HW;generalize (Builtin.zeroCells z.cells (nc - (n+m.length))).toList=rest at hr HW;refine Ks hs (v:=fun b=>.raw (.slice (some ⟨b,0,none⟩) (n+m.length) nc)) (zs:=cs.take (n*i.size)++m.flatten++List.replicate ((nc - (n+m.length))*i.size) .any) ((Ext.refl E.w).drew) rfl hr ?_ (by simp only[R]) rfl (fun b hb=>oB b nc hb pz);simp only[eh];refine qn oH (qn oG ?_);rw[←HW];exact Lb rest
  · obtain⟨b,cs,rfl,lv,ly,hK⟩:=tK mL lB;obtain⟨cu,c,e',dn,hlen,lx⟩:=hs.ok.box b cs lv;have dn:E.w.heap[b]?=some (.cells c e' (0,0)):=dn;have jA:=iA hm;have Hj : n*i.size+news.length≤c.size:=by rw[oD];omega
    have gC:=JA (P:=P) (ty:=ty) ht hi dn nQ dH lB Hj;have aQ:=CQ (E:=E) (new:=(c.toList.take (n*i.size)++news++c.toList.drop (n*i.size+news.length)).toArray) dn (.inr cu) (by simp;omega);have hle:=aQ.le fun _ _ h=>h
    have fe:=setRow_heap E.w b c (c.toList.take (n*i.size)++news++c.toList.drop (n*i.size+news.length)).toArray e' _ dn;have rT:=Cr (E' := Env.nl {E with w:=E.w.setRow b (c.toList.take (n*i.size)++news++c.toList.drop (n*i.size+news.length)).toArray}) hlen
      (fun j x hj=>let ⟨u,h1,h2⟩:=lx j x hj;⟨u,h1,h2.mono _ aQ.nl⟩) (RL.mono _ aQ.nl oG) (by omega) fe
    generalize (c.toList.take (n*i.size)++news++c.toList.drop (n*i.size+news.length)).toArray=new at gC fe aQ hle rT;have iY : ∀b',b' ≠ b→(E.w.setRow b new).heap[b']?=E.w.heap[b']?:=fun b' aH=>setRow_other E.w b b' new aH
    unfold Oper.wp;rw[cg,gC];refine⟨{E with w:=E.w.setRow b new},.raw (.slice (some ⟨b,0,none⟩) (n+m.length) cap),.slice (some ⟨b,0,none⟩) (n+m.length) cap,⟨st.t,st.loc,st.out.set b (setAt cs (n*i.size) m.flatten)⟩,rfl,aQ,⟨⟨?_,hs.ok.aB,fun b' bl => hs.ok.fresh b' (by simpa using bl),hs.ok.nt,fun b cs hc=>cJ.mono _ aQ.nl (hs.ok.bH b cs hc)⟩,
      mc hs.bW hle (fun b' i hr _=>⟨hr,iY b' (by rintro rfl;rw[cu] at hr;simp at hr)⟩) hs.bW.none,hs.defers,RL.mono _ hle hs.slot⟩,by simp only[R],rfl,hK⟩
    intro b' ds iX
    by_cases bJ:b' = b
    · subst bJ;rw[ab.cH] at iX;simp only[aG] at iX;subst iX;exact⟨cu,rT⟩
    · rw[ab.cN _ _ bJ] at iX;obtain⟨k1,k2⟩:=hs.ok.box b' ds iX;exact⟨k1,k2.mono aQ.nl (iY b' bJ)⟩
theorem aiC {z:Array Value} {n k:Nat} (hz:z.size=k) (hk:0<k):(madeCells z (n*k)).toList=(List.replicate n z.toList).flatten:=by
  apply KQ;intro j;have e:∀(n j:Nat),j<n*k→(List.replicate n z.toList).flatten[j]?=z[j % k]?:=by
    intro n;induction n with
    | zero=>intro j hj;simp at hj
    | succ n ih =>
      intro j hj;rw[ry,iQ]
      by_cases h:j<k
      · rw[nk (by simpa [hz] using h),K6 h];simp
      · rw[uQ (by simp[hz];omega)];have hl:z.toList.length=k:=by simpa using hz
        have gl : j - k<n*k:=by rw[gb,sT] at hj;omega
        rw[hl,ih (j - k) gl,show (j - k) % k=j % k from (Nat.mod_eq_sub_mod (by omega)).symm]
  by_cases hj:j<n*k
  · rw[e n j hj];have hm:j % k<z.size:=by rw[hz];exact Nat.mod_lt _ hk
    rw[getElem?_pos z _ hm];have hg:z[j % k]! = z[j % k]:=getElem!_pos z (j % k) hm;simp[madeCells,hj,hz,hg]
  · rw[uR (by simp[madeCells];omega),uR (by simp[hz];omega)]
def JG:Operand→Operand→Bool
  | .tmp a,.tmp b=>decide (a=b)
  | .const (.int k a),.const (.int k' b)=>decide (k=k')&&decide (a=b)
  | _,_=>false
theorem am4 {x y:Operand} (h:JG x y=true):x=y:=by
  unfold JG at h;split at h
  · simp at h;rw[h]
  · simp at h;rw[h.1,h.2]
  · simp at h
theorem u5 {b:Option X} {d:Nat} {vs:List V} {K:Nat→List V→Prop} (h:iU b.isSome d (b9 st b.toList++vs) K):∃m,K m vs∧match (generalizing:=false) b with | none=>m=d | some y=>∃j,ev st y = .int j m:=by
  cases b with
  | none=>simp only[Option.isSome,Option.toList,b9,iS,iU] at h;exact⟨d,h,rfl⟩
  | some y =>
    simp only[Option.isSome,Option.toList,b9,gN,iS] at h;unfold iU at h;split at h
    · rename_i e;simp at e
    · rename_i j n r e1 e2;simp only[eP] at e2;obtain⟨e3,rfl⟩:=e2;exact⟨n.toNat,h.2,j,by rw[e3];simp;omega⟩
    · exact h.elim
theorem CL {xs ys:List X}:b9 st (xs++ys)=b9 st xs++b9 st ys:=by
  induction xs with
  | nil=>rfl
  | cons x xs ih=>simp[b9,ih]
def Iu (P:Program) (o:Oper):Option aq :=
  match o.op with
  | .move (.const (.slice none 0 0)) | .assign (.const (.slice none 0 0))=>some (.own .nil [])
  | .makeSlice t l c =>
    if JG l c=true then
      match P.underlying t with
      | some (.slice e) =>
        match P.info? e,gW P e,bN P 0 l with
        | some i,some z,some x=>if i.bytes≤4096∧0<i.size∧z.length=i.size then some (.own (.mk z) [x]) else none
        | _,_,_=>none
      | _=>none
    else none
  | .buildSlice t len ps =>
    match P.underlying t with
    | some (.slice e) =>
      match cO P e,gW P e,gq P (List.replicate len e) (ps.toList.map (·.2)) with
      | some k,some _,some xs=>if ps.toList.map (·.1)=List.range len∧len*k≤16777216 then some (.own (.jI k) xs) else none
      | _,_,_=>none
    | _=>none
  | .slice t x lo hi mx =>
    match P.underlying t with
    | some (.slice e) =>
      match bN P t x,iJ P t lo,iJ P t hi,iJ P t mx,cO P e with
      | some x,some lo,some hi,some mx,some k=>if mx.isSome=true→hi.isSome=true then some (.own (.j_ k lo.isSome hi.isSome mx.isSome) (x::(lo.toList++hi.toList++mx.toList))) else none
      | _,_,_,_,_=>none
    | _=>none
  | .indexAddr t x i =>
    match P.underlying t,bN P t x,bN P t i with
    | some (.slice e),some x,some i=>(cO P e).map fun k=>.own (.idx k) [x,i]
    | _,_,_=>none
  | .call c =>
    match c.callee with
    | .builtin .len =>
      match c.argTypes.toList,c.args.toList with
      | [t], [x] =>
        match P.underlying t,bN P t x with
        | some (.slice _),some y=>some (.own .len [y])
        | _,_=>none
      | _,_=>none
    | .builtin .append =>
      match c.argTypes.toList,c.args.toList with
      | [t, u], [s, x] =>
        match P.underlying t,P.underlying u,bN P t s,bN P u x with
        | some (.slice e), some (.slice e'), some s, some x =>
          match P.info? e,gW P e with
          | some i,some _=>if e=e' ∧ i.bytes≤4096∧0<i.size then some (.own (.app i.size) [s,x]) else none
          | _,_=>none
        | _,_,_,_=>none
      | _,_=>none
    | _=>none
  | _=>none
theorem aky {ao:aq} (hl:Iu P o=some ao) (hs:a7 E st a) (h:ao.aL P st K):o.wp P a E.w (cI E a o.dst K) Q:=by
  have X:=fun {t:TypeId} {x:Operand} {y:X} (hx:bN P t x=some y)=>kr (E:=E) (st:=st) (a:=a) hs.slot hx
  unfold Iu at hl;split at hl
  · rename_i ho;simp only[aG] at hl;subst hl;refine b8 hs (v:=.raw (.slice none 0 0)) (x:=.slice none 0 0) ?_ (by simp only[R]) h;simp[execOp,ho,Act.eval]
  · rename_i ho;simp only[aG] at hl;subst hl;refine b8 hs (v:=.raw (.slice none 0 0)) (x:=.slice none 0 0) ?_ (by simp only[R]) h;simp[execOp,ho,Act.eval]
  · rename_i t l c ho;split at hl
    case isFalse=>simp at hl
    rename_i Aq;have Aq:=am4 Aq;subst Aq;split at hl
    case h_2=>simp at hl
    rename_i e ht;split at hl
    case h_2=>simp at hl
    rename_i i z x hi hz hx;split at hl
    case isFalse=>simp at hl
    rename_i hc;simp only[aG] at hl;subst hl;obtain⟨i',z',q1,q2,q3,q4⟩:=o_ hz;obtain rfl:i=i' := by rw[hi] at q1;simpa using q1
    have gS := X hx;simp only[aq.aL,b9] at h;unfold OQ.aL at h;split at h<;>try (exfalso;simp_all;done)
    · rename_i z0 k n e1 e2;simp only[OQ.mk.injEq] at e1;subst e1;simp only[eP,eC] at e2;rw[e2] at gS;simp only[R] at gS;obtain⟨g1,g2,g3,g4,g5⟩:=h;have gf:z'.cells.size=i.size:=by have:=dS (nz (E:=E) q3);simp at this;omega
      have cg:=run_make (P:=P) E.w t e i z' ht hi q2 k k n n g1 (Int.le_refl _) (by
        have:(i.bytes:Int)*n≤4096*aE:=Int.mul_le_mul (by omega) (by omega) g1 (by omega)
        simp only[aE] at this;omega) (by simp only[aE] at g2;omega)
      refine Ks hs (w1:=E.w) (Ext.refl _) rfl (v:=fun b=>.raw (.slice (some ⟨b,0,none⟩) n.toNat n.toNat)) (zs:=(List.replicate n.toNat z).flatten) (x:=.slice (some ⟨E.w.heap.size,0,none⟩) n.toNat n.toNat) (c:=madeCells z'.cells (n.toNat*i.size)) (e:=e) ?_ ?_ (by simp only[R]) rfl (fun b hb=>g5 b hb)
      · simp[execOp,ho,gS,cg]
      · rw[aiC gf hc.2.1];have hr:=nz (E:=E.nl) q3;induction n.toNat with
        | zero=>simp[RL]
        | succ m ih=>simp only[ry,iQ];exact qn hr ih
  · rename_i t len ps ho;split at hl
    case h_2=>simp at hl
    rename_i e ht;split at hl
    case h_2=>simp at hl
    rename_i k z xs hk hz kp;split at hl
    case isFalse=>simp at hl
    rename_i hc;simp only[aG] at hl;subst hl;simp only[aq.aL] at h;unfold OQ.aL at h;split at h<;>try (exfalso;simp_all;done)
    · rename_i k0 vs e1;simp only[OQ.jI.injEq] at e1;subst e1;obtain⟨l,h1,h2⟩:=h;exact VE hs ho ht hk hz hc.1 hc.2 (H' (E:=E) hs.slot kp h1) h2
  · rename_i t x lo hi mx ho;split at hl
    case h_2=>simp at hl
    rename_i e ht;split at hl
    case h_2=>simp at hl
    rename_i x' kq cD mx' k h1 h2 h3 h4 hk;split at hl
    case isFalse=>simp at hl
    rename_i qM;simp only[aG] at hl;subst hl;have hx:=X h1;simp only[aq.aL,b9] at h;unfold OQ.aL at h;split at h<;>try (exfalso;simp_all;done)
    · rename_i k0 b1 b2 b3 base n cap vs e1 e2;simp only[OQ.j_.injEq] at e1;obtain⟨rfl,rfl,rfl,rfl⟩:=e1;simp only[eP] at e2;obtain⟨e2,rfl⟩:=e2;rw[e2] at hx;simp only[R] at hx;rw[CL,CL,eh] at h;obtain⟨m,h,g1⟩:=u5 h;obtain⟨hh,h,g2⟩:=u5 h;rw[←dD (b9 st mx'.toList)] at h;obtain⟨M,h,g3⟩:=u5 h;obtain⟨_,k1,k2,k3,h⟩:=h;have hb:=JB (P:=P) hs h2 h3 h4 qM g1 g2 g3 k1 k2 k3;refine b8 hs (v:=.raw _) (x:=.slice (if M=m then base else base.map (·.add (m*k))) (hh - m) (M - m)) ?_ (by simp only[R]) h;simp only[execOp,ho,Sem.run_bind,hx];simp[Instr.sliceAt,run_underlying ht,Instr.slice,hb,kX hk]
  · rename_i t x i ho;split at hl
    case h_2=>simp at hl
    rename_i e x' i' ht h1 h2;simp only[cf] at hl;obtain⟨k,hk,rfl⟩:=hl;have hx:=X h1;have hi:=X h2;simp only[aq.aL,b9] at h;unfold OQ.aL at h;split at h<;>try (exfalso;simp_all;done)
    · rename_i k0 b off n cap kk j e1 e2;simp only[OQ.idx.injEq] at e1;subst e1;simp only[eP,eC] at e2;obtain⟨e2,e3⟩:=e2;rw[e2] at hx;rw[e3] at hi;simp only[R] at hx hi;obtain⟨g1,g2,h⟩:=h;refine b8 hs (v:=.ptr (.out b) (off+j.toNat*k)) (x:=.pointer (some ⟨b,off+j.toNat*k,none⟩)) ?_ (by simp only[R]) h;simp[execOp,ho,hx,hi,Instr.indexAt,asIntOf,run_underlying ht,g1,g2,kX hk,jq]
  · rename_i c ho;obtain⟨callee,args,argTypes⟩:=c;simp only at hl;split at hl
    · split at hl
      case h_2=>simp at hl
      rename_i t x ht hx;have e1:argTypes=#[t]:=by cases argTypes;simpa using ht
      have e2:args=#[x]:=by cases args;simpa using hx
      subst e1;subst e2;split at hl
      case h_2=>simp at hl
      rename_i e y hu h1;simp only[aG] at hl;subst hl;have hx:=X h1;simp only[aq.aL,b9] at h;unfold OQ.aL at h;split at h<;>try (exfalso;simp_all;done)
      · rename_i base n cap e1 e2;simp only[eP,eC] at e2;rw[e2] at hx;simp only[R] at hx;refine b8 hs (v:=.int .i64 n) (x:=.int .i64 n) ?_ (by simp only[R]) h;simp[execOp,ho,resolve,invoke,builtin,Builtin.len_,run_underlying hu,hx,goInt]
    · split at hl
      case h_2=>simp at hl
      rename_i t u s x ht hx;have e1:argTypes=#[t,u]:=by cases argTypes;simpa using ht
      have e2:args=#[s,x]:=by cases args;simpa using hx
      subst e1;subst e2;split at hl
      case h_2=>simp at hl
      rename_i e e' s' x' hu vG b_ gS;split at hl
      case h_2=>simp at hl
      rename_i i z hi hz;split at hl
      case isFalse=>simp at hl
      rename_i hc;simp only[aG] at hl;subst hl;obtain⟨rfl,kf,iD⟩:=hc;obtain⟨i',z',q1,q2,q3,q4⟩:=o_ hz;obtain rfl:i=i' := by rw[hi] at q1;simpa using q1
      have gf:z'.cells.size=i.size:=by have:=dS (nz (E:=E) q3);simp at this;omega
      have qO:=X b_;have dW:=X gS;simp only[aq.aL,b9] at h;unfold OQ.aL at h;split at h<;>try (exfalso;simp_all;done)
      · rename_i k0 base n cap tk k1 m e1 e2;simp only[OQ.app.injEq] at e1;subst e1;simp only[eP,eC] at e2;obtain⟨e2,e3⟩:=e2;obtain⟨rfl,h⟩:=h;rw[e2] at qO;rw[e3] at dW;obtain⟨news,g1,g2,g3,g4⟩:=Eu (P:=P) vG dW;simp only[R] at qO;refine Kr hs hu hi q2 gf kf (ty:=o.type) (vx:=a.eval x) ?_ g1 g2 g3 g4 h;simp[execOp,ho,resolve,invoke,builtin,qO]
    · simp at hl
  · simp at hl
def Is (P:Program) (h:List Nat) (o:Oper):Option aq :=
  match o.dst with
  | some d =>
    if h.contains d=true then
      match o.op with
      | .alloc t=>(gW P t).map .lO
      | .box t x=>match cO P t,bN P t x with | some n,some y=>some (.eD n y) | _,_=>none
      | _=>match Iu P o with | some x=>some x | none=>ub P o
    else ub P o
  | none=>ub P o
theorem ais {ao:aq} {h:List Nat} (hl:Is P h o=some ao) (hs:a7 E st a) (hk:ao.aL P st K):o.wp P a E.w (cI E a o.dst K) Q:=by
  unfold Is at hl;split at hl
  case h_2=>exact A1 hl hs hk
  split at hl
  case isFalse=>exact A1 hl hs hk
  split at hl
  · rename_i t ho;simp only[cf] at hl;obtain⟨z,h1,rfl⟩:=hl;exact apt hs ho h1 hk
  · rename_i t x ho;split at hl
    case h_2=>simp at hl
    rename_i n y hn hy;simp only[aG] at hl;subst hl;exact apx hs ho (kr hs.slot hy) hk
  · split at hl
    · rename_i x hx;simp only[aG] at hl;subst hl;exact aky hx hs hk
    · exact A1 hl hs hk
end
structure wN (E:Env) (τ k:Nat) (l:List (List V)) (b cap:Nat):Prop where
  aB:E.aB τ=some l.length
  role:E.role b = .eY τ (l.length*k)
  OO:∃cs e,E.w.heap[b]?=some (.cells cs e (0,0))∧cs.size=cap*k
  cap:l.length+1≤cap
  qB:dE E.nl k l b 0
theorem wN.mono {E E' : Env} {τ k:Nat} {l:List (List V)} {b cap:Nat} (h:wN E τ k l b cap) (hf:Fr E E') (ht:E'.aB τ=some l.length):wN E' τ k l b cap:=by
  obtain⟨n',h1,_,h3⟩:=hf.tok τ _ h.aB;rw[ht] at h1;simp only[aG] at h1;obtain⟨r1,r2⟩:=h3 h1.symm b _ h.role;obtain⟨cs,e,k1,k2⟩:=h.OO;obtain⟨cs',q1,q2⟩:=r2 cs e k1;exact⟨ht,r1,⟨cs',e,q1,q2.trans k2⟩,h.cap,dE.mono _ hf.nl h.qB⟩
section
variable {P:Program} {E:Env} {st:St} {a:Act} {o:Oper}
theorem af8 (hs:a7 E st a) {t u ty e:TypeId} {i:TypeInfo} {z:Value} (ht:P.underlying t=some (.slice e)) (hi:P.info? e=some i) (hz:i.zero=some z) (gf:z.cells.size=i.size)
    (kf:i.bytes≤4096) {vs vx:Value} {τ:Nat} {l:List (List V)}
    (cg:(execOp a.eval o).run P E.w=((Builtin.append_ #[t,u] ty #[vs,vx]).run P E.w).andThen fun v w' => .ok (.value v) w')
    (cT:R E (.sl (.tk τ) i.size l) vs) {news:List Value} (nQ:Src P E.w i.size 1 u vx news) (dH:∀v∈news,v.oneCell' = true)
    (hbig:l.length+1≤aE) (hE:E.aB τ=some l.length) :
    ∃b cap E',wN E' τ i.size l b cap∧(execOp a.eval o).run P E.w = .ok (.value (.slice (some ⟨b,0,none⟩) (l.length+1) cap)) E'.w∧Fr E E' ∧ a7 E' st a∧(∀j,E'.loc j=E.loc j):=by
  simp only[R] at cT;obtain⟨base,cap,rfl,vq,jy,r6⟩:=cT;obtain⟨ft,hold,GV,GC,cG,hlen⟩:=S3 (P:=P) (cap:=cap) jy;have Ae:(l.length+1)*i.bytes≤140737488355328:=by
    have:=K7 hbig kf
    simp only[aE] at this;omega
  have AD:l.length+1≤9223372036854775807:=by simp only[aE] at hbig;omega
  have oD:=nQ.size;obtain⟨n',h1,_,h3⟩:=r6;rw[hE] at h1;simp only[aG] at h1;subst h1
  rcases mz cap (l.length+1) with ag | lB
  · have pz:=grownCap_ge E.w (l.length+1) cap e;have size:(ft++(news++(Builtin.zeroCells z.cells (grownCap E.w (l.length+1) cap e - (l.length+1))).toList)).toArray.size=grownCap E.w (l.length+1) cap e*i.size:=by
      simp only[K1,bz,wJ,size_zeroCells,gf,hlen,oD];rw[←B2,←gb,←gb];congr 1;omega
    have hr:=Jz (P:=P) (ty:=ty) ht hi hz hold nQ ag Ae AD;generalize grownCap E.w (l.length+1) cap e=nc at hr pz size;generalize news++(Builtin.zeroCells z.cells (nc - (l.length+1))).toList=rest at hr size
    let E' : Env:={w:=E.w.drew.alloc (.cells (ft++rest).toArray e),role:=fun b=>if b=E.w.heap.size then .eY τ (l.length*i.size) else E.role b,loc:=E.loc,aB:=E.aB}
    have hx:Ext E.w E'.w:=((Ext.refl _).drew).alloc _ _;have fe:∀b,b<E.w.heap.size→E'.role b=E.role b:=fun b hb=>by simp only[E'];rw[ah (by omega)]
    have aQ:Fr E E' := tz hs.ok.fresh hx fe (fun _ _ h=>h);have hle:E.le E' := aQ.le fun _ _ h=>h
    have HO:E'.w.heap.size=E.w.heap.size+1:=by simp[E']
    have oE:E'.w.heap[E.w.heap.size]?=some (.cells (ft++rest).toArray e (0,0)):=heap_alloc_new E.w.drew _;have dp:E'.role E.w.heap.size = .eY τ (l.length*i.size):=by simp[E']
    refine⟨E.w.heap.size,nc,E',⟨hE,dp,⟨_,_,oE,size⟩,pz,B_ cG (RL.mono _ aQ.nl GV) GC oE (fun j hj=>by rw[dp];simpa [dm.fp] using hj)⟩,?_,aQ,⟨?_,?_,hs.defers,RL.mono _ hle hs.slot⟩,fun _=>rfl⟩
    · rw[cg,hr];rfl
    · refine yD hs.ok aQ.nl (fun b h hb=>⟨by rw[fe b hb];exact h,hx.block b hb⟩) (fun _ _ h=>h) (fun b hb=>?_) hs.ok.nt;rw[HO] at hb;simp only[E'];rw[ah (by omega)];exact hs.ok.fresh b (by omega)
    · exact mc hs.bW hle (fun b i' h hb=>⟨by rw[fe b hb];exact h,hx.block b hb⟩) hs.bW.none
  · rcases h3 rfl with hc | ⟨b,cs,e',rfl,cu,dn,bK⟩
    · omega
    · have ly:l.length*i.size+news.length≤cs.size:=by
        rw[oD,bK,←gb];exact mA _ lB
      have gC:=JA (P:=P) (ty:=ty) ht hi dn nQ dH lB ly;have qJ:∀j:Nat,j<l.length*i.size→(cs.toList.take (l.length*i.size)++news++cs.toList.drop (l.length*i.size+news.length)).toArray[j]?=cs[j]?:=fun j hj=>by
        have:=Bj (c:=cs.toList) (vs:=news) (off:=l.length*i.size) (by simpa using ly) j
        rw[aw hj] at this;simpa using this
      have oL:(cs.toList.take (l.length*i.size)++news++cs.toList.drop (l.length*i.size+news.length)).toArray.size=cs.size:=by
        simp;omega
      generalize (cs.toList.take (l.length*i.size)++news++cs.toList.drop (l.length*i.size+news.length)).toArray=new at gC qJ oL
      let E' : Env:={E with w:=E.w.setRow b new}
      have fW:∀b',b' ≠ b→E'.w.heap[b']?=E.w.heap[b']?:=fun b' aH=>setRow_other E.w b b' new aH
      have bl : E'.w.heap[b]?=some (.cells new e' (0,0)):=setRow_heap E.w b cs new e' _ dn;have aH:∀b' r,E.role b' = r→(∀c,r≠.eY τ c)→b' ≠ b:=fun b' r h h' => by rintro rfl;rw[cu] at h;exact h' _ h.symm
      have aQ:Fr E E' := by
        refine⟨rfl,rfl,rfl,by simp[E'],zQ dn,?_,?_,?_,fun _ _ h=>.inl h,fun _ _ c _ h=>⟨c,h⟩,fun _ i _ h=>⟨i,h⟩,fun b' c' xE hc=>by
              by_cases bJ:b' = b
              · subst bJ;rw[dn] at hc;simp only[aG,Obj.cells.injEq] at hc;obtain⟨rfl,rfl,_⟩:=hc;exact⟨new,bl,oL⟩
              · exact⟨c',(fW b' bJ).trans hc,rfl⟩⟩
        · intro b' o' c hc hv
          by_cases bJ:b' = b
          · subst bJ;refine⟨hc,?_⟩;rw[cu] at hc;simp only[dm.fp] at hc;simp only[World.cell?,dn] at hv;simp only[World.cell?,bl,qJ _ hc];exact hv
          · exact⟨hc,by rw[xx (fW b' bJ)];exact hv⟩
        · intro t n hn;refine⟨n,hn,bt _,fun _ b' c vp=>⟨vp,fun cs' xE hcs=>?_⟩⟩
          by_cases bJ:b' = b
          · subst bJ;rw[dn] at hcs;simp only[aG,Obj.cells.injEq] at hcs;obtain⟨rfl,rfl,_⟩:=hcs;exact⟨new,bl,oL⟩
          · exact⟨cs',by rw[fW b' bJ];exact hcs,rfl⟩
        · intro b' _ hr;have bJ:b' ≠ b:=by rcases hr with hr | hr<;>exact aH b' _ hr (fun c h=>by simp at h)
          exact⟨fW b' bJ,rfl⟩
      have hle:E.le E' := aQ.le fun _ _ h=>h
      have As:dE E.nl i.size l b 0:=by
        rcases jy with h | ⟨b2,o2,h,hr⟩
        · subst h;simp[dE]
        · simp only[aG,Addr.mk.injEq] at h;obtain⟨rfl,rfl,_⟩:=h;exact hr
      refine⟨b,cap,E',⟨hE,cu,⟨new,e',bl,oL.trans bK⟩,lB,dE.mono _ aQ.nl As⟩,?_,aQ,⟨?_,?_,hs.defers,RL.mono _ hle hs.slot⟩,fun _=>rfl⟩
      · rw[cg,gC];rfl
      · exact yD hs.ok aQ.nl (fun b' hr _=>⟨hr,fW b' (aH b' _ hr (fun c h=>by simp at h))⟩) (fun _ _ h=>h) (fun b' mH => hs.ok.fresh b' (by simpa [E'] using mH)) hs.ok.nt
      · exact mc hs.bW hle (fun b' i' hr _=>⟨hr,fW b' (aH b' _ hr (fun c h=>by simp at h))⟩) hs.bW.none
theorem af' (hs:a7 E st a) {τ k b cap:Nat} {l:List (List V)} (hh:wN E τ k l b cap) {t:TypeId} (hn:cO P t=some k) {xs:List V} {v:Value} (hx:RL E.nl xs v.cells.toList) (hv:v.cells.size=k) (h1:∀u∈v.cells.toList,u.oneCell' = true) :
    ∃E',(storeVar t ⟨b,l.length*k,none⟩ v).run P E.w = .ok () E'.w∧Fr E E' ∧ a7 E' ⟨st.t,st.loc,st.out.aK τ (l.length+1)⟩ a ∧
      R E'.nl (.sl (.tk τ) k (l++[xs])) (.slice (some ⟨b,0,none⟩) (l.length+1) cap)∧(∀j,E'.loc j=E.loc j):=by
  obtain⟨cs,e',dn,bK⟩:=hh.OO;have cu:=hh.role;have hE:=hh.aB;have lB:=hh.cap;obtain⟨cG,_⟩:=nq.1 hh.qB;have oP:xs.length=k:=by have:=dS hx;simp at this;omega
  have gC:=JC (P:=P) (off:=l.length*k) hn dn hv (by rw[bK,←B4];exact mA _ lB) h1;generalize oG:v.cells.toList=news at hx h1 gC;have oD:news.length=k:=by rw[←oG];simpa using hv
  have ly:l.length*k+news.length≤cs.size:=by rw[oD,bK,←B4];exact mA _ lB
  have qJ:∀j:Nat,(cs.toList.take (l.length*k)++news++cs.toList.drop (l.length*k+k)).toArray[j]?=if j<l.length*k then cs[j]? else if j<l.length*k+news.length then news[j - l.length*k]? else cs[j]?:=fun j=>by
    have:=Bj (c:=cs.toList) (vs:=news) (off:=l.length*k) (by simpa using ly) j
    rw[oD] at this ⊢;simpa using this
  have oL:(cs.toList.take (l.length*k)++news++cs.toList.drop (l.length*k+k)).toArray.size=cs.size:=by
    simp;omega
  generalize (cs.toList.take (l.length*k)++news++cs.toList.drop (l.length*k+k)).toArray=new at gC qJ oL;have afy:l.length*k≤(l.length+1)*k:=mA _ (by omega)
  let E' : Env:={w:=E.w.setRow b new,role:=fun b' => if b' = b then .eY τ ((l.length+1)*k) else E.role b',loc:=E.loc,aB:=fun t=>if t=τ then some (l.length+1) else E.aB t}
  have fW:∀b',b' ≠ b→E'.w.heap[b']?=E.w.heap[b']?:=fun b' aH=>setRow_other E.w b b' new aH
  have j2:∀b',b' ≠ b→E'.role b' = E.role b' := fun b' aH=>by simp only[E'];rw[ah aH]
  have bl : E'.w.heap[b]?=some (.cells new e' (0,0)):=setRow_heap E.w b cs new e' _ dn;have lX:E'.role b = .eY τ ((l.length+1)*k):=by simp[E']
  have aH:∀b' r,E.role b' = r→(∀c,r≠.eY τ c)→b' ≠ b:=fun b' r h h' => by rintro rfl;rw[cu] at h;exact h' _ h.symm
  have aQ:Fr E E' := by
    refine⟨rfl,rfl,rfl,by simp[E'],zQ dn,?_,?_,?_,?_,?_,?_,fun b' c' xE hc=>by
          by_cases bJ:b' = b
          · subst bJ;rw[dn] at hc;simp only[aG,Obj.cells.injEq] at hc;obtain⟨rfl,rfl,_⟩:=hc;exact⟨new,bl,oL⟩
          · exact⟨c',(fW b' bJ).trans hc,rfl⟩⟩
    · intro b' o' c hc hv
      by_cases bJ:b' = b
      · subst bJ;rw[cu] at hc;simp only[dm.fp] at hc;refine⟨by rw[lX];simp only[dm.fp];omega,?_⟩;simp only[World.cell?,dn] at hv;simp only[World.cell?,bl,qJ,aw hc];exact hv
      · exact⟨by rw[j2 b' bJ];exact hc,by rw[xx (fW b' bJ)];exact hv⟩
    · intro t n hn
      by_cases nR:t=τ
      · subst nR;rw[hE] at hn;simp only[aG] at hn;exact⟨l.length+1,by simp[E'],by omega,fun h=>by omega⟩
      · refine⟨n,by simp only[E'];rw[ah nR];exact hn,bt _,fun _ b' c vp=>?_⟩;have bJ:b' ≠ b:=aH b' _ vp (fun c' h=>by simp at h;exact nR h.1);exact⟨by rw[j2 b' bJ];exact vp,fun cs' xE hcs=>⟨cs',by rw[fW b' bJ];exact hcs,rfl⟩⟩
    · intro b' _ hr;have bJ:b' ≠ b:=by rcases hr with hr | hr<;>exact aH b' _ hr (fun c h=>by simp at h)
      exact⟨fW b' bJ,j2 b' bJ⟩
    · intro b' _ h;have bJ:b' ≠ b:=by rintro rfl;rw[lX] at h;simp at h
      rw[j2 b' bJ] at h;exact .inl h
    · intro b' t c _ h
      by_cases bJ:b' = b
      · subst bJ;rw[lX] at h;simp at h;obtain⟨rfl,_⟩:=h;exact⟨_,cu⟩
      · rw[j2 b' bJ] at h;exact⟨c,h⟩
    · intro b' i' _ h;have bJ:b' ≠ b:=by rintro rfl;rw[lX] at h;simp at h
      rw[j2 b' bJ] at h;exact⟨_,h⟩
  have hle:E.le E' := aQ.le fun _ _ h=>h
  refine⟨E',gC,aQ,⟨⟨?_,?_,?_,?_,fun b cs hc=>cJ.mono _ aQ.nl (hs.ok.bH b cs hc)⟩,?_,hs.defers,RL.mono _ hle hs.slot⟩,?_,fun _=>rfl⟩
  · intro b' cs' hcs;obtain⟨k1,k2⟩:=hs.ok.box b' cs' hcs;have bJ:b' ≠ b:=aH b' _ k1 (fun c h=>by simp at h);exact⟨by rw[j2 b' bJ];exact k1,k2.mono aQ.nl (fW b' bJ)⟩
  · intro t n i_;simp only[ab.aK] at i_;simp only[E'];split at i_
    · rename_i h;rw[aw h];exact i_
    · rename_i h;rw[ah h];exact hs.ok.aB t n i_
  · intro b' mH;have bJ:b' ≠ b:=by
      rintro rfl
      have:=iK dn
      simp[E'] at mH;omega
    rw[j2 b' bJ];exact hs.ok.fresh b' (by simpa [E'] using mH)
  · obtain⟨N,hN⟩:=hs.ok.nt;exact⟨max N (τ+1),fun t yk => by simp only[E'];rw[ah (by omega)];exact hN t (by omega)⟩
  · refine mc hs.bW hle (fun b' i' hr _=>?_) hs.bW.none;have bJ:b' ≠ b:=aH b' _ hr (fun c h=>by simp at h);exact⟨by rw[j2 b' bJ];exact hr,fW b' bJ⟩
  · have GR:dE E'.nl k (l++[xs]) b 0:=by
      have As:=hh.qB;refine nq.2 ⟨fun y hy=>?_,?_⟩
      · rcases gY.1 hy with h | h
        · exact cG y h
        · simp at h;subst h;exact oP
      rw[od];refine sU.2 ⟨(nq.1 (dE.mono _ aQ.nl As)).2,wY (vs:=news) (by simpa using RL.mono _ aQ.nl hx) h1 (fun j v hv=>?_) (fun j hj=>?_)⟩
      · have hj:=(dj.1 hv).1;rw[iA cG];simp only[Env.SS,World.cell?,bl,qJ];simp only[wW,fO,ey];rw[ah (show ¬(0+l.length*k+j<l.length*k) by omega),aw (show 0+l.length*k+j<l.length*k+news.length by omega)];rw[show 0+l.length*k+j - l.length*k=j from by omega];exact hv
      · rw[iA cG];simp only[iQ,KS,dD,oP] at hj;simp only[Env.SR,lX,dm.fp];rw[gb];omega
    simp only[R,bz,cF,dk];exact⟨some ⟨b,0,none⟩,cap,rfl,lB,.inr ⟨b,0,rfl,GR⟩,l.length+1,by simp[E'],bt _,fun _=>.inr ⟨b,new,e',rfl,lX,bl,oL.trans bK⟩⟩
end
structure HI where
  k:Nat
  s:X
  z:X
  len:X
  x:X
  addr:X
  fo:Option Nat
  d9:Nat
  d10:Nat
  dF:Nat
def hD (o:Oper) (j:Nat):Bool:=o.after.toList.any fun e=>Region.binds .any e&&e.on == j
def Hy (P:Program) (t2:TypeId) (nu:Operand) (other:Nat):Option Oper→Option (X × Option Nat × Nat)
  | none=>(bN P t2 nu).map fun y=>(y,none,other)
  | some F =>
    match F.dst,nu,ub P F with
    | some dF,.tmp p,some (.lq off y)=>if p=dF∧F.guard=none then some (y,some off,dF) else none
    | _,_,_=>none
def Hz (P:Program) (A I S O:Oper) (oF:Option Oper):Option HI :=
  match A.op,A.dst,I.op,I.dst,S.op,O.op with
  | .call c, some d9, .indexAddr t q1 sd, some d10, .store e q2 sJ, .store t2 nu q3 =>
    match c,q1,q2,q3 with
    | { callee := .builtin .append, args := args, argTypes := J_ }, .tmp p1, .tmp p2, .tmp p3 =>
      match J_.toList,args.toList with
      | [t', u], [pW, qa] =>
        match P.underlying t,P.underlying u,P.info? e,gW P e with
        | some (.slice e1), some (.slice e2), some i, some _ =>
          match bN P t pW,bN P u qa,bN P t sd,bN P e sJ,Hy P t2 nu (d9+d10+1) oF with
          | some s, some z, some len, some x, some (addr, fo, dF) =>
            if (t' = t∧e1=e∧e2=e∧i.bytes≤4096∧0<i.size)∧(p1=d9∧p2=d10∧p3=d9∧cO P t2=some 1)∧(A.guard=none∧I.guard=none∧S.guard=none∧O.guard=none∧S.dst=none∧O.dst=none)∧d9≠d10∧d9≠dF∧d10≠dF then
              some ⟨i.size,s,z,len,x,addr,fo,d9,d10,dF⟩
            else none
          | _,_,_,_,_=>none
        | _,_,_,_=>none
      | _,_=>none
    | _,_,_,_=>none
  | _,_,_,_,_,_=>none
def oI (ops:Array Oper):Option Oper :=
  match ops[ops.size - 2]? with
  | some F=>match F.op with | .fieldAddr _ _ _=>some F | _=>none
  | none=>none
def eW (ops:Array Oper):Nat:=if (oI ops).isSome then ops.size - 5 else ops.size - 4
def dummy (o:Oper):AO:=⟨o.dst,.mv (.c .any),none⟩
def Bz (l1:List AO) (b:List Nat):List (AO × List Nat) :=
  let d:=List.zipWith dy (l1.map fun o=>(o,[])) b
  (l1.zip d).zipIdx.map fun ((o,x),i)=>(o,if o.op.yv then ((List.range (tJ d i+1 - lD d x)).map (lD d x+·)).filter (· != wa d i) else [])
theorem Vy {l1:List AO} {b:List Nat} {i:Nat} {y:AO} (hy:l1[i]?=some y) (ag:i<(Bz l1 b).length):∃ms,(Bz l1 b)[i]?=some (y,ms):=by
  unfold Bz at ag ⊢
  simp only at ag ⊢;generalize List.zipWith dy (l1.map fun o=>(o,[])) b=d at ag ⊢;generalize hL:l1.zip d=z at ag ⊢;have hz:i<z.length:=by simpa using ag
  have e:z[i]?=some z[i]:=cc hz;have e1:z[i].1=y:=by
    subst hL;rw[Fk,hy] at e;exact(lM e.1).symm
  rw[qg,KU,e];simp only[pf,e1];exact⟨_,rfl⟩
def Rf (P:Program) (ops:Array Oper) (l:List (AO × List Nat)) (b:List Nat) (nA:Nat) (A I S O:Oper) (oF:Option Oper):Bool :=
  (tc ops l b&&P.follows .mixedOrders)&&decide (nA+(if oF.isSome then 5 else 4)=ops.size)&&((List.range nA).all fun j=>hD A j) &&
    (hD I nA&&hD S nA&&hD S (nA+1)&&hD O nA)&&(match oF with | some F=>hD F nA&&hD O (nA+3) | none=>true)
def DR (P:Program) (ops:Array Oper):Option (List (AO × List Nat) × HI) :=
  match ops[eW ops]?,ops[eW ops+1]?,ops[eW ops+2]?,ops[ops.size - 1]?,v5 P ops (ops.toList.take (eW ops)) with
  | some A, some I, some S, some O, some l0 =>
    match Hz P A I S O (oI ops) with
    | some hi =>
      if Rf P ops (Bz (l0++(ops.toList.drop (eW ops)).map dummy) (qW ops.toList [])) (qW ops.toList []) (eW ops) A I S O (oI ops)=true then
        some (Bz (l0++(ops.toList.drop (eW ops)).map dummy) (qW ops.toList []),hi) else none
    | none=>none
  | _,_,_,_,_=>none
def zO:Option Nat→V→Option V
  | none,v=>some v
  | some n,.ptr p o=>some (.ptr p (o+n))
  | some _,_=>none
def E6 (hi:HI) (K:St→Prop) (st:St):Prop :=
  ∃τ l c t' j,ev st hi.s = .sl (.tk τ) hi.k l∧ev st hi.z = .sl t' hi.k [c]∧ev st hi.len = .int j l.length∧l.length+1≤aE∧st.out.aB τ=some l.length ∧
    (ev st hi.x).wd=some hi.k∧bA (ev st hi.x).cells=true∧bd (ev st hi.x).cells=true∧hi.d9<st.t.length∧hi.d10<st.t.length∧(hi.fo.isSome=true→hi.dF<st.t.length) ∧
    ∃p,zO hi.fo (ev st hi.addr)=some p∧∃al,cr st 1 (.sl (.tk τ) hi.k (l++[aX (ev st hi.x).cells])) p=some al ∧ K ⟨al.t,al.loc,al.out.aK τ (l.length+1)⟩
structure HF (P:Program) (A I S O:Oper) (oF:Option Oper) (hi:HI):Prop where
  app:∃c t u e i z pW qa sd sJ,A.op = .call c∧c.callee = .builtin .append∧c.argTypes=#[t,u]∧c.args=#[pW,qa]∧P.underlying t=some (.slice e)∧P.underlying u=some (.slice e) ∧
    P.info? e=some i∧gW P e=some z∧i.bytes≤4096∧i.size=hi.k∧0<hi.k∧bN P t pW=some hi.s∧bN P u qa=some hi.z ∧
    I.op = .indexAddr t (.tmp hi.d9) sd∧bN P t sd=some hi.len∧S.op = .store e (.tmp hi.d10) sJ∧bN P e sJ=some hi.x
  out:∃t2 nu,O.op = .store t2 nu (.tmp hi.d9)∧cO P t2=some 1∧(match oF with
    | none=>hi.fo=none∧bN P t2 nu=some hi.addr
    | some F=>∃off,hi.fo=some off∧nu = .tmp hi.dF∧F.dst=some hi.dF∧F.guard=none∧ub P F=some (.lq off hi.addr))
  dst:A.dst=some hi.d9∧I.dst=some hi.d10∧S.dst=none∧O.dst=none
  guard:A.guard=none∧I.guard=none∧S.guard=none∧O.guard=none
  ne:hi.d9≠hi.d10∧hi.d9≠hi.dF∧hi.d10≠hi.dF
theorem af6 {P:Program} {A I S O:Oper} {oF:Option Oper} {hi:HI} (h:Hz P A I S O oF=some hi):HF P A I S O oF hi:=by
  unfold Hz at h;split at h
  case h_2=>simp at h
  rename_i c d9 t q1 sd d10 e q2 sJ t2 nu q3 e1 e2 e3 e4 e5 e6;split at h
  case h_2=>simp at h
  rename_i args J_ p1 p2 p3;split at h
  case h_2=>simp at h
  rename_i t' u pW qa e7 e8;split at h
  case h_2=>simp at h
  rename_i et eu i z g1 g2 g3 g4;split at h
  case h_2=>simp at h
  rename_i s zx len x addr fo dF k1 k2 k3 k4 k5;split at h
  case isFalse=>simp at h
  rename_i hc;obtain⟨⟨rfl,rfl,rfl,m1,m2⟩,⟨rfl,rfl,rfl,m3⟩,⟨m4,m5,m6,m7,m8,m9⟩,m10⟩:=hc;simp only[aG] at h;subst h;have ht:J_=#[t',u]:=y8 (by simpa using e7);have ha:args=#[pW,qa]:=y8 (by simpa using e8);refine⟨⟨_,t',u,_,i,z,pW,qa,sd,sJ,e1,rfl,ht,ha,g1,g2,g3,g4,m1,rfl,m2,k1,k2,e3,k3,e5,k4⟩,⟨t2,nu,e6,m3,?_⟩,⟨e2,e4,m8,m9⟩,⟨m4,m5,m6,m7⟩,m10⟩;cases oF with
  | none =>
    simp only[Hy,cf,jW] at k5;obtain⟨y,h1,rfl,rfl,rfl⟩:=k5;exact⟨rfl,h1⟩
  | some F =>
    simp only[Hy] at k5;split at k5
    case h_2=>simp at k5
    rename_i dF' p off y h1 h2;split at k5
    case isFalse=>simp at k5
    rename_i hc;simp only[aG,jW] at k5;obtain⟨rfl,rfl,rfl⟩:=k5;obtain⟨rfl,hg⟩:=hc;exact⟨off,rfl,rfl,h1,hg,h2⟩
theorem C0 {o:Oper} {j:Nat} (h:hD o j=true):∃e∈o.after,Region.binds .any e=true∧e.on=j:=by
  simp only[hD,za,bm,xq] at h;obtain⟨e,h1,h2,h3⟩:=h;exact⟨e,by simpa using h1,h2,h3⟩
theorem wc {a:Act} {d n:Nat} {v u:Value} (hd:d<a.tmps.size):(a.put (some d) v).tmps.getD n u=if n=d then v else a.tmps.getD n u:=by
  simp only[Act.put]
  by_cases h:n=d
  · subst h;simp[hd]
  · rw[ah h,mw,wI (Ne.symm h),←mw]
theorem uW {E:Env}:∀{l:List V} {vs:List Value} (n:Nat),RL E l vs→RL E (l.set n .any) vs
  | [],[],_,h=>by simpa using h
  | [],_::_,_,h=>by simp[RL] at h
  | _::_,[],_,h=>by simp[RL] at h
  | x :: xs, v :: vs, n, h => by
    simp only[RL] at h;cases n with
    | zero=>simp only[List.set_cons_zero,RL];exact⟨by simp[R],h.2⟩
    | succ n=>simp only[List.set_cons_succ,RL];exact⟨h.1,uW n h.2⟩
theorem anR {E:Env} {a:Act} {st ky kz:St} {u:Value} {y:V} {p:V} (h1:cr st 1 (.raw u) p=some ky) (h2:cr st 1 y p=some kz) (hy:R E.nl y u) (RE:y.cells=[y]) (hyE:R E y u)
    (hs:a7 E ky a):a7 E kz a:=by
  have JR:∀(cs:List V) (off:Nat) (z:V) (j:Nat),(setAt cs off [z])[j]?=if j=off then (cs[j]?).map fun _=>z else cs[j]?:=by
    intro cs;induction cs with
    | nil=>intro off z j;cases off<;>simp[setAt,over]
    | cons c cs ih =>
      intro off z j;cases off with
      | zero=>cases j<;>simp[setAt,over]<;>(cases cs<;>simp[over])
      | succ off=>cases j<;>simp[setAt,ih]
  have ann:∀(cs:List V) (off:Nat) (z:V),(setAt cs off [z]).length=cs.length:=by
    intro cs;induction cs with
    | nil=>intro off z;cases off<;>simp[setAt,over]
    | cons c cs ih=>intro off z;cases off<;>simp[setAt,over,ih]<;>(cases cs<;>simp[over])
  have box:∀(E1:Env) (b:Nat) (cs:List V) (off:Nat),R E1 y u→gx E1 b (setAt cs off [.raw u])→gx E1 b (setAt cs off [y]):=fun E1 b cs off hR ⟨c,e,k1,k2,k3⟩=>by
    refine⟨c,e,k1,by rw[ann] at k2 ⊢;exact k2,fun j x hx=>?_⟩;rw[JR] at hx
    by_cases hj:j=off
    · rw[aw hj] at hx;simp only[cf] at hx;obtain⟨z,hz,rfl⟩:=hx;obtain⟨v,hv,hr⟩:=k3 j (.raw u) (by rw[JR,aw hj,hz];rfl);simp only[R] at hr;subst hr;exact⟨v,hv,hR⟩
    · rw[ah hj] at hx;exact k3 j x (by rw[JR,ah hj];exact hx)
  cases p with
  | ptr p off =>
    cases p with
    | iB b=>simp[cr] at h1
    | loc i =>
      simp only[cr,fH] at h1 h2;obtain⟨cs,e1,e2⟩:=h1;obtain⟨cs',e3,e4⟩:=h2;rw[e1] at e3;simp only[aG] at e3;subst e3;split at e2<;>simp at e2;split at e4<;>simp at e4;subst e2 e4;refine⟨hs.ok,⟨fun j ds hj=>?_,fun j hj=>hs.bW.none j (by simpa using hj)⟩,hs.defers,hs.slot⟩;have ag:=(dj.1 e1).1
      by_cases dL:j=i
      · subst dL;simp only[KT ag,aG] at hj;subst hj;obtain⟨b,q1,q2,q3⟩:=hs.bW.box j (setAt cs off [.raw u]) (by simp[V.cells,ag]);rw[RE];exact⟨b,q1,q2,box E b cs off hyE q3⟩
      · simp only[zf (Ne.symm dL)] at hj;exact hs.bW.box j ds (by simp only[zf (Ne.symm dL)];exact hj)
    | out i =>
      simp only[cr,fH] at h1 h2;obtain⟨cs,e1,e2⟩:=h1;obtain⟨cs',e3,e4⟩:=h2;rw[e1] at e3;simp only[aG] at e3;subst e3;split at e2<;>simp at e2;split at e4<;>simp at e4;subst e2 e4;refine⟨⟨fun j ds hj=>?_,hs.ok.aB,hs.ok.fresh,hs.ok.nt,hs.ok.bH⟩,hs.bW,hs.defers,hs.slot⟩
      by_cases dL:j=i
      · subst dL;rw[ab.cH] at hj;simp only[aG] at hj;subst hj;obtain⟨q2,q3⟩:=hs.ok.box j (setAt cs off [.raw u]) (by simp[V.cells,ab.set]);rw[RE];exact⟨q2,box E.nl j cs off hy q3⟩
      · rw[ab.cN _ _ dL] at hj;exact hs.ok.box j ds (by rw[ab.cN _ _ dL];exact hj)
  | _=>simp[cr] at h1
theorem U' {st kz:St} {u:Value} {y:V} {p:V} (h2:cr st 1 y p=some kz) (hu:u.oneCell' = true):∃ky,cr st 1 (.raw u) p=some ky∧ky.t=st.t:=by
  cases p with
  | ptr p off =>
    cases p with
    | iB b=>simp[cr] at h2
    | loc i =>
      simp only[cr,fH] at h2;obtain⟨cs',e3,e4⟩:=h2;split at e4<;>simp at e4;rename_i hc;exact⟨⟨st.t,st.loc.set i (setAt cs' off (V.raw u).cells),st.out⟩,by simp only[cr,e3,rz];rw[aw ⟨hc.1,by simp[V.wd,hu],by simp[V.cells,bA,V.one,hu]⟩],rfl⟩
    | out i =>
      simp only[cr,fH] at h2;obtain⟨cs',e3,e4⟩:=h2;split at e4<;>simp at e4;rename_i hc;exact⟨⟨st.t,st.loc,st.out.set i (setAt cs' off (V.raw u).cells)⟩,by simp only[cr,e3,rz];rw[aw ⟨hc.1,by simp[V.wd,hu],by simp[V.cells,bA,V.one,hu],by simp[V.cells,bd,V.bS]⟩],rfl⟩
  | _=>simp[cr] at h2
theorem JX {st:St} {y p:V} {n τ m:Nat}:cr ⟨st.t,st.loc,st.out.aK τ m⟩ n y p=(cr st n y p).map fun s=>⟨s.t,s.loc,s.out.aK τ m⟩:=by
  cases p with
  | ptr p off =>
    cases p with
    | iB b=>simp[cr]
    | loc i =>
      simp only[cr];cases st.loc[i]? with
      | none=>rfl
      | some cs=>simp only[rz];split<;>rfl
    | out i =>
      simp only[cr];show ((st.out.box i).bind _)=_;cases st.out.box i with
      | none=>rfl
      | some cs=>simp only[rz];split<;>rfl
  | _=>rfl
theorem Va {st al : St} {y p:V} {n:Nat} (h:cr st n y p=some al):al.out.aB=st.out.aB∧al.t=st.t:=by
  cases p with
  | ptr p off =>
    cases p with
    | iB b=>simp[cr] at h
    | loc i =>
      simp only[cr,fH] at h;obtain⟨cs,_,e2⟩:=h;split at e2<;>simp at e2;subst e2;exact⟨rfl,rfl⟩
    | out i =>
      simp only[cr,fH] at h;obtain⟨cs,_,e2⟩:=h;split at e2<;>simp at e2;subst e2;exact⟨rfl,rfl⟩
  | _=>simp[cr] at h
section
variable {P:Program} {ops:Array Oper}
structure Tl (ops:Array Oper) (hi:HI) (nA τ:Nat) (l:List (List V)) (xs:List V) (p:V) (hF:Bool) (E0:Env) (tw:List V) (s1:St) (listed:Array Bool) (a:Act) (w:World):Prop where
  size:listed.size=ops.size
  pre:∀j,j≤nA→listed.getD j false=true
  rel:∃E st b cap,E.w=w∧Fr E0 E∧a7 E st a∧st.t=tw∧a.tmps.getD hi.d9 undef = .slice (some ⟨b,0,none⟩) (l.length+1) cap ∧
    (listed.getD (nA+1) false=true→a.tmps.getD hi.d10 undef = .pointer (some ⟨b,l.length*hi.k,none⟩)) ∧
    (hF=true→listed.getD (nA+3) false=true→listed.getD (ops.size - 1) false=false→R E p (a.tmps.getD hi.dF undef)) ∧
    (listed.getD (nA+2) false=false→wN E τ hi.k l b cap) ∧
    (listed.getD (nA+2) false=true→R E.nl (.sl (.tk τ) hi.k (l++[xs])) (.slice (some ⟨b,0,none⟩) (l.length+1) cap)) ∧
    (if listed.getD (ops.size - 1) false=true then cr (if listed.getD (nA+2) false=true then ⟨s1.t,s1.loc,s1.out.aK τ (l.length+1)⟩ else s1) 1 (.raw (.slice (some ⟨b,0,none⟩) (l.length+1) cap)) p=some st
      else st=if listed.getD (nA+2) false=true then ⟨s1.t,s1.loc,s1.out.aK τ (l.length+1)⟩ else s1)
theorem UT {l:List V} {n:Nat} {x:V} (h:l[n]?=some x):l.set n x=l:=by
  have:=(dj.1 h)
  obtain⟨h1,h2⟩:=this;rw[←h2,V9]
theorem uw {listed:Array Bool} {i:Nat} (hi:i<listed.size) (j:Nat):(listed.setIfInBounds i true).getD j false=if j=i then true else listed.getD j false:=by
  by_cases h:j=i
  · subst h;simp[hi]
  · rw[ah h,mw,wI (Ne.symm h),←mw]
theorem CK {st al : St} (h:st.t=al.t) (x:X):ev st x=ev al x:=by cases x<;>simp[ev,h]
structure TF (P:Program) (ops:Array Oper) (hi:HI) (nA:Nat) (hF:Bool) (τ:Nat) (l:List (List V)) (xs:List V) (p:V) (s1:St):Prop where
  hf:HF P (ops.getD nA default) (ops.getD (nA+1) default) (ops.getD (nA+2) default) (ops.getD (ops.size - 1) default) (if hF then some (ops.getD (nA+3) default) else none) hi
  size:nA+(if hF then 5 else 4)=ops.size
  eI:hD (ops.getD (nA+1) default) nA=true
  eS:hD (ops.getD (nA+2) default) nA=true∧hD (ops.getD (nA+2) default) (nA+1)=true
  eO:hD (ops.getD (ops.size - 1) default) nA=true
  eF:hF=true→hD (ops.getD (nA+3) default) nA=true∧hD (ops.getD (ops.size - 1) default) (nA+3)=true
  len:∃j,ev s1 hi.len = .int j l.length
  aB:s1.out.aB τ=some l.length
  wd:(ev s1 hi.x).wd=some hi.k
  one:bA (ev s1 hi.x).cells=true
  bS:bd (ev s1 hi.x).cells=true
  exs:xs=aX (ev s1 hi.x).cells
  d9:s1.t[hi.d9]?=some .any
  d10:s1.t[hi.d10]?=some .any
  dF:hF=true→s1.t[hi.dF]?=some .any
  lq:zO hi.fo (ev s1 hi.addr)=some p
  st:∃kz,cr s1 1 (.sl (.tk τ) hi.k (l++[xs])) p=some kz
theorem ui {ops:Array Oper} {i:Nat} {o:Oper} (h:ops[i]?=some o):ops.getD i default=o:=by simp[mw,h]
theorem By {o:Oper} {a:Act} (h:o.guard=none):Region.wanted o (yielded ops a.tmps)=true:=by simp[Region.wanted,h]
theorem an_ {hi:HI} {nA:Nat} {hF:Bool} {τ:Nat} {l:List (List V)} {xs:List V} {p:V} {s1:St} (T:TF P ops hi nA hF τ l xs p s1) {E0:Env} {Q:Exit→Act→World→Prop} {listed:Array Bool} {a:Act} {w:World}
    (h:Tl ops hi nA τ l xs p hF E0 s1.t s1 listed a w) {i:Nat} (hr:i∈Region.ready .any ops listed) {K:Act→World→Prop}
    (hK:∀a w,Tl ops hi nA τ l xs p hF E0 s1.t s1 (listed.setIfInBounds i true) a w→K a w):wpOp P ops Q i K a w:=by
  obtain⟨tR,o,ho,bT⟩:=mem_ready.1 hr;have ag:i<ops.size:=(fG.1 ho).1;have jD : i<listed.size:=by rw[h.size];exact ag
  have ym : listed.getD i false=false:=by rw[←ot _ _ jD];exact tR
  have hgt:nA<i:=by
    rcases mz nA i with hq | hq
    · exact hq
    · rw[h.pre i hq] at ym;simp at ym
  have kn:=uw jD;have j1:=ui ho;have tQ : (listed.setIfInBounds i true).size=ops.size:=by simp[h.size]
  have Dh : ∀j,j≤nA→(listed.setIfInBounds i true).getD j false=true:=fun j hj=>by rw[kn,ah (by omega)];exact h.pre j hj
  obtain⟨E,st,bk,cap,rfl,aQ,hs,dO,x7,C5,He,Da,Hl,hO⟩:=h.rel;have bK:=T.size;have Ar:s1.t.length=a.tmps.size:=by have:=dS hs.slot;rw[dO] at this;simpa using this
  have QV:hi.d9<a.tmps.size:=by rw[←Ar];exact(dj.1 T.d9).1
  have G6:hi.d10<a.tmps.size:=by rw[←Ar];exact(dj.1 T.d10).1
  have aqo:nA+2<ops.size - 1:=by rw[←bK];cases hF<;>simp<;>omega
  have jI:∀j,j≠i→(listed.setIfInBounds i true).getD j false=listed.getD j false:=fun j hj=>by rw[kn,ah hj]
  have made:(listed.setIfInBounds i true).getD i false=true:=by rw[kn,aw rfl]
  unfold wpOp;rw[ho];simp only;have Ot:∀(E' : Env) (al : St) (a:Act) (d:Nat) (v:Value),al.t=s1.t→s1.t[d]?=some .any→a7 E' al a→a7 E' al (a.put (some d) v):=fun E' al a d v e1 e2 h=>by
    have:=a7.put h (v:=.any) (x:=v) (by simp[R]) (some d)
    have e:al.put (some d) .any=al := by
      simp only[St.put];rw[e1,UT e2,←e1]
    rw[e] at this;exact this
  by_cases hI:i=nA+1
  · -- the element's address
    subst hI;obtain⟨c,t,u,e,inf,z,pW,qa,sd,sJ,_,_,_,_,q5,_,q7,_,_,wg,_,_,_,TM,q15,_,_⟩:=T.hf.app;rw[j1] at TM;have hg:=T.hf.guard.2.1;rw[j1] at hg;have jx:=T.hf.dst.2.1;rw[j1] at jx;rw[By hg,aw rfl];left;obtain⟨jk,hlen⟩:=T.len;have GI:=kr (E:=E) (st:=st) (a:=a) hs.slot q15;rw[CK dO,hlen] at GI;simp only[R] at GI;have hn:cO P e=some hi.k:=by simp[cO,q7,wg]
    have cg:(execOp a.eval o).run P E.w = .ok (.value (.pointer (some ⟨bk,l.length*hi.k,none⟩))) E.w:=by
      have afH : a.eval (.tmp hi.d9) = .slice (some ⟨bk,0,none⟩) (l.length+1) cap:=x7;simp[execOp,TM,afH,GI,Instr.indexAt,asIntOf,run_underlying q5,kX hn,jq]
    unfold Oper.wp;rw[cg];refine hK _ _ ⟨tQ,Dh,E,st,bk,cap,rfl,aQ,?_,dO,?_,?_,?_,?_,?_,?_⟩
    · rw[jx];exact Ot E st a hi.d10 _ dO T.d10 hs
    · rw[jx,wc G6,ah T.hf.ne.1];exact x7
    · intro _;rw[jx,wc G6,aw rfl]
    · intro h1 h2 h3;rw[kn,ah (by omega)] at h2;rw[jI _ (by omega)] at h3;rw[jx,wc G6,ah (Ne.symm T.hf.ne.2.2)];exact He h1 h2 h3
    · intro h1;rw[kn,ah (by omega)] at h1;exact Da h1
    · intro h1;rw[kn,ah (by omega)] at h1;exact Hl h1
    · rw[jI _ (by omega),jI _ (by omega)];exact hO
  by_cases hS:i=nA+2
  · -- the element is filled in
    subst hS;obtain⟨c,t,u,e,inf,z,pW,qa,sd,sJ,_,_,_,_,_,_,q7,_,_,wg,_,_,_,_,_,TN,q17⟩:=T.hf.app;rw[j1] at TN;have hg:=T.hf.guard.2.2.1;rw[j1] at hg;have jx:=T.hf.dst.2.2.1;rw[j1] at jx;rw[By hg,aw rfl];left;have QI : listed.getD (nA+1) false=true:=by
      have:=T.eS.2
      rw[j1] at this;obtain⟨e,h1,h2,h3⟩:=C0 this;rw[←h3];exact bT e h1 h2
    have hX:=kr (E:=E) (st:=st) (a:=a) hs.slot q17;rw[CK dO] at hX;have hn:cO P e=some hi.k:=by simp[cO,q7,wg]
    obtain⟨r1,r2⟩:=sW hX T.wd;have r3:=RL.ma (E:=E) (E' := E.nl) _ (Env.le.refl E.nl) T.bS r1;have r4:=sf r1 T.one;obtain⟨E',k1,k2,k3,k4,k5⟩:=af' (P:=P) hs (Da ym) hn (RL.erase _ r3) r2 r4;rw[←T.exs] at k4;have cg:(execOp a.eval o).run P E.w = .ok .skip E'.w:=by
      have e1:a.eval (.tmp hi.d10) = .pointer (some ⟨bk,l.length*hi.k,none⟩):=C5 QI;simp[execOp,TN,e1,Ek k1]
    unfold Oper.wp;rw[cg];show K (a.put o.dst undef) E'.w;rw[jx];have hle:E.le E' := k2.le fun j b hb=>by rw[k5];exact hb
    refine hK _ _ ⟨tQ,Dh,E',_,bk,cap,rfl,aQ.trans k2,k3,dO,x7,?_,?_,?_,?_,?_⟩
    · intro _;exact C5 QI
    · intro h1 h2 h3;rw[kn,ah (by omega)] at h2;rw[jI _ (by omega)] at h3;exact R.mono _ hle (He h1 h2 h3)
    · intro h1;rw[kn,aw rfl] at h1;simp at h1
    · intro _;exact k4
    · rw[jI (ops.size - 1) (by omega),made];rw[ym] at hO;simp only[fO,ey] at hO;simp only[dP];split at hO
      · rename_i h1;rw[aw h1,JX,hO];rfl
      · rename_i h1;rw[ah h1,hO]
  by_cases hOi:i=ops.size - 1
  · -- the list is laid down
    subst hOi;obtain⟨t2,nu,q1,q2,q3⟩:=T.hf.out;rw[j1] at q1;have hg:=T.hf.guard.2.2.2;rw[j1] at hg;have jx:=T.hf.dst.2.2.2;rw[j1] at jx;rw[By hg,aw rfl];left;rw[ym] at hO;simp only[fO,ey] at hO;have afr:R E p (a.eval nu):=by
      cases nH:hF with
      | false =>
        rw[nH] at q3;simp only[fO,ey] at q3;have jA:=T.lq;rw[q3.1] at jA;simp only[zO,aG] at jA
        have:=kr (E:=E) (st:=st) (a:=a) hs.slot q3.2
        rw[CK dO,jA] at this;exact this
      | true =>
        rw[nH] at q3;simp only[dP] at q3;obtain⟨off,_,ha,_⟩:=q3;subst ha
        have:=(T.eF nH).2
        rw[j1] at this;obtain⟨e,h1,h2,h3⟩:=C0 this;exact He nH (by rw[←h3];exact bT e h1 h2) ym
    obtain⟨kz,oJ⟩:=T.st
    let v:Value:=.slice (some ⟨bk,0,none⟩) (l.length+1) cap
    have dH:v.oneCell' = true:=rfl;obtain⟨al,AE,agh⟩:∃al,cr st 1 (.raw v) p=some al ∧ al.t=st.t:=by
      rw[hO];split
      · exact U' (by rw[JX,oJ];rfl) dH
      · exact U' oJ dH
    refine Oper.wp_mono ?_ (VL (Q:=Q) (K:=fun _ s=>s=al) hs (by omega) q1 q2 afr (ay:=.raw v) (by simp only[R];exact x7) AE rfl);rintro a' w' ⟨E',v',u',s',rfl,hH,b_,_,rfl,rfl⟩;rw[jx];simp only[Act.put];have oO:listed.getD (nA+2) false=false→E'.aB τ=some l.length:=fun hq=>by
      refine b_.ok.aB τ _ ?_;rw[(Va AE).1,hO,hq];simpa using T.aB
    refine hK _ _ ⟨tQ,Dh,E',_,bk,cap,rfl,aQ.trans hH,b_,by rw[agh,dO],x7,?_,?_,?_,?_,?_⟩
    · intro h1;rw[jI _ (by omega)] at h1;exact C5 h1
    · intro _ _ h3;rw[kn,aw rfl] at h3;simp at h3
    · intro h1;rw[jI _ (by omega)] at h1;exact(Da h1).mono hH (oO h1)
    · intro h1;rw[jI _ (by omega)] at h1;exact R.mono _ hH.nl (Hl h1)
    · rw[made,jI _ (by omega)];simp only[dP];rw[←hO];exact AE
  -- the field's address
  have nH:hF=true:=by
    cases hq:hF with
    | true=>rfl
    | false=>rw[hq] at bK;simp at bK;omega
  have hi3:i=nA+3:=by rw[nH] at bK;simp at bK;omega
  subst hi3;obtain⟨t2,nu,_,_,q3⟩:=T.hf.out;rw[nH] at q3;simp only[dP] at q3;obtain⟨off,q4,_,q5,q6,q7⟩:=q3;rw[j1] at q5 q6 q7;rw[By q6,aw rfl];left;have G7:hi.dF<a.tmps.size:=by rw[←Ar];exact(dj.1 (T.dF nH)).1
  have jA:=T.lq;rw[q4] at jA;have iG:(aq.lq off hi.addr).aL P st (fun v s=>v=p∧s=st):=by
    simp only[aq.aL];rw[CK dO];cases hq:ev s1 hi.addr<;>rw[hq] at jA<;>simp[zO] at jA ⊢;exact jA
  refine Oper.wp_mono ?_ (A1 (Q:=Q) q7 hs iG);rintro a' w' ⟨E',v',u',s',rfl,hH,b_,hv,rfl,rfl,rfl⟩;rw[q5];have oO:listed.getD (nA+2) false=false→E'.aB τ=some l.length:=fun hq=>by
    refine b_.ok.aB τ _ ?_;rw[hq] at hO;simp only[fO,ey] at hO;split at hO
    · rw[(Va hO).1];exact T.aB
    · rw[hO];exact T.aB
  refine hK _ _ ⟨tQ,Dh,E',_,bk,cap,rfl,aQ.trans hH,Ot E' _ a hi.dF _ dO (T.dF nH) b_,dO,?_,?_,?_,?_,?_,?_⟩
  · rw[wc G7,ah T.hf.ne.2.1];exact x7
  · intro h1;rw[kn,ah (by omega)] at h1;rw[wc G7,ah T.hf.ne.2.2];exact C5 h1
  · intro _ _ _;rw[wc G7,aw rfl];exact hv
  · intro h1;rw[kn,ah (by omega)] at h1;exact(Da h1).mono hH (oO h1)
  · intro h1;rw[kn,ah (by omega)] at h1;exact R.mono _ hH.nl (Hl h1)
  · have h5:nA+5=ops.size:=by rw[nH] at bK;simpa using bK
    rw[jI _ (by omega),jI _ (by omega)];exact hO
end
def y3 (fo:Option Nat) (d:Nat) (t:List V):List V:=match fo with | some _=>t.set d .any | none=>t
def ni (hi:HI) (t:List V):List V:=y3 hi.fo hi.dF ((t.set hi.d9 .any).set hi.d10 .any)
def BO (hi:HI) (K:St→Prop) (st:St):Prop:=E6 hi K ⟨ni hi st.t,st.loc,st.out⟩
theorem Oq {t:List V} {d e:Nat} (h:t[e]?=some .any):(t.set d .any)[e]?=some .any:=by
  have ag:=(dj.1 h).1
  by_cases hd:d=e
  · subst hd;simp[ag]
  · rw[zf hd];exact h
theorem FE {t:List V} {d:Nat} (h:d<t.length):(t.set d .any)[d]?=some .any:=by simp[h]
theorem Kn (hi:HI) (t:List V):(ni hi t).length=t.length:=by
  unfold ni y3;cases hi.fo<;>simp
theorem Vz {fo:Option Nat} {d e:Nat} {t:List V} (h:t[e]?=some .any):(y3 fo d t)[e]?=some .any:=by
  unfold y3;cases fo
  · exact h
  · exact Oq h
theorem ape {hi:HI} {t:List V} (h:hi.d9<t.length):(ni hi t)[hi.d9]?=some .any:=Vz (Oq (FE h))
theorem apd {hi:HI} {t:List V} (h:hi.d10<t.length):(ni hi t)[hi.d10]?=some .any:=Vz (FE (by simpa using h))
theorem apf {hi:HI} {t:List V} {off:Nat} (hf:hi.fo=some off) (h:hi.dF<t.length):(ni hi t)[hi.dF]?=some .any:=by
  unfold ni y3;rw[hf];exact FE (by simpa using h)
theorem apg {E:Env} {hi:HI} {t:List V} {us:List Value} (h:RL E t us):RL E (ni hi t) us:=by
  unfold ni y3;cases hi.fo
  · exact uW _ (uW _ h)
  · exact uW _ (uW _ (uW _ h))
theorem UN {S:Nat→Bool} {n:Nat}:∀{tr:List TR} {i:Nat},(∀j,S (i+j)=decide (i+j<n))→bG S i tr=tr.take (n - i)
  | [],i,_=>by simp[bG]
  | r :: tr, i, h => by
    have h0:=h 0;rw[qk] at h0;have ih:=UN (S:=S) (n:=n) (tr:=tr) (i:=i+1) fun j=>by
      have:=h (j+1)
      rw[show i+(j+1)=i+1+j from by omega] at this;exact this
    simp only[bG,h0]
    by_cases hi:i<n
    · simp only[hi,bQ,dP,ih];rw[show n - i=(n - (i+1))+1 from by omega,nn]
    · simp only[hi,eT,fO,ey,ih];rw[show n - (i+1)=0 from by omega,show n - i=0 from by omega];simp
theorem Un:∀{a b:List TR} {t:List V},runT (a++b) t=runT b (runT a t)
  | [],_,_=>rfl
  | r::a,b,t=>by simp only[gN,runT];exact Un
theorem Ui:∀{a b:List TR} {s:ch},cy (a++b) s=cy b (cy a s)
  | [],_,_=>rfl
  | r::a,b,t=>by simp only[gN,cy];exact Ui
theorem Um {E:Env} {us:List Value}:∀{tr:List TR} {t:List V},(∀r∈tr,r.val = .any)→RL E t us→RL E (runT tr t) us
  | [],_,_,h=>h
  | r :: tr, t, hv, h => by
    simp only[c7] at hv;simp only[runT];refine Um hv.2 ?_;cases hd:r.dst with
    | none=>exact h
    | some d=>simp only[ij,hv.1];exact uW d h
theorem Uh:∀{tr:List TR} {s:ch},(∀r∈tr,r.aR=false)→cy tr s=s
  | [],_,_=>rfl
  | r :: tr, s, h => by
    simp only[c7] at h;simp only[cy,h.1,fO,ey];exact Uh h.2
section
variable {P:Program} {ops:Array Oper}
theorem aip {l:List (AO × List Nat)} {hi:HI} (h:DR P ops=some (l,hi)) :
    ∃b,sM ops l b∧b.length=ops.size∧P.follows .mixedOrders=true∧(∀(i:Nat) o,i<eW ops→ops[i]?=some o→∃x:AO × List Nat,l[i]?=some x∧nW P ops o=some x.1) ∧
      (∀(i:Nat) o,eW ops≤i→ops[i]?=some o→∃ms,l[i]?=some (dummy o,ms)) ∧
      HF P (ops.getD (eW ops) default) (ops.getD (eW ops+1) default) (ops.getD (eW ops+2) default) (ops.getD (ops.size - 1) default) (oI ops) hi ∧
      eW ops+(if (oI ops).isSome then 5 else 4)=ops.size∧(∀j,j<eW ops→hD (ops.getD (eW ops) default) j=true) ∧
      hD (ops.getD (eW ops+1) default) (eW ops)=true∧(hD (ops.getD (eW ops+2) default) (eW ops)=true∧hD (ops.getD (eW ops+2) default) (eW ops+1)=true) ∧
      hD (ops.getD (ops.size - 1) default) (eW ops)=true∧(∀F,oI ops=some F→hD F (eW ops)=true∧hD (ops.getD (ops.size - 1) default) (eW ops+3)=true):=by
  unfold DR at h;split at h
  case h_2=>simp at h
  rename_i A I S O l0 a1 a2 a3 a4 a5;split at h
  case h_2=>simp at h
  rename_i cD afA;split at h
  case isFalse=>simp at h
  rename_i hc;simp only[aG,jW] at h;obtain⟨rfl,rfl⟩:=h;unfold Rf at hc;simp only[bm,cq] at hc;obtain⟨⟨⟨⟨⟨c1,c2⟩,c3⟩,c4⟩,c5⟩,c6⟩:=hc;rw[ui a1,ui a2,ui a3,ui a4];have hlen:=(facts c1).size;have hA:eW ops<ops.size:=(fG.1 a1).1;obtain⟨g1,g2⟩:=Iq a5;have hl0:l0.length=eW ops:=by rw[g1];simp;omega
  refine⟨_,facts c1,?_,c2,fun i o hi ho=>?_,fun i o hi ho=>?_,af6 afA,c3,fun j hj=>?_,c5.1.1.1,⟨c5.1.1.2,c5.1.2⟩,c5.2,fun F hF=>?_⟩
  · unfold tc at c1;simp only[bm,cq] at c1;exact c1.1.1.2
  · obtain⟨x,k1,k2⟩:=g2 i o (by rw[BV,aw hi];simpa using ho);obtain⟨ms,hm⟩:=Vy (l1:=l0++(ops.toList.drop (eW ops)).map dummy) (b:=qW ops.toList []) (i:=i) (y:=x) (by rw[nk (by omega)];exact k1) (by rw[hlen];omega);exact⟨_,hm,k2⟩
  · have ag:=(fG.1 ho).1;exact Vy (by rw[uQ (by omega),qg,qf,hl0,show eW ops+(i - eW ops)=i from by omega];simp[ho]) (by rw[hlen];exact ag)
  · simp only[la,uV] at c4;exact c4 j hj
  · rw[hF] at c6;simpa using c6
end
section
variable {P:Program} {ops:Array Oper}
theorem af7 (bK:eW ops+(if (oI ops).isSome then 5 else 4)=ops.size):oI ops=if (oI ops).isSome=true then some (ops.getD (eW ops+3) default) else none:=by
  cases hq:oI ops with
  | none=>rfl
  | some F =>
    rw[hq] at bK;simp only[B6,dP] at bK ⊢;unfold oI at hq;split at hq
    case h_2=>simp at hq
    rename_i F0 h0;split at hq
    · simp only[aG] at hq;subst hq;rw[ui (i:=eW ops+3) (by rw[←h0];congr 1;omega)]
    · simp at hq
theorem af_ {l:List (AO × List Nat)} {hi:HI} {id:Nat} (hl:DR P ops=some (l,hi)) {K:St→Prop} {st:St} (h:bE P l [(st.loc,st.out)] [] (BO hi K) st) :
    fL P (.region id ops true) (fun e al => e = .normal∧K al) st:=by
  obtain⟨b,F,jY,hf,lU,afI,xX,bK,eA,eI,eS,eO,eF⟩:=aip hl;have xW:=af7 bK;intro E a hs;refine wp_region_any hf ?_;obtain⟨aQ,_,km⟩:=yM hs ((Ext.refl E.w).drew);obtain⟨tr,ht,_,hK⟩:=Bv (t:=st.t) (s:=(st.loc,st.out)) h;have nJ:[(st.loc,st.out)]++gQ tr=(st.loc,st.out)::gQ tr:=rfl;rw[nJ] at ht;have hlen:=zk ht;generalize hnA:eW ops=nA at *;generalize hhF:(oI ops).isSome=hF at *;have aqh:nA+3<ops.size:=by rw[←bK];split<;>omega
  have hoA:ops[nA]?=some (ops.getD nA default):=by
    rw[fF (by omega)];simp[show nA<ops.size by omega]
  -- the tail's steps in the run say nothing
  have Ry:∀r∈tr.drop nA,r.val = .any∧r.aR=false:=fun r hr=>by
    obtain⟨j,hj⟩:=V7.1 hr;rw[qf] at hj;have vz:nA+j<ops.size:=by rw[←F.size,hlen];exact(dj.1 hj).1
    obtain⟨ms,hm⟩:=afI (nA+j) _ (by omega) (fF vz);obtain⟨_,e2,run,e3,e4,_⟩:=Cc (i:=0) (k:=nA+j) ht hm hj;simp only[dummy] at e3;subst e3;obtain⟨e5,_⟩:=e4 rfl;simp only[dummy,aq.aL,Exact,ev] at e5;exact⟨e5.1.symm,e2⟩
  have HP:∀{E' : Env} {us:List Value},RL E' (runT (tr.take nA) st.t) us→RL E' (runT tr st.t) us:=fun {E' us} h=>by
    have e:runT tr st.t=runT (tr.drop nA) (runT (tr.take nA) st.t):=by rw[←Un,my]
    rw[e];exact Um (fun r hr=>(Ry r hr).1) h
  have Ru:cy tr (st.loc,st.out)=cy (tr.take nA) (st.loc,st.out):=by
    have e:cy tr (st.loc,st.out)=cy (tr.drop nA) (cy (tr.take nA) (st.loc,st.out)):=by rw[←Ui,my]
    rw[e];exact Uh (fun r hr=>(Ry r hr).2)
  -- what the tail asks
  obtain⟨τ,ll,c,t',j,es,ez,PA,hbig,oO,qQ,dH,lV,h9,gd,QH,p,hp,kz,oJ,hKK⟩:=hK;generalize Rq:(⟨ni hi (br (runT tr st.t) (cy tr (st.loc,st.out))).t,(br (runT tr st.t) (cy tr (st.loc,st.out))).loc,(br (runT tr st.t) (cy tr (st.loc,st.out))).out⟩:St)=s1 at es ez PA oO qQ dH lV h9 gd QH hp oJ;have vD:s1.t=ni hi (runT tr st.t):=by rw[←Rq];rfl
  have Rr:s1.loc=(cy tr (st.loc,st.out)).1∧s1.out=(cy tr (st.loc,st.out)).2:=by rw[←Rq];exact⟨rfl,rfl⟩
  have qI:hF=true→∃off,hi.fo=some off:=fun hq=>by
    obtain⟨_,_,_,_,q3⟩:=xX.out;rw[xW,aw hq] at q3;obtain⟨off,h1,_⟩:=q3;exact⟨off,h1⟩
  have zX : hi.d9<(runT tr st.t).length:=by rw[vD,Kn] at h9;exact h9
  have afk : hi.d10<(runT tr st.t).length:=by rw[vD,Kn] at gd;exact gd
  have T:TF P ops hi nA hF τ ll (aX (ev s1 hi.x).cells) p s1:=by
    refine⟨by rw[xW] at xX;exact xX,bK,eI,eS,eO,fun hq=>?_,⟨j,PA⟩,oO,qQ,dH,lV,rfl,by rw[vD];exact ape zX,by rw[vD];exact apd afk,fun hq=>?_,hp,⟨kz,oJ⟩⟩
    · rw[aw hq] at xW;exact eF _ xW
    · obtain⟨off,ho⟩:=qI hq
      have:=QH (by rw[ho];rfl)
      rw[vD,Kn] at this;rw[vD];exact apf ho this
  let Q' : Exit→Act→World→Prop:=fun e a' w' => ∃E' al,E'.w=w' ∧ a7 E' al a' ∧ Fr E E' ∧ e = .normal∧K al
  -- the end
  have fin:∀(listed:Array Bool) (a:Act) (w:World),Tl ops hi nA τ ll (aX (ev s1 hi.x).cells) p hF E s1.t s1 listed a w→(∀j,j<ops.size→listed.getD j false=true)→Q' .normal a w:=fun listed a w h bT=>by
    obtain⟨E',al,bk,cap,h1,h2,h3,h4,_,_,_,_,h5,h6⟩:=h.rel;rw[bT _ (by omega),bT _ (by omega)] at h6;simp only[dP] at h6;have h5:=h5 (bT _ (by omega));have agi : cr ⟨s1.t,s1.loc,s1.out.aK τ (ll.length+1)⟩ 1 (.sl (.tk τ) hi.k (ll++[aX (ev s1 hi.x).cells])) p=some ⟨kz.t,kz.loc,kz.out.aK τ (ll.length+1)⟩:=by rw[JX,oJ];rfl
    have h7:R E' (.sl (.tk τ) hi.k (ll++[aX (ev s1 hi.x).cells])) (.slice (some ⟨bk,0,none⟩) (ll.length+1) cap):=by
      simp only[R] at h5 ⊢;exact h5
    exact⟨E',_,h1,anR h6 agi h5 rfl h7 h3,h2,rfl,hKK⟩
  have Ha:∀(listed:Array Bool) (i:Nat),listed.size=ops.size→i∈Region.ready .any ops listed→∀fuel,listed.toList.count false≤fuel+1→(listed.setIfInBounds i true).toList.count false≤fuel:=fun listed i bK hi fuel hc=>by
    obtain⟨h1,o,ho,_⟩:=mem_ready.1 hi;have ag:i<listed.size:=by rw[bK];exact(fG.1 ho).1
    have e:listed.toList[i]?=some false:=by
      have:listed[i]?=some false:=by
        rw[fF ag];simpa [ag] using h1
      simpa using this
    have:=count_set listed.toList i e
    simp only[EV];omega
  have C7:∀(listed:Array Bool),listed.size=ops.size→Region.ready .any ops listed=[]→∀n j,j<n→j<ops.size→listed.getD j false=true:=fun listed bK hr n=>by
    induction n with
    | zero=>intro j h;omega
    | succ n ih =>
      intro j hj fz;cases hq:listed.getD j false with
      | true=>rfl
      | false =>
        have:j∈Region.ready .any ops listed:=mem_ready.2 ⟨by rw[ot _ _ (by rw[bK];exact fz)];exact hq,ops[j],fF fz,fun e he hb=>by
          have:=F.back j _ (fF fz) e he hb
          exact ih e.on (by omega) (by omega)⟩
        rw[hr] at this;simp at this
  have hzero:∀(listed:Array Bool),listed.size=ops.size→listed.toList.count false≤0→Region.ready .any ops listed=[]:=fun listed bK hc=>by
    cases hq:Region.ready .any ops listed with
    | nil=>rfl
    | cons j js =>
      obtain⟨h1,o,ho,_⟩:=mem_ready.1 (show j∈Region.ready .any ops listed by rw[hq];simp);have ag:j<listed.size:=by rw[bK];exact(fG.1 ho).1
      have:false∈listed.toList:=by
        have e:listed[j]?=some false:=by
          rw[fF ag];simpa [ag] using h1
        exact wP (by simpa using e)
      have:=KM.2 this
      omega
  -- the tail,in every order
  have tail:∀(fuel:Nat) (listed:Array Bool) (a:Act) (w:World),Tl ops hi nA τ ll (aX (ev s1 hi.x).cells) p hF E s1.t s1 listed a w→listed.toList.count false≤fuel→wpAny P .any ops Q' fuel listed a w:=by
    intro fuel;induction fuel with
    | zero =>
      intro listed a w h hc;have hr:=hzero listed h.size hc;exact⟨hr,fin listed a w h fun j hj=>C7 listed h.size hr (j+1) j (by omega) hj⟩
    | succ fuel ih =>
      intro listed a w h hc;refine⟨fun hr=>fin listed a w h fun j hj=>C7 listed h.size hr (j+1) j (by omega) hj,fun i cD => ?_⟩;exact an_ T h cD fun a w h' => ih _ a w h' (Ha listed i h.size cD fuel hc)
  -- what comes before
  have key:∀(fuel:Nat) (listed:Array Bool) (a:Act) (w:World),uJ ops tr st.t (st.loc,st.out) E (fun _ _ _=>True) listed a w→(∀j,nA≤j→listed.getD j false=false)→listed.toList.count false≤fuel→wpAny P .any ops Q' fuel listed a w:=by
    intro fuel;induction fuel with
    | zero =>
      intro listed a w h hn hc;have hr:=hzero listed h.size hc
      have:=C7 listed h.size hr (nA+1) nA (by omega) (by omega)
      rw[hn nA (bt _)] at this;simp at this
    | succ fuel ih =>
      intro listed a w h hn hc;refine⟨fun hr=>?_,fun i cD => ?_⟩
      · have:=C7 listed h.size hr (nA+1) nA (by omega) (by omega)
        rw[hn nA (bt _)] at this;simp at this
      obtain⟨tR,o,ho,bT⟩:=mem_ready.1 cD;have afS:i<ops.size:=(fG.1 ho).1;have vw : i<listed.size:=by rw[h.size];exact afS
      rcases zh i nA with ag | rfl | hgt
      · refine F8 F jY rfl ht h cD (fun o ho=>let ⟨x,h1,h2⟩:=lU i o ag ho;⟨x,h1,.inl ⟨h2,fun _ _ _ _ _ _ _=>trivial⟩⟩) fun a w h' => ih _ a w h' (fun j hj=>?_) (Ha listed i h.size cD fuel hc)
        rw[uw vw,ah (by omega)];exact hn j hj
      · -- the row grows
        have j1:=ui ho;have qN:∀j,j<i→listed.getD j false=true:=fun j hj=>by
          have:=eA j hj
          rw[j1] at this;obtain⟨e,h1,h2,h3⟩:=C0 this;rw[←h3];exact bT e h1 h2
        obtain⟨E1,rfl,b_,tG,_⟩:=h.rel;have hS:∀j,(fun j=>listed.getD j false) (0+j)=decide (0+j<i):=fun j=>by
          rw[gh]
          by_cases hj:j<i
          · simp only[hj,bQ];exact qN j hj
          · simp only[hj,eT];exact hn j (by omega)
        rw[UN hS,Nat.sub_zero] at b_;have AB:a7 E1 s1 a:=by
          refine⟨?_,?_,b_.defers,?_⟩
          · rw[Rr.2,Ru];exact b_.ok
          · rw[Rr.1,Ru];exact b_.bW
          · rw[vD];exact apg (HP b_.slot)
        obtain⟨c',t,u,e,inf,z,pW,qa,sd,sJ,q1,q2,q3,q4,q5,q6,q7,q8,q9,wg,q11,q12,q13,_⟩:=xX.app;rw[j1] at q1;have hg:=xX.guard.1;rw[j1] at hg;have jx:=xX.dst.1;rw[j1] at jx;unfold wpOp;rw[ho];simp only;rw[By hg,aw rfl];left;have cg:(execOp a.eval o).run P E1.w=((Builtin.append_ #[t,u] o.type #[a.eval pW,a.eval qa]).run P E1.w).andThen fun v w' => .ok (.value v) w' := by
          simp[execOp,q1,q2,q3,q4,resolve,invoke,builtin]
        have QP:=kr (E:=E1) (st:=s1) (a:=a) AB.slot q12;have QT:=kr (E:=E1) (st:=s1) (a:=a) AB.slot q13;rw[es] at QP;rw[ez] at QT;obtain⟨news,r1,r2,r3,r4⟩:=Eu (P:=P) q6 QT;obtain⟨i',zv,k1,k2,k3,k4⟩:=o_ q8;rw[q7] at k1;simp only[aG] at k1;subst k1;have gf:zv.cells.size=inf.size:=by have:=dS (nz (E:=E1) k3);simp at this;omega
        obtain⟨bk,cap,E2,m1,m2,m3,m4,m5⟩:=af8 (P:=P) AB q5 q7 k2 gf q9 cg (by rw[wg];exact QP) (by rw[wg];exact r1) r3 hbig (AB.ok.aB τ _ oO);unfold Oper.wp;rw[m2];have Ar:s1.t.length=a.tmps.size:=by have:=dS AB.slot;simpa using this
        have QV:hi.d9<a.tmps.size:=by rw[←Ar];exact h9
        refine tail fuel _ _ _ ⟨by simp[h.size],fun j hj=>?_,E2,s1,bk,cap,rfl,tG.trans m3,?_,rfl,?_,?_,?_,?_,?_,?_⟩ (Ha listed i h.size cD fuel hc)
        · rw[uw vw];split
          · rfl
          · exact qN j (by omega)
        · rw[jx]
          have:=a7.put m4 (v:=.any) (x:=.slice (some ⟨bk,0,none⟩) (ll.length+1) cap) (by simp[R]) (some hi.d9)
          have e:s1.put (some hi.d9) .any=s1:=by
            simp only[St.put];rw[UT T.d9]
          rw[e] at this;exact this
        · rw[jx,wc QV,aw rfl]
        · intro h1;rw[uw vw,ah (by omega),hn _ (by omega)] at h1;simp at h1
        · intro _ h1;rw[uw vw,ah (by omega),hn _ (by omega)] at h1;simp at h1
        · intro _;rw[←wg];exact m1
        · intro h1;rw[uw vw,ah (by omega),hn _ (by omega)] at h1;simp at h1
        · have z1:(listed.setIfInBounds i true).getD (ops.size - 1) false=false:=by rw[uw vw,ah (by omega)];exact hn _ (by omega)
          have z2:(listed.setIfInBounds i true).getD (i+2) false=false:=by rw[uw vw,ah (by omega)];exact hn _ (by omega)
          rw[z1,z2];simp
      · exfalso
        have j1:=ui ho;have afK:hD o nA=true:=by
          rw[←j1]
          by_cases h1:i=nA+1
          · rw[h1];exact eI
          by_cases h2:i=nA+2
          · rw[h2];exact eS.1
          by_cases h3:i=ops.size - 1
          · rw[h3];exact eO
          have nH:hF=true:=by
            cases hq:hF with
            | true=>rfl
            | false=>rw[hq] at bK;simp at bK;omega
          have h4:i=nA+3:=by rw[nH] at bK;simp at bK;omega
          rw[aw nH] at xW;rw[h4];exact(eF _ xW).1
        obtain⟨e,h1,h2,h3⟩:=C0 afK
        have:=bT e h1 h2
        rw[h3,hn nA (bt _)] at this;simp at this
  have pD:∀j,(Array.replicate ops.size false).getD j false=false:=fun j=>by
    by_cases hj:j<ops.size<;>simp[hj]
  have kQ:∀(tr:List TR) (q:Nat),bG (fun j=>(Array.replicate ops.size false).getD j false) q tr=[]:=by
    intro tr;induction tr with
    | nil=>intro q;rfl
    | cons r tr ih=>intro q;rw[bG,ah (by rw[pD];simp)];exact ih _
  refine key ops.size _ a _ ⟨by simp,fun i o _ hi=>by rw[pD] at hi;simp at hi,{E with w:=E.w.drew},rfl,?_,aQ,trivial⟩ (fun j _=>pD j) (by simp);rw[kQ];exact km
end
section
variable {P:Program} {E:Env} {st:St} {a:Act} {o:Oper} {K:V→St→Prop} {Q:Exit→Act→World→Prop}
def Env.ew (E:Env) (b:Nat):Env:={E with role:=fun x=>if x=b then .const else E.role x}
theorem Qo {b:Nat} {cs:List V} (hs:a7 E st a) (hb:st.out.box b=some cs) :
    Fr E (E.ew b)∧a7 (E.ew b) ⟨st.t,st.loc,st.out.del b⟩ a∧∀(j:Nat) x,cs[j]?=some x→∃v,(E.ew b).w.cell? ⟨b,j,none⟩=some v∧((E.ew b).role b).fp j∧R (E.ew b).nl x v:=by
  obtain⟨cu,c,e,hc,hlen,lx⟩:=hs.ok.box b cs hb;have hc:E.w.heap[b]?=some (.cells c e (0,0)):=hc;have aH:∀b',E.role b' ≠ .mb→b' ≠ b:=fun b' h e=>h (by rw[e];exact cu)
  have jG:∀b',b' ≠ b→(E.ew b).role b' = E.role b' := fun b' h=>by simp[Env.ew,h]
  have ag:=iK (w:=E.w) hc;have aQ:Fr E (E.ew b):=by
    refine⟨rfl,rfl,rfl,bt _,fun _=>rfl,fun b' o c' tC hv=>?_,fun t n h=>⟨n,h,bt _,fun _ b' c' hr=>⟨?_,fun cs e hcs=>⟨cs,hcs,rfl⟩⟩⟩,fun b' _ hr=>⟨rfl,?_⟩,fun b' _ h=>?_,fun b' t c' _ h=>?_,fun b' i _ h=>?_,fun b' c' e h=>⟨c',h,rfl⟩⟩
    · have:b' ≠ b:=aH b' (fun e=>by rw[e] at tC;exact tC)
      exact⟨by rw[jG b' this];exact tC,hv⟩
    · rw[jG b' (aH b' (by rw[hr];simp))];exact hr
    · rw[jG b' (aH b' (by rcases hr with h | h<;>rw[h]<;>simp))]
    · by_cases e:b' = b
      · rw[e];exact .inl cu
      · rw[jG _ e] at h;exact .inl h
    · by_cases e:b' = b
      · rw[e] at h;simp[Env.ew] at h
      · rw[jG _ e] at h;exact⟨c',h⟩
    · by_cases e:b' = b
      · rw[e] at h;simp[Env.ew] at h
      · rw[jG _ e] at h;exact⟨i,h⟩
  have hle:E.le (E.ew b):=aQ.le fun i b h=>h
  refine⟨aQ,⟨⟨fun b' cs' h=>?_,hs.ok.aB,fun b' bl => ?_,hs.ok.nt,fun b cs hc=>cJ.mono _ aQ.nl (hs.ok.bH b cs hc)⟩,mc hs.bW hle (fun b' i h _=>⟨by rw[jG b' (aH b' (by rw[h];simp))];exact h,rfl⟩) hs.bW.none,hs.defers,RL.mono _ hle hs.slot⟩,fun j x hx=>?_⟩
  · simp only[ab.del] at h;split at h
    · simp at h
    · rename_i vB;obtain⟨h1,h2⟩:=hs.ok.box b' cs' h;exact⟨by rw[jG b' vB];exact h1,gx.mono hle.nl rfl h2⟩
  · have bl : E.w.heap.size≤b' := bl;rw[jG b' (by omega)];exact hs.ok.fresh b' bl
  · obtain⟨v,hv,hr⟩:=lx j x hx;refine⟨v,?_,by simp[Env.ew,dm.fp],R.mono x aQ.nl hr⟩;show E.w.cell? ⟨b,j,none⟩=some v;simp[World.cell?,hc,hv]
def kZ (s:List UInt8):List Value:=s.map fun b=>Value.int .u8 b.toNat
theorem TW {σ:ab} {base:Option Addr} {n:Nat} {s:List UInt8} (bw:E.ok σ) (h:Bg σ base n s) {w0:World} (hw:w0.heap=E.w.heap) :
    n=0∧s=[]∨∃b off,base=some ⟨b,off,none⟩∧(loadCells ⟨b,off,none⟩ n).run P w0 = .ok (kZ s).toArray w0:=by
  obtain⟨hl,h⟩:=h
  rcases h with rfl | ⟨b,off,cs,rfl,hb,hcs⟩
  · exact .inl ⟨rfl,uT.1 hl⟩
  · right;obtain⟨_,c,e,hc,hlen,lx⟩:=bw.box b cs hb;have hc:w0.heap[b]?=some (.cells c e (0,0)):=by rw[hw];exact hc
    refine⟨b,off,rfl,?_⟩
    have:=run_loadCells_list (P:=P) w0 ⟨b,off,none⟩ (kZ s) (fun j u hu=>by
      rw[jq];simp only[kZ,qg,cf] at hu;obtain⟨x,hx,rfl⟩:=hu;have hj:j<n:=by rw[←hl];exact(dj.1 hx).1
      have hcj:cs[off+j]?=some (.int .u8 x.toNat):=by
        have:=gj (fun l:List V=>l[j]?) hcs
        simp only[qg,hx,pf,uS hj,qf] at this;exact this
      obtain⟨v,h1,h2⟩:=lx (off+j) _ hcj;simp only[R] at h2;simp[World.cell?,hc,h1,h2])
    rw[show (kZ s).length=n by simp[kZ,hl]] at this;exact this
theorem anL {base:Option Addr} {n cap:Nat} {s:List UInt8} (bw:E.ok st.out) (h:Bg st.out base n s) {u e:TypeId} (hu:P.underlying u=some (.slice e)) :
    Src P E.w 1 (b6 s).length u (.slice base n cap) (kZ s)∧RL E.nl (b6 s).flatten (kZ s)∧(∀v∈kZ s,v.oneCell' = true)∧∀y∈b6 s,y.length=1:=by
  have hl:=h.1;have hlen:(b6 s).length=n:=by simp[b6,hl]
  have cell:∀w0:World,w0.heap=E.w.heap→(Builtin.firstCells 1 n (.slice base n cap)).run P w0 = .ok (kZ s).toArray w0:=fun w0 hw=>by
    rcases TW (P:=P) bw h hw with ⟨rfl,rfl⟩ | ⟨b,off,rfl,hr⟩
    · cases base<;>simp[Builtin.firstCells,loadCells,loadCellsFrom,kZ]
    · simp only[Builtin.firstCells,og];exact hr
  refine⟨⟨⟨_,hu,fun _ h=>by simp at h⟩,fun w' => by simp[Builtin.lenOf,hlen],?_,?_,by simp[kZ,b6]⟩,?_,?_,?_⟩
  · rw[hlen];exact cell E.w rfl
  · rw[hlen];exact cell E.w.drew rfl
  · rw[zI];clear hl hlen cell h;induction s with
    | nil=>simp[RL,kZ]
    | cons b s ih=>simp only[bL,RL,R,kZ] at ih ⊢;exact⟨trivial,ih⟩
  · intro v hv;simp only[kZ,qh] at hv;obtain⟨b,_,rfl⟩:=hv;rfl
  · intro y hy;simp only[b6,qh] at hy;obtain⟨b,_,rfl⟩:=hy;rfl
theorem amT {t:TypeId} {lo hi:Option Operand} {kq cD : Option X} (hs:a7 E st a) (h1:iJ P t lo=some kq) (h2:iJ P t hi=some cD) {len m n:Nat}
    (cG:match (generalizing:=false) kq with | none=>m=0 | some y=>∃j,ev st y = .int j m) (kj:match (generalizing:=false) cD with | none=>n=len | some y=>∃j,ev st y = .int j n) (pC:m≤n) (mM:n≤len) :
    (Instr.sliceBounds false len len (lo.map a.eval) (hi.map a.eval) none).run P E.w = .ok (m,n,len) E.w:=by
  rcases jJ (E:=E) hs.slot h2 with ⟨rfl,rfl⟩ | ⟨u,v,rfl,rfl,hr⟩
  · simp only at kj;subst kj
    rcases jJ (E:=E) hs.slot h1 with ⟨rfl,rfl⟩ | ⟨u',v',rfl,rfl,bF⟩
    · simp only at cG;subst cG;simp[Instr.sliceBounds]
    · obtain⟨j',gl⟩:=cG;rw[gl] at bF;simp only[R] at bF;have e2:=mY (P:=P) (w:=E.w) (j:=j') (c:=.sliceB) pC;simp[Instr.sliceBounds,bF,e2]
  · obtain⟨j,hj⟩:=kj;rw[hj] at hr;simp only[R] at hr;have e2:=mY (P:=P) (w:=E.w) (j:=j) (c:=.sliceAlen) mM
    rcases jJ (E:=E) hs.slot h1 with ⟨rfl,rfl⟩ | ⟨u',v',rfl,rfl,bF⟩
    · simp only at cG;subst cG;simp[Instr.sliceBounds,hr,e2]
    · obtain⟨j',gl⟩:=cG;rw[gl] at bF;simp only[R] at bF;have e3:=mY (P:=P) (w:=E.w) (j:=j') (c:=.sliceB) pC;simp[Instr.sliceBounds,hr,bF,e2,e3]
def Iv (P:Program) (o:Oper):Option aq :=
  match o.op with
  | .slice t x lo hi none =>
    match bN P t x,iJ P t lo,iJ P t hi with
    | some y, some kq, some cD =>
      match P.underlying t with
      | some (.array m e)=>(cO P e).map fun k=>.own (.Er m k kq.isSome cD.isSome) (y::(kq.toList++cD.toList))
      | some (.slice e)=>if cO P e=some 1 then some (.own (.ew 1 kq.isSome cD.isSome) (y::(kq.toList++cD.toList))) else none
      | _=>none
    | _,_,_=>none
  | .buildSlice t len ps =>
    match P.underlying t with
    | some (.slice e) =>
      match cO P e,gW P e,gq P (List.replicate len e) (ps.toList.map (·.2)) with
      | some k,some _,some xs=>if ps.toList.map (·.1)=List.range len∧len*k≤16777216 then some (.own (.new k) xs) else none
      | _,_,_=>none
    | _=>none
  | .convert src dst x =>
    match P.underlying src,P.underlying dst,bN P src x with
    | some (.slice e),some .string,some y=>match P.underlying e with | some (.int .u8)=>some (.own .zB [y]) | _=>none
    | _,_,_=>none
  | .call c =>
    match c.callee with
    | .builtin .append =>
      match c.argTypes.toList,c.args.toList with
      | [t, u], [s, x] =>
        match P.underlying t,bN P t s,bN P u x with
        | some (.slice e), some s', some x' =>
          match P.info? e,gW P e with
          | some i, some _ =>
            if i.size=1∧i.bytes≤4096 then
              match P.underlying u with
              | some .string=>some (.own .jr [s',x'])
              | some (.slice _)=>some (.own .zn [s',x'])
              | _=>none
            else none
          | _,_=>none
        | _,_,_=>none
      | _,_=>none
    | _=>none
  | _=>none
theorem apz (hs:a7 E st a) {t e:TypeId} {len k:Nat} {parts:Array (Nat × Operand)} {z:List V} (ho:o.op = .buildSlice t len parts) (ht:P.underlying t=some (.slice e)) (hn:cO P e=some k) (hz:gW P e=some z)
    (hr:parts.toList.map (·.1)=List.range len) (bK:len*k≤16777216) {l:List (List V)}
    (hf:(parts.toList.map (·.2)).length=len∧l.length=len∧(∀x∈parts.toList.map (·.2),(a.eval x).cells.size=k)∧(∀y∈l,y.length=k)∧RL E.nl l.flatten ((parts.toList.map (·.2)).map fun x=>(a.eval x).cells.toList).flatten∧∀v∈((parts.toList.map (·.2)).map fun x=>(a.eval x).cells.toList).flatten,v.oneCell' = true)
    (hk:∀b,st.out.box b=none→K (V.raw (.slice (some ⟨b,0,none⟩) l.length l.length)) ⟨st.t,st.loc,st.out.set b l.flatten⟩):o.wp P a E.w (cI E a o.dst K) Q:=by
  obtain⟨k1,k2,k3,k4,k5,k6⟩:=hf;obtain⟨i,zv,h1,h2,h3,h4⟩:=o_ hz;have hlen:parts.toList.length=len:=by simpa using k1
  let ps:List (Nat × Value):=parts.toList.map fun (i,x)=>(i,a.eval x)
  have HD:ps.map (·.1)=List.range' 0 ps.length:=by
    have:ps.map (·.1)=parts.toList.map (·.1):=by simp[ps,rr]
    rw[this,hr,qi];congr 1;simp[ps];simpa using hlen.symm
  have HE:(ps.map fun p=>p.2.cells.toList)=(parts.toList.map (·.2)).map fun x=>(a.eval x).cells.toList:=by simp[ps,rr]
  have bT:∀p∈ps,p.2.cells.size=k:=fun p hp=>by
    simp only[ps,qh] at hp;obtain⟨q,hq,rfl⟩:=hp;exact k3 q.2 (qh.2 ⟨q,hq,rfl⟩)
  have lA:ps.length=len:=by simp[ps];simpa using hlen
  have fill:∀cells:Array Value,cells.size=len*k→Instr.fill (fun i=>some (i*k,k)) cells ps=some ((parts.toList.map (·.2)).map fun x=>(a.eval x).cells.toList).flatten.toArray:=fun cells hc=>by
    have:=Gj ps 0 cells HD bT (by rw[lA];simpa using hc)
    rw[this,HE];simp
  generalize oG:((parts.toList.map (·.2)).map fun x=>(a.eval x).cells.toList).flatten=news at fill k5 k6;refine Ks hs (w1:=E.w) (Ext.refl _) rfl (x:=.slice (some ⟨E.w.heap.size,0,none⟩) len len) (v:=fun b=>.raw (.slice (some ⟨b,0,none⟩) l.length l.length)) (zs:=l.flatten) (c:=news.toArray) (e:=e) ?_ (by simpa using k5) (by simp only[R,k2]) rfl hk;have gf:(zeroValue e).run P E.w = .ok zv E.w:=by simp[zeroValue,typeInfo,h1,h2]
  have Ay:(parts.map fun (i,x)=>(i,a.eval x)).toList=ps:=by simp[ps]
  have tQ : ¬(16777216<len*k):=by omega
  simp only[execOp,ho,Sem.run_bind];have key:(Instr.buildSlice t len (parts.map fun (i,x)=>(i,a.eval x))).run P E.w = .ok (.slice (some ⟨E.w.heap.size,0,none⟩) len len) (E.w.alloc (.cells news.toArray e)):=by
    unfold Instr.buildSlice;simp only[Sem.run_bind,run_underlying ht,Result.andThen_ok,kX hn];rw[ah (by simpa using tQ)];rw[Ay]
    by_cases h0:len*k=0
    · rw[aw h0];simp only[Sem.run_bind,Sem.run_pure,Result.andThen_ok];rw[fill _ (by simp)];simp[newRow]
    · rw[ah h0];simp only[Sem.run_bind,gf,Result.andThen_ok,Sem.run_pure];rw[fill _ (by simp)];simp[newRow]
  rw[key];rfl
theorem akv {ao:aq} (hl:Iv P o=some ao) (hs:a7 E st a) (h:ao.aL P st K):o.wp P a E.w (cI E a o.dst K) Q:=by
  have X:=fun {t:TypeId} {x:Operand} {y:X} (hx:bN P t x=some y)=>kr (E:=E) (st:=st) (a:=a) hs.slot hx
  unfold Iv at hl;split at hl
  · rename_i t x lo hi ho;split at hl
    case h_2=>simp at hl
    rename_i y kq cD h1 h2 h3;have hx:=X h1;split at hl
    · rename_i m e ht;simp only[cf] at hl;obtain⟨k,hk,rfl⟩:=hl;simp only[aq.aL,b9] at h;unfold OQ.aL at h;split at h<;>try (exfalso;simp_all;done)
      · rename_i m0 k0 b1 b2 b off vs e1 e2;simp only[OQ.Er.injEq] at e1;obtain⟨rfl,rfl,rfl,rfl⟩:=e1;simp only[eP] at e2;obtain⟨e2,rfl⟩:=e2;rw[e2] at hx;simp only[R] at hx;rw[CL] at h;obtain⟨l,h,g1⟩:=u5 h;rw[←dD (b9 st cD.toList)] at h;obtain⟨hh,h,g2⟩:=u5 h;obtain⟨_,k1,k2,h⟩:=h;have hb:=amT (P:=P) hs h2 h3 g1 g2 k1 k2;refine b8 hs (v:=.raw _) (x:=.slice (some (if m=l then ⟨b,off,none⟩ else ⟨b,off+l*k,none⟩)) (hh - l) (m - l)) ?_ (by simp only[R]) h;simp only[execOp,ho,Sem.run_bind,hx];simp[Instr.sliceAt,run_underlying ht,Instr.sureAddr,hb,kX hk,jq]
    · rename_i e ht;split at hl
      case isFalse=>simp at hl
      rename_i hk;simp only[aG] at hl;subst hl;simp only[aq.aL,b9] at h;unfold OQ.aL at h;split at h<;>try (exfalso;simp_all;done)
      · rename_i k0 b1 b2 b off n cap vs e1 e2;simp only[OQ.ew.injEq] at e1;obtain⟨rfl,rfl,rfl⟩:=e1;simp only[eP] at e2;obtain⟨e2,rfl⟩:=e2;rw[e2] at hx;simp only[R] at hx;rw[CL] at h;obtain⟨l,h,g1⟩:=u5 h;rw[←dD (b9 st cD.toList)] at h;obtain⟨hh,h,g2⟩:=u5 h;obtain⟨_,k1,k2,_,cs,rT,hlen,dH,lV,h⟩:=h;have hb:=JB (P:=P) (mx:=none) (mx' := none) (M:=cap) hs h2 h3 rfl (by simp) g1 g2 rfl k1 k2 (bt _);obtain⟨hf,b_,hc⟩:=Qo hs rT;unfold Oper.wp;rw[show (execOp a.eval o).run P E.w = .ok (.value (.slice (if cap=l then some ⟨b,off,none⟩ else some ⟨b,off+l,none⟩) (hh - l) (cap - l))) E.w by
          simp only[execOp,ho,Sem.run_bind,hx];simp only[B7] at hb;simp[Instr.sliceAt,run_underlying ht,Instr.slice,hb,kX hk,jq]]
        refine⟨E.ew b,_,_,⟨st.t,st.loc,st.out.del b⟩,rfl,hf,b_,?_,rfl,h⟩;have dp:(xr (((cs.drop off).take hh).drop l)).length=hh - l:=by simp[xr];omega
        simp only[R];refine⟨_,_,by rw[dp],by rw[dp];omega,?_,trivial⟩
        by_cases hz:hh=l
        · left;exact uT.1 (by rw[dp];omega)
        · right;refine⟨b,off+l,by rw[ah (by omega)],?_⟩;have key:∀(xs:List V) (p:Nat),(∀(j:Nat) x,xs[j]?=some x→cs[p+j]?=some x)→bA xs=true→dE (E.ew b).nl 1 (xr xs) b p:=by
            intro xs;induction xs with
            | nil=>intro p _ _;simp[xr,dE]
            | cons x xs ih =>
              intro p hp Av;simp only[bA,bm] at Av;simp only[xr,bL,dE,cJ];obtain⟨v,v1,v2,v3⟩:=hc p x (by have:=hp 0 x rfl;simpa using this);refine⟨rfl,⟨⟨v,v1,v2,sf (E:=(E.ew b).nl) (xs:=[x]) (vs:=[v]) (by simp only[RL];exact⟨v3,trivial⟩) (by simp[bA,Av.1]) v (by simp),by simpa using v3⟩,trivial⟩,?_⟩;refine ih (p+1) (fun j y hy=>?_) Av.2
              have:=hp (j+1) y (by simpa using hy)
              rwa [show p+1+j=p+(j+1) by omega]
          refine key _ _ (fun j x gS => ?_) dH;rw[qf,uS (by
            have:=(dj.1 gS).1
            simp at this;omega),qf] at gS
          rwa [show off+l+j=off+(l+j) by omega]
    · simp at hl
  · rename_i t len ps ho;split at hl
    case h_2=>simp at hl
    rename_i e ht;split at hl
    case h_2=>simp at hl
    rename_i k z xs hk hz kp;split at hl
    case isFalse=>simp at hl
    rename_i hc;simp only[aG] at hl;subst hl;simp only[aq.aL] at h;unfold OQ.aL at h;split at h<;>try (exfalso;simp_all;done)
    · rename_i k0 vs e1;simp only[OQ.new.injEq] at e1;subst e1;obtain⟨l,h1,mM,h2⟩:=h;exact apz hs ho ht hk hz hc.1 hc.2 (H' (E:=E) hs.slot kp h1) h2
  · rename_i src dst x ho;split at hl
    case h_2=>simp at hl
    rename_i e y h1 h2 h3;split at hl
    case h_2=>simp at hl
    rename_i h4;simp only[aG] at hl;subst hl;have hx:=X h3;simp only[aq.aL,b9] at h;unfold OQ.aL at h;split at h<;>try (exfalso;simp_all;done)
    · rename_i base n cap e1 e2;simp only[eP,eC] at e2;rw[e2] at hx;simp only[R] at hx;obtain⟨s,ht,h⟩:=h;refine b8 hs (v:=.str s) (x:=.string ⟨s.toArray⟩) ?_ (by simp only[R]) h;have key:(Conv.bytesToString (a.eval x)).run P E.w = .ok (.string ⟨s.toArray⟩) E.w:=by
        rw[hx]
        rcases TW (P:=P) hs.ok ht rfl with ⟨rfl,rfl⟩ | ⟨b,off,rfl,hr⟩
        · cases base with
          | none=>simp[Conv.bytesToString];rfl
          | some ad =>
            have:=run_bytesToString (P:=P) E.w ad 0 cap [] (by simp[loadCells,loadCellsFrom])
            simp at this ⊢;exact this
        · rw[show kZ s=(s.map fun b=>(b.toNat:Int)).map (Value.int .u8) by simp[kZ]] at hr
          have:=run_bytesToString (P:=P) E.w ⟨b,off,none⟩ n cap _ hr
          rw[this];have hp:=Jh s [];simp only[iS] at hp;exact gj (fun z=>Result.ok (Value.string z) E.w) hp
      rw[hx] at key;simp only[execOp,ho,Sem.run_bind,hx];simp[convert,run_underlying h1,run_underlying h2,run_underlying h4,key]
  · rename_i c ho;obtain⟨callee,args,argTypes⟩:=c;simp only at hl;split at hl
    · split at hl
      case h_2=>simp at hl
      rename_i t u s x ht hx;have e1:argTypes=#[t,u]:=by cases argTypes;simpa using ht
      have e2:args=#[s,x]:=by cases args;simpa using hx
      subst e1;subst e2;split at hl
      case h_2=>simp at hl
      rename_i e s' x' hu b_ gS;split at hl
      case h_2=>simp at hl
      rename_i i z hi hz;split at hl
      case isFalse=>simp at hl
      rename_i hc;obtain⟨mK,kf⟩:=hc;obtain⟨i',z',q1,q2,q3,q4⟩:=o_ hz;obtain rfl:i=i' := by rw[hi] at q1;simpa using q1
      have gf:z'.cells.size=i.size:=by have:=dS (nz (E:=E) q3);simp at this;omega
      have qO:=X b_;have dW:=X gS;split at hl
      · rename_i vG;simp only[aG] at hl;subst hl;simp only[aq.aL,b9] at h;unfold OQ.aL at h;split at h<;>try (exfalso;simp_all;done)
        · rename_i base n cap sx e1 e2;simp only[eP,eC] at e2;obtain⟨e2,e3⟩:=e2;rw[e2] at qO;rw[e3] at dW;simp only[R] at qO dW;obtain⟨news,g1,g2,g3,g4⟩:=U5 (P:=P) (E:=E.nl) (w:=E.w) vG sx;refine Kr hs hu hi q2 gf kf (ty:=o.type) (base:=base) (n:=n) (cap:=cap) (u:=u) (vx:=a.eval x) (m:=b6 sx) (news:=news) ?_ ?_ g2 g3 ?_ ?_
          · simp[execOp,ho,resolve,invoke,builtin,qO]
          · rw[mK,dW];exact g1
          · rw[mK];exact g4
          · rw[mK];exact h
      · rename_i e' vG;simp only[aG] at hl;subst hl;simp only[aq.aL,b9] at h;unfold OQ.aL at h;split at h<;>try (exfalso;simp_all;done)
        · rename_i base n cap Xm n' lh e1 e2;simp only[eP,eC] at e2;obtain⟨e2,e3⟩:=e2;rw[e2] at qO;rw[e3] at dW;simp only[R] at qO dW;obtain⟨sx,hr,h⟩:=h;obtain⟨g1,g2,g3,g4⟩:=anL (P:=P) (cap:=lh) hs.ok hr vG;refine Kr hs hu hi q2 gf kf (ty:=o.type) (base:=base) (n:=n) (cap:=cap) (u:=u) (vx:=a.eval x) (m:=b6 sx) (news:=kZ sx) ?_ ?_ g2 g3 ?_ ?_
          · simp[execOp,ho,resolve,invoke,builtin,qO]
          · rw[mK,dW];exact g1
          · rw[mK];exact g4
          · rw[mK];exact h
      · simp at hl
    · simp at hl
  · simp at hl
theorem VG (hs:a7 E st a) {t u ty e:TypeId} {i:TypeInfo} (ht:P.underlying t=some (.slice e)) (hi:P.info? e=some i) {base:Option Addr} {n cap m:Nat} {vx:Value} {xs:List V}
    (cg:(execOp a.eval o).run P E.w=((Builtin.copy_ #[t,u] ty #[.slice base n cap,vx]).run P E.w).andThen fun v w' => .ok (.value v) w')
    {len:Nat} (hlen:(Builtin.lenOf vx).run P E.w = .ok len E.w) (hm:min len n=m) {news:List Value} (lx:(Builtin.firstCells i.size m vx).run P E.w = .ok news.toArray E.w)
    (oG:RL E.nl xs news) (dH:∀v∈news,v.oneCell' = true) (bK:news.length=m*i.size)
    (hk:uL st.out i.size base m xs fun v σ=>K v ⟨st.t,st.loc,σ⟩):o.wp P a E.w (cI E a o.dst K) Q:=by
  obtain⟨Al,tK⟩:=hk;have hm:Nat.min len n=m:=hm
  by_cases h0:m=0
  · subst h0
    have:news=[]:=nj (by simpa using bK)
    subst this;refine b8 hs (v:=.int .i64 0) (x:=.int .i64 0) ?_ (by simp only[R]) (Al rfl);rw[cg];cases base<;>simp[Builtin.copy_,run_underlying ht,sizeOf,typeInfo,hi,hlen,hm,lx,storeCells,goInt]
  · obtain⟨b,off,cs,rfl,lv,ly,hK⟩:=tK h0;obtain⟨cu,c,e',dn,hln,hc⟩:=hs.ok.box b cs lv;have dn:E.w.heap[b]?=some (.cells c e' (0,0)):=dn;have oP:=dS oG;have Hj : off+news.length≤c.size:=by omega
    have dO:=run_storeCells_at (P:=P) b off e' news 0 c E.w dn (by simpa using Hj) dH;simp only[qk] at dO;have gC:(Builtin.copy_ #[t,u] ty #[.slice (some ⟨b,off,none⟩) n cap,vx]).run P E.w = .ok (.int .i64 m) (E.w.setRow b (c.toList.take off++news++c.toList.drop (off+news.length)).toArray):=by
      simp[Builtin.copy_,run_underlying ht,sizeOf,typeInfo,hi,hlen,hm,lx,dO,goInt]
    have aQ:=CQ (E:=E) (new:=(c.toList.take off++news++c.toList.drop (off+news.length)).toArray) dn (.inr cu) (by simp;omega);have hle:=aQ.le fun _ _ h=>h
    have fe:=setRow_heap E.w b c (c.toList.take off++news++c.toList.drop (off+news.length)).toArray e' _ dn;have rT:=Cr (E' := Env.nl {E with w:=E.w.setRow b (c.toList.take off++news++c.toList.drop (off+news.length)).toArray}) hln
      (fun j x hj=>let ⟨u,h1,h2⟩:=hc j x hj;⟨u,h1,h2.mono _ aQ.nl⟩) (RL.mono _ aQ.nl oG) (by omega) fe
    generalize (c.toList.take off++news++c.toList.drop (off+news.length)).toArray=new at gC fe aQ hle rT;have iY : ∀b',b' ≠ b→(E.w.setRow b new).heap[b']?=E.w.heap[b']?:=fun b' aH=>setRow_other E.w b b' new aH
    unfold Oper.wp;rw[cg,gC];refine⟨{E with w:=E.w.setRow b new},.int .i64 m,.int .i64 m,⟨st.t,st.loc,st.out.set b (setAt cs off xs)⟩,rfl,aQ,⟨⟨?_,hs.ok.aB,fun b' bl => hs.ok.fresh b' (by simpa using bl),hs.ok.nt,fun b cs hc=>cJ.mono _ aQ.nl (hs.ok.bH b cs hc)⟩,
      mc hs.bW hle (fun b' i hr _=>⟨hr,iY b' (by rintro rfl;rw[cu] at hr;simp at hr)⟩) hs.bW.none,hs.defers,RL.mono _ hle hs.slot⟩,by simp only[R],rfl,hK⟩
    intro b' cs' tD;simp only[ab.set] at tD;split at tD
    · rename_i e2;subst e2;simp only[aG] at tD;subst tD;exact⟨cu,rT⟩
    · rename_i aH;obtain⟨h1,h2⟩:=hs.ok.box b' cs' tD;exact⟨h1,h2.mono aQ.nl (iY b' aH)⟩
theorem Zj (bw:E.ok st.out) {base:Option Addr} {n:Nat} {xs:List V} (h:EZ st.out base n xs):∃news:List Value,news.length=n∧RL E.nl xs news∧(∀v∈news,v.oneCell' = true) ∧
    ∀(k m len cap:Nat),m*k=n→(Builtin.firstCells k m (.slice base len cap)).run P E.w = .ok news.toArray E.w:=by
  rcases h with ⟨rfl,rfl⟩ | ⟨b,o,cs,rfl,hb,hl,rfl,h1⟩
  · refine⟨[],rfl,by simp[RL],by simp,fun k m len cap e=>?_⟩;cases base with
    | none=>simp[Builtin.firstCells]
    | some ad=>simp[Builtin.firstCells,e,loadCells,loadCellsFrom]
  · obtain⟨_,c,e,hc,hlen,lx⟩:=bw.box b cs hb;have hc:E.w.heap[b]?=some (.cells c e (0,0)):=hc;have dp:RL E.nl ((cs.drop o).take n) ((c.toList.drop o).take n):=by
      refine zj (by simp;omega) fun j x u hx hu=>?_
      have hj:j<n:=by have:=(dj.1 hx).1;simp at this;omega
      rw[uS hj,qf] at hx;rw[uS hj,qf] at hu;obtain⟨v,h1,h2⟩:=lx (o+j) x hx
      have:v=u:=by simp at hu;rw[hu] at h1;simpa using h1.symm
      exact this▸h2
    have kl:((c.toList.drop o).take n).length=n:=by simp;omega
    refine⟨(c.toList.drop o).take n,kl,dp,sf dp h1,fun k m len cap e2=>?_⟩
    have:=run_loadCells_list (P:=P) E.w ⟨b,o,none⟩ ((c.toList.drop o).take n) (fun j v hv=>by
      have hj:j<n:=by have:=(dj.1 hv).1;omega
      rw[jq];rw[uS hj,qf] at hv;simpa [World.cell?,hc] using hv)
    rw[kl] at this;simp only[Builtin.firstCells,e2];exact this
def Ir (P:Program) (o:Oper):Option aq :=
  match o.op with
  | .index t x i =>
    match P.underlying t,bN P t x,bN P t i with
    | some (.array m e), some y, some z =>
      match fx P e,cO P e with
      | some false,some 1=>some (.own (.Du m) [y,z])
      | _,_=>none
    | _,_,_=>none
  | .unOp .neg t x=>match P.underlying t,bN P t x with | some (.int k),some y=>some (.de .sub (.c (.int k 0)) y) | _,_=>none
  | .unOp .xor t x=>match P.underlying t,bN P t x with | some (.int k),some y=>some (.de .xor (.c (.int k (if k.signed then -1 else k.max))) y) | _,_=>none
  | .call c =>
    match c.callee with
    | .builtin .min =>
      match c.argTypes.toList,c.args.toList with
      | [t,u],[x,y]=>match P.underlying t,bN P t x,bN P u y with | some (.int _),some x',some y' => some (.own .min [x',y']) | _,_,_=>none
      | _,_=>none
    | .builtin .max =>
      match c.argTypes.toList,c.args.toList with
      | [t,u],[x,y]=>match P.underlying t,bN P t x,bN P u y with | some (.int _),some x',some y' => some (.own .max [x',y']) | _,_,_=>none
      | _,_=>none
    | .builtin .copy =>
      match c.argTypes.toList,c.args.toList with
      | [t, u], [x, y] =>
        match P.underlying t,P.underlying u,bN P t x,bN P u y with
        | some (.slice e),some (.slice e'),some x',some y' => match P.info? e with | some i=>if e=e' ∧ 0<i.size then some (.own (.s7 i.size) [x',y']) else none | none=>none
        | _,_,_,_=>none
      | _,_=>none
    | _=>none
  | _=>none
theorem aiQ {ao:aq} (hl:Ir P o=some ao) (hs:a7 E st a) (h:ao.aL P st K):o.wp P a E.w (cI E a o.dst K) Q:=by
  have X:=fun {t:TypeId} {x:Operand} {y:X} (hx:bN P t x=some y)=>kr (E:=E) (st:=st) (a:=a) hs.slot hx
  unfold Ir at hl;split at hl
  · rename_i t x i ho;split at hl
    case h_2=>simp at hl
    rename_i m e y z ht hx hi;split at hl
    case h_2=>simp at hl
    rename_i hg hn;simp only[aG] at hl;subst hl;have dW:=X hx;have yc:=X hi;simp only[aq.aL,b9] at h;unfold OQ.aL at h;split at h<;>try (exfalso;simp_all;done)
    · rename_i m0 cs k j e1 e2;simp only[OQ.Du.injEq] at e1;subst e1;simp only[eP,eC] at e2;obtain⟨e2,e3⟩:=e2;rw[e2] at dW;rw[e3] at yc;simp only[R] at dW yc;obtain⟨vs,h4,h5⟩:=dW;obtain⟨g1,g2,h⟩:=h;unfold A8 at h;split at h
      · rename_i c hc;obtain⟨u,h6,h7⟩:=nr h5 j.toNat c hc;have h6' : vs[j.toNat]?=some u:=by simpa using h6
        refine b8 hs (v:=c) (x:=u) ?_ h7 h.2;simp[execOp,ho,h4,yc,Instr.index,asIntOf,run_underlying ht,g1,g2,part,wk hg,kX hn,h6']
      · exact h.elim
  · rename_i t x ho;split at hl
    case h_2=>simp at hl
    rename_i k y ht hx;simp only[aG] at hl;subst hl;have hx:=X hx;simp only[aq.aL,ev,opt,K2] at h;split at h
    case h_2=>exact h.elim
    rename_i v hv;unfold qu at hv;split at hv
    case h_2=>simp at hv
    rename_i k' n k2 m e1 e2;simp only[V.int.injEq] at e1;obtain⟨rfl,rfl⟩:=e1;split at hv
    case isFalse=>simp at hv
    rename_i fV;obtain rfl:=Dv (fV.resolve_right (by simp[vP]));simp only[gg,aG] at hv;subst hv;have e2:ev st y = .int k m:=e2;rw[e2] at hx;simp only[R] at hx;refine b8 hs (x:=.int k (k.wrap (0 - m))) ?_ (by simp only[R]) h;simp only[execOp,ho,hx];simp only[Op.unary,Op.intArith];simp
  · rename_i t x ho;split at hl
    case h_2=>simp at hl
    rename_i k y ht hx;simp only[aG] at hl;subst hl;have hx:=X hx;simp only[aq.aL,ev,opt,K2] at h;split at h
    case h_2=>exact h.elim
    rename_i v hv;unfold qu at hv;split at hv
    case h_2=>simp at hv
    rename_i k' n k2 m e1 e2;simp only[V.int.injEq] at e1;obtain⟨rfl,rfl⟩:=e1;split at hv
    case isFalse=>simp at hv
    rename_i fV;obtain rfl:=Dv (fV.resolve_right (by simp[vP]));simp only[gg,aG] at hv;subst hv;have e2:ev st y = .int k m:=e2;rw[e2] at hx;simp only[R] at hx;refine b8 hs (x:=.int k (k.wrap ((BitVec.ofInt k.bits (if k.signed then -1 else k.max) ^^^ BitVec.ofInt k.bits m).toNat:Nat))) ?_ (by simp only[R]) h;simp only[execOp,ho,hx];simp only[Op.unary,Op.intBits];simp
  · rename_i c ho;obtain⟨callee,args,argTypes⟩:=c;simp only at hl;split at hl
    · split at hl
      case h_2=>simp at hl
      rename_i t u x y ht hx;have e1:argTypes=#[t,u]:=by cases argTypes;simpa using ht
      have e2:args=#[x,y]:=by cases args;simpa using hx
      subst e1;subst e2;split at hl
      case h_2=>simp at hl
      rename_i k0 x' y' hu gS vI;simp only[aG] at hl;subst hl;have dW:=X gS;have mN:=X vI;simp only[aq.aL,b9] at h;unfold OQ.aL at h;split at h<;>try (exfalso;simp_all;done)
      · rename_i k n k' m e1 e2;simp only[eP,eC] at e2;obtain⟨e2,e3⟩:=e2;rw[e2] at dW;rw[e3] at mN;simp only[R] at dW mN;obtain⟨fV,h⟩:=h;refine b8 hs (v:=.int k (if m<n then m else n)) (x:=.int k (if m<n then m else n)) ?_ (by simp only[R]) h;simp[execOp,ho,resolve,invoke,builtin,Builtin.min_,Builtin.min2,dW,mN]
    · split at hl
      case h_2=>simp at hl
      rename_i t u x y ht hx;have e1:argTypes=#[t,u]:=by cases argTypes;simpa using ht
      have e2:args=#[x,y]:=by cases args;simpa using hx
      subst e1;subst e2;split at hl
      case h_2=>simp at hl
      rename_i k0 x' y' hu gS vI;simp only[aG] at hl;subst hl;have dW:=X gS;have mN:=X vI;simp only[aq.aL,b9] at h;unfold OQ.aL at h;split at h<;>try (exfalso;simp_all;done)
      · rename_i k n k' m e1 e2;simp only[eP,eC] at e2;obtain⟨e2,e3⟩:=e2;rw[e2] at dW;rw[e3] at mN;simp only[R] at dW mN;obtain⟨fV,h⟩:=h;refine b8 hs (v:=.int k (if n<m then m else n)) (x:=.int k (if n<m then m else n)) ?_ (by simp only[R]) h;simp[execOp,ho,resolve,invoke,builtin,Builtin.max_,Builtin.max2,dW,mN]
    · split at hl
      case h_2=>simp at hl
      rename_i t u x y ht hx;have e1:argTypes=#[t,u]:=by cases argTypes;simpa using ht
      have e2:args=#[x,y]:=by cases args;simpa using hx
      subst e1;subst e2;split at hl
      case h_2=>simp at hl
      rename_i e e' x' y' hu vG gS vI;split at hl
      case h_2=>simp at hl
      rename_i i hi;split at hl
      case isFalse=>simp at hl
      rename_i hc;simp only[aG] at hl;subst hl;obtain⟨rfl,iD⟩:=hc;have dW:=X gS;have mN:=X vI;simp only[aq.aL,b9] at h;unfold OQ.aL at h;split at h<;>try (exfalso;simp_all;done)
      · rename_i k0 base n cap Xm n' lh e1 e2;simp only[OQ.s7.injEq] at e1;subst e1;simp only[eP,eC] at e2;obtain⟨e2,e3⟩:=e2;rw[e2] at dW;rw[e3] at mN;simp only[R] at dW mN;obtain⟨xs,Hb,h⟩:=h;obtain⟨news,g1,g2,g3,g4⟩:=Zj (P:=P) hs.ok Hb;refine VG hs (u:=u) (ty:=o.type) (vx:=a.eval y) (news:=news) (base:=base) (n:=n) (cap:=cap) hu hi ?_ (len:=n') ?_ rfl ?_ g2 g3 g1 h
        · simp[execOp,ho,resolve,invoke,builtin,dW]
        · rw[mN];simp[Builtin.lenOf]
        · rw[mN];exact g4 _ _ _ _ rfl
      · rename_i k0 base n cap tk k1 m e1 e2;simp only[OQ.s7.injEq] at e1;subst e1;simp only[eP,eC] at e2;obtain⟨e2,e3⟩:=e2;obtain⟨rfl,hle,h⟩:=h;rw[e2] at dW;rw[e3] at mN;obtain⟨news,g1,g2,g3,g4⟩:=Eu (P:=P) vG mN;simp only[R] at dW;refine VG hs (u:=u) (ty:=o.type) (vx:=a.eval y) (news:=news) (base:=base) (n:=n) (cap:=cap) (m:=m.length) hu hi ?_ (len:=m.length) (g1.len _) (by omega) g1.cells g2 g3 g1.size h;simp[execOp,ho,resolve,invoke,builtin,dW]
    · simp at hl
  · simp at hl
def Ip (P:Program) (o:Oper):Option aq :=
  match o.op with
  | .call c =>
    match c.callee with
    | .value (.func f) =>
      match P.funcs[f]?,gq P c.argTypes.toList c.args.toList with
      | some fn,some xs=>if fn.body.isNone=true∧fn.origin = "" then (if fn.name = "internal/bytealg.CountString" then some (.own .FW xs) else if fn.name = "internal/bytealg.IndexByteString" then some (.own .HY xs) else none) else none
      | _,_=>none
    | _=>none
  | _=>none
theorem abz (s:List UInt8) (c:UInt8):vg s c=Lib.indexByte s c:=by
  induction s with
  | nil=>rfl
  | cons b l ih=>simp only[vg,Lib.indexByte,ih]
theorem abC {fn:Func} (h:fn.name = "internal/bytealg.CountString") (ho:fn.origin = ""):Extern.findNext fn=none∧Extern.find fn=some Extern.BytealgCount.count:=by
  have k1:Extern.allNextRows.lookup "internal/bytealg.CountString" = none:=by kernel_rfl
  have k2:Extern.allNextRows.lookup "" = none:=by kernel_rfl
  have k3:Extern.allGenericRows.lookup "internal/bytealg.CountString" = none:=by kernel_rfl
  have k4:Extern.allTypedRows.lookup "internal/bytealg.CountString" = none:=by kernel_rfl
  have k5:Extern.allRows.lookup "internal/bytealg.CountString" = some Extern.BytealgCount.count:=by kernel_rfl
  exact⟨by simp[Extern.findNext,h,ho,k1,k2],by simp[Extern.find,h,k3,k4,k5]⟩
theorem abD {fn:Func} (h:fn.name = "internal/bytealg.IndexByteString") (ho:fn.origin = ""):Extern.findNext fn=none∧Extern.find fn=some Extern.BytealgIndexByte.indexByte:=by
  have k1:Extern.allNextRows.lookup "internal/bytealg.IndexByteString" = none:=by kernel_rfl
  have k2:Extern.allNextRows.lookup "" = none:=by kernel_rfl
  have k3:Extern.allGenericRows.lookup "internal/bytealg.IndexByteString" = none:=by kernel_rfl
  have k4:Extern.allTypedRows.lookup "internal/bytealg.IndexByteString" = none:=by kernel_rfl
  have k5:Extern.allRows.lookup "internal/bytealg.IndexByteString" = some Extern.BytealgIndexByte.indexByte:=by kernel_rfl
  exact⟨by simp[Extern.findNext,h,ho,k1,k2],by simp[Extern.find,h,k3,k4,k5]⟩
theorem Vo {α:Type} {l:Array α} {x y:α} (h:l.toList=[x,y]):l=#[x,y]:=by cases l;simpa using h
theorem abc {ao:aq} (hl:Ip P o=some ao) (hs:a7 E st a) (h:ao.aL P st K):o.wp P a E.w (cI E a o.dst K) Q:=by
  unfold Ip at hl;split at hl
  case h_2=>simp at hl
  rename_i c ho;obtain⟨callee,args,argTypes⟩:=c;simp only at hl;split at hl
  case h_2=>simp at hl
  rename_i f;split at hl
  case h_2=>simp at hl
  rename_i fn xs hf kp;split at hl
  case isFalse=>simp at hl
  rename_i hc;have dp:=Iy (E:=E) hs.slot kp;split at hl
  · rename_i hn;simp only[aG] at hl;subst hl;simp only[aq.aL] at h;unfold OQ.aL at h;split at h<;>try (exfalso;simp_all;done)
    · rename_i s n e1 e2;rw[e2] at dp;obtain⟨q1,q2⟩:=abC hn hc.2;cases hq:args.toList.map a.eval with
      | nil=>rw[hq] at dp;simp[RL] at dp
      | cons v1 vs =>
        rw[hq] at dp;cases vs with
        | nil=>simp[RL] at dp
        | cons v2 EL =>
          cases EL with
          | cons _ _=>simp[RL] at dp
          | nil =>
            simp only[RL,R,eC] at dp;obtain⟨rfl,rfl⟩:=dp;have ha:args.map a.eval=#[.string ⟨s.toArray⟩,.int .u8 n]:=Vo (by simpa using hq);refine b8 hs (v:=.int .i64 (s.count n.toNat.toUInt8:Nat)) (x:=.int .i64 (s.count n.toNat.toUInt8:Nat)) ?_ (by simp only[R]) h;have cg:=run_callFunc_extern (P:=P) hf (by rw[hn];decide) hc.1 q1 q2 #[.string ⟨s.toArray⟩,.int .u8 n] E.w;rw[Lib.run_countString] at cg;simp[execOp,ho,resolve,Act.eval,Deferred.ofValue,invoke,ha,cg,Lib.countByte,Result.andThen]
  · split at hl
    case isFalse=>simp at hl
    rename_i hn;simp only[aG] at hl;subst hl;simp only[aq.aL] at h;unfold OQ.aL at h;split at h<;>try (exfalso;simp_all;done)
    · rename_i s n e1 e2;rw[e2] at dp;obtain⟨q1,q2⟩:=abD hn hc.2;cases hq:args.toList.map a.eval with
      | nil=>rw[hq] at dp;simp[RL] at dp
      | cons v1 vs =>
        rw[hq] at dp;cases vs with
        | nil=>simp[RL] at dp
        | cons v2 EL =>
          cases EL with
          | cons _ _=>simp[RL] at dp
          | nil =>
            simp only[RL,R,eC] at dp;obtain⟨rfl,rfl⟩:=dp;have ha:args.map a.eval=#[.string ⟨s.toArray⟩,.int .u8 n]:=Vo (by simpa using hq);refine b8 hs (v:=.int .i64 (vg s n.toNat.toUInt8)) (x:=.int .i64 (vg s n.toNat.toUInt8)) ?_ (by simp only[R]) h;have cg:=run_callFunc_extern (P:=P) hf (by rw[hn];decide) hc.1 q1 q2 #[.string ⟨s.toArray⟩,.int .u8 n] E.w;rw[Lib.run_indexByteString] at cg;simp[execOp,ho,resolve,Act.eval,Deferred.ofValue,invoke,ha,cg,abz,Result.andThen]
def A0 (P:Program) (h:List Nat) (o:Oper):aq :=
  match (match o.dst with | some d=>if h.contains (d+100000)=true then Iv P o else none | none=>none) with
  | some x=>x
  | none => match (match Ip P o with | some x => some x | none => Is P h o) with
    | some x=>x
    | none => match Ir P o with
      | some x=>x
      | none=>.own .bad []
theorem air {h:List Nat} (hs:a7 E st a) (hk:(A0 P h o).aL P st K):o.wp P a E.w (cI E a o.dst K) Q:=by
  unfold A0 at hk;split at hk
  · rename_i x hx;split at hx
    · split at hx
      · exact akv hx hs hk
      · simp at hx
    · simp at hx
  · split at hk
    · rename_i x hx;split at hx
      · rename_i y hy;simp only[aG] at hx;subst hx;exact abc hy hs hk
      · exact ais hx hs hk
    · split at hk
      · rename_i x hx;exact aiQ hx hs hk
      · simp only[aq.aL,b9] at hk;unfold OQ.aL at hk;simp at hk
def Su (P:Program) (h:List Nat) (ops:Array Oper) (o:Oper):Option AO :=
  match o.guard with
  | none=>some ⟨o.dst,A0 P h o,none⟩
  | some (j, want) =>
    match (ops[j]?).bind (·.dst) with
    | some g=>some ⟨o.dst,A0 P h o,some (g,want)⟩
    | none=>none
def ua (P:Program) (h:List Nat) (ops:Array Oper):List Oper→Option (List AO)
  | []=>some []
  | o::os=>(Su P h ops o).bind fun x=>(ua P h ops os).map (x::·)
end
theorem amV {P:Program} {t:TypeId} {s:ByteArray} {w:World} (h:P.underlying t=some .string):(Instr.range t (.string s)).run P w = .ok (.pointer (some ⟨w.heap.size,0,none⟩)) (w.alloc (.stringIter s 0)):=by
  simp[Instr.range,run_underlying h]
def gJ (w:World) (b:Nat) (o:Obj):World:={w with heap:=w.heap.setIfInBounds b o}
theorem Uq {P:Program} {s:ByteArray} {b p:Nat} {w:World} (h:w.heap[b]?=some (.stringIter s p)):(getObj b).run P w = .ok (.stringIter s p) w:=by
  simp only[getObj,Sem.run,h]
theorem amW {P:Program} {s:ByteArray} {b p:Nat} {o:Obj} {w:World} (h:w.heap[b]?=some (.stringIter s p)):(setObj b o).run P w = .ok () (gJ w b o):=by
  simp only[setObj,Sem.run,h];rfl
theorem run_next_end {P:Program} {t:TypeId} {s:ByteArray} {b p:Nat} {w:World} (h:w.heap[b]?=some (.stringIter s p)) (hp:¬p<s.size):(Instr.next (.pointer (some ⟨b,0,none⟩)) true t).run P w = .ok (.tuple #[.bool false]) w:=by
  unfold Instr.next;simp only[Sem.run_bind,Uq h,Result.andThen,hp,ey];rfl
theorem amU {P:Program} {t:TypeId} {s:ByteArray} {b p:Nat} {w:World} (h:w.heap[b]?=some (.stringIter s p)) (hp:p<s.size) (hc:(s.get! p).toNat<128):(Instr.next (.pointer (some ⟨b,0,none⟩)) true t).run P w = .ok (.tuple #[.bool true,.int .i64 p,.int .i32 (s.get! p).toNat]) (gJ w b (.stringIter s (p+1))):=by
  have hd:Utf8.decode s p=((s.get! p).toNat,1):=by simp[Utf8.decode,hc]
  unfold Instr.next;simp only[Sem.run_bind,Uq h,Result.andThen,hp,dP,hd,amW h];rfl
theorem uu {w:World} {b b' : Nat} {o:Obj} (h:b' ≠ b):(gJ w b o).heap[b']?=w.heap[b']?:=by
  simp only[gJ];rw[VY];simp[Ne.symm h]
theorem UR {w:World} {b:Nat} {o o' : Obj} (h:w.heap[b]?=some o'):(gJ w b o).heap[b]?=some o:=by
  obtain⟨h1,_⟩:=fG.1 h;simp only[gJ];rw[VY];simp[h1]
theorem US {w:World} {b:Nat} {o:Obj}:(gJ w b o).heap.size=w.heap.size:=by simp[gJ]
theorem UQ {w:World} {b b' i:Nat} {o:Obj} (h:b' ≠ b):(gJ w b o).cell? ⟨b',i,none⟩=w.cell? ⟨b',i,none⟩:=by
  simp only[World.cell?,uu h]
def Env.gJ (E:Env) (b:Nat) (o:Obj):Env:={E with w:=Go.Am.gJ E.w b o}
theorem Env.ani {E:Env} {b:Nat} {o:Obj} (hr:E.role b = .jZ):E.le (E.gJ b o):=by
  refine⟨fun b' i c hc hv=>⟨hc,?_⟩,fun _ _ h=>h,fun t n h=>⟨n,h,bt _,fun _ b' c bl => ⟨bl,fun cs e hcs=>⟨cs,?_,rfl⟩⟩⟩⟩
  · have aH:b' ≠ b:=fun e=>by rw[e,hr] at hc;exact hc
    exact(UQ aH).trans hv
  · have aH:b' ≠ b:=fun e=>by rw[e,hr] at bl;simp at bl
    exact(uu aH).trans hcs
theorem a7.gJ {E:Env} {b:Nat} {o:Obj} {st:St} {a:Act} (hr:E.role b = .jZ) (hs:a7 E st a):a7 (E.gJ b o) st a:=by
  have hle:=Env.ani (o:=o) hr;refine⟨⟨fun b' cs h=>?_,hs.ok.aB,fun b' h=>hs.ok.fresh b' (by rw[←US (b:=b) (o:=o)];exact h),hs.ok.nt,fun b cs hc=>cJ.mono _ hle.nl (hs.ok.bH b cs hc)⟩,⟨fun i cs h=>?_,hs.bW.none⟩,hs.defers,RL.mono _ hle hs.slot⟩
  · obtain⟨h1,h2⟩:=hs.ok.box b' cs h;have aH:b' ≠ b:=fun e=>by rw[e,hr] at h1;simp at h1
    exact⟨h1,gx.mono hle.nl (uu aH) h2⟩
  · obtain⟨b',h1,h2,h3⟩:=hs.bW.box i cs h;have aH:b' ≠ b:=fun e=>by rw[e,hr] at h2;simp at h2
    exact⟨b',h1,h2,gx.mono hle (uu aH) h3⟩
theorem Fr.gJ {E0 E:Env} {b:Nat} {s:ByteArray} {p q:Nat} (hf:Fr E0 E) (hr:E.role b = .jZ) (hn:E0.w.heap.size≤b) (hb:E.w.heap[b]?=some (.stringIter s p)):Fr E0 (E.gJ b (.stringIter s q)):=by
  refine⟨hf.os,hf.output,hf.tape,by rw[show (E.gJ b (.stringIter s q)).w.heap.size=E.w.heap.size from US];exact hf.size,fun a=>?_,fun b' i c hc hv=>?_,fun t n h=>?_,fun b' ag h=>?_,hf.zq,hf.zr,hf.xn,fun b' c e h=>by
    obtain⟨c',h1,h2⟩:=hf.shape b' c e h;have aH:b' ≠ b:=fun e=>by rw[e,hb] at h1;simp at h1
    exact⟨c',(uu aH).trans h1,h2⟩⟩
  · rw[←hf.ew a]
    by_cases e:a.block=b
    · have e1:(E.gJ b (.stringIter s q)).w.heap[a.block]?=some (.stringIter s q):=by rw[e];exact UR hb
      rw[←e] at hb;simp only[World.frozen?,e1,hb]
    · simp only[World.frozen?,show (E.gJ b (.stringIter s q)).w.heap[a.block]?=E.w.heap[a.block]? from uu e]
  · obtain⟨h1,h2⟩:=hf.cell b' i c hc hv;have aH:b' ≠ b:=fun e=>by rw[e,hr] at h1;exact h1
    exact⟨h1,(UQ aH).trans h2⟩
  · obtain⟨n',h1,h2,h3⟩:=hf.tok t n h;refine⟨n',h1,h2,fun e b' c bl => ?_⟩;obtain⟨h4,h5⟩:=h3 e b' c bl;refine⟨h4,fun cs e' hcs=>?_⟩;obtain⟨cs',h6,h7⟩:=h5 cs e' hcs;have aH:b' ≠ b:=fun e=>by rw[e,hr] at h4;simp at h4
    exact⟨cs',(uu aH).trans h6,h7⟩
  · obtain⟨h1,h2⟩:=hf.same b' ag h;have aH:b' ≠ b:=by omega
    exact⟨(uu aH).trans h1,h2⟩
def Env.j7 (E:Env) (o:Obj):Env:={w:=E.w.alloc o,role:=fun b=>if b=E.w.heap.size then .jZ else E.role b,loc:=E.loc,aB:=E.aB}
theorem ai2 {E:Env} {st:St} {a:Act} {s:ByteArray} {p:Nat} (hs:a7 E st a):Fr E (E.j7 (.stringIter s p))∧a7 (E.j7 (.stringIter s p)) st a∧(E.j7 (.stringIter s p)).role E.w.heap.size = .jZ∧(E.j7 (.stringIter s p)).w.heap[E.w.heap.size]?=some (.stringIter s p):=by
  have hold:∀b,b<E.w.heap.size→(E.j7 (.stringIter s p)).w.heap[b]?=E.w.heap[b]?:=fun b hb=>heap_alloc_old E.w (.stringIter s p) hb
  have cu:∀b,b<E.w.heap.size→(E.j7 (.stringIter s p)).role b=E.role b:=fun b hb=>by simp only[Env.j7];rw[ah (by omega)]
  have fe:(E.j7 (.stringIter s p)).w.heap[E.w.heap.size]?=some (.stringIter s p):=heap_alloc_new E.w _;have oy:∀b i c,E.w.cell? ⟨b,i,none⟩=some c→b<E.w.heap.size:=fun b i c h=>by
    simp only[World.cell?] at h;split at h
    · rename_i h1;exact(fG.1 h1).1
    · simp at h
  have hcc:∀b i,b<E.w.heap.size→(E.j7 (.stringIter s p)).w.cell? ⟨b,i,none⟩=E.w.cell? ⟨b,i,none⟩:=fun b i hb=>by simp only[World.cell?,hold b hb]
  have aQ:Fr E (E.j7 (.stringIter s p)):=by
    refine⟨rfl,rfl,rfl,by simp[Env.j7],fun a=>?_,fun b i c hc hv=>?_,fun t n h=>⟨n,h,bt _,fun _ b c hb=>?_⟩,fun b hb _=>⟨hold b hb,cu b hb⟩,fun b hb h=>?_,fun b t c hb h=>?_,fun b i hb h=>?_,fun b c e h=>⟨c,(hold b (iK h)).trans h,rfl⟩⟩
    · by_cases h:a.block<E.w.heap.size
      · simp only[World.frozen?,hold _ h]
      · by_cases h2:a.block=E.w.heap.size
        · have e2:E.w.heap[a.block]?=none:=by simp;omega
          rw[←h2] at fe;simp only[World.frozen?,fe,e2]
        · have e2:E.w.heap[a.block]?=none:=by simp;omega
          have e1:(E.j7 (.stringIter s p)).w.heap[a.block]?=none:=by simp[Env.j7];omega
          simp only[World.frozen?,e1,e2]
    · have hb:=oy b i c hv;exact⟨by rw[cu b hb];exact hc,(hcc b i hb).trans hv⟩
    · by_cases ag:b<E.w.heap.size
      · exact⟨(cu b ag).trans hb,fun cs e hcs=>⟨cs,(hold b ag).trans hcs,rfl⟩⟩
      · have:=hs.ok.fresh b (by omega)
        rw[this] at hb;simp at hb
    · rw[cu b hb] at h;exact .inl h
    · rw[cu b hb] at h;exact⟨c,h⟩
    · rw[cu b hb] at h;exact⟨i,h⟩
  have hle:E.le (E.j7 (.stringIter s p)):=aQ.le fun i b h=>h
  refine⟨aQ,⟨⟨fun b cs h=>?_,hs.ok.aB,fun b hb=>?_,hs.ok.nt,fun b cs hc=>cJ.mono _ aQ.nl (hs.ok.bH b cs hc)⟩,⟨fun i cs h=>?_,hs.bW.none⟩,hs.defers,RL.mono _ hle hs.slot⟩,by simp[Env.j7],fe⟩
  · obtain⟨h1,h2⟩:=hs.ok.box b cs h;have ag:b<E.w.heap.size:=by obtain⟨c,e,h3,_⟩:=h2;exact iK (w:=E.w) h3
    exact⟨by rw[cu b ag];exact h1,gx.mono hle.nl (hold b ag) h2⟩
  · have bl : E.w.heap.size+1≤b:=by simpa [Env.j7] using hb
    simp only[Env.j7];rw[ah (by omega)];exact hs.ok.fresh b (by omega)
  · obtain⟨b,h1,h2,h3⟩:=hs.bW.box i cs h;have ag:b<E.w.heap.size:=by obtain⟨c,e,h4,_⟩:=h3;exact iK (w:=E.w) h4
    exact⟨b,h1,by rw[cu b ag];exact h2,gx.mono hle (hold b ag) h3⟩
def kB (o:Oper):Option (Nat × TypeId):=match o.op,o.dst,o.guard with | .alloc t,some d,none=>some (d,t) | _,_,_=>none
def kE (o:Oper):Option (Nat × TypeId × Operand):=match o.op,o.dst,o.guard with | .store t (.tmp d) x,none,none=>some (d,t,x) | _,_,_=>none
theorem Kd {o:Oper} {d:Nat} {t:TypeId} (h:kB o=some (d,t)):o.op = .alloc t∧o.dst=some d∧o.guard=none:=by
  unfold kB at h;split at h
  · rename_i h1 h2 h3;simp only[aG,jW] at h;obtain⟨rfl,rfl⟩:=h;exact⟨h1,h2,h3⟩
  · simp at h
theorem Vv {o:Oper} {d:Nat} {t:TypeId} {x:Operand} (h:kE o=some (d,t,x)):o.op = .store t (.tmp d) x∧o.dst=none∧o.guard=none:=by
  unfold kE at h;split at h
  · rename_i h1 h2 h3;simp only[aG,jW] at h;obtain⟨rfl,rfl,rfl⟩:=h;exact⟨h1,h2,h3⟩
  · simp at h
def isVar (ops:Array Oper) (d:Nat) (t:TypeId):Bool:=ops.toList.any fun o=>match kB o with | some (d',t')=>d' == d&&t' == t | none=>false
def AX (P:Program) (ops:Array Oper) (o:Oper):Option AO :=
  match kB o with
  | some (_,t)=>match gW P t,cO P t with | some z,some n=>if z.length=n then some ⟨none,.mv (.c .any),none⟩ else none | _,_=>none
  | none =>
    match kE o with
    | some (d,t,x)=>if isVar ops d t=true then (match cO P t,bN P t x with | some n,some y=>some ⟨some d,.kH n y,none⟩ | _,_=>none) else nW P ops o
    | none=>nW P ops o
def yz (P:Program) (ops:Array Oper):List Oper→Option (List AO)
  | []=>some []
  | o::os=>(AX P ops o).bind fun x=>(yz P ops os).map (x::·)
def FP (ops:Array Oper) (b:List Nat):Bool :=
  ops.toList.zipIdx.all fun (o,i)=>match kB o with
    | some (d,t)=>(ops.toList.zipIdx.any fun (o',j)=>match kE o' with | some (d',t',_)=>d' == d&&t' == t&&(b.getD j 0).testBit i | none=>false) &&
        (ops.toList.zipIdx.all fun (o',j)=>i == j||match kB o' with | some (d',_)=>!(d' == d) | none=>true)
    | none=>true
def DU (ops:Array Oper):List Nat:=ops.toList.filterMap fun o=>(kB o).map (·.1)
def DQ (P:Program) (ops:Array Oper):Option (List Nat × List (AO × List Nat)) :=
  match yz P ops ops.toList with
  | none=>none
  | some l0 =>
    let b:=qW ops.toList []
    let d:=List.zipWith dy (l0.map fun o=>(o,[])) b
    let l:=(l0.zip d).zipIdx.map fun ((o,x),i)=>(o,if o.op.yv then ((List.range (tJ d i+1 - lD d x)).map (lD d x+·)).filter (· != wa d i) else [])
    if tc ops l b=true∧P.follows .mixedOrders=true∧FP ops b=true then some (DU ops,l) else none
theorem Sw {P:Program} {ops:Array Oper}:∀{os:List Oper} {l:List AO},yz P ops os=some l→l.length=os.length∧∀i:Nat,∀o,os[i]?=some o→∃x,l[i]?=some x∧AX P ops o=some x
  | [],l,h=>by simp only[yz,aG] at h;subst h;exact⟨rfl,fun i o h=>by simp at h⟩
  | o :: os, l, h => by
    simp only[yz,fH,cf] at h;obtain⟨x,h1,l',h2,rfl⟩:=h;obtain⟨h3,h4⟩:=Sw h2;refine⟨by simp[h3],fun i q hq=>?_⟩;cases i with
    | zero=>simp at hq;subst hq;exact⟨x,by simp,h1⟩
    | succ i=>simp at hq;obtain⟨y,k1,k2⟩:=h4 i q hq;exact⟨y,by simpa using k1,k2⟩
structure KJ (ops:Array Oper) (b:List Nat):Prop where
  st:∀(i:Nat) o d t,ops[i]?=some o→kB o=some (d,t)→∃(j:Nat) (o' : Oper) (x:Operand),ops[j]?=some o' ∧ kE o' = some (d,t,x)∧(b.getD j 0).testBit i=true
  uniq:∀(i j:Nat) o o' d t t',ops[i]?=some o→ops[j]?=some o' → kB o=some (d,t)→kB o' = some (d,t')→i=j
theorem abe {ops:Array Oper} {b:List Nat} (h:FP ops b=true):KJ ops b:=by
  unfold FP at h;rw[la] at h;have mem:∀(i:Nat) o,ops[i]?=some o→(o,i)∈ops.toList.zipIdx:=fun i o ho=>by
    rw[B1];simpa using ho
  refine⟨fun i o d t ho hv=>?_,fun i j o o' d t t' ho dz hv ff => ?_⟩
  · have:=h _ (mem i o ho)
    simp only[hv,bm,za] at this;obtain⟨⟨q,hq,h1⟩,_⟩:=this;obtain⟨o',j⟩:=q;simp only at h1;split at h1
    · rename_i d' t' x ff;simp only[bm,xq] at h1;obtain⟨⟨rfl,rfl⟩,h2⟩:=h1;rw[B1] at hq;exact⟨j,o',x,by simpa using hq,ff,h2⟩
    · simp at h1
  · have:=h _ (mem i o ho)
    simp only[hv,bm,la] at this;have h2:=this.2 _ (mem j o' dz);simp only[ff,jS,xq,uK] at h2
    rcases h2 with h2 | h2
    · exact h2
    · simp at h2
theorem aio {P:Program} {ops:Array Oper} {nv:List Nat} {l:List (AO × List Nat)} (h:DQ P ops=some (nv,l)) :
    ∃b,sM ops l b∧b.length=ops.size∧P.follows .mixedOrders=true∧KJ ops b∧nv=DU ops∧∀(i:Nat) o,ops[i]?=some o→∃x:AO × List Nat,l[i]?=some x∧AX P ops o=some x.1:=by
  unfold DQ at h;cases h0:yz P ops ops.toList with
  | none=>rw[h0] at h;simp at h
  | some l0 =>
  rw[h0] at h;simp only at h;split at h
  case isFalse=>simp at h
  rename_i hc;simp only[aG,jW] at h;obtain⟨rfl,rfl⟩:=h;refine⟨_,facts hc.1,?_,hc.2.1,abe hc.2.2,rfl,fun i o ho=>?_⟩
  · have:=hc.1
    unfold tc at this;simp only[bm,cq] at this;exact this.1.1.2
  · have hlen:=(facts hc.1).size;obtain⟨h1,h2⟩:=Sw h0;obtain⟨x,k1,k2⟩:=h2 i o (by simpa using ho);have ag:=(fG.1 ho).1;generalize hL:(l0.zip (List.zipWith dy (l0.map fun o=>(o,[])) (qW ops.toList [])))=z at hlen ⊢;have hz:i<z.length:=by simp at hlen;omega
    refine⟨_,by rw[qg,KU,cc hz];rfl,?_⟩
    have:z[i].1=x:=by
      have e:z[i]?=some z[i]:=cc hz;subst hL;rw[Fk] at e;rw[k1] at e;exact(lM e.1).symm
    simpa [this] using k2
def Env.n5 (E:Env) (c:Array Value) (t:TypeId):Env:={w:=E.w.alloc (.cells c t),role:=fun b=>if b=E.w.heap.size then .jZ else E.role b,loc:=E.loc,aB:=E.aB}
theorem ai1 {E:Env} {st:St} {a:Act} {c:Array Value} {t:TypeId} (hs:a7 E st a):Fr E (E.n5 c t)∧a7 (E.n5 c t) st a:=by
  have hx:=(Ext.refl E.w).alloc c t;have hold:∀b,b<E.w.heap.size→(E.n5 c t).w.heap[b]?=E.w.heap[b]?:=fun b hb=>hx.block b hb
  have cu:∀b,b<E.w.heap.size→(E.n5 c t).role b=E.role b:=fun b hb=>by simp only[Env.n5];rw[ah (by omega)]
  have aQ:Fr E (E.n5 c t):=tz hs.ok.fresh hx cu fun _ _ h=>h
  have hle:E.le (E.n5 c t):=aQ.le fun _ _ h=>h
  refine⟨aQ,yD hs.ok aQ.nl (fun b h hb=>⟨by rw[cu b hb];exact h,hold b hb⟩) (fun _ _ h=>h) (fun b hb=>?_) hs.ok.nt,
    mc hs.bW hle (fun b i h hb=>⟨by rw[cu b hb];exact h,hold b hb⟩) hs.bW.none,hs.defers,RL.mono _ hle hs.slot⟩
  have bl : E.w.heap.size+1≤b:=by simpa [Env.n5] using hb
  simp only[Env.n5];rw[ah (by omega)];exact hs.ok.fresh b (by omega)
theorem anl {t:List V} {d:Nat} (h:t.getD d .any = .any):t.set d .any=t:=by
  by_cases hd:d<t.length
  · have:t[d] = .any:=by simpa [List.getD,hd] using h
    rw[←this];simp
  · exact List.set_eq_of_length_le (by omega)
def Env.bare (E:Env) (b k:Nat) (new:Array Value):Env :=
  {w:=E.w.setRow b new,role:=fun x=>if x=b then .fY k else E.role x,loc:=fun i=>if i=k then some b else E.loc i,aB:=E.aB}
theorem Xl {E0 E:Env} {st:St} {a:Act} {b:Nat} {c:Array Value} {e:TypeId} (hs:a7 E st a) (hf:Fr E0 E) (hr:E.role b = .jZ) (hn:E0.w.heap.size≤b) (hb:E.w.heap[b]?=some (.cells c e (0,0))) {cs:List V} {vs:List Value} (hv:RL E cs vs)
    {d:Nat} (hd:a.tmps[d]?=some (.pointer (some ⟨b,0,none⟩))) :
    Fr E0 (E.bare b st.loc.length vs.toArray)∧a7 (E.bare b st.loc.length vs.toArray) ⟨st.t.set d (.ptr (.loc st.loc.length) 0),st.loc++[cs],st.out⟩ a:=by
  generalize hE:E.bare b st.loc.length vs.toArray=E';have fW:∀b',b' ≠ b→E'.w.heap[b']?=E.w.heap[b']?:=fun b' aH=>by rw[←hE];exact setRow_other E.w b b' _ aH
  have jG:E'.w.heap[b]?=some (.cells vs.toArray e (0,0)):=by rw[←hE];exact setRow_heap E.w b c _ e _ hb
  have iF:∀b',b' ≠ b→E'.role b' = E.role b' := fun b' aH=>by rw[←hE];simp only[Env.bare];rw[ah aH]
  have lX:E'.role b = .fY st.loc.length:=by rw[←hE];simp[Env.bare]
  have bK:E'.w.heap.size=E.w.heap.size:=by rw[←hE];simp[Env.bare]
  have cG:∀i,i≠st.loc.length→E'.loc i=E.loc i:=fun i hi=>by rw[←hE];simp only[Env.bare];rw[ah hi]
  have Q8:E'.loc st.loc.length=some b:=by rw[←hE];simp[Env.bare]
  have pD:E.loc st.loc.length=none:=hs.bW.none _ (bt _);have oO:E'.aB=E.aB:=by rw[←hE];rfl
  have oy:∀b' o',b' ≠ b→E'.w.cell? ⟨b',o',none⟩=E.w.cell? ⟨b',o',none⟩:=fun b' o' aH=>by simp only[World.cell?,fW b' aH]
  have Hm:∀x,E'.w.frozen? x=E.w.frozen? x:=fun x=>by rw[←hE];exact zQ hb x
  have hle:E.le E' := by
    refine⟨fun b' o' c' hc hv=>?_,fun i b' h=>?_,fun t n h=>⟨n,by rw[oO];exact h,bt _,fun _ b' c' bl => ?_⟩⟩
    · have aH:b' ≠ b:=fun e=>by rw[e,hr] at hc;exact hc
      exact⟨by rw[iF b' aH];exact hc,(oy b' o' aH).trans hv⟩
    · rw[cG i (fun e=>by rw[e,pD] at h;simp at h)];exact h
    · have aH:b' ≠ b:=fun e=>by rw[e,hr] at bl;simp at bl
      exact⟨by rw[iF b' aH];exact bl,fun cs' e' hcs=>⟨cs',(fW b' aH).trans hcs,rfl⟩⟩
  refine⟨⟨?_,?_,?_,by rw[bK];exact hf.size,fun x=>(Hm x).trans (hf.ew x),fun b' o' c' hc hv=>?_,fun t n h=>?_,fun b' ag h=>?_,fun b' ag h=>?_,fun b' t c' ag h=>?_,fun b' i ag h=>?_,fun b' c' e' h=>by
    have ag:=iK (w:=E0.w) h;have aH:b' ≠ b:=by omega
    obtain⟨c1,h1,h2⟩:=hf.shape b' c' e' h;exact⟨c1,(fW b' aH).trans h1,h2⟩⟩,⟨⟨fun b' ds h=>?_,fun t n h=>by rw[oO];exact hs.ok.aB t n h,fun b' h=>?_,by rw[oO];exact hs.ok.nt,fun b cs hc=>cJ.mono _ hle.nl (hs.ok.bH b cs hc)⟩,⟨fun i ds h=>?_,fun i hi=>?_⟩,hs.defers,?_⟩⟩
  · rw[←hf.os,←hE];rfl
  · rw[←hf.output,←hE];rfl
  · rw[←hf.tape,←hE];rfl
  · obtain⟨h1,h2⟩:=hf.cell b' o' c' hc hv;have aH:b' ≠ b:=fun e=>by rw[e,hr] at h1;exact h1
    exact⟨by rw[iF b' aH];exact h1,(oy b' o' aH).trans h2⟩
  · obtain⟨n',h1,h2,h3⟩:=hf.tok t n h;refine⟨n',by rw[oO];exact h1,h2,fun e b' c' bl => ?_⟩;obtain⟨h4,h5⟩:=h3 e b' c' bl;have aH:b' ≠ b:=fun e=>by rw[e,hr] at h4;simp at h4
    refine⟨by rw[iF b' aH];exact h4,fun cs' e' hcs=>?_⟩;obtain⟨F6,h6,h7⟩:=h5 cs' e' hcs;exact⟨F6,(fW b' aH).trans h6,h7⟩
  · obtain⟨h1,h2⟩:=hf.same b' ag h;have aH:b' ≠ b:=by omega
    exact⟨(fW b' aH).trans h1,(iF b' aH).trans h2⟩
  · have aH:b' ≠ b:=by omega
    rw[iF b' aH] at h;exact hf.zq b' ag h
  · have aH:b' ≠ b:=by omega
    rw[iF b' aH] at h;exact hf.zr b' t c' ag h
  · have aH:b' ≠ b:=by omega
    rw[iF b' aH] at h;exact hf.xn b' i ag h
  · obtain⟨h1,h2⟩:=hs.ok.box b' ds h;have aH:b' ≠ b:=fun e=>by rw[e,hr] at h1;simp at h1
    exact⟨by rw[iF b' aH];exact h1,gx.mono hle.nl (fW b' aH) h2⟩
  · rw[bK] at h;have ag:b<E.w.heap.size:=iK hb;rw[iF b' (by omega)];exact hs.ok.fresh b' h
  · by_cases hi:i=st.loc.length
    · subst hi;simp only[List.getElem?_concat_length,aG] at h;subst h;refine⟨b,Q8,lX,vs.toArray,e,jG,by have:=dS hv;simp;omega,fun j x hj=>?_⟩;obtain⟨u,h1,h2⟩:=nr hv j x hj;exact⟨u,by simpa using h1,h2.mono _ hle⟩
    · have ag:i<st.loc.length:=by
        have:=(dj.1 h).1
        simp at this;omega
      rw[nk ag] at h;obtain⟨b',h1,h2,h3⟩:=hs.bW.box i ds h;have aH:b' ≠ b:=fun e=>by rw[e,hr] at h2;simp at h2
      exact⟨b',by rw[cG i hi];exact h1,by rw[iF b' aH];exact h2,gx.mono hle (fW b' aH) h3⟩
  · simp at hi;rw[cG i (by omega)];exact hs.bW.none i (by omega)
  · have h1:=RL.mono _ hle hs.slot;have hp:R E' (.ptr (.loc st.loc.length) 0) (.pointer (some ⟨b,0,none⟩)):=by simp only[R];exact⟨b,Q8,rfl⟩
    have h2:=Ca h1 d hp
    have:a.tmps.toList.set d (.pointer (some ⟨b,0,none⟩))=a.tmps.toList:=by
      have ag:=(fG.1 hd).1
      have:a.tmps.toList[d]'(by simpa using ag) = .pointer (some ⟨b,0,none⟩):=by
        have:=(fG.1 hd).2;simpa using this
      rw[←this];exact V9 (by simpa using ag)
    rw[this] at h2;exact h2
section
variable {P:Program} {ops:Array Oper} {l:List (AO × List Nat)} {b:List Nat}
def Wc (P:Program) (ops:Array Oper) (N:Nat) (E0:Env) (listed:Array Bool) (E:Env) (a:Act):Prop :=
  a.tmps.size=N∧∃B:Nat→Nat,∀(i:Nat) o d t,ops[i]?=some o→kB o=some (d,t)→listed.getD i false=true→(∀(j:Nat) o' x,ops[j]?=some o' → kE o' = some (d,t,x)→listed.getD j false=false) →
    a.tmps[d]?=some (.pointer (some ⟨B i,0,none⟩))∧E.role (B i) = .jZ∧(∃c e,E.w.heap[B i]?=some (.cells c e (0,0))∧cO P t=some c.size)∧E0.w.heap.size≤B i ∧
    ∀(i' : Nat) o' d' t',ops[i']?=some o' → kB o' = some (d',t')→listed.getD i' false=true→(∀(j:Nat) o' x,ops[j]?=some o' → kE o' = some (d',t',x)→listed.getD j false=false)→i≠i' → B i≠B i'
theorem rh {listed:Array Bool} {i j:Nat} (h:i<listed.size):(listed.setIfInBounds i true).getD j false=(decide (j=i)||listed.getD j false):=by
  by_cases dL:j=i
  · subst dL;simp[h]
  · rw[mw,wI (Ne.symm dL),←mw];simp[dL]
theorem Ss {o:Oper} {x:AO} (h:AX P ops o=some x):(∃d t z n,kB o=some (d,t)∧gW P t=some z∧cO P t=some n∧z.length=n∧x=⟨none,.mv (.c .any),none⟩) ∨
    (∃d t y n q,kE o=some (d,t,y)∧isVar ops d t=true∧cO P t=some n∧bN P t y=some q∧x=⟨some d,.kH n q,none⟩)∨(nW P ops o=some x∧kB o=none∧∀d t y,kE o=some (d,t,y)→isVar ops d t=false):=by
  unfold AX at h;split at h
  · rename_i d t hv;split at h
    · rename_i z n hz hn;split at h
      · rename_i hl;simp only[aG] at h;exact .inl ⟨d,t,z,n,hv,hz,hn,hl,h.symm⟩
      · simp at h
    · simp at h
  · rename_i hv;split at h
    · rename_i d t y hs;split at h
      · rename_i hi;split at h
        · rename_i n q hn hq;simp only[aG] at h;exact .inr (.inl ⟨d,t,y,n,q,hs,hi,hn,hq,h.symm⟩)
        · simp at h
      · rename_i hi;exact .inr (.inr ⟨h,hv,fun d' t' y' e=>by rw[hs] at e;simp only[aG,jW] at e;obtain⟨rfl,rfl,_⟩:=e;simpa using hi⟩)
    · rename_i hs;exact .inr (.inr ⟨h,hv,fun d t y e=>by rw[hs] at e;simp at e⟩)
theorem ZY {nv:List Nat} {id:Nat} (hl:DQ P ops=some (nv,l)) {K:St→Prop} {st:St} (Rc:∀d∈nv,d<st.t.length∧st.t.getD d .any = .any) (h:bE P l [(st.loc,st.out)] [] K st) :
    fL P (.region id ops true) (fun e al => e = .normal∧K al) st:=by
  obtain⟨b,F,jY,hf,FA,rfl,lU⟩:=aio hl;intro E0 a0 Dj;have aqr:=F.size
  -- what a pair of a new variable and its store is like
  have Aw:∀(i:Nat) o d t,ops[i]?=some o→kB o=some (d,t)→isVar ops d t=true:=fun i o d t ho hv=>by
    unfold isVar;rw[za];exact⟨o,by simpa using KF ho,by simp[hv]⟩
  have af5:∀d t,isVar ops d t=true→∃(i:Nat) (o:Oper),ops[i]?=some o∧kB o=some (d,t):=fun d t h=>by
    unfold isVar at h;rw[za] at h;obtain⟨o,h1,h2⟩:=h;split at h2
    · rename_i d' t' hv;simp only[bm,xq] at h2;obtain⟨rfl,rfl⟩:=h2;obtain⟨i,hi⟩:=V7.1 h1;exact⟨i,o,by simpa using hi,hv⟩
    · simp at h2
  -- a store that is one of these has the variable's slot
  have Dm:∀(j:Nat) o d t x,ops[j]?=some o→kE o=some (d,t,x)→isVar ops d t=true→∃y:AO × List Nat,l[j]?=some y∧y.1.dst=some d:=fun j o d t x ho hv hi=>by
    obtain⟨y,h1,h2⟩:=lU j o ho
    rcases Ss h2 with ⟨d',t',z,n,k1,_⟩ | ⟨d',t',y',n,q,k1,_,_,_,k2⟩ | ⟨_,_,k3⟩
    · obtain⟨e1,_⟩:=Kd k1;obtain⟨e2,_⟩:=Vv hv;rw[e1] at e2;simp at e2
    · rw[hv] at k1;simp only[aG,jW] at k1;obtain⟨rfl,_⟩:=k1;exact⟨y,h1,by rw[k2]⟩
    · rw[k3 d t x hv] at hi;simp at hi
  refine Pv (X:=Wc P ops a0.tmps.size E0) F jY hf h Dj (fun E' => ⟨rfl,fun _=>0,fun i o d t _ _ fc => by
    exfalso
    by_cases hj:i<ops.size<;>simp[hj] at fc⟩) fun i o ho=>?_
  obtain⟨x,hx,hxo⟩:=lU i o ho;have aqk:i<ops.size:=(fG.1 ho).1;refine⟨x,hx,?_⟩
  rcases Ss hxo with ⟨d,t,z,n,hv,hz,hn,hzn,qR⟩ | ⟨d,t,y,n,q,hv,HU,hn,hq,qR⟩ | ⟨pA,RB,yp⟩
  · -- a variable is made
    right;obtain⟨v1,v2,v3⟩:=Kd hv;obtain⟨iz,zv,z1,z2,z3,z4⟩:=o_ hz;refine⟨v3,by rw[qR],fun E a t' s v s' listed Q nO tR G9 QU jG hs aQ hX iG=>?_⟩;rw[qR] at iG ⊢;obtain⟨rfl,iG⟩:=iG;obtain rfl:s=s' := by have:=gj (fun q:St=>(q.loc,q.out)) iG;simp only[br,jW] at this;exact Prod.ext this.1 this.2
    simp only[ij];have QY:d∈DU ops:=by unfold DU;rw[KX];exact⟨o,by simpa using KF ho,by simp[hv]⟩
    have afs:t'.getD d .any = .any:=by
      rw[jG d fun j y hy vJ=>?_]
      · exact(Rc d QY).2
      · obtain⟨j0,o0,x0,k1,k2,k3⟩:=FA.st i o d t ho hv;obtain⟨y0,k4,k5⟩:=Dm j0 o0 d t x0 k1 k2 (Aw i o d t ho hv)
        have:j=j0:=by
          rcases Nat.decEq j j0 with aH | he
          · exact absurd vJ (F.dst j j0 y y0 hy k4 aH d k5)
          · exact he
        subst this;exact QU j (by rw[jY];exact(fG.1 k1).1) k3
    obtain⟨tG,b_⟩:=ai1 (c:=zv.cells) (t:=t) hs;have cg:(execOp a.eval o).run P E.w = .ok (.value (.pointer (some ⟨E.w.heap.size,0,none⟩))) (E.w.alloc (.cells zv.cells t)):=by
      simp[execOp,v1,Instr.alloc,zeroValue,typeInfo,z1,z2,newVar,newRow]
    unfold Oper.wp;rw[cg];simp only[Oper.upon,v2];refine⟨E.n5 zv.cells t,rfl,?_,aQ.trans tG,?_⟩
    · have:=a7.put b_ (v:=.any) (x:=.pointer (some ⟨E.w.heap.size,0,none⟩)) (by simp[R]) (some d)
      rw[Bb] at this;simp only[ij,anl afs] at this;exact this
    · obtain⟨hN,B,hB⟩:=hX;have fe:(E.n5 zv.cells t).w.heap[E.w.heap.size]?=some (.cells zv.cells t (0,0)):=heap_alloc_new E.w _;have gf:zv.cells.size=n:=by have:=dS (nz (E:=E) z3);rw[←hzn];simp at this;omega
      refine⟨by simp[Act.put,hN],fun k=>if k=i then E.w.heap.size else B k,fun k o' d' n8 dz ff fc dO=>?_⟩;have AE : ∀(j:Nat) o' x,ops[j]?=some o' → kE o' = some (d',n8,x)→listed.getD j false=false:=fun j o2 x2 h1 h2=>by
        have:=dO j o2 x2 h1 h2
        rw[rh nO] at this;simp only[wM] at this;exact this.2
      rw[rh nO] at fc
      by_cases nN:k=i
      · subst nN;rw[ho] at dz;simp only[aG] at dz;subst dz;rw[hv] at ff;simp only[aG,jW] at ff;obtain⟨rfl,rfl⟩:=ff;simp only[dP];have C6:d<a.tmps.size:=by
          have:=(Rc d QY).1
          have h0:=dS Dj.slot;simp at h0;omega
        refine⟨by simp[Act.put,C6],by simp[Env.n5],⟨_,_,fe,by rw[gf];exact hn⟩,sS aQ.size (bt _),fun i' o' d' t' dz ff Q7 agf aH=>?_⟩;simp only[ah (Ne.symm aH)];have HQ:∀(j:Nat) o' x,ops[j]?=some o' → kE o' = some (d',t',x)→listed.getD j false=false:=fun j o2 x2 h1 h2=>by
          have:=agf j o2 x2 h1 h2
          rw[rh nO] at this;simp only[wM] at this;exact this.2
        rw[rh nO] at Q7;have qL:listed.getD i' false=true:=by simpa [Ne.symm aH] using Q7
        obtain⟨_,_,⟨c,e,hc,_⟩,_⟩:=hB i' o' d' t' dz ff qL HQ
        have:=iK hc
        omega
      · simp only[ah nN];have kl:listed.getD k false=true:=by simpa [nN] using fc
        obtain⟨g1,g2,⟨c,e,g3,g4⟩,g5,g6⟩:=hB k o' d' n8 dz ff kl AE;have ag:=iK g3;have vr:d' ≠ d:=fun e=>by subst e;exact nN (FA.uniq k i o' o d' n8 t dz ho ff hv)
        refine⟨by simp only[Act.put];rw[wI (Ne.symm vr)];exact g1,by simp only[Env.n5];rw[ah (by omega)];exact g2,⟨c,e,((Ext.refl E.w).alloc zv.cells t).block _ ag |>.trans g3,g4⟩,g5,fun i' o2 d2 t2 oH qP qL oJ aH=>?_⟩;have HQ:∀(j:Nat) o' x,ops[j]?=some o' → kE o' = some (d2,t2,x)→listed.getD j false=false:=fun j o3 x3 h1 h2=>by
          have:=oJ j o3 x3 h1 h2
          rw[rh nO] at this;simp only[wM] at this;exact this.2
        by_cases cD : i' = i
        · simp only[aw cD];omega
        · simp only[ah cD];rw[rh nO] at qL;exact g6 i' o2 d2 t2 oH qP (by simpa [cD] using qL) HQ aH
  · -- its first store
    right;obtain⟨v1,v2,v3⟩:=Vv hv;refine⟨v3,by rw[qR],fun E a t' s v s' listed Q nO tR G9 QU jG hs aQ hX iG=>?_⟩;rw[qR] at iG ⊢;simp only[aq.aL] at iG;obtain⟨qQ,dH,rfl,iG⟩:=iG;obtain rfl:(s.1++[(ev (br t' s) q).cells],s.2)=s' := by have:=gj (fun q:St=>(q.loc,q.out)) iG;simp only[br,jW] at this;exact Prod.ext this.1 this.2
    simp only[ij];obtain⟨i0,o0,k1,k2⟩:=af5 d t HU;obtain⟨j0,oj,xj,m1,m2,m3⟩:=FA.st i0 o0 d t k1 k2;have nM:j0=i:=by
      obtain⟨y0,k4,k5⟩:=Dm j0 oj d t xj m1 m2 HU
      rcases Nat.decEq j0 i with aH | he
      · have:=F.dst i j0 x y0 hx k4 (Ne.symm aH) d k5
        rw[qR] at this;exact absurd rfl this
      · exact he
    subst nM;rw[ho] at m1;simp only[aG] at m1;subst m1;have Rx:∀(j:Nat) o' x,ops[j]?=some o' → kE o' = some (d,t,x)→j=j0:=fun j o' x' h1 h2=>by
      obtain⟨y0,k4,k5⟩:=Dm j o' d t x' h1 h2 HU
      rcases Nat.decEq j j0 with aH | he
      · have:=F.dst j0 j x y0 hx k4 (Ne.symm aH) d k5
        rw[qR] at this;exact absurd rfl this
      · exact he
    obtain⟨hN,B,hB⟩:=hX;obtain⟨g1,g2,⟨c,e,g3,g4⟩,g5,g6⟩:=hB i0 o0 d t k1 k2 (G9 i0 m3) fun j o' x' h1 h2=>by rw[Rx j o' x' h1 h2];exact tR
    have hR:=kr (E:=E) (st:=br t' s) (a:=a) hs.slot hq;obtain⟨ou,bK⟩:=sW hR qQ;have hcs:c.size=n:=by rw[hn] at g4;simpa using g4.symm
    have cg:=JC (P:=P) (off:=0) hn g3 bK (by omega) (sf ou dH);obtain⟨f1,f2⟩:=Xl hs aQ g2 g5 g3 ou g1;have fe:(c.toList.take 0++(a.eval y).cells.toList++c.toList.drop (0+n)).toArray=(a.eval y).cells.toList.toArray:=by
      rw[KO (by simp;omega)];simp
    rw[fe] at cg;have hde:a.eval (.tmp d) = .pointer (some ⟨B i0,0,none⟩):=by simp[Act.eval,mw,g1]
    unfold Oper.wp;rw[show (execOp a.eval o).run P E.w = .ok .skip (E.w.setRow (B i0) (a.eval y).cells.toList.toArray) from by simp[execOp,v1,hde,Ek cg]];simp only[Oper.upon,v2];refine⟨_,rfl,f2,f1,hN,B,fun k o' d' n8 dz ff fc dO=>?_⟩;have hkd:d' ≠ d:=fun e=>by
      subst e;have e1:=FA.uniq k i0 o' o0 d' n8 t dz k1 ff k2;subst e1;rw[k1] at dz;simp only[aG] at dz;subst dz;rw[k2] at ff;simp only[aG,jW] at ff;obtain⟨_,rfl⟩:=ff
      have:=dO j0 o y ho hv
      rw[rh nO] at this;simp at this
    have Al:k≠i0:=by rintro rfl;rw[k1] at dz;simp only[aG] at dz;subst dz;rw[k2] at ff;simp only[aG,jW] at ff;exact hkd ff.1.symm
    have Ra:∀(k:Nat) o',ops[k]?=some o' → (kB o').isSome=true→k≠j0:=fun k o' dz b_ => by
      rintro rfl;rw[ho] at dz;simp only[aG] at dz;subst dz;cases hq:kB o with
      | none=>rw[hq] at b_;simp at b_
      | some p=>obtain⟨p1,p2⟩:=p;rw[(Kd hq).1] at v1;simp at v1
    have conv:∀{d t},(∀(j:Nat) o' x,ops[j]?=some o' → kE o' = some (d,t,x)→(listed.setIfInBounds j0 true).getD j false=false)→∀(j:Nat) o' x,ops[j]?=some o' → kE o' = some (d,t,x)→listed.getD j false=false:=fun {d t} h j o2 x2 h1 h2=>by
      have:=h j o2 x2 h1 h2
      rw[rh nO] at this;simp only[wM] at this;exact this.2
    have Hr:=Ra k o' dz (by simp[ff]);rw[rh nO] at fc;have kl:listed.getD k false=true:=by simpa [Hr] using fc
    obtain⟨p1,p2,⟨c',e',p3,p4⟩,p5,p6⟩:=hB k o' d' n8 dz ff kl (conv dO);have oE:B k≠B i0:=p6 i0 o0 d t k1 k2 (G9 i0 m3) (fun j o' x' h1 h2=>by rw[Rx j o' x' h1 h2];exact tR) Al;refine⟨p1,by simp only[Env.bare];rw[ah oE];exact p2,⟨c',e',by simp only[Env.bare];rw[setRow_other E.w (B i0) (B k) _ oE];exact p3,p4⟩,p5,fun i' o2 d2 t2 oH qP qL oJ aH=>?_⟩;rw[rh nO] at qL;exact p6 i' o2 d2 t2 oH qP (by simpa [Ra i' o2 oH (by simp[qP])] using qL) (conv oJ) aH
  · -- any other step
    left;refine⟨pA,fun listed E E' a u hX hH => ?_⟩;obtain⟨hN,B,hB⟩:=hX;have jx:x.1.dst=o.dst:=by
      unfold nW at pA;split at pA
      · simp at pA
      · split at pA
        · simp only[aG] at pA;rw[←pA]
        · split at pA
          · simp only[aG] at pA;rw[←pA]
          · simp at pA
    have bK:(a.put o.dst u).tmps.size=a.tmps.size:=by cases o.dst<;>simp[Act.put]
    refine⟨by rw[bK];exact hN,B,fun k o' d' n8 dz ff fc dO=>?_⟩;have nN:k≠i:=by rintro rfl;rw[ho] at dz;simp only[aG] at dz;subst dz;rw[RB] at ff;simp at ff
    have Hv : ∀k,k≠i→(listed.setIfInBounds i true).getD k false=listed.getD k false:=fun k hk=>by
      rw[mw,wI (Ne.symm hk),←mw]
    have conv:∀{d t},isVar ops d t=true→(∀(j:Nat) o' x,ops[j]?=some o' → kE o' = some (d,t,x)→(listed.setIfInBounds i true).getD j false=false)→∀(j:Nat) o' x,ops[j]?=some o' → kE o' = some (d,t,x)→listed.getD j false=false:=fun {d t} yc h j o2 x2 h1 h2=>by
      have:=h j o2 x2 h1 h2
      rw[Hv j (by rintro rfl;rw[ho] at h1;simp only[aG] at h1;subst h1;rw[yp _ _ _ h2] at yc;simp at yc)] at this;exact this
    rw[Hv k nN] at fc;obtain⟨g1,g2,⟨c,e,g3,g4⟩,g5,g6⟩:=hB k o' d' n8 dz ff fc (conv (Aw k o' d' n8 dz ff) dO);have ag:=iK g3;obtain⟨h1,h2⟩:=hH.same _ ag (.inr g2);obtain⟨j0,oj,xj,m1,m2,m3⟩:=FA.st k o' d' n8 dz ff;obtain⟨y0,k4,k5⟩:=Dm j0 oj d' n8 xj m1 m2 (Aw k o' d' n8 dz ff);have vr:o.dst≠some d' := fun hd=>by
      have aH:i≠j0:=by rintro rfl;rw[ho] at m1;simp only[aG] at m1;subst m1;have:=yp _ _ _ m2;rw[Aw k o' d' n8 dz ff] at this;simp at this
      exact F.dst i j0 x y0 hx k4 aH d' k5 (by rw[jx];exact hd)
    refine⟨?_,h2.trans g2,⟨c,e,h1.trans g3,g4⟩,g5,fun i' o2 d2 t2 oH qP qL oJ aH=>?_⟩
    · cases hod:o.dst with
      | none=>exact g1
      | some m=>simp only[Act.put];rw[wI (by rintro rfl;exact vr hod)];exact g1
    · have cD : i' ≠ i:=by rintro rfl;rw[ho] at oH;simp only[aG] at oH;subst oH;rw[RB] at qP;simp at qP
      rw[Hv i' cD] at qL;exact g6 i' o2 d2 t2 oH qP qL (conv (Aw i' o2 d2 t2 oH qP) oJ) aH
end
def BD (P:Program) (ops:Array Oper) (Q:Exit→Act→World→Prop) (N:Act→World→Prop):Nat→Array Bool→Act→World→Prop
  | 0,listed,a,w=>Region.ready .any ops listed=[]∧N a w
  | fuel+1,listed,a,w=>(Region.ready .any ops listed=[]→N a w)∧∀i∈Region.ready .any ops listed,wpOp P ops Q i (BD P ops Q N fuel (listed.setIfInBounds i true)) a w
section
variable {P:Program}
theorem Z2 {ops:Array Oper} {l:List (AO × List Nat)} {b:List Nat} (F:sM ops l b) (jY:b.length=ops.size) {K:St→Prop} {st:St} (h:bE P l [(st.loc,st.out)] [] K st) {E:Env} {a:Act} (hs:a7 E st a) {X:Array Bool→Env→Act→Prop}
    {Q:Exit→Act→World→Prop} {N:Act→World→Prop} (hN:∀E' al a',a7 E' al a' → Fr E E' → K al → N a' E'.w) (GZ:∀E',X (Array.replicate ops.size false) E' a)
    (lU:∀(i:Nat) o,ops[i]?=some o→∃x:AO × List Nat,l[i]?=some x∧((nW P ops o=some x.1∧∀listed E E' a u,X listed E a→Fr E E' → X (listed.setIfInBounds i true) E' (a.put o.dst u))∨Spec P l b st.t E X i o x.1)) :
    BD P ops Q N ops.size (Array.replicate ops.size false) a {E.w with drawn:=E.w.drawn+1}:=by
  obtain⟨aQ,_,km⟩:=yM hs ((Ext.refl E.w).drew);obtain⟨tr,ht,_,hK⟩:=Bv (t:=st.t) (s:=(st.loc,st.out)) h;have nJ:[(st.loc,st.out)]++gQ tr=(st.loc,st.out)::gQ tr:=rfl;rw[nJ] at ht;have hlen:=zk ht;have key:∀(fuel:Nat) (listed:Array Bool) (a:Act) (w:World),uJ ops tr st.t (st.loc,st.out) E X listed a w→listed.toList.count false≤fuel →
      BD P ops Q N fuel listed a w:=by
    have done:∀(listed:Array Bool) (a:Act) (w:World),uJ ops tr st.t (st.loc,st.out) E X listed a w→Region.ready .any ops listed=[] →
        N a w:=fun listed a w h hr=>by
      have bT:∀n j,j<n→j<ops.size→listed.getD j false=true:=by
        intro n;induction n with
        | zero=>intro j h;omega
        | succ n ih =>
          intro j hj fz;cases hq:listed.getD j false with
          | true=>rfl
          | false =>
            have:j∈Region.ready .any ops listed:=mem_ready.2 ⟨by rw[ot _ _ (by rw[h.size];exact fz)];exact hq,ops[j],fF fz,fun e he hb=>by
              have:=F.back j _ (fF fz) e he hb
              exact ih e.on (by omega) (by omega)⟩
            rw[hr] at this;simp at this
      obtain⟨E',h1,h2,h3,_⟩:=h.rel;rw[JK (fun j hj=>by rw[gh];exact bT (j+1) j (by omega) (by rw[←F.size,hlen];exact hj))] at h2;rw[←h1];exact hN E' _ _ h2 h3 hK
    intro fuel;induction fuel with
    | zero =>
      intro listed a w h hc;have hr:Region.ready .any ops listed=[]:=by
        cases hq:Region.ready .any ops listed with
        | nil=>rfl
        | cons j js =>
          obtain⟨h1,o,ho,_⟩:=mem_ready.1 (show j∈Region.ready .any ops listed by rw[hq];simp);have ag:j<listed.size:=by rw[h.size];exact(fG.1 ho).1
          have:false∈listed.toList:=by
            have e:listed[j]?=some false:=by
              rw[fF ag];simpa [ag] using h1
            exact wP (by simpa using e)
          have:=KM.2 this
          omega
      exact⟨hr,done listed a w h hr⟩
    | succ fuel ih =>
      intro listed a w h hc;refine⟨fun hr=>done listed a w h hr,fun i hi=>?_⟩;refine F8 F jY rfl ht h hi (lU i) fun a w h' => ih _ a w h' ?_
      obtain⟨h1,o,ho,_⟩:=mem_ready.1 hi;have ag:i<listed.size:=by rw[h.size];exact(fG.1 ho).1
      have e:listed.toList[i]?=some false:=by
        have:listed[i]?=some false:=by
          rw[fF ag];simpa [ag] using h1
        simpa using this
      have:=count_set listed.toList i e
      simp only[EV];omega
  have pD:∀j,(Array.replicate ops.size false).getD j false=false:=fun j=>by
    by_cases hj:j<ops.size<;>simp[hj]
  have kQ:∀(tr:List TR) (q:Nat),bG (fun j=>(Array.replicate ops.size false).getD j false) q tr=[]:=by
    intro tr;induction tr with
    | nil=>intro q;rfl
    | cons r tr ih=>intro q;rw[bG,ah (by rw[pD];simp)];exact ih _
  refine key ops.size _ a _ ⟨by simp,fun i o _ hi=>by rw[pD] at hi;simp at hi,{E with w:=E.w.drew},rfl,?_,aQ,GZ _⟩ (by simp);rw[kQ];exact km
def J1 (ops:Array Oper) (b:List Nat) (k:Nat):Bool :=
  decide (k<ops.size)&&ops.toList.zipIdx.all fun x =>
    (x.1.after.toList.all fun e=>!Region.binds .any e||decide (e.on<x.2))&&decide (b.getD x.2 0=A9 b x.1)&&(decide (x.2<k)||(List.range x.2).all fun j=>(b.getD x.2 0).testBit j)
structure Lj (ops:Array Oper) (b:List Nat) (k:Nat):Prop where
  lt:k<ops.size
  back:∀(i:Nat) o,ops[i]?=some o→∀e∈o.after,Region.binds .any e=true→e.on<i
  mask:∀(i:Nat) o,ops[i]?=some o→∀j,(b.getD i 0).testBit j=true→∃e∈o.after,Region.binds .any e=true∧(j=e.on∨(b.getD e.on 0).testBit j=true)
  all:∀(i:Nat) o,ops[i]?=some o→k≤i→∀j,j<i→(b.getD i 0).testBit j=true
theorem an6 {ops:Array Oper} {b:List Nat} {k:Nat} (h:J1 ops b k=true):Lj ops b k:=by
  unfold J1 at h;simp only[bm,cq,la] at h;obtain⟨h1,h2⟩:=h;have mem:∀(i:Nat) o,ops[i]?=some o→(o,i)∈ops.toList.zipIdx:=fun i o ho=>by
    rw[B1];simpa using ho
  refine⟨h1,fun i o ho e he hb=>?_,fun i o ho j hj=>?_,fun i o ho hk j hj=>?_⟩
  · have:=(h2 _ (mem i o ho)).1.1 e (by simpa using he)
    simpa [hb] using this
  · rw[(h2 _ (mem i o ho)).1.2] at hj;exact S6 hj
  · have:=(h2 _ (mem i o ho)).2
    simp only[jS,cq,la,uV] at this
    rcases this with h | h
    · omega
    · exact h j hj
def rB (ops:Array Oper) (listed:Array Bool):Prop:=∀(i:Nat) o,ops[i]?=some o→listed.getD i false=true→∀e∈o.after,Region.binds .any e=true→listed.getD e.on false=true
section
variable {ops:Array Oper} {b:List Nat} {k:Nat} (F:Lj ops b k)
include F
theorem anD {listed:Array Bool} (hs:rB ops listed):∀(n i:Nat) o,i<n→ops[i]?=some o→listed.getD i false=true→∀j,(b.getD i 0).testBit j=true→listed.getD j false=true:=by
  intro n;induction n with
  | zero=>intro i o h;omega
  | succ n ih =>
    intro i o hi ho hl j hj;obtain⟨e,he,hb,h⟩:=F.mask i o ho j hj;have hon:=F.back i o ho e he hb;have hle:=hs i o ho hl e he hb
    rcases h with rfl | h
    · exact hle
    · have ag:=(fG.1 ho).1;exact ih e.on ops[e.on] (by omega) (fF (by omega)) hle j h
theorem T1 {listed:Array Bool} (hs:rB ops listed) {i:Nat} (hi:i∈Region.ready .any ops listed) {j:Nat} (hj:(b.getD i 0).testBit j=true):listed.getD j false=true:=by
  obtain⟨_,o,ho,bT⟩:=mem_ready.1 hi;obtain⟨e,he,hb,h⟩:=F.mask i o ho j hj;have hle:=bT e he hb
  rcases h with rfl | h
  · exact hle
  · have hon:=F.back i o ho e he hb;have ag:=(fG.1 ho).1;exact anD F hs (e.on+1) e.on ops[e.on] (by omega) (fF (by omega)) hle j h
omit F in
theorem UW {listed:Array Bool} (hs:rB ops listed) {i:Nat} (hi:i∈Region.ready .any ops listed):rB ops (listed.setIfInBounds i true):=by
  obtain⟨_,o,ho,bT⟩:=mem_ready.1 hi;intro j o' dz hl e he hb;have up:listed.getD e.on false=true→(listed.setIfInBounds i true).getD e.on false=true:=fun h=>by
    by_cases qK:i=e.on
    · rw[←qK] at h ⊢
      by_cases ag:i<listed.size
      · simp[ag]
      · simp[ag] at h
    · rw[getD_set_ne false qK];exact h
  by_cases nM:i=j
  · subst nM;obtain rfl:o=o' := lM (ho.symm.trans dz);exact up (bT e he hb)
  · rw[getD_set_ne false nM] at hl;exact up (hs j o' dz hl e he hb)
theorem T2 {listed:Array Bool} (bK:listed.size=ops.size) (h:Region.ready .any ops listed=[]):∀n j,j<n→j<ops.size→listed.getD j false=true:=by
  intro n;induction n with
  | zero=>intro j h;omega
  | succ n ih =>
    intro j hj fz;cases hq:listed.getD j false with
    | true=>rfl
    | false =>
      have:j∈Region.ready .any ops listed:=mem_ready.2 ⟨by rw[ot _ _ (by rw[bK];exact fz)];exact hq,ops[j],fF fz,fun e he hb=>by
        have:=F.back j _ (fF fz) e he hb
        exact ih e.on (by omega) (by omega)⟩
      rw[h] at this;simp at this
theorem an8 {Q:Exit→Act→World→Prop}:∀(fuel q:Nat) (listed:Array Bool) (a:Act) (w:World),k≤q→q≤ops.size→ops.size - q≤fuel→listed.size=ops.size→rB ops listed→(∀j,j<ops.size→(listed.getD j false=true↔j<q)) →
    wpOps P ops Q (List.range' q (ops.size - q)) a w→wpAny P .any ops Q fuel listed a w:=by
  have ajo:∀(q:Nat) (listed:Array Bool),q=ops.size→listed.size=ops.size→(∀j,j<ops.size→(listed.getD j false=true↔j<q))→Region.ready .any ops listed=[]:=fun q listed hq bK hl=>by
    cases hr:Region.ready .any ops listed with
    | nil=>rfl
    | cons j js =>
      obtain⟨h1,o,ho,_⟩:=mem_ready.1 (show j∈Region.ready .any ops listed by rw[hr];simp);have ag:=(fG.1 ho).1
      have:=(hl j ag).2 (by omega)
      rw[ot _ _ (by omega)] at h1;rw[h1] at this;simp at this
  intro fuel;induction fuel with
  | zero =>
    intro q listed a w hk hq hf bK hs hl h;have HG:q=ops.size:=by omega
    subst HG;rw[Fw] at h;exact⟨ajo _ listed rfl bK hl,h⟩
  | succ fuel ih =>
    intro q listed a w hk hq hf bK hs hl h;refine⟨fun hr=>?_,fun i hi=>?_⟩
    · have bT:=T2 F bK hr ops.size;have HG:q=ops.size:=by
        rcases mz q ops.size with ag | pz
        · have:=(hl q ag).1 (bT q ag ag);omega
        · omega
      subst HG;rw[Fw] at h;exact h
    · obtain⟨h1,o,ho,_⟩:=mem_ready.1 hi;have ag:=(fG.1 ho).1;rw[ot _ _ (by omega)] at h1;have Rk:q≤i:=by
        rcases mz i q with h2 | h2
        · rw[(hl i ag).2 h2] at h1;simp at h1
        · exact h2
      have hiq:i=q:=by
        rcases mz q i with h2 | h2
        · have:=T1 F hs hi (F.all i o ho (by omega) q h2)
          have:=(hl q (by omega)).1 this;omega
        · omega
      subst hiq;rw[show ops.size - i=(ops.size - (i+1))+1 by omega,wQ,wpOps_cons] at h;refine wpOp_mono (fun a w h' => ih (i+1) _ a w (by omega) (by omega) (by omega) (by simpa using bK) (UW hs hi) (fun j hj=>?_) h') h
      by_cases nM:i=j
      · subst nM;simp[bK,hj]
      · rw[getD_set_ne false nM,hl j hj];omega
theorem Wu {Q:Exit→Act→World→Prop} {N:Act→World→Prop} (hg:∀(i:Nat) o,i<k→ops[i]?=some o→∀j want,o.guard=some (j,want)→j<k) (hN:∀a w,N a w→wpOps P ops Q (List.range' k (ops.size - k)) a w) :
    ∀(fuel:Nat) (l1 listed:Array Bool) (a:Act) (w:World),l1.size=k→listed.size=ops.size→rB ops listed→(∀j,j<k→listed.getD j false=l1.getD j false)→(∀j,k≤j→j<ops.size→listed.getD j false=false) →
      BD P (ops.extract 0 k) Q N fuel l1 a w→wpAny P .any ops Q (fuel+(ops.size - k)) listed a w:=by
  have HR:(ops.extract 0 k).size=k:=by have:=F.lt;simp;omega
  have kh:∀i,i<k→(ops.extract 0 k)[i]?=ops[i]?:=fun i hi=>by
    have:=F.lt
    rw[EU];simp;intro h;omega
  have ami:∀(l1 listed:Array Bool),l1.size=k→listed.size=ops.size→(∀j,j<k→listed.getD j false=l1.getD j false)→∀i,i<k→(i∈Region.ready .any (ops.extract 0 k) l1↔i∈Region.ready .any ops listed):=fun l1 listed h1 h2 hl i hi=>by
    have hk:=F.lt;rw[mem_ready,mem_ready,kh i hi,ot _ _ (by omega),ot _ _ (by omega),hl i hi];refine and_congr Iff.rfl ⟨fun⟨o,ho,h⟩=>⟨o,ho,fun e he hb=>?_⟩,fun⟨o,ho,h⟩=>⟨o,ho,fun e he hb=>?_⟩⟩
    · have:=F.back i o ho e he hb
      rw[hl e.on (by omega)];exact h e he hb
    · have:=F.back i o ho e he hb
      rw[←hl e.on (by omega)];exact h e he hb
  have ZV:∀(l1 listed:Array Bool),l1.size=k→listed.size=ops.size→(∀j,j<k→listed.getD j false=l1.getD j false)→rB ops listed→(∀j,j<k→listed.getD j false=true)→Region.ready .any (ops.extract 0 k) l1=[]:=fun l1 listed h1 h2 hl _ bT=>by
    cases hr:Region.ready .any (ops.extract 0 k) l1 with
    | nil=>rfl
    | cons j js =>
      obtain⟨h3,o,ho,_⟩:=mem_ready.1 (show j∈Region.ready .any (ops.extract 0 k) l1 by rw[hr];simp);have ag:=(fG.1 ho).1;rw[HR] at ag;rw[ot _ _ (by omega),←hl j ag,bT j ag] at h3;simp at h3
  have Vb:∀(fuel:Nat) (l1 listed:Array Bool) (a:Act) (w:World),l1.size=k→listed.size=ops.size→rB ops listed→(∀j,j<k→listed.getD j false=l1.getD j false)→(∀j,k≤j→j<ops.size→listed.getD j false=false) →
      (Region.ready .any (ops.extract 0 k) l1=[]→N a w)→(∀j,j<k→listed.getD j false=true)→wpAny P .any ops Q (fuel+(ops.size - k)) listed a w:=fun fuel l1 listed a w h1 h2 hs hl hh hn bT=>by
    refine an8 F _ k listed a w (bt _) (by have:=F.lt;omega) (by omega) h2 hs (fun j hj=>⟨fun h=>?_,fun h=>bT j h⟩) (hN a w (hn (ZV l1 listed h1 h2 hl hs bT)))
    rcases mz j k with h3 | h3
    · exact h3
    · rw[hh j h3 hj] at h;simp at h
  have Wl:∀(l1 listed:Array Bool),listed.size=ops.size→rB ops listed→Region.ready .any ops listed=[]∨(∃i∈Region.ready .any ops listed,k≤i)→∀j,j<k→listed.getD j false=true:=fun l1 listed h2 hs h j hj=>by
    have hk:=F.lt
    rcases h with h | ⟨i,hi,nN⟩
    · exact T2 F h2 h ops.size j (by omega) (by omega)
    · obtain⟨_,o,ho,_⟩:=mem_ready.1 hi;exact T1 F hs hi (F.all i o ho nN j (by omega))
  intro fuel;induction fuel with
  | zero =>
    intro l1 listed a w h1 h2 hs hl hh h;refine Vb 0 l1 listed a w h1 h2 hs hl hh (fun _=>h.2) fun j hj=>?_
    rw[hl j hj];have bT:∀n j,j<n→j<k→l1.getD j false=true:=by
      intro n;induction n with
      | zero=>intro j h;omega
      | succ n ih =>
        intro j hj rW;have hk:=F.lt;cases hq:l1.getD j false with
        | true=>rfl
        | false =>
          have:j∈Region.ready .any (ops.extract 0 k) l1:=mem_ready.2 ⟨by rw[ot _ _ (by omega)];exact hq,ops[j],by rw[kh j rW];exact fF (by omega),fun e he hb=>by
            have:=F.back j _ (fF (by omega)) e he hb
            exact ih e.on (by omega) (by omega)⟩
          rw[h.1] at this;simp at this
    exact bT k j hj hj
  | succ fuel ih =>
    intro l1 listed a w h1 h2 hs hl hh h
    by_cases hc:Region.ready .any ops listed=[]∨(∃i∈Region.ready .any ops listed,k≤i)
    · exact Vb (fuel+1) l1 listed a w h1 h2 hs hl hh h.1 (Wl l1 listed h2 hs hc)
    · rw[show fuel+1+(ops.size - k)=(fuel+(ops.size - k))+1 by omega];refine⟨fun hr=>absurd (.inl hr) hc,fun i hi=>?_⟩;have Dc:i<k:=by
        rcases mz i k with h3 | h3
        · exact h3
        · exact absurd (.inr ⟨i,hi,h3⟩) hc
      have hk:=F.lt;have mK:=(ami l1 listed h1 h2 hl i Dc).2 hi;have hw:=h.2 i mK;have hww:wpOp P ops Q i (BD P (ops.extract 0 k) Q N fuel (l1.setIfInBounds i true)) a w:=by
        unfold wpOp at hw ⊢;rw[kh i Dc] at hw;cases ho:ops[i]? with
        | none=>rw[ho] at hw;exact hw
        | some o =>
          rw[ho] at hw;have hy:Region.wanted o (yielded (ops.extract 0 k) a.tmps)=Region.wanted o (yielded ops a.tmps):=by
            unfold Region.wanted;cases jB:o.guard with
            | none=>rfl
            | some p =>
              obtain⟨j,want⟩:=p
              have:=hg i o Dc ho j want jB
              simp only[yielded,kh j this]
          simp only at hw ⊢;rw[←hy];exact hw
      refine wpOp_mono (fun a w h' => ih _ _ a w (by simpa using h1) (by simpa using h2) (UW hs hi) (fun j hj=>?_) (fun j hj fz=>?_) h') hww
      · by_cases nM:i=j
        · subst nM;simp[h1,h2,hj,show i<ops.size by omega]
        · rw[getD_set_ne false nM,getD_set_ne false nM,hl j hj]
      · rw[getD_set_ne false (by omega),hh j hj fz]
end
end
inductive AC where
  | skip
  | aa (l:List AO)
  | lH (x:AC)
  | draw (l:List (AO × List Nat))
  | s_ (nv:List Nat) (l:List (AO × List Nat))
  | hole (l:List (AO × List Nat)) (h:HI)
  | seq (x y:AC)
  | cond (c:X) (x y:AC)
  | block (id:Nat) (x:AC)
  | loop (x:AC)
  | scope (x:AC)
  | yI (l:List AO) (x:X) (dI dN dM out nxt:Nat) (y:AC)
  | exit (id:Nat)
  | ret
structure Hint where
  out:List Nat:=[]
  lH:List Nat:=[]
  tail:List Nat:=[]
def AC.yS (b:Bool) (x:AC):AC:=if b then .lH x else x
def Ix (P:Program) (hn:List Nat) (ops:Array Oper):Option (List (AO × List Nat) × List AO) :=
  match (List.range ops.size).find? (J1 ops (qW ops.toList [])) with
  | none=>none
  | some k =>
    match AZ P (ops.extract 0 k),ua P hn ops (ops.toList.drop k) with
    | some l,some m=>some (l,m)
    | _,_=>none
def DS (P:Program) (h:Hint) (iL iM:Array Oper) (pk out pJ nxt:Nat) (y:Option AC):Option AC :=
  match iL.toList.getLast?,iM.toList,y with
  | some oR, [oN, oM], some y =>
    match oR.op,oR.dst,oR.guard,oN.op,oN.dst,oN.guard,oM.op,oM.dst,oM.guard with
    | .range xt ox, some dI, none, .next (.tmp Pr) true, some dN, none, .extract (.tmp Ps) 0, some dM, none =>
      match P.underlying xt,ua P h.out iL iL.toList.dropLast,bN P xt ox with
      | some .string,some l,some x=>if Pr = dI∧Ps = dN∧pk = dM∧pJ = out then some (.yI l x dI dN dM out nxt y) else none
      | _,_,_=>none
    | _,_,_,_,_,_,_,_,_=>none
  | _,_,_=>none
def eB (P:Program) (h:Hint):Code→Option AC
  | .skip=>some .skip
  | .region id ops false=>(ua P h.out ops ops.toList).map fun l=>AC.yS (h.lH.contains id) (.aa l)
  | .region id ops true =>
    if h.tail.contains id then (Ix P h.out ops).map fun p=>AC.yS (h.lH.contains id) (.seq (.draw p.1) (.aa p.2)) else
    match AZ P ops with
    | some l=>some (AC.yS (h.lH.contains id) (.draw l))
    | none =>
      match DR P ops with
      | some p=>some (AC.yS (h.lH.contains id) (.hole p.1 p.2))
      | none=>(DQ P ops).map fun p=>AC.yS (h.lH.contains id) (.s_ p.1 p.2)
  | .seq (.region i0 iL false) (.block out (.loop (.seq (.region i1 iM false) (.seq (.cond (.tmp pk) .skip (.exit pJ)) (.block nxt b))))) =>
    match DS P h iL iM pk out pJ nxt (eB P h b) with
    | some r=>some r
    | none=>match eB P h (.region i0 iL false),eB P h (.block out (.loop (.seq (.region i1 iM false) (.seq (.cond (.tmp pk) .skip (.exit pJ)) (.block nxt b))))) with | some x,some y=>some (.seq x y) | _,_=>none
  | .seq a b=>match eB P h a,eB P h b with | some x,some y=>some (.seq x y) | _,_=>none
  | .cond c a b=>match bN P 0 c,eB P h a,eB P h b with | some c,some x,some y=>some (.cond c x y) | _,_,_=>none
  | .block id a=>(eB P h a).map (.block id)
  | .loop a=>(eB P h a).map .loop
  | .scope a=>(eB P h a).map .scope
  | .exit id=>some (.exit id)
  | .ret=>some .ret
  | .label _=>some .skip
  | _=>none
def aZ (st:St) (K:St→Prop):Prop:=∀E a,a7 E st a→∃E' al,E'.w=E.w∧Fr E E' ∧ a7 E' al a∧K al
theorem aZ.id {st:St} {K:St→Prop} (h:K st):aZ st K:=fun E _ hs=>⟨E,st,rfl,Fr.refl E,hs,h⟩
theorem aZ.bind {st:St} {K K' : St→Prop} (h:aZ st K) (k:∀al,K al → aZ al K'):aZ st K' := fun E a hs =>
  let ⟨E',al,h1,h2,h3,h4⟩:=h E a hs
  let ⟨kb,Bk,k1,k2,k3,k4⟩:=k al h4 E' a h3
  ⟨kb,Bk,k1.trans h1,h2.trans k2,k3,k4⟩
theorem aZ.mono {st:St} {K K' : St→Prop} (h:aZ st K) (k:∀al,K al → K' al):aZ st K' := h.bind fun al hk=>aZ.id (k al hk)
def pg:List Nat→List V→Option (List V)
  | [],t=>some t
  | d::ds,t=>if d<t.length then pg ds (t.set d .any) else none
theorem Oo:∀{ds:List Nat} {t t' : List V},pg ds t=some t' → t'.length=t.length∧(∀d∈ds,d<t'.length∧t'.getD d .any = .any)∧(∀d,t.getD d .any = .any→t'.getD d .any = .any)∧∀(E:Env) vs,RL E t vs→RL E t' vs
  | [],t,t',h=>by simp only[pg,aG] at h;subst h;exact⟨rfl,by simp,fun _ h=>h,fun _ _ h=>h⟩
  | d :: ds, t, t', h => by
    simp only[pg] at h;split at h
    case isFalse=>simp at h
    rename_i hd;obtain⟨h1,h2,h3,h4⟩:=Oo h;have hlen:t'.length=t.length:=by rw[h1];simp
    refine⟨hlen,fun x hx=>?_,fun x hx=>h3 x ?_,fun E vs hr=>h4 E vs ?_⟩
    · rcases iR.1 hx with rfl | hx
      · exact⟨by omega,h3 x (by simp[List.getD,hd])⟩
      · exact h2 x hx
    · by_cases e:x=d
      · subst e;simp[List.getD,hd]
      · simpa [List.getD,zf (Ne.symm e)] using hx
    · have hl:=dS hr;have hdv:d<vs.length:=by omega
      have:=Ca hr d (x:=.any) (v:=vs[d]) (by simp[R])
      simpa using this
def uN {ι:Type} (I:ι→St) (μ:ι→Nat) (Q:Exit→St→Prop) (n:Nat):Exit→St→Prop
  | .normal,st=>aZ st fun al => ∃j,al = I j∧μ j<n
  | e,st=>Q e st
def y7 (K:St→Prop) (Q:Exit→St→Prop):Exit→St→Prop
  | .normal,st=>K st
  | e,st=>Q e st
def sV (out:Nat) (J:St→Prop) (Q:Exit→St→Prop):Exit→St→Prop
  | .normal,st=>aZ st J
  | .exit id,st=>if id=out then Q .normal st else Q (.exit id) st
  | e,st=>Q e st
def wT (Q:Exit→St→Prop):Exit→St→Prop
  | .goto _,_=>False
  | e,st=>Q e st
def vc (P:Program):AC→(Exit→St→Prop)→St→Prop
  | .skip,Q,st=>Q .normal st
  | .aa l,Q,st=>bq P l (Q .normal) st
  | .draw l,Q,st=>bE P l [(st.loc,st.out)] [] (Q .normal) st
  | .hole l h,Q,st=>bE P l [(st.loc,st.out)] [] (BO h (Q .normal)) st
  | .s_ nv l,Q,st=>∃t,pg nv st.t=some t∧bE P l [(st.loc,st.out)] [] (Q .normal) ⟨t,st.loc,st.out⟩
  | .lH x,Q,st=>aZ st fun al => vc P x Q al
  | .seq x y,Q,st=>vc P x (y7 (vc P y Q) Q) st
  | .cond c x y,Q,st=>match ev st c with | .bool b=>(b=true→vc P x Q st)∧(b=false→vc P y Q st) | _=>False
  | .block id x,Q,st=>vc P x (oc id Q) st
  | .loop x,Q,st=>∃(ι:Type) (I:ι→St) (μ:ι→Nat),(aZ st fun al => ∃i,al = I i)∧∀i,vc P x (uN I μ Q (μ i)) (I i)
  | .scope x,Q,st=>vc P x (wT Q) st
  | .yI l x dI dN dM out nxt y,Q,st=>bq P l (fun ky=>∃s:List UInt8,ev ky x = .str s∧(∀c∈s,c.toNat<128)∧∃I:Nat→Nat→St→Prop,
      (∀b,aZ (ky.put (some dI) (.raw (.pointer (some ⟨b,0,none⟩)))) (I b 0)) ∧
      (∀b i al,I b i al → al.t.getD dI .any = .raw (.pointer (some ⟨b,0,none⟩))∧dN<al.t.length∧dM<al.t.length) ∧
      (∀b i c al,s[i]?=some c→I b i al → vc P y (oc nxt (sV out (I b (i+1)) Q)) ((al.put (some dN) (.aT [.bool true,.int .i64 (i:Nat),.int .i32 (c.toNat:Nat)])).put (some dM) (.bool true))) ∧
      (∀b al,I b s.length al → Q .normal ((al.put (some dN) (.aT [.bool false])).put (some dM) (.bool false)))) st
  | .exit id,Q,st=>Q (.exit id) st
  | .ret,Q,st=>Q .ret st
theorem alE {P:Program} {c:Code} {Q:Exit→St→Prop} {st:St} (h:aZ st (fL P c Q)):fL P c Q st:=by
  intro E a hs;obtain⟨E',al,h1,h2,h3,h4⟩:=h E a hs;rw[←h1];exact wp_mono (h4 E' a h3) fun _ _ _ ⟨kb,Bk,k1,k2,k3,k4⟩=>⟨kb,Bk,k1,k2,h2.trans k3,k4⟩
theorem ahJ {N:Nat→Prop}:∀n,N n→∃m,N m∧∀k,N k→m≤k:=fun n=>by
  induction n using Nat.strongRecOn with
  | ind n ih =>
    intro h
    by_cases hq:∃k,N k∧k<n
    · obtain⟨k,h1,h2⟩:=hq;exact ih k h2 h1
    · refine⟨n,h,fun k hk=>?_⟩
      by_cases ag:k<n
      · exact absurd ⟨k,hk,ag⟩ hq
      · omega
theorem aly {P:Program} {c:Code} {Q:Exit→St→Prop} {st:St} {ι:Type} (I:ι→St) (μ:ι→Nat) (h0:aZ st fun al => ∃i,al = I i) (hr:∀i,fL P c (uN I μ Q (μ i)) (I i)):fL P (.loop c) Q st:=by
  intro E a hs;obtain⟨E1,ky,h1,h2,h3,i0,rfl⟩:=h0 E a hs
  classical
  let J:Act→World→Prop:=fun a w=>∃i E',E'.w=w∧a7 E' (I i) a∧Fr E E'
  let N:Act→World→Nat→Prop:=fun a w n=>∃i E',E'.w=w∧a7 E' (I i) a∧Fr E E' ∧ μ i=n
  have hL:∀a w,(∃n,N a w n)→∃m,N a w m∧∀k,N a w k→m≤k:=fun a w h=>ahJ _ h.choose_spec
  let M:Act→World→Nat:=fun a w=>if h:∃n,N a w n then (hL a w h).choose else 0
  refine wp_loop J M ⟨i0,E1,h1,h3,h2⟩ ?_;intro a w hJ;have hex:∃n,N a w n:=by obtain⟨i,E',k1,k2,k3⟩:=hJ;exact⟨μ i,i,E',k1,k2,k3,rfl⟩
  obtain⟨i,E',k1,k2,k3,k4⟩:=(hL a w hex).choose_spec.1;have hM:M a w=μ i:=by show (if h:∃n,N a w n then (hL a w h).choose else 0)=_;rw[zE hex];exact k4.symm
  subst k1;refine wp_mono (hr i E' a k2) ?_;rintro e a' w' ⟨E2,kz,rfl,m2,m3,m4⟩;cases e with
  | normal =>
    obtain⟨E3,uA,n1,n2,n3,j,rfl,ag⟩:=m4 E2 a' m2;have hN:N a' E2.w (μ j):=⟨j,E3,n1,n3,(k3.trans m3).trans n2,rfl⟩;refine⟨⟨j,E3,n1,n3,(k3.trans m3).trans n2⟩,?_⟩;have aqq : M a' E2.w≤μ j:=by
      show (if h:∃n,N a' E2.w n then (hL a' E2.w h).choose else 0)≤_;rw[zE ⟨_,hN⟩];exact(hL a' E2.w ⟨_,hN⟩).choose_spec.2 _ hN
    rw[hM];omega
  | exit id=>exact⟨E2,kz,rfl,m2,k3.trans m3,m4⟩
  | goto l=>exact⟨E2,kz,rfl,m2,k3.trans m3,m4⟩
  | ret=>exact⟨E2,kz,rfl,m2,k3.trans m3,m4⟩
  | panic c=>exact⟨E2,kz,rfl,m2,k3.trans m3,m4⟩
  | outgrown=>exact⟨E2,kz,rfl,m2,k3.trans m3,m4⟩
section
variable {P:Program}
theorem DZ {hn:List Nat} {ops:Array Oper} {K:St→Prop} {Q:Exit→Act→World→Prop} {E0:Env} {rest:List Nat} (hQ:∀E st a,a7 E st a→Fr E0 E→K st→wpOps P ops Q rest a E.w):∀(os:List Oper) (l:List AO) (i:Nat),ua P hn ops os=some l →
    (∀j:Nat,j<os.length→os[j]?=ops[i+j]?)→∀E st a,a7 E st a→Fr E0 E→bq P l K st→wpOps P ops Q (List.range' i os.length++rest) a E.w
  | [], l, i, hl, _, E, st, a, hs, hf, h => by
    simp only[ua,aG] at hl;subst hl;exact hQ E st a hs hf h
  | o :: os, l, i, hl, kh, E, st, a, hs, hf, h => by
    simp only[ua,fH,cf] at hl;obtain⟨x,hx,l',fc,rfl⟩:=hl;have ho:ops[i]?=some o:=by have:=kh 0 (by simp);simpa using this.symm
    have afO : ∀j:Nat,j<os.length→os[j]?=ops[i+1+j]?:=fun j hj=>by
      have:=kh (j+1) (by simp;omega)
      rw[show i+(j+1)=i+1+j from by omega] at this;simpa using this
    have ih:=DZ hQ os l' (i+1) fc afO;have key:∀{ao:aq} {d:Option Tmp},A0 P hn o=ao→d=o.dst→ao.aL P st (fun v al => bq P l' K (al.put d v))→o.wp P a E.w (wpOps P ops Q (List.range' (i+1) os.length++rest)) Q:=fun {ao d} hao hd iG=>by
      subst hd;subst hao;refine Oper.wp_mono ?_ (air (Q:=Q) hs iG);rintro a' w' ⟨E',v,u,al,rfl,hH,b_,hv,rfl,hk⟩;exact ih E' _ _ (a7.put b_ hv o.dst) (hf.trans hH) hk
    simp only[cF,wQ,gN,wpOps,ho];unfold Su at hx;cases hg:o.guard with
    | none =>
      rw[hg] at hx;simp only[aG] at hx;subst hx;simp only[bq] at h;rw[aw (by simp[Region.wanted,hg])];exact .inl (key rfl rfl h)
    | some p =>
      obtain⟨j,want⟩:=p;rw[hg] at hx;simp only at hx;split at hx
      case h_2=>simp at hx
      rename_i g jB;simp only[aG] at hx;subst hx;simp only[bq] at h;split at h
      · rename_i b hb;have hR:=xJ hs.slot g;rw[hb] at hR;simp only[R,Act.eval] at hR;have kh:a.tmps[g]?=some (.bool b):=by
          rw[mw] at hR;cases hq:a.tmps[g]? with
          | none=>rw[hq] at hR;simp[undef] at hR
          | some u=>rw[hq] at hR;simp at hR;rw[hR]
        have hw:Region.wanted o (yielded ops a.tmps)=(b == want):=by
          simp only[Region.wanted,hg,yielded,jB,rz,kh];cases b<;>cases want<;>rfl
        split at h
        · rename_i G';rw[hw,aw (by simp[G'])];exact .inl (key rfl rfl h)
        · rename_i G';rw[hw,ah (by simp[G'])];exact ih E _ _ (a7.put hs (v:=.aT []) (x:=undef) Fx o.dst) hf h
      · rename_i hb;have hR:=xJ hs.slot g;rw[hb] at hR;have hu:=Lf hR;have hw:Region.wanted o (yielded ops a.tmps)=false:=by
          simp only[Region.wanted,hg,yielded,jB,rz];simp only[Act.eval] at hu;cases hq:a.tmps[g]? with
          | none=>rfl
          | some u =>
            rw[mw,hq] at hu;simp at hu;rw[hu];rfl
        rw[hw,ah (by simp)];exact ih E _ _ (a7.put hs (v:=.aT []) (x:=undef) Fx o.dst) hf h
      · exact h.elim
theorem Bu {c:Code} {x:AC} (ih:∀(Q:Exit→St→Prop) (st:St),vc P x Q st→fL P c Q st) (b:Bool) (Q:Exit→St→Prop) (st:St) (h:vc P (AC.yS b x) Q st):fL P c Q st:=by
  cases b with
  | false=>exact ih Q st h
  | true=>exact alE (h.mono fun al h' => ih Q al h')
theorem eval_put {a:Act} {d:Nat} {x:Value} (h:d<a.tmps.size):(a.put (some d) x).eval (.tmp d)=x:=by
  simp[Act.put,Act.eval,h]
theorem rounds {iM:Array Oper} {oN oM:Oper} {dI dN dM i1 out nxt b:Nat} {cb:Code} {Q:Exit→St→Prop} {E0:Env} {s:List UInt8} {I:Nat→St→Prop}
    (h1:iM.toList=[oN,oM]) (hN:oN.op = .next (.tmp dI) true) (GM:oN.dst=some dN) (GN:oN.guard=none) (hM:oM.op = .extract (.tmp dN) 0) (GK:oM.dst=some dM) (GL:oM.guard=none)
    (G5:E0.w.heap.size≤b) (G4:∀c∈s,c.toNat<128) (yj:∀i al,I i al → al.t.getD dI .any = .raw (.pointer (some ⟨b,0,none⟩))∧dN<al.t.length∧dM<al.t.length)
    (G_:∀i c al,s[i]?=some c→I i al → fL P cb (oc nxt (sV out (I (i+1)) Q)) ((al.put (some dN) (.aT [.bool true,.int .i64 (i:Nat),.int .i32 (c.toNat:Nat)])).put (some dM) (.bool true)))
    (kg:∀al,I s.length al → Q .normal ((al.put (some dN) (.aT [.bool false])).put (some dM) (.bool false)))
    {E:Env} {st:St} {a:Act} (hs:a7 E st a) (hf:Fr E0 E) (hr:E.role b = .jZ) (hh:E.w.heap[b]?=some (.stringIter ⟨s.toArray⟩ 0)) (hI:I 0 st) :
    (Code.block out (.loop (.seq (.region i1 iM false) (.seq (.cond (.tmp dM) .skip (.exit out)) (.block nxt cb))))).wp P (fun e a' w' => ∃E' al,E'.w=w' ∧ a7 E' al a' ∧ Fr E0 E' ∧ Q e al) a E.w:=by
  refine wp_block ?_;refine wp_loop (fun a w=>∃i al E',E'.w=w∧i≤s.length∧I i al ∧ a7 E' al a∧Fr E0 E' ∧ E'.role b = .jZ∧E'.w.heap[b]?=some (.stringIter ⟨s.toArray⟩ i)) (fun a w=>match w.heap[b]? with | some (.stringIter z p)=>z.size - p | _=>0) ⟨0,st,E,rfl,by omega,hI,hs,hf,hr,hh⟩ ?_;rintro a _ ⟨i,al,E',rfl,hi,hI,b_,hH,bF,Aj⟩;obtain⟨hsl,yf,kl⟩:=yj i al hI;have hlen:al.t.length=a.tmps.size:=by have:=dS b_.slot;simpa using this
  have hdI:a.eval (.tmp dI) = .pointer (some ⟨b,0,none⟩):=by
    have:=xJ b_.slot dI
    rw[show ev al (.s dI)=al.t.getD dI .any from rfl,hsl] at this;simpa [R] using this
  have hg0:iM[0]?=some oN:=by rw[←KE,h1];rfl
  have C_:iM[1]?=some oM:=by rw[←KE,h1];rfl
  have bK:iM.size=2:=by rw[←wJ,h1];rfl
  refine wp_seq (wp_region ?_);rw[bK];show wpOps P iM _ [0,1] a E'.w;have step:∀(y:Value) (t:V) (us:Array Value) (bb:Bool) (w1:World) (E1:Env),(Instr.next (.pointer (some ⟨b,0,none⟩)) true oN.type).run P E'.w = .ok y w1→y = .tuple us→us[0]?=some (.bool bb)→E1.w=w1→a7 E1 al a→R E1 t y →
      ∀(QQ:Exit→Act→World→Prop),(∀a',a7 E1 ((al.put (some dN) t).put (some dM) (.bool bb)) a' → a'.eval (.tmp dM) = .bool bb→QQ .normal a' w1)→wpOps P iM QQ [0,1] a E'.w:=by
    intro y t us bb w1 E1 cg hy HT hw km hR QQ hQ;subst hy;simp only[wpOps,hg0,C_];rw[aw (by simp[Region.wanted,GN])];left;unfold Oper.wp;rw[show (execOp a.eval oN).run P E'.w = .ok (.value (.tuple us)) w1 by simp[execOp,hN,hdI,cg]];simp only[Oper.upon];rw[aw (by simp[Region.wanted,GL])];left;have he:(a.put (some dN) (.tuple us)).eval (.tmp dN) = .tuple us:=eval_put (by omega);rw[GM,show (execOp (a.put (some dN) (.tuple us)).eval oM).run P w1 = .ok (.value (.bool bb)) w1 by simp[execOp,hM,he,Instr.extract,HT]];simp only[GK];refine hQ _ ?_ (eval_put (by simp[Act.put];omega));exact a7.put (a7.put km hR (some dN)) (by simp[R]) (some dM)
  by_cases ag:i<s.length
  · have kh:s[i]?=some s[i]:=cc ag;have kf:(⟨s.toArray⟩:ByteArray).get! i=s[i]:=by simp[ByteArray.get!,ag]
    have cg:=amU (P:=P) (t:=oN.type) Aj (by simpa [ByteArray.size] using ag) (by rw[kf];exact G4 _ (eZ ag));rw[kf] at cg;refine step _ (.aT [.bool true,.int .i64 (i:Nat),.int .i32 (s[i].toNat:Nat)]) _ true _ (E'.gJ b (.stringIter ⟨s.toArray⟩ (i+1))) cg rfl rfl rfl (a7.gJ bF b_) (by simp[R,RL]) _ ?_;intro a' HL Hg;refine wp_seq (wp_cond_true Hg (wp_skip ?_));refine wp_block ?_;have vt:Fr E0 (E'.gJ b (.stringIter ⟨s.toArray⟩ (i+1))):=Fr.gJ hH bF G5 Aj;have C':(E'.gJ b (.stringIter ⟨s.toArray⟩ (i+1))).w.heap[b]?=some (.stringIter ⟨s.toArray⟩ (i+1)):=UR Aj;have Hx:b<(E'.gJ b (.stringIter ⟨s.toArray⟩ (i+1))).w.heap.size:=(fG.1 C').1;refine wp_mono (G_ i s[i] al kh hI _ a' HL) ?_;rintro e a2 w2 ⟨E3,uA,rfl,vE,tF,hq⟩;have yd:=tF.same b Hx (.inr bF);have norm:aZ uA (I (i+1))→(∃i al E',E'.w=E3.w∧i≤s.length∧I i al ∧ a7 E' al a2∧Fr E0 E' ∧ E'.role b = .jZ∧E'.w.heap[b]?=some (.stringIter ⟨s.toArray⟩ i)) ∧
        (match E3.w.heap[b]? with | some (.stringIter z p)=>z.size - p | _=>0)<(match E'.w.heap[b]? with | some (.stringIter z p)=>z.size - p | _=>0):=by
      intro hU;obtain⟨E4,U7,HV,Ag,HK,GF⟩:=hU E3 a2 vE;have nK:b<E3.w.heap.size:=by rw[C'] at yd;exact(fG.1 yd.1).1
      have An:=Ag.same b nK (.inr (yd.2.trans bF));refine⟨⟨i+1,U7,E4,HV,ag,GF,HK,(vt.trans tF).trans Ag,An.2.trans (yd.2.trans bF),An.1.trans (yd.1.trans C')⟩,?_⟩;rw[yd.1,C',Aj];simp only[ByteArray.size,K1];omega
    cases e with
    | normal=>exact norm hq
    | exit id =>
      simp only[oc,sV] at hq;simp only[Exit.inBlock,Exit.then]
      by_cases e1:id=nxt
      · rw[aw e1] at hq ⊢;exact norm hq
      · rw[ah e1] at hq ⊢
        by_cases e2:id=out
        · rw[aw e2] at hq ⊢;exact⟨E3,uA,rfl,vE,vt.trans tF,hq⟩
        · rw[ah e2] at hq ⊢;exact⟨E3,uA,rfl,vE,vt.trans tF,hq⟩
    | goto l=>exact⟨E3,uA,rfl,vE,vt.trans tF,hq⟩
    | ret=>exact⟨E3,uA,rfl,vE,vt.trans tF,hq⟩
    | panic c=>exact⟨E3,uA,rfl,vE,vt.trans tF,hq⟩
    | outgrown=>exact⟨E3,uA,rfl,vE,vt.trans tF,hq⟩
  · have qK:i=s.length:=by omega
    subst qK;have cg:=run_next_end (P:=P) (t:=oN.type) Aj (by simp[ByteArray.size]);refine step _ (.aT [.bool false]) _ false _ E' cg rfl rfl rfl b_ (by simp[R,RL]) _ ?_;intro a' HL Hg;refine wp_seq (wp_cond_false Hg (wp_exit ?_));simp only[Exit.then,Exit.inBlock,dP];exact⟨E',_,rfl,HL,hH,kg al hI⟩
theorem alz {VB:(Exit→St→Prop)→St→Prop} {hn:List Nat} {iL iM:Array Oper} {os:List Oper} {oR oN oM:Oper} {l0:List AO} {xt:TypeId} {ox:Operand} {x:X} {dI dN dM i0 i1 out nxt:Nat} {cb:Code} {Q:Exit→St→Prop} {st:St}
    (h0:iL.toList=os++[oR]) (hR:oR.op = .range xt ox) (hRd:oR.dst=some dI) (hRg:oR.guard=none) (ht:P.underlying xt=some .string) (hl:ua P hn iL os=some l0) (hx:bN P xt ox=some x)
    (h1:iM.toList=[oN,oM]) (hN:oN.op = .next (.tmp dI) true) (GM:oN.dst=some dN) (GN:oN.guard=none) (hM:oM.op = .extract (.tmp dN) 0) (GK:oM.dst=some dM) (GL:oM.guard=none)
    (hVB:∀Q st,VB Q st→fL P cb Q st) (h:bq P l0 (fun ky=>∃s:List UInt8,ev ky x = .str s∧(∀c∈s,c.toNat<128)∧∃I:Nat→Nat→St→Prop,
      (∀b,aZ (ky.put (some dI) (.raw (.pointer (some ⟨b,0,none⟩)))) (I b 0)) ∧
      (∀b i al,I b i al → al.t.getD dI .any = .raw (.pointer (some ⟨b,0,none⟩))∧dN<al.t.length∧dM<al.t.length) ∧
      (∀b i c al,s[i]?=some c→I b i al → VB (oc nxt (sV out (I b (i+1)) Q)) ((al.put (some dN) (.aT [.bool true,.int .i64 (i:Nat),.int .i32 (c.toNat:Nat)])).put (some dM) (.bool true))) ∧
      (∀b al,I b s.length al → Q .normal ((al.put (some dN) (.aT [.bool false])).put (some dM) (.bool false)))) st) :
    fL P (.seq (.region i0 iL false) (.block out (.loop (.seq (.region i1 iM false) (.seq (.cond (.tmp dM) .skip (.exit out)) (.block nxt cb)))))) Q st:=by
  intro E a hs;refine wp_seq (wp_region ?_);have bK:iL.size=os.length+1:=by rw[←wJ,h0];simp
  have kh:∀j:Nat,iL[j]?=(os++[oR])[j]?:=fun j=>by rw[←h0];simp
  rw[qi,bK,List.range'_concat,show 0+1*os.length=os.length by omega];refine DZ (rest:=[os.length]) (K:=_) (E0:=E) ?_ os l0 0 hl ?_ E st a hs (Fr.refl E) h
  · rintro E1 ky a1 km x8 ⟨s,Hh,G4,I,hU,yj,G_,kg⟩;have ho:iL[os.length]?=some oR:=by rw[kh];simp
    simp only[wpOps,ho];rw[aw (by simp[Region.wanted,hRg])];left;have dW:=kr (E:=E1) (st:=ky) (a:=a1) km.slot hx;rw[Hh] at dW;simp only[R] at dW;have cg:(execOp a1.eval oR).run P E1.w = .ok (.value (.pointer (some ⟨E1.w.heap.size,0,none⟩))) (E1.w.alloc (.stringIter ⟨s.toArray⟩ 0)):=by simp[execOp,hR,dW,amV ht]
    unfold Oper.wp;rw[cg];simp only[Oper.upon,hRd];obtain⟨f2,s2,r2,b2⟩:=ai2 (s:=⟨s.toArray⟩) (p:=0) km;have s3:a7 (E1.j7 (.stringIter ⟨s.toArray⟩ 0)) (ky.put (some dI) (.raw (.pointer (some ⟨E1.w.heap.size,0,none⟩)))) (a1.put (some dI) (.pointer (some ⟨E1.w.heap.size,0,none⟩))):=a7.put s2 (by simp[R]) (some dI);obtain⟨E4,U7,HV,Ag,HK,GF⟩:=hU E1.w.heap.size _ _ s3;have Hx:E1.w.heap.size<(E1.j7 (.stringIter ⟨s.toArray⟩ 0)).w.heap.size:=(fG.1 b2).1;have An:=Ag.same E1.w.heap.size Hx (.inr r2)
    have:=rounds (i1:=i1) (out:=out) (nxt:=nxt) (I:=I E1.w.heap.size) h1 hN GM GN hM GK GL x8.size G4 (yj E1.w.heap.size) (fun i c al hc hI=>hVB _ _ (G_ E1.w.heap.size i c al hc hI)) (kg E1.w.heap.size) HK ((x8.trans f2).trans Ag) (An.2.trans r2) (An.1.trans b2) GF
    rw[HV] at this;exact this
  · intro j hj;rw[gh,kh,nk hj]
theorem alB {P:Program} {c:Code} {Q:Exit→St→Prop} {st:St} (h:fL P c (wT Q) st):fL P (.scope c) Q st:=by
  intro E a hs;refine wp_scope_straight (wp_mono (h E a hs) ?_);rintro e a' w' ⟨E',al,rfl,h2,h3,h4⟩;cases e with
  | goto l=>exact h4.elim
  | _=>exact⟨E',al,rfl,h2,h3,h4⟩
theorem aiq {h:Hint} {iL iM:Array Oper} {pk out pJ nxt i0 i1:Nat} {cb:Code} {y:Option AC} {z:AC} (hz:DS P h iL iM pk out pJ nxt y=some z) (ih:∀y',y=some y' → ∀(Q:Exit→St→Prop) (st:St),vc P y' Q st→fL P cb Q st)
    (Q:Exit→St→Prop) (st:St) (hv:vc P z Q st):fL P (.seq (.region i0 iL false) (.block out (.loop (.seq (.region i1 iM false) (.seq (.cond (.tmp pk) .skip (.exit pJ)) (.block nxt cb)))))) Q st:=by
  unfold DS at hz;split at hz
  case h_2=>simp at hz
  rename_i oR oN oM y' hl h1;split at hz
  case h_2=>simp at hz
  rename_i xt ox dI Pr dN Ps dM g1 g2 g3 g4 g5 g6 g7 g8 g9;split at hz
  case h_2=>simp at hz
  rename_i l x k1 k2 k3;split at hz
  case isFalse=>simp at hz
  rename_i he;obtain⟨rfl,rfl,rfl,rfl⟩:=he;simp only[aG] at hz;subst hz;have h0:iL.toList=iL.toList.dropLast++[oR]:=by
    obtain⟨ys,lZ⟩:=List.getLast?_eq_some_iff.1 hl;rw[lZ];simp
  exact alz (VB:=vc P y') h0 g1 g2 g3 k1 k2 k3 h1 g4 g5 g6 g7 g8 g9 (ih y' rfl) hv
theorem ain {h:Hint} {a b:Code} {z:AC} (hz:eB P h (.seq a b)=some z):(∃x y,eB P h a=some x∧eB P h b=some y∧z = .seq x y) ∨
    (∃i0 iL out i1 iM pk pJ nxt cb,a = .region i0 iL false∧b = .block out (.loop (.seq (.region i1 iM false) (.seq (.cond (.tmp pk) .skip (.exit pJ)) (.block nxt cb))))∧DS P h iL iM pk out pJ nxt (eB P h cb)=some z):=by
  have gen:(match eB P h a,eB P h b with | some x,some y=>some (AC.seq x y) | _,_=>none)=some z→∃x y,eB P h a=some x∧eB P h b=some y∧z = .seq x y:=by
    intro e;split at e
    · rename_i x y hx hy;simp only[aG] at e;exact⟨x,y,hx,hy,e.symm⟩
    · simp at e
  unfold eB at hz;split at hz
  all_goals (try (exfalso;simp_all;done))
  · rename_i heq;simp only[Code.seq.injEq] at heq;obtain⟨rfl,rfl⟩:=heq;split at hz
    · rename_i r hr;exact .inr ⟨_,_,_,_,_,_,_,_,_,rfl,rfl,by rw[hr];exact hz⟩
    · exact .inl (gen hz)
  · rename_i heq;simp only[Code.seq.injEq] at heq;obtain⟨rfl,rfl⟩:=heq;exact .inl (gen hz)
theorem an9 {hn:List Nat} {ops:Array Oper} {id:Nat} {p:List (AO × List Nat) × List AO} (hl:Ix P hn ops=some p) {Q:Exit→St→Prop} {st:St} (h:vc P (.seq (.draw p.1) (.aa p.2)) Q st) :
    fL P (.region id ops true) Q st:=by
  unfold Ix at hl;split at hl
  · simp at hl
  rename_i k hk;split at hl
  case h_2=>simp at hl
  rename_i l m h1 h2;obtain rfl:=lM hl;have T:=an6 (List.find?_some hk);obtain⟨b,F,jY,hf,lU⟩:=Sv h1;have ag:=T.lt;have HR:(ops.extract 0 k).size=k:=by simp;omega
  have kh:∀i,i<k→(ops.extract 0 k)[i]?=ops[i]?:=fun i hi=>by
    rw[EU];simp;intro h;omega
  have hg:∀(i:Nat) o,i<k→ops[i]?=some o→∀j want,o.guard=some (j,want)→j<k:=fun i o hi ho j want jB=>by
    obtain⟨x,_,hx⟩:=lU i o (by rw[kh i hi];exact ho);unfold nW at hx;split at hx
    · simp at hx
    rw[jB] at hx;simp only at hx;cases hj:(ops.extract 0 k)[j]? with
    | none=>rw[hj] at hx;simp at hx
    | some o' =>
      have:=(fG.1 hj).1
      omega
  simp only[vc] at h;intro E a hs;refine wp_region_any hf ?_;have hd:=Z2 (X:=fun _ _ _=>True) F jY h hs (Q:=fun e a' w' => ∃E' al,E'.w=w' ∧ a7 E' al a' ∧ Fr E E' ∧ Q e al)
    (N:=fun a w=>wpOps P ops (fun e a' w' => ∃E' al,E'.w=w' ∧ a7 E' al a' ∧ Fr E E' ∧ Q e al) (List.range' k (ops.size - k)) a w)
    (fun E' al a' q1 q2 q3=>by
      have:=DZ (P:=P) (ops:=ops) (K:=Q .normal) (E0:=E) (Q:=fun e a' w' => ∃E' al,E'.w=w' ∧ a7 E' al a' ∧ Fr E E' ∧ Q e al) (rest:=[]) (fun E' al a' h1 h2 h3=>⟨E',al,rfl,h1,h2,h3⟩) (ops.toList.drop k) _ k h2 (fun j hj=>by simp) E' al a' q1 q2 q3
      simpa using this)
    (fun _=>trivial) fun i o ho=>by
      obtain⟨x,h1,h2⟩:=lU i o ho;exact⟨x,h1,.inl ⟨h2,fun _ _ _ _ _ _ _=>trivial⟩⟩
  rw[HR] at hd
  have:=Wu T hg (fun _ _ h=>h) k (Array.replicate k false) (Array.replicate ops.size false) a _ (by simp) (by simp) (fun i o _ nO=>by by_cases hj:i<ops.size<;>simp[hj] at nO) (fun j hj=>by simp[hj,show j<ops.size by omega]) (fun j _ hj=>by simp[hj]) hd
  rwa [show k+(ops.size - k)=ops.size by omega] at this
theorem sH {h:Hint}:∀(c:Code) (x:AC),eB P h c=some x→∀(Q:Exit→St→Prop) (st:St),vc P x Q st→fL P c Q st
  | .skip,x,hl,Q,st,h=>by simp only[eB,aG] at hl;subst hl;exact alD h
  | .region id ops false, x, hl, Q, st, h => by
    simp only[eB,cf] at hl;obtain⟨l,hl,rfl⟩:=hl;refine Bu (fun Q st h E a hs=>?_) _ Q st h;refine wp_region ?_
    have:=DZ (P:=P) (ops:=ops) (K:=Q .normal) (E0:=E) (Q:=fun e a' w' => ∃E' al,E'.w=w' ∧ a7 E' al a' ∧ Fr E E' ∧ Q e al) (rest:=[]) (fun E' al a' h1 h2 h3=>⟨E',al,rfl,h1,h2,h3⟩) ops.toList l 0 hl (fun j _=>by simp) E st a hs (Fr.refl E) h
    rw[qi];simpa using this
  | .region id ops true, x, hl, Q, st, h => by
    simp only[eB] at hl;split at hl
    · simp only[cf] at hl;obtain⟨p,hl,rfl⟩:=hl;exact Bu (fun Q st h=>an9 hl h) _ Q st h
    split at hl
    · rename_i l fc;simp only[aG] at hl;subst hl;refine Bu (fun Q st h=>?_) _ Q st h;exact Ji (Z1 fc h) fun e al ⟨h1,h2⟩=>by subst h1;exact h2
    · split at hl
      · rename_i p fc;obtain⟨l,hi⟩:=p;simp only[aG] at hl;subst hl;refine Bu (fun Q st h=>?_) _ Q st h;exact Ji (af_ fc h) fun e al ⟨h1,h2⟩=>by subst h1;exact h2
      · simp only[cf] at hl;obtain⟨⟨nv,l⟩,hl,rfl⟩:=hl;refine Bu (fun Q st h=>?_) _ Q st h;obtain⟨t,h1,h2⟩:=h;obtain⟨_,k2,_,k4⟩:=Oo h1;intro E a hs
        have:=ZY (st:=⟨t,st.loc,st.out⟩) (id:=id) hl k2 h2 E a ⟨hs.ok,hs.bW,hs.defers,k4 E _ hs.slot⟩
        exact wp_mono this fun e a' w' ⟨E',al,m1,m2,m3,m4,m5⟩=>⟨E',al,m1,m2,m3,by subst m4;exact m5⟩
  | .seq a b, x, hl, Q, st, h => by
    rcases ain hl with ⟨y,z,hy,hz,rfl⟩ | ⟨i0,iL,out,i1,iM,pk,pJ,nxt,cb,rfl,rfl,hz⟩
    · refine alC (Ji (sH a y hy _ st h) fun e al he=>?_);cases e with
      | normal=>exact sH b z hz Q al he
      | _=>exact he
    · exact aiq hz (fun y' hy=>sH cb y' hy) Q st h
  | .cond c a b, x, hl, Q, st, h => by
    simp only[eB] at hl;split at hl
    case h_2=>simp at hl
    rename_i ax y z hx hy hz;simp only[aG] at hl;subst hl;simp only[vc] at h;split at h
    case h_2=>exact h.elim
    rename_i b' hb;intro E ac hs;have hR:=kr (E:=E) (st:=st) (a:=ac) hs.slot hx;rw[hb] at hR;simp only[R] at hR;exact wp_cond_split hR (fun ht=>sH a y hy Q st (h.1 ht) E ac hs) (fun ht=>sH b z hz Q st (h.2 ht) E ac hs)
  | .block id a, x, hl, Q, st, h => by
    simp only[eB,cf] at hl;obtain⟨y,hy,rfl⟩:=hl;exact alu (sH a y hy _ st h)
  | .loop a, x, hl, Q, st, h => by
    simp only[eB,cf] at hl;obtain⟨y,hy,rfl⟩:=hl;obtain⟨ι,I,μ,h0,hr⟩:=h;exact aly I μ h0 fun i=>sH a y hy _ (I i) (hr i)
  | .exit id,x,hl,Q,st,h=>by simp only[eB,aG] at hl;subst hl;exact alw h
  | .ret,x,hl,Q,st,h=>by simp only[eB,aG] at hl;subst hl;exact alA h
  | .label l,x,hl,Q,st,h=>by simp only[eB,aG] at hl;subst hl;exact alx h
  | .goto l,x,hl,Q,st,h=>by simp[eB] at hl
  | .scope a, x, hl, Q, st, h => by
    simp only[eB,cf] at hl;obtain⟨y,hy,rfl⟩:=hl;exact alB (sH a y hy _ st h)
  | .refuse w,x,hl,Q,st,h=>by simp[eB] at hl
  | .rangeFunc f p a b,x,hl,Q,st,h=>by simp[eB] at hl
inductive RV where
  | tmp (t:Nat)
  | cell (t:Nat) (agg:Bool) (n:Nat)
def Iw (P:Program):ResultVar→Option RV
  | .tmp t=>some (.tmp t)
  | .cell a t=>match fx P t,cO P t with | some g,some n=>some (.cell a g n) | _,_=>none
def yA (P:Program):List ResultVar→Option (List RV)
  | []=>some []
  | r::rs=>(Iw P r).bind fun x=>(yA P rs).map (x::·)
def rv (st:St):RV→Option V
  | .tmp t=>some (st.t.getD t .any)
  | .cell t g n=>jb st g n (st.t.getD t .any)
def pU (st:St):List RV→Option (List V)
  | []=>some []
  | r::rs=>(rv st r).bind fun x=>(pU st rs).map (x::·)
def oV:List V→V
  | [x]=>x
  | xs=>.aT xs
def ab.sub (σ' σ:ab):Prop:=(∀b cs,σ'.box b=some cs→σ.box b=some cs)∧(∀t n,σ'.aB t=some n→σ.aB t=some n)∧∀b cs,σ'.bH b=some cs→σ.bH b=some cs
theorem ab.aS (σ:ab):σ.sub σ:=⟨fun _ _ h=>h,fun _ _ h=>h,fun _ _ h=>h⟩
def mB (R' : V→ab→Prop) (st:St):V→Prop:=fun v=>v.bS=true∧∃σ' : ab,σ'.sub st.out∧R' v.erase σ'
def Cb (rs:List RV) (R' : V→ab→Prop):Exit→St→Prop
  | .normal,st | .ret,st=>opt ((pU st rs).map oV) (mB R' st)
  | _,_=>False
theorem Ur {E:Env} {st:St} {a:Act} (hs:a7 E st a):∀{rs:List ResultVar} {ys:List RV} {vs:List V},yA P rs=some ys→pU st ys=some vs →
    ∃us:List Value,(rs.mapM fun | .tmp t=>pure (a.tmps.getD t undef) | .cell ad t=>do loadVar t (←asAddr (a.tmps.getD ad undef)):Sem (List Value)).run P E.w = .ok us E.w∧RL E vs us
  | [], ys, vs, h1, h2 => by
    simp only[yA,aG] at h1;subst h1;simp only[pU,aG] at h2;subst h2;exact⟨[],by simp,by simp[RL]⟩
  | r :: rs, ys, vs, h1, h2 => by
    simp only[yA,fH,cf] at h1;obtain⟨y,hy,VU,lZ,rfl⟩:=h1;simp only[pU,fH,cf] at h2;obtain⟨v,hv,wE,yp,rfl⟩:=h2;obtain⟨us,k1,k2⟩:=Ur hs lZ yp;cases r with
    | tmp t =>
      simp only[Iw,aG] at hy;subst hy;simp only[rv,aG] at hv;subst hv;have hR:=xJ hs.slot t;refine⟨a.tmps.getD t undef::us,?_,by simp only[RL];exact⟨hR,k2⟩⟩;rw[List.mapM_cons];simp only[Sem.run_bind,Sem.run_pure,Result.andThen_ok,k1]
    | cell ad t =>
      simp only[Iw] at hy;split at hy
      case h_2=>simp at hy
      rename_i g n hg hn;simp only[aG] at hy;subst hy;simp only[rv] at hv;have hR:=xJ hs.slot ad;have lT : R E (st.t.getD ad .any) (a.tmps.getD ad undef):=hR;obtain⟨b,off,cs,e1,e2,e3⟩:=R7 hs hv lT;obtain⟨u,e4,e5⟩:=run_load (P:=P) hg hn e2 e3;refine⟨u::us,?_,by simp only[RL];exact⟨e5,k2⟩⟩;rw[List.mapM_cons];have e6:((do loadVar t (←asAddr (a.tmps.getD ad undef)):Sem Value)).run P E.w = .ok u E.w:=by
        rw[e1];simp only[asAddr,Sem.run_bind,Sem.run_pure,Result.andThen_ok,e4]
      rw[Sem.run_bind];show ((do loadVar t (←asAddr (a.tmps.getD ad undef)):Sem Value).run P E.w).andThen _=_;rw[e6,Result.andThen_ok,Sem.run_bind,k1,Result.andThen_ok,Sem.run_pure]
theorem aaG {f:FuncId} {fn:Func} (hf:P.funcs[f]?=some fn) (hn:(fn.name == "runtime.NumGoroutine")=false) (hb:fn.body.isNone=false):KI P f:=fun args w=>by
  have bl : fn.body.isNone=false:=hb;simp only[callFunc,Sem.run_bind,run_program,Result.andThen_ok,hf];split
  · rename_i h;simp[hn] at h
  · split
    · rename_i h;simp at h;rw[h] at bl;simp at bl
    · rfl
theorem akP {h:Hint} {f:FuncId} {fn:Func} {c:Code} {x:AC} {rs:List RV} (hf:P.funcs[f]?=some fn) (af4:(fn.name == "runtime.NumGoroutine")=false) (hb:fn.body=some c) (hl:eB P h c=some x) (hr:yA P fn.results.toList=some rs)
    {n:Nat} (hn:fn.ntmps=n) {args:List V} {σ:ab} {R' : V→ab→Prop} (hv:vc P x (Cb rs R') ⟨args++List.replicate (n - args.length) .any,[],σ⟩):ak P f args σ R' := by
  refine⟨aaG hf af4 (by rw[hb];rfl),fun E vs Hu bw G2=>?_⟩;refine calls_of_wp hf hb ?_;have hlen:=dS G2;have hs:a7 E ⟨args++List.replicate (n - args.length) .any,[],σ⟩ {tmps:=vs++Array.replicate (fn.ntmps - vs.size) undef,defers:=[]}:=by
    refine⟨bw,⟨fun i cs h=>by simp at h,fun i _=>Hu i⟩,rfl,?_⟩;simp only[Array.toList_append,Array.toList_replicate];refine qn G2 ?_;rw[hn,show args.length=vs.size from by simpa using hlen]
    have:=Lb (E:=E) (List.replicate (n - vs.size) undef)
    simpa using this
  refine wp_mono (sH c x hl _ _ hv E _ hs) ?_;rintro e a' w' ⟨E',al,rfl,b_,aQ,hq⟩;have fin:opt ((pU al rs).map oV) (mB R' al)→a'.defers=[]∧∃v,(results fn a'.tmps).run P E'.w = .ok v E'.w ∧
      ∃v' x kb σ',Ending.returned v = .returned x∧kb.w=E'.w∧(∀i,kb.loc i=none)∧kb.ok σ' ∧ R kb v' x∧Fr E kb ∧ R' v' σ' := fun hq=>by
    refine⟨b_.defers,?_⟩;unfold opt at hq;split at hq
    case h_2=>exact hq.elim
    rename_i v hv;simp only[cf] at hv;obtain⟨wE,yp,rfl⟩:=hv;obtain⟨us,k1,k2⟩:=Ur (P:=P) b_ hr yp;obtain⟨lV,σ',ko,lT⟩:=hq;have dH:∃u,(results fn a'.tmps).run P E'.w = .ok u E'.w∧R E' (oV wE) u:=by
      have fX:(results fn a'.tmps).run P E'.w = .ok (if h:us.toArray.size=1 then us.toArray[0] else .tuple us.toArray) E'.w:=by
        unfold results;rw[←Array.toArray_toList (xs:=fn.results),List.mapM_toArray];simp only[Sem.run_bind,Sem.run_map]
        erw [k1]
        simp only[Result.andThen_ok,Sem.run_pure]
      refine⟨_,fX,?_⟩;have kl:=dS k2
      match wE,us,k2 with
      | [y], [u], k2 =>
        simp only[RL] at k2;simp[oV,k2.1]
      | [],[],k2=>simp[oV,R];exact k2
      | y :: z :: ys, u :: u' :: us', k2 =>
        simp only[oV];rw[dif_neg (by simp)];simp only[R];exact⟨_,rfl,by simpa using k2⟩
    obtain⟨u,hu,hRu⟩:=dH
    let kb : Env:={E' with loc:=fun _=>none,role:=fun b=>match E'.role b with | .fY _=>.jZ | r=>r}
    have cu:∀b,kb.role b=match E'.role b with | .fY _=>.jZ | r=>r:=fun _=>rfl
    have afD:∀b o,(kb.role b).fp o↔(E'.role b).fp o:=fun b o=>by rw[cu];cases E'.role b<;>simp[dm.fp]
    have Ht:∀b t c,E'.role b = .eY t c→kb.role b = .eY t c:=fun b t c h=>by rw[cu,h]
    have hle:E'.nl.le kb.nl:=⟨fun b o _ hc hv=>⟨(afD b o).2 hc,hv⟩,fun _ _ h=>by simp at h,fun t n hn=>⟨n,hn,bt _,fun _ b c hb=>⟨Ht b t c hb,fun cs _ hc=>⟨cs,hc,rfl⟩⟩⟩⟩;have tG : Fr E' kb := by
      refine⟨rfl,rfl,rfl,bt _,fun _=>rfl,hle.cell,hle.tok,fun b _ hr=>⟨rfl,?_⟩,fun b _ h=>?_,fun b t c _ h=>?_,fun b i _ h=>?_,fun _ c _ h=>⟨c,h,rfl⟩⟩
      · rw[cu];rcases hr with hr | hr<;>rw[hr]
      · rw[cu] at h;cases hq:E'.role b<;>rw[hq] at h<;>simp at h;exact .inl rfl
      · rw[cu] at h;cases hq:E'.role b<;>rw[hq] at h<;>simp at h;exact⟨_,by rw[h.1]⟩
      · rw[cu] at h;cases hq:E'.role b<;>rw[hq] at h<;>simp at h
    refine⟨u,hu,(oV wE).erase,u,kb,σ',rfl,rfl,fun _=>rfl,⟨fun b cs hcs=>?_,fun t m ht=>b_.ok.aB t m (ko.2.1 t m ht),fun b hb=>?_,b_.ok.nt,fun b cs hc=>cJ.mono _ hle (b_.ok.bH b cs (ko.2.2 b cs hc))⟩,R.erase _ (hRu.ma _ hle lV),aQ.trans tG,lT⟩
    · obtain⟨h1,h2⟩:=b_.ok.box b cs (ko.1 b cs hcs);exact⟨by rw[cu,h1],h2.mono hle rfl⟩
    · rw[cu,b_.ok.fresh b hb]
  cases e with
  | normal=>exact fin hq
  | ret=>exact fin hq
  | _=>exact hq.elim
end
structure aJ (P:Program) (f:FuncId) (x:AC) (rs:List RV) (n:Nat):Prop where
  is:∃fn h,P.funcs[f]?=some fn∧(fn.name == "runtime.NumGoroutine")=false∧fn.body.bind (eB P h)=some x∧yA P fn.results.toList=some rs∧fn.ntmps=n
def aI (n:Nat) (args:List V):List V:=args++List.replicate (n - args.length) .any
theorem aJ.calls {P:Program} {f:FuncId} {x:AC} {rs:List RV} {n:Nat} (h:aJ P f x rs n) {args:List V} {σ:ab} {R' : V→ab→Prop} (hv:vc P x (Cb rs R') ⟨aI n args,[],σ⟩):ak P f args σ R' := by
  obtain⟨fn,hi,h1,h2,h3,h4,h5⟩:=h.is;simp only[fH] at h3;obtain⟨c,hb,hl⟩:=h3;exact akP h1 h2 hb hl h4 h5 hv
end Go.Am
