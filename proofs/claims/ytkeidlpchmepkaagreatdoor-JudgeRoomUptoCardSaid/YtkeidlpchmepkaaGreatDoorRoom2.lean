/-
  Part 2 of the proof of JudgeRoomUptoCardSaid: a logic over the model, the forms of the functions that the law reaches, and what they compute.
-/
import Derived.Lib.Bytealg
import Derived.Scope
import Derived.Test.YtkeidlpchmepkaaGreatDoorRoom1
set_option linter.unusedVariables false
set_option linter.unusedSimpArgs false
set_option linter.defProp false
set_option linter.unusedSectionVars false

namespace Go.Am
theorem cntD_eq {P:Program} {SN:List Sto} {p:Nat→DI→Bool} {S:Nat→Bool}:∀{l:List (AO × List Nat)} {b:List Nat} {tr:List TR} {t:List V} {s:Sto} {i:Nat},TrOk P SN l tr t s→b.length=l.length →
    (∀(j:Nat) x,l[j]?=some x→x.1.op.eff=true→S (i+j)=p (i+j) (diOf x (b.getD j 0)))→cnt S i tr=(((List.zipWith diOf l b).zipIdx i).filter fun (x,j)=>x.eff&&p j x).length
  | [],b,[],_,_,_,_,_,_=>by simp[cnt]
  | [],_,_::_,_,_,_,h,_,_=>h.elim
  | (_,_)::_,_,[],_,_,_,h,_,_=>h.elim
  | (o,ms)::l,[],_::_,_,_,_,_,hb,_=>by simp at hb
  | (o, ms) :: l, m :: b, r :: tr, t, s, i, h, hb, hp => by
    have ih:=cntD_eq (p:=p) (S:=S) (i:=i+1) h.2 (by simpa using hb) fun j x hx he=>by
      have:=hp (j+1) x (by simpa using hx) he
      rw[show i+(j+1)=i+1+j from by omega] at this;simpa using this
    have he:r.eff=o.op.eff:=h.1.2.1;have h0:o.op.eff=true→S i=p i (diOf (o,ms) m):=fun he=>by simpa using hp 0 (o,ms) (by simp) he
    simp only[cnt,List.zipWith_cons_cons,List.zipIdx_cons,List.filter_cons];rw[ih];have hd:(diOf (o,ms) m).eff=o.op.eff:=rfl;cases hq:o.op.eff
    · simp[he,hq,hd]
    · rw[h0 hq];simp only[he,hd,hq,Bool.and_true,Bool.true_and];cases p i (diOf (o,ms) m)
      · simp
      · simp;omega
section
variable {P:Program} {ops:Array Oper} {l:List (AO × List Nat)} {b:List Nat} {SN:List Sto} {tr:List TR} {t0:List V} {s0:Sto}
structure At2 (ops:Array Oper) (tr:List TR) (t0:List V) (s0:Sto) (E0:Env) (X:Array Bool→Env→Act→Prop) (listed:Array Bool) (a:Act) (w:World):Prop where
  size:listed.size=ops.size
  closed:∀(i:Nat) o,ops[i]?=some o→listed.getD i false=true→∀e∈o.after,Region.binds .any e=true→listed.getD e.on false=true
  rel:∃E,E.w=w∧SRel E (mkSt (runT (sel (fun j=>listed.getD j false) 0 tr) t0) (runS (sel (fun j=>listed.getD j false) 0 tr) s0)) a∧Fr E0 E∧X listed E a
theorem closed_mask (F:Facts ops l b) {S:Nat→Bool} (hc:∀(i:Nat) o,ops[i]?=some o→S i=true→∀e∈o.after,Region.binds .any e=true→S e.on=true) :
    ∀(n i:Nat),i<n→i<ops.size→S i=true→∀j,(b.getD i 0).testBit j=true→S j=true:=by
  intro n;induction n with
  | zero=>intro i h;omega
  | succ n ih =>
    intro i hi hlt hS j hj;obtain⟨e,h1,h2,h3⟩:=F.mask i ops[i] (Array.getElem?_eq_getElem hlt) j hj;have he:=hc i _ (Array.getElem?_eq_getElem hlt) hS e h1 h2;have hb:=F.back i _ (Array.getElem?_eq_getElem hlt) e h1 h2
    rcases h3 with rfl | h3
    · exact he
    · exact ih e.on (by omega) (by omega) he j h3
theorem getD_tf (listed:Array Bool) (i:Nat) (h:i<listed.size):listed.getD i true=listed.getD i false:=by simp[h]
def Spec (P:Program) (l:List (AO × List Nat)) (b:List Nat) (t0:List V) (E0:Env) (X:Array Bool→Env→Act→Prop) (i:Nat) (o:Oper) (ao:AO):Prop :=
  o.guard=none∧ao.guard=none∧∀(E:Env) (a:Act) (t:List V) (s:Sto) (v:V) (s' : Sto) (listed:Array Bool) (Q:Exit→Act→World→Prop),i<listed.size→listed.getD i false=false→(∀j,(b.getD i 0).testBit j=true→listed.getD j false=true) →
    (∀j,j<b.length→(b.getD j 0).testBit i=true→listed.getD j false=false)→(∀d,(∀(j:Nat) x,l[j]?=some x→x.1.dst=some d→listed.getD j false=false)→t.getD d .any=t0.getD d .any) →
    SRel E (mkSt t s) a→Fr E0 E→X listed E a→ao.op.sem P (mkSt t s) (Exact t v s') →
    o.wp P a E.w (fun a' w' => ∃E',E'.w=w' ∧ SRel E' (mkSt (putT t ao.dst v) s') a' ∧ Fr E0 E' ∧ X (listed.setIfInBounds i true) E' a') Q
theorem draw_step (F:Facts ops l b) (hbl:b.length=ops.size) (hSN:SN=s0::effS tr) (ht:TrOk P SN l tr t0 s0)
    {E0:Env} {X:Array Bool→Env→Act→Prop} {Q:Exit→Act→World→Prop} {listed:Array Bool} {a:Act} {w:World} (h:At2 ops tr t0 s0 E0 X listed a w) {i:Nat} (hi:i∈Region.ready .any ops listed)
    (hlow:∀o,ops[i]?=some o→∃x:AO × List Nat,l[i]?=some x∧((lowAO P ops o=some x.1∧∀listed E E' a u,X listed E a→Fr E E' → X (listed.setIfInBounds i true) E' (a.put o.dst u))∨Spec P l b t0 E0 X i o x.1)) {K:Act→World→Prop}
    (hK:∀a w,At2 ops tr t0 s0 E0 X (listed.setIfInBounds i true) a w→K a w):wpOp P ops Q i K a w:=by
  obtain⟨hun,o,ho,hall⟩:=mem_ready.1 hi;have hlt:i<ops.size:=(Array.getElem?_eq_some_iff.1 ho).1;have hlt' : i<listed.size:=by rw[h.size];exact hlt
  obtain⟨E,rfl,hs,hfr,hX⟩:=h.rel
  let S:Nat→Bool:=fun j=>listed.getD j false
  have hSi:S i=false:=by show listed.getD i false=false;rw[←getD_tf _ _ hlt'];exact hun
  obtain⟨x,hx,hlowo⟩:=hlow o ho;obtain⟨ao,ms⟩:=x;have hlen:=TrOk_length ht;have htrl:i<tr.length:=by rw[←hlen,F.size];exact hlt
  obtain⟨r,hr⟩:∃r,tr[i]?=some r:=⟨tr[i],List.getElem?_eq_getElem htrl⟩;have hst:=TrOk_step (i:=0) (k:=i) ht hx hr;rw[Nat.zero_add] at hst;obtain⟨hd,he,run,hguard,hrun,hskip⟩:=hst
  -- who is done,who is not
  have hbefore:∀j,(b.getD i 0).testBit j=true→S j=true:=fun j hj=>by
    obtain⟨e,h1,h2,h3⟩:=F.mask i o ho j hj;have hb:=hall e h1 h2
    rcases h3 with rfl | h3
    · exact hb
    · exact closed_mask F (S:=S) h.closed ops.size e.on (by have:=F.back i o ho e h1 h2;omega) (by have:=F.back i o ho e h1 h2;omega) hb j h3
  have hafter:∀j,j<ops.size→(b.getD j 0).testBit i=true→S j=false:=fun j hj hb=>by
    cases hq:S j with
    | false=>rfl
    | true =>
      have:=closed_mask F (S:=S) h.closed ops.size j hj hj hq i hb
      rw[this] at hSi;simp at hSi
  have hdstj:∀(j:Nat) r',tr[j]?=some r' → ∃y,l[j]?=some y∧r'.dst=y.1.dst∧r'.eff=y.1.op.eff∧j<ops.size:=fun j r' hr' => by
    have hj:=(List.getElem?_eq_some_iff.1 hr').1;have hjl:j<l.length:=by omega
    have:=TrOk_step (i:=0) (k:=j) ht (List.getElem?_eq_getElem hjl) hr'
    exact⟨l[j],List.getElem?_eq_getElem hjl,this.1,this.2.1,by rw[←F.size];exact hjl⟩
  -- what it reads is what it read in the text's order
  have hslot:∀n,n∈readsOf ao→(runT (sel S 0 tr) t0).getD n .any=(runT (sel (upTo i) 0 tr) t0).getD n .any:=fun n hn=>by
    refine slot_congr rfl rfl fun j r' hr' hd' => ?_
    rw[Nat.zero_add];obtain⟨y,hy,hyd,_,hjs⟩:=hdstj j r' hr';obtain⟨hne,hor⟩:=F.slot i j (ao,ms) y hx hy n (by rw[←hyd];exact hd') hn
    rcases Nat.lt_or_ge j i with hji | hji
    · have hu:upTo i j=true:=by simp[upTo,hji]
      rw[hu]
      rcases hor with h1 | h1
      · exact hbefore j h1
      · exfalso
        obtain⟨e,k1,k2,k3⟩:=F.mask j _ (Array.getElem?_eq_getElem hjs) i h1
        have:=F.back j _ (Array.getElem?_eq_getElem hjs) e k1 k2
        have key:∀n q,q<n→q<ops.size→∀z,(b.getD q 0).testBit z=true→z<q:=by
          intro n;induction n with
          | zero=>intro q h;omega
          | succ n ih =>
            intro q hq hqs z hz;obtain⟨e',m1,m2,m3⟩:=F.mask q _ (Array.getElem?_eq_getElem hqs) z hz;have hb' := F.back q _ (Array.getElem?_eq_getElem hqs) e' m1 m2
            rcases m3 with rfl | m3
            · exact hb'
            · have:=ih e'.on (by omega) (by omega) z m3;omega
        have:=key (j+1) j (by omega) hjs i h1
        omega
    · have hu:upTo i j=false:=by simp[upTo];omega
      rw[hu]
      rcases hor with h1 | h1
      · exfalso
        have key:∀n q,q<n→q<ops.size→∀z,(b.getD q 0).testBit z=true→z<q:=by
          intro n;induction n with
          | zero=>intro q h;omega
          | succ n ih =>
            intro q hq hqs z hz;obtain⟨e',m1,m2,m3⟩:=F.mask q _ (Array.getElem?_eq_getElem hqs) z hz;have hb' := F.back q _ (Array.getElem?_eq_getElem hqs) e' m1 m2
            rcases m3 with rfl | m3
            · exact hb'
            · have:=ih e'.on (by omega) (by omega) z m3;omega
        have:=key (i+1) i (by omega) hlt j h1
        omega
      · exact hafter j hjs h1
  -- memory
  have hpre:∀T:Nat→Bool,(∀(j k:Nat),j<ops.size→k<ops.size→(∀y z,l[j]?=some y→l[k]?=some z→y.1.op.eff=true→z.1.op.eff=true→j<k→T k=true→T j=true)) →
      runS (sel T 0 tr) s0=SN.getD (cnt T 0 tr) stoD:=fun T hT=>by
    rw[hSN];refine runS_cnt fun j k r1 r2 h1 h2 e1 e2 hjk hk=>?_
    obtain⟨y,hy,_,ye,hjs⟩:=hdstj j r1 h1;obtain⟨z,hz,_,ze,hks⟩:=hdstj k r2 h2;rw[Nat.zero_add] at hk ⊢;exact hT j k hjs hks y z hy hz (by rw[←ye];exact e1) (by rw[←ze];exact e2) hjk hk
  have hSpre:∀(j k:Nat),j<ops.size→k<ops.size→(∀y z,l[j]?=some y→l[k]?=some z→y.1.op.eff=true→z.1.op.eff=true→j<k→S k=true→S j=true):=fun j k _ hk y z hy hz e1 e2 hjk hSk =>
    closed_mask F (S:=S) h.closed ops.size k hk hk hSk j (F.eff j k y z hy hz hjk e1 e2)
  have hupre:∀q (j k:Nat),j<ops.size→k<ops.size→(∀y z,l[j]?=some y→l[k]?=some z→y.1.op.eff=true→z.1.op.eff=true→j<k→upTo q k=true→upTo q j=true):=fun q j k _ _ _ _ _ _ _ _ hjk hk=>by
    simp[upTo] at hk ⊢;omega
  have hstoS:ao.op.eff=true→runS (sel S 0 tr) s0=runS (sel (upTo i) 0 tr) s0:=fun hae=>by
    rw[hpre S hSpre,hpre (upTo i) (hupre i)];congr 1;refine cnt_congr fun j r' hr' hre=>?_
    rw[Nat.zero_add];obtain⟨y,hy,_,ye,hjs⟩:=hdstj j r' hr'
    rcases Nat.lt_trichotomy j i with hji | hji | hji
    · have:upTo i j=true:=by simp[upTo,hji]
      rw[this];exact hbefore j (F.eff j i y (ao,ms) hy hx hji (by rw[←ye];exact hre) hae)
    · subst hji
      have:upTo j j=false:=by simp[upTo]
      rw[this];exact hSi
    · have:upTo i j=false:=by simp[upTo];omega
      rw[this];exact hafter j hjs (F.eff i j (ao,ms) y hx hy hji hae (by rw[←ye];exact hre))
  -- the next state
  have hadd:(fun j=>(listed.setIfInBounds i true).getD j false)=add S i:=by
    funext j;simp only[add,S]
    by_cases hji:j=i
    · subst hji;simp[hlt']
    · rw[Array.getD_eq_getD_getElem?,Array.getElem?_setIfInBounds_ne (Ne.symm hji),←Array.getD_eq_getD_getElem?];simp[hji]
  have hT:runT (sel (add S i) 0 tr) t0=putT (runT (sel S 0 tr) t0) r.dst r.val :=
    runT_add (by omega) (by simpa using hr) hSi fun j r' hr' hne n hn hn' => by
      obtain⟨y,hy,hyd,_,_⟩:=hdstj j r' hr';exact F.dst j i y (ao,ms) hy hx (by omega) n (by rw[←hd];exact hn) (by rw[←hyd];exact hn')
  have haddpre:∀(j k:Nat),j<ops.size→k<ops.size→(∀y z,l[j]?=some y→l[k]?=some z→y.1.op.eff=true→z.1.op.eff=true→j<k→add S i k=true→add S i j=true):=fun j k hj hk y z hy hz e1 e2 hjk hSk=>by
    simp only[add,Bool.or_eq_true,decide_eq_true_eq] at hSk ⊢
    rcases hSk with hSk | rfl
    · exact .inl (hSpre j k hj hk y z hy hz e1 e2 hjk hSk)
    · exact .inl (hbefore j (F.eff j k y z hy hz hjk e1 e2))
  have hSto:runS (sel (add S i) 0 tr) s0=if ao.op.eff then r.sto else runS (sel S 0 tr) s0:=by
    rw[hpre (add S i) haddpre];cases hae:ao.op.eff
    · simp only[Bool.false_eq_true,if_false];rw[hpre S hSpre];congr 1;refine cnt_congr fun j r' hr' hre=>?_
      rw[Nat.zero_add];obtain⟨y,hy,_,ye,_⟩:=hdstj j r' hr';have hji:j≠i:=by
        rintro rfl;rw[hx] at hy;simp at hy;subst hy;rw[ye,hae] at hre;simp at hre
      simp[add,hji]
    · simp only[if_true];have h1:cnt (add S i) 0 tr=cnt (upTo (i+1)) 0 tr:=cnt_congr fun j r' hr' hre=>by
        rw[Nat.zero_add];obtain⟨y,hy,_,ye,hjs⟩:=hdstj j r' hr'
        rcases Nat.lt_trichotomy j i with hji | hji | hji
        · have:upTo (i+1) j=true:=by simp[upTo];omega
          rw[this]
          have:=hbefore j (F.eff j i y (ao,ms) hy hx hji (by rw[←ye];exact hre) hae)
          simp[add,this]
        · subst hji;simp[add,upTo]
        · have:upTo (i+1) j=false:=by simp[upTo];omega
          rw[this]
          have:=hafter j hjs (F.eff i j (ao,ms) y hx hy hji hae (by rw[←ye];exact hre))
          simp[add,this];omega
      rw[h1,←hpre (upTo (i+1)) (hupre (i+1))];have hadd' : upTo (i+1)=add (upTo i) i:=by
        funext j;simp only[upTo,add];rw[Bool.eq_iff_iff];simp;omega
      -- the run up to and with i
      have key:∀(tr:List TR) (q:Nat) (s:Sto),q≤i→tr[i - q]?=some r→runS (sel (upTo (i+1)) q tr) s=r.sto:=by
        intro tr;induction tr with
        | nil=>intro q s _ h;simp at h
        | cons r' tr ih =>
          intro q s hq h;have hu:upTo (i+1) q=true:=by simp[upTo];omega
          simp only[sel,hu,if_true,runS]
          by_cases hqi:q=i
          · subst hqi;simp at h;subst h;rw[sel_upTo_zero (by omega)];simp[runS,he,hae]
          · exact ih (q+1) _ (by omega) (by rw[show i - q=(i - (q+1))+1 from by omega] at h;simpa using h)
      exact key tr 0 s0 (by omega) (by simpa using hr)
  -- the closure
  have hclosed' : ∀(j:Nat) o',ops[j]?=some o' → (listed.setIfInBounds i true).getD j false=true→∀e∈o'.after,Region.binds .any e=true→(listed.setIfInBounds i true).getD e.on false=true:=fun j o' ho' hj e h1 h2=>by
    have ej:(listed.setIfInBounds i true).getD j false=add S i j:=congrFun hadd j;have ee:(listed.setIfInBounds i true).getD e.on false=add S i e.on:=congrFun hadd e.on;rw[ee];rw[ej] at hj;simp only[add,Bool.or_eq_true,decide_eq_true_eq] at hj ⊢
    rcases hj with hj | rfl
    · exact .inl (h.closed j o' ho' hj e h1 h2)
    · rw[ho] at ho';simp only[Option.some.injEq] at ho';subst ho';exact .inl (hall e h1 h2)
  have next0:∀E' a' t' s',E'.w=E'.w→t' = runT (sel (add S i) 0 tr) t0→s' = runS (sel (add S i) 0 tr) s0→SRel E' (mkSt t' s') a' → Fr E0 E' → X (listed.setIfInBounds i true) E' a' → K a' E'.w:=fun E' a' t' s' _ e1 e2 hs' hf' hx' => by
    refine hK a' E'.w ⟨by simp[h.size],hclosed',E',rfl,?_,hf',hx'⟩;rw[hadd,←e1,←e2];exact hs'
  -- the machine's step
  unfold wpOp;rw[ho];simp only;have hload:∀g n y,ao.op = .load g n y→run=true→ldS (runS (sel S 0 tr) s0) g n (ev (mkSt (runT (sel (upTo i) 0 tr) t0) (runS (sel (upTo i) 0 tr) s0)) y)=some r.val:=fun g n y hy hrr=>by
      obtain⟨hsem,hld⟩:=hrun hrr;rw[hpre S hSpre];have hisl:ao.op.isLoad=true:=by rw[hy];rfl
      have hm:=F.load i (ao,ms) hx hisl (cnt S 0 tr);have hlo' : loOf (List.zipWith diOf l b) (diOf (ao,ms) (b.getD i 0))≤cnt S 0 tr:=by
        have e:loOf (List.zipWith diOf l b) (diOf (ao,ms) (b.getD i 0))=cnt (fun j=>(b.getD i 0).testBit j) 0 tr:=by
          unfold loOf cntD;exact(cntD_eq (p:=fun j _=>(b.getD i 0).testBit j) (S:=fun j=>(b.getD i 0).testBit j) ht (by rw[hbl,F.size]) (fun j y _ _=>rfl)).symm
        rw[e];exact cnt_le fun j r' _ _ hb=>by rw[Nat.zero_add] at hb ⊢;exact hbefore j hb
      have hhi' : cnt S 0 tr≤hiOf (List.zipWith diOf l b) i:=by
        have e:hiOf (List.zipWith diOf l b) i=cnt (fun j=>!((b.getD j 0).testBit i)) 0 tr:=by
          unfold hiOf cntD;exact(cntD_eq (p:=fun _ y=>!(y.mask.testBit i)) (S:=fun j=>!((b.getD j 0).testBit i)) ht (by rw[hbl,F.size]) (fun j y _ _=>by simp[diOf])).symm
        rw[e];refine cnt_le fun j r' hr' _ hSj=>?_
        rw[Nat.zero_add] at hSj ⊢;obtain⟨y,_,_,_,hjs⟩:=hdstj j r' hr';cases hb:(b.getD j 0).testBit i with
        | false=>rfl
        | true=>rw[hafter j hjs hb] at hSj;simp at hSj
      rcases hm hlo' hhi' with hm | hm
      · exact hld g n y hy _ hm
      · have e:nowOf (List.zipWith diOf l b) i=cnt (upTo i) 0 tr:=by
          unfold nowOf cntD;exact(cntD_eq (p:=fun j _=>decide (j<i)) (S:=upTo i) ht (by rw[hbl,F.size]) (fun j y _ _=>rfl)).symm
        rw[hm,e,←hpre (upTo i) (hupre i)];rw[hy] at hsem;simp only[AOp.sem] at hsem;rw[ldV_ldS] at hsem;cases hq:ldS (runS (sel (upTo i) 0 tr) s0) g n (ev (mkSt (runT (sel (upTo i) 0 tr) t0) (runS (sel (upTo i) 0 tr) s0)) y) with
        | none=>rw[hq] at hsem;exact hsem.elim
        | some u=>rw[hq] at hsem;rw[hsem.1]
  have hxs:∀y∈ao.op.xs,ev (mkSt (runT (sel S 0 tr) t0) (runS (sel S 0 tr) s0)) y=ev (mkSt (runT (sel (upTo i) 0 tr) t0) (runS (sel (upTo i) 0 tr) s0)) y:=fun y hy =>
      ev_eq fun n hn=>hslot n (by simp only[readsOf,List.mem_append,List.mem_flatMap];exact .inl ⟨y,hy,hn⟩)
  have hsem' : run=true→ao.op.sem P (mkSt (runT (sel S 0 tr) t0) (runS (sel S 0 tr) s0)) (Exact (runT (sel S 0 tr) t0) r.val (if ao.op.eff then (if ao.op.eff then r.sto else runS (sel (upTo i) 0 tr) s0) else runS (sel S 0 tr) s0)):=fun hrr =>
    sem_cong (P:=P) (op:=ao.op) (t:=runT (sel (upTo i) 0 tr) t0) (t2:=runT (sel S 0 tr) t0) (s:=runS (sel (upTo i) 0 tr) s0) (s2:=runS (sel S 0 tr) s0) hxs hstoS (fun g n y hy=>hload g n y hy hrr) (hrun hrr).1
  rcases hlowo with ⟨hlowo,hXg⟩ | hspec
  case' inr =>
    obtain⟨hg1,hg2,hstep⟩:=hspec;rw[if_pos (by simp[Region.wanted,hg1])];left;have hrr:run=true:=by rw[hg2] at hguard;exact hguard
    have hsame:∀d,(∀(j:Nat) x,l[j]?=some x→x.1.dst=some d→listed.getD j false=false)→(runT (sel S 0 tr) t0).getD d .any=t0.getD d .any:=fun d hd=>by
      have h1:=slot_congr (S:=S) (S' := fun _=>false) (x:=d) (tr:=tr) (i:=0) (t:=t0) (t' := t0) rfl rfl fun j r' hr' hrd=>by
        obtain⟨y,hy,hyd,_,_⟩:=hdstj j r' hr';rw[Nat.zero_add];exact hd j y hy (by rw[←hyd];exact hrd)
      rw[h1]
      have:∀(tr:List TR) (q:Nat),sel (fun _=>false) q tr=[]:=by
        intro tr;induction tr with
        | nil=>intro q;rfl
        | cons r tr ih=>intro q;simp only[sel,Bool.false_eq_true,if_false];exact ih _
      rw[this];rfl
    refine Oper.wp_mono ?_ (hstep E a _ _ _ _ listed Q hlt' hSi hbefore (fun j hj=>hafter j (by omega)) hsame hs hfr hX (hsem' hrr));rintro a' w' ⟨E',rfl,hs',hf',hx'⟩;refine next0 E' a' _ _ rfl ?_ ?_ hs' hf' hx'
    · rw[hT,hd]
    · rw[hSto];cases hae:ao.op.eff<;>simp
  have next:∀E' u t' s',t' = runT (sel (add S i) 0 tr) t0→s' = runS (sel (add S i) 0 tr) s0→SRel E' (mkSt t' s') (a.put o.dst u)→Fr E E' → K (a.put o.dst u) E'.w:=fun E' u t' s' e1 e2 hs' hf' => next0 E' _ t' s' rfl e1 e2 hs' (hfr.trans hf') (hXg _ _ _ _ _ hX hf')
  have hlo:=hlowo;unfold lowAO at hlo;split at hlo
  · simp at hlo
  rename_i op hop;have hwanted:Region.wanted o (yielded ops a.tmps)=run∧op=ao.op∧o.dst=ao.dst:=by
    cases hg:o.guard with
    | none =>
      rw[hg] at hlo;simp only[Option.some.injEq] at hlo;subst hlo;simp only at hguard;exact⟨by simp[Region.wanted,hg,hguard],rfl,rfl⟩
    | some p =>
      obtain⟨j,want⟩:=p;rw[hg] at hlo;simp only at hlo;split at hlo
      case h_2=>simp at hlo
      rename_i g hgd;simp only[Option.some.injEq] at hlo;subst hlo;simp only at hguard;refine⟨?_,rfl,rfl⟩;have hgs:=hslot g (by simp[readsOf])
      rcases hguard with ⟨bb,hb1,hb2⟩ | ⟨hb1,hb2⟩
      case' inr =>
        rw[hb1] at hgs;have hR:=RL_getD hs.slot g undef;have hR' : R E (.tup []) (a.tmps.toList.getD g undef):=by
          have:(mkSt (runT (sel S 0 tr) t0) (runS (sel S 0 tr) s0)).t.getD g .any = .tup []:=hgs
          rw[←this];exact hR
        have hu:=R_und hR';rw[hb2];simp only[Region.wanted,hg,yielded,hgd,Option.bind_some];cases hq:a.tmps[g]? with
        | none=>rfl
        | some u =>
          have:u=undef:=by rw[List.getD] at hu;simp[hq] at hu;exact hu
          rw[this];rfl
      rw[hb1] at hgs;have hR:=RL_getD hs.slot g undef;have hR' : R E (.bool bb) (a.tmps.toList.getD g undef):=by
        have:(mkSt (runT (sel S 0 tr) t0) (runS (sel S 0 tr) s0)).t.getD g .any = .bool bb:=hgs
        rw[←this];exact hR
      simp only[R] at hR';have hget:a.tmps[g]?=some (.bool bb):=by
        rw[List.getD] at hR';cases hq:a.tmps.toList[g]? with
        | none=>rw[hq] at hR';simp[undef] at hR'
        | some u=>rw[hq] at hR';simp at hR';subst hR';simpa using hq
      simp only[Region.wanted,hg,yielded,hgd,Option.bind_some,hget];rw[hb2];cases bb<;>cases want<;>rfl
  obtain⟨hwr,rfl,hdst⟩:=hwanted;rw[hwr];cases hrr:run with
  | true =>
    rw[if_pos rfl];left;refine Oper.wp_mono ?_ (low_sound (Q:=Q) hop hs (hsem' hrr));rintro a' w' ⟨E',v,u,st',rfl,hf',hs',hv,rfl,hv1,rfl⟩;subst hv1
    have:=SRel.put hs' hv o.dst
    rw[put_putT] at this;refine next E' u _ _ ?_ ?_ this hf'
    · rw[hT,hd,hdst]
    · rw[hSto];cases hae:ao.op.eff<;>simp
  | false =>
    rw[if_neg (by simp)];obtain⟨hv,hsk⟩:=hskip hrr
    have:=SRel.put hs (v:=.tup []) (x:=undef) R_undef o.dst
    rw[put_putT] at this;refine next E undef _ _ ?_ ?_ this (Fr.refl E)
    · rw[hT,hd,hdst,hv]
    · rw[hSto];cases hae:ao.op.eff
      · rw[if_neg (by simp)]
      · simp only[if_true];rw[hsk (by rw[he,hae])];exact hstoS hae
theorem count_set:∀(l:List Bool) (i:Nat),l[i]?=some false→(l.set i true).count false+1=l.count false
  | [],i,h=>by simp at h
  | x::l,0,h=>by simp at h;subst h;simp
  | x :: l, i + 1, h => by
    simp at h
    have:=count_set l i h
    cases x<;>simp<;>omega
theorem draw_soundX {ops:Array Oper} {l:List (AO × List Nat)} {b:List Nat} (F:Facts ops l b) (hbl:b.length=ops.size) (hf:P.follows .mixedOrders=true) {id:Nat} {K:St→Prop} {st:St} (h:vcD P l [(st.loc,st.out)] [] K st) {E:Env} {a:Act} (hs:SRel E st a) {X:Array Bool→Env→Act→Prop}
    (hX0:∀E',X (Array.replicate ops.size false) E' a)
    (hlow:∀(i:Nat) o,ops[i]?=some o→∃x:AO × List Nat,l[i]?=some x∧((lowAO P ops o=some x.1∧∀listed E E' a u,X listed E a→Fr E E' → X (listed.setIfInBounds i true) E' (a.put o.dst u))∨Spec P l b st.t E X i o x.1)) :
    (Code.region id ops true).wp P (fun e a' w' => ∃E' st',E'.w=w' ∧ SRel E' st' a' ∧ Fr E E' ∧ e = .normal∧K st') a E.w:=by
  refine wp_region_any hf ?_;obtain⟨hfr,_,hs1⟩:=srel_ext hs ((Ext.refl E.w).drew);obtain⟨tr,ht,_,hK⟩:=vcD_trace (t:=st.t) (s:=(st.loc,st.out)) h;have hSN:[(st.loc,st.out)]++effS tr=(st.loc,st.out)::effS tr:=rfl;rw[hSN] at ht;have hlen:=TrOk_length ht;have key:∀(fuel:Nat) (listed:Array Bool) (a:Act) (w:World),At2 ops tr st.t (st.loc,st.out) E X listed a w→listed.toList.count false≤fuel →
      wpAny P .any ops (fun e a' w' => ∃E' st',E'.w=w' ∧ SRel E' st' a' ∧ Fr E E' ∧ e = .normal∧K st') fuel listed a w:=by
    have done:∀(listed:Array Bool) (a:Act) (w:World),At2 ops tr st.t (st.loc,st.out) E X listed a w→Region.ready .any ops listed=[] →
        ∃E' st',E'.w=w∧SRel E' st' a∧Fr E E' ∧ Exit.normal = .normal∧K st' := fun listed a w h hr=>by
      have hall:∀n j,j<n→j<ops.size→listed.getD j false=true:=by
        intro n;induction n with
        | zero=>intro j h;omega
        | succ n ih =>
          intro j hj hjs;cases hq:listed.getD j false with
          | true=>rfl
          | false =>
            have:j∈Region.ready .any ops listed:=mem_ready.2 ⟨by rw[getD_tf _ _ (by rw[h.size];exact hjs)];exact hq,ops[j],Array.getElem?_eq_getElem hjs,fun e he hb=>by
              have:=F.back j _ (Array.getElem?_eq_getElem hjs) e he hb
              exact ih e.on (by omega) (by omega)⟩
            rw[hr] at this;simp at this
      obtain⟨E',h1,h2,h3,_⟩:=h.rel;rw[sel_all (fun j hj=>by rw[Nat.zero_add];exact hall (j+1) j (by omega) (by rw[←F.size,hlen];exact hj))] at h2;exact⟨E',_,h1,h2,h3,rfl,hK⟩
    intro fuel;induction fuel with
    | zero =>
      intro listed a w h hc;have hr:Region.ready .any ops listed=[]:=by
        cases hq:Region.ready .any ops listed with
        | nil=>rfl
        | cons j js =>
          obtain⟨h1,o,ho,_⟩:=mem_ready.1 (show j∈Region.ready .any ops listed by rw[hq];simp);have hlt:j<listed.size:=by rw[h.size];exact(Array.getElem?_eq_some_iff.1 ho).1
          have:false∈listed.toList:=by
            have e:listed[j]?=some false:=by
              rw[Array.getElem?_eq_getElem hlt];simpa [hlt] using h1
            exact List.mem_of_getElem? (by simpa using e)
          have:=List.count_pos_iff.2 this
          omega
      exact⟨hr,done listed a w h hr⟩
    | succ fuel ih =>
      intro listed a w h hc;refine⟨fun hr=>done listed a w h hr,fun i hi=>?_⟩;refine draw_step F hbl rfl ht h hi (hlow i) fun a w h' => ih _ a w h' ?_
      obtain⟨h1,o,ho,_⟩:=mem_ready.1 hi;have hlt:i<listed.size:=by rw[h.size];exact(Array.getElem?_eq_some_iff.1 ho).1
      have e:listed.toList[i]?=some false:=by
        have:listed[i]?=some false:=by
          rw[Array.getElem?_eq_getElem hlt];simpa [hlt] using h1
        simpa using this
      have:=count_set listed.toList i e
      simp only[Array.toList_setIfInBounds];omega
  have hnone:∀j,(Array.replicate ops.size false).getD j false=false:=fun j=>by
    by_cases hj:j<ops.size<;>simp[hj]
  have hsel:∀(tr:List TR) (q:Nat),sel (fun j=>(Array.replicate ops.size false).getD j false) q tr=[]:=by
    intro tr;induction tr with
    | nil=>intro q;rfl
    | cons r tr ih=>intro q;rw[sel,if_neg (by rw[hnone];simp)];exact ih _
  refine key ops.size _ a _ ⟨by simp,fun i o _ hi=>by rw[hnone] at hi;simp at hi,{E with w:=E.w.drew},rfl,?_,hfr,hX0 _⟩ (by simp);rw[hsel];exact hs1
theorem draw_sound {ops:Array Oper} {l:List (AO × List Nat)} {id:Nat} (hl:lowDraw P ops=some l) {K:St→Prop} {st:St} (h:vcD P l [(st.loc,st.out)] [] K st) :
    pwp P (.region id ops true) (fun e st' => e = .normal∧K st') st:=by
  obtain⟨b,F,hbl,hf,hlow⟩:=lowDraw_spec hl;intro E a hs;exact draw_soundX (X:=fun _ _ _=>True) F hbl hf h hs (fun _=>trivial) fun i o ho=>by
    obtain⟨x,h1,h2⟩:=hlow i o ho;exact⟨x,h1,.inl ⟨h2,fun _ _ _ _ _ _ _=>trivial⟩⟩
end
end Go.Am

namespace Go.Am
section
variable {P:Program} {E:Env} {st:St} {a:Act} {o:Oper} {K:V→St→Prop} {Q:Exit→Act→World→Prop}
theorem wp_newO (hs:SRel E st a) {zs:List V} {c:Array Value} {e:TypeId} (hr:(execOp a.eval o).run P E.w = .ok (.value (.pointer (some ⟨E.w.heap.size,0,none⟩))) (E.w.alloc (.cells c e)))
    (hz:RL E zs c.toList) (hnl:nolL zs=true) (hk:∀b,st.out.box b=none→K (.ptr (.out b) 0) ⟨st.t,st.loc,st.out.set b zs⟩):o.wp P a E.w (Post E a o.dst K) Q:=by
  unfold Oper.wp;rw[hr]
  let E' : Env:={w:=E.w.alloc (.cells c e),role:=fun b=>if b=E.w.heap.size then .obox else E.role b,loc:=E.loc,tip:=E.tip}
  have hx:Ext E.w E'.w:=(Ext.refl _).alloc _ _;have hfr:Fr E E' := fr_ext hs.ok.fresh hx (fun b hb=>by simp only[E'];rw[if_neg (by omega)]) (fun _ _ h=>h);have hle:E.le E' := hfr.le fun i b h=>h
  have hno:st.out.box E.w.heap.size=none:=by
    cases hq:st.out.box E.w.heap.size with
    | none=>rfl
    | some cs =>
      obtain⟨_,c',e',h3,_⟩:=hs.ok.box _ cs hq
      have:=lt_of_heap (w:=E.w) h3
      omega
  refine⟨E',_,_,⟨st.t,st.loc,st.out.set E.w.heap.size zs⟩,rfl,hfr,⟨⟨?_,?_,?_,hs.ok.nt,fun b cs hc=>RAs.mono _ hfr.nl (hs.ok.con b cs hc)⟩,?_,hs.defers,RL.mono _ hle hs.slot⟩,?_,rfl,hk _ hno⟩
  · intro b cs hcs;simp only[Store.set] at hcs;split at hcs
    · rename_i hb;subst hb;simp only[Option.some.injEq] at hcs;subst hcs;have hz' := RL.nolm (E:=E) (E' := E'.nl) _ hfr.nl hnl hz;have hl:=RL_length hz';refine⟨by simp[E'],c,e,heap_alloc_new _ _,by simp at hl;omega,fun j x hx=>?_⟩;obtain⟨v,hv,hr'⟩:=RL_get hz' j x hx;exact⟨v,by simpa using hv,hr'⟩
    · rename_i hb;obtain⟨h1,h2⟩:=hs.ok.box b cs hcs;have hlt:b<E.w.heap.size:=by obtain⟨c,e,h3,_⟩:=h2;exact lt_of_heap (w:=E.w) h3
      exact⟨by simp only[E'];rw[if_neg hb];exact h1,h2.mono hfr.nl (hx.block b hlt)⟩
  · exact hs.ok.tip
  · intro b hb;simp only[E',World.size_alloc] at hb ⊢;rw[if_neg (by omega)];exact hs.ok.fresh b (by omega)
  · exact okL_keep hs.okL hle (fun b i h hb=>⟨by simp only[E'];rw[if_neg (by omega)];exact h,hx.block b hb⟩) hs.okL.none
  · simp only[R]
theorem wp_allocO (hs:SRel E st a) {t:TypeId} {zs:List V} (ho:o.op = .alloc t) (hz:zeroC P t=some zs) (hk:AOp.sem P st K (.allocO zs)):o.wp P a E.w (Post E a o.dst K) Q:=by
  obtain⟨i,z,h1,h2,h3,_⟩:=zeroC_spec hz;refine wp_newO hs (c:=z.cells) (e:=t) ?_ (cvL_RL h3) hk.1 hk.2;simp[execOp,ho,Instr.alloc,zeroValue,typeInfo,h1,h2,newVar,newRow]
theorem wp_boxO (hs:SRel E st a) {t:TypeId} {x:Operand} {n:Nat} {y:X} (ho:o.op = .box t x) (hx:R E (ev st y) (a.eval x)) (hk:AOp.sem P st K (.boxO n y)):o.wp P a E.w (Post E a o.dst K) Q:=by
  refine wp_newO hs (c:=(a.eval x).cells) (e:=t) ?_ (R_cells hx hk.1).1 hk.2.1 hk.2.2;simp[execOp,ho,Instr.box,newVar,newRow]
theorem wp_newB (hs:SRel E st a) {zs:List V} {c:Array Value} {e:TypeId} {w1:World} (hw1:Ext E.w w1) (hw1s:w1.heap.size=E.w.heap.size) {x:Value} {v:Nat→V}
    (hr:(execOp a.eval o).run P E.w = .ok (.value x) (w1.alloc (.cells c e)))
    (hz:RL E.nl zs c.toList) (hv:R E (v E.w.heap.size) x) (hnl:(v E.w.heap.size).nol=true) (hk:∀b,st.out.box b=none→K (v b) ⟨st.t,st.loc,st.out.set b zs⟩):o.wp P a E.w (Post E a o.dst K) Q:=by
  unfold Oper.wp;rw[hr]
  let E' : Env:={w:=w1.alloc (.cells c e),role:=fun b=>if b=E.w.heap.size then .obox else E.role b,loc:=E.loc,tip:=E.tip}
  have hx:Ext E.w E'.w:=hw1.alloc _ _;have hfr:Fr E E' := fr_ext hs.ok.fresh hx (fun b hb=>by simp only[E'];rw[if_neg (by omega)]) (fun _ _ h=>h);have hle:E.le E' := hfr.le fun i b h=>h
  have hno:st.out.box E.w.heap.size=none:=by
    cases hq:st.out.box E.w.heap.size with
    | none=>rfl
    | some cs =>
      obtain⟨_,c',e',h3,_⟩:=hs.ok.box _ cs hq
      have:=lt_of_heap (w:=E.w) h3
      omega
  refine⟨E',_,_,⟨st.t,st.loc,st.out.set E.w.heap.size zs⟩,rfl,hfr,⟨⟨?_,?_,?_,hs.ok.nt,fun b cs hc=>RAs.mono _ hfr.nl (hs.ok.con b cs hc)⟩,?_,hs.defers,RL.mono _ hle hs.slot⟩,hv.mono _ hle,rfl,hk _ hno⟩
  · intro b cs hcs;simp only[Store.set] at hcs;split at hcs
    · rename_i hb;subst hb;simp only[Option.some.injEq] at hcs;subst hcs;have hz' : RL E'.nl zs c.toList:=RL.mono _ hfr.nl hz;have hl:=RL_length hz';refine⟨by simp[E'],c,e,?_,by simp at hl;omega,fun j x hx=>?_⟩
      · show (w1.alloc (.cells c e)).heap[E.w.heap.size]?=_;rw[←hw1s];exact heap_alloc_new _ _
      · obtain⟨v,hv,hr'⟩:=RL_get hz' j x hx;exact⟨v,by simpa using hv,hr'⟩
    · rename_i hb;obtain⟨h1,h2⟩:=hs.ok.box b cs hcs;have hlt:b<E.w.heap.size:=by obtain⟨c,e,h3,_⟩:=h2;exact lt_of_heap (w:=E.w) h3
      exact⟨by simp only[E'];rw[if_neg hb];exact h1,h2.mono hfr.nl (hx.block b hlt)⟩
  · exact hs.ok.tip
  · intro b hb;simp only[E',World.size_alloc] at hb ⊢;rw[if_neg (by omega)];exact hs.ok.fresh b (by omega)
  · exact okL_keep hs.okL hle (fun b i h hb=>⟨by simp only[E'];rw[if_neg (by omega)];exact h,hx.block b hb⟩) hs.okL.none
theorem wp_appO (hs:SRel E st a) {t u ty e:TypeId} {i:TypeInfo} {z:Value} (ht:P.underlying t=some (.slice e)) (hi:P.info? e=some i) (hz:i.zero=some z) (hzs:z.cells.size=i.size)
    (hby:i.bytes≤4096) {base:Option Addr} {n cap:Nat} {vx:Value} {m:List (List V)}
    (hrun:(execOp a.eval o).run P E.w=((Builtin.append_ #[t,u] ty #[.slice base n cap,vx]).run P E.w).andThen fun v w' => .ok (.value v) w')
    {news:List Value} (hsrc:Src P E.w i.size m.length u vx news) (hnews:RL E.nl m.flatten news) (hone:∀v∈news,v.oneCell' = true) (hm:∀y∈m,y.length=i.size)
    (hk:GrowOk st.out i.size base n cap m fun v σ=>K v ⟨st.t,st.loc,σ⟩):o.wp P a E.w (Post E a o.dst K) Q:=by
  obtain⟨hcap,hbig,hnol,hk0,hk1,hk2⟩:=hk;have hlnews:=hsrc.size;have hbytes:(n+m.length)*i.bytes≤140737488355328:=by
    have:=Nat.mul_le_mul hbig hby
    simp only[big] at this;omega
  have hsmall:n+m.length≤9223372036854775807:=by simp only[big] at hbig;omega
  by_cases hm0:m=[]
  · have hK0:K (V.raw (Value.slice base n cap)) st:=hk0 hm0;subst hm0
    have:news=[]:=List.eq_nil_of_length_eq_zero (by simpa using hlnews)
    subst this;refine wp_val hs (v:=.raw (.slice base n cap)) (x:=.slice base n cap) ?_ (by simp only[R]) hK0;rw[hrun,run_app_idle (P:=P) ht hi hcap hsrc];rfl
  rcases Nat.lt_or_ge cap (n+m.length) with hlt | hroom
  · obtain⟨cs,hcs,hk2⟩:=hk2 hlt;have hold:∃olds:List Value,(Builtin.firstCells i.size n (.slice base n cap)).run P E.w.drew = .ok olds.toArray E.w.drew∧RL E.nl (cs.take (n*i.size)) olds∧olds.length=n*i.size∧(cs.take (n*i.size)).length=n*i.size:=by
      rcases hcs with ⟨rfl,rfl⟩ | ⟨b,rfl,hbox,hle⟩
      · refine⟨[],?_,by simp[RL],by simp,by simp⟩;cases base<;>simp[Builtin.firstCells,loadCells,loadCellsFrom]
      · obtain⟨hrole,c,e',hbk,hlen,hcells⟩:=hs.ok.box b cs hbox;have hbk:E.w.heap[b]?=some (.cells c e' (0,0)):=hbk;refine⟨c.toList.take (n*i.size),?_,RL_of_get (by simp;omega) fun j x u hx hu=>?_,by simp;omega,by simp;omega⟩
        · have hl:(c.toList.take (n*i.size)).length=n*i.size:=by simp;omega
          have:=run_loadCells_list (P:=P) E.w.drew ⟨b,0,none⟩ (c.toList.take (n*i.size)) (fun j v hv=>by
            rw[addr_add];have hbk' : E.w.drew.heap[b]?=some (.cells c e' (0,0)):=hbk;have hj:j<n*i.size:=by have:=(List.getElem?_eq_some_iff.1 hv).1;omega
            rw[List.getElem?_take_of_lt hj] at hv;simpa [World.cell?,hbk'] using hv)
          rw[hl] at this;simp only[Builtin.firstCells];exact this
        · have hj:j<n*i.size:=by have:=(List.getElem?_eq_some_iff.1 hx).1;simp at this;omega
          rw[List.getElem?_take_of_lt hj] at hx;rw[List.getElem?_take_of_lt hj] at hu;obtain⟨v,h1,h2⟩:=hcells j x hx
          have:v=u:=by simp at hu;rw[hu] at h1;simpa using h1.symm
          exact this▸h2
    obtain⟨olds,ho1,ho2,ho3,ho4⟩:=hold;have hge:=grownCap_ge E.w (n+m.length) cap e;have hr:(execOp a.eval o).run P E.w = .ok (.value (.slice (some ⟨E.w.heap.size,0,none⟩) (n+m.length) (grownCap E.w (n+m.length) cap e)))
        (E.w.drew.alloc (.cells (olds++(news++(Builtin.zeroCells z.cells (grownCap E.w (n+m.length) cap e - (n+m.length))).toList)).toArray e)):=by
      rw[hrun,run_app_grow (P:=P) ht hi hz ho1 hsrc hlt hbytes hsmall];rfl
    have hzl:(Builtin.zeroCells z.cells (grownCap E.w (n+m.length) cap e - (n+m.length))).toList.length=(grownCap E.w (n+m.length) cap e - (n+m.length))*i.size:=by
      simp only[Array.length_toList,size_zeroCells,hzs]
    generalize grownCap E.w (n+m.length) cap e=nc at hr hge hzl;generalize (Builtin.zeroCells z.cells (nc - (n+m.length))).toList=rest at hr hzl;refine wp_newB hs (v:=fun b=>.raw (.slice (some ⟨b,0,none⟩) (n+m.length) nc)) (zs:=cs.take (n*i.size)++m.flatten++List.replicate ((nc - (n+m.length))*i.size) .any) ((Ext.refl E.w).drew) rfl hr ?_ (by simp only[R]) rfl (fun b hb=>hk2 b nc hb hge);simp only[List.append_assoc];refine RL_append ho2 (RL_append hnews ?_);rw[←hzl];exact RL_any rest
  · obtain⟨b,cs,rfl,hbox,hfit,hK⟩:=hk1 hm0 hroom;obtain⟨hrole,c,e',hbk,hlen,hcells⟩:=hs.ok.box b cs hbox;have hbk:E.w.heap[b]?=some (.cells c e' (0,0)):=hbk;have hfl:=flat_length hm;have hfit' : n*i.size+news.length≤c.size:=by rw[hlnews];omega
    have hrr:=run_app_room (P:=P) (ty:=ty) ht hi hbk hsrc hone hroom hfit';have hfr:=fr_row (E:=E) (new:=(c.toList.take (n*i.size)++news++c.toList.drop (n*i.size+news.length)).toArray) hbk (.inr hrole) (by simp;omega);have hle:=hfr.le fun _ _ h=>h
    have hnew:=setRow_heap E.w b c (c.toList.take (n*i.size)++news++c.toList.drop (n*i.size+news.length)).toArray e' _ hbk;have hbx:=box_store (E' := Env.nl {E with w:=E.w.setRow b (c.toList.take (n*i.size)++news++c.toList.drop (n*i.size+news.length)).toArray}) hlen
      (fun j x hj=>let ⟨u,h1,h2⟩:=hcells j x hj;⟨u,h1,h2.mono _ hfr.nl⟩) (RL.mono _ hfr.nl hnews) (by omega) hnew
    generalize (c.toList.take (n*i.size)++news++c.toList.drop (n*i.size+news.length)).toArray=new at hrr hnew hfr hle hbx;have hk' : ∀b',b' ≠ b→(E.w.setRow b new).heap[b']?=E.w.heap[b']?:=fun b' hne=>setRow_other E.w b b' new hne
    unfold Oper.wp;rw[hrun,hrr];refine⟨{E with w:=E.w.setRow b new},.raw (.slice (some ⟨b,0,none⟩) (n+m.length) cap),.slice (some ⟨b,0,none⟩) (n+m.length) cap,⟨st.t,st.loc,st.out.set b (setAt cs (n*i.size) m.flatten)⟩,rfl,hfr,⟨⟨?_,hs.ok.tip,fun b' hb' => hs.ok.fresh b' (by simpa using hb'),hs.ok.nt,fun b cs hc=>RAs.mono _ hfr.nl (hs.ok.con b cs hc)⟩,
      okL_keep hs.okL hle (fun b' i hr _=>⟨hr,hk' b' (by rintro rfl;rw[hrole] at hr;simp at hr)⟩) hs.okL.none,hs.defers,RL.mono _ hle hs.slot⟩,by simp only[R],rfl,hK⟩
    intro b' ds hds
    by_cases hbb:b' = b
    · subst hbb;rw[Store.set_same] at hds;simp only[Option.some.injEq] at hds;subst hds;exact⟨hrole,hbx⟩
    · rw[Store.set_other _ _ hbb] at hds;obtain⟨k1,k2⟩:=hs.ok.box b' ds hds;exact⟨k1,k2.mono hfr.nl (hk' b' hbb)⟩
theorem madeCells_flat {z:Array Value} {n k:Nat} (hz:z.size=k) (hk:0<k):(madeCells z (n*k)).toList=(List.replicate n z.toList).flatten:=by
  apply List.ext_getElem?;intro j;have e:∀(n j:Nat),j<n*k→(List.replicate n z.toList).flatten[j]?=z[j % k]?:=by
    intro n;induction n with
    | zero=>intro j hj;simp at hj
    | succ n ih =>
      intro j hj;rw[List.replicate_succ,List.flatten_cons]
      by_cases h:j<k
      · rw[List.getElem?_append_left (by simpa [hz] using h),Nat.mod_eq_of_lt h];simp
      · rw[List.getElem?_append_right (by simp[hz];omega)];have hl:z.toList.length=k:=by simpa using hz
        have hj' : j - k<n*k:=by rw[Nat.add_mul,Nat.one_mul] at hj;omega
        rw[hl,ih (j - k) hj',show (j - k) % k=j % k from (Nat.mod_eq_sub_mod (by omega)).symm]
  by_cases hj:j<n*k
  · rw[e n j hj];have hm:j % k<z.size:=by rw[hz];exact Nat.mod_lt _ hk
    rw[getElem?_pos z _ hm];have hg:z[j % k]! = z[j % k]:=getElem!_pos z (j % k) hm;simp[madeCells,hj,hz,hg]
  · rw[List.getElem?_eq_none (by simp[madeCells];omega),List.getElem?_eq_none (by simp[hz];omega)]
def sameOp:Operand→Operand→Bool
  | .tmp a,.tmp b=>decide (a=b)
  | .const (.int k a),.const (.int k' b)=>decide (k=k')&&decide (a=b)
  | _,_=>false
theorem sameOp_eq {x y:Operand} (h:sameOp x y=true):x=y:=by
  unfold sameOp at h;split at h
  · simp at h;rw[h]
  · simp at h;rw[h.1,h.2]
  · simp at h
theorem bnd_spec {b:Option X} {d:Nat} {vs:List V} {K:Nat→List V→Prop} (h:bnd b.isSome d (evs st b.toList++vs) K):∃m,K m vs∧match (generalizing:=false) b with | none=>m=d | some y=>∃j,ev st y = .int j m:=by
  cases b with
  | none=>simp only[Option.isSome,Option.toList,evs,List.nil_append,bnd] at h;exact⟨d,h,rfl⟩
  | some y =>
    simp only[Option.isSome,Option.toList,evs,List.cons_append,List.nil_append] at h;unfold bnd at h;split at h
    · rename_i e;simp at e
    · rename_i j n r e1 e2;simp only[List.cons.injEq] at e2;obtain⟨e3,rfl⟩:=e2;exact⟨n.toNat,h.2,j,by rw[e3];simp;omega⟩
    · exact h.elim
theorem evs_append {xs ys:List X}:evs st (xs++ys)=evs st xs++evs st ys:=by
  induction xs with
  | nil=>rfl
  | cons x xs ih=>simp[evs,ih]
def lowOwn (P:Program) (o:Oper):Option AOp :=
  match o.op with
  | .move (.const (.slice none 0 0)) | .assign (.const (.slice none 0 0))=>some (.own .nil [])
  | .makeSlice t l c =>
    if sameOp l c=true then
      match P.underlying t with
      | some (.slice e) =>
        match P.info? e,zeroC P e,lowX P 0 l with
        | some i,some z,some x=>if i.bytes≤4096∧0<i.size∧z.length=i.size then some (.own (.mk z) [x]) else none
        | _,_,_=>none
      | _=>none
    else none
  | .buildSlice t len ps =>
    match P.underlying t with
    | some (.slice e) =>
      match sizeV P e,zeroC P e,lowXs P (List.replicate len e) (ps.toList.map (·.2)) with
      | some k,some _,some xs=>if ps.toList.map (·.1)=List.range len∧len*k≤16777216 then some (.own (.keep k) xs) else none
      | _,_,_=>none
    | _=>none
  | .slice t x lo hi mx =>
    match P.underlying t with
    | some (.slice e) =>
      match lowX P t x,lowO P t lo,lowO P t hi,lowO P t mx,sizeV P e with
      | some x,some lo,some hi,some mx,some k=>if mx.isSome=true→hi.isSome=true then some (.own (.slc k lo.isSome hi.isSome mx.isSome) (x::(lo.toList++hi.toList++mx.toList))) else none
      | _,_,_,_,_=>none
    | _=>none
  | .indexAddr t x i =>
    match P.underlying t,lowX P t x,lowX P t i with
    | some (.slice e),some x,some i=>(sizeV P e).map fun k=>.own (.idx k) [x,i]
    | _,_,_=>none
  | .call c =>
    match c.callee with
    | .builtin .len =>
      match c.argTypes.toList,c.args.toList with
      | [t], [x] =>
        match P.underlying t,lowX P t x with
        | some (.slice _),some y=>some (.own .len [y])
        | _,_=>none
      | _,_=>none
    | .builtin .append =>
      match c.argTypes.toList,c.args.toList with
      | [t, u], [s, x] =>
        match P.underlying t,P.underlying u,lowX P t s,lowX P u x with
        | some (.slice e), some (.slice e'), some s, some x =>
          match P.info? e,zeroC P e with
          | some i,some _=>if e=e' ∧ i.bytes≤4096∧0<i.size then some (.own (.app i.size) [s,x]) else none
          | _,_=>none
        | _,_,_,_=>none
      | _,_=>none
    | _=>none
  | _=>none
theorem own_sound {ao:AOp} (hl:lowOwn P o=some ao) (hs:SRel E st a) (h:ao.sem P st K):o.wp P a E.w (Post E a o.dst K) Q:=by
  have X:=fun {t:TypeId} {x:Operand} {y:X} (hx:lowX P t x=some y)=>lowX_R (E:=E) (st:=st) (a:=a) hs.slot hx
  unfold lowOwn at hl;split at hl
  · rename_i ho;simp only[Option.some.injEq] at hl;subst hl;refine wp_val hs (v:=.raw (.slice none 0 0)) (x:=.slice none 0 0) ?_ (by simp only[R]) h;simp[execOp,ho,Act.eval]
  · rename_i ho;simp only[Option.some.injEq] at hl;subst hl;refine wp_val hs (v:=.raw (.slice none 0 0)) (x:=.slice none 0 0) ?_ (by simp only[R]) h;simp[execOp,ho,Act.eval]
  · rename_i t l c ho;split at hl
    case isFalse=>simp at hl
    rename_i hlc;have hlc:=sameOp_eq hlc;subst hlc;split at hl
    case h_2=>simp at hl
    rename_i e ht;split at hl
    case h_2=>simp at hl
    rename_i i z x hi hz hx;split at hl
    case isFalse=>simp at hl
    rename_i hc;simp only[Option.some.injEq] at hl;subst hl;obtain⟨i',z',q1,q2,q3,q4⟩:=zeroC_spec hz;obtain rfl:i=i' := by rw[hi] at q1;simpa using q1
    have hx' := X hx;simp only[AOp.sem,evs] at h;unfold OQ.sem at h;split at h<;>try (exfalso;simp_all;done)
    · rename_i z0 k n e1 e2;simp only[OQ.mk.injEq] at e1;subst e1;simp only[List.cons.injEq,and_true] at e2;rw[e2] at hx';simp only[R] at hx';obtain⟨g1,g2,g3,g4,g5⟩:=h;have hzs:z'.cells.size=i.size:=by have:=RL_length (cvL_RL (E:=E) q3);simp at this;omega
      have hrun:=run_make (P:=P) E.w t e i z' ht hi q2 k k n n g1 (Int.le_refl _) (by
        have:(i.bytes:Int)*n≤4096*big:=Int.mul_le_mul (by omega) (by omega) g1 (by omega)
        simp only[big] at this;omega) (by simp only[big] at g2;omega)
      refine wp_newB hs (w1:=E.w) (Ext.refl _) rfl (v:=fun b=>.raw (.slice (some ⟨b,0,none⟩) n.toNat n.toNat)) (zs:=(List.replicate n.toNat z).flatten) (x:=.slice (some ⟨E.w.heap.size,0,none⟩) n.toNat n.toNat) (c:=madeCells z'.cells (n.toNat*i.size)) (e:=e) ?_ ?_ (by simp only[R]) rfl (fun b hb=>g5 b hb)
      · simp[execOp,ho,hx',hrun]
      · rw[madeCells_flat hzs hc.2.1];have hr:=cvL_RL (E:=E.nl) q3;induction n.toNat with
        | zero=>simp[RL]
        | succ m ih=>simp only[List.replicate_succ,List.flatten_cons];exact RL_append hr ih
  · rename_i t len ps ho;split at hl
    case h_2=>simp at hl
    rename_i e ht;split at hl
    case h_2=>simp at hl
    rename_i k z xs hk hz hxs;split at hl
    case isFalse=>simp at hl
    rename_i hc;simp only[Option.some.injEq] at hl;subst hl;simp only[AOp.sem] at h;unfold OQ.sem at h;split at h<;>try (exfalso;simp_all;done)
    · rename_i k0 vs e1;simp only[OQ.keep.injEq] at e1;subst e1;obtain⟨l,h1,h2⟩:=h;exact wp_bsliceG hs ho ht hk hz hc.1 hc.2 (keepV_R (E:=E) hs.slot hxs h1) h2
  · rename_i t x lo hi mx ho;split at hl
    case h_2=>simp at hl
    rename_i e ht;split at hl
    case h_2=>simp at hl
    rename_i x' lo' hi' mx' k h1 h2 h3 h4 hk;split at hl
    case isFalse=>simp at hl
    rename_i hmx;simp only[Option.some.injEq] at hl;subst hl;have hx:=X h1;simp only[AOp.sem,evs] at h;unfold OQ.sem at h;split at h<;>try (exfalso;simp_all;done)
    · rename_i k0 b1 b2 b3 base n cap vs e1 e2;simp only[OQ.slc.injEq] at e1;obtain⟨rfl,rfl,rfl,rfl⟩:=e1;simp only[List.cons.injEq] at e2;obtain⟨e2,rfl⟩:=e2;rw[e2] at hx;simp only[R] at hx;rw[evs_append,evs_append,List.append_assoc] at h;obtain⟨m,h,g1⟩:=bnd_spec h;obtain⟨hh,h,g2⟩:=bnd_spec h;rw[←List.append_nil (evs st mx'.toList)] at h;obtain⟨M,h,g3⟩:=bnd_spec h;obtain⟨_,k1,k2,k3,h⟩:=h;have hb:=run_bounds (P:=P) hs h2 h3 h4 hmx g1 g2 g3 k1 k2 k3;refine wp_val hs (v:=.raw _) (x:=.slice (if M=m then base else base.map (·.add (m*k))) (hh - m) (M - m)) ?_ (by simp only[R]) h;simp only[execOp,ho,Sem.run_bind,hx];simp[Instr.sliceAt,run_underlying ht,Instr.slice,hb,run_sizeV hk]
  · rename_i t x i ho;split at hl
    case h_2=>simp at hl
    rename_i e x' i' ht h1 h2;simp only[Option.map_eq_some_iff] at hl;obtain⟨k,hk,rfl⟩:=hl;have hx:=X h1;have hi:=X h2;simp only[AOp.sem,evs] at h;unfold OQ.sem at h;split at h<;>try (exfalso;simp_all;done)
    · rename_i k0 b off n cap kk j e1 e2;simp only[OQ.idx.injEq] at e1;subst e1;simp only[List.cons.injEq,and_true] at e2;obtain⟨e2,e3⟩:=e2;rw[e2] at hx;rw[e3] at hi;simp only[R] at hx hi;obtain⟨g1,g2,h⟩:=h;refine wp_val hs (v:=.ptr (.out b) (off+j.toNat*k)) (x:=.pointer (some ⟨b,off+j.toNat*k,none⟩)) ?_ (by simp only[R]) h;simp[execOp,ho,hx,hi,Instr.indexAt,asIntOf,run_underlying ht,g1,g2,run_sizeV hk,addr_add]
  · rename_i c ho;obtain⟨callee,args,argTypes⟩:=c;simp only at hl;split at hl
    · split at hl
      case h_2=>simp at hl
      rename_i t x ht hx;have e1:argTypes=#[t]:=by cases argTypes;simpa using ht
      have e2:args=#[x]:=by cases args;simpa using hx
      subst e1;subst e2;split at hl
      case h_2=>simp at hl
      rename_i e y hu h1;simp only[Option.some.injEq] at hl;subst hl;have hx:=X h1;simp only[AOp.sem,evs] at h;unfold OQ.sem at h;split at h<;>try (exfalso;simp_all;done)
      · rename_i base n cap e1 e2;simp only[List.cons.injEq,and_true] at e2;rw[e2] at hx;simp only[R] at hx;refine wp_val hs (v:=.int .i64 n) (x:=.int .i64 n) ?_ (by simp only[R]) h;simp[execOp,ho,resolve,invoke,builtin,Builtin.len_,run_underlying hu,hx,goInt]
    · split at hl
      case h_2=>simp at hl
      rename_i t u s x ht hx;have e1:argTypes=#[t,u]:=by cases argTypes;simpa using ht
      have e2:args=#[s,x]:=by cases args;simpa using hx
      subst e1;subst e2;split at hl
      case h_2=>simp at hl
      rename_i e e' s' x' hu hu' hs' hx';split at hl
      case h_2=>simp at hl
      rename_i i z hi hz;split at hl
      case isFalse=>simp at hl
      rename_i hc;simp only[Option.some.injEq] at hl;subst hl;obtain⟨rfl,hby,hpos⟩:=hc;obtain⟨i',z',q1,q2,q3,q4⟩:=zeroC_spec hz;obtain rfl:i=i' := by rw[hi] at q1;simpa using q1
      have hzs:z'.cells.size=i.size:=by have:=RL_length (cvL_RL (E:=E) q3);simp at this;omega
      have hsv:=X hs';have hxv:=X hx';simp only[AOp.sem,evs] at h;unfold OQ.sem at h;split at h<;>try (exfalso;simp_all;done)
      · rename_i k0 base n cap tk k1 m e1 e2;simp only[OQ.app.injEq] at e1;subst e1;simp only[List.cons.injEq,and_true] at e2;obtain⟨e2,e3⟩:=e2;obtain⟨rfl,h⟩:=h;rw[e2] at hsv;rw[e3] at hxv;obtain⟨news,g1,g2,g3,g4⟩:=src_slice (P:=P) hu' hxv;simp only[R] at hsv;refine wp_appO hs hu hi q2 hzs hby (ty:=o.type) (vx:=a.eval x) ?_ g1 g2 g3 g4 h;simp[execOp,ho,resolve,invoke,builtin,hsv]
    · simp at hl
  · simp at hl
def lowOpH (P:Program) (h:List Nat) (o:Oper):Option AOp :=
  match o.dst with
  | some d =>
    if h.contains d=true then
      match o.op with
      | .alloc t=>(zeroC P t).map .allocO
      | .box t x=>match sizeV P t,lowX P t x with | some n,some y=>some (.boxO n y) | _,_=>none
      | _=>match lowOwn P o with | some x=>some x | none=>lowOp P o
    else lowOp P o
  | none=>lowOp P o
theorem low_soundH {ao:AOp} {h:List Nat} (hl:lowOpH P h o=some ao) (hs:SRel E st a) (hk:ao.sem P st K):o.wp P a E.w (Post E a o.dst K) Q:=by
  unfold lowOpH at hl;split at hl
  case h_2=>exact low_sound hl hs hk
  split at hl
  case isFalse=>exact low_sound hl hs hk
  split at hl
  · rename_i t ho;simp only[Option.map_eq_some_iff] at hl;obtain⟨z,h1,rfl⟩:=hl;exact wp_allocO hs ho h1 hk
  · rename_i t x ho;split at hl
    case h_2=>simp at hl
    rename_i n y hn hy;simp only[Option.some.injEq] at hl;subst hl;exact wp_boxO hs ho (lowX_R hs.slot hy) hk
  · split at hl
    · rename_i x hx;simp only[Option.some.injEq] at hl;subst hl;exact own_sound hx hs hk
    · exact low_sound hl hs hk
end
end Go.Am

namespace Go.Am
structure Hole (E:Env) (τ k:Nat) (l:List (List V)) (b cap:Nat):Prop where
  tip:E.tip τ=some l.length
  role:E.role b = .lin τ (l.length*k)
  blk:∃cs e,E.w.heap[b]?=some (.cells cs e (0,0))∧cs.size=cap*k
  cap:l.length+1≤cap
  els:REs E.nl k l b 0
theorem Hole.mono {E E' : Env} {τ k:Nat} {l:List (List V)} {b cap:Nat} (h:Hole E τ k l b cap) (hf:Fr E E') (ht:E'.tip τ=some l.length):Hole E' τ k l b cap:=by
  obtain⟨n',h1,_,h3⟩:=hf.tok τ _ h.tip;rw[ht] at h1;simp only[Option.some.injEq] at h1;obtain⟨r1,r2⟩:=h3 h1.symm b _ h.role;obtain⟨cs,e,k1,k2⟩:=h.blk;obtain⟨cs',q1,q2⟩:=r2 cs e k1;exact⟨ht,r1,⟨cs',e,q1,q2.trans k2⟩,h.cap,REs.mono _ hf.nl h.els⟩
section
variable {P:Program} {E:Env} {st:St} {a:Act} {o:Oper}
theorem hole_app (hs:SRel E st a) {t u ty e:TypeId} {i:TypeInfo} {z:Value} (ht:P.underlying t=some (.slice e)) (hi:P.info? e=some i) (hz:i.zero=some z) (hzs:z.cells.size=i.size)
    (hby:i.bytes≤4096) {vs vx:Value} {τ:Nat} {l:List (List V)}
    (hrun:(execOp a.eval o).run P E.w=((Builtin.append_ #[t,u] ty #[vs,vx]).run P E.w).andThen fun v w' => .ok (.value v) w')
    (hsR:R E (.sl (.tk τ) i.size l) vs) {news:List Value} (hsrc:Src P E.w i.size 1 u vx news) (hone:∀v∈news,v.oneCell' = true)
    (hbig:l.length+1≤big) (hE:E.tip τ=some l.length) :
    ∃b cap E',Hole E' τ i.size l b cap∧(execOp a.eval o).run P E.w = .ok (.value (.slice (some ⟨b,0,none⟩) (l.length+1) cap)) E'.w∧Fr E E' ∧ SRel E' st a∧(∀j,E'.loc j=E.loc j):=by
  simp only[R] at hsR;obtain⟨base,cap,rfl,hcap,hel,htk⟩:=hsR;obtain⟨olds,hold,hRo,h1o,hlo,hlen⟩:=olds_slice (P:=P) (cap:=cap) hel;have hbytes:(l.length+1)*i.bytes≤140737488355328:=by
    have:=Nat.mul_le_mul hbig hby
    simp only[big] at this;omega
  have hsmall:l.length+1≤9223372036854775807:=by simp only[big] at hbig;omega
  have hlnews:=hsrc.size;obtain⟨n',h1,_,h3⟩:=htk;rw[hE] at h1;simp only[Option.some.injEq] at h1;subst h1
  rcases Nat.lt_or_ge cap (l.length+1) with hlt | hroom
  · have hge:=grownCap_ge E.w (l.length+1) cap e;have size:(olds++(news++(Builtin.zeroCells z.cells (grownCap E.w (l.length+1) cap e - (l.length+1))).toList)).toArray.size=grownCap E.w (l.length+1) cap e*i.size:=by
      simp only[List.size_toArray,List.length_append,Array.length_toList,size_zeroCells,hzs,hlen,hlnews];rw[←Nat.add_assoc,←Nat.add_mul,←Nat.add_mul];congr 1;omega
    have hr:=run_app_grow (P:=P) (ty:=ty) ht hi hz hold hsrc hlt hbytes hsmall;generalize grownCap E.w (l.length+1) cap e=nc at hr hge size;generalize news++(Builtin.zeroCells z.cells (nc - (l.length+1))).toList=rest at hr size
    let E' : Env:={w:=E.w.drew.alloc (.cells (olds++rest).toArray e),role:=fun b=>if b=E.w.heap.size then .lin τ (l.length*i.size) else E.role b,loc:=E.loc,tip:=E.tip}
    have hx:Ext E.w E'.w:=((Ext.refl _).drew).alloc _ _;have hnew:∀b,b<E.w.heap.size→E'.role b=E.role b:=fun b hb=>by simp only[E'];rw[if_neg (by omega)]
    have hfr:Fr E E' := fr_ext hs.ok.fresh hx hnew (fun _ _ h=>h);have hle:E.le E' := hfr.le fun _ _ h=>h
    have hsizeE:E'.w.heap.size=E.w.heap.size+1:=by simp[E']
    have hnb:E'.w.heap[E.w.heap.size]?=some (.cells (olds++rest).toArray e (0,0)):=heap_alloc_new E.w.drew _;have hrl:E'.role E.w.heap.size = .lin τ (l.length*i.size):=by simp[E']
    refine⟨E.w.heap.size,nc,E',⟨hE,hrl,⟨_,_,hnb,size⟩,hge,REs_new hlo (RL.mono _ hfr.nl hRo) h1o hnb (fun j hj=>by rw[hrl];simpa [Role.com] using hj)⟩,?_,hfr,⟨?_,?_,hs.defers,RL.mono _ hle hs.slot⟩,fun _=>rfl⟩
    · rw[hrun,hr];rfl
    · refine ok_keep hs.ok hfr.nl (fun b h hb=>⟨by rw[hnew b hb];exact h,hx.block b hb⟩) (fun _ _ h=>h) (fun b hb=>?_) hs.ok.nt;rw[hsizeE] at hb;simp only[E'];rw[if_neg (by omega)];exact hs.ok.fresh b (by omega)
    · exact okL_keep hs.okL hle (fun b i' h hb=>⟨by rw[hnew b hb];exact h,hx.block b hb⟩) hs.okL.none
  · rcases h3 rfl with hc | ⟨b,cs,e',rfl,hrole,hbk,hsz⟩
    · omega
    · have hfit:l.length*i.size+news.length≤cs.size:=by
        rw[hlnews,hsz,←Nat.add_mul];exact Nat.mul_le_mul_right _ hroom
      have hrr:=run_app_room (P:=P) (ty:=ty) ht hi hbk hsrc hone hroom hfit;have hgetn:∀j:Nat,j<l.length*i.size→(cs.toList.take (l.length*i.size)++news++cs.toList.drop (l.length*i.size+news.length)).toArray[j]?=cs[j]?:=fun j hj=>by
        have:=splice_get (c:=cs.toList) (vs:=news) (off:=l.length*i.size) (by simpa using hfit) j
        rw[if_pos hj] at this;simpa using this
      have hszn:(cs.toList.take (l.length*i.size)++news++cs.toList.drop (l.length*i.size+news.length)).toArray.size=cs.size:=by
        simp;omega
      generalize (cs.toList.take (l.length*i.size)++news++cs.toList.drop (l.length*i.size+news.length)).toArray=new at hrr hgetn hszn
      let E' : Env:={E with w:=E.w.setRow b new}
      have hother:∀b',b' ≠ b→E'.w.heap[b']?=E.w.heap[b']?:=fun b' hne=>setRow_other E.w b b' new hne
      have hb' : E'.w.heap[b]?=some (.cells new e' (0,0)):=setRow_heap E.w b cs new e' _ hbk;have hne:∀b' r,E.role b' = r→(∀c,r≠.lin τ c)→b' ≠ b:=fun b' r h h' => by rintro rfl;rw[hrole] at h;exact h' _ h.symm
      have hfr:Fr E E' := by
        refine⟨rfl,rfl,rfl,by simp[E'],frozen_setRow hbk,?_,?_,?_,fun _ _ h=>.inl h,fun _ _ c _ h=>⟨c,h⟩,fun _ i _ h=>⟨i,h⟩,fun b' c' e'' hc=>by
              by_cases hbb:b' = b
              · subst hbb;rw[hbk] at hc;simp only[Option.some.injEq,Obj.cells.injEq] at hc;obtain⟨rfl,rfl,_⟩:=hc;exact⟨new,hb',hszn⟩
              · exact⟨c',(hother b' hbb).trans hc,rfl⟩⟩
        · intro b' o' c hc hv
          by_cases hbb:b' = b
          · subst hbb;refine⟨hc,?_⟩;rw[hrole] at hc;simp only[Role.com] at hc;simp only[World.cell?,hbk] at hv;simp only[World.cell?,hb',hgetn _ hc];exact hv
          · exact⟨hc,by rw[cell_same (hother b' hbb)];exact hv⟩
        · intro t n hn;refine⟨n,hn,Nat.le_refl _,fun _ b' c hbc=>⟨hbc,fun cs' e'' hcs=>?_⟩⟩
          by_cases hbb:b' = b
          · subst hbb;rw[hbk] at hcs;simp only[Option.some.injEq,Obj.cells.injEq] at hcs;obtain⟨rfl,rfl,_⟩:=hcs;exact⟨new,hb',hszn⟩
          · exact⟨cs',by rw[hother b' hbb];exact hcs,rfl⟩
        · intro b' _ hr;have hbb:b' ≠ b:=by rcases hr with hr | hr<;>exact hne b' _ hr (fun c h=>by simp at h)
          exact⟨hother b' hbb,rfl⟩
      have hle:E.le E' := hfr.le fun _ _ h=>h
      have hlold:REs E.nl i.size l b 0:=by
        rcases hel with h | ⟨b2,o2,h,hr⟩
        · subst h;simp[REs]
        · simp only[Option.some.injEq,Addr.mk.injEq] at h;obtain⟨rfl,rfl,_⟩:=h;exact hr
      refine⟨b,cap,E',⟨hE,hrole,⟨new,e',hb',hszn.trans hsz⟩,hroom,REs.mono _ hfr.nl hlold⟩,?_,hfr,⟨?_,?_,hs.defers,RL.mono _ hle hs.slot⟩,fun _=>rfl⟩
      · rw[hrun,hrr];rfl
      · exact ok_keep hs.ok hfr.nl (fun b' hr _=>⟨hr,hother b' (hne b' _ hr (fun c h=>by simp at h))⟩) (fun _ _ h=>h) (fun b' hb'' => hs.ok.fresh b' (by simpa [E'] using hb'')) hs.ok.nt
      · exact okL_keep hs.okL hle (fun b' i' hr _=>⟨hr,hother b' (hne b' _ hr (fun c h=>by simp at h))⟩) hs.okL.none
theorem hole_store (hs:SRel E st a) {τ k b cap:Nat} {l:List (List V)} (hh:Hole E τ k l b cap) {t:TypeId} (hn:sizeV P t=some k) {xs:List V} {v:Value} (hx:RL E.nl xs v.cells.toList) (hv:v.cells.size=k) (h1:∀u∈v.cells.toList,u.oneCell' = true) :
    ∃E',(storeVar t ⟨b,l.length*k,none⟩ v).run P E.w = .ok () E'.w∧Fr E E' ∧ SRel E' ⟨st.t,st.loc,st.out.setTip τ (l.length+1)⟩ a ∧
      R E'.nl (.sl (.tk τ) k (l++[xs])) (.slice (some ⟨b,0,none⟩) (l.length+1) cap)∧(∀j,E'.loc j=E.loc j):=by
  obtain⟨cs,e',hbk,hsz⟩:=hh.blk;have hrole:=hh.role;have hE:=hh.tip;have hroom:=hh.cap;obtain⟨hlo,_⟩:=REs_iff.1 hh.els;have hxl:xs.length=k:=by have:=RL_length hx;simp at this;omega
  have hrr:=run_storeV (P:=P) (off:=l.length*k) hn hbk hv (by rw[hsz,←Nat.succ_mul];exact Nat.mul_le_mul_right _ hroom) h1;generalize hnews:v.cells.toList=news at hx h1 hrr;have hlnews:news.length=k:=by rw[←hnews];simpa using hv
  have hfit:l.length*k+news.length≤cs.size:=by rw[hlnews,hsz,←Nat.succ_mul];exact Nat.mul_le_mul_right _ hroom
  have hgetn:∀j:Nat,(cs.toList.take (l.length*k)++news++cs.toList.drop (l.length*k+k)).toArray[j]?=if j<l.length*k then cs[j]? else if j<l.length*k+news.length then news[j - l.length*k]? else cs[j]?:=fun j=>by
    have:=splice_get (c:=cs.toList) (vs:=news) (off:=l.length*k) (by simpa using hfit) j
    rw[hlnews] at this ⊢;simpa using this
  have hszn:(cs.toList.take (l.length*k)++news++cs.toList.drop (l.length*k+k)).toArray.size=cs.size:=by
    simp;omega
  generalize (cs.toList.take (l.length*k)++news++cs.toList.drop (l.length*k+k)).toArray=new at hrr hgetn hszn;have hcaps:l.length*k≤(l.length+1)*k:=Nat.mul_le_mul_right _ (by omega)
  let E' : Env:={w:=E.w.setRow b new,role:=fun b' => if b' = b then .lin τ ((l.length+1)*k) else E.role b',loc:=E.loc,tip:=fun t=>if t=τ then some (l.length+1) else E.tip t}
  have hother:∀b',b' ≠ b→E'.w.heap[b']?=E.w.heap[b']?:=fun b' hne=>setRow_other E.w b b' new hne
  have hrother:∀b',b' ≠ b→E'.role b' = E.role b' := fun b' hne=>by simp only[E'];rw[if_neg hne]
  have hb' : E'.w.heap[b]?=some (.cells new e' (0,0)):=setRow_heap E.w b cs new e' _ hbk;have hrb:E'.role b = .lin τ ((l.length+1)*k):=by simp[E']
  have hne:∀b' r,E.role b' = r→(∀c,r≠.lin τ c)→b' ≠ b:=fun b' r h h' => by rintro rfl;rw[hrole] at h;exact h' _ h.symm
  have hfr:Fr E E' := by
    refine⟨rfl,rfl,rfl,by simp[E'],frozen_setRow hbk,?_,?_,?_,?_,?_,?_,fun b' c' e'' hc=>by
          by_cases hbb:b' = b
          · subst hbb;rw[hbk] at hc;simp only[Option.some.injEq,Obj.cells.injEq] at hc;obtain⟨rfl,rfl,_⟩:=hc;exact⟨new,hb',hszn⟩
          · exact⟨c',(hother b' hbb).trans hc,rfl⟩⟩
    · intro b' o' c hc hv
      by_cases hbb:b' = b
      · subst hbb;rw[hrole] at hc;simp only[Role.com] at hc;refine⟨by rw[hrb];simp only[Role.com];omega,?_⟩;simp only[World.cell?,hbk] at hv;simp only[World.cell?,hb',hgetn,if_pos hc];exact hv
      · exact⟨by rw[hrother b' hbb];exact hc,by rw[cell_same (hother b' hbb)];exact hv⟩
    · intro t n hn
      by_cases htt:t=τ
      · subst htt;rw[hE] at hn;simp only[Option.some.injEq] at hn;exact⟨l.length+1,by simp[E'],by omega,fun h=>by omega⟩
      · refine⟨n,by simp only[E'];rw[if_neg htt];exact hn,Nat.le_refl _,fun _ b' c hbc=>?_⟩;have hbb:b' ≠ b:=hne b' _ hbc (fun c' h=>by simp at h;exact htt h.1);exact⟨by rw[hrother b' hbb];exact hbc,fun cs' e'' hcs=>⟨cs',by rw[hother b' hbb];exact hcs,rfl⟩⟩
    · intro b' _ hr;have hbb:b' ≠ b:=by rcases hr with hr | hr<;>exact hne b' _ hr (fun c h=>by simp at h)
      exact⟨hother b' hbb,hrother b' hbb⟩
    · intro b' _ h;have hbb:b' ≠ b:=by rintro rfl;rw[hrb] at h;simp at h
      rw[hrother b' hbb] at h;exact .inl h
    · intro b' t c _ h
      by_cases hbb:b' = b
      · subst hbb;rw[hrb] at h;simp at h;obtain⟨rfl,_⟩:=h;exact⟨_,hrole⟩
      · rw[hrother b' hbb] at h;exact⟨c,h⟩
    · intro b' i' _ h;have hbb:b' ≠ b:=by rintro rfl;rw[hrb] at h;simp at h
      rw[hrother b' hbb] at h;exact⟨_,h⟩
  have hle:E.le E' := hfr.le fun _ _ h=>h
  refine⟨E',hrr,hfr,⟨⟨?_,?_,?_,?_,fun b cs hc=>RAs.mono _ hfr.nl (hs.ok.con b cs hc)⟩,?_,hs.defers,RL.mono _ hle hs.slot⟩,?_,fun _=>rfl⟩
  · intro b' cs' hcs;obtain⟨k1,k2⟩:=hs.ok.box b' cs' hcs;have hbb:b' ≠ b:=hne b' _ k1 (fun c h=>by simp at h);exact⟨by rw[hrother b' hbb];exact k1,k2.mono hfr.nl (hother b' hbb)⟩
  · intro t n htn;simp only[Store.setTip] at htn;simp only[E'];split at htn
    · rename_i h;rw[if_pos h];exact htn
    · rename_i h;rw[if_neg h];exact hs.ok.tip t n htn
  · intro b' hb'';have hbb:b' ≠ b:=by
      rintro rfl
      have:=lt_of_heap hbk
      simp[E'] at hb'';omega
    rw[hrother b' hbb];exact hs.ok.fresh b' (by simpa [E'] using hb'')
  · obtain⟨N,hN⟩:=hs.ok.nt;exact⟨max N (τ+1),fun t ht' => by simp only[E'];rw[if_neg (by omega)];exact hN t (by omega)⟩
  · refine okL_keep hs.okL hle (fun b' i' hr _=>?_) hs.okL.none;have hbb:b' ≠ b:=hne b' _ hr (fun c h=>by simp at h);exact⟨by rw[hrother b' hbb];exact hr,hother b' hbb⟩
  · have hREs:REs E'.nl k (l++[xs]) b 0:=by
      have hlold:=hh.els;refine REs_iff.2 ⟨fun y hy=>?_,?_⟩
      · rcases List.mem_append.1 hy with h | h
        · exact hlo y h
        · simp at h;subst h;exact hxl
      rw[List.flatten_append];refine RAs_append.2 ⟨(REs_iff.1 (REs.mono _ hfr.nl hlold)).2,RAs_mk (vs:=news) (by simpa using RL.mono _ hfr.nl hx) h1 (fun j v hv=>?_) (fun j hj=>?_)⟩
      · have hj:=(List.getElem?_eq_some_iff.1 hv).1;rw[flat_length hlo];simp only[Env.nl_w,World.cell?,hb',hgetn];simp only[Option.isSome_none,Bool.false_eq_true,if_false];rw[if_neg (show ¬(0+l.length*k+j<l.length*k) by omega),if_pos (show 0+l.length*k+j<l.length*k+news.length by omega)];rw[show 0+l.length*k+j - l.length*k=j from by omega];exact hv
      · rw[flat_length hlo];simp only[List.flatten_cons,List.flatten_nil,List.append_nil,hxl] at hj;simp only[Env.nl_role,hrb,Role.com];rw[Nat.add_mul];omega
    simp only[R,List.length_append,List.length_cons,List.length_nil];exact⟨some ⟨b,0,none⟩,cap,rfl,hroom,.inr ⟨b,0,rfl,hREs⟩,l.length+1,by simp[E'],Nat.le_refl _,fun _=>.inr ⟨b,new,e',rfl,hrb,hb',hszn.trans hsz⟩⟩
end
end Go.Am

namespace Go.Am
structure HI where
  k:Nat
  s:X
  z:X
  len:X
  x:X
  addr:X
  fo:Option Nat
  d9:Nat
  d10:Nat
  dF:Nat
def hasE (o:Oper) (j:Nat):Bool:=o.after.toList.any fun e=>Region.binds .any e&&e.on == j
def holeAddr (P:Program) (t2:TypeId) (aOp:Operand) (other:Nat):Option Oper→Option (X × Option Nat × Nat)
  | none=>(lowX P t2 aOp).map fun y=>(y,none,other)
  | some F =>
    match F.dst,aOp,lowOp P F with
    | some dF,.tmp p,some (.fld off y)=>if p=dF∧F.guard=none then some (y,some off,dF) else none
    | _,_,_=>none
def holeChk (P:Program) (A I S O:Oper) (oF:Option Oper):Option HI :=
  match A.op,A.dst,I.op,I.dst,S.op,O.op with
  | .call c, some d9, .indexAddr t q1 lenOp, some d10, .store e q2 xOp, .store t2 aOp q3 =>
    match c,q1,q2,q3 with
    | { callee := .builtin .append, args := args, argTypes := tys }, .tmp p1, .tmp p2, .tmp p3 =>
      match tys.toList,args.toList with
      | [t', u], [sOp, zOp] =>
        match P.underlying t,P.underlying u,P.info? e,zeroC P e with
        | some (.slice e1), some (.slice e2), some i, some _ =>
          match lowX P t sOp,lowX P u zOp,lowX P t lenOp,lowX P e xOp,holeAddr P t2 aOp (d9+d10+1) oF with
          | some s, some z, some len, some x, some (addr, fo, dF) =>
            if (t' = t∧e1=e∧e2=e∧i.bytes≤4096∧0<i.size)∧(p1=d9∧p2=d10∧p3=d9∧sizeV P t2=some 1)∧(A.guard=none∧I.guard=none∧S.guard=none∧O.guard=none∧S.dst=none∧O.dst=none)∧d9≠d10∧d9≠dF∧d10≠dF then
              some ⟨i.size,s,z,len,x,addr,fo,d9,d10,dF⟩
            else none
          | _,_,_,_,_=>none
        | _,_,_,_=>none
      | _,_=>none
    | _,_,_,_=>none
  | _,_,_,_,_,_=>none
def holeF (ops:Array Oper):Option Oper :=
  match ops[ops.size - 2]? with
  | some F=>match F.op with | .fieldAddr _ _ _=>some F | _=>none
  | none=>none
def holeA (ops:Array Oper):Nat:=if (holeF ops).isSome then ops.size - 5 else ops.size - 4
def dummy (o:Oper):AO:=⟨o.dst,.mv (.c .any),none⟩
def withLoads (l1:List AO) (b:List Nat):List (AO × List Nat) :=
  let d:=List.zipWith diOf (l1.map fun o=>(o,[])) b
  (l1.zip d).zipIdx.map fun ((o,x),i)=>(o,if o.op.isLoad then ((List.range (hiOf d i+1 - loOf d x)).map (loOf d x+·)).filter (· != nowOf d i) else [])
theorem withLoads_get {l1:List AO} {b:List Nat} {i:Nat} {y:AO} (hy:l1[i]?=some y) (hlt:i<(withLoads l1 b).length):∃ms,(withLoads l1 b)[i]?=some (y,ms):=by
  unfold withLoads at hlt ⊢
  simp only at hlt ⊢;generalize List.zipWith diOf (l1.map fun o=>(o,[])) b=d at hlt ⊢;generalize hL:l1.zip d=z at hlt ⊢;have hz:i<z.length:=by simpa using hlt
  have e:z[i]?=some z[i]:=List.getElem?_eq_getElem hz;have e1:z[i].1=y:=by
    subst hL;rw[List.getElem?_zip_eq_some,hy] at e;exact(Option.some.inj e.1).symm
  rw[List.getElem?_map,List.getElem?_zipIdx,e];simp only[Option.map_some,e1];exact⟨_,rfl⟩
def holeOk (P:Program) (ops:Array Oper) (l:List (AO × List Nat)) (b:List Nat) (nA:Nat) (A I S O:Oper) (oF:Option Oper):Bool :=
  (drawChk ops l b&&P.follows .mixedOrders)&&decide (nA+(if oF.isSome then 5 else 4)=ops.size)&&((List.range nA).all fun j=>hasE A j) &&
    (hasE I nA&&hasE S nA&&hasE S (nA+1)&&hasE O nA)&&(match oF with | some F=>hasE F nA&&hasE O (nA+3) | none=>true)
def lowHole (P:Program) (ops:Array Oper):Option (List (AO × List Nat) × HI) :=
  match ops[holeA ops]?,ops[holeA ops+1]?,ops[holeA ops+2]?,ops[ops.size - 1]?,lowList P ops (ops.toList.take (holeA ops)) with
  | some A, some I, some S, some O, some l0 =>
    match holeChk P A I S O (holeF ops) with
    | some hi =>
      if holeOk P ops (withLoads (l0++(ops.toList.drop (holeA ops)).map dummy) (masks ops.toList [])) (masks ops.toList []) (holeA ops) A I S O (holeF ops)=true then
        some (withLoads (l0++(ops.toList.drop (holeA ops)).map dummy) (masks ops.toList []),hi) else none
    | none=>none
  | _,_,_,_,_=>none
def fldO:Option Nat→V→Option V
  | none,v=>some v
  | some n,.ptr p o=>some (.ptr p (o+n))
  | some _,_=>none
def HoleK (hi:HI) (K:St→Prop) (st:St):Prop :=
  ∃τ l c t' j,ev st hi.s = .sl (.tk τ) hi.k l∧ev st hi.z = .sl t' hi.k [c]∧ev st hi.len = .int j l.length∧l.length+1≤big∧st.out.tip τ=some l.length ∧
    (ev st hi.x).wd=some hi.k∧oneL (ev st hi.x).cells=true∧nolL (ev st hi.x).cells=true∧hi.d9<st.t.length∧hi.d10<st.t.length∧(hi.fo.isSome=true→hi.dF<st.t.length) ∧
    ∃p,fldO hi.fo (ev st hi.addr)=some p∧∃st',stV st 1 (.sl (.tk τ) hi.k (l++[eraseL (ev st hi.x).cells])) p=some st' ∧ K ⟨st'.t,st'.loc,st'.out.setTip τ (l.length+1)⟩
structure HF (P:Program) (A I S O:Oper) (oF:Option Oper) (hi:HI):Prop where
  app:∃c t u e i z sOp zOp lenOp xOp,A.op = .call c∧c.callee = .builtin .append∧c.argTypes=#[t,u]∧c.args=#[sOp,zOp]∧P.underlying t=some (.slice e)∧P.underlying u=some (.slice e) ∧
    P.info? e=some i∧zeroC P e=some z∧i.bytes≤4096∧i.size=hi.k∧0<hi.k∧lowX P t sOp=some hi.s∧lowX P u zOp=some hi.z ∧
    I.op = .indexAddr t (.tmp hi.d9) lenOp∧lowX P t lenOp=some hi.len∧S.op = .store e (.tmp hi.d10) xOp∧lowX P e xOp=some hi.x
  out:∃t2 aOp,O.op = .store t2 aOp (.tmp hi.d9)∧sizeV P t2=some 1∧(match oF with
    | none=>hi.fo=none∧lowX P t2 aOp=some hi.addr
    | some F=>∃off,hi.fo=some off∧aOp = .tmp hi.dF∧F.dst=some hi.dF∧F.guard=none∧lowOp P F=some (.fld off hi.addr))
  dst:A.dst=some hi.d9∧I.dst=some hi.d10∧S.dst=none∧O.dst=none
  guard:A.guard=none∧I.guard=none∧S.guard=none∧O.guard=none
  ne:hi.d9≠hi.d10∧hi.d9≠hi.dF∧hi.d10≠hi.dF
theorem holeChk_spec {P:Program} {A I S O:Oper} {oF:Option Oper} {hi:HI} (h:holeChk P A I S O oF=some hi):HF P A I S O oF hi:=by
  unfold holeChk at h;split at h
  case h_2=>simp at h
  rename_i c d9 t q1 lenOp d10 e q2 xOp t2 aOp q3 e1 e2 e3 e4 e5 e6;split at h
  case h_2=>simp at h
  rename_i args tys p1 p2 p3;split at h
  case h_2=>simp at h
  rename_i t' u sOp zOp e7 e8;split at h
  case h_2=>simp at h
  rename_i et eu i z g1 g2 g3 g4;split at h
  case h_2=>simp at h
  rename_i s zx len x addr fo dF k1 k2 k3 k4 k5;split at h
  case isFalse=>simp at h
  rename_i hc;obtain⟨⟨rfl,rfl,rfl,m1,m2⟩,⟨rfl,rfl,rfl,m3⟩,⟨m4,m5,m6,m7,m8,m9⟩,m10⟩:=hc;simp only[Option.some.injEq] at h;subst h;have ht:tys=#[t',u]:=Array.ext' (by simpa using e7);have ha:args=#[sOp,zOp]:=Array.ext' (by simpa using e8);refine⟨⟨_,t',u,_,i,z,sOp,zOp,lenOp,xOp,e1,rfl,ht,ha,g1,g2,g3,g4,m1,rfl,m2,k1,k2,e3,k3,e5,k4⟩,⟨t2,aOp,e6,m3,?_⟩,⟨e2,e4,m8,m9⟩,⟨m4,m5,m6,m7⟩,m10⟩;cases oF with
  | none =>
    simp only[holeAddr,Option.map_eq_some_iff,Prod.mk.injEq] at k5;obtain⟨y,h1,rfl,rfl,rfl⟩:=k5;exact⟨rfl,h1⟩
  | some F =>
    simp only[holeAddr] at k5;split at k5
    case h_2=>simp at k5
    rename_i dF' p off y h1 h2;split at k5
    case isFalse=>simp at k5
    rename_i hc;simp only[Option.some.injEq,Prod.mk.injEq] at k5;obtain⟨rfl,rfl,rfl⟩:=k5;obtain⟨rfl,hg⟩:=hc;exact⟨off,rfl,rfl,h1,hg,h2⟩
end Go.Am

namespace Go.Am
theorem hasE_on {o:Oper} {j:Nat} (h:hasE o j=true):∃e∈o.after,Region.binds .any e=true∧e.on=j:=by
  simp only[hasE,List.any_eq_true,Bool.and_eq_true,beq_iff_eq] at h;obtain⟨e,h1,h2,h3⟩:=h;exact⟨e,by simpa using h1,h2,h3⟩
theorem put_getD {a:Act} {d n:Nat} {v u:Value} (hd:d<a.tmps.size):(a.put (some d) v).tmps.getD n u=if n=d then v else a.tmps.getD n u:=by
  simp only[Act.put]
  by_cases h:n=d
  · subst h;simp[hd]
  · rw[if_neg h,Array.getD_eq_getD_getElem?,Array.getElem?_setIfInBounds_ne (Ne.symm h),←Array.getD_eq_getD_getElem?]
theorem RL_anySet {E:Env}:∀{l:List V} {vs:List Value} (n:Nat),RL E l vs→RL E (l.set n .any) vs
  | [],[],_,h=>by simpa using h
  | [],_::_,_,h=>by simp[RL] at h
  | _::_,[],_,h=>by simp[RL] at h
  | x :: xs, v :: vs, n, h => by
    simp only[RL] at h;cases n with
    | zero=>simp only[List.set_cons_zero,RL];exact⟨by simp[R],h.2⟩
    | succ n=>simp only[List.set_cons_succ,RL];exact⟨h.1,RL_anySet n h.2⟩
theorem stV_raw {E:Env} {a:Act} {st st1 st2:St} {u:Value} {y:V} {p:V} (h1:stV st 1 (.raw u) p=some st1) (h2:stV st 1 y p=some st2) (hy:R E.nl y u) (hy1:y.cells=[y]) (hyE:R E y u)
    (hs:SRel E st1 a):SRel E st2 a:=by
  have set_get:∀(cs:List V) (off:Nat) (z:V) (j:Nat),(setAt cs off [z])[j]?=if j=off then (cs[j]?).map fun _=>z else cs[j]?:=by
    intro cs;induction cs with
    | nil=>intro off z j;cases off<;>simp[setAt,over]
    | cons c cs ih =>
      intro off z j;cases off with
      | zero=>cases j<;>simp[setAt,over]<;>(cases cs<;>simp[over])
      | succ off=>cases j<;>simp[setAt,ih]
  have set_len:∀(cs:List V) (off:Nat) (z:V),(setAt cs off [z]).length=cs.length:=by
    intro cs;induction cs with
    | nil=>intro off z;cases off<;>simp[setAt,over]
    | cons c cs ih=>intro off z;cases off<;>simp[setAt,over,ih]<;>(cases cs<;>simp[over])
  have box:∀(E1:Env) (b:Nat) (cs:List V) (off:Nat),R E1 y u→BoxAt E1 b (setAt cs off [.raw u])→BoxAt E1 b (setAt cs off [y]):=fun E1 b cs off hR ⟨c,e,k1,k2,k3⟩=>by
    refine⟨c,e,k1,by rw[set_len] at k2 ⊢;exact k2,fun j x hx=>?_⟩;rw[set_get] at hx
    by_cases hj:j=off
    · rw[if_pos hj] at hx;simp only[Option.map_eq_some_iff] at hx;obtain⟨z,hz,rfl⟩:=hx;obtain⟨v,hv,hr⟩:=k3 j (.raw u) (by rw[set_get,if_pos hj,hz];rfl);simp only[R] at hr;subst hr;exact⟨v,hv,hR⟩
    · rw[if_neg hj] at hx;exact k3 j x (by rw[set_get,if_neg hj];exact hx)
  cases p with
  | ptr p off =>
    cases p with
    | glo b=>simp[stV] at h1
    | loc i =>
      simp only[stV,Option.bind_eq_some_iff] at h1 h2;obtain⟨cs,e1,e2⟩:=h1;obtain⟨cs',e3,e4⟩:=h2;rw[e1] at e3;simp only[Option.some.injEq] at e3;subst e3;split at e2<;>simp at e2;split at e4<;>simp at e4;subst e2 e4;refine⟨hs.ok,⟨fun j ds hj=>?_,fun j hj=>hs.okL.none j (by simpa using hj)⟩,hs.defers,hs.slot⟩;have hlt:=(List.getElem?_eq_some_iff.1 e1).1
      by_cases hji:j=i
      · subst hji;simp only[List.getElem?_set_self hlt,Option.some.injEq] at hj;subst hj;obtain⟨b,q1,q2,q3⟩:=hs.okL.box j (setAt cs off [.raw u]) (by simp[V.cells,hlt]);rw[hy1];exact⟨b,q1,q2,box E b cs off hyE q3⟩
      · simp only[List.getElem?_set_ne (Ne.symm hji)] at hj;exact hs.okL.box j ds (by simp only[List.getElem?_set_ne (Ne.symm hji)];exact hj)
    | out i =>
      simp only[stV,Option.bind_eq_some_iff] at h1 h2;obtain⟨cs,e1,e2⟩:=h1;obtain⟨cs',e3,e4⟩:=h2;rw[e1] at e3;simp only[Option.some.injEq] at e3;subst e3;split at e2<;>simp at e2;split at e4<;>simp at e4;subst e2 e4;refine⟨⟨fun j ds hj=>?_,hs.ok.tip,hs.ok.fresh,hs.ok.nt,hs.ok.con⟩,hs.okL,hs.defers,hs.slot⟩
      by_cases hji:j=i
      · subst hji;rw[Store.set_same] at hj;simp only[Option.some.injEq] at hj;subst hj;obtain⟨q2,q3⟩:=hs.ok.box j (setAt cs off [.raw u]) (by simp[V.cells,Store.set]);rw[hy1];exact⟨q2,box E.nl j cs off hy q3⟩
      · rw[Store.set_other _ _ hji] at hj;exact hs.ok.box j ds (by rw[Store.set_other _ _ hji];exact hj)
  | _=>simp[stV] at h1
theorem stV_some {st st2:St} {u:Value} {y:V} {p:V} (h2:stV st 1 y p=some st2) (hu:u.oneCell' = true):∃st1,stV st 1 (.raw u) p=some st1∧st1.t=st.t:=by
  cases p with
  | ptr p off =>
    cases p with
    | glo b=>simp[stV] at h2
    | loc i =>
      simp only[stV,Option.bind_eq_some_iff] at h2;obtain⟨cs',e3,e4⟩:=h2;split at e4<;>simp at e4;rename_i hc;exact⟨⟨st.t,st.loc.set i (setAt cs' off (V.raw u).cells),st.out⟩,by simp only[stV,e3,Option.bind_some];rw[if_pos ⟨hc.1,by simp[V.wd,hu],by simp[V.cells,oneL,V.one,hu]⟩],rfl⟩
    | out i =>
      simp only[stV,Option.bind_eq_some_iff] at h2;obtain⟨cs',e3,e4⟩:=h2;split at e4<;>simp at e4;rename_i hc;exact⟨⟨st.t,st.loc,st.out.set i (setAt cs' off (V.raw u).cells)⟩,by simp only[stV,e3,Option.bind_some];rw[if_pos ⟨hc.1,by simp[V.wd,hu],by simp[V.cells,oneL,V.one,hu],by simp[V.cells,nolL,V.nol]⟩],rfl⟩
  | _=>simp[stV] at h2
theorem stV_tip {st:St} {y p:V} {n τ m:Nat}:stV ⟨st.t,st.loc,st.out.setTip τ m⟩ n y p=(stV st n y p).map fun s=>⟨s.t,s.loc,s.out.setTip τ m⟩:=by
  cases p with
  | ptr p off =>
    cases p with
    | glo b=>simp[stV]
    | loc i =>
      simp only[stV];cases st.loc[i]? with
      | none=>rfl
      | some cs=>simp only[Option.bind_some];split<;>rfl
    | out i =>
      simp only[stV];show ((st.out.box i).bind _)=_;cases st.out.box i with
      | none=>rfl
      | some cs=>simp only[Option.bind_some];split<;>rfl
  | _=>rfl
theorem stV_tips {st st' : St} {y p:V} {n:Nat} (h:stV st n y p=some st'):st'.out.tip=st.out.tip∧st'.t=st.t:=by
  cases p with
  | ptr p off =>
    cases p with
    | glo b=>simp[stV] at h
    | loc i =>
      simp only[stV,Option.bind_eq_some_iff] at h;obtain⟨cs,_,e2⟩:=h;split at e2<;>simp at e2;subst e2;exact⟨rfl,rfl⟩
    | out i =>
      simp only[stV,Option.bind_eq_some_iff] at h;obtain⟨cs,_,e2⟩:=h;split at e2<;>simp at e2;subst e2;exact⟨rfl,rfl⟩
  | _=>simp[stV] at h
section
variable {P:Program} {ops:Array Oper}
structure Tl (ops:Array Oper) (hi:HI) (nA τ:Nat) (l:List (List V)) (xs:List V) (p:V) (hF:Bool) (E0:Env) (tw:List V) (s1:St) (listed:Array Bool) (a:Act) (w:World):Prop where
  size:listed.size=ops.size
  pre:∀j,j≤nA→listed.getD j false=true
  rel:∃E st b cap,E.w=w∧Fr E0 E∧SRel E st a∧st.t=tw∧a.tmps.getD hi.d9 undef = .slice (some ⟨b,0,none⟩) (l.length+1) cap ∧
    (listed.getD (nA+1) false=true→a.tmps.getD hi.d10 undef = .pointer (some ⟨b,l.length*hi.k,none⟩)) ∧
    (hF=true→listed.getD (nA+3) false=true→listed.getD (ops.size - 1) false=false→R E p (a.tmps.getD hi.dF undef)) ∧
    (listed.getD (nA+2) false=false→Hole E τ hi.k l b cap) ∧
    (listed.getD (nA+2) false=true→R E.nl (.sl (.tk τ) hi.k (l++[xs])) (.slice (some ⟨b,0,none⟩) (l.length+1) cap)) ∧
    (if listed.getD (ops.size - 1) false=true then stV (if listed.getD (nA+2) false=true then ⟨s1.t,s1.loc,s1.out.setTip τ (l.length+1)⟩ else s1) 1 (.raw (.slice (some ⟨b,0,none⟩) (l.length+1) cap)) p=some st
      else st=if listed.getD (nA+2) false=true then ⟨s1.t,s1.loc,s1.out.setTip τ (l.length+1)⟩ else s1)
theorem set_same_of {l:List V} {n:Nat} {x:V} (h:l[n]?=some x):l.set n x=l:=by
  have:=(List.getElem?_eq_some_iff.1 h)
  obtain⟨h1,h2⟩:=this;rw[←h2,List.set_getElem_self]
theorem set_listed {listed:Array Bool} {i:Nat} (hi:i<listed.size) (j:Nat):(listed.setIfInBounds i true).getD j false=if j=i then true else listed.getD j false:=by
  by_cases h:j=i
  · subst h;simp[hi]
  · rw[if_neg h,Array.getD_eq_getD_getElem?,Array.getElem?_setIfInBounds_ne (Ne.symm h),←Array.getD_eq_getD_getElem?]
theorem ev_t {st st' : St} (h:st.t=st'.t) (x:X):ev st x=ev st' x:=by cases x<;>simp[ev,h]
structure TF (P:Program) (ops:Array Oper) (hi:HI) (nA:Nat) (hF:Bool) (τ:Nat) (l:List (List V)) (xs:List V) (p:V) (s1:St):Prop where
  hf:HF P (ops.getD nA default) (ops.getD (nA+1) default) (ops.getD (nA+2) default) (ops.getD (ops.size - 1) default) (if hF then some (ops.getD (nA+3) default) else none) hi
  size:nA+(if hF then 5 else 4)=ops.size
  eI:hasE (ops.getD (nA+1) default) nA=true
  eS:hasE (ops.getD (nA+2) default) nA=true∧hasE (ops.getD (nA+2) default) (nA+1)=true
  eO:hasE (ops.getD (ops.size - 1) default) nA=true
  eF:hF=true→hasE (ops.getD (nA+3) default) nA=true∧hasE (ops.getD (ops.size - 1) default) (nA+3)=true
  len:∃j,ev s1 hi.len = .int j l.length
  tip:s1.out.tip τ=some l.length
  wd:(ev s1 hi.x).wd=some hi.k
  one:oneL (ev s1 hi.x).cells=true
  nol:nolL (ev s1 hi.x).cells=true
  exs:xs=eraseL (ev s1 hi.x).cells
  d9:s1.t[hi.d9]?=some .any
  d10:s1.t[hi.d10]?=some .any
  dF:hF=true→s1.t[hi.dF]?=some .any
  fld:fldO hi.fo (ev s1 hi.addr)=some p
  st:∃st2,stV s1 1 (.sl (.tk τ) hi.k (l++[xs])) p=some st2
theorem ops_get {ops:Array Oper} {i:Nat} {o:Oper} (h:ops[i]?=some o):ops.getD i default=o:=by simp[Array.getD_eq_getD_getElem?,h]
theorem wanted_none {o:Oper} {a:Act} (h:o.guard=none):Region.wanted o (yielded ops a.tmps)=true:=by simp[Region.wanted,h]
theorem tail_step {hi:HI} {nA:Nat} {hF:Bool} {τ:Nat} {l:List (List V)} {xs:List V} {p:V} {s1:St} (T:TF P ops hi nA hF τ l xs p s1) {E0:Env} {Q:Exit→Act→World→Prop} {listed:Array Bool} {a:Act} {w:World}
    (h:Tl ops hi nA τ l xs p hF E0 s1.t s1 listed a w) {i:Nat} (hr:i∈Region.ready .any ops listed) {K:Act→World→Prop}
    (hK:∀a w,Tl ops hi nA τ l xs p hF E0 s1.t s1 (listed.setIfInBounds i true) a w→K a w):wpOp P ops Q i K a w:=by
  obtain⟨hun,o,ho,hall⟩:=mem_ready.1 hr;have hlt:i<ops.size:=(Array.getElem?_eq_some_iff.1 ho).1;have hlt' : i<listed.size:=by rw[h.size];exact hlt
  have hun' : listed.getD i false=false:=by rw[←getD_tf _ _ hlt'];exact hun
  have hgt:nA<i:=by
    rcases Nat.lt_or_ge nA i with hq | hq
    · exact hq
    · rw[h.pre i hq] at hun';simp at hun'
  have hset:=set_listed hlt';have hog:=ops_get ho;have hsz' : (listed.setIfInBounds i true).size=ops.size:=by simp[h.size]
  have hpre' : ∀j,j≤nA→(listed.setIfInBounds i true).getD j false=true:=fun j hj=>by rw[hset,if_neg (by omega)];exact h.pre j hj
  obtain⟨E,st,bk,cap,rfl,hfr,hs,hst,hd9,hd10,hdF,hhole,hfull,hO⟩:=h.rel;have hsz:=T.size;have hlens:s1.t.length=a.tmps.size:=by have:=RL_length hs.slot;rw[hst] at this;simpa using this
  have hb9:hi.d9<a.tmps.size:=by rw[←hlens];exact(List.getElem?_eq_some_iff.1 T.d9).1
  have hb10:hi.d10<a.tmps.size:=by rw[←hlens];exact(List.getElem?_eq_some_iff.1 T.d10).1
  have hlast:nA+2<ops.size - 1:=by rw[←hsz];cases hF<;>simp<;>omega
  have keep:∀j,j≠i→(listed.setIfInBounds i true).getD j false=listed.getD j false:=fun j hj=>by rw[hset,if_neg hj]
  have made:(listed.setIfInBounds i true).getD i false=true:=by rw[hset,if_pos rfl]
  unfold wpOp;rw[ho];simp only;have anyput:∀(E' : Env) (st' : St) (a:Act) (d:Nat) (v:Value),st'.t=s1.t→s1.t[d]?=some .any→SRel E' st' a→SRel E' st' (a.put (some d) v):=fun E' st' a d v e1 e2 h=>by
    have:=SRel.put h (v:=.any) (x:=v) (by simp[R]) (some d)
    have e:st'.put (some d) .any=st' := by
      simp only[St.put];rw[e1,set_same_of e2,←e1]
    rw[e] at this;exact this
  by_cases hI:i=nA+1
  · -- the element's address
    subst hI;obtain⟨c,t,u,e,inf,z,sOp,zOp,lenOp,xOp,_,_,_,_,q5,_,q7,_,_,q10,_,_,_,q14,q15,_,_⟩:=T.hf.app;rw[hog] at q14;have hg:=T.hf.guard.2.1;rw[hog] at hg;have hdst:=T.hf.dst.2.1;rw[hog] at hdst;rw[wanted_none hg,if_pos rfl];left;obtain⟨jk,hlen⟩:=T.len;have hLen:=lowX_R (E:=E) (st:=st) (a:=a) hs.slot q15;rw[ev_t hst,hlen] at hLen;simp only[R] at hLen;have hn:sizeV P e=some hi.k:=by simp[sizeV,q7,q10]
    have hrun:(execOp a.eval o).run P E.w = .ok (.value (.pointer (some ⟨bk,l.length*hi.k,none⟩))) E.w:=by
      have hd9' : a.eval (.tmp hi.d9) = .slice (some ⟨bk,0,none⟩) (l.length+1) cap:=hd9;simp[execOp,q14,hd9',hLen,Instr.indexAt,asIntOf,run_underlying q5,run_sizeV hn,addr_add]
    unfold Oper.wp;rw[hrun];refine hK _ _ ⟨hsz',hpre',E,st,bk,cap,rfl,hfr,?_,hst,?_,?_,?_,?_,?_,?_⟩
    · rw[hdst];exact anyput E st a hi.d10 _ hst T.d10 hs
    · rw[hdst,put_getD hb10,if_neg T.hf.ne.1];exact hd9
    · intro _;rw[hdst,put_getD hb10,if_pos rfl]
    · intro h1 h2 h3;rw[hset,if_neg (by omega)] at h2;rw[keep _ (by omega)] at h3;rw[hdst,put_getD hb10,if_neg (Ne.symm T.hf.ne.2.2)];exact hdF h1 h2 h3
    · intro h1;rw[hset,if_neg (by omega)] at h1;exact hhole h1
    · intro h1;rw[hset,if_neg (by omega)] at h1;exact hfull h1
    · rw[keep _ (by omega),keep _ (by omega)];exact hO
  by_cases hS:i=nA+2
  · -- the element is filled in
    subst hS;obtain⟨c,t,u,e,inf,z,sOp,zOp,lenOp,xOp,_,_,_,_,_,_,q7,_,_,q10,_,_,_,_,_,q16,q17⟩:=T.hf.app;rw[hog] at q16;have hg:=T.hf.guard.2.2.1;rw[hog] at hg;have hdst:=T.hf.dst.2.2.1;rw[hog] at hdst;rw[wanted_none hg,if_pos rfl];left;have hI' : listed.getD (nA+1) false=true:=by
      have:=T.eS.2
      rw[hog] at this;obtain⟨e,h1,h2,h3⟩:=hasE_on this;rw[←h3];exact hall e h1 h2
    have hX:=lowX_R (E:=E) (st:=st) (a:=a) hs.slot q17;rw[ev_t hst] at hX;have hn:sizeV P e=some hi.k:=by simp[sizeV,q7,q10]
    obtain⟨r1,r2⟩:=R_cells hX T.wd;have r3:=RL.nolm (E:=E) (E' := E.nl) _ (Env.le.refl E.nl) T.nol r1;have r4:=one_ok r1 T.one;obtain⟨E',k1,k2,k3,k4,k5⟩:=hole_store (P:=P) hs (hhole hun') hn (RL.erase _ r3) r2 r4;rw[←T.exs] at k4;have hrun:(execOp a.eval o).run P E.w = .ok .skip E'.w:=by
      have e1:a.eval (.tmp hi.d10) = .pointer (some ⟨bk,l.length*hi.k,none⟩):=hd10 hI';simp[execOp,q16,e1,run_storeAt k1]
    unfold Oper.wp;rw[hrun];show K (a.put o.dst undef) E'.w;rw[hdst];have hle:E.le E' := k2.le fun j b hb=>by rw[k5];exact hb
    refine hK _ _ ⟨hsz',hpre',E',_,bk,cap,rfl,hfr.trans k2,k3,hst,hd9,?_,?_,?_,?_,?_⟩
    · intro _;exact hd10 hI'
    · intro h1 h2 h3;rw[hset,if_neg (by omega)] at h2;rw[keep _ (by omega)] at h3;exact R.mono _ hle (hdF h1 h2 h3)
    · intro h1;rw[hset,if_pos rfl] at h1;simp at h1
    · intro _;exact k4
    · rw[keep (ops.size - 1) (by omega),made];rw[hun'] at hO;simp only[Bool.false_eq_true,if_false] at hO;simp only[if_true];split at hO
      · rename_i h1;rw[if_pos h1,stV_tip,hO];rfl
      · rename_i h1;rw[if_neg h1,hO]
  by_cases hOi:i=ops.size - 1
  · -- the list is laid down
    subst hOi;obtain⟨t2,aOp,q1,q2,q3⟩:=T.hf.out;rw[hog] at q1;have hg:=T.hf.guard.2.2.2;rw[hog] at hg;have hdst:=T.hf.dst.2.2.2;rw[hog] at hdst;rw[wanted_none hg,if_pos rfl];left;rw[hun'] at hO;simp only[Bool.false_eq_true,if_false] at hO;have hadr:R E p (a.eval aOp):=by
      cases hFF:hF with
      | false =>
        rw[hFF] at q3;simp only[Bool.false_eq_true,if_false] at q3;have hfl:=T.fld;rw[q3.1] at hfl;simp only[fldO,Option.some.injEq] at hfl
        have:=lowX_R (E:=E) (st:=st) (a:=a) hs.slot q3.2
        rw[ev_t hst,hfl] at this;exact this
      | true =>
        rw[hFF] at q3;simp only[if_true] at q3;obtain⟨off,_,ha,_⟩:=q3;subst ha
        have:=(T.eF hFF).2
        rw[hog] at this;obtain⟨e,h1,h2,h3⟩:=hasE_on this;exact hdF hFF (by rw[←h3];exact hall e h1 h2) hun'
    obtain⟨st2,hst2⟩:=T.st
    let v:Value:=.slice (some ⟨bk,0,none⟩) (l.length+1) cap
    have hone:v.oneCell' = true:=rfl;obtain⟨st',hst',hst'2⟩:∃st',stV st 1 (.raw v) p=some st' ∧ st'.t=st.t:=by
      rw[hO];split
      · exact stV_some (by rw[stV_tip,hst2];rfl) hone
      · exact stV_some hst2 hone
    refine Oper.wp_mono ?_ (wp_store (Q:=Q) (K:=fun _ s=>s=st') hs (by omega) q1 q2 hadr (ay:=.raw v) (by simp only[R];exact hd9) hst' rfl);rintro a' w' ⟨E',v',u',s',rfl,hf',hs',_,rfl,rfl⟩;rw[hdst];simp only[Act.put];have htip:listed.getD (nA+2) false=false→E'.tip τ=some l.length:=fun hq=>by
      refine hs'.ok.tip τ _ ?_;rw[(stV_tips hst').1,hO,hq];simpa using T.tip
    refine hK _ _ ⟨hsz',hpre',E',_,bk,cap,rfl,hfr.trans hf',hs',by rw[hst'2,hst],hd9,?_,?_,?_,?_,?_⟩
    · intro h1;rw[keep _ (by omega)] at h1;exact hd10 h1
    · intro _ _ h3;rw[hset,if_pos rfl] at h3;simp at h3
    · intro h1;rw[keep _ (by omega)] at h1;exact(hhole h1).mono hf' (htip h1)
    · intro h1;rw[keep _ (by omega)] at h1;exact R.mono _ hf'.nl (hfull h1)
    · rw[made,keep _ (by omega)];simp only[if_true];rw[←hO];exact hst'
  -- the field's address
  have hFF:hF=true:=by
    cases hq:hF with
    | true=>rfl
    | false=>rw[hq] at hsz;simp at hsz;omega
  have hi3:i=nA+3:=by rw[hFF] at hsz;simp at hsz;omega
  subst hi3;obtain⟨t2,aOp,_,_,q3⟩:=T.hf.out;rw[hFF] at q3;simp only[if_true] at q3;obtain⟨off,q4,_,q5,q6,q7⟩:=q3;rw[hog] at q5 q6 q7;rw[wanted_none q6,if_pos rfl];left;have hbF:hi.dF<a.tmps.size:=by rw[←hlens];exact(List.getElem?_eq_some_iff.1 (T.dF hFF)).1
  have hfl:=T.fld;rw[q4] at hfl;have hsem:(AOp.fld off hi.addr).sem P st (fun v s=>v=p∧s=st):=by
    simp only[AOp.sem];rw[ev_t hst];cases hq:ev s1 hi.addr<;>rw[hq] at hfl<;>simp[fldO] at hfl ⊢;exact hfl
  refine Oper.wp_mono ?_ (low_sound (Q:=Q) q7 hs hsem);rintro a' w' ⟨E',v',u',s',rfl,hf',hs',hv,rfl,rfl,rfl⟩;rw[q5];have htip:listed.getD (nA+2) false=false→E'.tip τ=some l.length:=fun hq=>by
    refine hs'.ok.tip τ _ ?_;rw[hq] at hO;simp only[Bool.false_eq_true,if_false] at hO;split at hO
    · rw[(stV_tips hO).1];exact T.tip
    · rw[hO];exact T.tip
  refine hK _ _ ⟨hsz',hpre',E',_,bk,cap,rfl,hfr.trans hf',anyput E' _ a hi.dF _ hst (T.dF hFF) hs',hst,?_,?_,?_,?_,?_,?_⟩
  · rw[put_getD hbF,if_neg T.hf.ne.2.1];exact hd9
  · intro h1;rw[hset,if_neg (by omega)] at h1;rw[put_getD hbF,if_neg T.hf.ne.2.2];exact hd10 h1
  · intro _ _ _;rw[put_getD hbF,if_pos rfl];exact hv
  · intro h1;rw[hset,if_neg (by omega)] at h1;exact(hhole h1).mono hf' (htip h1)
  · intro h1;rw[hset,if_neg (by omega)] at h1;exact R.mono _ hf'.nl (hfull h1)
  · have h5:nA+5=ops.size:=by rw[hFF] at hsz;simpa using hsz
    rw[keep _ (by omega),keep _ (by omega)];exact hO
end
end Go.Am

namespace Go.Am
def wkF (fo:Option Nat) (d:Nat) (t:List V):List V:=match fo with | some _=>t.set d .any | none=>t
def weakT (hi:HI) (t:List V):List V:=wkF hi.fo hi.dF ((t.set hi.d9 .any).set hi.d10 .any)
def HoleW (hi:HI) (K:St→Prop) (st:St):Prop:=HoleK hi K ⟨weakT hi st.t,st.loc,st.out⟩
theorem any_set {t:List V} {d e:Nat} (h:t[e]?=some .any):(t.set d .any)[e]?=some .any:=by
  have hlt:=(List.getElem?_eq_some_iff.1 h).1
  by_cases hd:d=e
  · subst hd;simp[hlt]
  · rw[List.getElem?_set_ne hd];exact h
theorem any_self {t:List V} {d:Nat} (h:d<t.length):(t.set d .any)[d]?=some .any:=by simp[h]
theorem weakT_length (hi:HI) (t:List V):(weakT hi t).length=t.length:=by
  unfold weakT wkF;cases hi.fo<;>simp
theorem wkF_any {fo:Option Nat} {d e:Nat} {t:List V} (h:t[e]?=some .any):(wkF fo d t)[e]?=some .any:=by
  unfold wkF;cases fo
  · exact h
  · exact any_set h
theorem weakT_9 {hi:HI} {t:List V} (h:hi.d9<t.length):(weakT hi t)[hi.d9]?=some .any:=wkF_any (any_set (any_self h))
theorem weakT_10 {hi:HI} {t:List V} (h:hi.d10<t.length):(weakT hi t)[hi.d10]?=some .any:=wkF_any (any_self (by simpa using h))
theorem weakT_F {hi:HI} {t:List V} {off:Nat} (hf:hi.fo=some off) (h:hi.dF<t.length):(weakT hi t)[hi.dF]?=some .any:=by
  unfold weakT wkF;rw[hf];exact any_self (by simpa using h)
theorem weakT_RL {E:Env} {hi:HI} {t:List V} {us:List Value} (h:RL E t us):RL E (weakT hi t) us:=by
  unfold weakT wkF;cases hi.fo
  · exact RL_anySet _ (RL_anySet _ h)
  · exact RL_anySet _ (RL_anySet _ (RL_anySet _ h))
theorem sel_take {S:Nat→Bool} {n:Nat}:∀{tr:List TR} {i:Nat},(∀j,S (i+j)=decide (i+j<n))→sel S i tr=tr.take (n - i)
  | [],i,_=>by simp[sel]
  | r :: tr, i, h => by
    have h0:=h 0;rw[Nat.add_zero] at h0;have ih:=sel_take (S:=S) (n:=n) (tr:=tr) (i:=i+1) fun j=>by
      have:=h (j+1)
      rw[show i+(j+1)=i+1+j from by omega] at this;exact this
    simp only[sel,h0]
    by_cases hi:i<n
    · simp only[hi,decide_true,if_true,ih];rw[show n - i=(n - (i+1))+1 from by omega,List.take_succ_cons]
    · simp only[hi,decide_false,Bool.false_eq_true,if_false,ih];rw[show n - (i+1)=0 from by omega,show n - i=0 from by omega];simp
theorem runT_append:∀{a b:List TR} {t:List V},runT (a++b) t=runT b (runT a t)
  | [],_,_=>rfl
  | r::a,b,t=>by simp only[List.cons_append,runT];exact runT_append
theorem runS_append:∀{a b:List TR} {s:Sto},runS (a++b) s=runS b (runS a s)
  | [],_,_=>rfl
  | r::a,b,t=>by simp only[List.cons_append,runS];exact runS_append
theorem runT_any {E:Env} {us:List Value}:∀{tr:List TR} {t:List V},(∀r∈tr,r.val = .any)→RL E t us→RL E (runT tr t) us
  | [],_,_,h=>h
  | r :: tr, t, hv, h => by
    simp only[List.forall_mem_cons] at hv;simp only[runT];refine runT_any hv.2 ?_;cases hd:r.dst with
    | none=>exact h
    | some d=>simp only[putT,hv.1];exact RL_anySet d h
theorem runS_any:∀{tr:List TR} {s:Sto},(∀r∈tr,r.eff=false)→runS tr s=s
  | [],_,_=>rfl
  | r :: tr, s, h => by
    simp only[List.forall_mem_cons] at h;simp only[runS,h.1,Bool.false_eq_true,if_false];exact runS_any h.2
section
variable {P:Program} {ops:Array Oper}
theorem lowHole_spec {l:List (AO × List Nat)} {hi:HI} (h:lowHole P ops=some (l,hi)) :
    ∃b,Facts ops l b∧b.length=ops.size∧P.follows .mixedOrders=true∧(∀(i:Nat) o,i<holeA ops→ops[i]?=some o→∃x:AO × List Nat,l[i]?=some x∧lowAO P ops o=some x.1) ∧
      (∀(i:Nat) o,holeA ops≤i→ops[i]?=some o→∃ms,l[i]?=some (dummy o,ms)) ∧
      HF P (ops.getD (holeA ops) default) (ops.getD (holeA ops+1) default) (ops.getD (holeA ops+2) default) (ops.getD (ops.size - 1) default) (holeF ops) hi ∧
      holeA ops+(if (holeF ops).isSome then 5 else 4)=ops.size∧(∀j,j<holeA ops→hasE (ops.getD (holeA ops) default) j=true) ∧
      hasE (ops.getD (holeA ops+1) default) (holeA ops)=true∧(hasE (ops.getD (holeA ops+2) default) (holeA ops)=true∧hasE (ops.getD (holeA ops+2) default) (holeA ops+1)=true) ∧
      hasE (ops.getD (ops.size - 1) default) (holeA ops)=true∧(∀F,holeF ops=some F→hasE F (holeA ops)=true∧hasE (ops.getD (ops.size - 1) default) (holeA ops+3)=true):=by
  unfold lowHole at h;split at h
  case h_2=>simp at h
  rename_i A I S O l0 a1 a2 a3 a4 a5;split at h
  case h_2=>simp at h
  rename_i hi' hchk;split at h
  case isFalse=>simp at h
  rename_i hc;simp only[Option.some.injEq,Prod.mk.injEq] at h;obtain⟨rfl,rfl⟩:=h;unfold holeOk at hc;simp only[Bool.and_eq_true,decide_eq_true_eq] at hc;obtain⟨⟨⟨⟨⟨c1,c2⟩,c3⟩,c4⟩,c5⟩,c6⟩:=hc;rw[ops_get a1,ops_get a2,ops_get a3,ops_get a4];have hlen:=(facts c1).size;have hA:holeA ops<ops.size:=(Array.getElem?_eq_some_iff.1 a1).1;obtain⟨g1,g2⟩:=lowList_get a5;have hl0:l0.length=holeA ops:=by rw[g1];simp;omega
  refine⟨_,facts c1,?_,c2,fun i o hi ho=>?_,fun i o hi ho=>?_,holeChk_spec hchk,c3,fun j hj=>?_,c5.1.1.1,⟨c5.1.1.2,c5.1.2⟩,c5.2,fun F hF=>?_⟩
  · unfold drawChk at c1;simp only[Bool.and_eq_true,decide_eq_true_eq] at c1;exact c1.1.1.2
  · obtain⟨x,k1,k2⟩:=g2 i o (by rw[List.getElem?_take,if_pos hi];simpa using ho);obtain⟨ms,hm⟩:=withLoads_get (l1:=l0++(ops.toList.drop (holeA ops)).map dummy) (b:=masks ops.toList []) (i:=i) (y:=x) (by rw[List.getElem?_append_left (by omega)];exact k1) (by rw[hlen];omega);exact⟨_,hm,k2⟩
  · have hlt:=(Array.getElem?_eq_some_iff.1 ho).1;exact withLoads_get (by rw[List.getElem?_append_right (by omega),List.getElem?_map,List.getElem?_drop,hl0,show holeA ops+(i - holeA ops)=i from by omega];simp[ho]) (by rw[hlen];exact hlt)
  · simp only[List.all_eq_true,List.mem_range] at c4;exact c4 j hj
  · rw[hF] at c6;simpa using c6
end
end Go.Am

namespace Go.Am
section
variable {P:Program} {ops:Array Oper}
theorem holeF_eq (hsz:holeA ops+(if (holeF ops).isSome then 5 else 4)=ops.size):holeF ops=if (holeF ops).isSome=true then some (ops.getD (holeA ops+3) default) else none:=by
  cases hq:holeF ops with
  | none=>rfl
  | some F =>
    rw[hq] at hsz;simp only[Option.isSome_some,if_true] at hsz ⊢;unfold holeF at hq;split at hq
    case h_2=>simp at hq
    rename_i F0 h0;split at hq
    · simp only[Option.some.injEq] at hq;subst hq;rw[ops_get (i:=holeA ops+3) (by rw[←h0];congr 1;omega)]
    · simp at hq
theorem hole_sound {l:List (AO × List Nat)} {hi:HI} {id:Nat} (hl:lowHole P ops=some (l,hi)) {K:St→Prop} {st:St} (h:vcD P l [(st.loc,st.out)] [] (HoleW hi K) st) :
    pwp P (.region id ops true) (fun e st' => e = .normal∧K st') st:=by
  obtain⟨b,F,hbl,hf,hlow,hdum,hHF,hsz,eA,eI,eS,eO,eF⟩:=lowHole_spec hl;have hFeq:=holeF_eq hsz;intro E a hs;refine wp_region_any hf ?_;obtain⟨hfr,_,hs1⟩:=srel_ext hs ((Ext.refl E.w).drew);obtain⟨tr,ht,_,hK⟩:=vcD_trace (t:=st.t) (s:=(st.loc,st.out)) h;have hSN:[(st.loc,st.out)]++effS tr=(st.loc,st.out)::effS tr:=rfl;rw[hSN] at ht;have hlen:=TrOk_length ht;generalize hnA:holeA ops=nA at *;generalize hhF:(holeF ops).isSome=hF at *;have hAlt:nA+3<ops.size:=by rw[←hsz];split<;>omega
  have hoA:ops[nA]?=some (ops.getD nA default):=by
    rw[Array.getElem?_eq_getElem (by omega)];simp[show nA<ops.size by omega]
  -- the tail's steps in the run say nothing
  have htail:∀r∈tr.drop nA,r.val = .any∧r.eff=false:=fun r hr=>by
    obtain⟨j,hj⟩:=List.mem_iff_getElem?.1 hr;rw[List.getElem?_drop] at hj;have hjl:nA+j<ops.size:=by rw[←F.size,hlen];exact(List.getElem?_eq_some_iff.1 hj).1
    obtain⟨ms,hm⟩:=hdum (nA+j) _ (by omega) (Array.getElem?_eq_getElem hjl);obtain⟨_,e2,run,e3,e4,_⟩:=TrOk_step (i:=0) (k:=nA+j) ht hm hj;simp only[dummy] at e3;subst e3;obtain⟨e5,_⟩:=e4 rfl;simp only[dummy,AOp.sem,Exact,ev] at e5;exact⟨e5.1.symm,e2⟩
  have hsplit:∀{E' : Env} {us:List Value},RL E' (runT (tr.take nA) st.t) us→RL E' (runT tr st.t) us:=fun {E' us} h=>by
    have e:runT tr st.t=runT (tr.drop nA) (runT (tr.take nA) st.t):=by rw[←runT_append,List.take_append_drop]
    rw[e];exact runT_any (fun r hr=>(htail r hr).1) h
  have hsplitS:runS tr (st.loc,st.out)=runS (tr.take nA) (st.loc,st.out):=by
    have e:runS tr (st.loc,st.out)=runS (tr.drop nA) (runS (tr.take nA) (st.loc,st.out)):=by rw[←runS_append,List.take_append_drop]
    rw[e];exact runS_any (fun r hr=>(htail r hr).2)
  -- what the tail asks
  obtain⟨τ,ll,c,t',j,es,ez,elen,hbig,htip,hwd,hone,hnol,h9,h10,hFl,p,hp,st2,hst2,hKK⟩:=hK;generalize hs1d:(⟨weakT hi (mkSt (runT tr st.t) (runS tr (st.loc,st.out))).t,(mkSt (runT tr st.t) (runS tr (st.loc,st.out))).loc,(mkSt (runT tr st.t) (runS tr (st.loc,st.out))).out⟩:St)=s1 at es ez elen htip hwd hone hnol h9 h10 hFl hp hst2;have hs1t:s1.t=weakT hi (runT tr st.t):=by rw[←hs1d];rfl
  have hs1s:s1.loc=(runS tr (st.loc,st.out)).1∧s1.out=(runS tr (st.loc,st.out)).2:=by rw[←hs1d];exact⟨rfl,rfl⟩
  have hfo:hF=true→∃off,hi.fo=some off:=fun hq=>by
    obtain⟨_,_,_,_,q3⟩:=hHF.out;rw[hFeq,if_pos hq] at q3;obtain⟨off,h1,_⟩:=q3;exact⟨off,h1⟩
  have h9' : hi.d9<(runT tr st.t).length:=by rw[hs1t,weakT_length] at h9;exact h9
  have h10' : hi.d10<(runT tr st.t).length:=by rw[hs1t,weakT_length] at h10;exact h10
  have T:TF P ops hi nA hF τ ll (eraseL (ev s1 hi.x).cells) p s1:=by
    refine⟨by rw[hFeq] at hHF;exact hHF,hsz,eI,eS,eO,fun hq=>?_,⟨j,elen⟩,htip,hwd,hone,hnol,rfl,by rw[hs1t];exact weakT_9 h9',by rw[hs1t];exact weakT_10 h10',fun hq=>?_,hp,⟨st2,hst2⟩⟩
    · rw[if_pos hq] at hFeq;exact eF _ hFeq
    · obtain⟨off,ho⟩:=hfo hq
      have:=hFl (by rw[ho];rfl)
      rw[hs1t,weakT_length] at this;rw[hs1t];exact weakT_F ho this
  let Q' : Exit→Act→World→Prop:=fun e a' w' => ∃E' st',E'.w=w' ∧ SRel E' st' a' ∧ Fr E E' ∧ e = .normal∧K st'
  -- the end
  have fin:∀(listed:Array Bool) (a:Act) (w:World),Tl ops hi nA τ ll (eraseL (ev s1 hi.x).cells) p hF E s1.t s1 listed a w→(∀j,j<ops.size→listed.getD j false=true)→Q' .normal a w:=fun listed a w h hall=>by
    obtain⟨E',st',bk,cap,h1,h2,h3,h4,_,_,_,_,h5,h6⟩:=h.rel;rw[hall _ (by omega),hall _ (by omega)] at h6;simp only[if_true] at h6;have h5:=h5 (hall _ (by omega));have hst2' : stV ⟨s1.t,s1.loc,s1.out.setTip τ (ll.length+1)⟩ 1 (.sl (.tk τ) hi.k (ll++[eraseL (ev s1 hi.x).cells])) p=some ⟨st2.t,st2.loc,st2.out.setTip τ (ll.length+1)⟩:=by rw[stV_tip,hst2];rfl
    have h7:R E' (.sl (.tk τ) hi.k (ll++[eraseL (ev s1 hi.x).cells])) (.slice (some ⟨bk,0,none⟩) (ll.length+1) cap):=by
      simp only[R] at h5 ⊢;exact h5
    exact⟨E',_,h1,stV_raw h6 hst2' h5 rfl h7 h3,h2,rfl,hKK⟩
  have hcount:∀(listed:Array Bool) (i:Nat),listed.size=ops.size→i∈Region.ready .any ops listed→∀fuel,listed.toList.count false≤fuel+1→(listed.setIfInBounds i true).toList.count false≤fuel:=fun listed i hsz hi fuel hc=>by
    obtain⟨h1,o,ho,_⟩:=mem_ready.1 hi;have hlt:i<listed.size:=by rw[hsz];exact(Array.getElem?_eq_some_iff.1 ho).1
    have e:listed.toList[i]?=some false:=by
      have:listed[i]?=some false:=by
        rw[Array.getElem?_eq_getElem hlt];simpa [hlt] using h1
      simpa using this
    have:=count_set listed.toList i e
    simp only[Array.toList_setIfInBounds];omega
  have hdone:∀(listed:Array Bool),listed.size=ops.size→Region.ready .any ops listed=[]→∀n j,j<n→j<ops.size→listed.getD j false=true:=fun listed hsz hr n=>by
    induction n with
    | zero=>intro j h;omega
    | succ n ih =>
      intro j hj hjs;cases hq:listed.getD j false with
      | true=>rfl
      | false =>
        have:j∈Region.ready .any ops listed:=mem_ready.2 ⟨by rw[getD_tf _ _ (by rw[hsz];exact hjs)];exact hq,ops[j],Array.getElem?_eq_getElem hjs,fun e he hb=>by
          have:=F.back j _ (Array.getElem?_eq_getElem hjs) e he hb
          exact ih e.on (by omega) (by omega)⟩
        rw[hr] at this;simp at this
  have hzero:∀(listed:Array Bool),listed.size=ops.size→listed.toList.count false≤0→Region.ready .any ops listed=[]:=fun listed hsz hc=>by
    cases hq:Region.ready .any ops listed with
    | nil=>rfl
    | cons j js =>
      obtain⟨h1,o,ho,_⟩:=mem_ready.1 (show j∈Region.ready .any ops listed by rw[hq];simp);have hlt:j<listed.size:=by rw[hsz];exact(Array.getElem?_eq_some_iff.1 ho).1
      have:false∈listed.toList:=by
        have e:listed[j]?=some false:=by
          rw[Array.getElem?_eq_getElem hlt];simpa [hlt] using h1
        exact List.mem_of_getElem? (by simpa using e)
      have:=List.count_pos_iff.2 this
      omega
  -- the tail,in every order
  have tail:∀(fuel:Nat) (listed:Array Bool) (a:Act) (w:World),Tl ops hi nA τ ll (eraseL (ev s1 hi.x).cells) p hF E s1.t s1 listed a w→listed.toList.count false≤fuel→wpAny P .any ops Q' fuel listed a w:=by
    intro fuel;induction fuel with
    | zero =>
      intro listed a w h hc;have hr:=hzero listed h.size hc;exact⟨hr,fin listed a w h fun j hj=>hdone listed h.size hr (j+1) j (by omega) hj⟩
    | succ fuel ih =>
      intro listed a w h hc;refine⟨fun hr=>fin listed a w h fun j hj=>hdone listed h.size hr (j+1) j (by omega) hj,fun i hi' => ?_⟩;exact tail_step T h hi' fun a w h' => ih _ a w h' (hcount listed i h.size hi' fuel hc)
  -- what comes before
  have key:∀(fuel:Nat) (listed:Array Bool) (a:Act) (w:World),At2 ops tr st.t (st.loc,st.out) E (fun _ _ _=>True) listed a w→(∀j,nA≤j→listed.getD j false=false)→listed.toList.count false≤fuel→wpAny P .any ops Q' fuel listed a w:=by
    intro fuel;induction fuel with
    | zero =>
      intro listed a w h hn hc;have hr:=hzero listed h.size hc
      have:=hdone listed h.size hr (nA+1) nA (by omega) (by omega)
      rw[hn nA (Nat.le_refl _)] at this;simp at this
    | succ fuel ih =>
      intro listed a w h hn hc;refine⟨fun hr=>?_,fun i hi' => ?_⟩
      · have:=hdone listed h.size hr (nA+1) nA (by omega) (by omega)
        rw[hn nA (Nat.le_refl _)] at this;simp at this
      obtain⟨hun,o,ho,hall⟩:=mem_ready.1 hi';have hilt:i<ops.size:=(Array.getElem?_eq_some_iff.1 ho).1;have hilt' : i<listed.size:=by rw[h.size];exact hilt
      rcases Nat.lt_trichotomy i nA with hlt | rfl | hgt
      · refine draw_step F hbl rfl ht h hi' (fun o ho=>let ⟨x,h1,h2⟩:=hlow i o hlt ho;⟨x,h1,.inl ⟨h2,fun _ _ _ _ _ _ _=>trivial⟩⟩) fun a w h' => ih _ a w h' (fun j hj=>?_) (hcount listed i h.size hi' fuel hc)
        rw[set_listed hilt',if_neg (by omega)];exact hn j hj
      · -- the row grows
        have hog:=ops_get ho;have hpre:∀j,j<i→listed.getD j false=true:=fun j hj=>by
          have:=eA j hj
          rw[hog] at this;obtain⟨e,h1,h2,h3⟩:=hasE_on this;rw[←h3];exact hall e h1 h2
        obtain⟨E1,rfl,hs',hfr',_⟩:=h.rel;have hS:∀j,(fun j=>listed.getD j false) (0+j)=decide (0+j<i):=fun j=>by
          rw[Nat.zero_add]
          by_cases hj:j<i
          · simp only[hj,decide_true];exact hpre j hj
          · simp only[hj,decide_false];exact hn j (by omega)
        rw[sel_take hS,Nat.sub_zero] at hs';have hsA:SRel E1 s1 a:=by
          refine⟨?_,?_,hs'.defers,?_⟩
          · rw[hs1s.2,hsplitS];exact hs'.ok
          · rw[hs1s.1,hsplitS];exact hs'.okL
          · rw[hs1t];exact weakT_RL (hsplit hs'.slot)
        obtain⟨c',t,u,e,inf,z,sOp,zOp,lenOp,xOp,q1,q2,q3,q4,q5,q6,q7,q8,q9,q10,q11,q12,q13,_⟩:=hHF.app;rw[hog] at q1;have hg:=hHF.guard.1;rw[hog] at hg;have hdst:=hHF.dst.1;rw[hog] at hdst;unfold wpOp;rw[ho];simp only;rw[wanted_none hg,if_pos rfl];left;have hrun:(execOp a.eval o).run P E1.w=((Builtin.append_ #[t,u] o.type #[a.eval sOp,a.eval zOp]).run P E1.w).andThen fun v w' => .ok (.value v) w' := by
          simp[execOp,q1,q2,q3,q4,resolve,invoke,builtin]
        have hS1:=lowX_R (E:=E1) (st:=s1) (a:=a) hsA.slot q12;have hZ1:=lowX_R (E:=E1) (st:=s1) (a:=a) hsA.slot q13;rw[es] at hS1;rw[ez] at hZ1;obtain⟨news,r1,r2,r3,r4⟩:=src_slice (P:=P) q6 hZ1;obtain⟨i',zv,k1,k2,k3,k4⟩:=zeroC_spec q8;rw[q7] at k1;simp only[Option.some.injEq] at k1;subst k1;have hzs:zv.cells.size=inf.size:=by have:=RL_length (cvL_RL (E:=E1) k3);simp at this;omega
        obtain⟨bk,cap,E2,m1,m2,m3,m4,m5⟩:=hole_app (P:=P) hsA q5 q7 k2 hzs q9 hrun (by rw[q10];exact hS1) (by rw[q10];exact r1) r3 hbig (hsA.ok.tip τ _ htip);unfold Oper.wp;rw[m2];have hlens:s1.t.length=a.tmps.size:=by have:=RL_length hsA.slot;simpa using this
        have hb9:hi.d9<a.tmps.size:=by rw[←hlens];exact h9
        refine tail fuel _ _ _ ⟨by simp[h.size],fun j hj=>?_,E2,s1,bk,cap,rfl,hfr'.trans m3,?_,rfl,?_,?_,?_,?_,?_,?_⟩ (hcount listed i h.size hi' fuel hc)
        · rw[set_listed hilt'];split
          · rfl
          · exact hpre j (by omega)
        · rw[hdst]
          have:=SRel.put m4 (v:=.any) (x:=.slice (some ⟨bk,0,none⟩) (ll.length+1) cap) (by simp[R]) (some hi.d9)
          have e:s1.put (some hi.d9) .any=s1:=by
            simp only[St.put];rw[set_same_of T.d9]
          rw[e] at this;exact this
        · rw[hdst,put_getD hb9,if_pos rfl]
        · intro h1;rw[set_listed hilt',if_neg (by omega),hn _ (by omega)] at h1;simp at h1
        · intro _ h1;rw[set_listed hilt',if_neg (by omega),hn _ (by omega)] at h1;simp at h1
        · intro _;rw[←q10];exact m1
        · intro h1;rw[set_listed hilt',if_neg (by omega),hn _ (by omega)] at h1;simp at h1
        · have z1:(listed.setIfInBounds i true).getD (ops.size - 1) false=false:=by rw[set_listed hilt',if_neg (by omega)];exact hn _ (by omega)
          have z2:(listed.setIfInBounds i true).getD (i+2) false=false:=by rw[set_listed hilt',if_neg (by omega)];exact hn _ (by omega)
          rw[z1,z2];simp
      · exfalso
        have hog:=ops_get ho;have hedge:hasE o nA=true:=by
          rw[←hog]
          by_cases h1:i=nA+1
          · rw[h1];exact eI
          by_cases h2:i=nA+2
          · rw[h2];exact eS.1
          by_cases h3:i=ops.size - 1
          · rw[h3];exact eO
          have hFF:hF=true:=by
            cases hq:hF with
            | true=>rfl
            | false=>rw[hq] at hsz;simp at hsz;omega
          have h4:i=nA+3:=by rw[hFF] at hsz;simp at hsz;omega
          rw[if_pos hFF] at hFeq;rw[h4];exact(eF _ hFeq).1
        obtain⟨e,h1,h2,h3⟩:=hasE_on hedge
        have:=hall e h1 h2
        rw[h3,hn nA (Nat.le_refl _)] at this;simp at this
  have hnone:∀j,(Array.replicate ops.size false).getD j false=false:=fun j=>by
    by_cases hj:j<ops.size<;>simp[hj]
  have hsel:∀(tr:List TR) (q:Nat),sel (fun j=>(Array.replicate ops.size false).getD j false) q tr=[]:=by
    intro tr;induction tr with
    | nil=>intro q;rfl
    | cons r tr ih=>intro q;rw[sel,if_neg (by rw[hnone];simp)];exact ih _
  refine key ops.size _ a _ ⟨by simp,fun i o _ hi=>by rw[hnone] at hi;simp at hi,{E with w:=E.w.drew},rfl,?_,hfr,trivial⟩ (fun j _=>hnone j) (by simp);rw[hsel];exact hs1
end
end Go.Am

namespace Go.Am
section
variable {P:Program} {E:Env} {st:St} {a:Act} {o:Oper} {K:V→St→Prop} {Q:Exit→Act→World→Prop}
def Env.frz (E:Env) (b:Nat):Env:={E with role:=fun x=>if x=b then .const else E.role x}
theorem frz_spec {b:Nat} {cs:List V} (hs:SRel E st a) (hb:st.out.box b=some cs) :
    Fr E (E.frz b)∧SRel (E.frz b) ⟨st.t,st.loc,st.out.del b⟩ a∧∀(j:Nat) x,cs[j]?=some x→∃v,(E.frz b).w.cell? ⟨b,j,none⟩=some v∧((E.frz b).role b).com j∧R (E.frz b).nl x v:=by
  obtain⟨hrole,c,e,hc,hlen,hcells⟩:=hs.ok.box b cs hb;have hc:E.w.heap[b]?=some (.cells c e (0,0)):=hc;have hne:∀b',E.role b' ≠ .obox→b' ≠ b:=fun b' h e=>h (by rw[e];exact hrole)
  have hsame:∀b',b' ≠ b→(E.frz b).role b' = E.role b' := fun b' h=>by simp[Env.frz,h]
  have hlt:=lt_of_heap (w:=E.w) hc;have hfr:Fr E (E.frz b):=by
    refine⟨rfl,rfl,rfl,Nat.le_refl _,fun _=>rfl,fun b' o c' hcm hv=>?_,fun t n h=>⟨n,h,Nat.le_refl _,fun _ b' c' hr=>⟨?_,fun cs e hcs=>⟨cs,hcs,rfl⟩⟩⟩,fun b' _ hr=>⟨rfl,?_⟩,fun b' _ h=>?_,fun b' t c' _ h=>?_,fun b' i _ h=>?_,fun b' c' e h=>⟨c',h,rfl⟩⟩
    · have:b' ≠ b:=hne b' (fun e=>by rw[e] at hcm;exact hcm)
      exact⟨by rw[hsame b' this];exact hcm,hv⟩
    · rw[hsame b' (hne b' (by rw[hr];simp))];exact hr
    · rw[hsame b' (hne b' (by rcases hr with h | h<;>rw[h]<;>simp))]
    · by_cases e:b' = b
      · rw[e];exact .inl hrole
      · rw[hsame _ e] at h;exact .inl h
    · by_cases e:b' = b
      · rw[e] at h;simp[Env.frz] at h
      · rw[hsame _ e] at h;exact⟨c',h⟩
    · by_cases e:b' = b
      · rw[e] at h;simp[Env.frz] at h
      · rw[hsame _ e] at h;exact⟨i,h⟩
  have hle:E.le (E.frz b):=hfr.le fun i b h=>h
  refine⟨hfr,⟨⟨fun b' cs' h=>?_,hs.ok.tip,fun b' hb' => ?_,hs.ok.nt,fun b cs hc=>RAs.mono _ hfr.nl (hs.ok.con b cs hc)⟩,okL_keep hs.okL hle (fun b' i h _=>⟨by rw[hsame b' (hne b' (by rw[h];simp))];exact h,rfl⟩) hs.okL.none,hs.defers,RL.mono _ hle hs.slot⟩,fun j x hx=>?_⟩
  · simp only[Store.del] at h;split at h
    · simp at h
    · rename_i hne';obtain⟨h1,h2⟩:=hs.ok.box b' cs' h;exact⟨by rw[hsame b' hne'];exact h1,BoxAt.mono hle.nl rfl h2⟩
  · have hb' : E.w.heap.size≤b' := hb';rw[hsame b' (by omega)];exact hs.ok.fresh b' hb'
  · obtain⟨v,hv,hr⟩:=hcells j x hx;refine⟨v,?_,by simp[Env.frz,Role.com],R.mono x hfr.nl hr⟩;show E.w.cell? ⟨b,j,none⟩=some v;simp[World.cell?,hc,hv]
def u8V (s:List UInt8):List Value:=s.map fun b=>Value.int .u8 b.toNat
theorem raw_load {σ:Store} {base:Option Addr} {n:Nat} {s:List UInt8} (hok:E.ok σ) (h:rawText σ base n s) {w0:World} (hw:w0.heap=E.w.heap) :
    n=0∧s=[]∨∃b off,base=some ⟨b,off,none⟩∧(loadCells ⟨b,off,none⟩ n).run P w0 = .ok (u8V s).toArray w0:=by
  obtain⟨hl,h⟩:=h
  rcases h with rfl | ⟨b,off,cs,rfl,hb,hcs⟩
  · exact .inl ⟨rfl,List.length_eq_zero_iff.1 hl⟩
  · right;obtain⟨_,c,e,hc,hlen,hcells⟩:=hok.box b cs hb;have hc:w0.heap[b]?=some (.cells c e (0,0)):=by rw[hw];exact hc
    refine⟨b,off,rfl,?_⟩
    have:=run_loadCells_list (P:=P) w0 ⟨b,off,none⟩ (u8V s) (fun j u hu=>by
      rw[addr_add];simp only[u8V,List.getElem?_map,Option.map_eq_some_iff] at hu;obtain⟨x,hx,rfl⟩:=hu;have hj:j<n:=by rw[←hl];exact(List.getElem?_eq_some_iff.1 hx).1
      have hcj:cs[off+j]?=some (.int .u8 x.toNat):=by
        have:=congrArg (fun l:List V=>l[j]?) hcs
        simp only[List.getElem?_map,hx,Option.map_some,List.getElem?_take_of_lt hj,List.getElem?_drop] at this;exact this
      obtain⟨v,h1,h2⟩:=hcells (off+j) _ hcj;simp only[R] at h2;simp[World.cell?,hc,h1,h2])
    rw[show (u8V s).length=n by simp[u8V,hl]] at this;exact this
theorem src_raw {base:Option Addr} {n cap:Nat} {s:List UInt8} (hok:E.ok st.out) (h:rawText st.out base n s) {u e:TypeId} (hu:P.underlying u=some (.slice e)) :
    Src P E.w 1 (encB s).length u (.slice base n cap) (u8V s)∧RL E.nl (encB s).flatten (u8V s)∧(∀v∈u8V s,v.oneCell' = true)∧∀y∈encB s,y.length=1:=by
  have hl:=h.1;have hlen:(encB s).length=n:=by simp[encB,hl]
  have cell:∀w0:World,w0.heap=E.w.heap→(Builtin.firstCells 1 n (.slice base n cap)).run P w0 = .ok (u8V s).toArray w0:=fun w0 hw=>by
    rcases raw_load (P:=P) hok h hw with ⟨rfl,rfl⟩ | ⟨b,off,rfl,hr⟩
    · cases base<;>simp[Builtin.firstCells,loadCells,loadCellsFrom,u8V]
    · simp only[Builtin.firstCells,Nat.mul_one];exact hr
  refine⟨⟨⟨_,hu,fun _ h=>by simp at h⟩,fun w' => by simp[Builtin.lenOf,hlen],?_,?_,by simp[u8V,encB]⟩,?_,?_,?_⟩
  · rw[hlen];exact cell E.w rfl
  · rw[hlen];exact cell E.w.drew rfl
  · rw[encB_flat];clear hl hlen cell h;induction s with
    | nil=>simp[RL,u8V]
    | cons b s ih=>simp only[List.map_cons,RL,R,u8V] at ih ⊢;exact⟨trivial,ih⟩
  · intro v hv;simp only[u8V,List.mem_map] at hv;obtain⟨b,_,rfl⟩:=hv;rfl
  · intro y hy;simp only[encB,List.mem_map] at hy;obtain⟨b,_,rfl⟩:=hy;rfl
theorem run_boundsF {t:TypeId} {lo hi:Option Operand} {lo' hi' : Option X} (hs:SRel E st a) (h1:lowO P t lo=some lo') (h2:lowO P t hi=some hi') {len m n:Nat}
    (hlo:match (generalizing:=false) lo' with | none=>m=0 | some y=>∃j,ev st y = .int j m) (hhi:match (generalizing:=false) hi' with | none=>n=len | some y=>∃j,ev st y = .int j n) (hmn:m≤n) (hnl:n≤len) :
    (Instr.sliceBounds false len len (lo.map a.eval) (hi.map a.eval) none).run P E.w = .ok (m,n,len) E.w:=by
  rcases lowO_R (E:=E) hs.slot h2 with ⟨rfl,rfl⟩ | ⟨u,v,rfl,rfl,hr⟩
  · simp only at hhi;subst hhi
    rcases lowO_R (E:=E) hs.slot h1 with ⟨rfl,rfl⟩ | ⟨u',v',rfl,rfl,hr'⟩
    · simp only at hlo;subst hlo;simp[Instr.sliceBounds]
    · obtain⟨j',hj'⟩:=hlo;rw[hj'] at hr';simp only[R] at hr';have e2:=run_bound (P:=P) (w:=E.w) (j:=j') (c:=.sliceB) hmn;simp[Instr.sliceBounds,hr',e2]
  · obtain⟨j,hj⟩:=hhi;rw[hj] at hr;simp only[R] at hr;have e2:=run_bound (P:=P) (w:=E.w) (j:=j) (c:=.sliceAlen) hnl
    rcases lowO_R (E:=E) hs.slot h1 with ⟨rfl,rfl⟩ | ⟨u',v',rfl,rfl,hr'⟩
    · simp only at hlo;subst hlo;simp[Instr.sliceBounds,hr,e2]
    · obtain⟨j',hj'⟩:=hlo;rw[hj'] at hr';simp only[R] at hr';have e3:=run_bound (P:=P) (w:=E.w) (j:=j') (c:=.sliceB) hmn;simp[Instr.sliceBounds,hr,hr',e2,e3]
def lowOwn2 (P:Program) (o:Oper):Option AOp :=
  match o.op with
  | .slice t x lo hi none =>
    match lowX P t x,lowO P t lo,lowO P t hi with
    | some y, some lo', some hi' =>
      match P.underlying t with
      | some (.array m e)=>(sizeV P e).map fun k=>.own (.slcA m k lo'.isSome hi'.isSome) (y::(lo'.toList++hi'.toList))
      | some (.slice e)=>if sizeV P e=some 1 then some (.own (.frz 1 lo'.isSome hi'.isSome) (y::(lo'.toList++hi'.toList))) else none
      | _=>none
    | _,_,_=>none
  | .buildSlice t len ps =>
    match P.underlying t with
    | some (.slice e) =>
      match sizeV P e,zeroC P e,lowXs P (List.replicate len e) (ps.toList.map (·.2)) with
      | some k,some _,some xs=>if ps.toList.map (·.1)=List.range len∧len*k≤16777216 then some (.own (.new k) xs) else none
      | _,_,_=>none
    | _=>none
  | .convert src dst x =>
    match P.underlying src,P.underlying dst,lowX P src x with
    | some (.slice e),some .string,some y=>match P.underlying e with | some (.int .u8)=>some (.own .cvR [y]) | _=>none
    | _,_,_=>none
  | .call c =>
    match c.callee with
    | .builtin .append =>
      match c.argTypes.toList,c.args.toList with
      | [t, u], [s, x] =>
        match P.underlying t,lowX P t s,lowX P u x with
        | some (.slice e), some s', some x' =>
          match P.info? e,zeroC P e with
          | some i, some _ =>
            if i.size=1∧i.bytes≤4096 then
              match P.underlying u with
              | some .string=>some (.own .appS [s',x'])
              | some (.slice _)=>some (.own .appR [s',x'])
              | _=>none
            else none
          | _,_=>none
        | _,_,_=>none
      | _,_=>none
    | _=>none
  | _=>none
theorem wp_bsliceO (hs:SRel E st a) {t e:TypeId} {len k:Nat} {parts:Array (Nat × Operand)} {z:List V} (ho:o.op = .buildSlice t len parts) (ht:P.underlying t=some (.slice e)) (hn:sizeV P e=some k) (hz:zeroC P e=some z)
    (hr:parts.toList.map (·.1)=List.range len) (hsz:len*k≤16777216) {l:List (List V)}
    (hf:(parts.toList.map (·.2)).length=len∧l.length=len∧(∀x∈parts.toList.map (·.2),(a.eval x).cells.size=k)∧(∀y∈l,y.length=k)∧RL E.nl l.flatten ((parts.toList.map (·.2)).map fun x=>(a.eval x).cells.toList).flatten∧∀v∈((parts.toList.map (·.2)).map fun x=>(a.eval x).cells.toList).flatten,v.oneCell' = true)
    (hk:∀b,st.out.box b=none→K (V.raw (.slice (some ⟨b,0,none⟩) l.length l.length)) ⟨st.t,st.loc,st.out.set b l.flatten⟩):o.wp P a E.w (Post E a o.dst K) Q:=by
  obtain⟨k1,k2,k3,k4,k5,k6⟩:=hf;obtain⟨i,zv,h1,h2,h3,h4⟩:=zeroC_spec hz;have hlen:parts.toList.length=len:=by simpa using k1
  let ps:List (Nat × Value):=parts.toList.map fun (i,x)=>(i,a.eval x)
  have hps1:ps.map (·.1)=List.range' 0 ps.length:=by
    have:ps.map (·.1)=parts.toList.map (·.1):=by simp[ps,Function.comp_def]
    rw[this,hr,List.range_eq_range'];congr 1;simp[ps];simpa using hlen.symm
  have hps2:(ps.map fun p=>p.2.cells.toList)=(parts.toList.map (·.2)).map fun x=>(a.eval x).cells.toList:=by simp[ps,Function.comp_def]
  have hall:∀p∈ps,p.2.cells.size=k:=fun p hp=>by
    simp only[ps,List.mem_map] at hp;obtain⟨q,hq,rfl⟩:=hp;exact k3 q.2 (List.mem_map.2 ⟨q,hq,rfl⟩)
  have hpl:ps.length=len:=by simp[ps];simpa using hlen
  have fill:∀cells:Array Value,cells.size=len*k→Instr.fill (fun i=>some (i*k,k)) cells ps=some ((parts.toList.map (·.2)).map fun x=>(a.eval x).cells.toList).flatten.toArray:=fun cells hc=>by
    have:=fill_seq ps 0 cells hps1 hall (by rw[hpl];simpa using hc)
    rw[this,hps2];simp
  generalize hnews:((parts.toList.map (·.2)).map fun x=>(a.eval x).cells.toList).flatten=news at fill k5 k6;refine wp_newB hs (w1:=E.w) (Ext.refl _) rfl (x:=.slice (some ⟨E.w.heap.size,0,none⟩) len len) (v:=fun b=>.raw (.slice (some ⟨b,0,none⟩) l.length l.length)) (zs:=l.flatten) (c:=news.toArray) (e:=e) ?_ (by simpa using k5) (by simp only[R,k2]) rfl hk;have hzs:(zeroValue e).run P E.w = .ok zv E.w:=by simp[zeroValue,typeInfo,h1,h2]
  have hps:(parts.map fun (i,x)=>(i,a.eval x)).toList=ps:=by simp[ps]
  have hsz' : ¬(16777216<len*k):=by omega
  simp only[execOp,ho,Sem.run_bind];have key:(Instr.buildSlice t len (parts.map fun (i,x)=>(i,a.eval x))).run P E.w = .ok (.slice (some ⟨E.w.heap.size,0,none⟩) len len) (E.w.alloc (.cells news.toArray e)):=by
    unfold Instr.buildSlice;simp only[Sem.run_bind,run_underlying ht,Result.andThen_ok,run_sizeV hn];rw[if_neg (by simpa using hsz')];rw[hps]
    by_cases h0:len*k=0
    · rw[if_pos h0];simp only[Sem.run_bind,Sem.run_pure,Result.andThen_ok];rw[fill _ (by simp)];simp[newRow]
    · rw[if_neg h0];simp only[Sem.run_bind,hzs,Result.andThen_ok,Sem.run_pure];rw[fill _ (by simp)];simp[newRow]
  rw[key];rfl
theorem own2_sound {ao:AOp} (hl:lowOwn2 P o=some ao) (hs:SRel E st a) (h:ao.sem P st K):o.wp P a E.w (Post E a o.dst K) Q:=by
  have X:=fun {t:TypeId} {x:Operand} {y:X} (hx:lowX P t x=some y)=>lowX_R (E:=E) (st:=st) (a:=a) hs.slot hx
  unfold lowOwn2 at hl;split at hl
  · rename_i t x lo hi ho;split at hl
    case h_2=>simp at hl
    rename_i y lo' hi' h1 h2 h3;have hx:=X h1;split at hl
    · rename_i m e ht;simp only[Option.map_eq_some_iff] at hl;obtain⟨k,hk,rfl⟩:=hl;simp only[AOp.sem,evs] at h;unfold OQ.sem at h;split at h<;>try (exfalso;simp_all;done)
      · rename_i m0 k0 b1 b2 b off vs e1 e2;simp only[OQ.slcA.injEq] at e1;obtain⟨rfl,rfl,rfl,rfl⟩:=e1;simp only[List.cons.injEq] at e2;obtain⟨e2,rfl⟩:=e2;rw[e2] at hx;simp only[R] at hx;rw[evs_append] at h;obtain⟨l,h,g1⟩:=bnd_spec h;rw[←List.append_nil (evs st hi'.toList)] at h;obtain⟨hh,h,g2⟩:=bnd_spec h;obtain⟨_,k1,k2,h⟩:=h;have hb:=run_boundsF (P:=P) hs h2 h3 g1 g2 k1 k2;refine wp_val hs (v:=.raw _) (x:=.slice (some (if m=l then ⟨b,off,none⟩ else ⟨b,off+l*k,none⟩)) (hh - l) (m - l)) ?_ (by simp only[R]) h;simp only[execOp,ho,Sem.run_bind,hx];simp[Instr.sliceAt,run_underlying ht,Instr.sureAddr,hb,run_sizeV hk,addr_add]
    · rename_i e ht;split at hl
      case isFalse=>simp at hl
      rename_i hk;simp only[Option.some.injEq] at hl;subst hl;simp only[AOp.sem,evs] at h;unfold OQ.sem at h;split at h<;>try (exfalso;simp_all;done)
      · rename_i k0 b1 b2 b off n cap vs e1 e2;simp only[OQ.frz.injEq] at e1;obtain⟨rfl,rfl,rfl⟩:=e1;simp only[List.cons.injEq] at e2;obtain⟨e2,rfl⟩:=e2;rw[e2] at hx;simp only[R] at hx;rw[evs_append] at h;obtain⟨l,h,g1⟩:=bnd_spec h;rw[←List.append_nil (evs st hi'.toList)] at h;obtain⟨hh,h,g2⟩:=bnd_spec h;obtain⟨_,k1,k2,_,cs,hbx,hlen,hone,hnol,h⟩:=h;have hb:=run_bounds (P:=P) (mx:=none) (mx' := none) (M:=cap) hs h2 h3 rfl (by simp) g1 g2 rfl k1 k2 (Nat.le_refl _);obtain⟨hf,hs',hc⟩:=frz_spec hs hbx;unfold Oper.wp;rw[show (execOp a.eval o).run P E.w = .ok (.value (.slice (if cap=l then some ⟨b,off,none⟩ else some ⟨b,off+l,none⟩) (hh - l) (cap - l))) E.w by
          simp only[execOp,ho,Sem.run_bind,hx];simp only[Option.map_none] at hb;simp[Instr.sliceAt,run_underlying ht,Instr.slice,hb,run_sizeV hk,addr_add]]
        refine⟨E.frz b,_,_,⟨st.t,st.loc,st.out.del b⟩,rfl,hf,hs',?_,rfl,h⟩;have hrl:(cellRows (((cs.drop off).take hh).drop l)).length=hh - l:=by simp[cellRows];omega
        simp only[R];refine⟨_,_,by rw[hrl],by rw[hrl];omega,?_,trivial⟩
        by_cases hz:hh=l
        · left;exact List.length_eq_zero_iff.1 (by rw[hrl];omega)
        · right;refine⟨b,off+l,by rw[if_neg (by omega)],?_⟩;have key:∀(xs:List V) (p:Nat),(∀(j:Nat) x,xs[j]?=some x→cs[p+j]?=some x)→oneL xs=true→REs (E.frz b).nl 1 (cellRows xs) b p:=by
            intro xs;induction xs with
            | nil=>intro p _ _;simp[cellRows,REs]
            | cons x xs ih =>
              intro p hp ho1;simp only[oneL,Bool.and_eq_true] at ho1;simp only[cellRows,List.map_cons,REs,RAs];obtain⟨v,v1,v2,v3⟩:=hc p x (by have:=hp 0 x rfl;simpa using this);refine⟨rfl,⟨⟨v,v1,v2,one_ok (E:=(E.frz b).nl) (xs:=[x]) (vs:=[v]) (by simp only[RL];exact⟨v3,trivial⟩) (by simp[oneL,ho1.1]) v (by simp),by simpa using v3⟩,trivial⟩,?_⟩;refine ih (p+1) (fun j y hy=>?_) ho1.2
              have:=hp (j+1) y (by simpa using hy)
              rwa [show p+1+j=p+(j+1) by omega]
          refine key _ _ (fun j x hx' => ?_) hone;rw[List.getElem?_drop,List.getElem?_take_of_lt (by
            have:=(List.getElem?_eq_some_iff.1 hx').1
            simp at this;omega),List.getElem?_drop] at hx'
          rwa [show off+l+j=off+(l+j) by omega]
    · simp at hl
  · rename_i t len ps ho;split at hl
    case h_2=>simp at hl
    rename_i e ht;split at hl
    case h_2=>simp at hl
    rename_i k z xs hk hz hxs;split at hl
    case isFalse=>simp at hl
    rename_i hc;simp only[Option.some.injEq] at hl;subst hl;simp only[AOp.sem] at h;unfold OQ.sem at h;split at h<;>try (exfalso;simp_all;done)
    · rename_i k0 vs e1;simp only[OQ.new.injEq] at e1;subst e1;obtain⟨l,h1,hnl,h2⟩:=h;exact wp_bsliceO hs ho ht hk hz hc.1 hc.2 (keepV_R (E:=E) hs.slot hxs h1) h2
  · rename_i src dst x ho;split at hl
    case h_2=>simp at hl
    rename_i e y h1 h2 h3;split at hl
    case h_2=>simp at hl
    rename_i h4;simp only[Option.some.injEq] at hl;subst hl;have hx:=X h3;simp only[AOp.sem,evs] at h;unfold OQ.sem at h;split at h<;>try (exfalso;simp_all;done)
    · rename_i base n cap e1 e2;simp only[List.cons.injEq,and_true] at e2;rw[e2] at hx;simp only[R] at hx;obtain⟨s,ht,h⟩:=h;refine wp_val hs (v:=.str s) (x:=.string ⟨s.toArray⟩) ?_ (by simp only[R]) h;have key:(Conv.bytesToString (a.eval x)).run P E.w = .ok (.string ⟨s.toArray⟩) E.w:=by
        rw[hx]
        rcases raw_load (P:=P) hs.ok ht rfl with ⟨rfl,rfl⟩ | ⟨b,off,rfl,hr⟩
        · cases base with
          | none=>simp[Conv.bytesToString];rfl
          | some ad =>
            have:=run_bytesToString (P:=P) E.w ad 0 cap [] (by simp[loadCells,loadCellsFrom])
            simp at this ⊢;exact this
        · rw[show u8V s=(s.map fun b=>(b.toNat:Int)).map (Value.int .u8) by simp[u8V]] at hr
          have:=run_bytesToString (P:=P) E.w ⟨b,off,none⟩ n cap _ hr
          rw[this];have hp:=push_bytes s [];simp only[List.nil_append] at hp;exact congrArg (fun z=>Result.ok (Value.string z) E.w) hp
      rw[hx] at key;simp only[execOp,ho,Sem.run_bind,hx];simp[convert,run_underlying h1,run_underlying h2,run_underlying h4,key]
  · rename_i c ho;obtain⟨callee,args,argTypes⟩:=c;simp only at hl;split at hl
    · split at hl
      case h_2=>simp at hl
      rename_i t u s x ht hx;have e1:argTypes=#[t,u]:=by cases argTypes;simpa using ht
      have e2:args=#[s,x]:=by cases args;simpa using hx
      subst e1;subst e2;split at hl
      case h_2=>simp at hl
      rename_i e s' x' hu hs' hx';split at hl
      case h_2=>simp at hl
      rename_i i z hi hz;split at hl
      case isFalse=>simp at hl
      rename_i hc;obtain⟨hi1,hby⟩:=hc;obtain⟨i',z',q1,q2,q3,q4⟩:=zeroC_spec hz;obtain rfl:i=i' := by rw[hi] at q1;simpa using q1
      have hzs:z'.cells.size=i.size:=by have:=RL_length (cvL_RL (E:=E) q3);simp at this;omega
      have hsv:=X hs';have hxv:=X hx';split at hl
      · rename_i hu';simp only[Option.some.injEq] at hl;subst hl;simp only[AOp.sem,evs] at h;unfold OQ.sem at h;split at h<;>try (exfalso;simp_all;done)
        · rename_i base n cap sx e1 e2;simp only[List.cons.injEq,and_true] at e2;obtain⟨e2,e3⟩:=e2;rw[e2] at hsv;rw[e3] at hxv;simp only[R] at hsv hxv;obtain⟨news,g1,g2,g3,g4⟩:=src_string (P:=P) (E:=E.nl) (w:=E.w) hu' sx;refine wp_appO hs hu hi q2 hzs hby (ty:=o.type) (base:=base) (n:=n) (cap:=cap) (u:=u) (vx:=a.eval x) (m:=encB sx) (news:=news) ?_ ?_ g2 g3 ?_ ?_
          · simp[execOp,ho,resolve,invoke,builtin,hsv]
          · rw[hi1,hxv];exact g1
          · rw[hi1];exact g4
          · rw[hi1];exact h
      · rename_i e' hu';simp only[Option.some.injEq] at hl;subst hl;simp only[AOp.sem,evs] at h;unfold OQ.sem at h;split at h<;>try (exfalso;simp_all;done)
        · rename_i base n cap base' n' cap' e1 e2;simp only[List.cons.injEq,and_true] at e2;obtain⟨e2,e3⟩:=e2;rw[e2] at hsv;rw[e3] at hxv;simp only[R] at hsv hxv;obtain⟨sx,hr,h⟩:=h;obtain⟨g1,g2,g3,g4⟩:=src_raw (P:=P) (cap:=cap') hs.ok hr hu';refine wp_appO hs hu hi q2 hzs hby (ty:=o.type) (base:=base) (n:=n) (cap:=cap) (u:=u) (vx:=a.eval x) (m:=encB sx) (news:=u8V sx) ?_ ?_ g2 g3 ?_ ?_
          · simp[execOp,ho,resolve,invoke,builtin,hsv]
          · rw[hi1,hxv];exact g1
          · rw[hi1];exact g4
          · rw[hi1];exact h
      · simp at hl
    · simp at hl
  · simp at hl
theorem wp_cpy (hs:SRel E st a) {t u ty e:TypeId} {i:TypeInfo} (ht:P.underlying t=some (.slice e)) (hi:P.info? e=some i) {base:Option Addr} {n cap m:Nat} {vx:Value} {xs:List V}
    (hrun:(execOp a.eval o).run P E.w=((Builtin.copy_ #[t,u] ty #[.slice base n cap,vx]).run P E.w).andThen fun v w' => .ok (.value v) w')
    {len:Nat} (hlen:(Builtin.lenOf vx).run P E.w = .ok len E.w) (hm:min len n=m) {news:List Value} (hcells:(Builtin.firstCells i.size m vx).run P E.w = .ok news.toArray E.w)
    (hnews:RL E.nl xs news) (hone:∀v∈news,v.oneCell' = true) (hsz:news.length=m*i.size)
    (hk:CpyOk st.out i.size base m xs fun v σ=>K v ⟨st.t,st.loc,σ⟩):o.wp P a E.w (Post E a o.dst K) Q:=by
  obtain⟨hk0,hk1⟩:=hk;have hm:Nat.min len n=m:=hm
  by_cases h0:m=0
  · subst h0
    have:news=[]:=List.eq_nil_of_length_eq_zero (by simpa using hsz)
    subst this;refine wp_val hs (v:=.int .i64 0) (x:=.int .i64 0) ?_ (by simp only[R]) (hk0 rfl);rw[hrun];cases base<;>simp[Builtin.copy_,run_underlying ht,sizeOf,typeInfo,hi,hlen,hm,hcells,storeCells,goInt]
  · obtain⟨b,off,cs,rfl,hbox,hfit,hK⟩:=hk1 h0;obtain⟨hrole,c,e',hbk,hln,hc⟩:=hs.ok.box b cs hbox;have hbk:E.w.heap[b]?=some (.cells c e' (0,0)):=hbk;have hxl:=RL_length hnews;have hfit' : off+news.length≤c.size:=by omega
    have hst:=run_storeCells_at (P:=P) b off e' news 0 c E.w hbk (by simpa using hfit') hone;simp only[Nat.add_zero] at hst;have hrr:(Builtin.copy_ #[t,u] ty #[.slice (some ⟨b,off,none⟩) n cap,vx]).run P E.w = .ok (.int .i64 m) (E.w.setRow b (c.toList.take off++news++c.toList.drop (off+news.length)).toArray):=by
      simp[Builtin.copy_,run_underlying ht,sizeOf,typeInfo,hi,hlen,hm,hcells,hst,goInt]
    have hfr:=fr_row (E:=E) (new:=(c.toList.take off++news++c.toList.drop (off+news.length)).toArray) hbk (.inr hrole) (by simp;omega);have hle:=hfr.le fun _ _ h=>h
    have hnew:=setRow_heap E.w b c (c.toList.take off++news++c.toList.drop (off+news.length)).toArray e' _ hbk;have hbx:=box_store (E' := Env.nl {E with w:=E.w.setRow b (c.toList.take off++news++c.toList.drop (off+news.length)).toArray}) hln
      (fun j x hj=>let ⟨u,h1,h2⟩:=hc j x hj;⟨u,h1,h2.mono _ hfr.nl⟩) (RL.mono _ hfr.nl hnews) (by omega) hnew
    generalize (c.toList.take off++news++c.toList.drop (off+news.length)).toArray=new at hrr hnew hfr hle hbx;have hk' : ∀b',b' ≠ b→(E.w.setRow b new).heap[b']?=E.w.heap[b']?:=fun b' hne=>setRow_other E.w b b' new hne
    unfold Oper.wp;rw[hrun,hrr];refine⟨{E with w:=E.w.setRow b new},.int .i64 m,.int .i64 m,⟨st.t,st.loc,st.out.set b (setAt cs off xs)⟩,rfl,hfr,⟨⟨?_,hs.ok.tip,fun b' hb' => hs.ok.fresh b' (by simpa using hb'),hs.ok.nt,fun b cs hc=>RAs.mono _ hfr.nl (hs.ok.con b cs hc)⟩,
      okL_keep hs.okL hle (fun b' i hr _=>⟨hr,hk' b' (by rintro rfl;rw[hrole] at hr;simp at hr)⟩) hs.okL.none,hs.defers,RL.mono _ hle hs.slot⟩,by simp only[R],rfl,hK⟩
    intro b' cs' hcs';simp only[Store.set] at hcs';split at hcs'
    · rename_i e2;subst e2;simp only[Option.some.injEq] at hcs';subst hcs';exact⟨hrole,hbx⟩
    · rename_i hne;obtain⟨h1,h2⟩:=hs.ok.box b' cs' hcs';exact⟨h1,h2.mono hfr.nl (hk' b' hne)⟩
theorem cut_load (hok:E.ok st.out) {base:Option Addr} {n:Nat} {xs:List V} (h:CutAt st.out base n xs):∃news:List Value,news.length=n∧RL E.nl xs news∧(∀v∈news,v.oneCell' = true) ∧
    ∀(k m len cap:Nat),m*k=n→(Builtin.firstCells k m (.slice base len cap)).run P E.w = .ok news.toArray E.w:=by
  rcases h with ⟨rfl,rfl⟩ | ⟨b,o,cs,rfl,hb,hl,rfl,h1⟩
  · refine⟨[],rfl,by simp[RL],by simp,fun k m len cap e=>?_⟩;cases base with
    | none=>simp[Builtin.firstCells]
    | some ad=>simp[Builtin.firstCells,e,loadCells,loadCellsFrom]
  · obtain⟨_,c,e,hc,hlen,hcells⟩:=hok.box b cs hb;have hc:E.w.heap[b]?=some (.cells c e (0,0)):=hc;have hrl:RL E.nl ((cs.drop o).take n) ((c.toList.drop o).take n):=by
      refine RL_of_get (by simp;omega) fun j x u hx hu=>?_
      have hj:j<n:=by have:=(List.getElem?_eq_some_iff.1 hx).1;simp at this;omega
      rw[List.getElem?_take_of_lt hj,List.getElem?_drop] at hx;rw[List.getElem?_take_of_lt hj,List.getElem?_drop] at hu;obtain⟨v,h1,h2⟩:=hcells (o+j) x hx
      have:v=u:=by simp at hu;rw[hu] at h1;simpa using h1.symm
      exact this▸h2
    have hl2:((c.toList.drop o).take n).length=n:=by simp;omega
    refine⟨(c.toList.drop o).take n,hl2,hrl,one_ok hrl h1,fun k m len cap e2=>?_⟩
    have:=run_loadCells_list (P:=P) E.w ⟨b,o,none⟩ ((c.toList.drop o).take n) (fun j v hv=>by
      have hj:j<n:=by have:=(List.getElem?_eq_some_iff.1 hv).1;omega
      rw[addr_add];rw[List.getElem?_take_of_lt hj,List.getElem?_drop] at hv;simpa [World.cell?,hc] using hv)
    rw[hl2] at this;simp only[Builtin.firstCells,e2];exact this
def lowMore (P:Program) (o:Oper):Option AOp :=
  match o.op with
  | .index t x i =>
    match P.underlying t,lowX P t x,lowX P t i with
    | some (.array m e), some y, some z =>
      match aggOf P e,sizeV P e with
      | some false,some 1=>some (.own (.idxV m) [y,z])
      | _,_=>none
    | _,_,_=>none
  | .unOp .neg t x=>match P.underlying t,lowX P t x with | some (.int k),some y=>some (.binI .sub (.c (.int k 0)) y) | _,_=>none
  | .unOp .xor t x=>match P.underlying t,lowX P t x with | some (.int k),some y=>some (.binI .xor (.c (.int k (if k.signed then -1 else k.max))) y) | _,_=>none
  | .call c =>
    match c.callee with
    | .builtin .min =>
      match c.argTypes.toList,c.args.toList with
      | [t,u],[x,y]=>match P.underlying t,lowX P t x,lowX P u y with | some (.int _),some x',some y' => some (.own .min [x',y']) | _,_,_=>none
      | _,_=>none
    | .builtin .max =>
      match c.argTypes.toList,c.args.toList with
      | [t,u],[x,y]=>match P.underlying t,lowX P t x,lowX P u y with | some (.int _),some x',some y' => some (.own .max [x',y']) | _,_,_=>none
      | _,_=>none
    | .builtin .copy =>
      match c.argTypes.toList,c.args.toList with
      | [t, u], [x, y] =>
        match P.underlying t,P.underlying u,lowX P t x,lowX P u y with
        | some (.slice e),some (.slice e'),some x',some y' => match P.info? e with | some i=>if e=e' ∧ 0<i.size then some (.own (.cpy i.size) [x',y']) else none | none=>none
        | _,_,_,_=>none
      | _,_=>none
    | _=>none
  | _=>none
theorem more_sound {ao:AOp} (hl:lowMore P o=some ao) (hs:SRel E st a) (h:ao.sem P st K):o.wp P a E.w (Post E a o.dst K) Q:=by
  have X:=fun {t:TypeId} {x:Operand} {y:X} (hx:lowX P t x=some y)=>lowX_R (E:=E) (st:=st) (a:=a) hs.slot hx
  unfold lowMore at hl;split at hl
  · rename_i t x i ho;split at hl
    case h_2=>simp at hl
    rename_i m e y z ht hx hi;split at hl
    case h_2=>simp at hl
    rename_i hg hn;simp only[Option.some.injEq] at hl;subst hl;have hxv:=X hx;have hiv:=X hi;simp only[AOp.sem,evs] at h;unfold OQ.sem at h;split at h<;>try (exfalso;simp_all;done)
    · rename_i m0 cs k j e1 e2;simp only[OQ.idxV.injEq] at e1;subst e1;simp only[List.cons.injEq,and_true] at e2;obtain⟨e2,e3⟩:=e2;rw[e2] at hxv;rw[e3] at hiv;simp only[R] at hxv hiv;obtain⟨vs,h4,h5⟩:=hxv;obtain⟨g1,g2,h⟩:=h;unfold optV at h;split at h
      · rename_i c hc;obtain⟨u,h6,h7⟩:=RL_get h5 j.toNat c hc;have h6' : vs[j.toNat]?=some u:=by simpa using h6
        refine wp_val hs (v:=c) (x:=u) ?_ h7 h.2;simp[execOp,ho,h4,hiv,Instr.index,asIntOf,run_underlying ht,g1,g2,part,run_isAgg hg,run_sizeV hn,h6']
      · exact h.elim
  · rename_i t x ho;split at hl
    case h_2=>simp at hl
    rename_i k y ht hx;simp only[Option.some.injEq] at hl;subst hl;have hx:=X hx;simp only[AOp.sem,ev,opt,K2] at h;split at h
    case h_2=>exact h.elim
    rename_i v hv;unfold binIV at hv;split at hv
    case h_2=>simp at hv
    rename_i k' n k2 m e1 e2;simp only[V.int.injEq] at e1;obtain⟨rfl,rfl⟩:=e1;split at hv
    case isFalse=>simp at hv
    rename_i hkk;obtain rfl:=ikEq_eq (hkk.resolve_right (by simp[isSh]));simp only[intV,Option.some.injEq] at hv;subst hv;have e2:ev st y = .int k m:=e2;rw[e2] at hx;simp only[R] at hx;refine wp_val hs (x:=.int k (k.wrap (0 - m))) ?_ (by simp only[R]) h;simp only[execOp,ho,hx];simp only[Op.unary,Op.intArith];simp
  · rename_i t x ho;split at hl
    case h_2=>simp at hl
    rename_i k y ht hx;simp only[Option.some.injEq] at hl;subst hl;have hx:=X hx;simp only[AOp.sem,ev,opt,K2] at h;split at h
    case h_2=>exact h.elim
    rename_i v hv;unfold binIV at hv;split at hv
    case h_2=>simp at hv
    rename_i k' n k2 m e1 e2;simp only[V.int.injEq] at e1;obtain⟨rfl,rfl⟩:=e1;split at hv
    case isFalse=>simp at hv
    rename_i hkk;obtain rfl:=ikEq_eq (hkk.resolve_right (by simp[isSh]));simp only[intV,Option.some.injEq] at hv;subst hv;have e2:ev st y = .int k m:=e2;rw[e2] at hx;simp only[R] at hx;refine wp_val hs (x:=.int k (k.wrap ((BitVec.ofInt k.bits (if k.signed then -1 else k.max) ^^^ BitVec.ofInt k.bits m).toNat:Nat))) ?_ (by simp only[R]) h;simp only[execOp,ho,hx];simp only[Op.unary,Op.intBits];simp
  · rename_i c ho;obtain⟨callee,args,argTypes⟩:=c;simp only at hl;split at hl
    · split at hl
      case h_2=>simp at hl
      rename_i t u x y ht hx;have e1:argTypes=#[t,u]:=by cases argTypes;simpa using ht
      have e2:args=#[x,y]:=by cases args;simpa using hx
      subst e1;subst e2;split at hl
      case h_2=>simp at hl
      rename_i k0 x' y' hu hx' hy';simp only[Option.some.injEq] at hl;subst hl;have hxv:=X hx';have hyv:=X hy';simp only[AOp.sem,evs] at h;unfold OQ.sem at h;split at h<;>try (exfalso;simp_all;done)
      · rename_i k n k' m e1 e2;simp only[List.cons.injEq,and_true] at e2;obtain⟨e2,e3⟩:=e2;rw[e2] at hxv;rw[e3] at hyv;simp only[R] at hxv hyv;obtain⟨hkk,h⟩:=h;refine wp_val hs (v:=.int k (if m<n then m else n)) (x:=.int k (if m<n then m else n)) ?_ (by simp only[R]) h;simp[execOp,ho,resolve,invoke,builtin,Builtin.min_,Builtin.min2,hxv,hyv]
    · split at hl
      case h_2=>simp at hl
      rename_i t u x y ht hx;have e1:argTypes=#[t,u]:=by cases argTypes;simpa using ht
      have e2:args=#[x,y]:=by cases args;simpa using hx
      subst e1;subst e2;split at hl
      case h_2=>simp at hl
      rename_i k0 x' y' hu hx' hy';simp only[Option.some.injEq] at hl;subst hl;have hxv:=X hx';have hyv:=X hy';simp only[AOp.sem,evs] at h;unfold OQ.sem at h;split at h<;>try (exfalso;simp_all;done)
      · rename_i k n k' m e1 e2;simp only[List.cons.injEq,and_true] at e2;obtain⟨e2,e3⟩:=e2;rw[e2] at hxv;rw[e3] at hyv;simp only[R] at hxv hyv;obtain⟨hkk,h⟩:=h;refine wp_val hs (v:=.int k (if n<m then m else n)) (x:=.int k (if n<m then m else n)) ?_ (by simp only[R]) h;simp[execOp,ho,resolve,invoke,builtin,Builtin.max_,Builtin.max2,hxv,hyv]
    · split at hl
      case h_2=>simp at hl
      rename_i t u x y ht hx;have e1:argTypes=#[t,u]:=by cases argTypes;simpa using ht
      have e2:args=#[x,y]:=by cases args;simpa using hx
      subst e1;subst e2;split at hl
      case h_2=>simp at hl
      rename_i e e' x' y' hu hu' hx' hy';split at hl
      case h_2=>simp at hl
      rename_i i hi;split at hl
      case isFalse=>simp at hl
      rename_i hc;simp only[Option.some.injEq] at hl;subst hl;obtain⟨rfl,hpos⟩:=hc;have hxv:=X hx';have hyv:=X hy';simp only[AOp.sem,evs] at h;unfold OQ.sem at h;split at h<;>try (exfalso;simp_all;done)
      · rename_i k0 base n cap base' n' cap' e1 e2;simp only[OQ.cpy.injEq] at e1;subst e1;simp only[List.cons.injEq,and_true] at e2;obtain⟨e2,e3⟩:=e2;rw[e2] at hxv;rw[e3] at hyv;simp only[R] at hxv hyv;obtain⟨xs,hcut,h⟩:=h;obtain⟨news,g1,g2,g3,g4⟩:=cut_load (P:=P) hs.ok hcut;refine wp_cpy hs (u:=u) (ty:=o.type) (vx:=a.eval y) (news:=news) (base:=base) (n:=n) (cap:=cap) hu hi ?_ (len:=n') ?_ rfl ?_ g2 g3 g1 h
        · simp[execOp,ho,resolve,invoke,builtin,hxv]
        · rw[hyv];simp[Builtin.lenOf]
        · rw[hyv];exact g4 _ _ _ _ rfl
      · rename_i k0 base n cap tk k1 m e1 e2;simp only[OQ.cpy.injEq] at e1;subst e1;simp only[List.cons.injEq,and_true] at e2;obtain⟨e2,e3⟩:=e2;obtain⟨rfl,hle,h⟩:=h;rw[e2] at hxv;rw[e3] at hyv;obtain⟨news,g1,g2,g3,g4⟩:=src_slice (P:=P) hu' hyv;simp only[R] at hxv;refine wp_cpy hs (u:=u) (ty:=o.type) (vx:=a.eval y) (news:=news) (base:=base) (n:=n) (cap:=cap) (m:=m.length) hu hi ?_ (len:=m.length) (g1.len _) (by omega) g1.cells g2 g3 g1.size h;simp[execOp,ho,resolve,invoke,builtin,hxv]
    · simp at hl
  · simp at hl
def lowExt (P:Program) (o:Oper):Option AOp :=
  match o.op with
  | .call c =>
    match c.callee with
    | .value (.func f) =>
      match P.funcs[f]?,lowXs P c.argTypes.toList c.args.toList with
      | some fn,some xs=>if fn.body.isNone=true∧fn.origin = "" then (if fn.name = "internal/bytealg.CountString" then some (.own .cntS xs) else if fn.name = "internal/bytealg.IndexByteString" then some (.own .idxB xs) else none) else none
      | _,_=>none
    | _=>none
  | _=>none
theorem findB_lib (s:List UInt8) (c:UInt8):findB s c=Lib.indexByte s c:=by
  induction s with
  | nil=>rfl
  | cons b l ih=>simp only[findB,Lib.indexByte,ih]
theorem find_cnt {fn:Func} (h:fn.name = "internal/bytealg.CountString") (ho:fn.origin = ""):Extern.findNext fn=none∧Extern.find fn=some Extern.BytealgCount.count:=by
  have k1:Extern.allNextRows.lookup "internal/bytealg.CountString" = none:=by kernel_rfl
  have k2:Extern.allNextRows.lookup "" = none:=by kernel_rfl
  have k3:Extern.allGenericRows.lookup "internal/bytealg.CountString" = none:=by kernel_rfl
  have k4:Extern.allTypedRows.lookup "internal/bytealg.CountString" = none:=by kernel_rfl
  have k5:Extern.allRows.lookup "internal/bytealg.CountString" = some Extern.BytealgCount.count:=by kernel_rfl
  exact⟨by simp[Extern.findNext,h,ho,k1,k2],by simp[Extern.find,h,k3,k4,k5]⟩
theorem find_idx {fn:Func} (h:fn.name = "internal/bytealg.IndexByteString") (ho:fn.origin = ""):Extern.findNext fn=none∧Extern.find fn=some Extern.BytealgIndexByte.indexByte:=by
  have k1:Extern.allNextRows.lookup "internal/bytealg.IndexByteString" = none:=by kernel_rfl
  have k2:Extern.allNextRows.lookup "" = none:=by kernel_rfl
  have k3:Extern.allGenericRows.lookup "internal/bytealg.IndexByteString" = none:=by kernel_rfl
  have k4:Extern.allTypedRows.lookup "internal/bytealg.IndexByteString" = none:=by kernel_rfl
  have k5:Extern.allRows.lookup "internal/bytealg.IndexByteString" = some Extern.BytealgIndexByte.indexByte:=by kernel_rfl
  exact⟨by simp[Extern.findNext,h,ho,k1,k2],by simp[Extern.find,h,k3,k4,k5]⟩
theorem two_of {α:Type} {l:Array α} {x y:α} (h:l.toList=[x,y]):l=#[x,y]:=by cases l;simpa using h
theorem ext_sound {ao:AOp} (hl:lowExt P o=some ao) (hs:SRel E st a) (h:ao.sem P st K):o.wp P a E.w (Post E a o.dst K) Q:=by
  unfold lowExt at hl;split at hl
  case h_2=>simp at hl
  rename_i c ho;obtain⟨callee,args,argTypes⟩:=c;simp only at hl;split at hl
  case h_2=>simp at hl
  rename_i f;split at hl
  case h_2=>simp at hl
  rename_i fn xs hf hxs;split at hl
  case isFalse=>simp at hl
  rename_i hc;have hrl:=lowXs_RL (E:=E) hs.slot hxs;split at hl
  · rename_i hn;simp only[Option.some.injEq] at hl;subst hl;simp only[AOp.sem] at h;unfold OQ.sem at h;split at h<;>try (exfalso;simp_all;done)
    · rename_i s n e1 e2;rw[e2] at hrl;obtain⟨q1,q2⟩:=find_cnt hn hc.2;cases hq:args.toList.map a.eval with
      | nil=>rw[hq] at hrl;simp[RL] at hrl
      | cons v1 vs =>
        rw[hq] at hrl;cases vs with
        | nil=>simp[RL] at hrl
        | cons v2 vs2 =>
          cases vs2 with
          | cons _ _=>simp[RL] at hrl
          | nil =>
            simp only[RL,R,and_true] at hrl;obtain⟨rfl,rfl⟩:=hrl;have ha:args.map a.eval=#[.string ⟨s.toArray⟩,.int .u8 n]:=two_of (by simpa using hq);refine wp_val hs (v:=.int .i64 (s.count n.toNat.toUInt8:Nat)) (x:=.int .i64 (s.count n.toNat.toUInt8:Nat)) ?_ (by simp only[R]) h;have hrun:=run_callFunc_extern (P:=P) hf (by rw[hn];decide) hc.1 q1 q2 #[.string ⟨s.toArray⟩,.int .u8 n] E.w;rw[Lib.run_countString] at hrun;simp[execOp,ho,resolve,Act.eval,Deferred.ofValue,invoke,ha,hrun,Lib.countByte,Result.andThen]
  · split at hl
    case isFalse=>simp at hl
    rename_i hn;simp only[Option.some.injEq] at hl;subst hl;simp only[AOp.sem] at h;unfold OQ.sem at h;split at h<;>try (exfalso;simp_all;done)
    · rename_i s n e1 e2;rw[e2] at hrl;obtain⟨q1,q2⟩:=find_idx hn hc.2;cases hq:args.toList.map a.eval with
      | nil=>rw[hq] at hrl;simp[RL] at hrl
      | cons v1 vs =>
        rw[hq] at hrl;cases vs with
        | nil=>simp[RL] at hrl
        | cons v2 vs2 =>
          cases vs2 with
          | cons _ _=>simp[RL] at hrl
          | nil =>
            simp only[RL,R,and_true] at hrl;obtain⟨rfl,rfl⟩:=hrl;have ha:args.map a.eval=#[.string ⟨s.toArray⟩,.int .u8 n]:=two_of (by simpa using hq);refine wp_val hs (v:=.int .i64 (findB s n.toNat.toUInt8)) (x:=.int .i64 (findB s n.toNat.toUInt8)) ?_ (by simp only[R]) h;have hrun:=run_callFunc_extern (P:=P) hf (by rw[hn];decide) hc.1 q1 q2 #[.string ⟨s.toArray⟩,.int .u8 n] E.w;rw[Lib.run_indexByteString] at hrun;simp[execOp,ho,resolve,Act.eval,Deferred.ofValue,invoke,ha,hrun,findB_lib,Result.andThen]
def lowOpB (P:Program) (h:List Nat) (o:Oper):AOp :=
  match (match o.dst with | some d=>if h.contains (d+100000)=true then lowOwn2 P o else none | none=>none) with
  | some x=>x
  | none => match (match lowExt P o with | some x => some x | none => lowOpH P h o) with
    | some x=>x
    | none => match lowMore P o with
      | some x=>x
      | none=>.own .bad []
theorem low_soundB {h:List Nat} (hs:SRel E st a) (hk:(lowOpB P h o).sem P st K):o.wp P a E.w (Post E a o.dst K) Q:=by
  unfold lowOpB at hk;split at hk
  · rename_i x hx;split at hx
    · split at hx
      · exact own2_sound hx hs hk
      · simp at hx
    · simp at hx
  · split at hk
    · rename_i x hx;split at hx
      · rename_i y hy;simp only[Option.some.injEq] at hx;subst hx;exact ext_sound hy hs hk
      · exact low_soundH hx hs hk
    · split at hk
      · rename_i x hx;exact more_sound hx hs hk
      · simp only[AOp.sem,evs] at hk;unfold OQ.sem at hk;simp at hk
def lowAOH (P:Program) (h:List Nat) (ops:Array Oper) (o:Oper):Option AO :=
  match o.guard with
  | none=>some ⟨o.dst,lowOpB P h o,none⟩
  | some (j, want) =>
    match (ops[j]?).bind (·.dst) with
    | some g=>some ⟨o.dst,lowOpB P h o,some (g,want)⟩
    | none=>none
def lowListH (P:Program) (h:List Nat) (ops:Array Oper):List Oper→Option (List AO)
  | []=>some []
  | o::os=>(lowAOH P h ops o).bind fun x=>(lowListH P h ops os).map (x::·)
end
end Go.Am

namespace Go.Am
theorem run_range {P:Program} {t:TypeId} {s:ByteArray} {w:World} (h:P.underlying t=some .string):(Instr.range t (.string s)).run P w = .ok (.pointer (some ⟨w.heap.size,0,none⟩)) (w.alloc (.stringIter s 0)):=by
  simp[Instr.range,run_underlying h]
def setO (w:World) (b:Nat) (o:Obj):World:={w with heap:=w.heap.setIfInBounds b o}
theorem run_getIter {P:Program} {s:ByteArray} {b p:Nat} {w:World} (h:w.heap[b]?=some (.stringIter s p)):(getObj b).run P w = .ok (.stringIter s p) w:=by
  simp only[getObj,Sem.run,h]
theorem run_setIter {P:Program} {s:ByteArray} {b p:Nat} {o:Obj} {w:World} (h:w.heap[b]?=some (.stringIter s p)):(setObj b o).run P w = .ok () (setO w b o):=by
  simp only[setObj,Sem.run,h];rfl
theorem run_next_end {P:Program} {t:TypeId} {s:ByteArray} {b p:Nat} {w:World} (h:w.heap[b]?=some (.stringIter s p)) (hp:¬p<s.size):(Instr.next (.pointer (some ⟨b,0,none⟩)) true t).run P w = .ok (.tuple #[.bool false]) w:=by
  unfold Instr.next;simp only[Sem.run_bind,run_getIter h,Result.andThen,hp,if_false];rfl
theorem run_next {P:Program} {t:TypeId} {s:ByteArray} {b p:Nat} {w:World} (h:w.heap[b]?=some (.stringIter s p)) (hp:p<s.size) (hc:(s.get! p).toNat<128):(Instr.next (.pointer (some ⟨b,0,none⟩)) true t).run P w = .ok (.tuple #[.bool true,.int .i64 p,.int .i32 (s.get! p).toNat]) (setO w b (.stringIter s (p+1))):=by
  have hd:Utf8.decode s p=((s.get! p).toNat,1):=by simp[Utf8.decode,hc]
  unfold Instr.next;simp only[Sem.run_bind,run_getIter h,Result.andThen,hp,if_true,hd,run_setIter h];rfl
theorem setO_other {w:World} {b b' : Nat} {o:Obj} (h:b' ≠ b):(setO w b o).heap[b']?=w.heap[b']?:=by
  simp only[setO];rw[Array.getElem?_setIfInBounds];simp[Ne.symm h]
theorem setO_same {w:World} {b:Nat} {o o' : Obj} (h:w.heap[b]?=some o'):(setO w b o).heap[b]?=some o:=by
  obtain⟨h1,_⟩:=Array.getElem?_eq_some_iff.1 h;simp only[setO];rw[Array.getElem?_setIfInBounds];simp[h1]
theorem setO_size {w:World} {b:Nat} {o:Obj}:(setO w b o).heap.size=w.heap.size:=by simp[setO]
theorem setO_cell {w:World} {b b' i:Nat} {o:Obj} (h:b' ≠ b):(setO w b o).cell? ⟨b',i,none⟩=w.cell? ⟨b',i,none⟩:=by
  simp only[World.cell?,setO_other h]
def Env.setO (E:Env) (b:Nat) (o:Obj):Env:={E with w:=Go.Am.setO E.w b o}
theorem Env.setO_le {E:Env} {b:Nat} {o:Obj} (hr:E.role b = .hid):E.le (E.setO b o):=by
  refine⟨fun b' i c hc hv=>⟨hc,?_⟩,fun _ _ h=>h,fun t n h=>⟨n,h,Nat.le_refl _,fun _ b' c hb' => ⟨hb',fun cs e hcs=>⟨cs,?_,rfl⟩⟩⟩⟩
  · have hne:b' ≠ b:=fun e=>by rw[e,hr] at hc;exact hc
    exact(setO_cell hne).trans hv
  · have hne:b' ≠ b:=fun e=>by rw[e,hr] at hb';simp at hb'
    exact(setO_other hne).trans hcs
theorem SRel.setO {E:Env} {b:Nat} {o:Obj} {st:St} {a:Act} (hr:E.role b = .hid) (hs:SRel E st a):SRel (E.setO b o) st a:=by
  have hle:=Env.setO_le (o:=o) hr;refine⟨⟨fun b' cs h=>?_,hs.ok.tip,fun b' h=>hs.ok.fresh b' (by rw[←setO_size (b:=b) (o:=o)];exact h),hs.ok.nt,fun b cs hc=>RAs.mono _ hle.nl (hs.ok.con b cs hc)⟩,⟨fun i cs h=>?_,hs.okL.none⟩,hs.defers,RL.mono _ hle hs.slot⟩
  · obtain⟨h1,h2⟩:=hs.ok.box b' cs h;have hne:b' ≠ b:=fun e=>by rw[e,hr] at h1;simp at h1
    exact⟨h1,BoxAt.mono hle.nl (setO_other hne) h2⟩
  · obtain⟨b',h1,h2,h3⟩:=hs.okL.box i cs h;have hne:b' ≠ b:=fun e=>by rw[e,hr] at h2;simp at h2
    exact⟨b',h1,h2,BoxAt.mono hle (setO_other hne) h3⟩
theorem Fr.setO {E0 E:Env} {b:Nat} {s:ByteArray} {p q:Nat} (hf:Fr E0 E) (hr:E.role b = .hid) (hn:E0.w.heap.size≤b) (hb:E.w.heap[b]?=some (.stringIter s p)):Fr E0 (E.setO b (.stringIter s q)):=by
  refine⟨hf.os,hf.output,hf.tape,by rw[show (E.setO b (.stringIter s q)).w.heap.size=E.w.heap.size from setO_size];exact hf.size,fun a=>?_,fun b' i c hc hv=>?_,fun t n h=>?_,fun b' hlt h=>?_,hf.backB,hf.backL,hf.backI,fun b' c e h=>by
    obtain⟨c',h1,h2⟩:=hf.shape b' c e h;have hne:b' ≠ b:=fun e=>by rw[e,hb] at h1;simp at h1
    exact⟨c',(setO_other hne).trans h1,h2⟩⟩
  · rw[←hf.frz a]
    by_cases e:a.block=b
    · have e1:(E.setO b (.stringIter s q)).w.heap[a.block]?=some (.stringIter s q):=by rw[e];exact setO_same hb
      rw[←e] at hb;simp only[World.frozen?,e1,hb]
    · simp only[World.frozen?,show (E.setO b (.stringIter s q)).w.heap[a.block]?=E.w.heap[a.block]? from setO_other e]
  · obtain⟨h1,h2⟩:=hf.cell b' i c hc hv;have hne:b' ≠ b:=fun e=>by rw[e,hr] at h1;exact h1
    exact⟨h1,(setO_cell hne).trans h2⟩
  · obtain⟨n',h1,h2,h3⟩:=hf.tok t n h;refine⟨n',h1,h2,fun e b' c hb' => ?_⟩;obtain⟨h4,h5⟩:=h3 e b' c hb';refine⟨h4,fun cs e' hcs=>?_⟩;obtain⟨cs',h6,h7⟩:=h5 cs e' hcs;have hne:b' ≠ b:=fun e=>by rw[e,hr] at h4;simp at h4
    exact⟨cs',(setO_other hne).trans h6,h7⟩
  · obtain⟨h1,h2⟩:=hf.same b' hlt h;have hne:b' ≠ b:=by omega
    exact⟨(setO_other hne).trans h1,h2⟩
def Env.newI (E:Env) (o:Obj):Env:={w:=E.w.alloc o,role:=fun b=>if b=E.w.heap.size then .hid else E.role b,loc:=E.loc,tip:=E.tip}
theorem newI_spec {E:Env} {st:St} {a:Act} {s:ByteArray} {p:Nat} (hs:SRel E st a):Fr E (E.newI (.stringIter s p))∧SRel (E.newI (.stringIter s p)) st a∧(E.newI (.stringIter s p)).role E.w.heap.size = .hid∧(E.newI (.stringIter s p)).w.heap[E.w.heap.size]?=some (.stringIter s p):=by
  have hold:∀b,b<E.w.heap.size→(E.newI (.stringIter s p)).w.heap[b]?=E.w.heap[b]?:=fun b hb=>heap_alloc_old E.w (.stringIter s p) hb
  have hrole:∀b,b<E.w.heap.size→(E.newI (.stringIter s p)).role b=E.role b:=fun b hb=>by simp only[Env.newI];rw[if_neg (by omega)]
  have hnew:(E.newI (.stringIter s p)).w.heap[E.w.heap.size]?=some (.stringIter s p):=heap_alloc_new E.w _;have hcell:∀b i c,E.w.cell? ⟨b,i,none⟩=some c→b<E.w.heap.size:=fun b i c h=>by
    simp only[World.cell?] at h;split at h
    · rename_i h1;exact(Array.getElem?_eq_some_iff.1 h1).1
    · simp at h
  have hcc:∀b i,b<E.w.heap.size→(E.newI (.stringIter s p)).w.cell? ⟨b,i,none⟩=E.w.cell? ⟨b,i,none⟩:=fun b i hb=>by simp only[World.cell?,hold b hb]
  have hfr:Fr E (E.newI (.stringIter s p)):=by
    refine⟨rfl,rfl,rfl,by simp[Env.newI],fun a=>?_,fun b i c hc hv=>?_,fun t n h=>⟨n,h,Nat.le_refl _,fun _ b c hb=>?_⟩,fun b hb _=>⟨hold b hb,hrole b hb⟩,fun b hb h=>?_,fun b t c hb h=>?_,fun b i hb h=>?_,fun b c e h=>⟨c,(hold b (lt_of_heap h)).trans h,rfl⟩⟩
    · by_cases h:a.block<E.w.heap.size
      · simp only[World.frozen?,hold _ h]
      · by_cases h2:a.block=E.w.heap.size
        · have e2:E.w.heap[a.block]?=none:=by simp;omega
          rw[←h2] at hnew;simp only[World.frozen?,hnew,e2]
        · have e2:E.w.heap[a.block]?=none:=by simp;omega
          have e1:(E.newI (.stringIter s p)).w.heap[a.block]?=none:=by simp[Env.newI];omega
          simp only[World.frozen?,e1,e2]
    · have hb:=hcell b i c hv;exact⟨by rw[hrole b hb];exact hc,(hcc b i hb).trans hv⟩
    · by_cases hlt:b<E.w.heap.size
      · exact⟨(hrole b hlt).trans hb,fun cs e hcs=>⟨cs,(hold b hlt).trans hcs,rfl⟩⟩
      · have:=hs.ok.fresh b (by omega)
        rw[this] at hb;simp at hb
    · rw[hrole b hb] at h;exact .inl h
    · rw[hrole b hb] at h;exact⟨c,h⟩
    · rw[hrole b hb] at h;exact⟨i,h⟩
  have hle:E.le (E.newI (.stringIter s p)):=hfr.le fun i b h=>h
  refine⟨hfr,⟨⟨fun b cs h=>?_,hs.ok.tip,fun b hb=>?_,hs.ok.nt,fun b cs hc=>RAs.mono _ hfr.nl (hs.ok.con b cs hc)⟩,⟨fun i cs h=>?_,hs.okL.none⟩,hs.defers,RL.mono _ hle hs.slot⟩,by simp[Env.newI],hnew⟩
  · obtain⟨h1,h2⟩:=hs.ok.box b cs h;have hlt:b<E.w.heap.size:=by obtain⟨c,e,h3,_⟩:=h2;exact lt_of_heap (w:=E.w) h3
    exact⟨by rw[hrole b hlt];exact h1,BoxAt.mono hle.nl (hold b hlt) h2⟩
  · have hb' : E.w.heap.size+1≤b:=by simpa [Env.newI] using hb
    simp only[Env.newI];rw[if_neg (by omega)];exact hs.ok.fresh b (by omega)
  · obtain⟨b,h1,h2,h3⟩:=hs.okL.box i cs h;have hlt:b<E.w.heap.size:=by obtain⟨c,e,h4,_⟩:=h3;exact lt_of_heap (w:=E.w) h4
    exact⟨b,h1,by rw[hrole b hlt];exact h2,BoxAt.mono hle (hold b hlt) h3⟩
end Go.Am

namespace Go.Am
def varA (o:Oper):Option (Nat × TypeId):=match o.op,o.dst,o.guard with | .alloc t,some d,none=>some (d,t) | _,_,_=>none
def varS (o:Oper):Option (Nat × TypeId × Operand):=match o.op,o.dst,o.guard with | .store t (.tmp d) x,none,none=>some (d,t,x) | _,_,_=>none
theorem varA_spec {o:Oper} {d:Nat} {t:TypeId} (h:varA o=some (d,t)):o.op = .alloc t∧o.dst=some d∧o.guard=none:=by
  unfold varA at h;split at h
  · rename_i h1 h2 h3;simp only[Option.some.injEq,Prod.mk.injEq] at h;obtain⟨rfl,rfl⟩:=h;exact⟨h1,h2,h3⟩
  · simp at h
theorem varS_spec {o:Oper} {d:Nat} {t:TypeId} {x:Operand} (h:varS o=some (d,t,x)):o.op = .store t (.tmp d) x∧o.dst=none∧o.guard=none:=by
  unfold varS at h;split at h
  · rename_i h1 h2 h3;simp only[Option.some.injEq,Prod.mk.injEq] at h;obtain⟨rfl,rfl,rfl⟩:=h;exact⟨h1,h2,h3⟩
  · simp at h
def isVar (ops:Array Oper) (d:Nat) (t:TypeId):Bool:=ops.toList.any fun o=>match varA o with | some (d',t')=>d' == d&&t' == t | none=>false
def lowAOA (P:Program) (ops:Array Oper) (o:Oper):Option AO :=
  match varA o with
  | some (_,t)=>match zeroC P t,sizeV P t with | some z,some n=>if z.length=n then some ⟨none,.mv (.c .any),none⟩ else none | _,_=>none
  | none =>
    match varS o with
    | some (d,t,x)=>if isVar ops d t=true then (match sizeV P t,lowX P t x with | some n,some y=>some ⟨some d,.boxS n y,none⟩ | _,_=>none) else lowAO P ops o
    | none=>lowAO P ops o
def lowListA (P:Program) (ops:Array Oper):List Oper→Option (List AO)
  | []=>some []
  | o::os=>(lowAOA P ops o).bind fun x=>(lowListA P ops os).map (x::·)
def chkA (ops:Array Oper) (b:List Nat):Bool :=
  ops.toList.zipIdx.all fun (o,i)=>match varA o with
    | some (d,t)=>(ops.toList.zipIdx.any fun (o',j)=>match varS o' with | some (d',t',_)=>d' == d&&t' == t&&(b.getD j 0).testBit i | none=>false) &&
        (ops.toList.zipIdx.all fun (o',j)=>i == j||match varA o' with | some (d',_)=>!(d' == d) | none=>true)
    | none=>true
def newVars (ops:Array Oper):List Nat:=ops.toList.filterMap fun o=>(varA o).map (·.1)
def lowDrawA (P:Program) (ops:Array Oper):Option (List Nat × List (AO × List Nat)) :=
  match lowListA P ops ops.toList with
  | none=>none
  | some l0 =>
    let b:=masks ops.toList []
    let d:=List.zipWith diOf (l0.map fun o=>(o,[])) b
    let l:=(l0.zip d).zipIdx.map fun ((o,x),i)=>(o,if o.op.isLoad then ((List.range (hiOf d i+1 - loOf d x)).map (loOf d x+·)).filter (· != nowOf d i) else [])
    if drawChk ops l b=true∧P.follows .mixedOrders=true∧chkA ops b=true then some (newVars ops,l) else none
theorem lowListA_get {P:Program} {ops:Array Oper}:∀{os:List Oper} {l:List AO},lowListA P ops os=some l→l.length=os.length∧∀i:Nat,∀o,os[i]?=some o→∃x,l[i]?=some x∧lowAOA P ops o=some x
  | [],l,h=>by simp only[lowListA,Option.some.injEq] at h;subst h;exact⟨rfl,fun i o h=>by simp at h⟩
  | o :: os, l, h => by
    simp only[lowListA,Option.bind_eq_some_iff,Option.map_eq_some_iff] at h;obtain⟨x,h1,l',h2,rfl⟩:=h;obtain⟨h3,h4⟩:=lowListA_get h2;refine⟨by simp[h3],fun i q hq=>?_⟩;cases i with
    | zero=>simp at hq;subst hq;exact⟨x,by simp,h1⟩
    | succ i=>simp at hq;obtain⟨y,k1,k2⟩:=h4 i q hq;exact⟨y,by simpa using k1,k2⟩
structure FactsA (ops:Array Oper) (b:List Nat):Prop where
  st:∀(i:Nat) o d t,ops[i]?=some o→varA o=some (d,t)→∃(j:Nat) (o' : Oper) (x:Operand),ops[j]?=some o' ∧ varS o' = some (d,t,x)∧(b.getD j 0).testBit i=true
  uniq:∀(i j:Nat) o o' d t t',ops[i]?=some o→ops[j]?=some o' → varA o=some (d,t)→varA o' = some (d,t')→i=j
theorem factsA {ops:Array Oper} {b:List Nat} (h:chkA ops b=true):FactsA ops b:=by
  unfold chkA at h;rw[List.all_eq_true] at h;have mem:∀(i:Nat) o,ops[i]?=some o→(o,i)∈ops.toList.zipIdx:=fun i o ho=>by
    rw[List.mem_zipIdx_iff_getElem?];simpa using ho
  refine⟨fun i o d t ho hv=>?_,fun i j o o' d t t' ho ho' hv hv' => ?_⟩
  · have:=h _ (mem i o ho)
    simp only[hv,Bool.and_eq_true,List.any_eq_true] at this;obtain⟨⟨q,hq,h1⟩,_⟩:=this;obtain⟨o',j⟩:=q;simp only at h1;split at h1
    · rename_i d' t' x hv';simp only[Bool.and_eq_true,beq_iff_eq] at h1;obtain⟨⟨rfl,rfl⟩,h2⟩:=h1;rw[List.mem_zipIdx_iff_getElem?] at hq;exact⟨j,o',x,by simpa using hq,hv',h2⟩
    · simp at h1
  · have:=h _ (mem i o ho)
    simp only[hv,Bool.and_eq_true,List.all_eq_true] at this;have h2:=this.2 _ (mem j o' ho');simp only[hv',Bool.or_eq_true,beq_iff_eq,Bool.not_eq_true'] at h2
    rcases h2 with h2 | h2
    · exact h2
    · simp at h2
theorem lowDrawA_spec {P:Program} {ops:Array Oper} {nv:List Nat} {l:List (AO × List Nat)} (h:lowDrawA P ops=some (nv,l)) :
    ∃b,Facts ops l b∧b.length=ops.size∧P.follows .mixedOrders=true∧FactsA ops b∧nv=newVars ops∧∀(i:Nat) o,ops[i]?=some o→∃x:AO × List Nat,l[i]?=some x∧lowAOA P ops o=some x.1:=by
  unfold lowDrawA at h;cases h0:lowListA P ops ops.toList with
  | none=>rw[h0] at h;simp at h
  | some l0 =>
  rw[h0] at h;simp only at h;split at h
  case isFalse=>simp at h
  rename_i hc;simp only[Option.some.injEq,Prod.mk.injEq] at h;obtain⟨rfl,rfl⟩:=h;refine⟨_,facts hc.1,?_,hc.2.1,factsA hc.2.2,rfl,fun i o ho=>?_⟩
  · have:=hc.1
    unfold drawChk at this;simp only[Bool.and_eq_true,decide_eq_true_eq] at this;exact this.1.1.2
  · have hlen:=(facts hc.1).size;obtain⟨h1,h2⟩:=lowListA_get h0;obtain⟨x,k1,k2⟩:=h2 i o (by simpa using ho);have hlt:=(Array.getElem?_eq_some_iff.1 ho).1;generalize hL:(l0.zip (List.zipWith diOf (l0.map fun o=>(o,[])) (masks ops.toList [])))=z at hlen ⊢;have hz:i<z.length:=by simp at hlen;omega
    refine⟨_,by rw[List.getElem?_map,List.getElem?_zipIdx,List.getElem?_eq_getElem hz];rfl,?_⟩
    have:z[i].1=x:=by
      have e:z[i]?=some z[i]:=List.getElem?_eq_getElem hz;subst hL;rw[List.getElem?_zip_eq_some] at e;rw[k1] at e;exact(Option.some.inj e.1).symm
    simpa [this] using k2
def Env.newH (E:Env) (c:Array Value) (t:TypeId):Env:={w:=E.w.alloc (.cells c t),role:=fun b=>if b=E.w.heap.size then .hid else E.role b,loc:=E.loc,tip:=E.tip}
theorem newH_spec {E:Env} {st:St} {a:Act} {c:Array Value} {t:TypeId} (hs:SRel E st a):Fr E (E.newH c t)∧SRel (E.newH c t) st a:=by
  have hx:=(Ext.refl E.w).alloc c t;have hold:∀b,b<E.w.heap.size→(E.newH c t).w.heap[b]?=E.w.heap[b]?:=fun b hb=>hx.block b hb
  have hrole:∀b,b<E.w.heap.size→(E.newH c t).role b=E.role b:=fun b hb=>by simp only[Env.newH];rw[if_neg (by omega)]
  have hfr:Fr E (E.newH c t):=fr_ext hs.ok.fresh hx hrole fun _ _ h=>h
  have hle:E.le (E.newH c t):=hfr.le fun _ _ h=>h
  refine⟨hfr,ok_keep hs.ok hfr.nl (fun b h hb=>⟨by rw[hrole b hb];exact h,hold b hb⟩) (fun _ _ h=>h) (fun b hb=>?_) hs.ok.nt,
    okL_keep hs.okL hle (fun b i h hb=>⟨by rw[hrole b hb];exact h,hold b hb⟩) hs.okL.none,hs.defers,RL.mono _ hle hs.slot⟩
  have hb' : E.w.heap.size+1≤b:=by simpa [Env.newH] using hb
  simp only[Env.newH];rw[if_neg (by omega)];exact hs.ok.fresh b (by omega)
theorem set_any {t:List V} {d:Nat} (h:t.getD d .any = .any):t.set d .any=t:=by
  by_cases hd:d<t.length
  · have:t[d] = .any:=by simpa [List.getD,hd] using h
    rw[←this];simp
  · exact List.set_eq_of_length_le (by omega)
def Env.bare (E:Env) (b k:Nat) (new:Array Value):Env :=
  {w:=E.w.setRow b new,role:=fun x=>if x=b then .lbox k else E.role x,loc:=fun i=>if i=k then some b else E.loc i,tip:=E.tip}
theorem bare_spec {E0 E:Env} {st:St} {a:Act} {b:Nat} {c:Array Value} {e:TypeId} (hs:SRel E st a) (hf:Fr E0 E) (hr:E.role b = .hid) (hn:E0.w.heap.size≤b) (hb:E.w.heap[b]?=some (.cells c e (0,0))) {cs:List V} {vs:List Value} (hv:RL E cs vs)
    {d:Nat} (hd:a.tmps[d]?=some (.pointer (some ⟨b,0,none⟩))) :
    Fr E0 (E.bare b st.loc.length vs.toArray)∧SRel (E.bare b st.loc.length vs.toArray) ⟨st.t.set d (.ptr (.loc st.loc.length) 0),st.loc++[cs],st.out⟩ a:=by
  generalize hE:E.bare b st.loc.length vs.toArray=E';have hother:∀b',b' ≠ b→E'.w.heap[b']?=E.w.heap[b']?:=fun b' hne=>by rw[←hE];exact setRow_other E.w b b' _ hne
  have hsame:E'.w.heap[b]?=some (.cells vs.toArray e (0,0)):=by rw[←hE];exact setRow_heap E.w b c _ e _ hb
  have hro:∀b',b' ≠ b→E'.role b' = E.role b' := fun b' hne=>by rw[←hE];simp only[Env.bare];rw[if_neg hne]
  have hrb:E'.role b = .lbox st.loc.length:=by rw[←hE];simp[Env.bare]
  have hsz:E'.w.heap.size=E.w.heap.size:=by rw[←hE];simp[Env.bare]
  have hlo:∀i,i≠st.loc.length→E'.loc i=E.loc i:=fun i hi=>by rw[←hE];simp only[Env.bare];rw[if_neg hi]
  have hlk:E'.loc st.loc.length=some b:=by rw[←hE];simp[Env.bare]
  have hnone:E.loc st.loc.length=none:=hs.okL.none _ (Nat.le_refl _);have htip:E'.tip=E.tip:=by rw[←hE];rfl
  have hcell:∀b' o',b' ≠ b→E'.w.cell? ⟨b',o',none⟩=E.w.cell? ⟨b',o',none⟩:=fun b' o' hne=>by simp only[World.cell?,hother b' hne]
  have hfz:∀x,E'.w.frozen? x=E.w.frozen? x:=fun x=>by rw[←hE];exact frozen_setRow hb x
  have hle:E.le E' := by
    refine⟨fun b' o' c' hc hv=>?_,fun i b' h=>?_,fun t n h=>⟨n,by rw[htip];exact h,Nat.le_refl _,fun _ b' c' hb' => ?_⟩⟩
    · have hne:b' ≠ b:=fun e=>by rw[e,hr] at hc;exact hc
      exact⟨by rw[hro b' hne];exact hc,(hcell b' o' hne).trans hv⟩
    · rw[hlo i (fun e=>by rw[e,hnone] at h;simp at h)];exact h
    · have hne:b' ≠ b:=fun e=>by rw[e,hr] at hb';simp at hb'
      exact⟨by rw[hro b' hne];exact hb',fun cs' e' hcs=>⟨cs',(hother b' hne).trans hcs,rfl⟩⟩
  refine⟨⟨?_,?_,?_,by rw[hsz];exact hf.size,fun x=>(hfz x).trans (hf.frz x),fun b' o' c' hc hv=>?_,fun t n h=>?_,fun b' hlt h=>?_,fun b' hlt h=>?_,fun b' t c' hlt h=>?_,fun b' i hlt h=>?_,fun b' c' e' h=>by
    have hlt:=lt_of_heap (w:=E0.w) h;have hne:b' ≠ b:=by omega
    obtain⟨c1,h1,h2⟩:=hf.shape b' c' e' h;exact⟨c1,(hother b' hne).trans h1,h2⟩⟩,⟨⟨fun b' ds h=>?_,fun t n h=>by rw[htip];exact hs.ok.tip t n h,fun b' h=>?_,by rw[htip];exact hs.ok.nt,fun b cs hc=>RAs.mono _ hle.nl (hs.ok.con b cs hc)⟩,⟨fun i ds h=>?_,fun i hi=>?_⟩,hs.defers,?_⟩⟩
  · rw[←hf.os,←hE];rfl
  · rw[←hf.output,←hE];rfl
  · rw[←hf.tape,←hE];rfl
  · obtain⟨h1,h2⟩:=hf.cell b' o' c' hc hv;have hne:b' ≠ b:=fun e=>by rw[e,hr] at h1;exact h1
    exact⟨by rw[hro b' hne];exact h1,(hcell b' o' hne).trans h2⟩
  · obtain⟨n',h1,h2,h3⟩:=hf.tok t n h;refine⟨n',by rw[htip];exact h1,h2,fun e b' c' hb' => ?_⟩;obtain⟨h4,h5⟩:=h3 e b' c' hb';have hne:b' ≠ b:=fun e=>by rw[e,hr] at h4;simp at h4
    refine⟨by rw[hro b' hne];exact h4,fun cs' e' hcs=>?_⟩;obtain⟨cs2,h6,h7⟩:=h5 cs' e' hcs;exact⟨cs2,(hother b' hne).trans h6,h7⟩
  · obtain⟨h1,h2⟩:=hf.same b' hlt h;have hne:b' ≠ b:=by omega
    exact⟨(hother b' hne).trans h1,(hro b' hne).trans h2⟩
  · have hne:b' ≠ b:=by omega
    rw[hro b' hne] at h;exact hf.backB b' hlt h
  · have hne:b' ≠ b:=by omega
    rw[hro b' hne] at h;exact hf.backL b' t c' hlt h
  · have hne:b' ≠ b:=by omega
    rw[hro b' hne] at h;exact hf.backI b' i hlt h
  · obtain⟨h1,h2⟩:=hs.ok.box b' ds h;have hne:b' ≠ b:=fun e=>by rw[e,hr] at h1;simp at h1
    exact⟨by rw[hro b' hne];exact h1,BoxAt.mono hle.nl (hother b' hne) h2⟩
  · rw[hsz] at h;have hlt:b<E.w.heap.size:=lt_of_heap hb;rw[hro b' (by omega)];exact hs.ok.fresh b' h
  · by_cases hi:i=st.loc.length
    · subst hi;simp only[List.getElem?_concat_length,Option.some.injEq] at h;subst h;refine⟨b,hlk,hrb,vs.toArray,e,hsame,by have:=RL_length hv;simp;omega,fun j x hj=>?_⟩;obtain⟨u,h1,h2⟩:=RL_get hv j x hj;exact⟨u,by simpa using h1,h2.mono _ hle⟩
    · have hlt:i<st.loc.length:=by
        have:=(List.getElem?_eq_some_iff.1 h).1
        simp at this;omega
      rw[List.getElem?_append_left hlt] at h;obtain⟨b',h1,h2,h3⟩:=hs.okL.box i ds h;have hne:b' ≠ b:=fun e=>by rw[e,hr] at h2;simp at h2
      exact⟨b',by rw[hlo i hi];exact h1,by rw[hro b' hne];exact h2,BoxAt.mono hle (hother b' hne) h3⟩
  · simp at hi;rw[hlo i (by omega)];exact hs.okL.none i (by omega)
  · have h1:=RL.mono _ hle hs.slot;have hp:R E' (.ptr (.loc st.loc.length) 0) (.pointer (some ⟨b,0,none⟩)):=by simp only[R];exact⟨b,hlk,rfl⟩
    have h2:=RL_set h1 d hp
    have:a.tmps.toList.set d (.pointer (some ⟨b,0,none⟩))=a.tmps.toList:=by
      have hlt:=(Array.getElem?_eq_some_iff.1 hd).1
      have:a.tmps.toList[d]'(by simpa using hlt) = .pointer (some ⟨b,0,none⟩):=by
        have:=(Array.getElem?_eq_some_iff.1 hd).2;simpa using this
      rw[←this];exact List.set_getElem_self (by simpa using hlt)
    rw[this] at h2;exact h2
section
variable {P:Program} {ops:Array Oper} {l:List (AO × List Nat)} {b:List Nat}
def Pend (P:Program) (ops:Array Oper) (N:Nat) (E0:Env) (listed:Array Bool) (E:Env) (a:Act):Prop :=
  a.tmps.size=N∧∃B:Nat→Nat,∀(i:Nat) o d t,ops[i]?=some o→varA o=some (d,t)→listed.getD i false=true→(∀(j:Nat) o' x,ops[j]?=some o' → varS o' = some (d,t,x)→listed.getD j false=false) →
    a.tmps[d]?=some (.pointer (some ⟨B i,0,none⟩))∧E.role (B i) = .hid∧(∃c e,E.w.heap[B i]?=some (.cells c e (0,0))∧sizeV P t=some c.size)∧E0.w.heap.size≤B i ∧
    ∀(i' : Nat) o' d' t',ops[i']?=some o' → varA o' = some (d',t')→listed.getD i' false=true→(∀(j:Nat) o' x,ops[j]?=some o' → varS o' = some (d',t',x)→listed.getD j false=false)→i≠i' → B i≠B i'
theorem set_getD {listed:Array Bool} {i j:Nat} (h:i<listed.size):(listed.setIfInBounds i true).getD j false=(decide (j=i)||listed.getD j false):=by
  by_cases hji:j=i
  · subst hji;simp[h]
  · rw[Array.getD_eq_getD_getElem?,Array.getElem?_setIfInBounds_ne (Ne.symm hji),←Array.getD_eq_getD_getElem?];simp[hji]
theorem lowAOA_spec {o:Oper} {x:AO} (h:lowAOA P ops o=some x):(∃d t z n,varA o=some (d,t)∧zeroC P t=some z∧sizeV P t=some n∧z.length=n∧x=⟨none,.mv (.c .any),none⟩) ∨
    (∃d t y n q,varS o=some (d,t,y)∧isVar ops d t=true∧sizeV P t=some n∧lowX P t y=some q∧x=⟨some d,.boxS n q,none⟩)∨(lowAO P ops o=some x∧varA o=none∧∀d t y,varS o=some (d,t,y)→isVar ops d t=false):=by
  unfold lowAOA at h;split at h
  · rename_i d t hv;split at h
    · rename_i z n hz hn;split at h
      · rename_i hl;simp only[Option.some.injEq] at h;exact .inl ⟨d,t,z,n,hv,hz,hn,hl,h.symm⟩
      · simp at h
    · simp at h
  · rename_i hv;split at h
    · rename_i d t y hs;split at h
      · rename_i hi;split at h
        · rename_i n q hn hq;simp only[Option.some.injEq] at h;exact .inr (.inl ⟨d,t,y,n,q,hs,hi,hn,hq,h.symm⟩)
        · simp at h
      · rename_i hi;exact .inr (.inr ⟨h,hv,fun d' t' y' e=>by rw[hs] at e;simp only[Option.some.injEq,Prod.mk.injEq] at e;obtain⟨rfl,rfl,_⟩:=e;simpa using hi⟩)
    · rename_i hs;exact .inr (.inr ⟨h,hv,fun d t y e=>by rw[hs] at e;simp at e⟩)
theorem drawA_sound {nv:List Nat} {id:Nat} (hl:lowDrawA P ops=some (nv,l)) {K:St→Prop} {st:St} (hnv:∀d∈nv,d<st.t.length∧st.t.getD d .any = .any) (h:vcD P l [(st.loc,st.out)] [] K st) :
    pwp P (.region id ops true) (fun e st' => e = .normal∧K st') st:=by
  obtain⟨b,F,hbl,hf,FA,rfl,hlow⟩:=lowDrawA_spec hl;intro E0 a0 hs0;have hlsz:=F.size
  -- what a pair of a new variable and its store is like
  have hpairl:∀(i:Nat) o d t,ops[i]?=some o→varA o=some (d,t)→isVar ops d t=true:=fun i o d t ho hv=>by
    unfold isVar;rw[List.any_eq_true];exact⟨o,by simpa using Array.mem_of_getElem? ho,by simp[hv]⟩
  have hofVar:∀d t,isVar ops d t=true→∃(i:Nat) (o:Oper),ops[i]?=some o∧varA o=some (d,t):=fun d t h=>by
    unfold isVar at h;rw[List.any_eq_true] at h;obtain⟨o,h1,h2⟩:=h;split at h2
    · rename_i d' t' hv;simp only[Bool.and_eq_true,beq_iff_eq] at h2;obtain⟨rfl,rfl⟩:=h2;obtain⟨i,hi⟩:=List.mem_iff_getElem?.1 h1;exact⟨i,o,by simpa using hi,hv⟩
    · simp at h2
  -- a store that is one of these has the variable's slot
  have hsto:∀(j:Nat) o d t x,ops[j]?=some o→varS o=some (d,t,x)→isVar ops d t=true→∃y:AO × List Nat,l[j]?=some y∧y.1.dst=some d:=fun j o d t x ho hv hi=>by
    obtain⟨y,h1,h2⟩:=hlow j o ho
    rcases lowAOA_spec h2 with ⟨d',t',z,n,k1,_⟩ | ⟨d',t',y',n,q,k1,_,_,_,k2⟩ | ⟨_,_,k3⟩
    · obtain⟨e1,_⟩:=varA_spec k1;obtain⟨e2,_⟩:=varS_spec hv;rw[e1] at e2;simp at e2
    · rw[hv] at k1;simp only[Option.some.injEq,Prod.mk.injEq] at k1;obtain⟨rfl,_⟩:=k1;exact⟨y,h1,by rw[k2]⟩
    · rw[k3 d t x hv] at hi;simp at hi
  refine draw_soundX (X:=Pend P ops a0.tmps.size E0) F hbl hf h hs0 (fun E' => ⟨rfl,fun _=>0,fun i o d t _ _ hl' => by
    exfalso
    by_cases hj:i<ops.size<;>simp[hj] at hl'⟩) fun i o ho=>?_
  obtain⟨x,hx,hxo⟩:=hlow i o ho;have hisz:i<ops.size:=(Array.getElem?_eq_some_iff.1 ho).1;refine⟨x,hx,?_⟩
  rcases lowAOA_spec hxo with ⟨d,t,z,n,hv,hz,hn,hzn,hxe⟩ | ⟨d,t,y,n,q,hv,hvar,hn,hq,hxe⟩ | ⟨hgen,hva,hvs⟩
  · -- a variable is made
    right;obtain⟨v1,v2,v3⟩:=varA_spec hv;obtain⟨iz,zv,z1,z2,z3,z4⟩:=zeroC_spec hz;refine⟨v3,by rw[hxe],fun E a t' s v s' listed Q hli hun hbef haft hsame hs hfr hX hsem=>?_⟩;rw[hxe] at hsem ⊢;obtain⟨rfl,hsem⟩:=hsem;obtain rfl:s=s' := by have:=congrArg (fun q:St=>(q.loc,q.out)) hsem;simp only[mkSt,Prod.mk.injEq] at this;exact Prod.ext this.1 this.2
    simp only[putT];have hdn:d∈newVars ops:=by unfold newVars;rw[List.mem_filterMap];exact⟨o,by simpa using Array.mem_of_getElem? ho,by simp[hv]⟩
    have hany:t'.getD d .any = .any:=by
      rw[hsame d fun j y hy hyd=>?_]
      · exact(hnv d hdn).2
      · obtain⟨j0,o0,x0,k1,k2,k3⟩:=FA.st i o d t ho hv;obtain⟨y0,k4,k5⟩:=hsto j0 o0 d t x0 k1 k2 (hpairl i o d t ho hv)
        have:j=j0:=by
          rcases Nat.decEq j j0 with hne | he
          · exact absurd hyd (F.dst j j0 y y0 hy k4 hne d k5)
          · exact he
        subst this;exact haft j (by rw[hbl];exact(Array.getElem?_eq_some_iff.1 k1).1) k3
    obtain⟨hfr',hs'⟩:=newH_spec (c:=zv.cells) (t:=t) hs;have hrun:(execOp a.eval o).run P E.w = .ok (.value (.pointer (some ⟨E.w.heap.size,0,none⟩))) (E.w.alloc (.cells zv.cells t)):=by
      simp[execOp,v1,Instr.alloc,zeroValue,typeInfo,z1,z2,newVar,newRow]
    unfold Oper.wp;rw[hrun];simp only[Oper.upon,v2];refine⟨E.newH zv.cells t,rfl,?_,hfr.trans hfr',?_⟩
    · have:=SRel.put hs' (v:=.any) (x:=.pointer (some ⟨E.w.heap.size,0,none⟩)) (by simp[R]) (some d)
      rw[put_putT] at this;simp only[putT,set_any hany] at this;exact this
    · obtain⟨hN,B,hB⟩:=hX;have hnew:(E.newH zv.cells t).w.heap[E.w.heap.size]?=some (.cells zv.cells t (0,0)):=heap_alloc_new E.w _;have hzs:zv.cells.size=n:=by have:=RL_length (cvL_RL (E:=E) z3);rw[←hzn];simp at this;omega
      refine⟨by simp[Act.put,hN],fun k=>if k=i then E.w.heap.size else B k,fun k o' d' t'' ho' hv' hl' hst=>?_⟩;have hst' : ∀(j:Nat) o' x,ops[j]?=some o' → varS o' = some (d',t'',x)→listed.getD j false=false:=fun j o2 x2 h1 h2=>by
        have:=hst j o2 x2 h1 h2
        rw[set_getD hli] at this;simp only[Bool.or_eq_false_iff] at this;exact this.2
      rw[set_getD hli] at hl'
      by_cases hki:k=i
      · subst hki;rw[ho] at ho';simp only[Option.some.injEq] at ho';subst ho';rw[hv] at hv';simp only[Option.some.injEq,Prod.mk.injEq] at hv';obtain⟨rfl,rfl⟩:=hv';simp only[if_true];have hdl:d<a.tmps.size:=by
          have:=(hnv d hdn).1
          have h0:=RL_length hs0.slot;simp at h0;omega
        refine⟨by simp[Act.put,hdl],by simp[Env.newH],⟨_,_,hnew,by rw[hzs];exact hn⟩,Nat.le_trans hfr.size (Nat.le_refl _),fun i' o' d' t' ho' hv' hl'' hst'' hne=>?_⟩;simp only[if_neg (Ne.symm hne)];have hst3:∀(j:Nat) o' x,ops[j]?=some o' → varS o' = some (d',t',x)→listed.getD j false=false:=fun j o2 x2 h1 h2=>by
          have:=hst'' j o2 x2 h1 h2
          rw[set_getD hli] at this;simp only[Bool.or_eq_false_iff] at this;exact this.2
        rw[set_getD hli] at hl'';have hl3:listed.getD i' false=true:=by simpa [Ne.symm hne] using hl''
        obtain⟨_,_,⟨c,e,hc,_⟩,_⟩:=hB i' o' d' t' ho' hv' hl3 hst3
        have:=lt_of_heap hc
        omega
      · simp only[if_neg hki];have hl2:listed.getD k false=true:=by simpa [hki] using hl'
        obtain⟨g1,g2,⟨c,e,g3,g4⟩,g5,g6⟩:=hB k o' d' t'' ho' hv' hl2 hst';have hlt:=lt_of_heap g3;have hdd:d' ≠ d:=fun e=>by subst e;exact hki (FA.uniq k i o' o d' t'' t ho' ho hv' hv)
        refine⟨by simp only[Act.put];rw[Array.getElem?_setIfInBounds_ne (Ne.symm hdd)];exact g1,by simp only[Env.newH];rw[if_neg (by omega)];exact g2,⟨c,e,((Ext.refl E.w).alloc zv.cells t).block _ hlt |>.trans g3,g4⟩,g5,fun i' o2 d2 t2 ho2 hv2 hl3 hst2 hne=>?_⟩;have hst3:∀(j:Nat) o' x,ops[j]?=some o' → varS o' = some (d2,t2,x)→listed.getD j false=false:=fun j o3 x3 h1 h2=>by
          have:=hst2 j o3 x3 h1 h2
          rw[set_getD hli] at this;simp only[Bool.or_eq_false_iff] at this;exact this.2
        by_cases hi' : i' = i
        · simp only[if_pos hi'];omega
        · simp only[if_neg hi'];rw[set_getD hli] at hl3;exact g6 i' o2 d2 t2 ho2 hv2 (by simpa [hi'] using hl3) hst3 hne
  · -- its first store
    right;obtain⟨v1,v2,v3⟩:=varS_spec hv;refine⟨v3,by rw[hxe],fun E a t' s v s' listed Q hli hun hbef haft hsame hs hfr hX hsem=>?_⟩;rw[hxe] at hsem ⊢;simp only[AOp.sem] at hsem;obtain⟨hwd,hone,rfl,hsem⟩:=hsem;obtain rfl:(s.1++[(ev (mkSt t' s) q).cells],s.2)=s' := by have:=congrArg (fun q:St=>(q.loc,q.out)) hsem;simp only[mkSt,Prod.mk.injEq] at this;exact Prod.ext this.1 this.2
    simp only[putT];obtain⟨i0,o0,k1,k2⟩:=hofVar d t hvar;obtain⟨j0,oj,xj,m1,m2,m3⟩:=FA.st i0 o0 d t k1 k2;have hij:j0=i:=by
      obtain⟨y0,k4,k5⟩:=hsto j0 oj d t xj m1 m2 hvar
      rcases Nat.decEq j0 i with hne | he
      · have:=F.dst i j0 x y0 hx k4 (Ne.symm hne) d k5
        rw[hxe] at this;exact absurd rfl this
      · exact he
    subst hij;rw[ho] at m1;simp only[Option.some.injEq] at m1;subst m1;have hstore:∀(j:Nat) o' x,ops[j]?=some o' → varS o' = some (d,t,x)→j=j0:=fun j o' x' h1 h2=>by
      obtain⟨y0,k4,k5⟩:=hsto j o' d t x' h1 h2 hvar
      rcases Nat.decEq j j0 with hne | he
      · have:=F.dst j0 j x y0 hx k4 (Ne.symm hne) d k5
        rw[hxe] at this;exact absurd rfl this
      · exact he
    obtain⟨hN,B,hB⟩:=hX;obtain⟨g1,g2,⟨c,e,g3,g4⟩,g5,g6⟩:=hB i0 o0 d t k1 k2 (hbef i0 m3) fun j o' x' h1 h2=>by rw[hstore j o' x' h1 h2];exact hun
    have hR:=lowX_R (E:=E) (st:=mkSt t' s) (a:=a) hs.slot hq;obtain⟨hRL,hsz⟩:=R_cells hR hwd;have hcs:c.size=n:=by rw[hn] at g4;simpa using g4.symm
    have hrun:=run_storeV (P:=P) (off:=0) hn g3 hsz (by omega) (one_ok hRL hone);obtain⟨f1,f2⟩:=bare_spec hs hfr g2 g5 g3 hRL g1;have hnew:(c.toList.take 0++(a.eval y).cells.toList++c.toList.drop (0+n)).toArray=(a.eval y).cells.toList.toArray:=by
      rw[List.drop_eq_nil_of_le (by simp;omega)];simp
    rw[hnew] at hrun;have hde:a.eval (.tmp d) = .pointer (some ⟨B i0,0,none⟩):=by simp[Act.eval,Array.getD_eq_getD_getElem?,g1]
    unfold Oper.wp;rw[show (execOp a.eval o).run P E.w = .ok .skip (E.w.setRow (B i0) (a.eval y).cells.toList.toArray) from by simp[execOp,v1,hde,run_storeAt hrun]];simp only[Oper.upon,v2];refine⟨_,rfl,f2,f1,hN,B,fun k o' d' t'' ho' hv' hl' hst=>?_⟩;have hkd:d' ≠ d:=fun e=>by
      subst e;have e1:=FA.uniq k i0 o' o0 d' t'' t ho' k1 hv' k2;subst e1;rw[k1] at ho';simp only[Option.some.injEq] at ho';subst ho';rw[k2] at hv';simp only[Option.some.injEq,Prod.mk.injEq] at hv';obtain⟨_,rfl⟩:=hv'
      have:=hst j0 o y ho hv
      rw[set_getD hli] at this;simp at this
    have hk0:k≠i0:=by rintro rfl;rw[k1] at ho';simp only[Option.some.injEq] at ho';subst ho';rw[k2] at hv';simp only[Option.some.injEq,Prod.mk.injEq] at hv';exact hkd hv'.1.symm
    have hnj:∀(k:Nat) o',ops[k]?=some o' → (varA o').isSome=true→k≠j0:=fun k o' ho' hs' => by
      rintro rfl;rw[ho] at ho';simp only[Option.some.injEq] at ho';subst ho';cases hq:varA o with
      | none=>rw[hq] at hs';simp at hs'
      | some p=>obtain⟨p1,p2⟩:=p;rw[(varA_spec hq).1] at v1;simp at v1
    have conv:∀{d t},(∀(j:Nat) o' x,ops[j]?=some o' → varS o' = some (d,t,x)→(listed.setIfInBounds j0 true).getD j false=false)→∀(j:Nat) o' x,ops[j]?=some o' → varS o' = some (d,t,x)→listed.getD j false=false:=fun {d t} h j o2 x2 h1 h2=>by
      have:=h j o2 x2 h1 h2
      rw[set_getD hli] at this;simp only[Bool.or_eq_false_iff] at this;exact this.2
    have hkj:=hnj k o' ho' (by simp[hv']);rw[set_getD hli] at hl';have hl2:listed.getD k false=true:=by simpa [hkj] using hl'
    obtain⟨p1,p2,⟨c',e',p3,p4⟩,p5,p6⟩:=hB k o' d' t'' ho' hv' hl2 (conv hst);have hnb:B k≠B i0:=p6 i0 o0 d t k1 k2 (hbef i0 m3) (fun j o' x' h1 h2=>by rw[hstore j o' x' h1 h2];exact hun) hk0;refine⟨p1,by simp only[Env.bare];rw[if_neg hnb];exact p2,⟨c',e',by simp only[Env.bare];rw[setRow_other E.w (B i0) (B k) _ hnb];exact p3,p4⟩,p5,fun i' o2 d2 t2 ho2 hv2 hl3 hst2 hne=>?_⟩;rw[set_getD hli] at hl3;exact p6 i' o2 d2 t2 ho2 hv2 (by simpa [hnj i' o2 ho2 (by simp[hv2])] using hl3) (conv hst2) hne
  · -- any other step
    left;refine⟨hgen,fun listed E E' a u hX hf' => ?_⟩;obtain⟨hN,B,hB⟩:=hX;have hdst:x.1.dst=o.dst:=by
      unfold lowAO at hgen;split at hgen
      · simp at hgen
      · split at hgen
        · simp only[Option.some.injEq] at hgen;rw[←hgen]
        · split at hgen
          · simp only[Option.some.injEq] at hgen;rw[←hgen]
          · simp at hgen
    have hsz:(a.put o.dst u).tmps.size=a.tmps.size:=by cases o.dst<;>simp[Act.put]
    refine⟨by rw[hsz];exact hN,B,fun k o' d' t'' ho' hv' hl' hst=>?_⟩;have hki:k≠i:=by rintro rfl;rw[ho] at ho';simp only[Option.some.injEq] at ho';subst ho';rw[hva] at hv';simp at hv'
    have hlow' : ∀k,k≠i→(listed.setIfInBounds i true).getD k false=listed.getD k false:=fun k hk=>by
      rw[Array.getD_eq_getD_getElem?,Array.getElem?_setIfInBounds_ne (Ne.symm hk),←Array.getD_eq_getD_getElem?]
    have conv:∀{d t},isVar ops d t=true→(∀(j:Nat) o' x,ops[j]?=some o' → varS o' = some (d,t,x)→(listed.setIfInBounds i true).getD j false=false)→∀(j:Nat) o' x,ops[j]?=some o' → varS o' = some (d,t,x)→listed.getD j false=false:=fun {d t} hiv h j o2 x2 h1 h2=>by
      have:=h j o2 x2 h1 h2
      rw[hlow' j (by rintro rfl;rw[ho] at h1;simp only[Option.some.injEq] at h1;subst h1;rw[hvs _ _ _ h2] at hiv;simp at hiv)] at this;exact this
    rw[hlow' k hki] at hl';obtain⟨g1,g2,⟨c,e,g3,g4⟩,g5,g6⟩:=hB k o' d' t'' ho' hv' hl' (conv (hpairl k o' d' t'' ho' hv') hst);have hlt:=lt_of_heap g3;obtain⟨h1,h2⟩:=hf'.same _ hlt (.inr g2);obtain⟨j0,oj,xj,m1,m2,m3⟩:=FA.st k o' d' t'' ho' hv';obtain⟨y0,k4,k5⟩:=hsto j0 oj d' t'' xj m1 m2 (hpairl k o' d' t'' ho' hv');have hdd:o.dst≠some d' := fun hd=>by
      have hne:i≠j0:=by rintro rfl;rw[ho] at m1;simp only[Option.some.injEq] at m1;subst m1;have:=hvs _ _ _ m2;rw[hpairl k o' d' t'' ho' hv'] at this;simp at this
      exact F.dst i j0 x y0 hx k4 hne d' k5 (by rw[hdst];exact hd)
    refine⟨?_,h2.trans g2,⟨c,e,h1.trans g3,g4⟩,g5,fun i' o2 d2 t2 ho2 hv2 hl3 hst2 hne=>?_⟩
    · cases hod:o.dst with
      | none=>exact g1
      | some m=>simp only[Act.put];rw[Array.getElem?_setIfInBounds_ne (by rintro rfl;exact hdd hod)];exact g1
    · have hi' : i' ≠ i:=by rintro rfl;rw[ho] at ho2;simp only[Option.some.injEq] at ho2;subst ho2;rw[hva] at hv2;simp at hv2
      rw[hlow' i' hi'] at hl3;exact g6 i' o2 d2 t2 ho2 hv2 hl3 (conv (hpairl i' o2 d2 t2 ho2 hv2) hst2) hne
end
end Go.Am

namespace Go.Am
def wpAnyK (P:Program) (ops:Array Oper) (Q:Exit→Act→World→Prop) (N:Act→World→Prop):Nat→Array Bool→Act→World→Prop
  | 0,listed,a,w=>Region.ready .any ops listed=[]∧N a w
  | fuel+1,listed,a,w=>(Region.ready .any ops listed=[]→N a w)∧∀i∈Region.ready .any ops listed,wpOp P ops Q i (wpAnyK P ops Q N fuel (listed.setIfInBounds i true)) a w
section
variable {P:Program}
theorem draw_soundK {ops:Array Oper} {l:List (AO × List Nat)} {b:List Nat} (F:Facts ops l b) (hbl:b.length=ops.size) {K:St→Prop} {st:St} (h:vcD P l [(st.loc,st.out)] [] K st) {E:Env} {a:Act} (hs:SRel E st a) {X:Array Bool→Env→Act→Prop}
    {Q:Exit→Act→World→Prop} {N:Act→World→Prop} (hN:∀E' st' a',SRel E' st' a' → Fr E E' → K st' → N a' E'.w) (hX0:∀E',X (Array.replicate ops.size false) E' a)
    (hlow:∀(i:Nat) o,ops[i]?=some o→∃x:AO × List Nat,l[i]?=some x∧((lowAO P ops o=some x.1∧∀listed E E' a u,X listed E a→Fr E E' → X (listed.setIfInBounds i true) E' (a.put o.dst u))∨Spec P l b st.t E X i o x.1)) :
    wpAnyK P ops Q N ops.size (Array.replicate ops.size false) a {E.w with drawn:=E.w.drawn+1}:=by
  obtain⟨hfr,_,hs1⟩:=srel_ext hs ((Ext.refl E.w).drew);obtain⟨tr,ht,_,hK⟩:=vcD_trace (t:=st.t) (s:=(st.loc,st.out)) h;have hSN:[(st.loc,st.out)]++effS tr=(st.loc,st.out)::effS tr:=rfl;rw[hSN] at ht;have hlen:=TrOk_length ht;have key:∀(fuel:Nat) (listed:Array Bool) (a:Act) (w:World),At2 ops tr st.t (st.loc,st.out) E X listed a w→listed.toList.count false≤fuel →
      wpAnyK P ops Q N fuel listed a w:=by
    have done:∀(listed:Array Bool) (a:Act) (w:World),At2 ops tr st.t (st.loc,st.out) E X listed a w→Region.ready .any ops listed=[] →
        N a w:=fun listed a w h hr=>by
      have hall:∀n j,j<n→j<ops.size→listed.getD j false=true:=by
        intro n;induction n with
        | zero=>intro j h;omega
        | succ n ih =>
          intro j hj hjs;cases hq:listed.getD j false with
          | true=>rfl
          | false =>
            have:j∈Region.ready .any ops listed:=mem_ready.2 ⟨by rw[getD_tf _ _ (by rw[h.size];exact hjs)];exact hq,ops[j],Array.getElem?_eq_getElem hjs,fun e he hb=>by
              have:=F.back j _ (Array.getElem?_eq_getElem hjs) e he hb
              exact ih e.on (by omega) (by omega)⟩
            rw[hr] at this;simp at this
      obtain⟨E',h1,h2,h3,_⟩:=h.rel;rw[sel_all (fun j hj=>by rw[Nat.zero_add];exact hall (j+1) j (by omega) (by rw[←F.size,hlen];exact hj))] at h2;rw[←h1];exact hN E' _ _ h2 h3 hK
    intro fuel;induction fuel with
    | zero =>
      intro listed a w h hc;have hr:Region.ready .any ops listed=[]:=by
        cases hq:Region.ready .any ops listed with
        | nil=>rfl
        | cons j js =>
          obtain⟨h1,o,ho,_⟩:=mem_ready.1 (show j∈Region.ready .any ops listed by rw[hq];simp);have hlt:j<listed.size:=by rw[h.size];exact(Array.getElem?_eq_some_iff.1 ho).1
          have:false∈listed.toList:=by
            have e:listed[j]?=some false:=by
              rw[Array.getElem?_eq_getElem hlt];simpa [hlt] using h1
            exact List.mem_of_getElem? (by simpa using e)
          have:=List.count_pos_iff.2 this
          omega
      exact⟨hr,done listed a w h hr⟩
    | succ fuel ih =>
      intro listed a w h hc;refine⟨fun hr=>done listed a w h hr,fun i hi=>?_⟩;refine draw_step F hbl rfl ht h hi (hlow i) fun a w h' => ih _ a w h' ?_
      obtain⟨h1,o,ho,_⟩:=mem_ready.1 hi;have hlt:i<listed.size:=by rw[h.size];exact(Array.getElem?_eq_some_iff.1 ho).1
      have e:listed.toList[i]?=some false:=by
        have:listed[i]?=some false:=by
          rw[Array.getElem?_eq_getElem hlt];simpa [hlt] using h1
        simpa using this
      have:=count_set listed.toList i e
      simp only[Array.toList_setIfInBounds];omega
  have hnone:∀j,(Array.replicate ops.size false).getD j false=false:=fun j=>by
    by_cases hj:j<ops.size<;>simp[hj]
  have hsel:∀(tr:List TR) (q:Nat),sel (fun j=>(Array.replicate ops.size false).getD j false) q tr=[]:=by
    intro tr;induction tr with
    | nil=>intro q;rfl
    | cons r tr ih=>intro q;rw[sel,if_neg (by rw[hnone];simp)];exact ih _
  refine key ops.size _ a _ ⟨by simp,fun i o _ hi=>by rw[hnone] at hi;simp at hi,{E with w:=E.w.drew},rfl,?_,hfr,hX0 _⟩ (by simp);rw[hsel];exact hs1
def tailChk (ops:Array Oper) (b:List Nat) (k:Nat):Bool :=
  decide (k<ops.size)&&ops.toList.zipIdx.all fun x =>
    (x.1.after.toList.all fun e=>!Region.binds .any e||decide (e.on<x.2))&&decide (b.getD x.2 0=orE b x.1)&&(decide (x.2<k)||(List.range x.2).all fun j=>(b.getD x.2 0).testBit j)
structure TailFacts (ops:Array Oper) (b:List Nat) (k:Nat):Prop where
  lt:k<ops.size
  back:∀(i:Nat) o,ops[i]?=some o→∀e∈o.after,Region.binds .any e=true→e.on<i
  mask:∀(i:Nat) o,ops[i]?=some o→∀j,(b.getD i 0).testBit j=true→∃e∈o.after,Region.binds .any e=true∧(j=e.on∨(b.getD e.on 0).testBit j=true)
  all:∀(i:Nat) o,ops[i]?=some o→k≤i→∀j,j<i→(b.getD i 0).testBit j=true
theorem tail_facts {ops:Array Oper} {b:List Nat} {k:Nat} (h:tailChk ops b k=true):TailFacts ops b k:=by
  unfold tailChk at h;simp only[Bool.and_eq_true,decide_eq_true_eq,List.all_eq_true] at h;obtain⟨h1,h2⟩:=h;have mem:∀(i:Nat) o,ops[i]?=some o→(o,i)∈ops.toList.zipIdx:=fun i o ho=>by
    rw[List.mem_zipIdx_iff_getElem?];simpa using ho
  refine⟨h1,fun i o ho e he hb=>?_,fun i o ho j hj=>?_,fun i o ho hk j hj=>?_⟩
  · have:=(h2 _ (mem i o ho)).1.1 e (by simpa using he)
    simpa [hb] using this
  · rw[(h2 _ (mem i o ho)).1.2] at hj;exact orE_bit hj
  · have:=(h2 _ (mem i o ho)).2
    simp only[Bool.or_eq_true,decide_eq_true_eq,List.all_eq_true,List.mem_range] at this
    rcases this with h | h
    · omega
    · exact h j hj
def Shut (ops:Array Oper) (listed:Array Bool):Prop:=∀(i:Nat) o,ops[i]?=some o→listed.getD i false=true→∀e∈o.after,Region.binds .any e=true→listed.getD e.on false=true
section
variable {ops:Array Oper} {b:List Nat} {k:Nat} (F:TailFacts ops b k)
include F
theorem shut_mask {listed:Array Bool} (hs:Shut ops listed):∀(n i:Nat) o,i<n→ops[i]?=some o→listed.getD i false=true→∀j,(b.getD i 0).testBit j=true→listed.getD j false=true:=by
  intro n;induction n with
  | zero=>intro i o h;omega
  | succ n ih =>
    intro i o hi ho hl j hj;obtain⟨e,he,hb,h⟩:=F.mask i o ho j hj;have hon:=F.back i o ho e he hb;have hle:=hs i o ho hl e he hb
    rcases h with rfl | h
    · exact hle
    · have hlt:=(Array.getElem?_eq_some_iff.1 ho).1;exact ih e.on ops[e.on] (by omega) (Array.getElem?_eq_getElem (by omega)) hle j h
theorem ready_mask {listed:Array Bool} (hs:Shut ops listed) {i:Nat} (hi:i∈Region.ready .any ops listed) {j:Nat} (hj:(b.getD i 0).testBit j=true):listed.getD j false=true:=by
  obtain⟨_,o,ho,hall⟩:=mem_ready.1 hi;obtain⟨e,he,hb,h⟩:=F.mask i o ho j hj;have hle:=hall e he hb
  rcases h with rfl | h
  · exact hle
  · have hon:=F.back i o ho e he hb;have hlt:=(Array.getElem?_eq_some_iff.1 ho).1;exact shut_mask F hs (e.on+1) e.on ops[e.on] (by omega) (Array.getElem?_eq_getElem (by omega)) hle j h
omit F in
theorem shut_set {listed:Array Bool} (hs:Shut ops listed) {i:Nat} (hi:i∈Region.ready .any ops listed):Shut ops (listed.setIfInBounds i true):=by
  obtain⟨_,o,ho,hall⟩:=mem_ready.1 hi;intro j o' ho' hl e he hb;have up:listed.getD e.on false=true→(listed.setIfInBounds i true).getD e.on false=true:=fun h=>by
    by_cases hie:i=e.on
    · rw[←hie] at h ⊢
      by_cases hlt:i<listed.size
      · simp[hlt]
      · simp[hlt] at h
    · rw[getD_set_ne false hie];exact h
  by_cases hij:i=j
  · subst hij;obtain rfl:o=o' := Option.some.inj (ho.symm.trans ho');exact up (hall e he hb)
  · rw[getD_set_ne false hij] at hl;exact up (hs j o' ho' hl e he hb)
theorem ready_nil {listed:Array Bool} (hsz:listed.size=ops.size) (h:Region.ready .any ops listed=[]):∀n j,j<n→j<ops.size→listed.getD j false=true:=by
  intro n;induction n with
  | zero=>intro j h;omega
  | succ n ih =>
    intro j hj hjs;cases hq:listed.getD j false with
    | true=>rfl
    | false =>
      have:j∈Region.ready .any ops listed:=mem_ready.2 ⟨by rw[getD_tf _ _ (by rw[hsz];exact hjs)];exact hq,ops[j],Array.getElem?_eq_getElem hjs,fun e he hb=>by
        have:=F.back j _ (Array.getElem?_eq_getElem hjs) e he hb
        exact ih e.on (by omega) (by omega)⟩
      rw[h] at this;simp at this
theorem tail_run {Q:Exit→Act→World→Prop}:∀(fuel q:Nat) (listed:Array Bool) (a:Act) (w:World),k≤q→q≤ops.size→ops.size - q≤fuel→listed.size=ops.size→Shut ops listed→(∀j,j<ops.size→(listed.getD j false=true↔j<q)) →
    wpOps P ops Q (List.range' q (ops.size - q)) a w→wpAny P .any ops Q fuel listed a w:=by
  have none_ready:∀(q:Nat) (listed:Array Bool),q=ops.size→listed.size=ops.size→(∀j,j<ops.size→(listed.getD j false=true↔j<q))→Region.ready .any ops listed=[]:=fun q listed hq hsz hl=>by
    cases hr:Region.ready .any ops listed with
    | nil=>rfl
    | cons j js =>
      obtain⟨h1,o,ho,_⟩:=mem_ready.1 (show j∈Region.ready .any ops listed by rw[hr];simp);have hlt:=(Array.getElem?_eq_some_iff.1 ho).1
      have:=(hl j hlt).2 (by omega)
      rw[getD_tf _ _ (by omega)] at h1;rw[h1] at this;simp at this
  intro fuel;induction fuel with
  | zero =>
    intro q listed a w hk hq hf hsz hs hl h;have hqe:q=ops.size:=by omega
    subst hqe;rw[Nat.sub_self] at h;exact⟨none_ready _ listed rfl hsz hl,h⟩
  | succ fuel ih =>
    intro q listed a w hk hq hf hsz hs hl h;refine⟨fun hr=>?_,fun i hi=>?_⟩
    · have hall:=ready_nil F hsz hr ops.size;have hqe:q=ops.size:=by
        rcases Nat.lt_or_ge q ops.size with hlt | hge
        · have:=(hl q hlt).1 (hall q hlt hlt);omega
        · omega
      subst hqe;rw[Nat.sub_self] at h;exact h
    · obtain⟨h1,o,ho,_⟩:=mem_ready.1 hi;have hlt:=(Array.getElem?_eq_some_iff.1 ho).1;rw[getD_tf _ _ (by omega)] at h1;have hqi:q≤i:=by
        rcases Nat.lt_or_ge i q with h2 | h2
        · rw[(hl i hlt).2 h2] at h1;simp at h1
        · exact h2
      have hiq:i=q:=by
        rcases Nat.lt_or_ge q i with h2 | h2
        · have:=ready_mask F hs hi (F.all i o ho (by omega) q h2)
          have:=(hl q (by omega)).1 this;omega
        · omega
      subst hiq;rw[show ops.size - i=(ops.size - (i+1))+1 by omega,List.range'_succ,wpOps_cons] at h;refine wpOp_mono (fun a w h' => ih (i+1) _ a w (by omega) (by omega) (by omega) (by simpa using hsz) (shut_set hs hi) (fun j hj=>?_) h') h
      by_cases hij:i=j
      · subst hij;simp[hsz,hj]
      · rw[getD_set_ne false hij,hl j hj];omega
theorem any_tail {Q:Exit→Act→World→Prop} {N:Act→World→Prop} (hg:∀(i:Nat) o,i<k→ops[i]?=some o→∀j want,o.guard=some (j,want)→j<k) (hN:∀a w,N a w→wpOps P ops Q (List.range' k (ops.size - k)) a w) :
    ∀(fuel:Nat) (l1 listed:Array Bool) (a:Act) (w:World),l1.size=k→listed.size=ops.size→Shut ops listed→(∀j,j<k→listed.getD j false=l1.getD j false)→(∀j,k≤j→j<ops.size→listed.getD j false=false) →
      wpAnyK P (ops.extract 0 k) Q N fuel l1 a w→wpAny P .any ops Q (fuel+(ops.size - k)) listed a w:=by
  have hsz1:(ops.extract 0 k).size=k:=by have:=F.lt;simp;omega
  have hget:∀i,i<k→(ops.extract 0 k)[i]?=ops[i]?:=fun i hi=>by
    have:=F.lt
    rw[Array.getElem?_extract];simp;intro h;omega
  have ready1:∀(l1 listed:Array Bool),l1.size=k→listed.size=ops.size→(∀j,j<k→listed.getD j false=l1.getD j false)→∀i,i<k→(i∈Region.ready .any (ops.extract 0 k) l1↔i∈Region.ready .any ops listed):=fun l1 listed h1 h2 hl i hi=>by
    have hk:=F.lt;rw[mem_ready,mem_ready,hget i hi,getD_tf _ _ (by omega),getD_tf _ _ (by omega),hl i hi];refine and_congr Iff.rfl ⟨fun⟨o,ho,h⟩=>⟨o,ho,fun e he hb=>?_⟩,fun⟨o,ho,h⟩=>⟨o,ho,fun e he hb=>?_⟩⟩
    · have:=F.back i o ho e he hb
      rw[hl e.on (by omega)];exact h e he hb
    · have:=F.back i o ho e he hb
      rw[←hl e.on (by omega)];exact h e he hb
  have done1:∀(l1 listed:Array Bool),l1.size=k→listed.size=ops.size→(∀j,j<k→listed.getD j false=l1.getD j false)→Shut ops listed→(∀j,j<k→listed.getD j false=true)→Region.ready .any (ops.extract 0 k) l1=[]:=fun l1 listed h1 h2 hl _ hall=>by
    cases hr:Region.ready .any (ops.extract 0 k) l1 with
    | nil=>rfl
    | cons j js =>
      obtain⟨h3,o,ho,_⟩:=mem_ready.1 (show j∈Region.ready .any (ops.extract 0 k) l1 by rw[hr];simp);have hlt:=(Array.getElem?_eq_some_iff.1 ho).1;rw[hsz1] at hlt;rw[getD_tf _ _ (by omega),←hl j hlt,hall j hlt] at h3;simp at h3
  have step2:∀(fuel:Nat) (l1 listed:Array Bool) (a:Act) (w:World),l1.size=k→listed.size=ops.size→Shut ops listed→(∀j,j<k→listed.getD j false=l1.getD j false)→(∀j,k≤j→j<ops.size→listed.getD j false=false) →
      (Region.ready .any (ops.extract 0 k) l1=[]→N a w)→(∀j,j<k→listed.getD j false=true)→wpAny P .any ops Q (fuel+(ops.size - k)) listed a w:=fun fuel l1 listed a w h1 h2 hs hl hh hn hall=>by
    refine tail_run F _ k listed a w (Nat.le_refl _) (by have:=F.lt;omega) (by omega) h2 hs (fun j hj=>⟨fun h=>?_,fun h=>hall j h⟩) (hN a w (hn (done1 l1 listed h1 h2 hl hs hall)))
    rcases Nat.lt_or_ge j k with h3 | h3
    · exact h3
    · rw[hh j h3 hj] at h;simp at h
  have all_or:∀(l1 listed:Array Bool),listed.size=ops.size→Shut ops listed→Region.ready .any ops listed=[]∨(∃i∈Region.ready .any ops listed,k≤i)→∀j,j<k→listed.getD j false=true:=fun l1 listed h2 hs h j hj=>by
    have hk:=F.lt
    rcases h with h | ⟨i,hi,hki⟩
    · exact ready_nil F h2 h ops.size j (by omega) (by omega)
    · obtain⟨_,o,ho,_⟩:=mem_ready.1 hi;exact ready_mask F hs hi (F.all i o ho hki j (by omega))
  intro fuel;induction fuel with
  | zero =>
    intro l1 listed a w h1 h2 hs hl hh h;refine step2 0 l1 listed a w h1 h2 hs hl hh (fun _=>h.2) fun j hj=>?_
    rw[hl j hj];have hall:∀n j,j<n→j<k→l1.getD j false=true:=by
      intro n;induction n with
      | zero=>intro j h;omega
      | succ n ih =>
        intro j hj hjk;have hk:=F.lt;cases hq:l1.getD j false with
        | true=>rfl
        | false =>
          have:j∈Region.ready .any (ops.extract 0 k) l1:=mem_ready.2 ⟨by rw[getD_tf _ _ (by omega)];exact hq,ops[j],by rw[hget j hjk];exact Array.getElem?_eq_getElem (by omega),fun e he hb=>by
            have:=F.back j _ (Array.getElem?_eq_getElem (by omega)) e he hb
            exact ih e.on (by omega) (by omega)⟩
          rw[h.1] at this;simp at this
    exact hall k j hj hj
  | succ fuel ih =>
    intro l1 listed a w h1 h2 hs hl hh h
    by_cases hc:Region.ready .any ops listed=[]∨(∃i∈Region.ready .any ops listed,k≤i)
    · exact step2 (fuel+1) l1 listed a w h1 h2 hs hl hh h.1 (all_or l1 listed h2 hs hc)
    · rw[show fuel+1+(ops.size - k)=(fuel+(ops.size - k))+1 by omega];refine⟨fun hr=>absurd (.inl hr) hc,fun i hi=>?_⟩;have hik:i<k:=by
        rcases Nat.lt_or_ge i k with h3 | h3
        · exact h3
        · exact absurd (.inr ⟨i,hi,h3⟩) hc
      have hk:=F.lt;have hi1:=(ready1 l1 listed h1 h2 hl i hik).2 hi;have hw:=h.2 i hi1;have hww:wpOp P ops Q i (wpAnyK P (ops.extract 0 k) Q N fuel (l1.setIfInBounds i true)) a w:=by
        unfold wpOp at hw ⊢;rw[hget i hik] at hw;cases ho:ops[i]? with
        | none=>rw[ho] at hw;exact hw
        | some o =>
          rw[ho] at hw;have hy:Region.wanted o (yielded (ops.extract 0 k) a.tmps)=Region.wanted o (yielded ops a.tmps):=by
            unfold Region.wanted;cases hgd:o.guard with
            | none=>rfl
            | some p =>
              obtain⟨j,want⟩:=p
              have:=hg i o hik ho j want hgd
              simp only[yielded,hget j this]
          simp only at hw ⊢;rw[←hy];exact hw
      refine wpOp_mono (fun a w h' => ih _ _ a w (by simpa using h1) (by simpa using h2) (shut_set hs hi) (fun j hj=>?_) (fun j hj hjs=>?_) h') hww
      · by_cases hij:i=j
        · subst hij;simp[h1,h2,hj,show i<ops.size by omega]
        · rw[getD_set_ne false hij,getD_set_ne false hij,hl j hj]
      · rw[getD_set_ne false (by omega),hh j hj hjs]
end
end
end Go.Am

namespace Go.Am
inductive AC where
  | skip
  | reg (l:List AO)
  | upd (x:AC)
  | draw (l:List (AO × List Nat))
  | drawA (nv:List Nat) (l:List (AO × List Nat))
  | hole (l:List (AO × List Nat)) (h:HI)
  | seq (x y:AC)
  | cond (c:X) (x y:AC)
  | block (id:Nat) (x:AC)
  | loop (x:AC)
  | scope (x:AC)
  | rangeS (l:List AO) (x:X) (dI dN dM out nxt:Nat) (y:AC)
  | exit (id:Nat)
  | ret
structure Hint where
  out:List Nat:=[]
  upd:List Nat:=[]
  tail:List Nat:=[]
def AC.updIf (b:Bool) (x:AC):AC:=if b then .upd x else x
def lowTail (P:Program) (hn:List Nat) (ops:Array Oper):Option (List (AO × List Nat) × List AO) :=
  match (List.range ops.size).find? (tailChk ops (masks ops.toList [])) with
  | none=>none
  | some k =>
    match lowDraw P (ops.extract 0 k),lowListH P hn ops (ops.toList.drop k) with
    | some l,some m=>some (l,m)
    | _,_=>none
def lowRange (P:Program) (h:Hint) (ops0 ops1:Array Oper) (dM' out out' nxt:Nat) (y:Option AC):Option AC :=
  match ops0.toList.getLast?,ops1.toList,y with
  | some oR, [oN, oM], some y =>
    match oR.op,oR.dst,oR.guard,oN.op,oN.dst,oN.guard,oM.op,oM.dst,oM.guard with
    | .range xt ox, some dI, none, .next (.tmp dI') true, some dN, none, .extract (.tmp dN') 0, some dM, none =>
      match P.underlying xt,lowListH P h.out ops0 ops0.toList.dropLast,lowX P xt ox with
      | some .string,some l,some x=>if dI' = dI∧dN' = dN∧dM' = dM∧out' = out then some (.rangeS l x dI dN dM out nxt y) else none
      | _,_,_=>none
    | _,_,_,_,_,_,_,_,_=>none
  | _,_,_=>none
def lowC (P:Program) (h:Hint):Code→Option AC
  | .skip=>some .skip
  | .region id ops false=>(lowListH P h.out ops ops.toList).map fun l=>AC.updIf (h.upd.contains id) (.reg l)
  | .region id ops true =>
    if h.tail.contains id then (lowTail P h.out ops).map fun p=>AC.updIf (h.upd.contains id) (.seq (.draw p.1) (.reg p.2)) else
    match lowDraw P ops with
    | some l=>some (AC.updIf (h.upd.contains id) (.draw l))
    | none =>
      match lowHole P ops with
      | some p=>some (AC.updIf (h.upd.contains id) (.hole p.1 p.2))
      | none=>(lowDrawA P ops).map fun p=>AC.updIf (h.upd.contains id) (.drawA p.1 p.2)
  | .seq (.region i0 ops0 false) (.block out (.loop (.seq (.region i1 ops1 false) (.seq (.cond (.tmp dM') .skip (.exit out')) (.block nxt b))))) =>
    match lowRange P h ops0 ops1 dM' out out' nxt (lowC P h b) with
    | some r=>some r
    | none=>match lowC P h (.region i0 ops0 false),lowC P h (.block out (.loop (.seq (.region i1 ops1 false) (.seq (.cond (.tmp dM') .skip (.exit out')) (.block nxt b))))) with | some x,some y=>some (.seq x y) | _,_=>none
  | .seq a b=>match lowC P h a,lowC P h b with | some x,some y=>some (.seq x y) | _,_=>none
  | .cond c a b=>match lowX P 0 c,lowC P h a,lowC P h b with | some c,some x,some y=>some (.cond c x y) | _,_,_=>none
  | .block id a=>(lowC P h a).map (.block id)
  | .loop a=>(lowC P h a).map .loop
  | .scope a=>(lowC P h a).map .scope
  | .exit id=>some (.exit id)
  | .ret=>some .ret
  | .label _=>some .skip
  | _=>none
def Upd (st:St) (K:St→Prop):Prop:=∀E a,SRel E st a→∃E' st',E'.w=E.w∧Fr E E' ∧ SRel E' st' a∧K st'
theorem Upd.id {st:St} {K:St→Prop} (h:K st):Upd st K:=fun E _ hs=>⟨E,st,rfl,Fr.refl E,hs,h⟩
theorem Upd.bind {st:St} {K K' : St→Prop} (h:Upd st K) (k:∀st',K st' → Upd st' K'):Upd st K' := fun E a hs =>
  let ⟨E',st',h1,h2,h3,h4⟩:=h E a hs
  let ⟨E'',st'',k1,k2,k3,k4⟩:=k st' h4 E' a h3
  ⟨E'',st'',k1.trans h1,h2.trans k2,k3,k4⟩
theorem Upd.mono {st:St} {K K' : St→Prop} (h:Upd st K) (k:∀st',K st' → K' st'):Upd st K' := h.bind fun st' hk=>Upd.id (k st' hk)
def anyAt:List Nat→List V→Option (List V)
  | [],t=>some t
  | d::ds,t=>if d<t.length then anyAt ds (t.set d .any) else none
theorem anyAt_spec:∀{ds:List Nat} {t t' : List V},anyAt ds t=some t' → t'.length=t.length∧(∀d∈ds,d<t'.length∧t'.getD d .any = .any)∧(∀d,t.getD d .any = .any→t'.getD d .any = .any)∧∀(E:Env) vs,RL E t vs→RL E t' vs
  | [],t,t',h=>by simp only[anyAt,Option.some.injEq] at h;subst h;exact⟨rfl,by simp,fun _ h=>h,fun _ _ h=>h⟩
  | d :: ds, t, t', h => by
    simp only[anyAt] at h;split at h
    case isFalse=>simp at h
    rename_i hd;obtain⟨h1,h2,h3,h4⟩:=anyAt_spec h;have hlen:t'.length=t.length:=by rw[h1];simp
    refine⟨hlen,fun x hx=>?_,fun x hx=>h3 x ?_,fun E vs hr=>h4 E vs ?_⟩
    · rcases List.mem_cons.1 hx with rfl | hx
      · exact⟨by omega,h3 x (by simp[List.getD,hd])⟩
      · exact h2 x hx
    · by_cases e:x=d
      · subst e;simp[List.getD,hd]
      · simpa [List.getD,List.getElem?_set_ne (Ne.symm e)] using hx
    · have hl:=RL_length hr;have hdv:d<vs.length:=by omega
      have:=RL_set hr d (x:=.any) (v:=vs[d]) (by simp[R])
      simpa using this
def LPost {ι:Type} (I:ι→St) (μ:ι→Nat) (Q:Exit→St→Prop) (n:Nat):Exit→St→Prop
  | .normal,st=>Upd st fun st' => ∃j,st' = I j∧μ j<n
  | e,st=>Q e st
def AThen (K:St→Prop) (Q:Exit→St→Prop):Exit→St→Prop
  | .normal,st=>K st
  | e,st=>Q e st
def RPost (out:Nat) (J:St→Prop) (Q:Exit→St→Prop):Exit→St→Prop
  | .normal,st=>Upd st J
  | .exit id,st=>if id=out then Q .normal st else Q (.exit id) st
  | e,st=>Q e st
def NoGo (Q:Exit→St→Prop):Exit→St→Prop
  | .goto _,_=>False
  | e,st=>Q e st
def vc (P:Program):AC→(Exit→St→Prop)→St→Prop
  | .skip,Q,st=>Q .normal st
  | .reg l,Q,st=>vcOps P l (Q .normal) st
  | .draw l,Q,st=>vcD P l [(st.loc,st.out)] [] (Q .normal) st
  | .hole l h,Q,st=>vcD P l [(st.loc,st.out)] [] (HoleW h (Q .normal)) st
  | .drawA nv l,Q,st=>∃t,anyAt nv st.t=some t∧vcD P l [(st.loc,st.out)] [] (Q .normal) ⟨t,st.loc,st.out⟩
  | .upd x,Q,st=>Upd st fun st' => vc P x Q st'
  | .seq x y,Q,st=>vc P x (AThen (vc P y Q) Q) st
  | .cond c x y,Q,st=>match ev st c with | .bool b=>(b=true→vc P x Q st)∧(b=false→vc P y Q st) | _=>False
  | .block id x,Q,st=>vc P x (Blk id Q) st
  | .loop x,Q,st=>∃(ι:Type) (I:ι→St) (μ:ι→Nat),(Upd st fun st' => ∃i,st' = I i)∧∀i,vc P x (LPost I μ Q (μ i)) (I i)
  | .scope x,Q,st=>vc P x (NoGo Q) st
  | .rangeS l x dI dN dM out nxt y,Q,st=>vcOps P l (fun st1=>∃s:List UInt8,ev st1 x = .str s∧(∀c∈s,c.toNat<128)∧∃I:Nat→Nat→St→Prop,
      (∀b,Upd (st1.put (some dI) (.raw (.pointer (some ⟨b,0,none⟩)))) (I b 0)) ∧
      (∀b i st',I b i st' → st'.t.getD dI .any = .raw (.pointer (some ⟨b,0,none⟩))∧dN<st'.t.length∧dM<st'.t.length) ∧
      (∀b i c st',s[i]?=some c→I b i st' → vc P y (Blk nxt (RPost out (I b (i+1)) Q)) ((st'.put (some dN) (.tup [.bool true,.int .i64 (i:Nat),.int .i32 (c.toNat:Nat)])).put (some dM) (.bool true))) ∧
      (∀b st',I b s.length st' → Q .normal ((st'.put (some dN) (.tup [.bool false])).put (some dM) (.bool false)))) st
  | .exit id,Q,st=>Q (.exit id) st
  | .ret,Q,st=>Q .ret st
theorem pwp_upd {P:Program} {c:Code} {Q:Exit→St→Prop} {st:St} (h:Upd st (pwp P c Q)):pwp P c Q st:=by
  intro E a hs;obtain⟨E',st',h1,h2,h3,h4⟩:=h E a hs;rw[←h1];exact wp_mono (h4 E' a h3) fun _ _ _ ⟨E'',st'',k1,k2,k3,k4⟩=>⟨E'',st'',k1,k2,h2.trans k3,k4⟩
theorem least_of {N:Nat→Prop}:∀n,N n→∃m,N m∧∀k,N k→m≤k:=fun n=>by
  induction n using Nat.strongRecOn with
  | ind n ih =>
    intro h
    by_cases hq:∃k,N k∧k<n
    · obtain⟨k,h1,h2⟩:=hq;exact ih k h2 h1
    · refine⟨n,h,fun k hk=>?_⟩
      by_cases hlt:k<n
      · exact absurd ⟨k,hk,hlt⟩ hq
      · omega
theorem pwp_loop {P:Program} {c:Code} {Q:Exit→St→Prop} {st:St} {ι:Type} (I:ι→St) (μ:ι→Nat) (h0:Upd st fun st' => ∃i,st' = I i) (hr:∀i,pwp P c (LPost I μ Q (μ i)) (I i)):pwp P (.loop c) Q st:=by
  intro E a hs;obtain⟨E1,st1,h1,h2,h3,i0,rfl⟩:=h0 E a hs
  classical
  let J:Act→World→Prop:=fun a w=>∃i E',E'.w=w∧SRel E' (I i) a∧Fr E E'
  let N:Act→World→Nat→Prop:=fun a w n=>∃i E',E'.w=w∧SRel E' (I i) a∧Fr E E' ∧ μ i=n
  have hL:∀a w,(∃n,N a w n)→∃m,N a w m∧∀k,N a w k→m≤k:=fun a w h=>least_of _ h.choose_spec
  let M:Act→World→Nat:=fun a w=>if h:∃n,N a w n then (hL a w h).choose else 0
  refine wp_loop J M ⟨i0,E1,h1,h3,h2⟩ ?_;intro a w hJ;have hex:∃n,N a w n:=by obtain⟨i,E',k1,k2,k3⟩:=hJ;exact⟨μ i,i,E',k1,k2,k3,rfl⟩
  obtain⟨i,E',k1,k2,k3,k4⟩:=(hL a w hex).choose_spec.1;have hM:M a w=μ i:=by show (if h:∃n,N a w n then (hL a w h).choose else 0)=_;rw[dif_pos hex];exact k4.symm
  subst k1;refine wp_mono (hr i E' a k2) ?_;rintro e a' w' ⟨E2,st2,rfl,m2,m3,m4⟩;cases e with
  | normal =>
    obtain⟨E3,st3,n1,n2,n3,j,rfl,hlt⟩:=m4 E2 a' m2;have hN:N a' E2.w (μ j):=⟨j,E3,n1,n3,(k3.trans m3).trans n2,rfl⟩;refine⟨⟨j,E3,n1,n3,(k3.trans m3).trans n2⟩,?_⟩;have hle' : M a' E2.w≤μ j:=by
      show (if h:∃n,N a' E2.w n then (hL a' E2.w h).choose else 0)≤_;rw[dif_pos ⟨_,hN⟩];exact(hL a' E2.w ⟨_,hN⟩).choose_spec.2 _ hN
    rw[hM];omega
  | exit id=>exact⟨E2,st2,rfl,m2,k3.trans m3,m4⟩
  | goto l=>exact⟨E2,st2,rfl,m2,k3.trans m3,m4⟩
  | ret=>exact⟨E2,st2,rfl,m2,k3.trans m3,m4⟩
  | panic c=>exact⟨E2,st2,rfl,m2,k3.trans m3,m4⟩
  | outgrown=>exact⟨E2,st2,rfl,m2,k3.trans m3,m4⟩
section
variable {P:Program}
theorem ops_sound {hn:List Nat} {ops:Array Oper} {K:St→Prop} {Q:Exit→Act→World→Prop} {E0:Env} {rest:List Nat} (hQ:∀E st a,SRel E st a→Fr E0 E→K st→wpOps P ops Q rest a E.w):∀(os:List Oper) (l:List AO) (i:Nat),lowListH P hn ops os=some l →
    (∀j:Nat,j<os.length→os[j]?=ops[i+j]?)→∀E st a,SRel E st a→Fr E0 E→vcOps P l K st→wpOps P ops Q (List.range' i os.length++rest) a E.w
  | [], l, i, hl, _, E, st, a, hs, hf, h => by
    simp only[lowListH,Option.some.injEq] at hl;subst hl;exact hQ E st a hs hf h
  | o :: os, l, i, hl, hget, E, st, a, hs, hf, h => by
    simp only[lowListH,Option.bind_eq_some_iff,Option.map_eq_some_iff] at hl;obtain⟨x,hx,l',hl',rfl⟩:=hl;have ho:ops[i]?=some o:=by have:=hget 0 (by simp);simpa using this.symm
    have hget' : ∀j:Nat,j<os.length→os[j]?=ops[i+1+j]?:=fun j hj=>by
      have:=hget (j+1) (by simp;omega)
      rw[show i+(j+1)=i+1+j from by omega] at this;simpa using this
    have ih:=ops_sound hQ os l' (i+1) hl' hget';have key:∀{ao:AOp} {d:Option Tmp},lowOpB P hn o=ao→d=o.dst→ao.sem P st (fun v st' => vcOps P l' K (st'.put d v))→o.wp P a E.w (wpOps P ops Q (List.range' (i+1) os.length++rest)) Q:=fun {ao d} hao hd hsem=>by
      subst hd;subst hao;refine Oper.wp_mono ?_ (low_soundB (Q:=Q) hs hsem);rintro a' w' ⟨E',v,u,st',rfl,hf',hs',hv,rfl,hk⟩;exact ih E' _ _ (SRel.put hs' hv o.dst) (hf.trans hf') hk
    simp only[List.length_cons,List.range'_succ,List.cons_append,wpOps,ho];unfold lowAOH at hx;cases hg:o.guard with
    | none =>
      rw[hg] at hx;simp only[Option.some.injEq] at hx;subst hx;simp only[vcOps] at h;rw[if_pos (by simp[Region.wanted,hg])];exact .inl (key rfl rfl h)
    | some p =>
      obtain⟨j,want⟩:=p;rw[hg] at hx;simp only at hx;split at hx
      case h_2=>simp at hx
      rename_i g hgd;simp only[Option.some.injEq] at hx;subst hx;simp only[vcOps] at h;split at h
      · rename_i b hb;have hR:=eval_R hs.slot g;rw[hb] at hR;simp only[R,Act.eval] at hR;have hget:a.tmps[g]?=some (.bool b):=by
          rw[Array.getD_eq_getD_getElem?] at hR;cases hq:a.tmps[g]? with
          | none=>rw[hq] at hR;simp[undef] at hR
          | some u=>rw[hq] at hR;simp at hR;rw[hR]
        have hw:Region.wanted o (yielded ops a.tmps)=(b == want):=by
          simp only[Region.wanted,hg,yielded,hgd,Option.bind_some,hget];cases b<;>cases want<;>rfl
        split at h
        · rename_i hbw;rw[hw,if_pos (by simp[hbw])];exact .inl (key rfl rfl h)
        · rename_i hbw;rw[hw,if_neg (by simp[hbw])];exact ih E _ _ (SRel.put hs (v:=.tup []) (x:=undef) R_undef o.dst) hf h
      · rename_i hb;have hR:=eval_R hs.slot g;rw[hb] at hR;have hu:=R_und hR;have hw:Region.wanted o (yielded ops a.tmps)=false:=by
          simp only[Region.wanted,hg,yielded,hgd,Option.bind_some];simp only[Act.eval] at hu;cases hq:a.tmps[g]? with
          | none=>rfl
          | some u =>
            rw[Array.getD_eq_getD_getElem?,hq] at hu;simp at hu;rw[hu];rfl
        rw[hw,if_neg (by simp)];exact ih E _ _ (SRel.put hs (v:=.tup []) (x:=undef) R_undef o.dst) hf h
      · exact h.elim
theorem upd_sound {c:Code} {x:AC} (ih:∀(Q:Exit→St→Prop) (st:St),vc P x Q st→pwp P c Q st) (b:Bool) (Q:Exit→St→Prop) (st:St) (h:vc P (AC.updIf b x) Q st):pwp P c Q st:=by
  cases b with
  | false=>exact ih Q st h
  | true=>exact pwp_upd (h.mono fun st' h' => ih Q st' h')
theorem eval_put {a:Act} {d:Nat} {x:Value} (h:d<a.tmps.size):(a.put (some d) x).eval (.tmp d)=x:=by
  simp[Act.put,Act.eval,h]
theorem rounds {ops1:Array Oper} {oN oM:Oper} {dI dN dM i1 out nxt b:Nat} {cb:Code} {Q:Exit→St→Prop} {E0:Env} {s:List UInt8} {I:Nat→St→Prop}
    (h1:ops1.toList=[oN,oM]) (hN:oN.op = .next (.tmp dI) true) (hNd:oN.dst=some dN) (hNg:oN.guard=none) (hM:oM.op = .extract (.tmp dN) 0) (hMd:oM.dst=some dM) (hMg:oM.guard=none)
    (hb0:E0.w.heap.size≤b) (hasc:∀c∈s,c.toNat<128) (hslot:∀i st',I i st' → st'.t.getD dI .any = .raw (.pointer (some ⟨b,0,none⟩))∧dN<st'.t.length∧dM<st'.t.length)
    (hbody:∀i c st',s[i]?=some c→I i st' → pwp P cb (Blk nxt (RPost out (I (i+1)) Q)) ((st'.put (some dN) (.tup [.bool true,.int .i64 (i:Nat),.int .i32 (c.toNat:Nat)])).put (some dM) (.bool true)))
    (hend:∀st',I s.length st' → Q .normal ((st'.put (some dN) (.tup [.bool false])).put (some dM) (.bool false)))
    {E:Env} {st:St} {a:Act} (hs:SRel E st a) (hf:Fr E0 E) (hr:E.role b = .hid) (hh:E.w.heap[b]?=some (.stringIter ⟨s.toArray⟩ 0)) (hI:I 0 st) :
    (Code.block out (.loop (.seq (.region i1 ops1 false) (.seq (.cond (.tmp dM) .skip (.exit out)) (.block nxt cb))))).wp P (fun e a' w' => ∃E' st',E'.w=w' ∧ SRel E' st' a' ∧ Fr E0 E' ∧ Q e st') a E.w:=by
  refine wp_block ?_;refine wp_loop (fun a w=>∃i st' E',E'.w=w∧i≤s.length∧I i st' ∧ SRel E' st' a∧Fr E0 E' ∧ E'.role b = .hid∧E'.w.heap[b]?=some (.stringIter ⟨s.toArray⟩ i)) (fun a w=>match w.heap[b]? with | some (.stringIter z p)=>z.size - p | _=>0) ⟨0,st,E,rfl,by omega,hI,hs,hf,hr,hh⟩ ?_;rintro a _ ⟨i,st',E',rfl,hi,hI,hs',hf',hr',hh'⟩;obtain⟨hsl,hl1,hl2⟩:=hslot i st' hI;have hlen:st'.t.length=a.tmps.size:=by have:=RL_length hs'.slot;simpa using this
  have hdI:a.eval (.tmp dI) = .pointer (some ⟨b,0,none⟩):=by
    have:=eval_R hs'.slot dI
    rw[show ev st' (.s dI)=st'.t.getD dI .any from rfl,hsl] at this;simpa [R] using this
  have hg0:ops1[0]?=some oN:=by rw[←Array.getElem?_toList,h1];rfl
  have hg1:ops1[1]?=some oM:=by rw[←Array.getElem?_toList,h1];rfl
  have hsz:ops1.size=2:=by rw[←Array.length_toList,h1];rfl
  refine wp_seq (wp_region ?_);rw[hsz];show wpOps P ops1 _ [0,1] a E'.w;have step:∀(y:Value) (t:V) (us:Array Value) (bb:Bool) (w1:World) (E1:Env),(Instr.next (.pointer (some ⟨b,0,none⟩)) true oN.type).run P E'.w = .ok y w1→y = .tuple us→us[0]?=some (.bool bb)→E1.w=w1→SRel E1 st' a→R E1 t y →
      ∀(QQ:Exit→Act→World→Prop),(∀a',SRel E1 ((st'.put (some dN) t).put (some dM) (.bool bb)) a' → a'.eval (.tmp dM) = .bool bb→QQ .normal a' w1)→wpOps P ops1 QQ [0,1] a E'.w:=by
    intro y t us bb w1 E1 hrun hy hus hw hs1 hR QQ hQ;subst hy;simp only[wpOps,hg0,hg1];rw[if_pos (by simp[Region.wanted,hNg])];left;unfold Oper.wp;rw[show (execOp a.eval oN).run P E'.w = .ok (.value (.tuple us)) w1 by simp[execOp,hN,hdI,hrun]];simp only[Oper.upon];rw[if_pos (by simp[Region.wanted,hMg])];left;have he:(a.put (some dN) (.tuple us)).eval (.tmp dN) = .tuple us:=eval_put (by omega);rw[hNd,show (execOp (a.put (some dN) (.tuple us)).eval oM).run P w1 = .ok (.value (.bool bb)) w1 by simp[execOp,hM,he,Instr.extract,hus]];simp only[hMd];refine hQ _ ?_ (eval_put (by simp[Act.put];omega));exact SRel.put (SRel.put hs1 hR (some dN)) (by simp[R]) (some dM)
  by_cases hlt:i<s.length
  · have hget:s[i]?=some s[i]:=List.getElem?_eq_getElem hlt;have hby:(⟨s.toArray⟩:ByteArray).get! i=s[i]:=by simp[ByteArray.get!,hlt]
    have hrun:=run_next (P:=P) (t:=oN.type) hh' (by simpa [ByteArray.size] using hlt) (by rw[hby];exact hasc _ (List.getElem_mem hlt));rw[hby] at hrun;refine step _ (.tup [.bool true,.int .i64 (i:Nat),.int .i32 (s[i].toNat:Nat)]) _ true _ (E'.setO b (.stringIter ⟨s.toArray⟩ (i+1))) hrun rfl rfl rfl (SRel.setO hr' hs') (by simp[R,RL]) _ ?_;intro a' hsa hea;refine wp_seq (wp_cond_true hea (wp_skip ?_));refine wp_block ?_;have hf2:Fr E0 (E'.setO b (.stringIter ⟨s.toArray⟩ (i+1))):=Fr.setO hf' hr' hb0 hh';have hh2:(E'.setO b (.stringIter ⟨s.toArray⟩ (i+1))).w.heap[b]?=some (.stringIter ⟨s.toArray⟩ (i+1)):=setO_same hh';have hlt2:b<(E'.setO b (.stringIter ⟨s.toArray⟩ (i+1))).w.heap.size:=(Array.getElem?_eq_some_iff.1 hh2).1;refine wp_mono (hbody i s[i] st' hget hI _ a' hsa) ?_;rintro e a2 w2 ⟨E3,st3,rfl,hs3,hf3,hq⟩;have hk3:=hf3.same b hlt2 (.inr hr');have norm:Upd st3 (I (i+1))→(∃i st' E',E'.w=E3.w∧i≤s.length∧I i st' ∧ SRel E' st' a2∧Fr E0 E' ∧ E'.role b = .hid∧E'.w.heap[b]?=some (.stringIter ⟨s.toArray⟩ i)) ∧
        (match E3.w.heap[b]? with | some (.stringIter z p)=>z.size - p | _=>0)<(match E'.w.heap[b]? with | some (.stringIter z p)=>z.size - p | _=>0):=by
      intro hU;obtain⟨E4,st4,hw4,hf4,hs4,hI4⟩:=hU E3 a2 hs3;have hb3:b<E3.w.heap.size:=by rw[hh2] at hk3;exact(Array.getElem?_eq_some_iff.1 hk3.1).1
      have hk4:=hf4.same b hb3 (.inr (hk3.2.trans hr'));refine⟨⟨i+1,st4,E4,hw4,hlt,hI4,hs4,(hf2.trans hf3).trans hf4,hk4.2.trans (hk3.2.trans hr'),hk4.1.trans (hk3.1.trans hh2)⟩,?_⟩;rw[hk3.1,hh2,hh'];simp only[ByteArray.size,List.size_toArray];omega
    cases e with
    | normal=>exact norm hq
    | exit id =>
      simp only[Blk,RPost] at hq;simp only[Exit.inBlock,Exit.then]
      by_cases e1:id=nxt
      · rw[if_pos e1] at hq ⊢;exact norm hq
      · rw[if_neg e1] at hq ⊢
        by_cases e2:id=out
        · rw[if_pos e2] at hq ⊢;exact⟨E3,st3,rfl,hs3,hf2.trans hf3,hq⟩
        · rw[if_neg e2] at hq ⊢;exact⟨E3,st3,rfl,hs3,hf2.trans hf3,hq⟩
    | goto l=>exact⟨E3,st3,rfl,hs3,hf2.trans hf3,hq⟩
    | ret=>exact⟨E3,st3,rfl,hs3,hf2.trans hf3,hq⟩
    | panic c=>exact⟨E3,st3,rfl,hs3,hf2.trans hf3,hq⟩
    | outgrown=>exact⟨E3,st3,rfl,hs3,hf2.trans hf3,hq⟩
  · have hie:i=s.length:=by omega
    subst hie;have hrun:=run_next_end (P:=P) (t:=oN.type) hh' (by simp[ByteArray.size]);refine step _ (.tup [.bool false]) _ false _ E' hrun rfl rfl rfl hs' (by simp[R,RL]) _ ?_;intro a' hsa hea;refine wp_seq (wp_cond_false hea (wp_exit ?_));simp only[Exit.then,Exit.inBlock,if_true];exact⟨E',_,rfl,hsa,hf',hend st' hI⟩
theorem pwp_rangeS {VB:(Exit→St→Prop)→St→Prop} {hn:List Nat} {ops0 ops1:Array Oper} {os:List Oper} {oR oN oM:Oper} {l0:List AO} {xt:TypeId} {ox:Operand} {x:X} {dI dN dM i0 i1 out nxt:Nat} {cb:Code} {Q:Exit→St→Prop} {st:St}
    (h0:ops0.toList=os++[oR]) (hR:oR.op = .range xt ox) (hRd:oR.dst=some dI) (hRg:oR.guard=none) (ht:P.underlying xt=some .string) (hl:lowListH P hn ops0 os=some l0) (hx:lowX P xt ox=some x)
    (h1:ops1.toList=[oN,oM]) (hN:oN.op = .next (.tmp dI) true) (hNd:oN.dst=some dN) (hNg:oN.guard=none) (hM:oM.op = .extract (.tmp dN) 0) (hMd:oM.dst=some dM) (hMg:oM.guard=none)
    (hVB:∀Q st,VB Q st→pwp P cb Q st) (h:vcOps P l0 (fun st1=>∃s:List UInt8,ev st1 x = .str s∧(∀c∈s,c.toNat<128)∧∃I:Nat→Nat→St→Prop,
      (∀b,Upd (st1.put (some dI) (.raw (.pointer (some ⟨b,0,none⟩)))) (I b 0)) ∧
      (∀b i st',I b i st' → st'.t.getD dI .any = .raw (.pointer (some ⟨b,0,none⟩))∧dN<st'.t.length∧dM<st'.t.length) ∧
      (∀b i c st',s[i]?=some c→I b i st' → VB (Blk nxt (RPost out (I b (i+1)) Q)) ((st'.put (some dN) (.tup [.bool true,.int .i64 (i:Nat),.int .i32 (c.toNat:Nat)])).put (some dM) (.bool true))) ∧
      (∀b st',I b s.length st' → Q .normal ((st'.put (some dN) (.tup [.bool false])).put (some dM) (.bool false)))) st) :
    pwp P (.seq (.region i0 ops0 false) (.block out (.loop (.seq (.region i1 ops1 false) (.seq (.cond (.tmp dM) .skip (.exit out)) (.block nxt cb)))))) Q st:=by
  intro E a hs;refine wp_seq (wp_region ?_);have hsz:ops0.size=os.length+1:=by rw[←Array.length_toList,h0];simp
  have hget:∀j:Nat,ops0[j]?=(os++[oR])[j]?:=fun j=>by rw[←h0];simp
  rw[List.range_eq_range',hsz,List.range'_concat,show 0+1*os.length=os.length by omega];refine ops_sound (rest:=[os.length]) (K:=_) (E0:=E) ?_ os l0 0 hl ?_ E st a hs (Fr.refl E) h
  · rintro E1 st1 a1 hs1 hf1 ⟨s,hev,hasc,I,hU,hslot,hbody,hend⟩;have ho:ops0[os.length]?=some oR:=by rw[hget];simp
    simp only[wpOps,ho];rw[if_pos (by simp[Region.wanted,hRg])];left;have hxv:=lowX_R (E:=E1) (st:=st1) (a:=a1) hs1.slot hx;rw[hev] at hxv;simp only[R] at hxv;have hrun:(execOp a1.eval oR).run P E1.w = .ok (.value (.pointer (some ⟨E1.w.heap.size,0,none⟩))) (E1.w.alloc (.stringIter ⟨s.toArray⟩ 0)):=by simp[execOp,hR,hxv,run_range ht]
    unfold Oper.wp;rw[hrun];simp only[Oper.upon,hRd];obtain⟨f2,s2,r2,b2⟩:=newI_spec (s:=⟨s.toArray⟩) (p:=0) hs1;have s3:SRel (E1.newI (.stringIter ⟨s.toArray⟩ 0)) (st1.put (some dI) (.raw (.pointer (some ⟨E1.w.heap.size,0,none⟩)))) (a1.put (some dI) (.pointer (some ⟨E1.w.heap.size,0,none⟩))):=SRel.put s2 (by simp[R]) (some dI);obtain⟨E4,st4,hw4,hf4,hs4,hI4⟩:=hU E1.w.heap.size _ _ s3;have hlt2:E1.w.heap.size<(E1.newI (.stringIter ⟨s.toArray⟩ 0)).w.heap.size:=(Array.getElem?_eq_some_iff.1 b2).1;have hk4:=hf4.same E1.w.heap.size hlt2 (.inr r2)
    have:=rounds (i1:=i1) (out:=out) (nxt:=nxt) (I:=I E1.w.heap.size) h1 hN hNd hNg hM hMd hMg hf1.size hasc (hslot E1.w.heap.size) (fun i c st' hc hI=>hVB _ _ (hbody E1.w.heap.size i c st' hc hI)) (hend E1.w.heap.size) hs4 ((hf1.trans f2).trans hf4) (hk4.2.trans r2) (hk4.1.trans b2) hI4
    rw[hw4] at this;exact this
  · intro j hj;rw[Nat.zero_add,hget,List.getElem?_append_left hj]
theorem pwp_scope {P:Program} {c:Code} {Q:Exit→St→Prop} {st:St} (h:pwp P c (NoGo Q) st):pwp P (.scope c) Q st:=by
  intro E a hs;refine wp_scope_straight (wp_mono (h E a hs) ?_);rintro e a' w' ⟨E',st',rfl,h2,h3,h4⟩;cases e with
  | goto l=>exact h4.elim
  | _=>exact⟨E',st',rfl,h2,h3,h4⟩
theorem lowRange_spec {h:Hint} {ops0 ops1:Array Oper} {dM' out out' nxt i0 i1:Nat} {cb:Code} {y:Option AC} {z:AC} (hz:lowRange P h ops0 ops1 dM' out out' nxt y=some z) (ih:∀y',y=some y' → ∀(Q:Exit→St→Prop) (st:St),vc P y' Q st→pwp P cb Q st)
    (Q:Exit→St→Prop) (st:St) (hv:vc P z Q st):pwp P (.seq (.region i0 ops0 false) (.block out (.loop (.seq (.region i1 ops1 false) (.seq (.cond (.tmp dM') .skip (.exit out')) (.block nxt cb)))))) Q st:=by
  unfold lowRange at hz;split at hz
  case h_2=>simp at hz
  rename_i oR oN oM y' hl h1;split at hz
  case h_2=>simp at hz
  rename_i xt ox dI dI' dN dN' dM g1 g2 g3 g4 g5 g6 g7 g8 g9;split at hz
  case h_2=>simp at hz
  rename_i l x k1 k2 k3;split at hz
  case isFalse=>simp at hz
  rename_i he;obtain⟨rfl,rfl,rfl,rfl⟩:=he;simp only[Option.some.injEq] at hz;subst hz;have h0:ops0.toList=ops0.toList.dropLast++[oR]:=by
    obtain⟨ys,hys⟩:=List.getLast?_eq_some_iff.1 hl;rw[hys];simp
  exact pwp_rangeS (VB:=vc P y') h0 g1 g2 g3 k1 k2 k3 h1 g4 g5 g6 g7 g8 g9 (ih y' rfl) hv
theorem lowC_seq {h:Hint} {a b:Code} {z:AC} (hz:lowC P h (.seq a b)=some z):(∃x y,lowC P h a=some x∧lowC P h b=some y∧z = .seq x y) ∨
    (∃i0 ops0 out i1 ops1 dM' out' nxt cb,a = .region i0 ops0 false∧b = .block out (.loop (.seq (.region i1 ops1 false) (.seq (.cond (.tmp dM') .skip (.exit out')) (.block nxt cb))))∧lowRange P h ops0 ops1 dM' out out' nxt (lowC P h cb)=some z):=by
  have gen:(match lowC P h a,lowC P h b with | some x,some y=>some (AC.seq x y) | _,_=>none)=some z→∃x y,lowC P h a=some x∧lowC P h b=some y∧z = .seq x y:=by
    intro e;split at e
    · rename_i x y hx hy;simp only[Option.some.injEq] at e;exact⟨x,y,hx,hy,e.symm⟩
    · simp at e
  unfold lowC at hz;split at hz
  all_goals (try (exfalso;simp_all;done))
  · rename_i heq;simp only[Code.seq.injEq] at heq;obtain⟨rfl,rfl⟩:=heq;split at hz
    · rename_i r hr;exact .inr ⟨_,_,_,_,_,_,_,_,_,rfl,rfl,by rw[hr];exact hz⟩
    · exact .inl (gen hz)
  · rename_i heq;simp only[Code.seq.injEq] at heq;obtain⟨rfl,rfl⟩:=heq;exact .inl (gen hz)
theorem tail_sound {hn:List Nat} {ops:Array Oper} {id:Nat} {p:List (AO × List Nat) × List AO} (hl:lowTail P hn ops=some p) {Q:Exit→St→Prop} {st:St} (h:vc P (.seq (.draw p.1) (.reg p.2)) Q st) :
    pwp P (.region id ops true) Q st:=by
  unfold lowTail at hl;split at hl
  · simp at hl
  rename_i k hk;split at hl
  case h_2=>simp at hl
  rename_i l m h1 h2;obtain rfl:=Option.some.inj hl;have T:=tail_facts (List.find?_some hk);obtain⟨b,F,hbl,hf,hlow⟩:=lowDraw_spec h1;have hlt:=T.lt;have hsz1:(ops.extract 0 k).size=k:=by simp;omega
  have hget:∀i,i<k→(ops.extract 0 k)[i]?=ops[i]?:=fun i hi=>by
    rw[Array.getElem?_extract];simp;intro h;omega
  have hg:∀(i:Nat) o,i<k→ops[i]?=some o→∀j want,o.guard=some (j,want)→j<k:=fun i o hi ho j want hgd=>by
    obtain⟨x,_,hx⟩:=hlow i o (by rw[hget i hi];exact ho);unfold lowAO at hx;split at hx
    · simp at hx
    rw[hgd] at hx;simp only at hx;cases hj:(ops.extract 0 k)[j]? with
    | none=>rw[hj] at hx;simp at hx
    | some o' =>
      have:=(Array.getElem?_eq_some_iff.1 hj).1
      omega
  simp only[vc] at h;intro E a hs;refine wp_region_any hf ?_;have hd:=draw_soundK (X:=fun _ _ _=>True) F hbl h hs (Q:=fun e a' w' => ∃E' st',E'.w=w' ∧ SRel E' st' a' ∧ Fr E E' ∧ Q e st')
    (N:=fun a w=>wpOps P ops (fun e a' w' => ∃E' st',E'.w=w' ∧ SRel E' st' a' ∧ Fr E E' ∧ Q e st') (List.range' k (ops.size - k)) a w)
    (fun E' st' a' q1 q2 q3=>by
      have:=ops_sound (P:=P) (ops:=ops) (K:=Q .normal) (E0:=E) (Q:=fun e a' w' => ∃E' st',E'.w=w' ∧ SRel E' st' a' ∧ Fr E E' ∧ Q e st') (rest:=[]) (fun E' st' a' h1 h2 h3=>⟨E',st',rfl,h1,h2,h3⟩) (ops.toList.drop k) _ k h2 (fun j hj=>by simp) E' st' a' q1 q2 q3
      simpa using this)
    (fun _=>trivial) fun i o ho=>by
      obtain⟨x,h1,h2⟩:=hlow i o ho;exact⟨x,h1,.inl ⟨h2,fun _ _ _ _ _ _ _=>trivial⟩⟩
  rw[hsz1] at hd
  have:=any_tail T hg (fun _ _ h=>h) k (Array.replicate k false) (Array.replicate ops.size false) a _ (by simp) (by simp) (fun i o _ hli=>by by_cases hj:i<ops.size<;>simp[hj] at hli) (fun j hj=>by simp[hj,show j<ops.size by omega]) (fun j _ hj=>by simp[hj]) hd
  rwa [show k+(ops.size - k)=ops.size by omega] at this
theorem vc_sound {h:Hint}:∀(c:Code) (x:AC),lowC P h c=some x→∀(Q:Exit→St→Prop) (st:St),vc P x Q st→pwp P c Q st
  | .skip,x,hl,Q,st,h=>by simp only[lowC,Option.some.injEq] at hl;subst hl;exact pwp_skip h
  | .region id ops false, x, hl, Q, st, h => by
    simp only[lowC,Option.map_eq_some_iff] at hl;obtain⟨l,hl,rfl⟩:=hl;refine upd_sound (fun Q st h E a hs=>?_) _ Q st h;refine wp_region ?_
    have:=ops_sound (P:=P) (ops:=ops) (K:=Q .normal) (E0:=E) (Q:=fun e a' w' => ∃E' st',E'.w=w' ∧ SRel E' st' a' ∧ Fr E E' ∧ Q e st') (rest:=[]) (fun E' st' a' h1 h2 h3=>⟨E',st',rfl,h1,h2,h3⟩) ops.toList l 0 hl (fun j _=>by simp) E st a hs (Fr.refl E) h
    rw[List.range_eq_range'];simpa using this
  | .region id ops true, x, hl, Q, st, h => by
    simp only[lowC] at hl;split at hl
    · simp only[Option.map_eq_some_iff] at hl;obtain⟨p,hl,rfl⟩:=hl;exact upd_sound (fun Q st h=>tail_sound hl h) _ Q st h
    split at hl
    · rename_i l hl';simp only[Option.some.injEq] at hl;subst hl;refine upd_sound (fun Q st h=>?_) _ Q st h;exact pwp_mono (draw_sound hl' h) fun e st' ⟨h1,h2⟩=>by subst h1;exact h2
    · split at hl
      · rename_i p hl';obtain⟨l,hi⟩:=p;simp only[Option.some.injEq] at hl;subst hl;refine upd_sound (fun Q st h=>?_) _ Q st h;exact pwp_mono (hole_sound hl' h) fun e st' ⟨h1,h2⟩=>by subst h1;exact h2
      · simp only[Option.map_eq_some_iff] at hl;obtain⟨⟨nv,l⟩,hl,rfl⟩:=hl;refine upd_sound (fun Q st h=>?_) _ Q st h;obtain⟨t,h1,h2⟩:=h;obtain⟨_,k2,_,k4⟩:=anyAt_spec h1;intro E a hs
        have:=drawA_sound (st:=⟨t,st.loc,st.out⟩) (id:=id) hl k2 h2 E a ⟨hs.ok,hs.okL,hs.defers,k4 E _ hs.slot⟩
        exact wp_mono this fun e a' w' ⟨E',st',m1,m2,m3,m4,m5⟩=>⟨E',st',m1,m2,m3,by subst m4;exact m5⟩
  | .seq a b, x, hl, Q, st, h => by
    rcases lowC_seq hl with ⟨y,z,hy,hz,rfl⟩ | ⟨i0,ops0,out,i1,ops1,dM',out',nxt,cb,rfl,rfl,hz⟩
    · refine pwp_seq (pwp_mono (vc_sound a y hy _ st h) fun e st' he=>?_);cases e with
      | normal=>exact vc_sound b z hz Q st' he
      | _=>exact he
    · exact lowRange_spec hz (fun y' hy=>vc_sound cb y' hy) Q st h
  | .cond c a b, x, hl, Q, st, h => by
    simp only[lowC] at hl;split at hl
    case h_2=>simp at hl
    rename_i ax y z hx hy hz;simp only[Option.some.injEq] at hl;subst hl;simp only[vc] at h;split at h
    case h_2=>exact h.elim
    rename_i b' hb;intro E ac hs;have hR:=lowX_R (E:=E) (st:=st) (a:=ac) hs.slot hx;rw[hb] at hR;simp only[R] at hR;exact wp_cond_split hR (fun ht=>vc_sound a y hy Q st (h.1 ht) E ac hs) (fun ht=>vc_sound b z hz Q st (h.2 ht) E ac hs)
  | .block id a, x, hl, Q, st, h => by
    simp only[lowC,Option.map_eq_some_iff] at hl;obtain⟨y,hy,rfl⟩:=hl;exact pwp_block (vc_sound a y hy _ st h)
  | .loop a, x, hl, Q, st, h => by
    simp only[lowC,Option.map_eq_some_iff] at hl;obtain⟨y,hy,rfl⟩:=hl;obtain⟨ι,I,μ,h0,hr⟩:=h;exact pwp_loop I μ h0 fun i=>vc_sound a y hy _ (I i) (hr i)
  | .exit id,x,hl,Q,st,h=>by simp only[lowC,Option.some.injEq] at hl;subst hl;exact pwp_exit h
  | .ret,x,hl,Q,st,h=>by simp only[lowC,Option.some.injEq] at hl;subst hl;exact pwp_ret h
  | .label l,x,hl,Q,st,h=>by simp only[lowC,Option.some.injEq] at hl;subst hl;exact pwp_label h
  | .goto l,x,hl,Q,st,h=>by simp[lowC] at hl
  | .scope a, x, hl, Q, st, h => by
    simp only[lowC,Option.map_eq_some_iff] at hl;obtain⟨y,hy,rfl⟩:=hl;exact pwp_scope (vc_sound a y hy _ st h)
  | .refuse w,x,hl,Q,st,h=>by simp[lowC] at hl
  | .rangeFunc f p a b,x,hl,Q,st,h=>by simp[lowC] at hl
inductive RV where
  | tmp (t:Nat)
  | cell (t:Nat) (agg:Bool) (n:Nat)
def lowRV (P:Program):ResultVar→Option RV
  | .tmp t=>some (.tmp t)
  | .cell a t=>match aggOf P t,sizeV P t with | some g,some n=>some (.cell a g n) | _,_=>none
def lowRVs (P:Program):List ResultVar→Option (List RV)
  | []=>some []
  | r::rs=>(lowRV P r).bind fun x=>(lowRVs P rs).map (x::·)
def rv (st:St):RV→Option V
  | .tmp t=>some (st.t.getD t .any)
  | .cell t g n=>ldV st g n (st.t.getD t .any)
def rvs (st:St):List RV→Option (List V)
  | []=>some []
  | r::rs=>(rv st r).bind fun x=>(rvs st rs).map (x::·)
def one1:List V→V
  | [x]=>x
  | xs=>.tup xs
def Store.sub (σ' σ:Store):Prop:=(∀b cs,σ'.box b=some cs→σ.box b=some cs)∧(∀t n,σ'.tip t=some n→σ.tip t=some n)∧∀b cs,σ'.con b=some cs→σ.con b=some cs
theorem Store.sub_refl (σ:Store):σ.sub σ:=⟨fun _ _ h=>h,fun _ _ h=>h,fun _ _ h=>h⟩
def RetK (R' : V→Store→Prop) (st:St):V→Prop:=fun v=>v.nol=true∧∃σ' : Store,σ'.sub st.out∧R' v.erase σ'
def RetQ (rs:List RV) (R' : V→Store→Prop):Exit→St→Prop
  | .normal,st | .ret,st=>opt ((rvs st rs).map one1) (RetK R' st)
  | _,_=>False
theorem rvs_R {E:Env} {st:St} {a:Act} (hs:SRel E st a):∀{rs:List ResultVar} {ys:List RV} {vs:List V},lowRVs P rs=some ys→rvs st ys=some vs →
    ∃us:List Value,(rs.mapM fun | .tmp t=>pure (a.tmps.getD t undef) | .cell ad t=>do loadVar t (←asAddr (a.tmps.getD ad undef)):Sem (List Value)).run P E.w = .ok us E.w∧RL E vs us
  | [], ys, vs, h1, h2 => by
    simp only[lowRVs,Option.some.injEq] at h1;subst h1;simp only[rvs,Option.some.injEq] at h2;subst h2;exact⟨[],by simp,by simp[RL]⟩
  | r :: rs, ys, vs, h1, h2 => by
    simp only[lowRVs,Option.bind_eq_some_iff,Option.map_eq_some_iff] at h1;obtain⟨y,hy,ys',hys,rfl⟩:=h1;simp only[rvs,Option.bind_eq_some_iff,Option.map_eq_some_iff] at h2;obtain⟨v,hv,vs',hvs,rfl⟩:=h2;obtain⟨us,k1,k2⟩:=rvs_R hs hys hvs;cases r with
    | tmp t =>
      simp only[lowRV,Option.some.injEq] at hy;subst hy;simp only[rv,Option.some.injEq] at hv;subst hv;have hR:=eval_R hs.slot t;refine⟨a.tmps.getD t undef::us,?_,by simp only[RL];exact⟨hR,k2⟩⟩;rw[List.mapM_cons];simp only[Sem.run_bind,Sem.run_pure,Result.andThen_ok,k1]
    | cell ad t =>
      simp only[lowRV] at hy;split at hy
      case h_2=>simp at hy
      rename_i g n hg hn;simp only[Option.some.injEq] at hy;subst hy;simp only[rv] at hv;have hR:=eval_R hs.slot ad;have hR' : R E (st.t.getD ad .any) (a.tmps.getD ad undef):=hR;obtain⟨b,off,cs,e1,e2,e3⟩:=ldV_Rd hs hv hR';obtain⟨u,e4,e5⟩:=run_load (P:=P) hg hn e2 e3;refine⟨u::us,?_,by simp only[RL];exact⟨e5,k2⟩⟩;rw[List.mapM_cons];have e6:((do loadVar t (←asAddr (a.tmps.getD ad undef)):Sem Value)).run P E.w = .ok u E.w:=by
        rw[e1];simp only[asAddr,Sem.run_bind,Sem.run_pure,Result.andThen_ok,e4]
      rw[Sem.run_bind];show ((do loadVar t (←asAddr (a.tmps.getD ad undef)):Sem Value).run P E.w).andThen _=_;rw[e6,Result.andThen_ok,Sem.run_bind,k1,Result.andThen_ok,Sem.run_pure]
theorem enters_of {f:FuncId} {fn:Func} (hf:P.funcs[f]?=some fn) (hn:(fn.name == "runtime.NumGoroutine")=false) (hb:fn.body.isNone=false):Enters P f:=fun args w=>by
  have hb' : fn.body.isNone=false:=hb;simp only[callFunc,Sem.run_bind,run_program,Result.andThen_ok,hf];split
  · rename_i h;simp[hn] at h
  · split
    · rename_i h;simp at h;rw[h] at hb';simp at hb'
    · rfl
theorem pcalls {h:Hint} {f:FuncId} {fn:Func} {c:Code} {x:AC} {rs:List RV} (hf:P.funcs[f]?=some fn) (hname:(fn.name == "runtime.NumGoroutine")=false) (hb:fn.body=some c) (hl:lowC P h c=some x) (hr:lowRVs P fn.results.toList=some rs)
    {n:Nat} (hn:fn.ntmps=n) {args:List V} {σ:Store} {R' : V→Store→Prop} (hv:vc P x (RetQ rs R') ⟨args++List.replicate (n - args.length) .any,[],σ⟩):PCalls P f args σ R' := by
  refine⟨enters_of hf hname (by rw[hb];rfl),fun E vs hloc hok hargs=>?_⟩;refine calls_of_wp hf hb ?_;have hlen:=RL_length hargs;have hs:SRel E ⟨args++List.replicate (n - args.length) .any,[],σ⟩ {tmps:=vs++Array.replicate (fn.ntmps - vs.size) undef,defers:=[]}:=by
    refine⟨hok,⟨fun i cs h=>by simp at h,fun i _=>hloc i⟩,rfl,?_⟩;simp only[Array.toList_append,Array.toList_replicate];refine RL_append hargs ?_;rw[hn,show args.length=vs.size from by simpa using hlen]
    have:=RL_any (E:=E) (List.replicate (n - vs.size) undef)
    simpa using this
  refine wp_mono (vc_sound c x hl _ _ hv E _ hs) ?_;rintro e a' w' ⟨E',st',rfl,hs',hfr,hq⟩;have fin:opt ((rvs st' rs).map one1) (RetK R' st')→a'.defers=[]∧∃v,(results fn a'.tmps).run P E'.w = .ok v E'.w ∧
      ∃v' x E'' σ',Ending.returned v = .returned x∧E''.w=E'.w∧(∀i,E''.loc i=none)∧E''.ok σ' ∧ R E'' v' x∧Fr E E'' ∧ R' v' σ' := fun hq=>by
    refine⟨hs'.defers,?_⟩;unfold opt at hq;split at hq
    case h_2=>exact hq.elim
    rename_i v hv;simp only[Option.map_eq_some_iff] at hv;obtain⟨vs',hvs,rfl⟩:=hv;obtain⟨us,k1,k2⟩:=rvs_R (P:=P) hs' hr hvs;obtain⟨hnol,σ',hsub,hR'⟩:=hq;have hone:∃u,(results fn a'.tmps).run P E'.w = .ok u E'.w∧R E' (one1 vs') u:=by
      have hres:(results fn a'.tmps).run P E'.w = .ok (if h:us.toArray.size=1 then us.toArray[0] else .tuple us.toArray) E'.w:=by
        unfold results;rw[←Array.toArray_toList (xs:=fn.results),List.mapM_toArray];simp only[Sem.run_bind,Sem.run_map]
        erw [k1]
        simp only[Result.andThen_ok,Sem.run_pure]
      refine⟨_,hres,?_⟩;have hl2:=RL_length k2
      match vs',us,k2 with
      | [y], [u], k2 =>
        simp only[RL] at k2;simp[one1,k2.1]
      | [],[],k2=>simp[one1,R];exact k2
      | y :: z :: ys, u :: u' :: us', k2 =>
        simp only[one1];rw[dif_neg (by simp)];simp only[R];exact⟨_,rfl,by simpa using k2⟩
    obtain⟨u,hu,hRu⟩:=hone
    let E'' : Env:={E' with loc:=fun _=>none,role:=fun b=>match E'.role b with | .lbox _=>.hid | r=>r}
    have hrole:∀b,E''.role b=match E'.role b with | .lbox _=>.hid | r=>r:=fun _=>rfl
    have hcom:∀b o,(E''.role b).com o↔(E'.role b).com o:=fun b o=>by rw[hrole];cases E'.role b<;>simp[Role.com]
    have hlin:∀b t c,E'.role b = .lin t c→E''.role b = .lin t c:=fun b t c h=>by rw[hrole,h]
    have hle:E'.nl.le E''.nl:=⟨fun b o _ hc hv=>⟨(hcom b o).2 hc,hv⟩,fun _ _ h=>by simp at h,fun t n hn=>⟨n,hn,Nat.le_refl _,fun _ b c hb=>⟨hlin b t c hb,fun cs _ hc=>⟨cs,hc,rfl⟩⟩⟩⟩;have hfr' : Fr E' E'' := by
      refine⟨rfl,rfl,rfl,Nat.le_refl _,fun _=>rfl,hle.cell,hle.tok,fun b _ hr=>⟨rfl,?_⟩,fun b _ h=>?_,fun b t c _ h=>?_,fun b i _ h=>?_,fun _ c _ h=>⟨c,h,rfl⟩⟩
      · rw[hrole];rcases hr with hr | hr<;>rw[hr]
      · rw[hrole] at h;cases hq:E'.role b<;>rw[hq] at h<;>simp at h;exact .inl rfl
      · rw[hrole] at h;cases hq:E'.role b<;>rw[hq] at h<;>simp at h;exact⟨_,by rw[h.1]⟩
      · rw[hrole] at h;cases hq:E'.role b<;>rw[hq] at h<;>simp at h
    refine⟨u,hu,(one1 vs').erase,u,E'',σ',rfl,rfl,fun _=>rfl,⟨fun b cs hcs=>?_,fun t m ht=>hs'.ok.tip t m (hsub.2.1 t m ht),fun b hb=>?_,hs'.ok.nt,fun b cs hc=>RAs.mono _ hle (hs'.ok.con b cs (hsub.2.2 b cs hc))⟩,R.erase _ (hRu.nolm _ hle hnol),hfr.trans hfr',hR'⟩
    · obtain⟨h1,h2⟩:=hs'.ok.box b cs (hsub.1 b cs hcs);exact⟨by rw[hrole,h1],h2.mono hle rfl⟩
    · rw[hrole,hs'.ok.fresh b hb]
  cases e with
  | normal=>exact fin hq
  | ret=>exact fin hq
  | _=>exact hq.elim
end
structure IsFn (P:Program) (f:FuncId) (x:AC) (rs:List RV) (n:Nat):Prop where
  is:∃fn h,P.funcs[f]?=some fn∧(fn.name == "runtime.NumGoroutine")=false∧fn.body.bind (lowC P h)=some x∧lowRVs P fn.results.toList=some rs∧fn.ntmps=n
def slots (n:Nat) (args:List V):List V:=args++List.replicate (n - args.length) .any
theorem IsFn.calls {P:Program} {f:FuncId} {x:AC} {rs:List RV} {n:Nat} (h:IsFn P f x rs n) {args:List V} {σ:Store} {R' : V→Store→Prop} (hv:vc P x (RetQ rs R') ⟨slots n args,[],σ⟩):PCalls P f args σ R' := by
  obtain⟨fn,hi,h1,h2,h3,h4,h5⟩:=h.is;simp only[Option.bind_eq_some_iff] at h3;obtain⟨c,hb,hl⟩:=h3;exact pcalls h1 h2 hb hl h4 h5 hv
end Go.Am
