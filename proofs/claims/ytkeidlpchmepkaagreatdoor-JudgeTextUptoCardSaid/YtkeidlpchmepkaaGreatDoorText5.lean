/-
  Part 5 of the proof of JudgeTextUptoCardSaid: a logic over the model, the forms of the functions that the law reaches, and what they compute.
-/
import Derived.Test.YtkeidlpchmepkaaGreatDoorText4
set_option linter.unusedVariables false
set_option linter.unusedSimpArgs false
set_option linter.defProp false
set_option linter.unusedSectionVars false
namespace Go.Am
theorem Dq {l:List Tree} {a fin:Int} (h:a8 l a 97=true):(⟨l,a,fin,none⟩:ab).word=(wu l a,⟨l,a+1,fin,none⟩):=by
  simp[ab.word,kI h,sU h,wu]
theorem Dp {l:List Tree} {a fin:Int} (h:a8 l a 97=false):(⟨l,a,fin,none⟩:ab).word=(⟨[],0⟩,⟨l,a,fin,some (mj l a fin)⟩):=by
  simp[ab.word,lh h,Tree.zero,Tree.tok]
theorem G3 {l:List Tree} {a fin b k:Int}:(⟨l,a,fin,some b⟩:ab).take k=(.zero,⟨l,a,fin,some b⟩):=by
  simp[ab.take,ab.sees,ab.ok,ab.fail]
theorem YQ {l:List Tree} {a fin b:Int}:(⟨l,a,fin,some b⟩:ab).word=(⟨[],0⟩,⟨l,a,fin,some b⟩):=by
  simp[ab.word,G3,Tree.zero,Tree.tok]
theorem vW {i:ab} {b:Int} (h:i.bad=some b):∀n acc,(ab.fp n i acc).1.bad=some b
  | 0,_=>h
  | n+1,_=>by simp[ab.fp,h]
section
variable {N:Int} (h0:0≤N)
include h0
theorem Wo {l:List Tree} {fin:Int} (hl:j8 N l) (hf:In N fin):∀(n a:Nat) (acc:List (Word × Word)),l.length<n+a→a≤l.length →
    (sJ l fin n a acc).2 = -1∧(ab.fp n ⟨l,a,fin,none⟩ acc).1.bad=none∧(ab.fp n ⟨l,a,fin,none⟩ acc).2=(sJ l fin n a acc).1 ∨
    In N (sJ l fin n a acc).2∧(ab.fp n ⟨l,a,fin,none⟩ acc).1.bad=some (sJ l fin n a acc).2
  | 0,a,acc,hn,ha=>by omega
  | n + 1, a, acc, hn, ha => by
    simp only[ab.fp,sJ,ne_eq,Gl,bP];cases h1:a8 l (a:Nat) 97
    · right;simp only[b7,Dp h1,G3,YQ];refine⟨qt h0 hl hf,?_⟩;split
      · rfl
      · exact vW rfl _ _
    simp only[Dq h1,nP,bP];cases U:a8 l ((a+1:Nat):Int) 60
    · right;have tI : a8 l ((a:Int)+1) 60=false:=U;simp only[b7,lh tI,YQ,G3];refine⟨qt h0 hl hf,?_⟩;split
      · rfl
      · exact vW rfl _ _
    have tI : a8 l ((a:Int)+1) 60=true:=U;simp only[kI tI,nP,bP];rw[show (a:Int)+1+1=((a+2:Nat):Int) by omega];cases h3:a8 l ((a+2:Nat):Int) 97
    · right;simp only[b7,Dp h3,G3];refine⟨qt h0 hl hf,?_⟩;split
      · rfl
      · exact vW rfl _ _
    have jQ:=(oa h3).2;simp only[Dq h3,nP,bP];rw[show ((a+2:Nat):Int)+1=((a+3:Nat):Int) by omega]
    by_cases fS:a+3=l.length
    · left;rw[ak fS,ak (show ((a+3:Nat):Int)=(l.length:Int) by omega)];exact⟨rfl,rfl,rfl⟩
    rw[ah fS,ah (show ¬((a+3:Nat):Int)=(l.length:Int) by omega)];cases h4:a8 l ((a+3:Nat):Int) 44
    · right;simp only[b7,lh h4];exact⟨qt h0 hl hf,vW rfl _ _⟩
    simp only[kI h4,nP,bP];rw[show ((a+3:Nat):Int)+1=((a+4:Nat):Int) by omega];exact Wo hl hf n (a+4) _ (by omega) (by omega)
def PA (l:List Tree) (fin:Int) (P:ab × ag) (R:ag × Int × Int):Prop :=
  0≤R.2.2∧P.1.bad=some R.2.2∨R.2.2<0∧P=(⟨l,R.2.1,fin,none⟩,R.1)
def F7 (ks:List UInt8):Prop:=∀k∈ks,k=110∨k=102∨k=119∨k=112∨k=116∨k=114
theorem aop {l:List Tree} {fin:Int} (hl:j8 N l) (hf:In N fin) (hm:0<aP l) {k:UInt8} (c:ag) (a:Nat) (hk:k=110∨k=102∨k=119∨k=112∨k=116∨k=114) (hp:k=112→c.aV=[]) :
    PA l fin (cB k (⟨l,a,fin,none⟩,c)) (kE k c l a fin):=by
  have hs:∀b,In N (mj l b fin):=fun b=>qt h0 hl hf
  rcases hk with rfl | rfl | rfl | rfl | rfl | rfl
  · simp only[cB,kE];cases h:a8 l (a:Nat) 97
    · left;simp[Dp h];exact(hs _).1
    · right;simp[Dq h]
  · simp only[cB,kE];cases h:a8 l (a:Nat) 97
    · left;simp[Dp h];exact(hs _).1
    · right;simp[Dq h]
  · have hi:=YU h0 (a:=(a:Nat)) hl hf
    rcases as6 l (a:Nat) fin with ⟨p1,p2⟩ | ⟨p1,p2⟩
    · left;simp[cB,kE,p1,p2];exact hi.1
    · right;simp[cB,kE,p1,p2]
  · have hp:=hp rfl;cases h:a8 l (a:Nat) 123
    · left;simp[cB,kE,mN,lh h,h];exact(hs _).1
    · obtain⟨hk,o9⟩:=G7 h0 (a:=(a:Nat)) hl;have ha:=Wo h0 hk o9 ((bn l (a:Nat)).kids.length+1) 0 [] (by omega) (by omega);have dx:(bn l (a:Nat)).inner=⟨(bn l (a:Nat)).kids,((0:Nat):Int),(bn l (a:Nat)).fin,none⟩:=rfl
      by_cases hz:(bn l (a:Nat)).kids.length=0
      · right;simp only[cB,kE,mN,kI h,h,Aq];simp[hz,hp]
      · simp only[cB,kE,mN,kI h,h,Aq,dx];generalize ab.fp ((bn l (a:Nat)).kids.length+1) ⟨(bn l (a:Nat)).kids,((0:Nat):Int),(bn l (a:Nat)).fin,none⟩ []=G at ha ⊢;generalize sJ (bn l (a:Nat)).kids (bn l (a:Nat)).fin ((bn l (a:Nat)).kids.length+1) 0 []=F at ha ⊢
        rcases ha with ⟨p1,p2,p3⟩ | ⟨p1,p2⟩
        · right;simp[hz,p1,p2,p3,ab.rU]
        · left
          have:=p1.1
          simp[hz,p2,ab.rU];exact this
  · have hi:=CA h0 (aP l) l (a:Nat) fin hl hf;obtain⟨m,hm⟩:∃m,aP l=m+1:=⟨aP l - 1,by omega⟩;rw[hm] at hi;have e1:kE 116 c l (a:Nat) fin=if (hD (aP l) l (a:Nat) fin).bad=true then (c,(a:Int),(hD (aP l) l (a:Nat) fin).pos) else (if c.left.kind=0 then {c with left:=(hD (aP l) l (a:Nat) fin).node} else {c with right:=(hD (aP l) l (a:Nat) fin).node},(hD (aP l) l (a:Nat) fin).next,-1):=rfl
    have e2:cB 116 (⟨l,a,fin,none⟩,c)=gW ⟨l,a,fin,none⟩ c (eh (ab.label (aP l)) l (a:Nat) fin):=rfl;rw[e1,e2,hm];have ha:=W4 (KG (m+1)) l (a:Nat) fin;generalize eh (ab.label (m+1)) l (a:Nat) fin=T at ha ⊢;generalize hD (m+1) l (a:Nat) fin=g at ha hi ⊢
    rcases ha with ⟨p1,p2⟩ | ⟨p1,p2⟩
    · left;rw[ak p1,p2];exact⟨hi.1,rfl⟩
    · right;rw[ah (by simp[p1]),p2];exact⟨show (-1:Int)<0 by decide,rfl⟩
  · have hi:=Xe h0 (aP l) l (a:Nat) fin hl hf;obtain⟨m,hm⟩:∃m,aP l=m+1:=⟨aP l - 1,by omega⟩;rw[hm] at hi;have e1:kE 114 c l (a:Nat) fin=if (kF (aP l) l (a:Nat) fin).bad=true then (c,(a:Int),(kF (aP l) l (a:Nat) fin).pos) else (if c.left.kind=0 then {c with left:=(kF (aP l) l (a:Nat) fin).node} else {c with right:=(kF (aP l) l (a:Nat) fin).node},(kF (aP l) l (a:Nat) fin).next,-1):=rfl
    have e2:cB 114 (⟨l,a,fin,none⟩,c)=gW ⟨l,a,fin,none⟩ c (eh (ab.row (aP l)) l (a:Nat) fin):=rfl;rw[e1,e2,hm];have ha:=W4 (aqg m) l (a:Nat) fin;generalize eh (ab.row (m+1)) l (a:Nat) fin=T at ha ⊢;generalize kF (m+1) l (a:Nat) fin=g at ha hi ⊢
    rcases ha with ⟨p1,p2⟩ | ⟨p1,p2⟩
    · left;rw[ak p1,p2];exact⟨hi.1,rfl⟩
    · right;rw[ah (by simp[p1]),p2];exact⟨show (-1:Int)<0 by decide,rfl⟩
theorem Gz {b:Int}:∀(ks:List UInt8) (x:ab × ag),x.1.bad=some b→(gq ks x).1.bad=some b
  | [],_,h=>h
  | k :: ks, x, h => by
    simp only[gq];exact Gz ks _ (by simp[cB,h])
theorem aoo {k:UInt8} {c:ag} {l:List Tree} {a fin:Int} (hk:k≠112):(kE k c l a fin).1.aV=c.aV:=by
  unfold kE;split
  · split
    · split<;>rfl
    · rfl
  split
  · split<;>rfl
  generalize (if k=114 then kF (aP l) l a fin else hD (aP l) l a fin)=g;simp only[];cases g.bad
  · simp only[cI,bP];split<;>rfl
  · rfl
theorem LA {l:List Tree} {fin:Int} (hl:j8 N l) (hf:In N fin) (hm:0<aP l):∀(ks:List UInt8) (c:ag) (a:Nat),F7 ks→ks.count 112≤1→(112∈ks→c.aV=[]) →
    PA l fin (gq ks (⟨l,a,fin,none⟩,c)) (sK l fin ks c a)
  | [],c,a,_,_,_=>.inr ⟨by simp[sK],rfl⟩
  | k :: ks, c, a, hk, hc, hp => by
    have h1:=aop h0 hl hf hm c a (hk k (by simp)) (fun h=>hp (by simp[h]));obtain⟨a',E7,_⟩:=aon k c l a fin;have Fw:=aoo h0 (k:=k) (c:=c) (l:=l) (a:=(a:Nat)) (fin:=fin);simp only[gq,sK];generalize kE k c l (a:Nat) fin=R at h1 E7 Fw ⊢
    rcases h1 with ⟨p1,p2⟩ | ⟨p1,p2⟩
    · rw[ak p1];exact .inl ⟨p1,Gz h0 ks _ p2⟩
    · rw[ah (by omega),p2,E7]
      by_cases e:k=112
      · have hn:ks.count 112=0:=by rw[e] at hc;rw[Nn] at hc;omega
        exact LA hl hf hm ks _ a' (fun k h=>hk k (by simp[h])) (by omega) (fun h=>absurd h (Np.1 hn))
      · refine LA hl hf hm ks _ a' (fun k h=>hk k (by simp[h])) ?_ (fun h=>?_)
        · rw[List.count_cons_of_ne e] at hc;exact hc
        · rw[Fw e];exact hp (by simp[h])
end
theorem V6 {w:List UInt8}:∀n op,(∀k:Nat,op≤k→k<op+n→0<k→(bT k).1≠w)→mc w n op=0
  | 0,_,_=>rfl
  | n + 1, op, h => by
    simp only[mc];rw[ah (fun⟨x,y⟩=>h op (by omega) (by omega) x y)];exact V6 n (op+1) fun k a b c=>h k (by omega) (by omega) c
theorem Wb {w:List UInt8} (r:Int):∀n op,(∀k:Nat,op≤k→k<op+n→(bT k).1≠w)→yn w n op r=r
  | 0,_,_=>rfl
  | n + 1, op, h => by
    simp only[yn];rw[ah (fun e=>h op (by omega) (by omega) e.symm)];exact Wb r n (op+1) fun k a b=>h k (by omega) (by omega)
theorem am6 (w:List UInt8):gM w=yn w 15 1 0:=by
  by_cases h:∃k:Nat,k<16∧0<k∧(bT k).1=w
  · obtain⟨k,h1,U,rfl⟩:=h;have key:∀k:Nat,k<16→0<k→mc (bT k).1 16 0=yn (bT k).1 15 1 0:=by decide +kernel
    exact key k h1 U
  · have hn:∀k:Nat,k<16→0<k→(bT k).1≠w:=fun k h1 U e=>h ⟨k,h1,U,e⟩
    unfold gM;rw[V6 16 0 (fun k _ h1 U=>hn k (by omega) U),Wb 0 15 1 (fun k h1 U=>hn k (by omega) (by omega))]
theorem EN (op:Int):F7 (bT op).2∧(bT op).2.count 112≤1:=by
  unfold bT F7;split
  · rename_i h1;have aj:op.toNat<16:=by omega
    generalize op.toNat=n at aj ⊢;have key:∀n<16,(∀k∈(iU.getD n ([],[])).2,k=110∨k=102∨k=119∨k=112∨k=116∨k=114)∧(iU.getD n ([],[])).2.count 112≤1:=by decide +kernel
    exact key n aj
  · simp
theorem ab8 {N:Int} (h0:0≤N) {l:List Tree} {fin:Int} (hl:j8 N l) (hf:In N fin):qA l fin=r5 l fin:=by
  cases l with
  | nil=>rfl
  | cons t ts =>
    have hm:0<aP (t::ts):=by have:=kB (t::ts);simp at this;omega
    have hk:a8 (t::ts) ((0:Nat):Int) 97=decide (t.tok.kind=97):=by simp[a8]
    unfold qA r5;simp only
    by_cases fw:t.tok.kind=97
    · have pX:a8 (t::ts) 0 97=true:=by have:=hk;simp only[fw,bZ] at this;exact this
      have hw:(⟨t::ts,0,fin,none⟩:ab).word=(⟨t.tok.text,t.tok.pos⟩,⟨t::ts,((1:Nat):Int),fin,none⟩):=by
        rw[Dq pX];rfl
      simp only[hw,ak fw,←am6];generalize gM t.tok.text=op
      by_cases hz:op=0
      · rw[ak hz,ak hz]
      · rw[ah hz,ah hz];obtain⟨f1,f2⟩:=EN op;have Cg:=LA h0 hl hf hm (bT op).2 {ag.zero with op:=op,pos:=t.tok.pos} 1 f1 f2 (fun _=>rfl);rw[show ((1:Nat):Int)=1 from rfl] at Cg ⊢;generalize sK (t::ts) fin (bT op).2 {ag.zero with op:=op,pos:=t.tok.pos} 1=R at Cg ⊢
        rcases Cg with ⟨p1,p2⟩ | ⟨p1,p2⟩
        · rw[ak p1];unfold tB;simp[p2]
        · rw[ah (by omega),p2];unfold tB
          by_cases fS:R.2.1<((t::ts).length:Int)
          · rw[ak fS];simp only[nL,ak fS,ab.fail,AA]
          · rw[ah fS];simp only[nL,ah fS]
    · have pX:a8 (t::ts) 0 97=false:=by have:=hk;simp only[fw,fh] at this;exact this
      rw[Dp pX,ah fw]
      have:gM []=0:=by decide +kernel
      simp only[this,b7]
theorem apU (s:List UInt8):cO s=LV s:=by
  unfold cO LV;rw[yJ];have h:=(Vq s).1;rw[ab8 (N:=s.length) (by omega) h ⟨by omega,by omega⟩]
  all_goals rcases (c_ s).2 with _ | a<;>first | rfl | (cases (gf (c_ s).1).2<;>rfl)
theorem LF {c:ag} (h:c.eB=true) (h1:1≤c.op):∀q∈ky (bT c.op).2 [c.left,c.right],wJ q.1 c q.2:=by
  simp only[ag.eB,a_,bH] at h;obtain⟨⟨⟨⟨h0,hn⟩,jR⟩,hp⟩,ht⟩:=h;obtain⟨hk,_,_⟩:=BJ h1 h0.2;simp only[ag.lF,ag.i_,ag.jZ,ag.iN,dP] at hn jR hp ht;have nm:∀l,mL (l.map Word.text)=true→gv l=true:=fun l h=>amu h
  simp only[Cy,j_,HO,Gs] at hk
  rcases hk with e | e | e | e | e | e | e
  all_goals simp[e] at hn jR hp ht
  all_goals simp[e,ky,isTerm,wJ]
  · exact⟨hn,jR.1,nm _ jR.2⟩
  · exact⟨hn,⟨jR.1,nm _ jR.2⟩,hp⟩
  · exact⟨hn,ht.1,ht.2⟩
  · exact⟨hn,ht.1,ht.2⟩
  · exact⟨hn,jR.1,nm _ jR.2⟩
  · exact hn
mutual
theorem Nd.v8:∀(n m:Nd),n.b9 m=true→m.b9 n=true
  | .mk k p t ws ks, m, h => by
    rw[Nd.Ax] at h;simp only[a_,bH] at h;obtain⟨⟨⟨h1,U⟩,h3⟩,h4⟩:=h;refine rl h1.symm U.symm ?_ (XV ks m.kids h4);rw[Ay] at h3 ⊢;simp only[bH] at h3 ⊢;exact h3.symm
theorem XV:∀(a b:List Nd),cH a b=true→cH b a=true
  | [],[],_=>by simp[cH]
  | [],_::_,h=>by simp[cH] at h
  | _::_,[],h=>by simp[cH] at h
  | n :: ns, m :: ms, h => by
    simp only[cH,a_] at h ⊢;exact⟨Nd.v8 n m h.1,XV ns ms h.2⟩
end
theorem XG:∀(a b:List (Word × Word)),eb a b=true→eb b a=true
  | [],[],_=>rfl
  | [],_::_,h=>by simp[eb] at h
  | _::_,[],h=>by simp[eb] at h
  | p :: ps, q :: qs, h => by
    simp only[eb,a_,bH] at h ⊢;exact⟨⟨h.1.1.symm,h.1.2.symm⟩,XG ps qs h.2⟩
theorem ag.v8 {a b:ag} (h:a.b9 b=true):b.b9 a=true:=by
  unfold ag.b9 at h ⊢;rw[Ay] at h ⊢;simp only[a_,bH] at h ⊢;obtain⟨⟨⟨⟨⟨h1,U⟩,h3⟩,h4⟩,h5⟩,h6⟩:=h;exact⟨⟨⟨⟨⟨h1.symm,U.symm⟩,h3.symm⟩,XG _ _ h4⟩,Nd.v8 _ _ h5⟩,Nd.v8 _ _ h6⟩
theorem U2 {m n:Nd} (h:m.b9 n=true):m.kind=n.kind:=by
  rw[Nd.Ax] at h;simp only[a_,bH] at h;exact h.1.1.1
theorem U4 {n:Nd} (h:n.dS=true):n.kind≠0:=by
  rcases CD h with ⟨h,_⟩ | ⟨h,_⟩ | ⟨h,_⟩<;>omega
theorem Xg {n:Nd} (h:n.h_=true):n.kind≠0:=by
  rcases C5 h with ⟨h,_⟩ | ⟨h,_⟩<;>omega
theorem ad5 {c d:ag} {p:Int} (h:c.eB=true) (h1:1≤c.op) (he:DC c (ky (bT c.op).2 [c.left,c.right]) {ag.zero with op:=c.op,pos:=p} d):d.b9 c=true:=by
  simp only[ag.eB,a_,bH] at h;obtain⟨⟨⟨⟨h0,hn⟩,jR⟩,hp⟩,ht⟩:=h;obtain⟨hk,_,_⟩:=BJ h1 h0.2;simp only[ag.lF,ag.i_,ag.jZ,ag.iN,dP] at hn jR hp ht;simp only[Cy,j_,HO,Gs] at hk;have zl:∀n:Nd,n.b9 .zero=true→Nd.zero.b9 n=true:=fun n h=>Nd.v8 _ _ h
  have hz:(Nd.zero).kind=0:=rfl;have w0:c.names=[]→c9 [] c.names=true:=fun e=>by rw[e];rfl
  have p0:c.aV=[]→eb [] c.aV=true:=fun e=>by rw[e];rfl
  rcases hk with e | e | e | e | e | e | e
  all_goals simp[e] at hn jR hp ht
  all_goals simp[e,ky,isTerm,DC,DB] at he
  · obtain⟨c1,⟨w,a1,rfl⟩,ws,a2,rfl⟩:=he;simp[ag.b9,a1,a2,ag.zero,p0 hp,zl _ ht.1,zl _ ht.2]
  · obtain⟨c1,⟨w,a1,rfl⟩,c2,⟨ws,a2,rfl⟩,ps,a3,⟨a,rfl⟩⟩:=he;simp[ag.b9,a1,a2,a3,ag.zero,zl _ ht.1,zl _ ht.2]
  · obtain⟨c1,⟨w,a1,rfl⟩,c2,⟨m,a2,rfl⟩,m2,a3,rfl⟩:=he
    have:=U2 a2
    have:=U4 ht.1
    have hm:m.kind≠0:=by omega
    simp[ag.b9,a1,a2,a3,ag.zero,hz,hm,w0 jR,p0 hp]
  · obtain⟨c1,⟨w,a1,rfl⟩,c2,⟨m,a2,rfl⟩,m2,a3,rfl⟩:=he
    have:=U2 a2
    have:=Xg ht.1
    have hm:m.kind≠0:=by omega
    simp[ag.b9,a1,a2,a3,ag.zero,hz,hm,w0 jR,p0 hp]
  · obtain⟨c1,⟨w,a1,rfl⟩,ws,a2,rfl⟩:=he;simp[ag.b9,a1,a2,ag.zero,p0 hp,zl _ ht.1,zl _ ht.2]
  · subst he;simp[ag.b9,ag.zero,hn,w0 jR,p0 hp,zl _ ht.1,zl _ ht.2]
  · obtain⟨w,a1,rfl⟩:=he;simp[ag.b9,a1,ag.zero,w0 jR,p0 hp,zl _ ht.1,zl _ ht.2]
theorem ab6 {c:ag} (h:c.eB=true) (h1:1≤c.op) {toks:List Tok} (ht:toks.map Tok.sh=C8 c) :
    ∃us:List Tree,aU us=toks∧ec us∧∀fin:Int,∃d:ag,qA us fin=(d,0,0)∧d.b9 c=true:=by
  have qG:c.op≤15:=by simp only[ag.eB,a_,bH] at h;exact h.1.1.1.1.2
  obtain⟨_,k2,k3⟩:=BJ h1 qG;unfold C8 at ht;obtain⟨t1,t2,rfl,a1,a2⟩:=ij.1 ht;obtain⟨u1,n1,f1,w1,b1⟩:=uK ⟨(bT c.op).1,0⟩ t1 a1;obtain⟨u2,f2,w2,b2⟩:=Wv (ky (bT c.op).2 [c.left,c.right]) (LF h h1) (by rw[KQ];exact(EN c.op).2) t2 a2;refine⟨u1++u2,by rw[gp,f1,f2],by rw[iS];exact⟨w1,w2⟩,fun fin=>?_⟩;obtain⟨y,q1,q2⟩:=b1 (aP u1) (bt _) [] u2 fin;have q1:(at_ [] (u1++u2) fin 0).word=(y,at_ u1 u2 fin 0):=q1;have q2:y.text=(bT c.op).1:=by simpa [mR] using q2
  obtain⟨d,e1,e2⟩:=b2 u1 fin {ag.zero with op:=c.op,pos:=y.pos} (fun _=>rfl);rw[KQ] at e1;refine⟨d,?_,ad5 h h1 e2⟩;have hq:(⟨u1++u2,0,fin,none⟩:ab).word=(y,at_ u1 u2 fin 0):=q1;obtain⟨t,ts,hu⟩:∃t ts,u1++u2=t::ts:=by
    cases u1 with
    | nil=>exact absurd rfl n1
    | cons t r=>exact⟨t,r++u2,rfl⟩
  rw[hu] at hq ⊢;unfold qA;simp only[hq,q2,k3];rw[ah (by omega),e1];unfold tB;simp[at_]
theorem anY {c:ag} (h:c.eB=true) (h0:c.op=0):fc c=[]∧ag.zero.b9 c=true:=by
  simp only[ag.eB,a_,bH] at h;obtain⟨⟨⟨⟨_,hn⟩,jR⟩,hp⟩,ht⟩:=h;have e:(bT c.op).2=[]:=by rw[h0];rfl
  have e1:(bT c.op).1=[]:=by rw[h0];rfl
  simp only[ag.lF,ag.i_,ag.jZ,ag.iN,dP] at hn jR hp ht;simp[e] at hn jR hp ht;have zl:∀n:Nd,n.b9 .zero=true→Nd.zero.b9 n=true:=fun n h=>Nd.v8 _ _ h
  refine⟨by simp[fc,jG,e,e1,iv],?_⟩;simp[ag.b9,ag.zero,h0,hn,jR,hp,c9,eb,zl _ ht.1,zl _ ht.2]
theorem apV {c:ag} (h:c.eB=true):(c_ (fc c)).2=none ∧
    ((gf (c_ (fc c)).1).2=none→∃d,cO (fc c)=(d,0,0)∧c.b9 d=true)∧(∀a,(gf (c_ (fc c)).1).2=some a→cO (fc c)=(.zero,2,a)):=by
  have h0:0≤c.op:=by simp only[ag.eB,a_,bH] at h;exact h.1.1.1.1.1
  have qG:c.op≤15:=by simp only[ag.eB,a_,bH] at h;exact h.1.1.1.1.2
  by_cases hz:c.op=0
  · obtain⟨e1,e2⟩:=anY h hz;rw[e1];refine⟨rfl,fun _=>⟨.zero,rfl,ag.v8 e2⟩,fun a ha=>?_⟩
    have:(gf (c_ []).1).2=none:=by decide +kernel
    rw[this] at ha;simp at ha
  · have h1:1≤c.op:=by omega
    obtain⟨_,k2,_⟩:=BJ h1 qG;obtain⟨l1,l2⟩:=Yz k2 (LF h h1);obtain⟨us,f1,w1,b1⟩:=ab6 h h1 l2;refine⟨l1,fun hd=>?_,fun a ha=>?_⟩
    · have ht:(gf (c_ (fc c)).1).1=us:=by rw[←f1] at hd ⊢;exact YD w1 hd
      obtain⟨d,e1,e2⟩:=b1 ((fc c).length:Nat);refine⟨d,?_,ag.v8 e2⟩;unfold cO;rw[yJ,l1,hd,ht];exact e1
    · unfold cO;rw[yJ,l1,ha]
mutual
theorem Me:∀(n m:Nd),n.b9 m=true→n.cE=m.cE
  | .mk k p t ws ks, m, h => by
    rw[Nd.Ax] at h;simp only[a_,bH] at h;obtain⟨⟨⟨h1,U⟩,h3⟩,h4⟩:=h;rw[Ay] at h3;simp only[bH] at h3;have h5:cY (Nd.mk k p t ws ks).kids=cY m.kids:=XP ks m.kids h4;have h6:gx (Nd.mk k p t ws ks).names=gx m.names:=by unfold gx;rw[h3]
    have h7:(Nd.mk k p t ws ks).names.length=m.names.length:=by have:=gm List.length h3;simpa using this
    rw[Nd.ru (.mk k p t ws ks),Nd.ru m,h1,U,h5,h6]
    first | rfl | rw[h7] | skip
theorem XP:∀(a b:List Nd),cH a b=true→cY a=cY b
  | [],[],_=>rfl
  | [],_::_,h=>by simp[cH] at h
  | _::_,[],h=>by simp[cH] at h
  | n :: ns, m :: ms, h => by
    simp only[cH,a_] at h;simp only[cY,Me n m h.1,XP ns ms h.2]
end
theorem XH:∀(a b:List (Word × Word)),eb a b=true→a.map iL=b.map iL
  | [],[],_=>rfl
  | [],_::_,h=>by simp[eb] at h
  | _::_,[],h=>by simp[eb] at h
  | p :: ps, q :: qs, h => by
    simp only[eb,a_,bH] at h;simp only[bC,iL,h.1.1,h.1.2,XH ps qs h.2]
theorem aqI {a b:ag} (h:a.b9 b=true):fc a=fc b:=by
  unfold ag.b9 at h;rw[Ay] at h;simp only[a_,bH] at h;obtain⟨⟨⟨⟨⟨h1,U⟩,h3⟩,h4⟩,h5⟩,h6⟩:=h;have hp:=XH _ _ h4;have key:∀(ks:List UInt8) (ts us:List Nd),ts.map Nd.cE=us.map Nd.cE→(ky ks ts).map (fun q=>kZ q.1 a q.2)=(ky ks us).map (fun q=>kZ q.1 b q.2):=by
    intro ks;induction ks with
    | nil=>intros;rfl
    | cons k ks ih =>
      intro ts us nq;have hh:(ts.headD .zero).cE=(us.headD .zero).cE:=by
        cases ts with
        | nil => cases us with
          | nil=>rfl
          | cons=>simp at nq
        | cons => cases us with
          | nil=>simp at nq
          | cons=>simp at nq;exact nq.1
      have ht:(if isTerm k=true then ts.tail else ts).map Nd.cE=(if isTerm k=true then us.tail else us).map Nd.cE:=by
        split
        · rw[List.map_tail,List.map_tail,nq]
        · exact nq
      simp only[ky,bC,ih _ _ ht];congr 1;unfold kZ;rw[U,h3,hp,hh]
  rw[G4,G4,h1,key _ [a.left,a.right] [b.left,b.right] (by simp[Me _ _ h5,Me _ _ h6])]
def y5 (t:Tok):Prop:=(t.kind=97∧cV t.text=true)∨∃c:UInt8,t.kind=(c.toNat:Nat)∧t.text=[c]∧(lf (c.toNat:Nat)&&!fR c&&decide (c.toNat≠45))=true
theorem arc (c:UInt8) (h:lf (c.toNat:Nat)=true):(lf (c.toNat:Nat)&&!fR c&&decide (c.toNat≠45))=true:=by
  have key:∀n<256,lf ((UInt8.ofNat n).toNat:Nat)=true→(lf ((UInt8.ofNat n).toNat:Nat)&&!fR (UInt8.ofNat n)&&decide ((UInt8.ofNat n).toNat≠45))=true:=by decide +kernel
  have:=key c.toNat c.toNat_lt
  rw[UInt8.ofNat_toNat] at this;exact this h
theorem F_:∀(n p:Nat) (r:List UInt8) (acc:List Tok),(∀t∈acc,y5 t)→∀t∈(d_ n p r acc).1,y5 t
  | 0,_,r,acc,h=>by cases r<;>simpa [d_] using h
  | n+1,p,[],acc,h=>by simpa [d_] using h
  | n + 1, p, c :: r, acc, h => by
    simp only[d_];split
    · exact h
    · split
      · rename_i hr;refine F_ n _ _ _ fun t ht=>?_
        rcases il.1 ht with ht | ht
        · exact h t ht
        · rw[lS.1 ht];exact .inl ⟨rfl,hr.2⟩
      · split
        · rename_i hs;refine F_ n _ _ _ fun t ht=>?_
          rcases il.1 ht with ht | ht
          · exact h t ht
          · rw[lS.1 ht];exact .inr ⟨c,rfl,rfl,arc c hs⟩
        · split
          · exact F_ n _ _ _ h
          · simp
def lP (l:List Tok):Nat:=(l.map fun t=>t.text.length+1).sum
theorem Hb (a b:List Tok):lP (a++b)=lP a+lP b:=by simp[lP]
theorem F':∀(n p:Nat) (r:List UInt8) (acc:List Tok),lP (d_ n p r acc).1≤lP acc+2*r.length
  | 0,_,r,acc=>by cases r<;>simp[d_]
  | n+1,p,[],acc=>by simp[d_]
  | n + 1, p, c :: r, acc => by
    simp only[d_];have hr:=L6 (c::r);simp only[cG] at hr ⊢;split
    · simp only;omega
    · split
      · rename_i h1
        have:=F' n (p+(ei (c::r)).length) ((c::r).drop (ei (c::r)).length) (acc++[⟨97,ei (c::r),p⟩])
        simp only[Hb,A_,cG] at this;simp only[lP,bC,dp,mr,oD] at this ⊢;omega
      · split
        · have:=F' n (p+1) r (acc++[⟨(c.toNat:Nat),[c],p⟩])
          simp only[Hb] at this;simp only[lP,bC,dp,mr,oD,cG,dv] at this ⊢;omega
        · split
          · have:=F' n (p+1) r acc;omega
          · simp[lP]
theorem Vp:∀(toks:List Tok) (k:Option Int),(∀t∈toks,y5 t)→kM (gY k toks) (toks.map Tok.sh)∧(k=some 97→Stop (gY k toks))
  | [],k,_=>⟨lex_nil,fun _=>trivial⟩
  | t :: ts, k, h => by
    obtain⟨h1,U⟩:=Vp ts (some t.kind) fun x hx=>h x (by simp[hx])
    rcases h t (by simp) with ⟨hk,hn⟩ | ⟨c,hk,ht,hc⟩
    · have hl:kM (t.text++gY (some t.kind) ts) ((t::ts).map Tok.sh):=by
        have:=Vk hn (U (by rw[hk])) h1
        have e:t.sh=eH t.text:=by unfold Tok.sh eH;rw[hk]
        rw[bC,e];exact this
      by_cases JT:k=some 97
      · have e:gY k (t::ts)=[32]++(t.text++gY (some t.kind) ts):=by simp[gY,JT,hk]
        rw[e];exact⟨Vn hl,fun _=>show fR 32=false by decide⟩
      · have e:gY k (t::ts)=t.text++gY (some t.kind) ts:=by simp[gY,JT]
        rw[e];exact⟨hl,fun h=>absurd h JT⟩
    · simp only[a_,rD,bH] at hc;have fw:t.kind≠97:=fun e=>by
        have h3:=hc.1.1;rw[←hk,e] at h3;revert h3;decide
      have e:gY k (t::ts)=[c]++gY (some t.kind) ts:=by simp[gY,fw,ht]
      rw[e];have es:t.sh=bl c:=by unfold Tok.sh bl;rw[hk,ht]
      rw[bC,es];exact⟨Vm hc.1.1 hc.1.2 hc.2 h1,fun _=>hc.1.2⟩
theorem alk {s:List UInt8} {a b:List Sh} (h:kM s a) (k:kM s b):a=b:=by
  obtain⟨x,e1,e2⟩:=h s.length 0 [] (bt _);obtain⟨y,f1,f2⟩:=k s.length 0 [] (bt _);rw[e1] at f1
  have:x=y:=by simpa using f1
  rw[←e2,←f2,this]
theorem X' {toks:List Tok} {T:List UInt8} {S:List Sh} (h:∀t∈toks,y5 t) (hL:iQ T S) (ht:dV toks=T):toks.map Tok.sh=S:=by
  have h1:kM (T++[]) (S++[]):=hL [] [] trivial lex_nil;rw[dn,dn,←ht] at h1;exact alk (Vp toks none h).1 h1
theorem MD:∀(toks:List Tok) (k:Option Int),(gY k toks).length≤lP toks
  | [],k=>by simp[gY]
  | t :: ts, k => by
    have:=MD ts (some t.kind)
    simp only[gY,bw,lP,bC,mr] at this ⊢;split<;>simp<;>omega
theorem arS {toks:List Tok} (h:toks≠[]):(dV toks).length+1≤lP toks:=by
  cases toks with
  | nil=>exact absurd rfl h
  | cons t ts =>
    have:=MD ts (some t.kind)
    simp only[dV,gY,bw,lP,bC,mr,reduceCtorEq,BD,bP,dv] at this ⊢;omega
theorem akF {l m:List Tok} (h:l.map Tok.kind=m.map Tok.kind) (i:Nat):dJ l i=dJ m i:=by
  have e:∀x:List Tok,dJ x i=((x.map Tok.kind)[i]?).getD 0:=fun x=>by
    unfold dJ;rw[s7];cases x[i]?<;>rfl
  rw[e,e,h]
theorem SE {l m:List Tok} (h:l.map Tok.kind=m.map Tok.kind):∀n i o,ng l n i o=ng m n i o
  | 0,_,_=>rfl
  | n + 1, i, o => by
    have hk:dJ l=dJ m:=funext (akF h);have ih:ng l n=ng m n:=funext fun i=>funext fun o=>SE h n i o
    simp only[ng,hk,ih]
theorem ar7 {l m:List Tok} (h:l.map Tok.sh=m.map Tok.sh) (hn:(gf l).2=none):(gf m).2=none:=by
  have hk:l.map Tok.kind=m.map Tok.kind:=by
    have:=gm (List.map Prod.fst) h
    simpa [A',s5,Tok.sh] using this
  have hl:l.length=m.length:=by simpa using gm List.length h
  unfold gf at hn ⊢;rw[SE hk,hl] at hn;split
  · rename_i h0;rw[ak h0] at hn;simp at hn
  · rfl
theorem IA {r r' : ab} {seg:List Tree} (h:gy r r' seg):0≤r.at_∧r'.at_=r.at_+(seg.length:Nat)∧r'.at_≤(r.l.length:Nat):=by
  obtain⟨pre,post,e1,e2,e3⟩:=h.ex;rw[e1,e2,e3];simp only[bw];refine⟨?_,?_,?_⟩<;>omega
theorem EA {r r' : ab} {seg:List Tree} (h:gy r r' seg) (hg:dr r.l):dr r'.l:=by rw[h.l];exact hg
theorem akc (x y:List UInt8) (l:List (List UInt8)):bW (x::y::l)=x++[44]++bW (y::l):=by simp[bW]
theorem ady {t:Tree} {i:ab} {seg:List Tree} (h:gy t.inner i seg) (he:i.at_=(t.kids.length:Nat)):seg=t.kids:=by
  obtain⟨pre,post,e1,e2,e3⟩:=h.ex;have e0:t.inner.at_=0:=rfl;have el:t.inner.l=t.kids:=rfl;rw[e0] at e2;have hp:pre=[]:=iD.1 (by omega);subst hp;rw[el] at e1;have hq:post=[]:=by
    rw[e3,e1] at he;simp only[gk,bw] at he;exact iD.1 (by omega)
  subst hq;simpa using e1.symm
theorem Wm:∀(n:Nat) (i:ab) (acc:List (Word × Word)),dr i.l→i.at_≤(i.l.length:Nat)→(i.l.length:Int)<n+i.at_→(ab.fp n i acc).1.bad=none →
    ∃seg ps,gy i (ab.fp n i acc).1 seg∧(ab.fp n i acc).2=acc++ps∧ps≠[]∧dV (aU seg)=bW (ps.map iL)∧ps.all mf=true∧(ab.fp n i acc).1.at_=(i.l.length:Nat)
  | 0,i,acc,_,h1,U,_=>by omega
  | n + 1, i, acc, hg, h1, U, hb => by
    have Fp:i.bad=none:=by
      cases hq:i.bad with
      | none=>rfl
      | some b=>have:=vW hq (n+1) acc;rw[hb] at this;simp at this
    have one:∀(hc:((i.word.2.take 60).2.word).2.bad=none),∃seg,gy i ((i.word.2.take 60).2.word).2 seg∧0<seg.length∧dV (aU seg)=iL (i.word.1,((i.word.2.take 60).2.word).1)∧mf (i.word.1,((i.word.2.take 60).2.word).1)=true:=by
      intro hc;have l1:i.word.2.l=i.l:=i.eC 97;have l2:(i.word.2.take 60).2.l=i.l:=(ab.eC _ 60).trans l1;obtain⟨s3,Sg,e32,e33,_⟩:=sX (i.word.2.take 60).2 (by rw[l2];exact hg) hc;obtain⟨c1,c2⟩:=ml Sg.b;obtain⟨s1,e11,e12,e13,_⟩:=sX i hg c1.b;have lr:=(c1.good (by rw[l1];exact hg)).1;refine⟨s1++[(i.word.2.take 60).1]++s3,(e11.trans c1).trans Sg,by simp only[bw,iE];omega,?_,?_⟩
      · rw[uE (by rw[c2];decide) (by rw[c2];rfl),e12,e32,ow lr c2 (by decide)];rfl
      · simp[mf,e13,e33]
    simp only[ab.fp] at hb ⊢;rw[ah (by simp[Fp])] at hb ⊢;split
    · rename_i fS;rw[ak fS] at hb;obtain⟨seg,e1,_,e2,e3⟩:=one hb;refine⟨seg,[(i.word.1,((i.word.2.take 60).2.word).1)],e1,rfl,by simp,?_,?_,fS⟩
      · rw[e2];simp[bW]
      · simp[e3]
    · rename_i fS;rw[ah fS] at hb;have hq:(((i.word.2.take 60).2.word).2.take 44).2.bad=none:=by
        cases hq:(((i.word.2.take 60).2.word).2.take 44).2.bad with
        | none=>rfl
        | some b=>have:=vW hq n (acc++[(i.word.1,((i.word.2.take 60).2.word).1)]);rw[hb] at this;simp at this
      obtain⟨c1,c2⟩:=ml hq;obtain⟨seg,e1,e0,e2,e3⟩:=one c1.b;have et:=e1.trans c1;have lr:=(c1.good (EA e1 hg)).1;obtain⟨a1,a2,a3⟩:=IA et;have hl:(((i.word.2.take 60).2.word).2.take 44).2.l=i.l:=et.l;simp only[bw,iE] at a2;obtain⟨sg,ps,g1,g2,g3,g4,g5,g6⟩:=Wm n (((i.word.2.take 60).2.word).2.take 44).2 (acc++[(i.word.1,((i.word.2.take 60).2.word).1)]) (EA et hg) (by rw[hl];exact a3) (by rw[hl];omega) hb;refine⟨seg++[(((i.word.2.take 60).2.word).2.take 44).1]++sg,(i.word.1,((i.word.2.take 60).2.word).1)::ps,et.trans g1,?_,by simp,?_,?_,?_⟩
      · rw[g2];simp
      · rw[uE (by rw[c2];decide) (by rw[c2];rfl),e2,g4,ow lr c2 (by decide)];obtain⟨p,qs,rfl⟩:∃p qs,ps=p::qs:=by
          cases ps with
          | nil=>exact absurd rfl g3
          | cons p qs=>exact⟨p,qs,rfl⟩
        simp only[bC,akc];rfl
      · rw[rG,e3,g5];rfl
      · rw[g6,hl]
def s6 (k:UInt8) (seg:List Tree) (c0 c1:ag):Prop :=
  (k=110∧∃w:Word,cV w.text=true∧dV (aU seg)=w.text∧c1={c0 with name:=w}) ∨
  (k=102∧∃w:Word,cV w.text=true∧dV (aU seg)=w.text∧c1={c0 with names:=[w]}) ∨
  (k=119∧∃ws:List Word,0<ws.length∧gv ws=true∧dV (aU seg)=[123]++gx ws++[125]∧c1={c0 with names:=ws}) ∨
  (k=112∧∃(ps:List (Word × Word)) (a:Int),ps.all mf=true∧dV (aU seg)=rW (ps.map iL)∧c1={c0 with aV:=ps,lG:=a}) ∨
  (k=116∧∃m:Nd,m.dS=true∧dV (aU seg)=m.cE∧c1=if c0.left.kind=0 then {c0 with left:=m} else {c0 with right:=m}) ∨
  (k=114∧∃m:Nd,m.h_=true∧dV (aU seg)=m.cE∧c1=if c0.left.kind=0 then {c0 with left:=m} else {c0 with right:=m})
theorem X0 {seg:List Tree} (h:0<gX seg):seg≠[]:=fun e=>by rw[e] at h;simp[gX,aP] at h
theorem V4 {l:List Tree} {a fin:Int} {c:ag} {one:ab→Nd × ab} {Q:Nd→Prop} (hs:Sound one Nd.cE Q SN) (hg:dr l) (hb:(gW ⟨l,a,fin,none⟩ c (eh one l a fin)).1.bad=none) :
    ∃seg m,seg≠[]∧gy ⟨l,a,fin,none⟩ (gW ⟨l,a,fin,none⟩ c (eh one l a fin)).1 seg∧Q m∧dV (aU seg)=m.cE∧(gW ⟨l,a,fin,none⟩ c (eh one l a fin)).2=if c.left.kind=0 then {c with left:=m} else {c with right:=m}:=by
  unfold eh at hb ⊢;cases hq:(one ⟨l,a,fin,none⟩).2.bad with
  | some b=>rw[hq] at hb;simp[gW] at hb
  | none =>
    obtain⟨seg,e1,e2,e3,e4⟩:=hs ⟨l,a,fin,none⟩ hg hq;refine⟨seg,_,X0 ?_,⟨e1.ex,rfl,rfl,rfl⟩,e3,e2,rfl⟩;simp only[SN] at e4;omega
theorem aot {k:UInt8} {x:ab × ag} (hk:k=110∨k=102∨k=119∨k=112∨k=116∨k=114) (hg:dr x.1.l) (hp:k=112→x.2.aV=[]) (hb:(cB k x).1.bad=none) :
    ∃seg,seg≠[]∧gy x.1 (cB k x).1 seg∧s6 k seg x.2 (cB k x).2:=by
  obtain⟨⟨l,a,fin,bad⟩,c⟩:=x;have Ko:bad=none:=by
    cases bad with
    | none=>rfl
    | some b=>simp[cB] at hb
  subst Ko;have pk:∀(h:(⟨l,a,fin,none⟩:ab).word.2.bad=none),∃seg,seg≠[]∧gy ⟨l,a,fin,none⟩ (⟨l,a,fin,none⟩:ab).word.2 seg∧dV (aU seg)=(⟨l,a,fin,none⟩:ab).word.1.text∧cV (⟨l,a,fin,none⟩:ab).word.1.text=true:=fun h=>by
    obtain⟨seg,e1,e2,e3,e4⟩:=sX ⟨l,a,fin,none⟩ hg h;exact⟨seg,X0 (by simp only[SW] at e4;omega),e1,e2,e3⟩
  rcases hk with rfl | rfl | rfl | rfl | rfl | rfl
  · have e:cB 110 (⟨l,a,fin,none⟩,c)=((⟨l,a,fin,none⟩:ab).word.2,{c with name:=(⟨l,a,fin,none⟩:ab).word.1}):=by simp[cB]
    rw[e] at hb ⊢;obtain⟨seg,h1,U,h3,h4⟩:=pk hb;exact⟨seg,h1,U,.inl ⟨rfl,_,h4,h3,rfl⟩⟩
  · have e:cB 102 (⟨l,a,fin,none⟩,c)=((⟨l,a,fin,none⟩:ab).word.2,{c with names:=[(⟨l,a,fin,none⟩:ab).word.1]}):=by simp[cB]
    rw[e] at hb ⊢;obtain⟨seg,h1,U,h3,h4⟩:=pk hb;exact⟨seg,h1,U,.inr (.inl ⟨rfl,_,h4,h3,rfl⟩)⟩
  · have e:cB 119 (⟨l,a,fin,none⟩,c)=(⟨l,a+1,fin,(ib l a fin).2⟩,{c with names:=(ib l a fin).1}):=by simp[cB]
    rw[e] at hb ⊢;have hw:((⟨l,a,fin,none⟩:ab).words false).2.bad=none:=by
      cases hq:((⟨l,a,fin,none⟩:ab).words false).2.bad with
      | none=>rfl
      | some b=>simp[ib,hq] at hb
    have ew:ib l a fin=(((⟨l,a,fin,none⟩:ab).words false).1.1,none):=by simp[ib,hw]
    obtain⟨t,b1,b2,b3,b4,_,b6⟩:=Ia (one:=ab.word) sX (k:=123) (e:=false) (r:=⟨l,a,fin,none⟩) hg hw;have ko:=(b1.good hg).1;rw[ew];refine⟨[t],by simp,?_,.inr (.inr (.inl ⟨rfl,_,b6 rfl,L0 b4,?_,rfl⟩))⟩
    · obtain⟨pre,post,e1,e2,e3⟩:=b1.ex;have e2:a=(pre.length:Nat):=e2;refine⟨⟨pre,post,e1,e2,?_⟩,rfl,rfl,rfl⟩;simp only[bw,iE];omega
    · rw[AE (by rw[b2];decide),b3,ow ko b2 (by decide),b2];rfl
  · have hp:=hp rfl;have e:cB 112 (⟨l,a,fin,none⟩,c)=mN ⟨l,a,fin,none⟩ c:=by simp[cB]
    rw[e] at hb ⊢;unfold mN at hb ⊢;simp only at hb ⊢ hp;split
    · rename_i hc;rw[ak hc] at hb;have hb:((⟨l,a,fin,none⟩:ab).take 123).2.bad=none:=hb;obtain⟨t1,t2⟩:=ml hb;have ko:=(t1.good hg).1;have pZ:((⟨l,a,fin,none⟩:ab).take 123).1.kids=[]:=by
        rcases hc with h | h
        · exact absurd hb h
        · exact iD.1 h
      refine⟨[((⟨l,a,fin,none⟩:ab).take 123).1],by simp,t1,.inr (.inr (.inr (.inl ⟨rfl,[],((⟨l,a,fin,none⟩:ab).take 123).1.tok.pos,rfl,?_,?_⟩)))⟩
      · rw[AE (by rw[t2];decide),pZ,ow ko t2 (by decide),t2];rfl
      · cases c;simp only at hp;subst hp;rfl
    · rename_i hc;rw[ah hc] at hb;have h1:((⟨l,a,fin,none⟩:ab).take 123).2.bad=none:=by
        cases hq:((⟨l,a,fin,none⟩:ab).take 123).2.bad with
        | none=>rfl
        | some b=>exact absurd (.inl (by rw[hq];simp)) hc
      obtain⟨t1,t2⟩:=ml h1;have ko:=(t1.good hg).1;have tS:=((vk _).1 ko).2.2;generalize ((⟨l,a,fin,none⟩:ab).take 123).2=r1 at hb t1 h1 ⊢;generalize ((⟨l,a,fin,none⟩:ab).take 123).1=t at hb t1 t2 ko tS ⊢;have hG:(ab.fp (t.kids.length+1) t.inner []).1.bad=none:=by
        cases hq:(ab.fp (t.kids.length+1) t.inner []).1.bad with
        | none=>rfl
        | some b=>rw[hq] at hb;simp[ab.rU] at hb
      have el:t.inner.l=t.kids:=rfl;have ea:t.inner.at_=0:=rfl;obtain⟨sg,ps,g1,g2,g3,g4,g5,g6⟩:=Wm (t.kids.length+1) t.inner [] tS (by rw[ea];omega) (by rw[el,ea];omega) hG;have hs:=ady g1 g6;subst hs;refine⟨[t],by simp,?_,.inr (.inr (.inr (.inl ⟨rfl,ps,t.tok.pos,g5,?_,?_⟩)))⟩
      · rw[hG];exact t1
      · rw[AE (by rw[t2];decide),g4,ow ko t2 (by decide),t2];rfl
      · rw[g2];rfl
  · have e:cB 116 (⟨l,a,fin,none⟩,c)=gW ⟨l,a,fin,none⟩ c (eh (ab.label (aP l)) l a fin):=by simp[cB]
    rw[e] at hb ⊢;obtain⟨seg,m,h1,U,h3,h4,h5⟩:=V4 (F1 (aP l)) hg hb;exact⟨seg,h1,U,.inr (.inr (.inr (.inr (.inl ⟨rfl,m,h3,h4,h5⟩))))⟩
  · have e:cB 114 (⟨l,a,fin,none⟩,c)=gW ⟨l,a,fin,none⟩ c (eh (ab.row (aP l)) l a fin):=by simp[cB]
    rw[e] at hb ⊢;obtain⟨seg,m,h1,U,h3,h4,h5⟩:=V4 (Xh (aP l)) hg hb;exact⟨seg,h1,U,.inr (.inr (.inr (.inr (.inr ⟨rfl,m,h3,h4,h5⟩))))⟩
def Hv:List UInt8→List Tree→ag→ag→Prop
  | [],us,c0,c1=>us=[]∧c1=c0
  | k::ks,us,c0,c2=>∃a b c1,us=a++b∧a≠[]∧s6 k a c0 c1∧Hv ks b c1 c2
theorem aiG {k:UInt8} {seg:List Tree} {c0 c1:ag} (hk:k≠112) (h:s6 k seg c0 c1):c1.aV=c0.aV:=by
  rcases h with ⟨_,w,_,_,rfl⟩ | ⟨_,w,_,_,rfl⟩ | ⟨_,w,_,_,_,rfl⟩ | ⟨h,_⟩ | ⟨_,m,_,_,rfl⟩ | ⟨_,m,_,_,rfl⟩
  · rfl
  · rfl
  · rfl
  · exact absurd h hk
  · split<;>rfl
  · split<;>rfl
theorem Wx:∀(ks:List UInt8) (x:ab × ag),F7 ks→ks.count 112≤1→(112∈ks→x.2.aV=[])→dr x.1.l→x.1.bad=none→0≤x.1.at_→x.1.at_≤(x.1.l.length:Nat)→(gq ks x).1.bad=none →
    ∃us,gy x.1 (gq ks x).1 us∧Hv ks us x.2 (gq ks x).2
  | [], x, _, _, _, _, hb, h0, h1, _ => by
    refine⟨[],⟨⟨x.1.l.take x.1.at_.toNat,x.1.l.drop x.1.at_.toNat,by simp,?_,?_⟩,rfl,hb,hb⟩,rfl,rfl⟩
    · rw[gZ];omega
    · show x.1.at_=_;rw[dn,gZ];omega
  | k :: ks, x, hk, hc, hp, hg, hb, h0, h1, hn => by
    simp only[gq] at hn ⊢;have fG:(cB k x).1.bad=none:=by
      cases hq:(cB k x).1.bad with
      | none=>rfl
      | some b=>have:=Gz (N:=0) (Hy 0) ks _ hq;rw[hn] at this;simp at this
    obtain⟨sg,n1,e1,g1⟩:=aot (hk k (by simp)) hg (fun e=>hp (by simp[e])) fG;obtain⟨a1,a2,a3⟩:=IA e1;have Jz:ks.count 112≤1:=by rw[List.count_cons] at hc;omega
    obtain⟨us,e2,g2⟩:=Wx ks (cB k x) (fun k h=>hk k (by simp[h])) Jz (fun hm=>by
      by_cases e:k=112
      · exfalso
        rw[e,Nn] at hc;exact Np.1 (show ks.count 112=0 by omega) hm
      · rw[aiG e g1];exact hp (by simp[hm])) (EA e1 hg) fG (by omega) (by rw[e1.l];exact a3) hn
    exact⟨sg++us,e1.trans e2,sg,us,_,rfl,n1,g1,g2⟩
theorem zy {seg:List Tree} {c0 c1:ag} (h:s6 110 seg c0 c1):∃w:Word,cV w.text=true∧dV (aU seg)=w.text∧c1={c0 with name:=w}:=by
  rcases h with ⟨_,h⟩ | ⟨e,_⟩ | ⟨e,_⟩ | ⟨e,_⟩ | ⟨e,_⟩ | ⟨e,_⟩<;>first | exact h | exact absurd e (by decide)
theorem aiE {seg:List Tree} {c0 c1:ag} (h:s6 102 seg c0 c1):∃w:Word,cV w.text=true∧dV (aU seg)=w.text∧c1={c0 with names:=[w]}:=by
  rcases h with ⟨e,_⟩ | ⟨_,h⟩ | ⟨e,_⟩ | ⟨e,_⟩ | ⟨e,_⟩ | ⟨e,_⟩<;>first | exact h | exact absurd e (by decide)
theorem Tt {seg:List Tree} {c0 c1:ag} (h:s6 119 seg c0 c1):∃ws:List Word,0<ws.length∧gv ws=true∧dV (aU seg)=[123]++gx ws++[125]∧c1={c0 with names:=ws}:=by
  rcases h with ⟨e,_⟩ | ⟨e,_⟩ | ⟨_,h⟩ | ⟨e,_⟩ | ⟨e,_⟩ | ⟨e,_⟩<;>first | exact h | exact absurd e (by decide)
theorem aiF {seg:List Tree} {c0 c1:ag} (h:s6 112 seg c0 c1):∃(ps:List (Word × Word)) (a:Int),ps.all mf=true∧dV (aU seg)=rW (ps.map iL)∧c1={c0 with aV:=ps,lG:=a}:=by
  rcases h with ⟨e,_⟩ | ⟨e,_⟩ | ⟨e,_⟩ | ⟨_,h⟩ | ⟨e,_⟩ | ⟨e,_⟩<;>first | exact h | exact absurd e (by decide)
theorem Ts {seg:List Tree} {c0 c1:ag} (h:s6 116 seg c0 c1):∃m:Nd,m.dS=true∧dV (aU seg)=m.cE∧c1=if c0.left.kind=0 then {c0 with left:=m} else {c0 with right:=m}:=by
  rcases h with ⟨e,_⟩ | ⟨e,_⟩ | ⟨e,_⟩ | ⟨e,_⟩ | ⟨_,h⟩ | ⟨e,_⟩<;>first | exact h | exact absurd e (by decide)
theorem Tr {seg:List Tree} {c0 c1:ag} (h:s6 114 seg c0 c1):∃m:Nd,m.h_=true∧dV (aU seg)=m.cE∧c1=if c0.left.kind=0 then {c0 with left:=m} else {c0 with right:=m}:=by
  rcases h with ⟨e,_⟩ | ⟨e,_⟩ | ⟨e,_⟩ | ⟨e,_⟩ | ⟨e,_⟩ | ⟨_,h⟩<;>first | exact h | exact absurd e (by decide)
def Bg (c:ag):List (UInt8 × Nd)→List Tree→Prop
  | [],us=>us=[]
  | q::qs,us=>∃a b,us=a++b∧a≠[]∧wJ q.1 c q.2∧dV (aU a)=kZ q.1 c q.2∧Bg c qs b
theorem W_ {ws:List Word} (h:gv ws=true):mL (ws.map Word.text)=true:=by
  simp only[mL,List.all_map];exact h
theorem aiH {op p:Int} {us:List Tree} {c:ag} (h1:1≤op) (U:op≤15) (h:Hv (bT op).2 us {ag.zero with op:=op,pos:=p} c):c.op=op∧c.eB=true∧Bg c (ky (bT op).2 [c.left,c.right]) us:=by
  obtain⟨hk,_,_⟩:=BJ h1 U;simp only[Cy,j_,HO,Gs] at hk;have hz:(Nd.zero).kind=0:=rfl;have zz:=Nd.XJ Nd.zero;have h0:0≤op:=by omega
  rcases hk with e | e | e | e | e | e | e
  all_goals rw[e] at h
  · obtain⟨a,b,c1,rfl,na,ga,a2,b2,c2,rfl,nb,gb,rfl,rfl⟩:=h;obtain⟨w,w1,w2,rfl⟩:=zy ga;obtain⟨ws,v1,v2,v3,rfl⟩:=Tt gb;refine⟨rfl,?_,?_⟩
    · simp[ag.eB,ag.lF,ag.i_,ag.jZ,ag.iN,dP,e,h0,U,w1,v1,W_ v2,ag.zero,zz]
    · rw[e];exact⟨a,_,rfl,na,.inl ⟨rfl,w1⟩,w2,a2,[],rfl,nb,.inr (.inr (.inl ⟨rfl,v1,v2⟩)),v3,rfl⟩
  · obtain⟨a,b,c1,rfl,na,ga,a2,b2,c2,rfl,nb,gb,a3,b3,c3,rfl,nc,gc,rfl,rfl⟩:=h;obtain⟨w,w1,w2,rfl⟩:=zy ga;obtain⟨ws,v1,v2,v3,rfl⟩:=Tt gb;obtain⟨ps,pa,u1,u2,rfl⟩:=aiF gc;refine⟨rfl,?_,?_⟩
    · simp only[jl] at u1;simp[ag.eB,ag.lF,ag.i_,ag.jZ,ag.iN,dP,e,h0,U,w1,v1,W_ v2,ag.zero,zz];intro x y hxy;exact u1 (x,y) hxy
    · rw[e];exact⟨a,_,rfl,na,.inl ⟨rfl,w1⟩,w2,a2,_,rfl,nb,.inr (.inr (.inl ⟨rfl,v1,v2⟩)),v3,a3,[],rfl,nc,.inr (.inr (.inr (.inl ⟨rfl,u1⟩))),u2,rfl⟩
  · obtain⟨a,b,c1,rfl,na,ga,a2,b2,c2,rfl,nb,gb,a3,b3,c3,rfl,nc,gc,rfl,rfl⟩:=h;obtain⟨w,w1,w2,rfl⟩:=zy ga;obtain⟨m,v1,v2,rfl⟩:=Ts gb;obtain⟨m2,u1,u2,rfl⟩:=Ts gc;have hm:=U4 v1;rw[ak (show ({ag.zero with op:=op,pos:=p,name:=w}:ag).left.kind=0 from rfl),ah hm];refine⟨rfl,?_,?_⟩
    · simp[ag.eB,ag.lF,ag.i_,ag.jZ,ag.iN,dP,e,h0,U,w1,v1,u1,ag.zero]
    · rw[e];exact⟨a,_,rfl,na,.inl ⟨rfl,w1⟩,w2,a2,_,rfl,nb,.inr (.inr (.inr (.inr (.inl ⟨rfl,v1⟩)))),v2,a3,[],rfl,nc,.inr (.inr (.inr (.inr (.inl ⟨rfl,u1⟩)))),u2,rfl⟩
  · obtain⟨a,b,c1,rfl,na,ga,a2,b2,c2,rfl,nb,gb,a3,b3,c3,rfl,nc,gc,rfl,rfl⟩:=h;obtain⟨w,w1,w2,rfl⟩:=zy ga;obtain⟨m,v1,v2,rfl⟩:=Tr gb;obtain⟨m2,u1,u2,rfl⟩:=Tr gc;have hm:=Xg v1;rw[ak (show ({ag.zero with op:=op,pos:=p,name:=w}:ag).left.kind=0 from rfl),ah hm];refine⟨rfl,?_,?_⟩
    · simp[ag.eB,ag.lF,ag.i_,ag.jZ,ag.iN,dP,e,h0,U,w1,v1,u1,ag.zero]
    · rw[e];exact⟨a,_,rfl,na,.inl ⟨rfl,w1⟩,w2,a2,_,rfl,nb,.inr (.inr (.inr (.inr (.inr ⟨rfl,v1⟩)))),v2,a3,[],rfl,nc,.inr (.inr (.inr (.inr (.inr ⟨rfl,u1⟩)))),u2,rfl⟩
  · obtain⟨a,b,c1,rfl,na,ga,a2,b2,c2,rfl,nb,gb,rfl,rfl⟩:=h;obtain⟨w,w1,w2,rfl⟩:=zy ga;obtain⟨w',v1,v2,rfl⟩:=aiE gb;refine⟨rfl,?_,?_⟩
    · simp[ag.eB,ag.lF,ag.i_,ag.jZ,ag.iN,dP,e,h0,U,w1,v1,mL,ag.zero,zz]
    · rw[e];exact⟨a,_,rfl,na,.inl ⟨rfl,w1⟩,w2,a2,[],rfl,nb,.inr (.inl ⟨rfl,rfl,L0 (by simp[v1])⟩),by rw[v2];simp[kZ,bW],rfl⟩
  · obtain⟨rfl,rfl⟩:=h;refine⟨rfl,?_,by rw[e];rfl⟩;simp[ag.eB,ag.lF,ag.i_,ag.jZ,ag.iN,dP,e,h0,U,ag.zero,zz]
  · obtain⟨a,b,c1,rfl,na,ga,rfl,rfl⟩:=h;obtain⟨w,w1,w2,rfl⟩:=zy ga;refine⟨rfl,?_,?_⟩
    · simp[ag.eB,ag.lF,ag.i_,ag.jZ,ag.iN,dP,e,h0,U,w1,ag.zero,zz]
    · rw[e];exact⟨a,[],rfl,na,.inl ⟨rfl,w1⟩,w2,rfl⟩
theorem ae_ {a:List Tree} (h:a≠[]):aU a≠[]:=by
  cases a with
  | nil=>exact absurd rfl h
  | cons t ts=>cases t;simp[aU,Tree.flat]
theorem X2 {c:ag}:∀(qs:List (UInt8 × Nd)) (us:List Tree),Bg c qs us→(∀t∈aU us,y5 t)→(aU us).map Tok.sh=(qs.map fun q=>yo q.1 c q.2).flatten
  | [],us,h,_=>by have h:us=[]:=h;subst h;rfl
  | q :: qs, us, ⟨a, b, e, _, h1, U, h3⟩, ht => by
    subst e;rw[gp] at ht ⊢;rw[fE,bC,iC,X2 qs b h3 fun t h=>ht t (by simp[h]),X' (fun t h=>ht t (by simp[h])) (Wz h1) U]
theorem X1 {c:ag}:∀(qs:List (UInt8 × Nd)) (us:List Tree),Bg c qs us→((qs.map fun q=>kZ q.1 c q.2).flatMap fun y=>[32]++y).length≤lP (aU us)
  | [],us,h=>by simp
  | q :: qs, us, ⟨a, b, e, h0, h1, U, h3⟩ => by
    subst e;have ih:=X1 qs b h3;have h4:=arS (ae_ h0);rw[U] at h4;rw[gp,Hb,bC,nQ,bw,bw];simp only[iE];omega
theorem V7 {w:List UInt8}:∀(n op:Nat),mc w n op≠0→(bT (mc w n op)).1=w∧1≤mc w n op∧mc w n op<op+n
  | 0,op,h=>by simp[mc] at h
  | n + 1, op, h => by
    simp only[mc] at h ⊢;split
    · rename_i hc;exact⟨hc.2,by omega,by omega⟩
    · rename_i hc;rw[ah hc] at h;obtain⟨h1,U,h3⟩:=V7 n (op+1) h;exact⟨h1,U,by omega⟩
theorem ab5 {l:List Tree} {fin:Int} {c:ag} (hg:dr l) (h:qA l fin=(c,0,0)):l=[]∧c = .zero ∨
    ∃a b,l=a++b∧dV (aU a)=(bT c.op).1∧cV (bT c.op).1=true∧c.eB=true∧Bg c (ky (bT c.op).2 [c.left,c.right]) b:=by
  cases l with
  | nil=>left;simp only[qA] at h;exact⟨rfl,(gm Prod.fst h).symm⟩
  | cons t ts =>
    right;unfold qA at h;simp only at h
    by_cases hz:gM (⟨t::ts,0,fin,none⟩:ab).word.1.text=0
    · rw[ak hz] at h;simp at h
    · rw[ah hz] at h;obtain⟨n1,n2,n3⟩:=V7 16 0 hz;have n1:(bT (gM (⟨t::ts,0,fin,none⟩:ab).word.1.text)).1=(⟨t::ts,0,fin,none⟩:ab).word.1.text:=n1;have n2:1≤gM (⟨t::ts,0,fin,none⟩:ab).word.1.text:=n2;have n3:gM (⟨t::ts,0,fin,none⟩:ab).word.1.text≤15:=by unfold gM;omega
      have Uj:=fun b hb=>Gz (N:=0) (Hy 0) (b:=b) (bT (gM (⟨t::ts,0,fin,none⟩:ab).word.1.text)).2 ((⟨t::ts,0,fin,none⟩:ab).word.2,{ag.zero with op:=gM (⟨t::ts,0,fin,none⟩:ab).word.1.text,pos:=(⟨t::ts,0,fin,none⟩:ab).word.1.pos}) hb
      have Ul:=fun tR hb h0 h1 hn=>Wx (bT (gM (⟨t::ts,0,fin,none⟩:ab).word.1.text)).2 ((⟨t::ts,0,fin,none⟩:ab).word.2,{ag.zero with op:=gM (⟨t::ts,0,fin,none⟩:ab).word.1.text,pos:=(⟨t::ts,0,fin,none⟩:ab).word.1.pos}) (EN _).1 (EN _).2 (fun _=>rfl) tR hb h0 h1 hn
      have xQ:=sX (⟨t::ts,0,fin,none⟩:ab) hg;have sj:=fun us c=>aiH (op:=gM (⟨t::ts,0,fin,none⟩:ab).word.1.text) (p:=(⟨t::ts,0,fin,none⟩:ab).word.1.pos) (us:=us) (c:=c) n2 n3
      generalize gq (bT (gM (⟨t::ts,0,fin,none⟩:ab).word.1.text)).2 ((⟨t::ts,0,fin,none⟩:ab).word.2,{ag.zero with op:=gM (⟨t::ts,0,fin,none⟩:ab).word.1.text,pos:=(⟨t::ts,0,fin,none⟩:ab).word.1.pos})=x at h Uj Ul;have Ko:x.1.bad=none∧¬x.1.at_<x.1.l.length∧c=x.2:=by
        unfold tB at h
        by_cases hc:x.1.bad=none∧x.1.at_<x.1.l.length
        · rw[ak hc] at h;cases hq:x.1.fail.bad with
          | none=>exact absurd hq x.1.EG
          | some b=>rw[hq] at h;simp at h
        · rw[ah hc] at h;cases hq:x.1.bad with
          | none =>
            rw[hq] at h;refine⟨rfl,fun hl=>hc ⟨hq,hl⟩,(gm Prod.fst h).symm⟩
          | some b=>rw[hq] at h;simp at h
      obtain⟨UE,UF,rfl⟩:=Ko;have UD:(⟨t::ts,0,fin,none⟩:ab).word.2.bad=none:=by
        cases hq:(⟨t::ts,0,fin,none⟩:ab).word.2.bad with
        | none=>rfl
        | some b=>have:=Uj b hq;rw[UE] at this;simp at this
      obtain⟨sg,e1,e2,e3,_⟩:=xQ UD;obtain⟨a1,a2,a3⟩:=IA e1;obtain⟨us,f1,f2⟩:=Ul (EA e1 hg) UD (by simp only at a2 ⊢;omega) (by simp only;rw[e1.l];exact a3) UE;obtain⟨g1,g2,g3⟩:=sj us x.2 f2;have et:=e1.trans f1;have b8:t::ts=sg++us:=by
        obtain⟨pre,post,q1,q2,q3⟩:=et.ex;have hp:pre=[]:=iD.1 (by simp only at q2;omega);subst hp;have q1:t::ts=[]++(sg++us)++post:=q1;have hl:x.1.l=t::ts:=et.l;have hq:post=[]:=by
          rw[hl,q1,q3] at UF;simp only[gk,bw] at UF;exact iD.1 (by omega)
        rw[q1,hq];simp
      refine⟨sg,us,b8,?_,?_,g2,?_⟩
      · rw[g1,n1];exact e2
      · rw[g1,n1];exact e3
      · rw[g1];exact g3
theorem Q3 {s:List UInt8} {c:ag} (h:cO s=(c,0,0)):c.eB=true∧(gf (c_ (fc c)).1).2=none∧(fc c).length≤2*s.length:=by
  unfold cO at h;cases hl:(c_ s).2 with
  | some a=>rw[hl] at h;simp at h
  | none =>
    rw[hl] at h;simp only at h;cases ht:(fe (c_ s).1 [] []).2 with
    | some a=>rw[ht] at h;simp at h
    | none =>
      rw[ht] at h;simp only at h;have bM:=Af s.length 0 s [] (by simp);have ajy:=F_ s.length 0 s [] (by simp);obtain⟨w1,w2⟩:=Di (c_ s).1 [] [] bM (by simp) (by simp[ec]) ht;simp only[uj,aU,gk] at w2;have hg:dr (fe (c_ s).1 [] []).1:=by rw[yJ];exact Vr s
      have bO:lP (c_ s).1≤lP []+2*s.length:=F' s.length 0 s [];rw[show lP []=0 from rfl,gQ] at bO;rw[yJ] at ht
      rcases ab5 hg h with ⟨h1,rfl⟩ | ⟨a,b,h1,U,h3,h4,h5⟩
      · refine⟨by decide +kernel,by decide +kernel,?_⟩
        have:fc ag.zero=[]:=by decide +kernel
        rw[this];simp
      · rw[h1,gp] at w2;have hL:∀t∈aU a++aU b,y5 t:=by rw[w2];exact ajy
        have s1:(aU a).map Tok.sh=[eH (bT c.op).1]:=X' (fun t ht=>hL t (by simp[ht])) (ug h3) U;have s2:=X2 _ b h5 (fun t ht=>hL t (by simp[ht]));have hs:(c_ s).1.map Tok.sh=C8 c:=by rw[←w2,fE,s1,s2];rfl
        have qb:1≤c.op:=by
          have h6:=h4;simp only[ag.eB,a_,bH] at h6;have h0:=h6.1.1.1.1.1
          by_cases hz:c.op=0
          · rw[hz] at h3;exact absurd h3 (by decide +kernel)
          · omega
        have qG:c.op≤15:=by simp only[ag.eB,a_,bH] at h4;exact h4.1.1.1.1.2
        obtain⟨l1,l2⟩:=Yz h3 (LF h4 qb);refine⟨h4,ar7 (hs.trans l2.symm) ht,?_⟩;have hb:=X1 _ b h5;have ha:(bT c.op).1.length≤lP (aU a):=by rw[←U];exact MD _ _
        rw[←w2,Hb] at bO;rw[G4,bw];omega
theorem ab4 {N:Int} (h0:0≤N) {l:List Tree} {fin:Int} (hl:j8 N l) (hf:In N fin):(r5 l fin).2.1=0∧(r5 l fin).2.2=0∨(r5 l fin).1 = .zero∧(r5 l fin).2.1=2∧In N (r5 l fin).2.2:=by
  have hpr:∀(ks:List UInt8) (c:ag) (a:Int),(sK l fin ks c a).2.2<0∨In N (sK l fin ks c a).2.2:=by
    intro ks;induction ks with
    | nil=>intro c a;left;simp[sK]
    | cons k ks ih =>
      intro c a;simp only[sK];split
      · rename_i ni;right;have lY:=qt h0 (a:=a) hl hf;have JP:=YU h0 (a:=a) hl hf;have JQ:=aoi h0 (a:=a) hl;have hi4:=CA h0 (aP l) l a fin hl hf;have hi5:=Xe h0 (aP l) l a fin hl hf;revert ni;unfold kE;split
        · split
          · intro h;simp at h
          · intro _;exact lY
        split
        · split
          · intro _;exact JP
          · intro h;simp at h
        split
        · split
          · simp only;intro h
            rcases JQ with e | e
            · omega
            · exact e
          · intro _;exact lY
        · have T7:In N (if k=114 then kF (aP l) l a fin else hD (aP l) l a fin).pos:=by
            split
            · exact hi5
            · exact hi4
          generalize (if k=114 then kF (aP l) l a fin else hD (aP l) l a fin)=g at T7;simp only;split
          · intro _;exact T7
          · intro h;simp at h
      · exact ih _ _
  cases l with
  | nil=>exact .inl ⟨rfl,rfl⟩
  | cons t ts =>
    unfold r5;simp only;generalize (if t.tok.kind=97 then yn t.tok.text 15 1 0 else 0)=op;split
    · exact .inr ⟨rfl,rfl,(hl t (by simp)).pos⟩
    · split
      · rename_i ni;refine .inr ⟨rfl,rfl,?_⟩;exact(hpr _ _ _).resolve_left (Int.not_lt.mpr ni)
      · split
        · exact .inr ⟨rfl,rfl,qt h0 hl hf⟩
        · exact .inl ⟨rfl,rfl⟩
theorem SF (s:List UInt8):(∃c,cO s=(c,0,0))∨∃k a,cO s=(.zero,k,a)∧(k=1∨k=2)∧0≤a∧a≤(s.length:Nat):=by
  rw[apU];unfold LV;have hl:=Vi s;have ht:=Vq s;cases h1:(c_ s).2 with
  | some a=>exact .inr ⟨1,a,rfl,.inl rfl,hl.2 a h1⟩
  | none =>
    simp only;cases U:(gf (c_ s).1).2 with
    | some a=>exact .inr ⟨2,a,rfl,.inr rfl,ht.2 a U⟩
    | none =>
      simp only;have hc:=ab4 (N:=(s.length:Nat)) (by omega) ht.1 (fin:=(s.length:Nat)) ⟨by omega,by omega⟩;generalize r5 (gf (c_ s).1).1 (s.length:Nat)=R at hc ⊢;obtain⟨c,k,a⟩:=R;simp only at hc
      rcases hc with ⟨rfl,rfl⟩ | ⟨rfl,rfl,h⟩
      · exact .inl ⟨c,rfl⟩
      · exact .inr ⟨2,a,rfl,.inr rfl,h⟩
section
variable {π:Int→Int} {s:au} {c:ag}
theorem IJ:(jo s (c.mp π)).cls=0↔(jo s c).cls=0:=by rw[jo,jo,ab3,Ve]
theorem aj3:jy s (c.mp π)=jy s c:=by
  rw[jy,jy,ap6,oT.2 IJ];rfl
theorem ZU (h:jy s c=true):lU s (c.mp π)=lU s c:=by
  have hF:=US.1 h;have e:ca s (c.mp π)=ca s c:=rfl;unfold lU;rw[e]
  by_cases h8:c.op=8
  · have I9 : (c.mp π).op=8:=h8;rw[ak h8,ak I9];obtain⟨q1,q2⟩:=hF.labels h8;have k2:c.right.kind=1∨0<c.right.kids.length:=by
      rcases hF.right h8 with k | k
      · exact .inl k
      · exact .inr (by rw[Cz q2 k];omega)
    have e1:ln s (ca s c) (c.mp π).left=ln s (ca s c) c.left:=by
      show ln s (ca s c) (c.left.mp π)=_;rw[ln,ln,FZ,aca _ q1]
    have e2:oL s (ca s c).toNat (c.mp π).right=oL s (ca s c).toNat c.right:=Rh k2;rw[e1,e2]
  · have I9 : ¬(c.mp π).op=8:=h8;rw[ah h8,ah I9]
    by_cases h9:c.op=9
    · have BP : (c.mp π).op=9:=h9;rw[ak h9,ak BP];obtain⟨q1,q2⟩:=hF.rows h9;have e1:la s (ca s c).toNat (c.mp π).left=la s (ca s c).toNat c.left:=Xk (GQ q1);have e2:la s (ca s c).toNat (c.mp π).right=la s (ca s c).toNat c.right:=Xk (GQ q2);rw[e1,e2]
    · have BP : ¬(c.mp π).op=9:=h9;rw[ah h9,ah BP];have gS:c.op=10:=by have:=hF.op;omega
      obtain⟨w,hw,_⟩:=hF.one gS;have e1:((c.mp π).names.getD 0 ⟨[],0⟩).text=(c.names.getD 0 ⟨[],0⟩).text:=by simp only[ag.mp,hw];rfl
      rw[e1];rfl
def oK (s:au) (c:ag):jj:=if jy s c then lU s c else .zero
theorem Rc:oK s (c.mp π)=oK s c:=by
  unfold oK;rw[aj3];split
  · rename_i h;exact ZU h
  · rfl
theorem Md:∀{a b:List Word},c9 a b=true→a.map (Word.mp fun _=>0)=b.map (Word.mp fun _=>0)
  | [],[],_=>rfl
  | [],_::_,h=>by simp[c9] at h
  | _::_,[],h=>by simp[c9] at h
  | w :: ws, u :: us, h => by
    simp only[c9,a_,bH] at h;rw[bC,bC,Md h.2,Word.mp,Word.mp,h.1]
mutual
theorem Mb:∀{n m:Nd},n.b9 m=true→n.mp (fun _=>0)=m.mp fun _=>0
  | .mk k p t ws ks, .mk k' p' t' ws' ks', h => by
    rw[Nd.b9] at h;simp only[a_,Nd.kind,Nd.text,Nd.names,Nd.kids] at h;obtain⟨⟨⟨h1,U⟩,h3⟩,h4⟩:=h;have h1:=Ll h1;have U:=Ll U;rw[Nd.mp,Nd.mp,h1,U,Md h3,XD h4]
theorem XD:∀{a b:List Nd},cH a b=true→vT (fun _=>0) a=vT (fun _=>0) b
  | [],[],_=>rfl
  | [],_::_,h=>by simp[cH] at h
  | _::_,[],h=>by simp[cH] at h
  | n :: ns, m :: ms, h => by
    simp only[cH,a_] at h;rw[vT,vT,Mb h.1,XD h.2]
end
theorem XI:∀{a b:List (Word × Word)},eb a b=true→a.map (fun p=>(p.1.mp fun _=>0,p.2.mp fun _=>0))=b.map fun p=>(p.1.mp fun _=>0,p.2.mp fun _=>0)
  | [],[],_=>rfl
  | [],_::_,h=>by simp[eb] at h
  | _::_,[],h=>by simp[eb] at h
  | p :: ps, q :: qs, h => by
    simp only[eb,a_,bH] at h;rw[bC,bC,XI h.2];simp only[Word.mp,h.1.1,h.1.2]
theorem XC {c d:ag} (h:c.b9 d=true):c.mp (fun _=>0)=d.mp fun _=>0:=by
  simp only[ag.b9,a_,bH] at h;obtain⟨⟨⟨⟨⟨h1,U⟩,h3⟩,h4⟩,h5⟩,h6⟩:=h;simp only[ag.mp,h1,Mb h5,Mb h6,XI h4,Md h3];simp only[Word.mp,U]
theorem XX:(ot s (c.mp π)).cls=0↔(ot s c).cls=0:=by
  have e:(c.mp π).op=c.op:=rfl;rw[ot,ot,e];split
  · rw[aqM,Ve]
  · rfl
theorem SL {r:Rm}:(fz (kz s r c)).cls=0↔(ot s c).cls=0∧(jo s c).cls=0∧kX r c=false∧¬(c.op=12∧r.frames≤1):=by
  rw[KO,kz];simp only[il,j_,HO,Gs];constructor
  · intro h;refine⟨h _ (.inl (.inl (.inl rfl))),h _ (.inl (.inl (.inr rfl))),?_,fun U=>?_⟩
    · cases hl:kX r c with
      | false=>rfl
      | true=>have:=h ⟨7,c.pos⟩ (.inl (.inr (by rw[dj,hl];simp)));simp at this
    · have:=h ⟨8,c.pos⟩ (.inr (by rw[dj,aD U.1,aD U.2];simp));simp at this
  · rintro⟨h1,U,h3,h4⟩ f (((rfl | rfl) | hf) | hf)
    · exact h1
    · exact U
    · rw[dj,h3] at hf;simp at hf
    · have:(decide (c.op=12)&&decide (r.frames≤1))=false:=by
        cases hb:(decide (c.op=12)&&decide (r.frames≤1)) with
        | false=>rfl
        | true=>simp only[a_,bH] at hb;exact absurd hb h4
      rw[dj,this] at hf;simp at hf
theorem alr {r:Rm} {c d:ag} (h:c.b9 d=true):kX r d=kX r c:=by
  have ho:c.op=d.op:=by simp only[ag.b9,a_,bH] at h;exact h.1.1.1.1.1
  rw[kX,kX,←aqI h,ho]
theorem ae9 {r:Rm} {c d:ag} (h:c.b9 d=true) (hf:(fz (kz s r c)).cls=0):(fz (kz s r d)).cls=0:=by
  have e:=XC h;have ho:c.op=d.op:=by simp only[ag.b9,a_,bH] at h;exact h.1.1.1.1.1
  obtain⟨h1,U,h3,h4⟩:=SL.1 hf;refine SL.2 ⟨?_,?_,by rw[alr h];exact h3,by rw[←ho];exact h4⟩
  · rw[←XX (π:=fun _=>0),←e,XX];exact h1
  · rw[←IJ (π:=fun _=>0),←e,IJ];exact U
theorem ZW {c d:ag} (h:c.b9 d=true):oK s d=oK s c:=by
  rw[←Rc (π:=fun _=>0) (c:=d),←XC h,Rc]
theorem arU {r:Rm} {t:List UInt8} (h:(jW s r t).2.2.cls=0):(cO t).2=(0,0)∧jW s r t=((cO t).1,oK s (cO t).1,.zero) ∧
    ∃d,cO (fc (cO t).1)=(d,0,0)∧(cO t).1.b9 d=true∧jW s r (fc (cO t).1)=(d,oK s (cO t).1,.zero):=by
  by_cases hr:(cO t).2.1=0
  case neg=>rw[KU hr] at h;exact absurd h hr
  by_cases hf:(fz (kz s r (cO t).1)).cls=0
  case neg=>rw[KV hr hf] at h;exact absurd h hf
  rcases SF t with ⟨c,hc⟩ | ⟨k,a,hc,hk,_⟩
  case inr=>rw[hc] at hr;simp only at hr;omega
  have hl:=Gb hr hf;rw[hc] at hf hl ⊢;obtain⟨a1,a2,_⟩:=Q3 hc;obtain⟨_,l2,_⟩:=apV a1;obtain⟨d,e1,e2⟩:=l2 a2;refine⟨rfl,hl,d,e1,e2,?_⟩;have h0:(cO (fc c)).2.1=0:=by rw[e1]
  have h1:(fz (kz s r (cO (fc c)).1)).cls=0:=by rw[e1];exact ae9 e2 hf
  rw[Gb h0 h1,e1];show (d,oK s d,aA.zero)=_;rw[ZW e2]
end
end Go.Am
