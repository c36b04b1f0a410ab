/-
  Part 4 of the proof of JudgeShiftsUptoCardSaid: a logic over the model, the forms of the functions that the law reaches, and what they compute.
-/
import Derived.Test.YtkeidlpchmepkaaGreatDoorShifts3
set_option linter.unusedVariables false
set_option linter.unusedSimpArgs false
set_option linter.defProp false
set_option linter.unusedSectionVars false
namespace Go.Am
theorem alI {p:Int} {ws:List Word} (h:kW ws=true):(Nd.mk 3 p [] ws []).g_=true:=by
  rw[Nd.xz];simp[Nd.kind,Nd.text,Nd.names,Nd.kids,h]
theorem alJ {p:Int} {ks:List Nd} (h:∀x∈ks,x.g_=true) (h0:0<ks.length):(Nd.mk 4 p [] [] ks).g_=true:=by
  rw[Nd.xz];simp[Nd.kG,Nd.kind,Nd.text,Nd.names,Nd.kids];exact⟨h0,h⟩
theorem alG {p:Int} {ks:List Nd} (h:∀x∈ks,x.pT=true):(Nd.mk 5 p [] [] ks).g_=true:=by
  rw[Nd.xz];simp[Nd.kG,Nd.kind,Nd.text,Nd.names,Nd.kids];exact h
theorem TQ {n:Nd} (hk:n.kind=2) (h:n.l8=true):n.g_=true:=by rw[Nd.xz,aw hk];exact h
theorem Jj {n:Nd} (hk:n.kind=1) (h:n.l8=true):n.fg=true:=by rw[Nd.qT,aw hk];exact h
theorem alF {p:Int} {c:Nd} (h:c.g_=true):(Nd.mk 7 p [] [] [c]).fg=true:=by
  rw[Nd.qT];simp[Nd.kG,Nd.kind,Nd.text,Nd.names,Nd.kids,qH,h]
theorem TP {k p:Int} {ks:List Nd} (hk:k=8∨k=9) (h:∀x∈ks,x.fg=true) (h0:0<ks.length):(Nd.mk k p [] [] ks).fg=true:=by
  rw[Nd.qT]
  rcases hk with rfl | rfl
  all_goals
    simp[Nd.kG,Nd.kind,Nd.text,Nd.names,Nd.kids];exact⟨h0,h⟩
theorem sr {t:Tree} {k:Int} (hg:t.Good) (hk:t.tok.kind=k) (QG:k≠97):t.tok.text=[UInt8.ofNat k.toNat]:=by
  rcases ((vl _).1 hg).1 with ⟨h,_⟩ | ⟨_,h⟩
  · omega
  · rw[h,hk]
theorem J8 {t:Tree} (hg:t.Good):t.tok.text.length≤16:=aoq ((vl _).1 hg).1
def SW (w:Word):Nat:=w.text.length+1
def SN (n:Nd):Nat:=n.wt+1
theorem BC:Sound ae.word Word.text (fun w=>dZ w.text=true) SW:=by
  intro r hg hb;obtain⟨t1,t2⟩:=n9 (show (r.take 97).2.bad=none from hb);have oA:=(t1.good hg).1;refine⟨[(r.take 97).1],t1,aoh t2,?_,?_⟩
  · rcases ((vl _).1 oA).1 with ⟨_,h⟩ | ⟨h,_⟩
    · exact h
    · exact absurd t2 h
  · have:=J8 oA
    rw[pZ];simp only[SW,ae.word];omega
theorem AU {k:Int} (hk:k=1∨k=2):Sound (ae.leaf k) Nd.cM (fun n=>n.kind=k∧n.l8=true) SN:=by
  intro r hg hb;obtain⟨seg,e1,e2,e3,e4⟩:=BC r hg hb;refine⟨seg,e1,?_,⟨rfl,?_⟩,?_⟩
  · rw[e2];simp only[ae.leaf];rw[Nd.cM,aw hk]
  · simp only[ae.leaf,Nd.l8,Nd.text,Nd.names,Nd.kids];rw[e3];rfl
  · simp only[SW] at e4;simp only[ae.leaf,SN,Nd.wt,di,eg,cX,pd];obtain⟨t1,t2⟩:=n9 (show (r.take 97).2.bad=none from hb);have hl:=J8 (t1.good hg).1;have h0:26≤gK seg:=by
      obtain⟨pre,post,q1,q2,q3⟩:=e1.ex
      rcases seg with _ | ⟨t,ts⟩
      · exfalso
        obtain⟨p,q,r1,r2,r3⟩:=t1.ex
        have:r.word.2.at_=(r.take 97).2.at_:=rfl
        simp only[bz,dk,jn] at q3 r3;omega
      · simp only[gK,bp];omega
    have:r.word.1.text.length≤16:=hl
    omega
theorem ap0 (l:List Word):(l.map SW).sum=di l:=rfl
theorem VS (l:List Nd):(l.map SN).sum=eg l:=by rw[BI];rfl
theorem amw {l:List Word} (h:∀w∈l,dZ w.text=true):kW l=true:=la.2 h
theorem Kq {e:Bool} {r:ae} (hg:dR r.l) (hb:(r.words e).2.bad=none) :
    ∃t,jT r (r.words e).2 [t]∧t.Good∧jQ (bu [t])=[123]++jR (r.words e).1.1++[125]∧kW (r.words e).1.1=true∧di (r.words e).1.1+26≤gK [t]:=by
  obtain⟨t,h1,h2,h3,h4,h5,_⟩:=OS (one:=ae.word) BC (k:=123) (e:=e) hg hb;have oA:=(h1.good hg).1;refine⟨t,h1,oA,?_,amw h4,?_⟩
  · rw[J7 (by rw[h2];decide),h3,sr oA h2 (by decide),h2];rfl
  · rw[ap0] at h5;rw[pZ];have e:di (r.words e).1.1=di (r.bracket (bU ae.word) 123 e).1.1:=rfl;omega
theorem DV {one:ae→Nd × ae} {Q:Nd→Prop} (hs:Sound one Nd.cM Q SN) {k:Int} (hk:k=40∨k=91) {e:Bool} {r:ae} (hg:dR r.l) (hb:(r.nodes one k e).2.bad=none) :
    ∃t,jT r (r.nodes one k e).2 [t]∧t.Good∧jQ (bu [t])=[UInt8.ofNat k.toNat]++cn (da (r.nodes one k e).1.1)++[UInt8.ofNat (closing k).toNat]∧(∀x∈(r.nodes one k e).1.1,Q x)∧eg (r.nodes one k e).1.1+26≤gK [t] ∧
      (e=false→0<(r.nodes one k e).1.1.length):=by
  obtain⟨t,h1,h2,h3,h4,h5,h6⟩:=OS hs (k:=k) (e:=e) hg hb;have oA:=(h1.good hg).1;refine⟨t,h1,oA,?_,h4,?_,h6⟩
  · rw[J7 (by rw[h2];rcases hk with rfl | rfl<;>decide),h3,sr oA h2 (by omega),h2,Bt];rfl
  · rw[VS] at h5;rw[pZ];have e:eg (r.nodes one k e).1.1=eg (r.bracket (bU one) k e).1.1:=rfl;omega
theorem amP:Sound ae.rule Nd.cM (fun n=>n.pT=true) SN:=by
  intro r hg hb;have bl : ((r.word.2.take 58).2.words true).2.bad=none:=hb;have l1:r.word.2.l=r.l:=r.ec 97;have l2:(r.word.2.take 58).2.l=r.l:=(ae.ec _ 58).trans l1;obtain⟨t,h1,h2,h3,h4,h5⟩:=Kq (by rw[l2];exact hg) bl;obtain⟨c1,c2⟩:=n9 h1.b;obtain⟨seg,e1,e2,e3,e4⟩:=BC r hg c1.b;have mJ:=(c1.good (by rw[l1];exact hg)).1;refine⟨seg++[(r.word.2.take 58).1]++[t],(e1.trans c1).trans h1,?_,?_,?_⟩
  · rw[wB (by rw[c2];decide) (by rw[c2];rfl),e2,h3,sr mJ c2 (by decide)];simp only[ae.rule];rw[Nd.cM];simp
  · simp only[ae.rule,Nd.pT,Nd.kind,Nd.text,Nd.names,Nd.kids];rw[e3,h4];rfl
  · simp only[ae.rule,SN,Nd.wt,eg,sy,pZ];simp only[SW] at e4;simp only[pZ] at h5;omega
theorem Po:∀n,Sound (ae.constant n) Nd.cM (fun m=>m.g_=true) SN
  | 0 => fun r hg hb => by
    obtain⟨seg,e1,e2,⟨e3,e5⟩,e4⟩:=AU (.inr rfl) r hg hb;refine⟨seg,e1,e2,?_,e4⟩;exact TQ e3 e5
  | n + 1 => fun r hg hb => by
    simp only[ae.constant] at hb ⊢;split
    · rename_i hs;rw[aw hs] at hb;obtain⟨t,h1,h2,h3,h4,h5⟩:=Kq hg hb;refine⟨[t],h1,?_,?_,?_⟩
      · rw[h3,Nd.cM];simp
      · exact alI h4
      · simp only[SN,Nd.wt,eg,dk];omega
    · rename_i hs;rw[ah hs] at hb;split
      · rename_i hs;rw[aw hs] at hb;obtain⟨t,h1,h2,h3,h4,h5,h6⟩:=DV (Po n) (.inl rfl) hg hb;refine⟨[t],h1,?_,?_,?_⟩
        · rw[h3,Nd.cM];simp only[show (closing 40).toNat=41 from rfl];rfl
        · exact alJ h4 (h6 rfl)
        · simp only[SN,Nd.wt,di,cX,pd,dk];omega
      · rename_i hs;rw[ah hs] at hb;split
        · rename_i hs;rw[aw hs] at hb;obtain⟨t,h1,h2,h3,h4,h5,h6⟩:=DV amP (.inr rfl) hg hb;refine⟨[t],h1,?_,?_,?_⟩
          · rw[h3,Nd.cM];simp only[show (closing 91).toNat=93 from rfl];rfl
          · exact alG h4
          · simp only[SN,Nd.wt,di,cX,pd,dk];omega
        · rename_i hs;rw[ah hs] at hb;obtain⟨seg,e1,e2,⟨e3,e5⟩,e4⟩:=AU (.inr rfl) r hg hb;refine⟨seg,e1,e2,?_,e4⟩;exact TQ e3 e5
theorem OD (n:Nat):Sound (ae.atom n) Nd.cM (fun m=>m.mD=true) SN:=by
  intro r hg hb;simp only[ae.atom] at hb ⊢;split
  · rename_i hs;rw[aw hs] at hb;have l1:(r.take 35).2.l=r.l:=r.ec 35;obtain⟨seg,e1,e2,e3,e4⟩:=Po n (r.take 35).2 (by rw[l1];exact hg) hb;obtain⟨c1,c2⟩:=n9 e1.b;have mJ:=(c1.good hg).1;refine⟨[(r.take 35).1]++seg,c1.trans e1,?_,?_,?_⟩
    · have:=wB (t:=(r.take 35).1) (by rw[c2];decide) (by rw[c2];rfl) [] seg
      rw[iS] at this;rw[this,sr mJ c2 (by decide),e2,Nd.cM];simp[bu,jQ,p7,da,mI]
    · simp only[Nd.mD,alF e3,Nd.kind];rfl
    · simp only[SN,Nd.wt,di,eg,cX,pd,dk,sy,pZ] at e4 ⊢;omega
  · rename_i hs;rw[ah hs] at hb;obtain⟨seg,e1,e2,⟨e3,e5⟩,e4⟩:=AU (.inl rfl) r hg hb;refine⟨seg,e1,e2,?_,e4⟩;simp only[Nd.mD,Jj e3 e5,e3];rfl
theorem OC {n:Nd} (h:n.mD=true):n.fg=true:=by simp only[Nd.mD,bm] at h;exact h.2
theorem Ib:∀n,Sound (ae.label n) Nd.cM (fun m=>m.fg=true) SN
  | 0 => fun r hg hb => by
    obtain⟨seg,e1,e2,⟨e3,e5⟩,e4⟩:=AU (.inl rfl) r hg hb;refine⟨seg,e1,e2,?_,e4⟩;exact Jj e3 e5
  | n + 1 => fun r hg hb => by
    simp only[ae.label] at hb ⊢;split
    · rename_i hs;rw[aw hs] at hb;have l1:(r.take 43).2.l=r.l:=r.ec 43;obtain⟨t,h1,h2,h3,h4,h5,h6⟩:=DV (Ib n) (.inl rfl) (by rw[l1];exact hg) hb;obtain⟨c1,c2⟩:=n9 h1.b;have mJ:=(c1.good hg).1;refine⟨[(r.take 43).1]++[t],c1.trans h1,?_,?_,?_⟩
      · have:=wB (t:=(r.take 43).1) (by rw[c2];decide) (by rw[c2];rfl) [] [t]
        rw[iS] at this;rw[this,sr mJ c2 (by decide),h3,Nd.cM];simp only[show (closing 40).toNat=41 from rfl];rfl
      · exact TP (.inl rfl) h4 (h6 rfl)
      · simp only[SN,Nd.wt,di,cX,pd,dk,sy,pZ] at h5 ⊢;omega
    · rename_i hs;rw[ah hs] at hb;split
      · rename_i hs;rw[aw hs] at hb;have l1:(r.take 38).2.l=r.l:=r.ec 38;obtain⟨t,h1,h2,h3,h4,h5,h6⟩:=DV (Ib n) (.inl rfl) (by rw[l1];exact hg) hb;obtain⟨c1,c2⟩:=n9 h1.b;have mJ:=(c1.good hg).1;refine⟨[(r.take 38).1]++[t],c1.trans h1,?_,?_,?_⟩
        · have:=wB (t:=(r.take 38).1) (by rw[c2];decide) (by rw[c2];rfl) [] [t]
          rw[iS] at this;rw[this,sr mJ c2 (by decide),h3,Nd.cM];simp only[show (closing 40).toNat=41 from rfl];rfl
        · exact TP (.inr rfl) h4 (h6 rfl)
        · simp only[SN,Nd.wt,di,cX,pd,dk,sy,pZ] at h5 ⊢;omega
      · rename_i hs;rw[ah hs] at hb;obtain⟨seg,e1,e2,e3,e4⟩:=OD (n+1) r hg hb;exact⟨seg,e1,e2,OC e3,e4⟩
theorem abw (n:Nat):Sound (ae.field n) Nd.cM (fun m=>m.lp=true) SN:=by
  intro r hg hb;have bl : ((r.word.2.take 61).2.atom n).2.bad=none:=hb;have l1:r.word.2.l=r.l:=r.ec 97;have l2:(r.word.2.take 61).2.l=r.l:=(ae.ec _ 61).trans l1;obtain⟨sg,h1,h2,h3,h4⟩:=OD n (r.word.2.take 61).2 (by rw[l2];exact hg) bl;obtain⟨c1,c2⟩:=n9 h1.b;obtain⟨seg,e1,e2,e3,e4⟩:=BC r hg c1.b;have mJ:=(c1.good (by rw[l1];exact hg)).1;refine⟨seg++[(r.word.2.take 61).1]++sg,(e1.trans c1).trans h1,?_,?_,?_⟩
  · rw[wB (by rw[c2];decide) (by rw[c2];rfl),e2,h2,sr mJ c2 (by decide)];simp only[ae.field];rw[Nd.cM];simp[da,mI]
  · simp only[ae.field,Nd.lp,Nd.kind,Nd.text,Nd.names,Nd.kids,qH];rw[e3,h3];rfl
  · simp only[ae.field,SN,Nd.wt,eg,di,cX,pd,sy,pZ] at h4 ⊢;simp only[SW] at e4;omega
theorem alH {p:Int} {ws:List Word} {ks:List Nd} (h1:ws.length≤1) (h2:kW ws=true) (h3:∀x∈ks,x.lp=true):(Nd.mk 10 p [] ws ks).jN=true:=by
  unfold Nd.jN;simp[Nd.kind,Nd.text,Nd.names,Nd.kids,h2];exact⟨aC (by omega),h3⟩
theorem RM (t:Tree):jT t.inner t.inner []:=⟨⟨[],t.kids,rfl,rfl,rfl⟩,rfl,rfl,rfl⟩
theorem P2 {n:Nat} {t:Tree} (hg:dR t.kids) {a:ae × List Nd} (ha:a=if t.inner.sees 124=true then (t.inner,[]) else dQ (bU (ae.field n)) t.inner) (hb:a.1.bad=none) :
    ∃seg,jT t.inner a.1 seg∧jQ (bu seg)=cn (da a.2)∧(∀x∈a.2,x.lp=true)∧eg a.2≤gK seg:=by
  split at ha
  · subst ha;exact⟨[],RM t,rfl,by simp,by simp[eg]⟩
  · subst ha;obtain⟨seg,e1,e2⟩:=U3 (abw n) (r:=t.inner) hg hb;refine⟨seg,e1,?_,e2.q,?_⟩
    · rw[e2.t,Bt]
    · have:=e2.s;rwa [VS] at this
theorem amD {n:Nat} {t:Tree} (hg:dR t.kids) (hb:(ae.rowOf n t).1.1.bad=none) :
    ∃seg,jT t.inner (ae.rowOf n t).1.1 seg∧jQ (bu seg)=cn (da (ae.rowOf n t).1.2)++(if 0<(ae.rowOf n t).2.length then [124]++jR (ae.rowOf n t).2 else []) ∧
      (∀x∈(ae.rowOf n t).1.2,x.lp=true)∧(ae.rowOf n t).2.length≤1∧kW (ae.rowOf n t).2=true∧eg (ae.rowOf n t).1.2+di (ae.rowOf n t).2≤gK seg:=by
  unfold ae.rowOf at hb ⊢;split
  · exact⟨[],RM t,rfl,by simp,by simp,rfl,by simp[eg,di]⟩
  rename_i aH;rw[ah aH] at hb;unfold ae.mX at hb ⊢;simp only at hb ⊢;generalize ha:(if t.inner.sees 124=true then (t.inner,[]) else dQ (bU (ae.field n)) t.inner)=a at hb ⊢;split
  · rename_i hs;rw[aw hs] at hb;have hba:a.1.bad=none:=by
      simp only[ae.sees,ae.ok,bm,wU] at hs;exact hs.1
    obtain⟨seg,e1,e2,e3,e4⟩:=P2 hg ha.symm hba;have l1:a.1.l=t.inner.l:=e1.l;have l2:(a.1.take 124).2.l=t.inner.l:=(ae.ec _ 124).trans l1;obtain⟨sw,w1,w2,w3,w4⟩:=BC (a.1.take 124).2 (by rw[l2];exact hg) hb;obtain⟨c1,c2⟩:=n9 w1.b;have mJ:=(c1.good (by rw[l1];exact hg)).1;refine⟨seg++[(a.1.take 124).1]++sw,(e1.trans c1).trans w1,?_,e3,by simp,?_,?_⟩
    · rw[wB (by rw[c2];decide) (by rw[c2];rfl),e2,sr mJ c2 (by decide),w2];simp[jR,cn]
    · simp only[kW,uO,KL,rq];exact w3
    · simp only[sy,pZ,di,bL,cX,oe,pd];simp only[SW] at w4;omega
  · rename_i hs;rw[ah hs] at hb;obtain⟨seg,e1,e2,e3,e4⟩:=P2 hg ha.symm hb;exact⟨seg,e1,by simpa using e2,e3,by simp,rfl,by simpa [di] using e4⟩
theorem amH (n:Nat):Sound (ae.row n) Nd.cM (fun m=>m.jN=true) SN:=by
  intro r hg hb;simp only[ae.row] at hb ⊢;split
  · rename_i hs;rw[aw hs] at hb;have fK:(r.take 91).2.bad=none:=by
      rcases r.mq 91 with ⟨_,_,h,_⟩ | ⟨h,_⟩
      · exact h
      · rw[hs] at h;simp at h
    obtain⟨c1,c2⟩:=n9 fK;have mJ:=(c1.good hg).1;have x_:dR (r.take 91).1.kids:=((vl _).1 mJ).2.2;have cR:(ae.rowOf n (r.take 91).1).1.1.close.bad=none:=hb;obtain⟨seg,e1,e2,e3,e4,e5,e6⟩:=amD (n:=n) x_ (FT cR).1;have HM:=Ok e1 cR;subst HM;refine⟨[(r.take 91).1],⟨c1.ex,c1.l,c1.b,hb⟩,?_,alH e4 e5 e3,?_⟩
    · rw[J7 (by rw[c2];decide),sr mJ c2 (by decide),c2,e2,Nd.cM];simp only[show (closing 91).toNat=93 from rfl];simp
    · simp only[SN,Nd.wt,pZ,dk];omega
  · rename_i hs;rw[ah hs] at hb;obtain⟨seg,e1,e2,⟨e3,e5⟩,e4⟩:=AU (.inl rfl) r hg hb;refine⟨seg,e1,e2,?_,e4⟩
    have:=Jj e3 e5
    show (r.leaf 1).1.jN=true;unfold Nd.jN;rw[e3,this];rfl
abbrev Sh:=Int × List UInt8
def Tok.sh (t:Tok):Sh:=(t.kind,t.text)
def Ep (c:UInt8):Sh:=((c.toNat:Nat),[c])
def wO (s:List UInt8) (ks:List Sh):Prop:=∀(n p:Nat) (acc:List Tok),s.length≤n→∃Ez,dB n p s acc=(acc++Ez,none)∧Ez.map Tok.sh=ks
def Stop:List UInt8→Prop
  | []=>True
  | c::_=>iC c=false
theorem Jy {c:UInt8} {s:List UInt8} (h:iC c=false):dC (c::s)=[]:=by simp[dC,h]
theorem ahV {c:UInt8} (h1:o5 (c.toNat:Nat)=true) (h2:iC c=false) (h3:c.toNat≠45) {s:List UInt8} {ks:List Sh} (h:wO s ks):wO ([c]++s) ([Ep c]++ks):=by
  intro n p acc hn
  rcases n with _ | n
  · simp at hn
  obtain⟨Ez,e1,e2⟩:=h n (p+1) (acc++[⟨(c.toNat:Nat),[c],p⟩]) (by simpa using hn);refine⟨⟨(c.toNat:Nat),[c],p⟩::Ez,?_,by simp[Tok.sh,Ep,e2]⟩;rw[Fp,dB];rw[ah (fun h=>h3 h.1),Jy h2,ah (by simp),aw h1,e1];simp
def Fa (tx:List UInt8) (sh:List Sh):Prop:=∀s ks,Stop s→wO s ks→wO (tx++s) (sh++ks)
def sQ (tx:List UInt8) (sh:List Sh):Prop:=∀s ks,wO s ks→wO (tx++s) (sh++ks)
theorem sQ.n {t:List UInt8} {k:List Sh} (h:sQ t k):Fa t k:=fun s ks _ hl=>h s ks hl
theorem ahU (c:UInt8) (h:(o5 (c.toNat:Nat)&&!iC c&&decide (c.toNat≠45))=true):sQ [c] [Ep c]:=fun _ _ hl=>by
  simp only[bm,uK,cq] at h;exact ahV h.1.1 h.1.2 h.2 hl
theorem sQ.app {a b:List UInt8} {x y:List Sh} (h:sQ a x) (k:sQ b y):sQ (a++b) (x++y):=fun s ks hl=>by
  rw[eh,eh];exact h _ _ (k _ _ hl)
theorem Fa.sign {a:List UInt8} {c:UInt8} {x:List Sh} (h:Fa a x) (hc:(o5 (c.toNat:Nat)&&!iC c&&decide (c.toNat≠45))=true):sQ (a++[c]) (x++[Ep c]):=fun s ks hl=>by
  rw[eh,eh]
  have:=hc
  simp only[bm,uK,cq] at this;exact h _ _ this.1.2 (ahU c hc _ _ hl)
theorem Nd.Vq (n:Nd):n.cM=if n.kind=1∨n.kind=2 then n.text else if n.kind=3 then [123]++jR n.names++[125] else if n.kind=4 then [40]++cn (da n.kids)++[41] else if n.kind=5 then [91]++cn (da n.kids)++[93]
    else if n.kind=6 then n.text++[58,123]++jR n.names++[125] else if n.kind=7 then [35]++mI (da n.kids) else if n.kind=8 then [43,40]++cn (da n.kids)++[41] else if n.kind=9 then [38,40]++cn (da n.kids)++[41]
    else if n.kind=10 then ([91]++cn (da n.kids))++(if 0<n.names.length then [124]++jR n.names else [])++[93] else if n.kind=11 then n.text++[61]++mI (da n.kids) else []:=by cases n;rw[Nd.cM];rfl
theorem abx {n:Nd} (h:n.lp=true):n.kind=11∧dZ n.text=true∧n.names=[]∧∃c,n.kids=[c]∧c.mD=true:=by
  simp only[Nd.lp,bm,cq] at h;refine⟨h.1.1.1.1,h.1.1.1.2,uT.1 (by omega),?_⟩
  match hq:n.kids,h.1.2 with
  | [c],_=>exact⟨c,rfl,by have:=h.2;rw[hq] at this;exact this⟩
  | [],e=>simp at e
  | _::_::_,e=>simp at e;omega
theorem T_ {n:Nd} (h:n.jN=true):(n.kind=10∧n.text=[]∧(n.names=[]∨∃w,n.names=[w]∧dZ w.text=true)∧∀x∈n.kids,x.lp=true)∨(n.kind=1∧n.fg=true):=by
  unfold Nd.jN at h;split at h
  · rename_i k;simp only[bm,cq] at h;refine .inl ⟨k,h.1.1.1,?_,la.1 h.2⟩
    match hq:n.names,h.1.1.2 with
    | [],_=>exact .inl rfl
    | [w],_=>exact .inr ⟨w,rfl,by have:=h.1.2;rw[hq] at this;simpa [kW] using this⟩
    | _::_::_,e=>simp at e;omega
  · simp only[bm,cq] at h;exact .inr h
mutual
def Tree.WF:Tree→Prop
  | .mk t ks e=>kI t.kind=false∧(closing t.kind=0→ks=[]∧e=t.pos)∧kc ks
def kc:List Tree→Prop
  | []=>True
  | t::ts=>t.WF∧kc ts
end
theorem Fy:∀{a b:List Tree},kc (a++b)↔kc a∧kc b
  | [],b=>by simp[kc]
  | t::ts,b=>by simp only[gN,kc,Fy (a:=ts),FC]
theorem vT {a r:List Tok} {t:Tok}:dX (a++t::r) a.length=t.kind:=by simp[dX]
theorem Vm {a r:List Tok} {t:Tok}:gV (a++t::r) a.length=t:=by simp[gV]
theorem TB {a r:List Tok} {t:Tok}:pP (a++t::r) a.length=t.pos:=by simp[pP]
theorem O3 {c:Int} (h:closing c≠0):kI (closing c)=true∧closing (closing c)=0:=by
  have:c=40∨c=123∨c=91:=by
    unfold closing at h;split at h
    · rename_i k;exact .inl k
    · split at h
      · rename_i k;exact .inr k
      · exact absurd rfl h
  rcases this with rfl | rfl | rfl<;>decide
theorem P8 (t:Tree) (ts:List Tree):bu (t::ts)=t.flat++bu ts:=rfl
theorem Co {l:List Tok} {x:Nat}:∀(k:Nat) (us:List Tree) (a b:List Tok) (n:Nat) (d:Int),bp us≤k→kc us→l=a++bu us++b→1≤d→gI l x (n+(bu us).length) a.length d=gI l x n (a++bu us).length d
  | _,[],a,b,n,d,_,_,_,_=>by simp[bu]
  | 0,t::ts,a,b,n,d,h,_,_,_=>by simp[bp] at h
  | k + 1, .mk t ks e :: ts, a, b, n, d, h, hw, hl, hd => by
    simp only[bp,Tree.many] at h;obtain⟨⟨w1,w2,w3⟩,w4⟩:=hw;rw[P8] at hl ⊢
    by_cases hc:closing t.kind=0
    · have ef:(Tree.mk t ks e).flat=[t]:=by simp[Tree.flat,hc]
      rw[ef] at hl ⊢;have hk:dX l a.length=t.kind:=by rw[hl];simp only[eh,gN];exact vT
      have C4:delta l a.length=0:=by unfold delta;rw[hk,hc,w1];simp
      rw[show n+([t]++bu ts).length=(n+(bu ts).length)+1 by simp;omega,pN,C4,ah (by omega),Int.add_zero]
      have:=Co (l:=l) (x:=x) k ts (a++[t]) b n d (by omega) w4 (by rw[hl];simp) hd
      rw[show (a++[t]).length=a.length+1 by simp] at this;rw[this];simp
    · have ef:(Tree.mk t ks e).flat=t::(bu ks++[⟨closing t.kind,[UInt8.ofNat (closing t.kind).toNat],e⟩]):=by simp[Tree.flat,hc]
      generalize fU:(⟨closing t.kind,[UInt8.ofNat (closing t.kind).toNat],e⟩:Tok)=c at ef;have Af:c.kind=closing t.kind:=by rw[←fU]
      obtain⟨c1,c2⟩:=O3 hc;rw[ef] at hl ⊢;have hk:dX l a.length=t.kind:=by rw[hl];simp only[eh,gN];exact vT
      have Hc:delta l a.length=1:=zD (by rw[hk];exact hc);have oB:dX l (a++[t]++bu ks).length=c.kind:=by
        rw[hl]
        have:a++(t::(bu ks++[c])++bu ts)++b=(a++[t]++bu ks)++c::(bu ts++b):=by simp
        rw[this];exact vT
      have Hd:delta l (a++[t]++bu ks).length = -1:=by unfold delta;rw[oB,Af,c2,c1];simp
      rw[show n+(t::(bu ks++[c])++bu ts).length=((n+(bu ts).length+1)+(bu ks).length)+1 by simp;omega,pN,Hc,ah (by omega)];have h1:=Co (l:=l) (x:=x) k ks (a++[t]) ([c]++bu ts++b) (n+(bu ts).length+1) (d+1) (by omega) w3 (by rw[hl];simp) (by omega);rw[show (a++[t]).length=a.length+1 by simp] at h1;rw[h1,pN,Hd,ah (by omega),show d+1 + -1=d by omega];have h2:=Co (l:=l) (x:=x) k ts (a++[t]++bu ks++[c]) b n d (by omega) w4 (by rw[hl];simp) hd;rw[show (a++[t]++bu ks++[c]).length=(a++[t]++bu ks).length+1 by simp;omega] at h2;rw[h2];simp
theorem akL {l:List Tok} {t c:Tok} {ks:List Tree} {a b:List Tok} (hl:l=a++[t]++bu ks++c::b) (hw:kc ks) (hc:closing t.kind≠0) (Af:c.kind=closing t.kind):partner l a.length=(a++[t]++bu ks).length:=by
  obtain⟨c1,c2⟩:=O3 hc;have hk:dX l a.length=t.kind:=by rw[hl];simp only[eh,Fp];exact vT
  have Hc:delta l a.length=1:=zD (by rw[hk];exact hc);have oB:dX l (a++[t]++bu ks).length=c.kind:=by rw[hl];exact vT
  have Hd:delta l (a++[t]++bu ks).length = -1:=by unfold delta;rw[oB,Af,c2,c1];simp
  unfold partner;rw[show l.length - a.length=((b.length+1)+(bu ks).length)+1 by rw[hl];simp;omega,pN,Hc,ah (by omega)];have h1:=Co (l:=l) (x:=a.length) _ ks (a++[t]) (c::b) (b.length+1) (0+1) (bt _) hw hl (by omega);rw[show (a++[t]).length=a.length+1 by simp] at h1;rw[h1,pN,Hd,aw (by omega)]
theorem EE {l:List Tok}:∀(k:Nat) (us:List Tree) (a b:List Tok) (n:Nat),bp us≤k→kc us→l=a++bu us++b→(bu us).length≤n→ng l n a.length (a.length+(bu us).length)=us
  | _,[],a,b,n,_,_,_,_=>by cases n<;>simp[bu,ng]
  | 0,t::ts,a,b,n,h,_,_,_=>by simp[bp] at h
  | k + 1, .mk t ks e :: ts, a, b, n, h, hw, hl, hn => by
    simp only[bp,Tree.many] at h;obtain⟨⟨w1,w2,w3⟩,w4⟩:=hw;rw[P8] at hl hn ⊢
    by_cases hc:closing t.kind=0
    · have ef:(Tree.mk t ks e).flat=[t]:=by simp[Tree.flat,hc]
      obtain⟨w5,w6⟩:=w2 hc;rw[ef] at hl hn ⊢;have fc : l=a++t::(bu ts++b):=by rw[hl];simp
      have hk:dX l a.length=t.kind:=by rw[fc];exact vT
      have ht:gV l a.length=t:=by rw[fc];exact Vm
      have hp:pP l a.length=t.pos:=by rw[fc];exact TB
      simp only[bz,jn] at hn ⊢;obtain⟨m,rfl⟩:∃m,n=m+1:=⟨n - 1,by omega⟩;rw[ng,aw (by omega),ah (by rw[hk];simpa using hc),ht,hp]
      have:=EE (l:=l) k ts (a++[t]) b m (by omega) w4 (by rw[hl];simp) (by omega)
      rw[show (a++[t]).length=a.length+1 by simp,show a.length+1+(bu ts).length=a.length+(1+(bu ts).length) by omega] at this;rw[this,w5,w6]
    · have ef:(Tree.mk t ks e).flat=t::(bu ks++[⟨closing t.kind,[UInt8.ofNat (closing t.kind).toNat],e⟩]):=by simp[Tree.flat,hc]
      generalize fU:(⟨closing t.kind,[UInt8.ofNat (closing t.kind).toNat],e⟩:Tok)=c at ef;have Af:c.kind=closing t.kind:=by rw[←fU]
      have pw:c.pos=e:=by rw[←fU]
      rw[ef] at hl hn ⊢;have yf:l=a++t::(bu ks++[c]++bu ts++b):=by rw[hl];simp
      have kl:l=a++[t]++bu ks++c::(bu ts++b):=by rw[hl];simp
      have hk:dX l a.length=t.kind:=by rw[yf];exact vT
      have ht:gV l a.length=t:=by rw[yf];exact Vm
      have hpa:=akL kl w3 hc Af;have hp:pP l (a++[t]++bu ks).length=e:=by rw[←pw,kl];exact TB
      simp only[bz,cF,dk] at hn;obtain⟨m,rfl⟩:∃m,n=m+1:=⟨n - 1,by omega⟩;rw[ng,aw (by simp),aw (by rw[hk];exact hc),ht,hpa,hp];have h1:=EE (l:=l) k ks (a++[t]) (c::(bu ts++b)) m (by omega) w3 kl (by omega);have h2:=EE (l:=l) k ts (a++[t]++bu ks++[c]) b m (by omega) w4 (by rw[hl];simp) (by omega);have e1:(a++[t]++bu ks).length=(a++[t]).length+(bu ks).length:=bz;have e2:a.length+1=(a++[t]).length:=by simp
      have e3:(a++[t]).length+(bu ks).length+1=(a++[t]++bu ks++[c]).length:=by simp only[bz,jn]
      have e4:a.length+(t::(bu ks++[c])++bu ts).length=(a++[t]++bu ks++[c]).length+(bu ts).length:=by simp only[bz,cF,dk];omega
      rw[e1,e2,h1,e3,e4,h2]
theorem aot {us:List Tree} (hw:kc us) (h:(nf (bu us)).2=none):(nf (bu us)).1=us:=by
  unfold nf at h ⊢;split
  · rename_i h0;rw[aw h0] at h;simp at h
  · have:=EE (l:=bu us) _ us [] [] (bu us).length (bt _) hw (by simp) (bt _)
    simpa using this
def du:List Tok→List (Tok × List Tree)→List Tree→List Tree × Option Int
  | [],op,row=>match op.getLast? with | some (t,_)=>([],some t.pos) | none=>(row,none)
  | t :: ts, op, row =>
    if closing t.kind≠0 then (if 24≤op.length then ([],some t.pos) else du ts (op++[(t,row)]) [])
    else if kI t.kind=true then
      match op.getLast? with
      | none=>([],some t.pos)
      | some (u,ahead)=>if closing u.kind=t.kind then du ts op.dropLast (ahead++[.mk u row t.pos]) else ([],some t.pos)
    else du ts op (row++[.mk t [] t.pos])
def Tk.ok (ck σ:ab) (n:Nat):Tk→Prop
  | .full=>True
  | .tk τ=>ck.aB τ=none∧σ.aB τ=some n
  | .no=>False
def Tk.name:Tk→Option Nat
  | .tk τ=>some τ
  | _=>none
def gy (ck σ:ab) (L:List (Tk × Nat)):Prop:=ck.sub σ∧(∀p∈L,p.1.ok ck σ p.2)∧(L.filterMap fun p=>p.1.name).Nodup
theorem gy.init {σ:ab} {L:List (Tk × Nat)} (h:∀p∈L,p.1 = .full):gy σ σ L:=by
  refine⟨ab.aS σ,fun p hp=>by rw[h p hp];trivial,?_⟩
  have:L.filterMap (fun p=>p.1.name)=[]:=by
    rw[List.filterMap_eq_nil_iff];intro p hp;rw[h p hp];rfl
  rw[this];exact List.nodup_nil
theorem gy.perm {ck σ:ab} {L L' : List (Tk × Nat)} (h:gy ck σ L) (hp:L.Perm L'):gy ck σ L' :=
  ⟨h.1,fun p hm=>h.2.1 p (hp.mem_iff.2 hm),(hp.filterMap _).nodup_iff.1 h.2.2⟩
theorem gy.tail {ck σ:ab} {p:Tk × Nat} {L:List (Tk × Nat)} (h:gy ck σ (p::L)):gy ck σ L:=by
  refine⟨h.1,fun q hq=>h.2.1 q (by simp[hq]),?_⟩
  have:=h.2.2
  simp only[Fi] at this;split at this
  · exact this
  · exact(KZ.1 this).2
theorem gy.full {ck σ:ab} {n:Nat} {L:List (Tk × Nat)} (h:gy ck σ L):gy ck σ ((.full,n)::L) :=
  ⟨h.1,fun q hq=>by rcases iR.1 hq with rfl | hq;exact trivial;exact h.2.1 q hq,by simpa [Fi,Tk.name] using h.2.2⟩
theorem gy.put {ck σ:ab} {tk:Tk} {n m τ:Nat} {L:List (Tk × Nat)} (h:gy ck σ ((tk,n)::L)) (h0:ck.aB τ=none) (ht:tk = .tk τ∨σ.aB τ=none):gy ck (σ.aK τ m) ((.tk τ,m)::L):=by
  have Rb:τ∉L.filterMap fun p=>p.1.name:=fun hm=>by
    obtain⟨⟨t,k⟩,hq,hn⟩:=KX.1 hm;cases t with
    | no=>simp[Tk.name] at hn
    | full=>simp[Tk.name] at hn
    | tk υ =>
      simp only[Tk.name,aG] at hn;subst hn
      rcases ht with rfl | ht
      · have:=h.2.2
        simp only[Fi,Tk.name] at this;exact(KZ.1 this).1 hm
      · have:=(h.2.1 (.tk υ,k) (by simp[hq])).2
        rw[ht] at this;simp at this
  refine⟨⟨h.1.1,fun t k hk=>?_,h.1.2.2⟩,fun p hp=>?_,?_⟩
  · have aH:t≠τ:=by rintro rfl;rw[h0] at hk;simp at hk
    simp only[ab.aK,ah aH];exact h.1.2.1 t k hk
  · rcases iR.1 hp with rfl | Rh
    · exact⟨h0,by simp[ab.aK]⟩
    · have:=h.2.1 p (by simp[Rh])
      obtain⟨t,k⟩:=p;cases t with
      | no=>exact this
      | full=>trivial
      | tk υ =>
        have aH:υ≠τ:=by rintro rfl;exact Rb (KX.2 ⟨(.tk υ,k),Rh,rfl⟩)
        exact⟨this.1,by simp only[ab.aK,ah aH];exact this.2⟩
  · simp only[Fi,Tk.name];exact KZ.2 ⟨Rb,h.tail.2.2⟩
theorem gy.fresh {ck σ:ab} {L:List (Tk × Nat)} (h:gy ck σ L) {τ:Nat} (ht:σ.aB τ=none):ck.aB τ=none:=by
  cases hq:ck.aB τ with
  | none=>rfl
  | some n=>rw[h.1.2.1 τ n hq] at ht;simp at ht
theorem FF {ck σ:ab} {tk u:Tk} {k:Nat} {m n:List (List V)} {K:V→ab→Prop} {L:List (Tk × Nat)} (h:gy ck σ ((tk,m.length)::L)) (hb:m.length+n.length≤aE)
    (hk:∀τ,gy ck (σ.aK τ (m.length+n.length)) ((.tk τ,m.length+n.length)::L)→K (.sl (.tk τ) k (m++n)) (σ.aK τ (m.length+n.length))):mu σ k (.sl tk k m) (.sl u k n) K:=by
  have hh:=h.2.1 (tk,m.length) (by simp);cases tk with
  | no=>exact hh.elim
  | full=>exact FG hb fun τ ba=>hk τ (h.put (h.fresh ba) (.inr ba))
  | tk τ=>exact jt hb hh.2 (hk τ (h.put hh.1 (.inl rfl)))
theorem akw {σ:ab} {H:V→ab→Prop} {k:Nat} {cs:List V}:OQ.aL σ H (.jI k) [.agg cs]=(cs.length=k∧bd cs=true∧bA cs=true∧H (.sl .full k [cs]) σ):=by
  simp only[OQ.aL,H_,tX,V.wd,V.cells,aG]
  by_cases h:cs.length=k∧bd cs=true∧bA cs=true
  · rw[aw h];simp[h]
  · rw[ah h];simp;intro h1 h2 h3;exact absurd ⟨h1,h2,h3⟩ h
theorem anI {k:Nat} {τ:Tk} {m:List (List V)} {j j' : IntKind} {b:Nat} {H:V→Prop} (h2:b≤m.length) (h:H (.sl .full k (m.take b))):Bi k (.sl τ k m) none (some (.int j b)) (some (.int j' b)) H:=.inl ⟨τ,m,0,b,rfl,pe _,h2,rfl,⟨j,rfl⟩,⟨j',rfl⟩,h⟩
structure aj where
  op:Int
  pos:Int
  name:Word
  names:List Word
  aY:List (Word × Word)
  jM:Int
  left:Nd
  right:Nd
def aj.zero:aj:=⟨0,0,⟨[],0⟩,[],[],0,.zero,.zero⟩
def dr (p:Word × Word):List V:=[.str p.1.text,.int .i64 p.1.pos,.str p.2.text,.int .i64 p.2.pos]
def aj.b7 (c:aj) (pc:V):List V:=[.int .i64 c.op,.int .i64 c.pos,.str c.name.text,.int .i64 c.name.pos,.sl .no 2 (c.names.map Word.enc),pc,.int .i64 c.jM,
  .int .i64 c.left.kind,.int .i64 c.left.pos,.str c.left.text,.sl .no 2 (c.left.names.map Word.enc),.sl .no 5 (c.left.kids.map Nd.enc),.int .i64 c.right.kind,.int .i64 c.right.pos,.str c.right.text,.sl .no 2 (c.right.names.map Word.enc),.sl .no 5 (c.right.kids.map Nd.enc)]
def mU:List (Word × Word)→V
  | []=>.sl .full 4 []
  | p::ps=>.sl .no 4 ((p::ps).map dr)
def aj.enc (c:aj):List V:=c.b7 (.sl .no 4 (c.aY.map dr))
def iV:List (List UInt8 × List UInt8) :=
  [([],[]),([99,104,97,105,110],[110,119]),([112,111,119,101,114],[110,119]),([112,114,111,100,117,99,116],[110,119]),([103,114,105,100],[110,119,112]),([116,97,98,108,101],[110,119,112]),([108,97,98,101,108],[110,119]),([114,111,119],[110,119]),([108,101,113],[110,116,116]),([114,111,119,101,113],[110,114,114]),([108,97,99,107,115],[110,102]),([112,117,115,104],[]),([112,111,112],[]),([99,104,101,99,107],[]),([99,111,114,101],[]),([119,104,121],[110])]
def fq:List V:=(iV.map fun p=>[V.str p.1,V.str p.2]).flatten
def cL (op:Int):List UInt8 × List UInt8:=if 0≤op∧op<16 then iV.getD op.toNat ([],[]) else ([],[])
def mR (w:List UInt8):Nat→Nat→Int
  | 0,_=>0
  | n+1,op=>if 0<op∧(cL op).1=w then op else mR w n (op+1)
def jL (w:List UInt8):Int:=mR w 16 0
def ae.gH:Nat→ae→List (Word × Word)→ae × List (Word × Word)
  | 0,i,acc=>(i,acc)
  | n + 1, i, acc =>
    if i.bad≠none then (i,acc)
    else
      if ((i.word.2.take 60).2.word).2.at_=i.l.length then (((i.word.2.take 60).2.word).2,acc++[(i.word.1,((i.word.2.take 60).2.word).1)])
      else gH n (((i.word.2.take 60).2.word).2.take 44).2 (acc++[(i.word.1,((i.word.2.take 60).2.word).1)])
def ae.qt (r:ae) (b:Option Int):ae:=match b with | some a=>{r with bad:=some a} | none=>r
def n6 (r:ae) (c:aj):ae × aj :=
  let t:=(r.take 123).1
  let r1:=(r.take 123).2
  if r1.bad≠none∨t.kids.length=0 then (r1,{c with jM:=t.tok.pos})
  else (r1.qt (t.inner.gH (t.kids.length+1) []).1.bad,{c with jM:=t.tok.pos,aY:=(t.inner.gH (t.kids.length+1) []).2})
def jK (r:ae) (c:aj) (g:Nd × Int × Option Int):ae × aj :=
  match g.2.2 with
  | some a=>({r with bad:=some a},c)
  | none=>({r with at_:=g.2.1},if c.left.kind=0 then {c with left:=g.1} else {c with right:=g.1})
def gu (letter:UInt8) (x:ae × aj):ae × aj :=
  if x.1.bad≠none then x
  else if letter=110 then (x.1.word.2,{x.2 with name:=x.1.word.1})
  else if letter=102 then (x.1.word.2,{x.2 with names:=[x.1.word.1]})
  else if letter=119 then ({x.1 with bad:=(lI x.1.l x.1.at_ x.1.fin).2,at_:=x.1.at_+1},{x.2 with names:=(lI x.1.l x.1.at_ x.1.fin).1})
  else if letter=112 then n6 x.1 x.2
  else if letter=116 then jK x.1 x.2 (fi (ae.label (bp x.1.l)) x.1.l x.1.at_ x.1.fin)
  else if letter=114 then jK x.1 x.2 (fi (ae.row (bp x.1.l)) x.1.l x.1.at_ x.1.fin)
  else x
def fZ:List UInt8→ae × aj→ae × aj
  | [],x=>x
  | k::ks,x=>fZ ks (gu k x)
def td (x:ae × aj):aj × Int × Int :=
  match (if x.1.bad=none∧x.1.at_<x.1.l.length then x.1.fail else x.1).bad with
  | some a=>(.zero,2,a)
  | none=>(x.2,0,0)
def s6 (l:List Tree) (fin:Int):aj × Int × Int :=
  match l with
  | []=>(.zero,0,0)
  | t :: _ =>
    let w:=(⟨l,0,fin,none⟩:ae).word
    if jL w.1.text=0 then (.zero,2,t.tok.pos)
    else td (fZ (cL (jL w.1.text)).2 (w.2,{aj.zero with op:=jL w.1.text,pos:=w.1.pos}))
def cS (s:List UInt8):aj × Int × Int :=
  match (dJ s).2 with
  | some a=>(.zero,1,a)
  | none => match (du (dJ s).1 [] []).2 with
    | some a=>(.zero,2,a)
    | none=>s6 (du (dJ s).1 [] []).1 s.length
structure gZ (l:List Tree) (fin:Int) (x:ae × aj):Prop where
  hl:x.1.l=l
  hf:x.1.fin=fin
  ge:0≤x.1.at_
  le:x.1.at_≤(l.length:Int)+1
  ok:x.1.bad=none→x.1.at_≤(l.length:Int)
theorem abg (r:ae):r.fail.fin=r.fin:=by unfold ae.fail;split<;>rfl
theorem Bq (r:ae) (k:Int):(r.take k).2.fin=r.fin:=by
  unfold ae.take;split
  · rfl
  · exact abg r
theorem afe (n:Nat) (r:ae):jm r (r.row n).2:=by
  unfold ae.row;split
  · rename_i hs;have h:=pq r 91;have hb:(r.take 91).2.bad=none:=by
      rcases r.mq 91 with ⟨_,_,hb,_,_⟩ | ⟨h',_⟩
      · exact hb
      · rw[hs] at h';simp at h'
    exact⟨h.1,fun h1 h2=>by
      obtain⟨p1,p2,p3⟩:=h.2 h1 h2;exact⟨p1,p2,fun _=>p3 hb⟩⟩
  · exact zS r 1
theorem gZ.goes {l:List Tree} {fin:Int} {x:ae × aj} {r:ae} {c:aj} (h:gZ l fin x) (hb:x.1.bad=none) (g:jm x.1 r) (hf:r.fin=x.1.fin):gZ l fin (r,c):=by
  obtain⟨h1,h2,h3,h4,h5⟩:=h;have h5:=h5 hb;obtain⟨g1,g2⟩:=g;rw[h1] at g2;have g2:=g2 h3 (by omega);exact⟨g1.trans h1,hf.trans h2,by simp only;omega,by simp only;omega,fun _=>by simp only;omega⟩
theorem gZ.bad {l:List Tree} {fin:Int} {r:ae} {c c' : aj} {a:Int} (h:gZ l fin (r,c)):gZ l fin ({r with bad:=some a},c'):=⟨h.hl,h.hf,h.ge,h.le,fun h=>by simp at h⟩
theorem SV {l:List Tree} {fin:Int} {r:ae} {c:aj} {one:ae→Nd × ae} (h:gZ l fin (r,c)) (hb:r.bad=none) (ho:∀r,jm r (one r).2):gZ l fin (jK r c (fi one r.l r.at_ r.fin)):=by
  unfold jK fi;have he:(⟨r.l,r.at_,r.fin,none⟩:ae)=r:=by cases r;simp only at hb;subst hb;rfl
  rw[he];cases hq:(one r).2.bad with
  | some a=>exact h.bad
  | none =>
    obtain⟨g1,g2⟩:=ho r;have h5:=h.ok hb;have h3:=h.ge;have h1:=h.hl;simp only at h5 h3 h1;rw[h1] at g2;have g2:=g2 h3 h5;exact⟨h.hl,h.hf,by simp only;omega,by simp only;omega,fun _=>by simp only;omega⟩
theorem akC {l:List Tree} {fin:Int} {r:ae} {c:aj} (h:gZ l fin (r,c)) (hb:r.bad=none):gZ l fin (n6 r c):=by
  have h1:∀c',gZ l fin ((r.take 123).2,c'):=fun c' => gZ.goes (x:=(r,c)) h hb (pq r 123) (Bq r 123)
  unfold n6;simp only;split
  · exact h1 _
  · unfold ae.qt;split
    · exact(h1 c).bad
    · exact h1 _
theorem Tj {l:List Tree} {fin:Int} {x:ae × aj} (h:gZ l fin x) (k:UInt8):gZ l fin (gu k x):=by
  obtain⟨r,c⟩:=x;unfold gu;simp only;split
  · exact h
  rename_i hb;have hb:r.bad=none:=by simpa using hb
  split
  · exact gZ.goes (x:=(r,c)) h hb (tA r) (Bq r 97)
  split
  · exact gZ.goes (x:=(r,c)) h hb (tA r) (Bq r 97)
  split
  · have h5:=h.ok hb;have h3:=h.ge;simp only at h5 h3;refine⟨h.hl,h.hf,by simp only;omega,by simp only;omega,fun hn=>?_⟩;have he:(⟨r.l,r.at_,r.fin,none⟩:ae)=r:=by cases r;simp only at hb;subst hb;rfl
    simp only[lI,he] at hn;cases hq:(r.words false).2.bad with
    | some a=>rw[hq] at hn;simp at hn
    | none =>
      obtain⟨g1,g2⟩:=Gz r false;have h1:=h.hl;simp only at h1;rw[h1] at g2
      have:=(g2 h3 h5)
      have:=this.2.2 hq
      simp only;omega
  split
  · exact akC h hb
  split
  · exact SV h hb (Gy _)
  split
  · exact SV h hb (afe _)
  · exact h
theorem Tr:∀(ks:List UInt8) (k:UInt8) (x:ae × aj),fZ (ks++[k]) x=gu k (fZ ks x)
  | [],_,_=>rfl
  | _::ks,k,x=>Tr ks k _
theorem I9 {l:List Tree} {fin:Int}:∀(ks:List UInt8) {x:ae × aj},gZ l fin x→gZ l fin (fZ ks x)
  | [],_,h=>h
  | k::ks,_,h=>I9 ks (Tj h k)
theorem Tm {k:UInt8} {x:ae × aj} (h:k≠112∨x.1.bad≠none):(gu k x).2.aY=x.2.aY:=by
  unfold gu;split
  · rfl
  rename_i hb;have hb:x.1.bad=none:=by simpa using hb
  have hk:k≠112:=by rcases h with h | h;exact h;exact absurd hb h
  split
  · rfl
  split
  · rfl
  split
  · rfl
  have hn:∀g,(jK x.1 x.2 g).2.aY=x.2.aY:=fun g=>by
    unfold jK;split
    · rfl
    · simp only;split<;>rfl
  split
  · exact hn _
  split
  · exact hn _
  · rfl
theorem Tq:∀(ks:List UInt8) {x:ae × aj},(∀k∈ks,k≠112)→(fZ ks x).2.aY=x.2.aY
  | [],_,_=>rfl
  | k::ks,x,h=>(Tq ks fun j hj=>h j (by simp[hj])).trans (Tm (.inl (h k (by simp))))
theorem aeD (op:Int) (i:Nat) (h:(cL op).2[i]?=some 112):∀k∈(cL op).2.take i,k≠112:=by
  unfold cL at h ⊢;split at h
  · rename_i h1;rw[aw h1];have ag:op.toNat<16:=by omega
    generalize op.toNat=n at h ag ⊢;have key:∀n<16,∀i<3,(iV.getD n ([],[])).2[i]?=some 112→∀k∈(iV.getD n ([],[])).2.take i,k≠112:=by decide
    have hl:∀n<16,(iV.getD n ([],[])).2.length≤3:=by decide
    have:=(dj.1 h).1
    exact key n ag i (by have:=hl n ag;omega) h
  · simp at h
theorem Gs (op:Int):∀c∈(cL op).2,c.toNat<128:=by
  unfold cL;split
  · rename_i h1;have ag:op.toNat<16:=by omega
    generalize op.toNat=n at ag ⊢;have key:∀n<16,∀c∈(iV.getD n ([],[])).2,c.toNat<128:=by decide
    exact key n ag
  · simp
def fD (s:ar) (lat:Int) (t:List UInt8) (p kind:Int):List au :=
  match iy s.vars t with
  | none=>if (gR s.bc t).isNone then [⟨3,p⟩] else [⟨4,p⟩]
  | some v => match s.vars[v]? with
    | some x=>if x.kind≠kind∨(0≤lat∧x.lat≠lat) then [⟨4,p⟩] else []
    | none=>[]
def eX (s:ar) (w:Word):List au:=if (gR s.bc w.text).isNone then (if (iy s.vars w.text).isNone then [⟨3,w.pos⟩] else [⟨4,w.pos⟩]) else []
def rJ (s:ar) (lat:Int) (n:Nd):Option Int:=(fS (ri s lat.toNat) (n.kids.getD 0 ib)).2
def va (s:ar) (lat:Int) (n:Nd):List au:=if 0<n.kids.length∧0≤lat then (match rJ s lat n with | some p=>[⟨4,p⟩] | none=>[]) else []
def iw (s:ar) (lat:Int) (n:Nd):List au:=if n.kind=1 then fD s lat n.text n.pos 1 else if n.kind=7 then va s lat n else []
mutual
def dq (s:ar) (lat:Int):Nd→List au
  | .mk k p t ws ks=>iw s lat (.mk k p t ws ks)++if k=1∨k=7 then [] else tY s lat ks
def tY (s:ar) (lat:Int):List Nd→List au
  | []=>[]
  | n::ns=>dq s lat n++tY s lat ns
end
theorem Ie {s:ar} {lat:Int}:∀{l:List Nd},tY s lat l=l.flatMap (dq s lat)
  | []=>by simp[tY]
  | n::ns=>by simp[tY,Ie]
theorem DF {s:ar} {lat:Int} (n:Nd):dq s lat n=iw s lat n++if n.kind=1∨n.kind=7 then [] else n.kids.flatMap (dq s lat):=by
  cases n;rw[dq,Ie];rfl
def qA (ks:List Nd) (i:Nat):List au:=if (fJ ((ks.take i).map Nd.text) (ks.getD i ib).text).isSome then [⟨4,(ks.getD i ib).pos⟩] else []
def vh (s:ar) (lat:Int) (ks:List Nd) (i:Nat):List au:=qA ks i++(ks.getD i ib).kids.flatMap (iw s lat)
def lr (s:ar) (lat:Int) (ks:List Nd) (m:Nat):List au:=(List.range m).flatMap (vh s lat ks)
def sA (s:ar) (lat:Int) (ws:List Word):List au:=ws.flatMap fun w=>fD s lat w.text w.pos 2
def jg (s:ar) (lat p:Int) (n:Nd):List au :=
  if n.kind=1 then fD s lat n.text n.pos 2 else if n.kind=10 then lr s lat n.kids n.kids.length++sA s lat n.names++(if 16<n.kids.length then [⟨7,p⟩] else []) else []
def bP (s:ar) (c:aj):Int:=cp (gR s.bc c.name.text)
def qz (n:Nd):List au:=if n.kind=8∨n.kind=9 then [⟨6,n.pos⟩] else []
def lk (s:ar) (c:aj):List au :=
  if c.op=10 then fD s (-1) c.name.text c.name.pos 2
  else if c.op=15 then fD s (-1) c.name.text c.name.pos 1
  else if c.op=8 then eX s c.name++dq s (bP s c) c.left++dq s (bP s c) c.right++qz c.right
  else if c.op=9 then eX s c.name++jg s (bP s c) c.pos c.left++jg s (bP s c) c.pos c.right
  else []
def fI (s:ar) (c:aj):au:=dg (lk s c)
def pb (a b:List au):Prop:=∀f:au,f.cls≠0→(f∈a↔f∈b)
theorem pb.refl (a:List au):pb a a:=fun _ _=>Iff.rfl
theorem pb.app {a b c d:List au} (h:pb a b) (k:pb c d):pb (a++c) (b++d):=fun f hf=>by rw[gY,gY,h f hf,k f hf]
theorem pb.flat {α:Type} {f g:α→List au}:∀{l:List α},(∀x∈l,pb (f x) (g x))→pb (l.flatMap f) (l.flatMap g)
  | [],_=>pb.refl _
  | x::l,h=>by rw[qd,qd];exact(h x (by simp)).app (pb.flat fun y hy=>h y (by simp[hy]))
section
variable {s:ar} {lat:Int}
end
def k_ (τ:Nat) (l:List au) (s:ar) (lat p:Int):List V:=[.sl (.tk τ) 2 (l.map au.enc),.sl .no 3 (s.bc.map dw.enc),.sl .no 3 (s.vars.map cQ.enc),.int .i64 lat,.int .i64 p]
def bX (σ:ab) (b τ:Nat) (l:List au) (s:ar) (lat p:Int):ab:=(σ.set b (k_ τ l s lat p)).aK τ l.length
section
variable {σ:ab} {b b' τ n:Nat} {l:List au} {s:ar} {lat Ih p x y:Int} {c:List V}
theorem EO:(bX σ b τ l s lat p).box b=some (k_ τ l s lat p):=by simp[bX,ab.set,ab.aK]
theorem wH (h:b' ≠ b):(bX σ b τ l s lat p).box b' = σ.box b' := by simp[bX,ab.set,ab.aK,h]
theorem Kt:(bX σ b τ l s lat p).aB τ=some l.length:=by simp[bX,ab.set,ab.aK]
theorem VO (h:b' ≠ b):(bX σ b τ l s lat p).set b' c=bX (σ.set b' c) b τ l s lat p:=by
  simp only[bX,ab.set,ab.aK,ab.mk.injEq,eC];funext z
  by_cases h1:z=b'
  · subst h1;simp[h]
  · simp[h1]
theorem apU:(bX σ b τ l s lat p).set b [.sl (.tk τ) 2 (l.map au.enc),.sl .no 3 (s.bc.map dw.enc),.sl .no 3 (s.vars.map cQ.enc),.int .i64 x,.int .i64 p]=bX σ b τ l s x p:=by
  simp only[bX,k_,ab.set,ab.aK,ab.mk.injEq,eC];funext z
  by_cases h1:z=b<;>simp[h1]
theorem apT:((bX σ b τ l s lat p).aK τ (l.length+1)).set b [.sl (.tk τ) 2 (l.map au.enc++[[.int .i64 x,.int .i64 y]]),.sl .no 3 (s.bc.map dw.enc),.sl .no 3 (s.vars.map cQ.enc),.int .i64 lat,.int .i64 p]=bX σ b τ (l++[⟨x,y⟩]) s lat p:=by
  simp only[bX,k_,ab.set,ab.aK,ab.mk.injEq,fw,bL,cX,au.enc,bz,jn,eC];constructor
  · funext z
    by_cases h1:z=b<;>simp[h1]
  · funext z
    by_cases h1:z=τ<;>simp[h1]
theorem apV (h:σ.box b=none) (ht:σ.aB τ=none):σ.sub (bX σ b τ l s lat p):=by
  refine⟨fun x cs hx=>?_,fun t m hm=>?_,fun _ _ h=>h⟩
  · have:x≠b:=by rintro rfl;rw[h] at hx;simp at hx
    rw[wH this];exact hx
  · have:t≠τ:=by rintro rfl;rw[ht] at hm;simp at hm
    simp[bX,ab.set,ab.aK,this];exact hm
theorem VN (h:b' ≠ b) (hn:σ.box b' = none):(bX σ b τ l s lat p).sub (bX (σ.set b' c) b τ l s lat p):=by
  refine⟨fun x cs hx=>?_,fun t m hm=>?_,fun _ _ h=>h⟩
  · by_cases h1:x=b
    · subst h1;rw[EO] at hx ⊢;exact hx
    · rw[wH h1] at hx ⊢
      have:x≠b' := by rintro rfl;rw[hn] at hx;simp at hx
      simp only[ab.set,this,ey];exact hx
  · simpa [bX,ab.set,ab.aK] using hm
theorem w_f:a9 false 1 (k_ τ l s lat p)=some (.sl (.tk τ) 2 (l.map au.enc)):=rfl
theorem w_s:takeN 2 ((k_ τ l s lat p).drop 1)=some s.enc:=rfl
theorem w_l:a9 false 1 ((k_ τ l s lat p).drop 1)=some (.sl .no 3 (s.bc.map dw.enc)):=rfl
theorem w_v:a9 false 1 ((k_ τ l s lat p).drop 2)=some (.sl .no 3 (s.vars.map cQ.enc)):=rfl
theorem w_t:a9 false 1 ((k_ τ l s lat p).drop 3)=some (.int .i64 lat):=rfl
theorem w_p:a9 false 1 ((k_ τ l s lat p).drop 4)=some (.int .i64 p):=rfl
theorem w_h:bD 1 (k_ τ l s lat p)=true:=rfl
theorem ao1:bD 1 ((k_ τ l s lat p).drop 3)=true:=rfl
theorem w_o {v:V}:over (k_ τ l s lat p) [v]=[v,.sl .no 3 (s.bc.map dw.enc),.sl .no 3 (s.vars.map cQ.enc),.int .i64 lat,.int .i64 p]:=rfl
theorem ao4 {v:V}:setAt (k_ τ l s lat p) 3 [v]=[.sl (.tk τ) 2 (l.map au.enc),.sl .no 3 (s.bc.map dw.enc),.sl .no 3 (s.vars.map cQ.enc),v,.int .i64 p]:=rfl
theorem uG {w:Word}:a9 false 1 w.enc=some (.str w.text):=rfl
theorem o9 {w:Word}:a9 false 1 (w.enc.drop 1)=some (.int .i64 w.pos):=rfl
theorem w_b {u v x y:V}:over [u,v,x,y] s.enc=[.sl .no 3 (s.bc.map dw.enc),.sl .no 3 (s.vars.map cQ.enc),x,y]:=rfl
def gM:=And.intro @w_b <| And.intro @uG <| And.intro @o9 <| And.intro @EO <| And.intro @Kt <| And.intro @w_f <| And.intro @w_s <| And.intro @w_l <| And.intro @w_v <| And.intro @w_t <| And.intro @w_p <| And.intro @w_h <| And.intro @ao1 <| And.intro @w_o @ao4
end
theorem VP {σ:ab} {b τ υ n:Nat} {l:List au} {s:ar} {lat p:Int} (h:υ≠τ):(bX σ b τ l s lat p).aK υ n=bX (σ.aK υ n) b τ l s lat p:=by
  simp only[bX,ab.set,ab.aK,ab.mk.injEq,o7,eC];funext z
  by_cases h1:z=υ
  · subst h1;simp[h]
  · simp[h1]
theorem VM {σ σ' : ab} {b τ:Nat} {l:List au} {s:ar} {lat p:Int} (h:σ.sub σ'):(bX σ b τ l s lat p).sub (bX σ' b τ l s lat p):=by
  refine⟨fun x cs hx=>?_,fun t m hm=>?_,h.2.2⟩
  · by_cases h1:x=b
    · subst h1;rw[EO] at hx ⊢;exact hx
    · rw[wH h1] at hx ⊢;exact h.1 x cs hx
  · simp only[bX,ab.set,ab.aK] at hm ⊢;split
    · rename_i e;rw[aw e] at hm;exact hm
    · rename_i e;rw[ah e] at hm;exact h.2.1 t m hm
structure Ah (σ σ' : ab) (τ:Nat) (tk:Tk) (n:Nat):Prop where
  box:σ'.box=σ.box
  sub:σ.sub σ'
  tk:tk = .full∨∃υ,tk = .tk υ∧υ≠τ∧σ'.aB υ=some n∧σ.aB υ=none
theorem Ah.nil {σ:ab} {τ:Nat}:Ah σ σ τ .full 0:=⟨rfl,ab.aS σ,.inl rfl⟩
theorem Ah.app {σ σ' : ab} {b τ k:Nat} {tk u:Tk} {l:List au} {s:ar} {lat p:Int} {m e:List (List V)} {K:V→ab→Prop} (h:Ah σ σ' τ tk m.length) (hb:m.length+e.length≤aE)
    (hk:∀iP uI,Ah σ uI τ iP (m++e).length→K (.sl iP k (m++e)) (bX uI b τ l s lat p)):mu (bX σ' b τ l s lat p) k (.sl tk k m) (.sl u k e) K:=by
  have hl:(m++e).length=m.length+e.length:=bz;have up:∀υ n,σ'.aB υ=none∨σ.aB υ=none→σ.sub (σ'.aK υ n):=fun υ n hn=>⟨fun x cs hx=>h.sub.1 x cs hx,fun t q hq=>by
    have aH:t≠υ:=by
      rintro rfl
      rcases hn with hn | hn
      · rw[h.sub.2.1 _ _ hq] at hn;simp at hn
      · rw[hq] at hn;simp at hn
    simp only[ab.aK,ah aH];exact h.sub.2.1 t q hq,h.sub.2.2⟩
  rcases h.tk with rfl | ⟨υ,rfl,aH,ht,h0⟩
  · refine FG hb fun υ oQ=>?_
    have aH:υ≠τ:=by rintro rfl;rw[Kt] at oQ;simp at oQ
    have HX : σ'.aB υ=none:=by simpa [bX,ab.set,ab.aK,aH] using oQ
    rw[VP aH];refine hk _ _ ⟨h.box,up υ _ (.inl HX),.inr ⟨υ,rfl,aH,by rw[hl];simp[ab.aK],?_⟩⟩;cases hq:σ.aB υ with
    | none=>rfl
    | some n=>rw[h.sub.2.1 _ _ hq] at HX;simp at HX
  · refine jt hb (by simpa [bX,ab.set,ab.aK,aH] using ht) ?_;rw[VP aH];exact hk _ _ ⟨h.box,up υ _ (.inr h0),.inr ⟨υ,rfl,aH,by rw[hl];simp[ab.aK],h0⟩⟩
section
variable {s:ar} {lat:Int}
theorem yT {t:List UInt8} {p k:Int}:(fD s lat t p k).length≤1:=by
  unfold fD;split
  · split<;>simp
  · split
    · split<;>simp
    · simp
theorem ahh {w:Word}:(eX s w).length≤1:=by unfold eX;split;(split<;>simp);simp
theorem Ck {n:Nd}:(iw s lat n).length≤1:=by
  unfold iw;split
  · exact yT
  · split
    · unfold va;split
      · cases rJ s lat n<;>simp
      · simp
    · simp
mutual
theorem Ia:∀n:Nd,(dq s lat n).length≤n.bI
  | .mk k p t ws ks => by
    have h1:=@Ck s lat (.mk k p t ws ks);have h2:=Ic ks;rw[dq,bz,Nd.bI];split
    · simp;omega
    · omega
theorem Ic:∀l:List Nd,(tY s lat l).length≤eR l
  | []=>by simp[tY]
  | n :: ns => by
    have:=Ia n;have:=Ic ns
    rw[tY,bz,eR];omega
end
theorem Pc:∀{l:List Nd} {i:Nat} (hi:i<l.length),eR (l.take i)+l[i].bI≤eR l
  | [],i,hi=>by simp at hi
  | n::ns,0,_=>by simp[eR]
  | n :: ns, i + 1, hi => by
    have:=Pc (l:=ns) (i:=i) (by simpa using hi)
    simp only[nn,eR,zg];omega
theorem ahf {l:List Nd} {i:Nat} (hi:i<l.length):((l.take i).flatMap (dq s lat)).length+l[i].bI≤eR l:=by
  have h1:=@Ic s lat (l.take i);rw[Ie] at h1
  have:=Pc hi
  omega
theorem zL {α:Type} {f:α→List au} {m:Nat}:∀{l:List α},(∀x∈l,(f x).length≤m)→(l.flatMap f).length≤l.length*m
  | [],_=>by simp
  | x :: l, h => by
    have:=h x (by simp)
    have:=zL (m:=m) (l:=l) fun y hy=>h y (by simp[hy])
    rw[qd,bz,cF,gb,sT];omega
theorem Gl {α:Type} {f:α→List au} {l:List α} {i:Nat} (hi:i<l.length):(l.take (i+1)).flatMap f=(l.take i).flatMap f++f l[i]:=by
  rw[jV hi,uP];simp
theorem J2 {ws:List Word}:(sA s lat ws).length≤ws.length:=by
  have:=zL (f:=fun w:Word=>fD s lat w.text w.pos 2) (m:=1) (l:=ws) fun _ _=>yT
  rw[og] at this;exact this
theorem abG {ks:List Nd} {i:Nat}:(vh s lat ks i).length≤1+(ks.getD i ib).kids.length:=by
  have:=zL (f:=iw s lat) (m:=1) (l:=(ks.getD i ib).kids) fun _ _=>Ck
  have h2:(qA ks i).length≤1:=by unfold qA;split<;>simp
  rw[vh,bz];omega
theorem P' {ks:List Nd} {m:Nat}:lr s lat ks (m+1)=lr s lat ks m++vh s lat ks m:=by
  simp only[lr,qj,uP,qd,List.flatMap_nil,dD]
theorem Pa:∀{l:List Nd} {i:Nat} (hi:i<l.length),eR (l.take (i+1))=eR (l.take i)+l[i].bI
  | [],i,hi=>by simp at hi
  | n::ns,0,_=>by simp[eR]
  | n :: ns, i + 1, hi => by
    have:=Pa (l:=ns) (i:=i) (by simpa using hi)
    simp only[nn,eR,zg] at this ⊢;omega
theorem Gn {ks:List Nd}:∀{m:Nat},m≤ks.length→(lr s lat ks m).length≤eR (ks.take m)
  | 0,_=>by simp[lr]
  | m + 1, hm => by
    have h1:=Gn (ks:=ks) (m:=m) (by omega);have h2:=@abG s lat ks m;have h3:=Nd.pj ks[m];have h4:=FY ks[m].kids;rw[nF (by omega)] at h2;rw[P',bz,Pa (by omega)];omega
theorem T6 {p:Int} {n:Nd}:(jg s lat p n).length≤2*n.bI+2:=by
  have Ao:=Nd.pj n;have hnc:=zz n;have h1:=Gn (s:=s) (lat:=lat) (bt n.kids.length);have h2:=Pb n.kids n.kids.length;have h3:=@J2 s lat n.names;have h4:=@yT s lat n.text n.pos 2;unfold jg;split
  · omega
  · split
    · simp only[bz]
      have:(if 16<n.kids.length then [(⟨7,p⟩:au)] else []).length≤1:=by split<;>simp
      omega
    · simp
end
def cZ.put (g:cZ) (f:Nd→Nd):cZ:=if g.bad=true then g else {g with node:=f g.node}
def uh:List (Tok × List Tree)→List Tok
  | []=>[]
  | (t,r)::op=>bu r++[t]++uh op
theorem IZ:∀(op:List (Tok × List Tree)) (t:Tok) (r:List Tree),uh (op++[(t,r)])=uh op++bu r++[t]
  | [],t,r=>by simp[uh]
  | (u,q)::op,t,r=>by simp[uh,IZ op t r]
theorem O4 {c:Int} (h:closing c≠0):kI c=false:=by
  unfold closing at h;split at h
  · rename_i e;subst e;decide
  · split at h
    · rename_i e;rcases e with e | e<;>subst e<;>decide
    · exact absurd rfl h
theorem uz {α:Type} (l:List α):l=[]∨∃ys x,l=ys++[x]:=by
  rcases KP l with h | ⟨ys,x,h⟩
  · exact .inl h
  · exact .inr ⟨ys,x,by rw[h];simp⟩
theorem ED:∀(ts:List Tok) (op:List (Tok × List Tree)) (row:List Tree),(∀t∈ts,qp t)→(∀p∈op,closing p.1.kind≠0∧kc p.2)→kc row→(du ts op row).2=none →
    kc (du ts op row).1∧bu (du ts op row).1=uh op++bu row++ts
  | [], op, row, _, ho, hr, hn => by
    rcases uz op with rfl | ⟨ys,⟨u,a⟩,rfl⟩
    · simpa [du,uh] using hr
    · simp[du] at hn
  | t :: ts, op, row, ht, ho, hr, hn => by
    simp only[du] at hn ⊢;have lY:∀t∈ts,qp t:=fun x hx=>ht x (by simp[hx])
    by_cases hc:closing t.kind=0
    · rw[ah (by simp[hc])] at hn ⊢;cases fU:kI t.kind
      · rw[fU] at hn;simp only[fO,ey] at hn ⊢;obtain⟨h1,h2⟩:=ED ts op (row++[.mk t [] t.pos]) lY ho (Fy.2 ⟨hr,by simp[kc,Tree.WF,hc,fU]⟩) hn;exact⟨h1,by rw[h2,zN];simp[bu,Tree.flat,hc]⟩
      · rw[fU] at hn;simp only[dP] at hn ⊢
        rcases uz op with rfl | ⟨ys,⟨u,a⟩,rfl⟩
        · simp at hn
        · simp only[BW,Ff] at hn ⊢
          by_cases hk:closing u.kind=t.kind
          · rw[aw hk] at hn ⊢;obtain⟨hu,ha⟩:=ho (u,a) (by simp);have hte:t=⟨closing u.kind,[UInt8.ofNat (closing u.kind).toNat],t.pos⟩:=by
              rcases ht t (by simp) with ⟨QG,_⟩ | ⟨_,h2⟩
              · rw[QG] at fU;exact absurd fU (by decide)
              · rw[hk,←h2]
            obtain⟨h1,h2⟩:=ED ts ys (a++[.mk u row t.pos]) lY (fun p hp=>ho p (by simp[hp])) (Fy.2 ⟨ha,by simp[kc,Tree.WF,hu,hr,O4 hu]⟩) hn;refine⟨h1,?_⟩;rw[h2,zN,IZ];simp only[bu,Tree.flat,hu,ne_eq,SZ,dP,dD];rw[←hte];simp
          · rw[ah hk] at hn;simp at hn
    · rw[aw hc] at hn ⊢
      by_cases pr:24≤op.length
      · rw[aw pr] at hn;simp at hn
      · rw[ah pr] at hn ⊢;obtain⟨h1,h2⟩:=ED ts (op++[(t,row)]) [] lY (fun p hp=>by rcases gY.1 hp with h | h;exact ho p h;simp at h;subst h;exact⟨hc,hr⟩) (by simp[kc]) hn;exact⟨h1,by rw[h2,IZ];simp[bu]⟩
theorem EA:∀(ts:List Tok) (op:List (Tok × List Tree)) (row:List Tree),(du ts op row).2≠none→(du ts op row).1=[]
  | [], op, row, h => by
    rcases uz op with rfl | ⟨ys,⟨u,a⟩,rfl⟩
    · simp[du] at h
    · simp[du]
  | t :: ts, op, row, h => by
    simp only[du] at h ⊢;split
    · rename_i hc;rw[aw hc] at h;split
      · rfl
      · rename_i pr;rw[ah pr] at h;exact EA _ _ _ h
    · rename_i hc;rw[ah hc] at h;split
      · rename_i fU;rw[aw fU] at h
        rcases uz op with rfl | ⟨ys,⟨u,a⟩,rfl⟩
        · rfl
        · simp only[BW,Ff] at h ⊢;split
          · rename_i hk;rw[aw hk] at h;exact EA _ _ _ h
          · rfl
      · rename_i fU;rw[ah fU] at h;exact EA _ _ _ h
def vf (l:List Tok) (f:Int):Option Int:=if 0≤f then some (pP l f.toNat) else none
theorem EB (l:List Tok):∀(n i:Nat) (op:List (Tok × List Tree)) (row:List Tree) (o:List Nat),i+n=l.length→op.map (·.1)=o.map (gV l)→(du (l.drop i) op row).2=vf l (rL l n i o)
  | 0, i, op, row, o, hi, ho => by
    rw[KO (by omega)]
    rcases uz op with rfl | ⟨ys,⟨u,a⟩,rfl⟩
    · have:o=[]:=by simpa using ho.symm
      subst this;simp[du,rL,vf]
    · rcases uz o with rfl | ⟨zs,j,rfl⟩
      · simp at ho
      · simp only[fw,bL,cX] at ho;have hj:u=gV l j:=by have:=V2 ho rfl;simpa using this
        simp[du,rL,vf,hj,gV,pP];cases l[j]?<;>rfl
  | n + 1, i, op, row, o, hi, ho => by
    have ag:i<l.length:=by omega
    have hti:gV l i=l[i]:=by simp[gV,ag]
    have nN:dX l i=l[i].kind:=by simp[dX,ag]
    have yi:pP l i=l[i].pos:=by simp[pP,ag]
    have cG:op.length=o.length:=by have:=gj List.length ho;simpa using this
    rw[jU ag];simp only[du,rL,nN];have HN:vf l (i:Nat)=some l[i].pos:=by simp[vf,yi]
    by_cases hc:closing l[i].kind=0
    · simp only[ne_eq,hc,IM,false_and,ey];cases fU:kI l[i].kind
      · simp only[fO,ey];exact EB l n (i+1) op _ o (by omega) ho
      · simp only[dP]
        rcases uz op with rfl | ⟨ys,⟨u,a⟩,rfl⟩
        · have:o=[]:=by simpa using ho.symm
          subst this;simp[HN]
        · rcases uz o with rfl | ⟨zs,j,rfl⟩
          · simp at ho
          · simp only[fw,bL,cX] at ho;have hj:u=gV l j:=by have:=V2 ho rfl;simpa using this
            have lZ:ys.map (·.1)=zs.map (gV l):=List.append_inj_left' ho rfl;have Hr:dX l j=u.kind:=by rw[hj];simp only[dX,gV];cases l[j]?<;>rfl
            simp only[BW,Ff,Hr]
            by_cases hk:closing u.kind=l[i].kind
            · rw[aw hk,aw hk];exact EB l n (i+1) ys _ zs (by omega) lZ
            · rw[ah hk,ah hk,HN]
    · rw[aw hc]
      by_cases pr:24≤op.length
      · rw[aw pr,aw ⟨hc,by omega⟩,HN]
      · rw[ah pr,ah (fun h=>pr (by omega))];simp only[ne_eq,hc,SZ,dP,O4 hc,fO,ey];exact EB l n (i+1) _ _ _ (by omega) (by simp[ho,hti])
theorem aos {l:List Tok} (h:∀t∈l,qp t):du l [] []=nf l:=by
  have hf:=EB l l.length 0 [] [] [] (by omega) rfl;rw[BR] at hf;have hr:(nf l).2=vf l (rL l l.length 0 []):=by
    unfold nf vf;split<;>rfl
  have h2:(du l [] []).2=(nf l).2:=by rw[hf,hr]
  cases hq:(du l [] []).2 with
  | some a =>
    have h1:=EA l [] [] (by rw[hq];simp);have h3:(nf l).1=[]:=by
      rw[hq] at h2;unfold nf at h2 ⊢;split
      · rfl
      · rename_i hn;rw[ah hn] at h2;simp at h2
    exact Prod.ext (h1.trans h3.symm) h2
  | none =>
    obtain⟨h3,h4⟩:=ED l [] [] h (by simp) (by simp[kc]) hq;simp only[uh,bu,iS] at h4;have h5:=aot h3 (by rw[h4,←h2,hq]);rw[h4] at h5;exact Prod.ext h5.symm h2
theorem Vn (s:List UInt8):du (dJ s).1 [] []=nf (dJ s).1:=aos (AW _ _ _ _ (by simp))
def In (N p:Int):Prop:=0≤p∧p≤N
inductive rC (N:Int):Tree→Prop
  | mk (t:Tok) (ks:List Tree) (e:Int):In N t.pos→In N e→(∀k∈ks,rC N k)→rC N (.mk t ks e)
theorem rC.fin {N:Int} {t:Tree} (h:rC N t):In N t.fin:=by cases h;assumption
theorem rC.pos {N:Int} {t:Tree} (h:rC N t):In N t.tok.pos:=by cases h;assumption
theorem rC.kids {N:Int} {t:Tree} (h:rC N t):∀k∈t.kids,rC N k:=by cases h;assumption
section
variable {N:Int} (h0:0≤N)
include h0
end
theorem DK {N:Int}:∀n (p:Nat) (s:List UInt8) (acc:List Tok),(p:Int)+s.length≤N→(∀t∈acc,In N t.pos)→(∀t∈(dB n p s acc).1,In N t.pos)∧∀a,(dB n p s acc).2=some a→In N a
  | 0,_,_,acc,_,h=>⟨by simpa [dB] using h,by simp[dB]⟩
  | n+1,_,[],acc,_,h=>⟨by simpa [dB] using h,by simp[dB]⟩
  | n + 1, p, c :: r, acc, hp, h => by
    simp only[cF] at hp;simp only[dB];split
    · exact⟨h,by simp⟩
    split
    · rename_i hr;have hle:(dC (c::r)).length≤(c::r).length:=(V_ _).length_le;refine DK n _ _ _ ?_ ?_
      · rw[BX];simp only[cF] at hle ⊢;omega
      · intro t ht
        rcases gY.1 ht with ht | ht
        · exact h t ht
        · rw[lb] at ht;subst ht;constructor<;>simp only<;>omega
    split
    · refine DK n _ _ _ (by omega) ?_;intro t ht
      rcases gY.1 ht with ht | ht
      · exact h t ht
      · rw[lb] at ht;subst ht;constructor<;>simp only<;>omega
    split
    · exact DK n _ _ _ (by omega) h
    · refine⟨by simp,fun a ha=>?_⟩;simp only[aG] at ha;subst ha;constructor<;>omega
theorem ahT (s:List UInt8):(∀t∈(dJ s).1,In s.length t.pos)∧∀a,(dJ s).2=some a→In s.length a:=DK _ _ _ _ (by simp) (by simp)
def gT (sep:List UInt8):List (List UInt8)→List UInt8
  | []=>[]
  | x::xs=>x++xs.flatMap fun y=>sep++y
theorem agP (sep:List UInt8) (l:List (List UInt8)) (y:List UInt8):gT sep (l++[y])=gT sep l++(if 0<l.length then sep else [])++y:=by
  cases l with
  | nil=>simp[gT]
  | cons x xs=>simp[gT]
theorem Dz (l:List (List UInt8)):gT [44] l=cn l:=by cases l<;>rfl
theorem agQ {sep:List UInt8} {l:List (List UInt8)} {i:Nat} (h:i<l.length):gT sep (l.take (i+1))=gT sep (l.take i)++(if 0<i then sep else [])++l[i]:=by
  rw[jV h,agP,gO,qm (Fu h)]
theorem agN {sep:List UInt8} {l:List (List UInt8)} {i:Nat}:(gT sep (l.take i)).length≤(gT sep l).length:=by
  have key:∀a b:List (List UInt8),(gT sep a).length≤(gT sep (a++b)).length:=fun a b=>by
    cases a with
    | nil=>simp[gT]
    | cons x xs=>simp[gT,uP]
  have:=key (l.take i) (l.drop i)
  rwa [my] at this
def kV (p:Word × Word):List UInt8:=p.1.text++[60]++p.2.text
def u6 (l:List (List UInt8)):List UInt8:=[123]++cn l++[125]
def mV (k:UInt8) (c:aj) (n:Nd):List UInt8 :=
  if k=110 then c.name.text
  else if k=102 then cn (c.names.map Word.text)
  else if k=119 then u6 (c.names.map Word.text)
  else if k=112 then u6 (c.aY.map kV)
  else n.cM
def isTerm (k:UInt8):Bool:=k≠110&&k≠102&&k≠119&&k≠112
def uC (c:aj) (x:List (List UInt8) × List Nd) (k:UInt8):List (List UInt8) × List Nd:=(x.1++[mV k c (x.2.headD .zero)],if isTerm k=true then x.2.tail else x.2)
def jf (c:aj) (ks:List UInt8):List (List UInt8) × List Nd:=ks.foldl (uC c) ([(cL c.op).1],[c.left,c.right])
def na (c:aj):List UInt8:=gT [32] (jf c (cL c.op).2).1
theorem Tu (c:aj) (ks:List UInt8) (k:UInt8):jf c (ks++[k])=uC c (jf c ks) k:=by simp[jf,zd]
def ig (l:List (Word × Word)):Nat:=(l.map fun p=>p.1.text.length+p.2.text.length+2).sum
theorem ald {l:List (Word × Word)} {i:Nat} (h:i<l.length):l[i].1.text.length+l[i].2.text.length+2≤ig l:=by
  induction l generalizing i with
  | nil=>simp at h
  | cons p ps ih =>
    cases i with
    | zero=>simp[ig]
    | succ i =>
      have:=ih (i:=i) (by simp at h;omega)
      simp only[ig,bL,oe,zg] at this ⊢;omega
theorem TG (l:List (Word × Word)):(cn (l.map kV)).length≤ig l∧l.length≤ig l:=by
  induction l with
  | nil=>simp[cn,ig]
  | cons p ps ih =>
    have key:∀qs:List (Word × Word),((qs.map kV).flatMap fun y=>44::y).length≤ig qs:=fun qs=>by
      induction qs with
      | nil=>simp
      | cons q qs ih=>simp[kV,ig] at ih ⊢;omega
    have:=key ps
    have:=ih.2
    simp[cn,kV,ig] at *;omega
def aj.wt (c:aj):Nat:=c.name.text.length+di c.names+ig c.aY+c.left.wt+c.right.wt
theorem Jf (l:List Word):(cn (l.map Word.text)).length≤di l∧l.length≤di l:=⟨BH l,by
  induction l with
  | nil=>simp
  | cons w ws ih=>simp[di] at ih ⊢;omega⟩
theorem akZ {k:UInt8} {c:aj} {n:Nd} (h:n.wt≤c.wt):(mV k c n).length≤c.wt+2:=by
  have h1:=(Jf c.names).1;have h2:=(TG c.aY).1;have h3:=Vr n;have h4:c.wt=c.name.text.length+di c.names+ig c.aY+c.left.wt+c.right.wt:=rfl;unfold mV u6;split
  · omega
  split
  · omega
  split
  · simp;omega
  split
  · simp;omega
  · omega
theorem apm (op:Int):(cL op).1.length≤8:=by
  unfold cL;split
  · rename_i h1;have ag:op.toNat<16:=by omega
    generalize op.toNat=n at ag ⊢;have key:∀n<16,(iV.getD n ([],[])).1.length≤8:=by decide
    exact key n ag
  · simp
theorem ET:Nd.zero.wt=4:=by simp[Nd.zero,Nd.wt,di,eg]
theorem ap1 (n:Nd):4≤n.wt:=by cases n;simp only[Nd.wt];omega
theorem Ja (c:aj) (ks:List UInt8):(∀x∈(jf c ks).1,x.length≤c.wt+8)∧(∀n∈(jf c ks).2,n.wt≤c.wt)∧(jf c ks).1.length=ks.length+1∧(jf c ks).2=[c.left,c.right].drop (ks.filter isTerm).length:=by
  have hc:c.wt=c.name.text.length+di c.names+ig c.aY+c.left.wt+c.right.wt:=rfl
  rcases KP ks with rfl | ⟨ys,k,rfl⟩
  · have:=apm c.op
    refine⟨?_,?_,rfl,rfl⟩
    · intro x hx;simp[jf] at hx;subst hx;omega
    · intro n hn;simp[jf] at hn;rcases hn with rfl | rfl<;>omega
  · obtain⟨i1,i2,i3,i4⟩:=Ja c ys;rw[List.concat_eq_append,Tu];have hz:((jf c ys).2.headD .zero).wt≤c.wt:=by
      cases hq:(jf c ys).2 with
      | nil=>have:=ap1 c.left;simp[ET];omega
      | cons n ns=>exact i2 n (by rw[hq];simp)
    refine⟨?_,?_,?_,?_⟩
    · intro x hx
      rcases gY.1 hx with hx | hx
      · exact i1 x hx
      · rw[lb] at hx;subst hx;have:=akZ (k:=k) hz;omega
    · intro n hn;simp only[uC] at hn;split at hn
      · exact i2 n (List.mem_of_mem_tail hn)
      · exact i2 n hn
    · simp[uC,i3]
    · simp only[uC,i4];cases h:isTerm k
      · simp[h]
      · simp[h]
termination_by ks.length
decreasing_by subst_vars;simp
theorem agO {B:Nat}:∀(l:List (List UInt8)),(∀x∈l,x.length≤B)→(gT [32] l).length≤l.length*(B+1)
  | [],_=>by simp[gT]
  | x :: xs, h => by
    have hx:=h x (by simp);have key:∀ys:List (List UInt8),(∀x∈ys,x.length≤B)→(ys.flatMap fun y=>[32]++y).length≤ys.length*(B+1):=fun ys=>by
      induction ys with
      | nil=>simp
      | cons y ys ih =>
        intro h;have h1:=h y (by simp);have h2:=ih fun x hx=>h x (by simp[hx])
        simp only[qd,bz,cF,dk,gb] at h2 ⊢;omega
    have:=key xs fun x hx=>h x (by simp[hx])
    simp only[gT,bz,cF,gb] at this ⊢;omega
theorem aeE (op:Int):∀i<(cL op).2.length,∀k,(cL op).2[i]?=some k→isTerm k=true→(((cL op).2.take i).filter isTerm).length<2:=by
  unfold cL;split
  · rename_i h1;have ag:op.toNat<16:=by omega
    generalize op.toNat=n at ag ⊢;have key:∀n<16,∀i<(iV.getD n ([],[])).2.length,∀k∈(iV.getD n ([],[])).2[i]?,isTerm k=true→(((iV.getD n ([],[])).2.take i).filter isTerm).length<2:=by decide
    intro i hi k hk;exact key n ag i hi k hk
  · simp
def Cl:List V:=.int .i64 0::List.replicate 8 (.int .u64 0)
def P_:List V:=.str []::.int .i64 0::List.replicate 8 (.int .u64 0)
structure bg where
  v:Int
  c:aN
structure bB where
  name:List UInt8
  a:bg
structure df where
  fs:List bB
  tail:Int
structure iu where
  op:Int
  lat:Int
  code:List aW
  to:bg
  a:df
  b:df
  v:Int
  field:List UInt8
theorem aN.Ye {P:aN→Prop} (h:∀(a b c d e f g i:aU) (hl:[a,b,c,d,e,f,g,i].length=8),P ⟨[a,b,c,d,e,f,g,i],hl⟩) (e:aN):P e:=by
  obtain⟨w,hl⟩:=e
  match w,hl with
  | [a,b,c,d,e,f,g,i],hl=>exact h a b c d e f g i hl
def bg.enc (x:bg):List V:=.int .i64 x.v::x.c.enc
def bB.enc (x:bB):List V:=.str x.name::x.a.enc
def df.enc (x:df):List V:=[.sl .no 10 (x.fs.map bB.enc),.int .i64 x.tail]
def bM (op lat:Int) (c:V) (to:bg) (fa:V) (ta:Int) (fb:V) (tb v:Int) (f:List UInt8):List V:=.int .i64 op::.int .i64 lat::c::(to.enc++[fa,.int .i64 ta,fb,.int .i64 tb,.int .i64 v,.str f])
def iu.enc (x:iu):List V:=bM x.op x.lat (.sl .no 10 (x.code.map aW.enc)) x.to (.sl .no 10 (x.a.fs.map bB.enc)) x.a.tail (.sl .no 10 (x.b.fs.map bB.enc)) x.b.tail x.v x.field
def bg.zero:bg:=⟨0,.zero⟩
def df.zero:df:=⟨[],0⟩
def iu.zero:iu:=⟨0,0,[],.zero,.zero,.zero,0,[]⟩
def ju:List V:=bM 0 0 (.sl .full 10 []) .zero (.sl .full 10 []) 0 (.sl .full 10 []) 0 0 []
theorem bg.ext' {x y:bg} (h:x.v=y.v) (k:x.c=y.c):x=y:=by cases x;cases y;simp only at h k;subst h;subst k;rfl
theorem bB.ext' {x y:bB} (h:x.name=y.name) (k:x.a=y.a):x=y:=by cases x;cases y;simp only at h k;subst h;subst k;rfl
instance:DecidableEq bg:=fun x y=>if h:x.v=y.v∧x.c=y.c then isTrue (bg.ext' h.1 h.2) else isFalse fun e=>h ⟨e▸rfl,e▸rfl⟩
instance:DecidableEq bB:=fun x y=>if h:x.name=y.name∧x.a=y.a then isTrue (bB.ext' h.1 h.2) else isFalse fun e=>h ⟨e▸rfl,e▸rfl⟩
section
variable {x y:bg} {n:Nat} {i:Int} {e:aN}
theorem bg.bR:x.enc.length=9:=by simp[bg.enc,aN.bR]
theorem bg.d_:bA x.enc=true:=by simp[bg.enc,bA,V.one,aN.d_]
theorem bg.cx:bd x.enc=true:=by simp[bg.enc,bd,V.bS,aN.cx]
theorem bg.cw:aX x.enc=x.enc:=by simp[bg.enc,aX,V.erase,aN.cw]
theorem bg.bO:bn n x.enc=true:=by simp[bg.enc,bn,V.lo,aN.bO]
theorem bg.dt:takeN 9 x.enc=some x.enc:=by have:=uE (c:=x.enc);rwa [bg.bR] at this
theorem bg.fh:a9 true 9 x.enc=some (.agg x.enc):=by rw[vW,bg.dt];rfl
theorem bg.eM:bD 9 x.enc=true:=by have:=tB (c:=x.enc);rwa [bg.bR] at this
theorem bg.eb:over y.enc x.enc=x.enc:=pK (by rw[bg.bR,bg.bR])
theorem bg.Bf:a9 false 1 x.enc=some (.int .i64 x.v):=rfl
theorem bg.Jl:takeN 8 (x.enc.drop 1)=some x.c.enc:=by show takeN 8 x.c.enc=_;exact aN.dt
theorem bg.Ef:Cl=bg.zero.enc:=by rw[bg.enc];show _=V.int .i64 0::aN.zero.enc;rw[←aN.uo];rfl
theorem bg.Xf:over x.enc [.int .i64 i]=(bg.mk i x.c).enc:=by rw[bg.enc,mT,kU];rfl
theorem bg.zp:bD 1 x.enc=true:=rfl
theorem bg.Xc:bD 8 (x.enc.drop 1)=true:=by show bD 8 x.c.enc=true;exact aN.eM
theorem bg.FJ:setAt x.enc 1 e.enc=(bg.mk x.v e).enc:=by rw[bg.enc,iO,ku,aN.eb];rfl
theorem bg.ml:dU [1,1,1,1,1,1,1,1,1] x.enc y.enc=some (decide (x=y)):=by
  rw[bg.enc,bg.enc,ti,aN.ml,rE];congr 1;rw[←sK];exact nB.2 ⟨fun h=>bg.ext' h.1 h.2,fun h=>h▸⟨rfl,rfl⟩⟩
def bg.af:=And.intro @bg.bR <| And.intro @bg.d_ <| And.intro @bg.cx <| And.intro @bg.cw <| And.intro @bg.bO <| And.intro @bg.dt <| And.intro @bg.fh <| And.intro @bg.eM <| And.intro @bg.eb <| And.intro @bg.Bf <| And.intro @bg.Jl <| And.intro @bg.Ef <| And.intro @bg.Xf <| And.intro @bg.zp <| And.intro @bg.Xc <| And.intro @bg.FJ @bg.ml
end
section
variable {x y:bB} {n:Nat} {t:List UInt8} {a:bg}
theorem bB.bR:x.enc.length=10:=by simp[bB.enc,bg.bR]
theorem bB.d_:bA x.enc=true:=by simp[bB.enc,bA,V.one,bg.d_]
theorem bB.cx:bd x.enc=true:=by simp[bB.enc,bd,V.bS,bg.cx]
theorem bB.cw:aX x.enc=x.enc:=by simp[bB.enc,aX,V.erase,bg.cw]
theorem bB.bO:bn n x.enc=true:=by simp[bB.enc,bn,V.lo,bg.bO]
theorem bB.dt:takeN 10 x.enc=some x.enc:=by have:=uE (c:=x.enc);rwa [bB.bR] at this
theorem bB.fh:a9 true 10 x.enc=some (.agg x.enc):=by rw[vW,bB.dt];rfl
theorem bB.eM:bD 10 x.enc=true:=by have:=tB (c:=x.enc);rwa [bB.bR] at this
theorem bB.eb:over y.enc x.enc=x.enc:=pK (by rw[bB.bR,bB.bR])
theorem bB.pR:a9 false 1 x.enc=some (.str x.name):=rfl
theorem bB.Jk:takeN 9 (x.enc.drop 1)=some x.a.enc:=by show takeN 9 x.a.enc=_;exact bg.dt
theorem bB.Ef:P_=(bB.mk [] .zero).enc:=by rw[bB.enc];show _=V.str []::bg.zero.enc;rw[←bg.Ef];rfl
theorem bB.FK:over x.enc [.str t]=(bB.mk t x.a).enc:=by rw[bB.enc,mT,kU];rfl
theorem bB.zp:bD 1 x.enc=true:=rfl
theorem bB.Xd:bD 9 (x.enc.drop 1)=true:=by show bD 9 x.a.enc=true;exact bg.eM
theorem bB.W_:setAt x.enc 1 a.enc=(bB.mk x.name a).enc:=by rw[bB.enc,iO,ku,bg.eb];rfl
theorem bB.ml:dU [2,1,1,1,1,1,1,1,1,1] x.enc y.enc=some (decide (x=y)):=by
  rw[bB.enc,bB.enc,PO,bg.ml,rE];congr 1;rw[←sK];exact nB.2 ⟨fun h=>bB.ext' h.1 h.2,fun h=>h▸⟨rfl,rfl⟩⟩
def bB.af:=And.intro @bB.bR <| And.intro @bB.d_ <| And.intro @bB.cx <| And.intro @bB.cw <| And.intro @bB.bO <| And.intro @bB.dt <| And.intro @bB.fh <| And.intro @bB.eM <| And.intro @bB.eb <| And.intro @bB.pR <| And.intro @bB.Jk <| And.intro @bB.Ef <| And.intro @bB.FK <| And.intro @bB.zp <| And.intro @bB.Xd <| And.intro @bB.W_ @bB.ml
end
section
variable {x:df} {n:Nat} {u w:V}
theorem df.bR:x.enc.length=2:=rfl
theorem df.d_:bA x.enc=true:=rfl
theorem df.cx:bd x.enc=true:=rfl
theorem df.cw:aX x.enc=x.enc:=rfl
theorem df.bO:bn n x.enc=true:=rfl
theorem df.dt:takeN 2 x.enc=some x.enc:=rfl
theorem df.fh:a9 true 2 x.enc=some (.agg x.enc):=rfl
theorem df.eM:bD 2 x.enc=true:=rfl
theorem df.eb:over [u,w] x.enc=x.enc:=rfl
theorem df.Bd:a9 false 1 x.enc=some (.sl .no 10 (x.fs.map bB.enc)):=rfl
theorem df.Jn:a9 false 1 (x.enc.drop 1)=some (.int .i64 x.tail):=rfl
def df.af:=And.intro @df.bR <| And.intro @df.d_ <| And.intro @df.cx <| And.intro @df.cw <| And.intro @df.bO <| And.intro @df.dt <| And.intro @df.fh <| And.intro @df.eM <| And.intro @df.eb <| And.intro @df.Bd @df.Jn
end
section
variable {op lat ta tb v i:Int} {c fa fb d:V} {to tp:bg} {r:df} {f g:List UInt8} {x:iu} {n:Nat}
theorem ph:(bM op lat c to fa ta fb tb v f).length=18:=by simp[bM,bg.bR]
theorem FI:takeN 18 (bM op lat c to fa ta fb tb v f)=some (bM op lat c to fa ta fb tb v f):=by have:=uE (c:=bM op lat c to fa ta fb tb v f);rwa [ph] at this
theorem WK:bD 18 (bM op lat c to fa ta fb tb v f)=true:=by have:=tB (c:=bM op lat c to fa ta fb tb v f);rwa [ph] at this
theorem WU {S5 Ih Vf Vh v' : Int} {c' PW P0 : V} {f' : List UInt8}:over (bM op lat c to fa ta fb tb v f) (bM S5 Ih c' tp PW Vf P0 Vh v' f')=bM S5 Ih c' tp PW Vf P0 Vh v' f' := pK (by rw[ph,ph])
theorem w_ (h1:c.one=true) (h2:fa.one=true) (h3:fb.one=true):bA (bM op lat c to fa ta fb tb v f)=true:=by
  have h:=@bg.d_ to;simp only[bM,bA,IY,lJ,h1];rw[DY,h];simp only[bA,IY,S4,h2,h3,EW]
theorem Cj (h1:c.bS=true) (h2:fa.bS=true) (h3:fb.bS=true):bd (bM op lat c to fa ta fb tb v f)=true:=by
  have h:=@bg.cx to;have app:∀{a b:List V},bd a=true→bd b=true→bd (a++b)=true:=by
    intro a;induction a with
    | nil=>intro b _ h;exact h
    | cons x a ih=>intro b h1 h2;simp only[bd,bm,gN] at h1 ⊢;exact⟨h1.1,ih h1.2 h2⟩
  simp only[bM,bd,V.bS,lJ,h1];exact app h (by simp[bd,V.bS,h2,h3])
theorem Ci:aX (bM op lat c to fa ta fb tb v f)=bM op lat c.erase to fa.erase ta fb.erase tb v f:=by
  have h:=@bg.cw to;have app:∀{a b:List V},aX (a++b)=aX a++aX b:=by
    intro a;induction a with
    | nil=>intro b;rfl
    | cons x a ih=>intro b;simp only[aX,gN,ih]
  simp only[bM,aX,V.erase,app,h]
theorem sZ:(bM op lat c to fa ta fb tb v f).drop 12=[fa,.int .i64 ta,fb,.int .i64 tb,.int .i64 v,.str f]:=by
  simp only[bM,zb];exact List.drop_left' bg.bR
theorem WL:a9 false 1 (bM op lat c to fa ta fb tb v f)=some (.int .i64 op):=rfl
theorem WM:a9 false 1 ((bM op lat c to fa ta fb tb v f).drop 1)=some (.int .i64 lat):=rfl
theorem WS:a9 false 1 ((bM op lat c to fa ta fb tb v f).drop 2)=some c:=rfl
theorem WT:takeN 9 ((bM op lat c to fa ta fb tb v f).drop 3)=some to.enc:=J3 bg.bR
theorem WN:takeN 2 ((bM op lat c to fa ta fb tb v f).drop 12)=some [fa,.int .i64 ta]:=by rw[sZ];rfl
theorem WO:takeN 2 ((bM op lat c to fa ta fb tb v f).drop 14)=some [fb,.int .i64 tb]:=by rw[show 14=12+2 from rfl,←sR,sZ];rfl
theorem WQ:a9 false 1 ((bM op lat c to fa ta fb tb v f).drop 16)=some (.int .i64 v):=by rw[show 16=12+4 from rfl,←sR,sZ];rfl
theorem WR:a9 false 1 ((bM op lat c to fa ta fb tb v f).drop 17)=some (.str f):=by rw[show 17=12+5 from rfl,←sR,sZ];rfl
theorem WB:bD 1 (bM op lat c to fa ta fb tb v f)=true:=rfl
theorem WC:bD 1 ((bM op lat c to fa ta fb tb v f).drop 1)=true:=rfl
theorem WI:bD 1 ((bM op lat c to fa ta fb tb v f).drop 2)=true:=rfl
theorem WJ:bD 9 ((bM op lat c to fa ta fb tb v f).drop 3)=true:=by obtain⟨tv,te⟩:=to;induction te using aN.Ye;rfl
theorem WD:bD 2 ((bM op lat c to fa ta fb tb v f).drop 12)=true:=by rw[sZ];rfl
theorem WE:bD 2 ((bM op lat c to fa ta fb tb v f).drop 14)=true:=by rw[show 14=12+2 from rfl,←sR,sZ];rfl
theorem WG:bD 1 ((bM op lat c to fa ta fb tb v f).drop 16)=true:=by rw[show 16=12+4 from rfl,←sR,sZ];rfl
theorem WH:bD 1 ((bM op lat c to fa ta fb tb v f).drop 17)=true:=by rw[show 17=12+5 from rfl,←sR,sZ];rfl
theorem WV:over (bM op lat c to fa ta fb tb v f) [.int .i64 i]=bM i lat c to fa ta fb tb v f:=by rw[bM,mT,kU];rfl
theorem WW:setAt (bM op lat c to fa ta fb tb v f) 1 [.int .i64 i]=bM op i c to fa ta fb tb v f:=by rw[bM,iO,ku,mT,kU];rfl
theorem W3:setAt (bM op lat c to fa ta fb tb v f) 2 [d]=bM op lat d to fa ta fb tb v f:=by rw[bM,iO,iO,ku,mT,kU];rfl
theorem W4:setAt (bM op lat c to fa ta fb tb v f) 3 tp.enc=bM op lat c tp fa ta fb tb v f:=by
  rw[bM,iO,iO,iO,ku,S7 (by rw[bg.bR,bg.bR];exact bt _),bg.eb];rfl
theorem xd {m:List V} {k:Nat}:setAt (bM op lat c to fa ta fb tb v f) (12+k) m = .int .i64 op::.int .i64 lat::c::(to.enc++setAt [fa,.int .i64 ta,fb,.int .i64 tb,.int .i64 v,.str f] k m):=by
  rw[show 12+k=(9+k)+1+1+1 by omega,bM,iO,iO,iO];congr 3;have key:∀(a b:List V) (n:Nat),setAt (a++b) (a.length+n) m=a++setAt b n m:=by
    intro a;induction a with
    | nil=>intro b n;rw[dk,gh];rfl
    | cons x a ih=>intro b n;rw[gN,cF,show a.length+1+n=(a.length+n)+1 by omega,iO,ih];rfl
  have:=key to.enc [fa,.int .i64 ta,fb,.int .i64 tb,.int .i64 v,.str f] k
  rw[bg.bR] at this;exact this
theorem WX:setAt (bM op lat c to fa ta fb tb v f) 12 [d,.int .i64 i]=bM op lat c to d i fb tb v f:=xd (k:=0)
theorem WZ:setAt (bM op lat c to fa ta fb tb v f) 14 [d,.int .i64 i]=bM op lat c to fa ta d i v f:=xd (k:=2)
theorem W1:setAt (bM op lat c to fa ta fb tb v f) 16 [.int .i64 i]=bM op lat c to fa ta fb tb i f:=xd (k:=4)
theorem W2:setAt (bM op lat c to fa ta fb tb v f) 17 [.str g]=bM op lat c to fa ta fb tb v g:=xd (k:=5)
theorem WY:setAt (bM op lat c to fa ta fb tb v f) 12 r.enc=bM op lat c to (.sl .no 10 (r.fs.map bB.enc)) r.tail fb tb v f:=xd (k:=0)
theorem W0:setAt (bM op lat c to fa ta fb tb v f) 14 r.enc=bM op lat c to fa ta (.sl .no 10 (r.fs.map bB.enc)) r.tail v f:=xd (k:=2)
theorem iu.cw:aX x.enc=x.enc:=Ci
theorem iu.cx:bd x.enc=true:=Cj rfl rfl rfl
def gi:=And.intro @ph <| And.intro @FI <| And.intro @WK <| And.intro @WU <| And.intro @WL <| And.intro @WM <| And.intro @WS <| And.intro @WT <| And.intro @WN <| And.intro @WO <| And.intro @WQ <| And.intro @WR <| And.intro @WB <| And.intro @WC <| And.intro @WI <| And.intro @WJ <| And.intro @WD <| And.intro @WE <| And.intro @WG <| And.intro @WH <| And.intro @WV <| And.intro @WW <| And.intro @W3 <| And.intro @W4 <| And.intro @WX <| And.intro @WZ <| And.intro @W1 <| And.intro @W2 <| And.intro @WY @W0
end
def fm (op:Int) (k:UInt8):Nat:=(cL op).2.count k
def qX (l:List (List UInt8)):Bool:=l.all dZ
def aj.ug (c:aj):Bool:=if fm c.op 110=0 then decide (c.name.text=[]) else dZ c.name.text
def aj.nY (c:aj):Bool :=
  if 0<fm c.op 119 then decide (0<c.names.length)&&qX (c.names.map Word.text)
  else if 0<fm c.op 102 then decide (c.names.length=1)&&qX (c.names.map Word.text)
  else decide (c.names.length=0)
def uj (p:Word × Word):Bool:=dZ p.1.text&&dZ p.2.text
def aj.pM (c:aj):Bool:=if fm c.op 112=0 then decide (c.aY.length=0) else c.aY.all uj
def aj.m_ (c:aj):Bool :=
  if 0<fm c.op 116 then c.left.fg&&c.right.fg
  else if 0<fm c.op 114 then c.left.jN&&c.right.jN
  else c.left.eN .zero&&c.right.eN .zero
def aj.mn (c:aj):Bool:=decide (0≤c.op∧c.op≤15)&&c.ug&&c.nY&&c.pM&&c.m_
def fu:List (Word × Word)→List (Word × Word)→Bool
  | [],[]=>true
  | p::ps,q::qs=>decide (p.1.text=q.1.text)&&decide (p.2.text=q.2.text)&&fu ps qs
  | _,_=>false
def aj.eN (a b:aj):Bool:=decide (a.op=b.op)&&decide (a.name.text=b.name.text)&&fj a.names b.names&&fu a.aY b.aY&&a.left.eN b.left&&a.right.eN b.right
theorem Ux:∀{a b:List (Word × Word)},fu a b=true→a.length=b.length
  | [],[],_=>rfl
  | [],_::_,h=>by simp[fu] at h
  | _::_,[],h=>by simp[fu] at h
  | _::ws,_::us,h=>by simp only[fu,bm] at h;simp[Ux h.2]
theorem Uw:∀{a b:List (Word × Word)} {i:Nat} (h:i<a.length) (h2:i<b.length),a.length=b.length→fu (a.take i) (b.take i)=true →
    (fu (a.take (i+1)) (b.take (i+1))=(decide (a[i].1.text=b[i].1.text)&&decide (a[i].2.text=b[i].2.text)))∧((decide (a[i].1.text=b[i].1.text)&&decide (a[i].2.text=b[i].2.text))=false→fu a b=false)
  | p :: ps, q :: qs, 0, _, _, _, _ => by
    refine⟨by simp[fu],fun h=>?_⟩;simp only[V6] at h;simp only[fu,h,EX]
  | p :: ps, q :: qs, i + 1, h, h2, hl, hs => by
    simp only[nn,fu,bm] at hs;obtain⟨k1,k2⟩:=Uw (a:=ps) (b:=qs) (i:=i) (by simpa using h) (by simpa using h2) (by simpa using hl) hs.2;refine⟨?_,fun h=>?_⟩
    · rw[nn,nn,fu,k1];simp[hs.1.1,hs.1.2]
    · simp only[zg] at h;simp[fu,k2 h]
def nw (s:ar) (lat:Nat) (n:Nd):bg:=if n.kind=1 then ⟨cp (iy s.vars n.text),.zero⟩ else ⟨-1,(fS (ri s lat) (n.kids.getD 0 ib)).1⟩
def qC (s:ar) (lat:Nat) (k:Nd):bB:=⟨k.text,nw s lat (k.kids.getD 0 ib)⟩
def wz (s:ar):List Word→Int
  | []=>-1
  | w::_=>cp (iy s.vars w.text)
theorem an5 {s:ar}:∀{l:List Word} (h:0<l.length),wz s (l.take (0+1))=cp (iy s.vars l[0].text)
  | [],h=>by simp at h
  | _::_,_=>rfl
def j9 (s:ar) (lat:Nat) (n:Nd):df:=if n.kind=1 then ⟨[],cp (iy s.vars n.text)⟩ else ⟨n.kids.map (qC s lat),wz s n.names⟩
def Vu (s:ar) (v:Option Nat):Int:=match v with | some k=>(match s.vars[k]? with | some x=>x.lat | none=>0) | none=>0
def kF (s:ar) (c:aj):iu :=
  if c.op=8 then ⟨8,bP s c,(kd s (bP s c) c.left).getD [],nw s (bP s c).toNat c.right,.zero,.zero,0,[]⟩
  else if c.op=9 then ⟨9,bP s c,[],.zero,j9 s (bP s c).toNat c.left,j9 s (bP s c).toNat c.right,0,[]⟩
  else ⟨10,Vu s (iy s.vars c.name.text),[],.zero,.zero,.zero,cp (iy s.vars c.name.text),(c.names.getD 0 ⟨[],0⟩).text⟩
def iI (s:ar) (c:aj):Bool:=decide (8≤c.op)&&decide (c.op≤10)&&c.mn&&decide ((fI s c).cls=0)
structure lL (s:ar) (c:aj):Prop where
  op:8≤c.op∧c.op≤10
  q:c.mn=true
  none:∀f∈lk s c,f.cls=0
theorem RQ {s:ar} {c:aj}:iI s c=true↔lL s c:=by
  simp only[iI,bm,cq];constructor
  · rintro⟨⟨⟨a,b⟩,d⟩,e⟩;exact⟨⟨a,b⟩,d,(Sd e).2⟩
  · rintro⟨⟨a,b⟩,d,e⟩;exact⟨⟨⟨a,b⟩,d⟩,by rw[fI,Se e];rfl⟩
section
variable {s:ar} {c:aj} {lat:Int}
theorem aoD {t:List UInt8} {p k:Int}:∀f∈fD s lat t p k,f.cls≠0:=by
  intro f hf;unfold fD at hf;split at hf
  · split at hf<;>(rw[lb.1 hf];simp)
  · split at hf
    · split at hf
      · rw[lb.1 hf];simp
      · simp at hf
    · simp at hf
theorem ahg {w:Word}:∀f∈eX s w,f.cls≠0:=by
  intro f hf;unfold eX at hf;split at hf
  · split at hf<;>(rw[lb.1 hf];simp)
  · simp at hf
theorem SQ {l:List au} (h:∀f∈l,f.cls≠0) (k:∀f∈l,f.cls=0):l=[]:=by
  cases l with
  | nil=>rfl
  | cons f l=>exact absurd (k f (by simp)) (h f (by simp))
theorem aoE {t:List UInt8} {p k:Int} (h:fD s lat t p k=[]):∃v,∃hv:v<s.vars.length,iy s.vars t=some v∧s.vars[v].kind=k∧(0≤lat→s.vars[v].lat=lat):=by
  unfold fD at h;split at h
  · split at h<;>simp at h
  · rename_i v hv;have ag:=P4 hv;rw[cc ag] at h;simp only at h;split at h
    · simp at h
    · rename_i hn;refine⟨v,ag,hv,?_,fun h0=>?_⟩
      · exact Classical.byContradiction fun hc=>hn (.inl hc)
      · exact Classical.byContradiction fun hc=>hn (.inr ⟨h0,hc⟩)
theorem ahj {w:Word} (h:eX s w=[]):∃k,gR s.bc w.text=some k∧k<s.bc.length:=by
  unfold eX at h;split at h
  · split at h<;>simp at h
  · rename_i hn;cases hL:gR s.bc w.text with
    | none=>rw[hL] at hn;simp at hn
    | some k=>exact⟨k,rfl,(CM hL).1⟩
theorem lL.aho (h:lL s c) (h9:c.op=8∨c.op=9):∃k,gR s.bc c.name.text=some k∧k<s.bc.length:=by
  refine ahj (SQ ahg fun f hf=>h.none f ?_);unfold lk;rw[ah (by omega),ah (by omega)]
  by_cases h8:c.op=8
  · rw[aw h8];simp[hf]
  · rw[ah h8,aw (by omega)];simp[hf]
theorem lL.bP (h:lL s c) (h9:c.op=8∨c.op=9):∃k:Nat,bP s c=k∧k<s.bc.length:=by
  obtain⟨k,e,hk⟩:=h.aho h9;exact⟨k,by rw[Go.Am.bP,e];rfl,hk⟩
theorem Jq (h:c.mn=true):c.ug=true∧c.nY=true∧c.pM=true∧c.m_=true:=by
  simp only[aj.mn,bm] at h;exact⟨h.1.1.1.2,h.1.1.2,h.1.2,h.2⟩
theorem lL.labels (h:lL s c) (h8:c.op=8):c.left.fg=true∧c.right.fg=true:=by
  have:=(Jq h.q).2.2.2
  rw[aj.m_,h8] at this;simpa [show fm 8 116=2 from by decide] using this
theorem lL.rows (h:lL s c) (h9:c.op=9):c.left.jN=true∧c.right.jN=true:=by
  have:=(Jq h.q).2.2.2
  rw[aj.m_,h9] at this;simpa [show fm 9 116=0 from by decide,show fm 9 114=2 from by decide] using this
theorem lL.one (h:lL s c) (gd:c.op=10):∃w,c.names=[w]∧dZ w.text=true:=by
  have:=(Jq h.q).2.1
  rw[aj.nY,gd] at this;simp only[show fm 10 119=0 from by decide,show fm 10 102=1 from by decide,Nat.lt_irrefl,ey,Nat.zero_lt_one,dP,bm,cq] at this
  match hq:c.names,this.1 with
  | [w],_=>exact⟨w,rfl,by have:=this.2;rw[hq] at this;simpa [qX] using this⟩
theorem lL.var (h:lL s c) (gd:c.op=10):∃v,∃hv:v<s.vars.length,iy s.vars c.name.text=some v∧s.vars[v].kind=2:=by
  have:fD s (-1) c.name.text c.name.pos 2=[]:=SQ aoD fun f hf=>h.none f (by unfold lk;rw[aw gd];exact hf)
  obtain⟨v,hv,h1,h2,_⟩:=aoE this;exact⟨v,hv,h1,h2⟩
theorem lL.right (h:lL s c) (h8:c.op=8):c.right.kind=1∨c.right.kind=7:=by
  have hl:=(h.labels h8).2;rw[Nd.qT] at hl
  by_cases h1:c.right.kind=1
  · exact .inl h1
  · by_cases h7:c.right.kind=7
    · exact .inr h7
    · rw[ah h1,ah h7] at hl
      by_cases QF:c.right.kind=8∨c.right.kind=9
      · have:=h.none ⟨6,c.right.pos⟩ (by unfold lk;rw[ah (by omega),ah (by omega),aw h8];simp[qz,QF])
        simp at this
      · rw[ah QF] at hl;simp at hl
end
def P9 (k:Nd):Prop:=0<k.kids.length∧∀a∈k.kids,a.kind=1∨0<a.kids.length
theorem Ei {n:Nd} (h:n.jN=true):∀k∈n.kids,P9 k:=by
  rcases T_ h with ⟨_,_,_,hf⟩ | ⟨h1,h⟩
  · intro k hk;obtain⟨_,_,_,a,ha,hq⟩:=abx (hf k hk);refine⟨by rw[ha];simp,fun b hb=>?_⟩;rw[ha] at hb;obtain rfl:=lb.1 hb;have hl:=OC hq;simp only[Nd.mD,bm,jS,cq] at hq
    rcases hq.1 with h | h
    · exact .inl h
    · exact .inr (by rw[AQ hl h];omega)
  · rw[Nd.qT,aw h1] at h;intro k hk;simp only[Nd.l8,bm,cq] at h
    have:n.kids.length=0:=by have:=h.2;omega
    exact absurd (List.length_pos_of_mem hk) (by omega)
theorem T8 {n:Nd} (h:n.jN=true):n.names.length≤1:=by
  rcases T_ h with ⟨_,_,hn,_⟩ | ⟨h1,h⟩
  · rcases hn with h | ⟨w,h,_⟩<;>rw[h]<;>simp
  · rw[Nd.qT,aw h1] at h;simp only[Nd.l8,bm,cq] at h
    have:n.names.length=0:=by have:=h.2;omega
    omega
def A7 (r:Rl) (p:Int × Int):Rl:=if (0≤p.1∧p.1<(bf r:Nat))∧0≤p.2∧p.2<(bf r:Nat) then r.put p.1.toNat (im (r.get p.1.toNat) p.2) else r
def mS (n:Int) (l:List (Int × Int)):Rl:=l.foldl A7 (Rl.of (min n.toNat 64:Nat) fun _=>0#64)
theorem aj4 {n:Int} {l:List (Int × Int)} {i:Nat} (hi:i<l.length):mS n (l.take (i+1))=A7 (mS n (l.take i)) l[i]:=by
  rw[mS,mS,jV hi,zd];rfl
def cW (l:List Word):List (List UInt8):=l.map Word.text
theorem y5 {l:List Word}:(cW l).length=l.length:=by simp[cW]
def D4 (l:List (List UInt8)) (p:Word × Word):Int × Int:=(cp (fJ l p.1.text),cp (fJ l p.2.text))
def ra (c:aj):Rl:=oh (mS (c.names.length:Nat) (c.aY.map (D4 (cW c.names))))
def D_ (l:List a_):a_:=⟨true,l.flatMap a_.a8⟩
def nT (s:ar) (w:Word):List a_:=match gR s.bc w.text with | some k=>(match s.bc[k]? with | some x=>[x.shape] | none=>[]) | none=>[]
def pQ (s:ar) (c:aj):a_:=D_ (c.names.flatMap (nT s))
def ar.yC (s:ar):Prop:=s.ok∧∀l∈s.bc,l.shape.a8.length≤100
def mP (op:Int):Bool:=decide (1≤op)&&decide (op≤5)
def o8 (op:Int):Bool:=decide (op=6)||decide (op=7)
def oS (s:ar) (t:List UInt8):Bool:=(gR s.bc t).isSome
def fA (s:ar) (t:List UInt8):Bool:=(gR s.bc t).isSome||(iy s.vars t).isSome
def c_ (b:Bool) (x y:Int):List au:=if b then [⟨x,y⟩] else []
def nL (s:ar) (c:aj):List au :=
  if mP c.op then c_ (fA s c.name.text) 3 c.name.pos
  else c_ (!fA s c.name.text) 3 c.name.pos++c_ (fA s c.name.text&&!oS s c.name.text) 4 c.name.pos
def oT (s:ar) (c:aj) (i:Nat):List au :=
  let w:=c.names.getD i ⟨[],0⟩
  if c.op=3 then c_ (!fA s w.text) 3 w.pos++c_ (fA s w.text&&!oS s w.text) 4 w.pos
  else c_ ((fJ ((cW c.names).take i) w.text).isSome||(o8 c.op&&fA s w.text)) 3 w.pos
def jd (s:ar) (c:aj) (m:Nat):List au:=(List.range m).flatMap (oT s c)
def oU (c:aj) (w:Word):List au:=c_ (fJ (cW c.names) w.text).isNone 3 w.pos
def mi (c:aj) (p:Word × Word):List au:=oU c p.1++oU c p.2
def oY (c:aj):List au:=c.aY.flatMap (mi c)
def kT (c:aj):List au:=if c.op=5∧c.names.length≤64 then c_ (!nS (ra c)) 5 c.jM else []
def lC (s:ar) (c:aj):List au :=
  if c.op=6∨c.op=7 then c_ (decide ((64:Int) - (s.vars.length:Nat)<(c.names.length:Nat))) 7 c.pos
  else c_ (decide ((if c.op=3 then (8:Int) else if c.op=4 then 8 else 64)<((if c.op=3 then (pQ s c).a8.length else c.names.length):Nat))||decide (16≤s.bc.length)) 7 c.pos
def oZ (s:ar) (c:aj):List au:=nL s c++jd s c c.names.length++oY c++kT c++lC s c
def kY (s:ar) (c:aj):au:=if mP c.op||o8 c.op then dg (oZ s c) else .zero
section
variable {s:ar} {c:aj}
theorem n_ {b:Bool} {x y:Int}:(c_ b x y).length≤1:=by unfold c_;split<;>simp
theorem afJ:(nL s c).length≤2:=by
  have h1:=@n_ (fA s c.name.text) 3 c.name.pos;have h2:=@n_ (!fA s c.name.text) 3 c.name.pos;have h3:=@n_ (fA s c.name.text&&!oS s c.name.text) 4 c.name.pos;unfold nL;split
  · omega
  · rw[bz];omega
theorem ai7 {i:Nat}:(oT s c i).length≤2:=by
  unfold oT;simp only;split
  · rw[bz];have h2:=@n_ (!fA s (c.names.getD i ⟨[],0⟩).text) 3 (c.names.getD i ⟨[],0⟩).pos;have h3:=@n_ (fA s (c.names.getD i ⟨[],0⟩).text&&!oS s (c.names.getD i ⟨[],0⟩).text) 4 (c.names.getD i ⟨[],0⟩).pos;omega
  · exact sS n_ (by omega)
theorem SU {m:Nat}:jd s c (m+1)=jd s c m++oT s c m:=by rw[jd,qj,uP];simp[jd]
theorem IK:∀{m:Nat},(jd s c m).length≤2*m
  | 0=>by simp[jd]
  | m + 1 => by
    have h1:=@IK m;have h2:=@ai7 s c m;rw[SU,bz];omega
theorem ak8 {p:Word × Word}:(mi c p).length≤2:=by
  unfold mi oU;rw[bz];have h1:=@n_ (fJ (cW c.names) p.1.text).isNone 3 p.1.pos;have h2:=@n_ (fJ (cW c.names) p.2.text).isNone 3 p.2.pos;omega
theorem TD {l:List (Word × Word)}:(l.flatMap (mi c)).length≤2*l.length:=by
  have:=zL (f:=mi c) (m:=2) (l:=l) fun _ _=>ak8
  omega
theorem akp:(kT c).length≤1:=by
  unfold kT;split
  · exact n_
  · simp
theorem ahW:(lC s c).length≤1:=by unfold lC;split<;>exact n_
end
structure Rm where
  bytes:Int
  Ch:Int
  frames:Int
def Rm.enc (r:Rm):List V:=[.int .i64 r.bytes,.int .i64 r.Ch,.int .i64 r.frames]
section
variable {r:Rm} {n:Nat} {a b c:V}
theorem Rm.bR:r.enc.length=3:=rfl
theorem Rm.d_:bA r.enc=true:=rfl
theorem Rm.cx:bd r.enc=true:=rfl
theorem Rm.cw:aX r.enc=r.enc:=rfl
theorem Rm.bO:bn n r.enc=true:=rfl
theorem Rm.dt:takeN 3 r.enc=some r.enc:=rfl
theorem Rm.fh:a9 true 3 r.enc=some (.agg r.enc):=rfl
theorem Rm.eM:bD 3 r.enc=true:=rfl
theorem Rm.eb:over [a,b,c] r.enc=r.enc:=rfl
theorem Rm.r_b:a9 false 1 r.enc=some (.int .i64 r.bytes):=rfl
theorem Rm.Jk:a9 false 1 (r.enc.drop 1)=some (.int .i64 r.Ch):=rfl
theorem Rm.Bd:a9 false 1 (r.enc.drop 2)=some (.int .i64 r.frames):=rfl
def Rm.af:=And.intro @Rm.bR <| And.intro @Rm.d_ <| And.intro @Rm.cx <| And.intro @Rm.cw <| And.intro @Rm.bO <| And.intro @Rm.dt <| And.intro @Rm.fh <| And.intro @Rm.eM <| And.intro @Rm.eb <| And.intro @Rm.r_b <| And.intro @Rm.Jk @Rm.Bd
end
def uB (op:Int):Bool:=decide (1≤op)&&decide (op≤10)
def uZ (op:Int):Bool:=decide (8≤op)&&decide (op≤10)
def j4 (r:Rm) (c:aj):Bool :=
  (uB c.op&&(decide (1024<((na c).length:Int))||decide (IntKind.i64.wrap (16383 - (na c).length)<r.bytes)))||(uZ c.op&&decide (64≤r.Ch))||(decide (c.op=11)&&decide (16≤r.frames))
def gp (s:ar) (r:Rm) (c:aj):List au:=[kY s c,fI s c]++c_ (j4 r c) 7 c.pos++c_ (decide (c.op=12)&&decide (r.frames≤1)) 8 c.pos
def Qd (f:Int × Int):au:=⟨f.1,f.2⟩
def gF (s:ar) (r:Rm) (t:List UInt8):aj × iu × au :=
  if (cS t).2.1≠0 then (.zero,.zero,Qd (cS t).2)
  else if (dg (gp s r (cS t).1)).cls≠0 then (.zero,.zero,dg (gp s r (cS t).1))
  else ((cS t).1,if iI s (cS t).1 then kF s (cS t).1 else .zero,.zero)
def h_ (τ:Nat) (l:List au) (s:ar) (c:aj):List V:=[.sl .no 3 (s.bc.map dw.enc),.sl .no 3 (s.vars.map cQ.enc),
  .int .i64 c.op,.int .i64 c.pos,.str c.name.text,.int .i64 c.name.pos,.sl .no 2 (c.names.map Word.enc),.sl .no 4 (c.aY.map dr),.int .i64 c.jM,
  .int .i64 c.left.kind,.int .i64 c.left.pos,.str c.left.text,.sl .no 2 (c.left.names.map Word.enc),.sl .no 5 (c.left.kids.map Nd.enc),.int .i64 c.right.kind,.int .i64 c.right.pos,.str c.right.text,.sl .no 2 (c.right.names.map Word.enc),.sl .no 5 (c.right.kids.map Nd.enc),
  .sl (.tk τ) 2 (l.map au.enc)]
def cV (σ:ab) (b τ:Nat) (l:List au) (s:ar) (c:aj):ab:=(σ.set b (h_ τ l s c)).aK τ l.length
section
variable {σ σ' : ab} {b b' τ υ n:Nat} {l:List au} {s:ar} {c:aj} {x y:Int} {d:List V}
theorem H9:(cV σ b τ l s c).box b=some (h_ τ l s c):=by simp[cV,ab.set,ab.aK]
theorem sb (h:b' ≠ b):(cV σ b τ l s c).box b' = σ.box b' := by simp[cV,ab.set,ab.aK,h]
theorem RY:(cV σ b τ l s c).aB τ=some l.length:=by simp[cV,ab.set,ab.aK]
theorem RX (h:b' ≠ b):(cV σ b τ l s c).set b' d=cV (σ.set b' d) b τ l s c:=by
  simp only[cV,ab.set,ab.aK,ab.mk.injEq,eC];funext z
  by_cases h1:z=b'
  · subst h1;simp[h]
  · simp[h1]
theorem agT:((cV σ b τ l s c).aK τ (l.length+1)).set b ((h_ τ l s c).take 19++[.sl (.tk τ) 2 (l.map au.enc++[[.int .i64 x,.int .i64 y]])])=cV σ b τ (l++[⟨x,y⟩]) s c:=by
  simp only[cV,h_,ab.set,ab.aK,ab.mk.injEq,fw,bL,cX,au.enc,bz,jn,eC];constructor
  · funext z
    by_cases h1:z=b<;>simp[h1]
  · funext z
    by_cases h1:z=τ<;>simp[h1]
theorem agU (h:σ.box b=none) (ht:σ.aB τ=none):σ.sub (cV σ b τ l s c):=by
  refine⟨fun x cs hx=>?_,fun t m hm=>?_,fun _ _ h=>h⟩
  · have:x≠b:=by rintro rfl;rw[h] at hx;simp at hx
    rw[sb this];exact hx
  · have:t≠τ:=by rintro rfl;rw[ht] at hm;simp at hm
    simp[cV,ab.set,ab.aK,this];exact hm
theorem RW (h:b' ≠ b) (hn:σ.box b' = none):(cV σ b τ l s c).sub (cV (σ.set b' d) b τ l s c):=by
  refine⟨fun x cs hx=>?_,fun t m hm=>?_,fun _ _ h=>h⟩
  · by_cases h1:x=b
    · subst h1;rw[H9] at hx ⊢;exact hx
    · rw[sb h1] at hx ⊢
      have:x≠b' := by rintro rfl;rw[hn] at hx;simp at hx
      simp only[ab.set,this,ey];exact hx
  · simpa [cV,ab.set,ab.aK] using hm
theorem j_f:a9 false 1 ((h_ τ l s c).drop 19)=some (.sl (.tk τ) 2 (l.map au.enc)):=rfl
theorem j_s:takeN 2 (h_ τ l s c)=some s.enc:=rfl
theorem j_c:takeN 17 ((h_ τ l s c).drop 2)=some c.enc:=rfl
theorem j_l:a9 false 1 (h_ τ l s c)=some (.sl .no 3 (s.bc.map dw.enc)):=rfl
theorem j_v:a9 false 1 ((h_ τ l s c).drop 1)=some (.sl .no 3 (s.vars.map cQ.enc)):=rfl
theorem j_o:a9 false 1 ((h_ τ l s c).drop 2)=some (.int .i64 c.op):=rfl
theorem j_p:a9 false 1 ((h_ τ l s c).drop 3)=some (.int .i64 c.pos):=rfl
theorem j_t:a9 false 1 ((h_ τ l s c).drop 4)=some (.str c.name.text):=rfl
theorem j_a:a9 false 1 ((h_ τ l s c).drop 5)=some (.int .i64 c.name.pos):=rfl
theorem j_n:a9 false 1 ((h_ τ l s c).drop 6)=some (.sl .no 2 (c.names.map Word.enc)):=rfl
theorem j_r:a9 false 1 ((h_ τ l s c).drop 7)=some (.sl .no 4 (c.aY.map dr)):=rfl
theorem j_q:a9 false 1 ((h_ τ l s c).drop 8)=some (.int .i64 c.jM):=rfl
theorem j_h:bD 1 ((h_ τ l s c).drop 19)=true:=rfl
theorem j_w {v:V}:setAt (h_ τ l s c) 19 [v]=(h_ τ l s c).take 19++[v]:=rfl
def j0 (s:ar):List V:=[.sl .no 3 (s.bc.map dw.enc),.sl .no 3 (s.vars.map cQ.enc),.int .i64 0,.int .i64 0,.str [],.int .i64 0,.sl .full 2 [],.sl .full 4 [],.int .i64 0,.int .i64 0,.int .i64 0,.str [],.sl .full 2 [],.sl .full 5 [],.int .i64 0,.int .i64 0,.str [],.sl .full 2 [],.sl .full 5 [],.sl .full 2 []]
def jz (s:ar) (c:aj):List V:=(h_ 0 [] s c).take 19++[.sl .full 2 []]
theorem agG:over [.sl .full 3 [],.sl .full 3 [],.int .i64 0,.int .i64 0,.str [],.int .i64 0,.sl .full 2 [],.sl .full 4 [],.int .i64 0,.int .i64 0,.int .i64 0,.str [],.sl .full 2 [],.sl .full 5 [],.int .i64 0,.int .i64 0,.str [],.sl .full 2 [],.sl .full 5 [],.sl .full 2 []] s.enc=j0 s:=rfl
theorem agF:bD 17 ((j0 s).drop 2)=true:=rfl
theorem agH:setAt (j0 s) 2 c.enc=jz s c:=by rw[aj.enc,aj.b7];rfl
theorem ag2:(jz s c).length=20:=rfl
theorem ag4:bA (jz s c)=true:=rfl
theorem ag3:bd (jz s c)=true:=rfl
theorem ag5:takeN 20 (jz s c)=some (jz s c):=rfl
def RZ:=And.intro @agG <| And.intro @agF <| And.intro @agH <| And.intro @ag2 <| And.intro @ag4 <| And.intro @ag3 @ag5
def gn:=And.intro @H9 <| And.intro @RY <| And.intro @j_f <| And.intro @j_s <| And.intro @j_c <| And.intro @j_l <| And.intro @j_v <| And.intro @j_o <| And.intro @j_p <| And.intro @j_t <| And.intro @j_a <| And.intro @j_n <| And.intro @j_r <| And.intro @j_q <| And.intro @j_h @j_w
end
section
variable {s:ar} {lat p:Int}
end
theorem ahY {r:Rm} {c:aj} (h:j4 r c=true):c.op≠12:=fun e=>by
  simp[j4,uB,uZ,e] at h
theorem Im {s:ar} {r:Rm} {t:List UInt8} (h:(cS t).2.1≠0):gF s r t=(.zero,.zero,Qd (cS t).2):=by rw[gF,aw h]
theorem Io {s:ar} {r:Rm} {t:List UInt8} (h:(cS t).2.1=0) (h' : (dg (gp s r (cS t).1)).cls≠0):gF s r t=(.zero,.zero,dg (gp s r (cS t).1)):=by rw[gF,ah (by simpa using h),aw h']
theorem DN {s:ar} {r:Rm} {t:List UInt8} (h:(cS t).2.1=0) (h' : (dg (gp s r (cS t).1)).cls=0):gF s r t=((cS t).1,if iI s (cS t).1 then kF s (cS t).1 else .zero,.zero):=by
  rw[gF,ah (by simpa using h),ah (by simpa using h')]
structure CB (B:Nat) (c:aj):Prop where
  ns:di c.names≤B
  ps:c.aY.length≤B
  l:c.left.wt≤B
  r:c.right.wt≤B
  nm:c.name.text.length≤B
  pt:ig c.aY≤34*B
theorem Pz {r r' : ae} {seg:List Tree} (h:jT r r' seg):gK seg≤gK r.l:=by
  obtain⟨pre,post,e,_,_⟩:=h.ex;rw[e,sy,sy];omega
theorem Kp {r:ae} (hg:dR r.l) (hb:r.bad=none):r.word.1.text.length≤16:=by
  cases h:(r.take 97).2.bad with
  | none=>exact J8 ((n9 h).1.good hg).1
  | some b =>
    have:(r.take 97).1 = .zero:=by
      unfold ae.take at h ⊢;split
      · rename_i hs;rw[aw hs] at h;simp[hb] at h
      · rfl
    simp[ae.word,this,Tree.zero,Tree.tok]
theorem VC {r:ae} (hg:dR r.l):r.word.1.text.length≤16:=by
  cases hb:r.bad with
  | none=>exact Kp hg hb
  | some a =>
    have:r.sees 97=false:=by simp[ae.sees,ae.ok,hb]
    simp[ae.word,ae.take,this,Tree.zero,Tree.tok]
theorem TH {l:List (Word × Word)} {p:Word × Word}:ig (l++[p])=ig l+(p.1.text.length+p.2.text.length+2):=by simp[ig]
theorem Th:∀(n:Nat) (i:ae) (acc:List (Word × Word)),dR i.l→ig (ae.gH n i acc).2≤ig acc+34*n
  | 0,_,_,_=>by simp[ae.gH]
  | n + 1, i, acc, hg => by
    have e1:(i.word.2.take 60).2.l=i.l:=by rw[ae.ec];exact ae.ec i 97
    have e2:((i.word.2.take 60).2.word).2.l=i.l:=by rw[←e1];exact ae.ec _ 97
    have w1:=VC hg;have w2:((i.word.2.take 60).2.word).1.text.length≤16:=VC (by rw[e1];exact hg);simp only[ae.gH];split
    · simp only;omega
    · split
      · simp only[TH];omega
      · have:=Th n (((i.word.2.take 60).2.word).2.take 44).2 (acc++[(i.word.1,((i.word.2.take 60).2.word).1)]) (by rw[ae.ec,e2];exact hg)
        simp only[TH] at this;omega
theorem aoa {r:ae} {k:Int} (hg:dR r.l):dR (r.take k).1.kids:=by
  cases h:(r.take k).2.bad with
  | none=>exact((vl _).1 ((n9 h).1.good hg).1).2.2
  | some b =>
    have:(r.take k).1.kids=[]:=by
      rcases r.mq k with ⟨_,_,hb,_⟩ | ⟨hs,_⟩
      · rw[h] at hb;simp at hb
      · simp[ae.take,hs,Tree.zero,Tree.kids]
    rw[this];trivial
theorem Tf:∀(n:Nat) (i:ae) (acc:List (Word × Word)),(ae.gH n i acc).2.length≤acc.length+n
  | 0,_,_=>by simp[ae.gH]
  | n + 1, i, acc => by
    simp only[ae.gH];split
    · simp only;omega
    · split
      · simp
      · have:=Tf n (((i.word.2.take 60).2.word).2.take 44).2 (acc++[(i.word.1,((i.word.2.take 60).2.word).1)])
        simp only[bz,cF,dk] at this;omega
theorem SY {B:Nat} {c:aj} (h:CB B c) {r:ae} {g:Nd × Int × Option Int} (hg:g.1.wt≤B):CB B (jK r c g).2:=by
  unfold jK;cases g.2.2 with
  | some a=>exact h
  | none =>
    simp only;split
    · exact⟨h.ns,h.ps,hg,h.r,h.nm,h.pt⟩
    · exact⟨h.ns,h.ps,h.l,hg,h.nm,h.pt⟩
theorem TY {one:ae→Nd × ae} {Q:Nd→Prop} (hs:Sound one Nd.cM Q SN) {l:List Tree} (hg:dR l) (a fin:Int):(fi one l a fin).1.wt≤gK l+4:=by
  unfold fi;cases hb:(one ⟨l,a,fin,none⟩).2.bad with
  | some b=>simp only[ET];omega
  | none =>
    obtain⟨seg,e1,_,_,e4⟩:=hs ⟨l,a,fin,none⟩ hg hb
    have:=Pz e1
    simp only[SN] at e4 this ⊢;omega
theorem akK {B:Nat} {k:UInt8} {x:ae × aj} (hg:dR x.1.l) (hB:gK x.1.l+20≤B) (h:CB B x.2):CB B (gu k x).2:=by
  obtain⟨r,c⟩:=x;simp only at hg hB h;unfold gu;simp only;split
  · exact h
  rename_i hb;have hb:r.bad=none:=by simpa using hb
  split
  · exact⟨h.ns,h.ps,h.l,h.r,by have:=Kp hg hb;simp only;omega,h.pt⟩
  split
  · refine⟨?_,h.ps,h.l,h.r,h.nm,h.pt⟩
    have:=Kp hg hb
    simp[di];omega
  split
  · refine⟨?_,h.ps,h.l,h.r,h.nm,h.pt⟩;show di (lI r.l r.at_ r.fin).1≤B;unfold lI;cases hw:((⟨r.l,r.at_,r.fin,none⟩:ae).words false).2.bad with
    | some b=>simp[di]
    | none =>
      obtain⟨t,e1,_,_,_,e5⟩:=Kq (r:=⟨r.l,r.at_,r.fin,none⟩) hg hw
      have:=Pz e1
      simp only at this ⊢;omega
  split
  · unfold n6;simp only;split
    · exact⟨h.ns,h.ps,h.l,h.r,h.nm,h.pt⟩
    · have g1:=Th ((r.take 123).1.kids.length+1) (r.take 123).1.inner [] (aoa hg);have g2:=j5 (r.take 123).1.kids;have g3:=(r.rk 123).1;refine⟨h.ns,?_,h.l,h.r,h.nm,by simp only[gK,ig,cX,pd] at hB g1 ⊢;omega⟩;have h1:=Tf ((r.take 123).1.kids.length+1) (r.take 123).1.inner [];have h2:=j5 (r.take 123).1.kids;have h3:=(r.rk 123).1;simp only[gK,dk] at hB h1 ⊢;omega
  split
  · exact SY h (by have:=TY (Ib (bp r.l)) hg r.at_ r.fin;omega)
  split
  · exact SY h (by have:=TY (amH (bp r.l)) hg r.at_ r.fin;omega)
  · exact h
theorem Ts {B:Nat} {l:List Tree} {fin:Int} (hg:dR l) (hB:gK l+20≤B):∀(ks:List UInt8) (x:ae × aj),gZ l fin x→CB B x.2→CB B (fZ ks x).2
  | [],_,_,h=>h
  | k::ks,x,hi,h=>Ts hg hB ks _ (Tj hi k) (akK (by rw[hi.hl];exact hg) (by rw[hi.hl];exact hB) h)
theorem y6 {B:Nat} (h:4≤B):CB B aj.zero:=⟨by simp[aj.zero,di],by simp[aj.zero],by simp only[aj.zero,ET];omega,by simp only[aj.zero,ET];omega,by simp[aj.zero],by simp[aj.zero,ig]⟩
theorem aaF {B:Nat} {x:ae × aj} (h4:4≤B) (h:CB B x.2):CB B (td x).1:=by
  unfold td;split
  · exact y6 h4
  · exact h
theorem YM {B:Nat} {l:List Tree} {fin:Int} (hg:dR l) (hB:gK l+20≤B):CB B (s6 l fin).1:=by
  unfold s6;split
  · exact y6 (by omega)
  · rename_i t ts;simp only;split
    · exact y6 (by omega)
    · refine aaF (by omega) (Ts hg hB _ _ (fin:=fin) ?_ ?_)
      · exact gZ.goes (x:=(⟨t::ts,0,fin,none⟩,aj.zero)) ⟨rfl,rfl,by simp,by simp only;omega,fun _=>by simp only;omega⟩ rfl (tA _) (Bq _ 97)
      · have h:=y6 (B:=B) (by omega);exact⟨h.ns,h.ps,h.l,h.r,h.nm,h.pt⟩
theorem amh (s:List UInt8):CB (26*s.length+20) (cS s).1:=by
  unfold cS;rw[Vn];split
  · exact y6 (by omega)
  · split
    · exact y6 (by omega)
    · refine YM (ah2 s) ?_
      have:=Sj s
      simp only[gK];omega
theorem En:∀a b:List Word,fj a b=decide (a.map Word.text=b.map Word.text)
  | [],[]=>by simp[fj]
  | [],_::_=>by simp[fj]
  | _::_,[]=>by simp[fj]
  | w::ws,u::us=>by simp[fj,En ws us]
def Word.mp (π:Int→Int) (w:Word):Word:=⟨w.text,π w.pos⟩
mutual
def Nd.mp (π:Int→Int):Nd→Nd
  | .mk k p t ws ks=>.mk k (π p) t (ws.map (Word.mp π)) (ue π ks)
def ue (π:Int→Int):List Nd→List Nd
  | []=>[]
  | n::ns=>n.mp π::ue π ns
end
def au.mp (π:Int→Int) (f:au):au:=if f.cls=0 then f else ⟨f.cls,π f.loc⟩
def aj.mp (π:Int→Int) (c:aj):aj:=⟨c.op,π c.pos,c.name.mp π,c.names.map (Word.mp π),c.aY.map fun p=>(p.1.mp π,p.2.mp π),π c.jM,c.left.mp π,c.right.mp π⟩
section
variable {π:Int→Int}
theorem ID:∀{l:List Nd},ue π l=l.map (Nd.mp π)
  | []=>rfl
  | n::ns=>by rw[ue,ID];rfl
theorem jc (n:Nd):(n.mp π).kind=n.kind:=by cases n;rw[Nd.mp];rfl
theorem v8 (n:Nd):(n.mp π).pos=π n.pos:=by cases n;rw[Nd.mp];rfl
theorem j6 (n:Nd):(n.mp π).text=n.text:=by cases n;rw[Nd.mp];rfl
theorem nX (n:Nd):(n.mp π).names=n.names.map (Word.mp π):=by cases n;rw[Nd.mp];rfl
theorem ia (n:Nd):(n.mp π).kids=n.kids.map (Nd.mp π):=by cases n;rw[Nd.mp,←ID];rfl
theorem wG {w:Word}:(w.mp π).text=w.text:=rfl
theorem wF {w:Word}:(w.mp π).pos=π w.pos:=rfl
theorem Js {l:List Word}:kW (l.map (Word.mp π))=kW l:=by simp[kW,rr,Word.mp]
theorem R_ (n:Nd):(n.mp π).l8=n.l8:=by simp[Nd.l8,j6,nX,ia]
theorem OI (n:Nd):(n.mp π).kG=n.kG:=by simp[Nd.kG,j6,nX]
theorem amM (n:Nd):(n.mp π).pT=n.pT:=by simp[Nd.pT,jc,j6,nX,ia,Js]
theorem zl {f:Nd→Bool}:∀{l:List Nd},(∀n∈l,f (n.mp π)=f n)→(l.map (Nd.mp π)).all f=l.all f
  | [],_=>rfl
  | n::ns,h=>by rw[bL,uO,uO,h n (by simp),zl fun m hm=>h m (by simp[hm])]
theorem Nd.ind {P:Nd→Prop} (h:∀n,(∀m∈n.kids,P m)→P n) (n:Nd):P n:=by
  obtain⟨k,hk⟩:∃k,n.bI≤k:=⟨_,bt _⟩;induction k generalizing n with
  | zero=>have:=Nd.pj n;omega
  | succ k ih=>exact h n fun m hm=>ih m (by have:=ny hm;omega)
theorem Pm (n:Nd):(n.mp π).g_=n.g_:=by
  induction n using Nd.ind with
  | h n ih=>simp only[Nd.xz,jc,j6,nX,ia,Js,R_,OI,aD,zl ih,zl fun m _=>amM m]
theorem Q0 {f:Nd→Bool} (h:∀n,f (n.mp π)=f n):∀{l:List Nd},qH f (l.map (Nd.mp π))=qH f l
  | []=>rfl
  | n::_=>h n
theorem DG (n:Nd):(n.mp π).fg=n.fg:=by
  induction n using Nd.ind with
  | h n ih=>simp only[Nd.qT,jc,ia,R_,OI,aD,zl ih,Q0 Pm]
theorem W8 (n:Nd):(n.mp π).mD=n.mD:=by simp only[Nd.mD,jc,DG]
theorem abt (n:Nd):(n.mp π).lp=n.lp:=by simp only[Nd.lp,jc,j6,nX,ia,aD,Q0 W8]
theorem amG (n:Nd):(n.mp π).jN=n.jN:=by simp only[Nd.jN,jc,j6,nX,ia,aD,Js,zl fun m _=>abt m,DG]
theorem UD:∀{l m:List Word},fj (l.map (Word.mp π)) m=fj l m
  | [],[]=>rfl
  | [],_::_=>rfl
  | _::_,[]=>rfl
  | w::ws,u::us=>by simp only[bL,fj,UD];rfl
theorem am6 (n:Nd):(n.mp π).eN .zero=n.eN .zero:=by
  simp only[Nd.Em,jc,j6,nX,ia,UD];congr 1;show fN (n.kids.map (Nd.mp π)) []=fN n.kids [];cases n.kids<;>rfl
theorem Kv {l:List Word}:cW (l.map (Word.mp π))=cW l:=by simp[cW,rr,Word.mp]
theorem amv (c:aj):(c.mp π).mn=c.mn:=by
  have e1:(c.mp π).names.map Word.text=c.names.map Word.text:=by simp[aj.mp,rr,Word.mp]
  have e2:(c.mp π).ug=c.ug:=rfl;have e3:(c.mp π).nY=c.nY:=by simp only[aj.nY,e1];simp[aj.mp]
  have e4:(c.mp π).pM=c.pM:=by simp only[aj.pM];simp[aj.mp,rr,Word.mp];rfl
  have e5:(c.mp π).m_=c.m_:=by simp only[aj.m_];simp only[aj.mp,DG,amG,am6]
  simp only[aj.mn,e2,e3,e4,e5];rfl
theorem Jd {l:List (List UInt8)}:∀{ws:List Word} {s:aU},fB l s (ws.map (Word.mp π))=((fB l s ws).1,(fB l s ws).2.map π)
  | [],_=>rfl
  | w :: ws, s => by
    simp only[bL,fB,wG,wF];cases fJ l w.text with
    | none=>rfl
    | some k=>exact Jd
theorem Ud {f:aV}:∀{ks:List Nd} {s:aU},rf f s (ks.map (Nd.mp π))=((rf f s ks).1,(rf f s ks).2.map π)
  | [],_=>rfl
  | k :: ks, s => by
    simp only[bL,rf,j6,v8,nX,Jd];cases fJ f.names k.text with
    | none=>rfl
    | some o =>
      simp only;cases (fB f.names 0#64 k.names).2 with
      | some p=>rfl
      | none=>exact Ud
theorem apW {f:aV} (n:Nd):rn f (n.mp π)=((rn f n).1,(rn f n).2.map π):=by
  unfold rn;rw[jc,nX,ia,Jd,Ud,mj,mj,j6,v8];split
  · split
    · rfl
    · split
      · rfl
      · cases fJ f.names n.text<;>rfl
  · rfl
theorem vk {ks:List Nd} {i:Nat} (h:i<ks.length):(ks.map (Nd.mp π)).getD i ib=(ks.getD i ib).mp π:=by simp[List.getD,h]
theorem apX {s:a_} {ks:List Nd} {i:Nat} (h:i<ks.length):iq s (ks.map (Nd.mp π)) i=((iq s ks i).1,(iq s ks i).2.map π):=by
  rw[iq,iq,vk h,apW]
theorem aaB {s:a_} {ks:List Nd} (h:s.a8.length≤ks.length):rI s (ks.map (Nd.mp π))=((rI s ks).1,(rI s ks).2.map π):=by
  have e:∀i,i<s.a8.length→iq s (ks.map (Nd.mp π)) i=((iq s ks i).1,(iq s ks i).2.map π):=fun i hi=>apX (by omega)
  have e1:(List.range s.a8.length).find? (fun i=>(iq s (ks.map (Nd.mp π)) i).2.isSome)=(List.range s.a8.length).find? (fun i=>(iq s ks i).2.isSome) :=
    find_congr fun i hi=>by rw[e i (by simpa using hi)];simp
  unfold rI;rw[e1];cases hf:(List.range s.a8.length).find? (fun i=>(iq s ks i).2.isSome) with
  | some i =>
    have hi:i<s.a8.length:=by simpa using KY hf
    simp only[e i hi]
  | none =>
    have e2:(fun j=>if j<s.a8.length then (iq s (ks.map (Nd.mp π)) j).1 else 0#64)=fun j=>if j<s.a8.length then (iq s ks j).1 else 0#64:=funext fun j=>by
      split
      · rename_i hj;rw[e j hj]
      · rfl
    simp only[e2];rfl
theorem F' {s:a_} (n:Nd):fS s (n.mp π)=((fS s n).1,(fS s n).2.map π):=by
  have e1:mh s (n.mp π)=mh s n:=by simp only[mh,jc,ia,aD]
  have e2:ic s (n.mp π)=(ic s n).map (Nd.mp π):=by unfold ic;split<;>simp[ia]
  unfold fS;rw[e1,Pm];split
  · rename_i h;rw[e2];refine aaB ?_;simp only[bm] at h;obtain⟨⟨h1,h2⟩,_⟩:=h;unfold mh at h1;unfold ic;cases ht:s.tuple with
    | true=>rw[ht] at h1;simp only[Bool.not_true,wL,bm,cq] at h1;simp[h1.2]
    | false =>
      simp only[kx,ht,bm,jS,cq,fO,false_or] at h2;simp[h2.1.2]
  · simp[v8]
theorem xN {f:au}:(f.mp π).cls=f.cls:=by unfold au.mp;split<;>rfl
theorem tt {x y:Int} (h:x≠0):(au.mk x y).mp π=⟨x,π y⟩:=by rw[au.mp,ah (by exact h)]
theorem o6 {b:Bool} {x y:Int} (h:x≠0):c_ b x (π y)=(c_ b x y).map (au.mp π):=by cases b<;>simp[c_,tt h]
theorem zM {α β:Type} {f:α→List au} {g:β→List au} {m:α→β}:∀{l:List α},(∀x∈l,g (m x)=(f x).map (au.mp π))→(l.map m).flatMap g=(l.flatMap f).map (au.mp π)
  | [],_=>rfl
  | x::l,h=>by rw[bL,qd,qd,fw,h x (by simp),zM fun y hy=>h y (by simp[hy])]
theorem Gk {f g:Nat→List au}:∀{l:List Nat},(∀x∈l,g x=(f x).map (au.mp π))→l.flatMap g=(l.flatMap f).map (au.mp π)
  | [],_=>rfl
  | x::l,h=>by rw[qd,qd,fw,h x (by simp),Gk fun y hy=>h y (by simp[hy])]
variable {s:ar} {lat:Int}
theorem EJ {t:List UInt8} {p k:Int}:fD s lat t (π p) k=(fD s lat t p k).map (au.mp π):=by
  unfold fD;cases iy s.vars t with
  | none=>simp only;split<;>simp[tt]
  | some v =>
    simp only;cases s.vars[v]? with
    | none=>rfl
    | some x=>simp only;split<;>simp[tt]
theorem ahi {w:Word}:eX s (w.mp π)=(eX s w).map (au.mp π):=by
  unfold eX;rw[wG,wF];split
  · split<;>simp[tt]
  · rfl
theorem aaC {n:Nd} (h:0<n.kids.length):rJ s lat (n.mp π)=(rJ s lat n).map π:=by rw[rJ,rJ,ia,vk h,F']
theorem OA (n:Nd):iw s lat (n.mp π)=(iw s lat n).map (au.mp π):=by
  unfold iw;rw[jc,j6,v8,EJ];split
  · rfl
  · split
    · unfold va;rw[ia,aD];split
      · rename_i h;rw[aaC h.1];cases rJ s lat n<;>simp[tt]
      · rfl
    · rfl
theorem ahc (n:Nd):dq s lat (n.mp π)=(dq s lat n).map (au.mp π):=by
  induction n using Nd.ind with
  | h n ih =>
    rw[DF,DF,jc,ia,OA,fw];congr 1;split
    · rfl
    · exact zM ih
theorem aoi {ks:List Nd} {i:Nat}:((ks.map (Nd.mp π)).take i).map Nd.text=(ks.take i).map Nd.text:=by
  rw[←List.map_take,uU];exact Fm fun n _=>j6 n
theorem amB {p:Int} (n:Nd):jg s lat (π p) (n.mp π)=(jg s lat p n).map (au.mp π):=by
  unfold jg;rw[jc,j6,v8,EJ,ia,nX,aD];split
  · rfl
  · split
    · rw[fw,fw];congr 1
      · congr 1
        · refine Gk fun i hi=>?_
          have hi:i<n.kids.length:=by simpa using hi
          rw[vh,vh,fw,vk hi];congr 1
          · rw[qA,qA,aoi,vk hi,j6,v8];split<;>simp[tt]
          · rw[ia];exact zM fun m _=>OA m
        · exact zM fun w _=>by rw[wG,wF,EJ]
      · split<;>simp[tt]
    · rfl
theorem O7 {c:aj}:lk s (c.mp π)=(lk s c).map (au.mp π):=by
  have e:bP s (c.mp π)=bP s c:=rfl;unfold lk;rw[e];simp only[aj.mp,wG,wF,EJ,ahi,ahc,amB];have hd:qz (c.right.mp π)=(qz c.right).map (au.mp π):=by unfold qz;rw[jc,v8];split<;>simp[tt]
  rw[hd]
  repeat' split
  all_goals simp only[fw,cX]
theorem amj {c:aj}:ra (c.mp π)=ra c:=by
  rw[ra,ra]
  have:(c.mp π).aY.map (D4 (cW (c.mp π).names))=c.aY.map (D4 (cW c.names)):=by
    simp only[aj.mp,Kv,uU];rfl
  rw[this];simp only[aj.mp,aD]
theorem ak_ {c:aj}:pQ s (c.mp π)=pQ s c:=by
  rw[pQ,pQ];congr 1;simp only[aj.mp,List.flatMap_map];rfl
theorem ana {c:aj}:oZ s (c.mp π)=(oZ s c).map (au.mp π):=by
  have h1:nL s (c.mp π)=(nL s c).map (au.mp π):=by
    show (if mP c.op then c_ (fA s c.name.text) 3 (π c.name.pos) else c_ (!fA s c.name.text) 3 (π c.name.pos)++c_ (fA s c.name.text&&!oS s c.name.text) 4 (π c.name.pos))=_;unfold nL
    by_cases h:mP c.op=true
    · rw[aw h,aw h];exact o6 (by decide)
    · rw[ah h,ah h,fw,o6 (by decide),o6 (by decide)]
  have h2:∀i,i<c.names.length→oT s (c.mp π) i=(oT s c i).map (au.mp π):=fun i hi=>by
    have e:(c.mp π).names.getD i ⟨[],0⟩=(c.names.getD i ⟨[],0⟩).mp π:=by simp[aj.mp,List.getD,hi]
    have e1:cW (c.mp π).names=cW c.names:=Kv;have e2:(c.mp π).op=c.op:=rfl;unfold oT;rw[e,e1,e2];simp only[wG,wF];split
    · rw[fw,o6 (by decide),o6 (by decide)]
    · exact o6 (by decide)
  have h3:oY (c.mp π)=(oY c).map (au.mp π):=by
    have e1:cW (c.mp π).names=cW c.names:=Kv;refine zM (l:=c.aY) (f:=mi c) (g:=mi (c.mp π)) fun p _=>?_
    rw[mi,mi,oU,oU,oU,oU,e1,fw,wG,wF,wG,wF,o6 (by decide),o6 (by decide)]
  have h4:kT (c.mp π)=(kT c).map (au.mp π):=by
    unfold kT;rw[amj];simp only[aj.mp,aD];split
    · exact o6 (by decide)
    · rfl
  have h5:lC s (c.mp π)=(lC s c).map (au.mp π):=by
    unfold lC;rw[ak_];simp only[aj.mp,aD];split<;>exact o6 (by decide)
  have hn:(c.mp π).names.length=c.names.length:=by simp[aj.mp]
  rw[oZ,oZ,h1,h3,h4,h5,hn,jd,jd,Gk (f:=oT s c) fun i hi=>h2 i (by simpa using hi)];simp only[fw]
theorem Xo {o f:au} (h:∀x y,x<y→π x<π y):e9 (o.mp π) (f.mp π)=(e9 o f).mp π:=by
  have hl:∀x y,(π x<π y)↔x<y:=fun x y=>⟨fun k=>by
    rcases Int.lt_or_le x y with h1 | h1
    · exact h1
    · rcases Int.lt_or_eq_of_le h1 with h2 | h2
      · have:=h _ _ h2;omega
      · rw[h2] at k;omega,h x y⟩
  unfold e9;rw[xN];split
  · rfl
  · rename_i hf;have e:nV (o.mp π) (f.mp π)=nV o f:=by
      unfold nV;rw[xN,xN]
      by_cases ho:o.cls=0
      · simp[ho]
      · have:decide ((f.mp π).loc<(o.mp π).loc)=decide (f.loc<o.loc):=by
          rw[au.mp,au.mp,ah hf,ah ho];simp[hl]
        rw[this]
    rw[e];split<;>rfl
theorem Ik {l:List au} (h:∀x y,x<y→π x<π y):dg (l.map (au.mp π))=(dg l).mp π:=by
  have:∀(l:List au) (o:au),(l.map (au.mp π)).foldl e9 (o.mp π)=(l.foldl e9 o).mp π:=fun l=>by
    induction l with
    | nil=>intro o;rfl
    | cons f l ih=>intro o;rw[bL,qe,qe,Xo h,ih]
  exact this l .zero
theorem Sb {l:List au}:(dg l).cls=0↔∀f∈l,f.cls=0 :=
  ⟨fun h=>(Sd h).2,fun h=>by rw[Se h];rfl⟩
theorem ahI {l:List au}:(dg (l.map (au.mp π))).cls=0↔(dg l).cls=0:=by
  rw[Sb,Sb];simp[xN]
theorem Oz {lat:Nat} {n:Nd} (h:n.kind=1∨0<n.kids.length):nw s lat (n.mp π)=nw s lat n:=by
  unfold nw;rw[jc,j6,ia];split
  · rfl
  · rename_i h1;rw[vk (h.resolve_left h1),F']
theorem ahF {lat:Nat} {n:Nd} (h:n.kind=1∨0<n.kids.length):kR s lat (n.mp π)=kR s lat n:=by
  unfold kR;rw[jc,j6,ia];split
  · rfl
  · rename_i h1;rw[vk (h.resolve_left h1),F'];simp only;cases (fS (ri s lat) (n.kids.getD 0 ib)).2<;>rfl
theorem Pj {lat:Nat}:∀{l:List Nd},(∀m∈l,kJ s lat (m.mp π)=kJ s lat m)→mF s lat (l.map (Nd.mp π))=mF s lat l
  | [],_=>rfl
  | n::ns,h=>by rw[bL,mF,mF,h n (by simp),Pj fun m hm=>h m (by simp[hm])]
theorem YQ {lat:Nat} (n:Nd):n.fg=true→kJ s lat (n.mp π)=kJ s lat n:=by
  induction n using Nd.ind with
  | h n ih =>
    intro hq;rw[F1,F1,jc,ia];have ho:oW (n.mp π)=oW n:=by simp only[oW,jc,ia,aD]
    rw[ho];split
    · rename_i h;rw[ahF ?_]
      rcases h with h | h
      · exact .inl h
      · exact .inr (by rw[AQ hq h];omega)
    · rename_i h;rw[Pj fun m hm=>ih m hm (R0 hq h m hm)]
theorem Ub {lat:Nat} {n:Nd} (h:∀k∈n.kids,0<k.kids.length∧∀a∈k.kids,a.kind=1∨0<a.kids.length):j9 s lat (n.mp π)=j9 s lat n:=by
  unfold j9;rw[jc,j6,ia,nX,uU];have e1:n.kids.map (qC s lat∘Nd.mp π)=n.kids.map (qC s lat):=Fm fun k hk=>by
    obtain⟨h1,h2⟩:=h k hk;show qC s lat (k.mp π)=_;rw[qC,qC,j6,ia,vk h1,Oz]
    have:k.kids.getD 0 ib∈k.kids:=by rw[nF h1];exact eZ _
    exact h2 _ this
  have e2:wz s (n.names.map (Word.mp π))=wz s n.names:=by cases n.names<;>rfl
  rw[e1,e2]
end
def at_ (pre us:List Tree) (fin:Int) (k:Nat):ae:=⟨pre++us,((pre.length+k:Nat):Int),fin,none⟩
section
variable {β:Type} {one:Nat→ae→β × ae} {sm:β→β→Bool} {S:β→List Sh}
end
def t_:List UInt8→List Nd→List (UInt8 × Nd)
  | [],_=>[]
  | k::ks,ts=>(k,ts.headD .zero)::t_ ks (if isTerm k=true then ts.tail else ts)
theorem Tv (c:aj):∀(ks:List UInt8) (x:List (List UInt8) × List Nd),(ks.foldl (uC c) x).1=x.1++(t_ ks x.2).map fun q=>mV q.1 c q.2
  | [],x=>by simp[t_]
  | k :: ks, x => by
    rw[qe,Tv c ks];simp[uC,t_]
theorem Vi (c:aj):na c=(cL c.op).1++((t_ (cL c.op).2 [c.left,c.right]).map fun q=>mV q.1 c q.2).flatMap fun y=>[32]++y:=by
  rw[na,jf,Tv];rfl
theorem Td {i:ae} {b:Int} (h:i.bad=some b):∀n acc,(ae.gH n i acc).1.bad=some b
  | 0,_=>h
  | n+1,_=>by simp[ae.gH,h]
section
variable {N:Int} (h0:0≤N)
include h0
end
mutual
theorem JJ:∀(n m:Nd),n.eN m=true→n.cM=m.cM
  | .mk k p t ws ks, m, h => by
    rw[Nd.Em] at h;simp only[bm,cq] at h;obtain⟨⟨⟨h1,h2⟩,h3⟩,h4⟩:=h;rw[En] at h3;simp only[cq] at h3;have h5:da (Nd.mk k p t ws ks).kids=da m.kids:=UF ks m.kids h4;have h6:jR (Nd.mk k p t ws ks).names=jR m.names:=by unfold jR;rw[h3]
    have h7:(Nd.mk k p t ws ks).names.length=m.names.length:=by have:=gj List.length h3;simpa using this
    rw[Nd.Vq (.mk k p t ws ks),Nd.Vq m,h1,h2,h5,h6]
    first | rfl | rw[h7] | skip
theorem UF:∀(a b:List Nd),fN a b=true→da a=da b
  | [],[],_=>rfl
  | [],_::_,h=>by simp[fN] at h
  | _::_,[],h=>by simp[fN] at h
  | n :: ns, m :: ms, h => by
    simp only[fN,bm] at h;simp only[da,JJ n m h.1,UF ns ms h.2]
end
theorem Uy:∀(a b:List (Word × Word)),fu a b=true→a.map kV=b.map kV
  | [],[],_=>rfl
  | [],_::_,h=>by simp[fu] at h
  | _::_,[],h=>by simp[fu] at h
  | p :: ps, q :: qs, h => by
    simp only[fu,bm,cq] at h;simp only[bL,kV,h.1.1,h.1.2,Uy ps qs h.2]
theorem am7 {a b:aj} (h:a.eN b=true):na a=na b:=by
  unfold aj.eN at h;rw[En] at h;simp only[bm,cq] at h;obtain⟨⟨⟨⟨⟨h1,h2⟩,h3⟩,h4⟩,h5⟩,h6⟩:=h;have hp:=Uy _ _ h4;have key:∀(ks:List UInt8) (ts us:List Nd),ts.map Nd.cM=us.map Nd.cM→(t_ ks ts).map (fun q=>mV q.1 a q.2)=(t_ ks us).map (fun q=>mV q.1 b q.2):=by
    intro ks;induction ks with
    | nil=>intros;rfl
    | cons k ks ih =>
      intro ts us lY;have hh:(ts.headD .zero).cM=(us.headD .zero).cM:=by
        cases ts with
        | nil => cases us with
          | nil=>rfl
          | cons=>simp at lY
        | cons => cases us with
          | nil=>simp at lY
          | cons=>simp at lY;exact lY.1
      have ht:(if isTerm k=true then ts.tail else ts).map Nd.cM=(if isTerm k=true then us.tail else us).map Nd.cM:=by
        split
        · rw[List.map_tail,List.map_tail,lY]
        · exact lY
      simp only[t_,bL,ih _ _ ht];congr 1;unfold mV;rw[h2,h3,hp,hh]
  rw[Vi,Vi,h1,key _ [a.left,a.right] [b.left,b.right] (by simp[JJ _ _ h5,JJ _ _ h6])]
section
variable {π:Int→Int} {s:ar} {c:aj}
theorem abk:(fI s (c.mp π)).cls=0↔(fI s c).cls=0:=by rw[fI,fI,O7,ahI]
theorem agz:iI s (c.mp π)=iI s c:=by
  rw[iI,iI,amv,nB.2 abk];rfl
theorem Wx (h:iI s c=true):kF s (c.mp π)=kF s c:=by
  have hF:=RQ.1 h;have e:bP s (c.mp π)=bP s c:=rfl;unfold kF;rw[e]
  by_cases h8:c.op=8
  · have GD : (c.mp π).op=8:=h8;rw[aw h8,aw GD];obtain⟨q1,q2⟩:=hF.labels h8;have k2:c.right.kind=1∨0<c.right.kids.length:=by
      rcases hF.right h8 with k | k
      · exact .inl k
      · exact .inr (by rw[AQ q2 k];omega)
    have e1:kd s (bP s c) (c.mp π).left=kd s (bP s c) c.left:=by
      show kd s (bP s c) (c.left.mp π)=_;rw[kd,kd,DG,YQ _ q1]
    have e2:nw s (bP s c).toNat (c.mp π).right=nw s (bP s c).toNat c.right:=Oz k2;rw[e1,e2]
  · have GD : ¬(c.mp π).op=8:=h8;rw[ah h8,ah GD]
    by_cases h9:c.op=9
    · have zX : (c.mp π).op=9:=h9;rw[aw h9,aw zX];obtain⟨q1,q2⟩:=hF.rows h9;have e1:j9 s (bP s c).toNat (c.mp π).left=j9 s (bP s c).toNat c.left:=Ub (Ei q1);have e2:j9 s (bP s c).toNat (c.mp π).right=j9 s (bP s c).toNat c.right:=Ub (Ei q2);rw[e1,e2]
    · have zX : ¬(c.mp π).op=9:=h9;rw[ah h9,ah zX];have gd:c.op=10:=by have:=hF.op;omega
      obtain⟨w,hw,_⟩:=hF.one gd;have e1:((c.mp π).names.getD 0 ⟨[],0⟩).text=(c.names.getD 0 ⟨[],0⟩).text:=by simp only[aj.mp,hw];rfl
      rw[e1];rfl
def mC (s:ar) (c:aj):iu:=if iI s c then kF s c else .zero
theorem Ow:mC s (c.mp π)=mC s c:=by
  unfold mC;rw[agz];split
  · rename_i h;exact Wx h
  · rfl
theorem JH:∀{a b:List Word},fj a b=true→a.map (Word.mp fun _=>0)=b.map (Word.mp fun _=>0)
  | [],[],_=>rfl
  | [],_::_,h=>by simp[fj] at h
  | _::_,[],h=>by simp[fj] at h
  | w :: ws, u :: us, h => by
    simp only[fj,bm,cq] at h;rw[bL,bL,JH h.2,Word.mp,Word.mp,h.1]
mutual
theorem JE:∀{n m:Nd},n.eN m=true→n.mp (fun _=>0)=m.mp fun _=>0
  | .mk k p t ws ks, .mk k' p' t' ws' ks', h => by
    rw[Nd.eN] at h;simp only[bm,Nd.kind,Nd.text,Nd.names,Nd.kids] at h;obtain⟨⟨⟨h1,h2⟩,h3⟩,h4⟩:=h;have h1:=IW h1;have h2:=IW h2;rw[Nd.mp,Nd.mp,h1,h2,JH h3,Uv h4]
theorem Uv:∀{a b:List Nd},fN a b=true→ue (fun _=>0) a=ue (fun _=>0) b
  | [],[],_=>rfl
  | [],_::_,h=>by simp[fN] at h
  | _::_,[],h=>by simp[fN] at h
  | n :: ns, m :: ms, h => by
    simp only[fN,bm] at h;rw[ue,ue,JE h.1,Uv h.2]
end
theorem Uz:∀{a b:List (Word × Word)},fu a b=true→a.map (fun p=>(p.1.mp fun _=>0,p.2.mp fun _=>0))=b.map fun p=>(p.1.mp fun _=>0,p.2.mp fun _=>0)
  | [],[],_=>rfl
  | [],_::_,h=>by simp[fu] at h
  | _::_,[],h=>by simp[fu] at h
  | p :: ps, q :: qs, h => by
    simp only[fu,bm,cq] at h;rw[bL,bL,Uz h.2];simp only[Word.mp,h.1.1,h.1.2]
theorem am3 {c d:aj} (h:c.eN d=true):c.mp (fun _=>0)=d.mp fun _=>0:=by
  simp only[aj.eN,bm,cq] at h;obtain⟨⟨⟨⟨⟨h1,h2⟩,h3⟩,h4⟩,h5⟩,h6⟩:=h;simp only[aj.mp,h1,JE h5,JE h6,Uz h4,JH h3];simp only[Word.mp,h2]
theorem ahZ {r:Rm} {c d:aj} (h:c.eN d=true):j4 r d=j4 r c:=by
  have ho:c.op=d.op:=by simp only[aj.eN,bm,cq] at h;exact h.1.1.1.1.1
  rw[j4,j4,←am7 h,ho]
theorem Wy {c d:aj} (h:c.eN d=true):mC s d=mC s c:=by
  rw[←Ow (π:=fun _=>0) (c:=d),←am3 h,Ow]
end
def Tok.mp (π:Int→Int) (t:Tok):Tok:=⟨t.kind,t.text,π t.pos⟩
mutual
def Tree.mp (π:Int→Int):Tree→Tree
  | .mk t ks e=>.mk (t.mp π) (tmps π ks) (π e)
def tmps (π:Int→Int):List Tree→List Tree
  | []=>[]
  | t::ts=>t.mp π::tmps π ts
end
def ae.mp (π:Int→Int) (r:ae):ae:=⟨r.l.map (Tree.mp π),r.at_,π r.fin,r.bad.map π⟩
section
variable {π:Int→Int}
theorem Ey:∀{l:List Tree},tmps π l=l.map (Tree.mp π)
  | []=>rfl
  | t::ts=>by rw[tmps,Ey];rfl
theorem rl (t:Tree):(t.mp π).tok=t.tok.mp π:=by cases t;rw[Tree.mp];rfl
theorem Ex (t:Tree):(t.mp π).kids=t.kids.map (Tree.mp π):=by cases t;rw[Tree.mp,Ey];rfl
theorem aop (t:Tree):(t.mp π).fin=π t.fin:=by cases t;rw[Tree.mp];rfl
mutual
theorem aiD:∀t:Tree,(t.mp π).many=t.many
  | .mk t ks e=>by rw[Tree.mp,Tree.many,Tree.many,IA ks]
theorem IA:∀l:List Tree,bp (tmps π l)=bp l
  | []=>rfl
  | t::ts=>by rw[tmps,bp,bp,aiD t,IA ts]
end
theorem aiG {l:List Tree}:bp (l.map (Tree.mp π))=bp l:=by rw[←Ey,IA]
theorem agA {l:List Tree} {i k:Int}:l6 (l.map (Tree.mp π)) i k=l6 l i k:=by
  unfold l6;rw[qg];cases l[i.toNat]? with
  | none=>rfl
  | some t=>simp[rl,Tok.mp]
theorem anK {r:ae}:(r.mp π).spot=π r.spot:=by
  unfold ae.spot;simp only[ae.mp,qg];split
  · cases r.l[r.at_.toNat]? with
    | none=>rfl
    | some t=>simp[rl,Tok.mp]
  · rfl
theorem Jp {r:ae}:(r.mp π).fail=r.fail.mp π:=by
  unfold ae.fail;rw[anK];cases h:r.bad with
  | none=>simp[ae.mp,h]
  | some a=>simp[ae.mp,h]
theorem Eh {r:ae}:(r.mp π).ok=r.ok:=by simp[ae.ok,ae.mp]
theorem rb {r:ae} {k:Int}:(r.mp π).sees k=r.sees k:=by unfold ae.sees;rw[Eh];simp only[ae.mp,agA]
theorem kA {r:ae} {k:Int}:((r.mp π).take k).2=(r.take k).2.mp π:=by
  unfold ae.take;rw[rb,Jp];split<;>rfl
theorem mr {r:ae} {k:Int} (h:(r.take k).2.bad=none):r.bad=none∧r.sees k=true:=by
  rcases r.mq k with ⟨h1,_⟩ | ⟨_,_,h1⟩
  · have h2:=h1;simp only[ae.sees,ae.ok,bm,wU] at h2;exact⟨h2.1,h1⟩
  · exact absurd h h1
theorem sC {r:ae} {k:Int} (h:(r.take k).2.bad=none):((r.mp π).take k).1=(r.take k).1.mp π:=by
  have hs:=(mr h).2;have hl:r.at_.toNat<r.l.length:=by
    rcases r.mq k with ⟨_,_,_,h3,h4⟩ | ⟨_,_,h1⟩
    · omega
    · exact absurd h h1
  unfold ae.take;rw[rb,hs,aw rfl,aw rfl];simp[ae.mp,List.getD,hl]
structure gX {β:Type} (π:Int→Int) (m:β→β) (one:ae→β × ae):Prop where
  r:∀r,(one (r.mp π)).2=(one r).2.mp π
  v:∀r,(one r).2.bad=none→(one (r.mp π)).1=m (one r).1
  k:∀r,(one r).2.bad=none→r.bad=none
theorem gk:gX π (Word.mp π) ae.word:=⟨fun r=>kA,fun r h=>by
  have h:(r.take 97).2.bad=none:=h;unfold ae.word;rw[sC h,rl];rfl,fun r h=>(mr h).1⟩
theorem apn {r:ae}:(r.mp π).word.1.text=r.word.1.text:=by
  show ((r.mp π).take 97).1.tok.text=(r.take 97).1.tok.text;cases hs:r.sees 97 with
  | true =>
    have h:(r.take 97).2.bad=none:=by
      rcases r.mq 97 with ⟨_,_,h1,_⟩ | ⟨h1,_⟩
      · exact h1
      · rw[hs] at h1;simp at h1
    rw[sC h,rl];rfl
  | false=>simp[ae.take,rb,hs]
def sL {β:Type} (π:Int→Int) (m:β→β) (a a' : ae × List β):Prop:=a'.1=a.1.mp π∧(a.1.bad=none→a'.2=a.2.map m)
section
variable {β:Type} {m:β→β} {one:ae→β × ae} {step:ae × List β→ae × List β}
structure wZ (π:Int→Int) (m:β→β) (step:ae × List β→ae × List β):Prop where
  s:∀a a',sL π m a a' → sL π m (step a) (step a')
  k:∀a,(step a).1.bad=none→a.1.bad=none
theorem JZ (h:gX π m one):wZ π m (bU one):=⟨fun a a' e=>by
  refine⟨?_,fun hb=>?_⟩
  · show (one a'.1).2=_;rw[e.1];exact h.r _
  · have hb:(one a.1).2.bad=none:=hb;show a'.2++[(one a'.1).1]=_;rw[e.1,h.v _ hb,e.2 (h.k _ hb)];simp[bU],fun a hb=>h.k _ hb⟩
theorem anV:wZ π (Word.mp π) jl:=JZ gk
theorem Qu (h:wZ π m step):∀{n:Nat} {a a' : ae × List β},sL π m a a' → sL π m (lu step n a) (lu step n a')
  | 0,a,a',e=>e
  | n + 1, a, a', e => by
    rw[lu,lu,e.1,rb];split
    · refine Qu h (h.s _ _ ⟨kA,fun hb=>?_⟩);exact e.2 (mr hb).1
    · exact e
theorem U2 (h:wZ π m step) {r r' : ae} (e:r' = r.mp π):sL π m (dQ step r) (dQ step r'):=by
  unfold dQ;rw[e,show (r.mp π).l.length=r.l.length by simp[ae.mp]];exact Qu h (h.s _ _ ⟨rfl,fun _=>rfl⟩)
theorem AI {t:Tree}:(t.mp π).inner=t.inner.mp π:=by simp[Tree.inner,Ex,aop,ae.mp]
theorem YI {r:ae}:(r.mp π).close=r.close.mp π:=by
  unfold ae.close;rw[Eh,Jp]
  have:(r.mp π).at_=r.at_∧(r.mp π).l.length=r.l.length:=by simp[ae.mp]
  rw[this.1,this.2];split<;>rfl
theorem O0 {r:ae} (h:r.close.bad=none):r.bad=none:=by
  unfold ae.close at h;split at h
  · exact absurd h r.zK
  · exact h
theorem Vs {r i:ae}:(r.mp π).under (i.mp π)=(r.under i).mp π:=by
  unfold ae.under;rw[YI];simp[ae.mp]
theorem RP (h:wZ π m step) {e:Bool} {t:Tree}:sL π m (ae.inside step e t) (ae.inside step e (t.mp π)):=by
  unfold ae.inside;rw[show (t.mp π).kids.length=t.kids.length by simp[Ex]];split
  · exact⟨AI,fun _=>rfl⟩
  · exact U2 h AI
theorem PS (h:wZ π m step) {k:Int} {e:Bool}:gX π (fun x=>(x.1.map m,π x.2)) (ae.bracket step k e):=by
  have key:∀r:ae,(r.take k).2.ok=true→(r.take k).2.bad=none:=fun r h=>by simpa [ae.ok] using h
  refine⟨fun r=>?_,fun r hb=>?_,fun r hb=>?_⟩
  · unfold ae.bracket;rw[kA,Eh];split
    · rename_i bw;rw[sC (key r bw)];simp only;rw[(RP h).1,Vs]
    · rfl
  · unfold ae.bracket at hb ⊢;rw[kA,Eh];split
    · rename_i bw;rw[aw bw] at hb;rw[sC (key r bw)];simp only;have hb:(ae.inside step e (r.take k).1).1.close.bad=none:=hb;rw[(RP h).2 (O0 hb),rl];rfl
    · rename_i bw;rw[ah bw] at hb;exact absurd (by simp[ae.ok,show (r.take k).2.bad=none from hb]) bw
  · unfold ae.bracket at hb;split at hb
    · rename_i bw;exact(mr (key r bw)).1
    · exact(mr hb).1
end
theorem tj {e:Bool}:gX π (fun x=>(x.1.map (Word.mp π),π x.2)) (ae.words e):=PS anV
theorem CJ {one:ae→Nd × ae} (h:gX π (Nd.mp π) one) {k:Int} {e:Bool}:gX π (fun x=>(x.1.map (Nd.mp π),π x.2)) (fun r=>r.nodes one k e):=PS (JZ h)
theorem vd {k:Int}:gX π (Nd.mp π) (ae.leaf k):=⟨fun r=>gk.r r,fun r h=>by
  unfold ae.leaf;simp only;rw[gk.v r h,Nd.mp];rfl,fun r h=>gk (π:=π).k r h⟩
theorem qY {k p:Int} {t:List UInt8} {ws:List Word} {ks:List Nd}:(Nd.mk k p t ws ks).mp π = .mk k (π p) t (ws.map (Word.mp π)) (ks.map (Nd.mp π)):=by rw[Nd.mp,ID]
theorem aaP:gX π (Nd.mp π) ae.rule:=by
  have kk:∀r:ae,r.rule.2.bad=none→(r.word.2.take 58).2.bad=none:=fun r h=>tj (π:=π).k _ h
  refine⟨fun r=>?_,fun r h=>?_,fun r h=>gk (π:=π).k r (mr (kk r h)).1⟩
  · unfold ae.rule;simp only;rw[gk.r,kA,tj.r]
  · have h2:=kk r h;have h1:=(mr h2).1;unfold ae.rule;simp only;rw[gk.r,kA,tj.v _ h,gk.v _ h1,qY];rfl
theorem PT {k:Int} {one:ae→(List Nd × Int) × ae} (h:gX π (fun x=>(x.1.map (Nd.mp π),π x.2)) one):gX π (Nd.mp π) (fun r=>(Nd.mk k (one r).1.2 [] [] (one r).1.1,(one r).2)):=⟨h.r,fun r hb=>by
  simp only;rw[h.v r hb,qY];rfl,h.k⟩
theorem xI {one two:ae→Nd × ae} {k:Int} (h1:gX π (Nd.mp π) one) (h2:gX π (Nd.mp π) two):gX π (Nd.mp π) (fun r=>if r.sees k=true then one r else two r):=by
  refine⟨fun r=>?_,fun r=>?_,fun r=>?_⟩
  · simp only[rb];split
    · exact h1.r r
    · exact h2.r r
  · simp only[rb];split
    · exact h1.v r
    · exact h2.v r
  · split
    · exact h1.k r
    · exact h2.k r
theorem zJ:∀(n:Nat),gX π (Nd.mp π) (ae.constant n)
  | 0=>vd
  | n + 1 => by
    have hw:gX π (Nd.mp π) (fun r=>(Nd.mk 3 (r.words true).1.2 [] (r.words true).1.1 [],(r.words true).2)):=⟨tj.r,fun r hb=>by
      simp only;rw[tj.v r hb,qY];rfl,tj (π:=π).k⟩
    exact xI hw (xI (PT (CJ (zJ n))) (xI (PT (CJ aaP)) vd))
theorem CH (n:Nat):gX π (Nd.mp π) (ae.atom n):=by
  refine xI ⟨fun r=>?_,fun r h=>?_,fun r h=>(mr ((zJ (π:=π) n).k _ h)).1⟩ vd
  · simp only;rw[kA,(zJ n).r]
  · have h1:=(zJ (π:=π) n).k _ h;simp only at h ⊢;rw[kA,(zJ n).v _ h,sC h1,rl,qY];rfl
theorem PU {k j:Int} {one:ae→(List Nd × Int) × ae} (h:gX π (fun x=>(x.1.map (Nd.mp π),π x.2)) one) :
    gX π (Nd.mp π) (fun r=>(Nd.mk k (r.take j).1.tok.pos [] [] (one (r.take j).2).1.1,(one (r.take j).2).2)):=by
  refine⟨fun r=>?_,fun r hb=>?_,fun r hb=>(mr (h.k _ hb)).1⟩
  · simp only;rw[kA,h.r]
  · have h1:=h.k _ hb;simp only at hb ⊢;rw[kA,h.v _ hb,sC h1,rl,qY];rfl
theorem Gg:∀(n:Nat),gX π (Nd.mp π) (ae.label n)
  | 0=>vd
  | n+1=>xI (PU (CJ (Gg n))) (xI (PU (CJ (Gg n))) (CH (n+1)))
theorem aaN (n:Nat):gX π (Nd.mp π) (ae.field n):=by
  have kk:∀r:ae,(r.field n).2.bad=none→(r.word.2.take 61).2.bad=none:=fun r h=>(CH (π:=π) n).k _ h
  refine⟨fun r=>?_,fun r h=>?_,fun r h=>gk (π:=π).k r (mr (kk r h)).1⟩
  · unfold ae.field;simp only;rw[gk.r,kA,(CH n).r]
  · have h2:=kk r h;have h1:=(mr h2).1;unfold ae.field;simp only;rw[gk.r,kA,(CH n).v _ h,gk.v _ h1,qY];rfl
def Bo (a:ae × List Nd):(ae × List Nd) × List Word:=if a.1.sees 124=true then (((a.1.take 124).2.word.2,a.2),[(a.1.take 124).2.word.1]) else (a,[])
def E5 (π:Int→Int) (a a' : (ae × List Nd) × List Word):Prop:=a'.1.1=a.1.1.mp π∧(a.1.1.bad=none→a'.1.2=a.1.2.map (Nd.mp π)∧a'.2=a.2.map (Word.mp π))
theorem an7 {a a' : ae × List Nd} (e:sL π (Nd.mp π) a a'):E5 π (Bo a) (Bo a'):=by
  unfold Bo;rw[e.1,rb];split
  · refine⟨?_,fun hb=>?_⟩
    · simp only;rw[kA,gk.r]
    · simp only at hb ⊢;rw[kA,gk.v _ hb,e.2 (mr (gk (π:=π).k _ hb)).1];exact⟨rfl,rfl⟩
  · exact⟨e.1,fun hb=>⟨e.2 hb,rfl⟩⟩
theorem T7 {n:Nat} {t:Tree}:E5 π (ae.rowOf n t) (ae.rowOf n (t.mp π)):=by
  unfold ae.rowOf;rw[show (t.mp π).kids.length=t.kids.length by simp[Ex]];split
  · exact⟨AI,fun _=>⟨rfl,rfl⟩⟩
  · rw[AI];generalize t.inner=i;show E5 π (Bo (if i.sees 124=true then (i,[]) else dQ (bU (ae.field n)) i)) (Bo (if (i.mp π).sees 124=true then (i.mp π,[]) else dQ (bU (ae.field n)) (i.mp π)));rw[rb];refine an7 ?_;split
    · exact⟨rfl,fun _=>rfl⟩
    · exact U2 (JZ (aaN n)) rfl
theorem aaO (n:Nat):gX π (Nd.mp π) (ae.row n):=by
  have hs:∀r:ae,r.sees 91=true→(r.take 91).2.bad=none:=fun r h=>by
    rcases r.mq 91 with ⟨_,_,h1,_⟩ | ⟨h1,_⟩
    · exact h1
    · rw[h] at h1;simp at h1
  refine⟨fun r=>?_,fun r=>?_,fun r=>?_⟩
  · unfold ae.row;rw[rb];split
    · rename_i h;simp only;rw[kA,sC (hs r h),T7.1,Vs]
    · exact vd.r r
  · unfold ae.row;rw[rb];split
    · rename_i h;intro hb;simp only at hb ⊢;have hb:(ae.rowOf n (r.take 91).1).1.1.close.bad=none:=hb;obtain⟨h1,h2⟩:=(T7 (π:=π) (n:=n) (t:=(r.take 91).1)).2 (O0 hb);rw[sC (hs r h),h1,h2,rl,qY];rfl
    · exact vd.v r
  · unfold ae.row;split
    · rename_i h;exact fun _=>(mr (hs r h)).1
    · exact vd (π:=π).k r
theorem ame {one:ae→Nd × ae} (h:gX π (Nd.mp π) one) {l:List Tree} {a fin:Int} :
    fi one (l.map (Tree.mp π)) a (π fin)=(if (fi one l a fin).2.2.isSome then .zero else (fi one l a fin).1.mp π,(fi one l a fin).2.1,(fi one l a fin).2.2.map π):=by
  have e:(⟨l.map (Tree.mp π),a,π fin,none⟩:ae)=(⟨l,a,fin,none⟩:ae).mp π:=rfl;unfold fi;rw[e,h.r];have hv:=h.v ⟨l,a,fin,none⟩;generalize one ⟨l,a,fin,none⟩=x at hv;cases hb:x.2.bad with
  | some b=>simp[ae.mp,hb]
  | none=>rw[hv hb];simp[ae.mp,hb]
theorem apr {l:List Tree} {a fin:Int}:lI (l.map (Tree.mp π)) a (π fin)=((lI l a fin).1.map (Word.mp π),(lI l a fin).2.map π):=by
  have e:(⟨l.map (Tree.mp π),a,π fin,none⟩:ae)=(⟨l,a,fin,none⟩:ae).mp π:=rfl;unfold lI;rw[e,tj.r];have hv:=(tj (π:=π) (e:=false)).v ⟨l,a,fin,none⟩;generalize (⟨l,a,fin,none⟩:ae).words false=x at hv;generalize (ae.words false ((⟨l,a,fin,none⟩:ae).mp π)).1=y at hv;cases hb:x.2.bad with
  | some b=>simp[ae.mp,hb]
  | none=>simp only[ae.mp,hb];rw[hv hb];rfl
def sk (π:Int→Int) (p:Word × Word):Word × Word:=(p.1.mp π,p.2.mp π)
theorem Te {n:Nat} {i:ae} {acc:List (Word × Word)} (h:i.bad=none):i.gH (n+1) acc=if ((i.word.2.take 60).2.word).2.at_=i.l.length then (((i.word.2.take 60).2.word).2,acc++[(i.word.1,((i.word.2.take 60).2.word).1)])
    else ae.gH n (((i.word.2.take 60).2.word).2.take 44).2 (acc++[(i.word.1,((i.word.2.take 60).2.word).1)]):=by rw[ae.gH,ah (by simp[h])]
theorem Tg:∀{n:Nat} {i:ae} {acc acc' : List (Word × Word)},(i.bad=none→acc' = acc.map (sk π))→sL π (sk π) (i.gH n acc) ((i.mp π).gH n acc')
  | 0,i,acc,acc',h=>⟨rfl,h⟩
  | n + 1, i, acc, acc', h => by
    by_cases hb:i.bad=none
    case neg =>
      rw[ae.gH,ae.gH,aw hb,aw (by simpa [ae.mp] using hb)];exact⟨rfl,h⟩
    rw[Te hb,Te (by simp[ae.mp,hb]),gk.r,kA,gk.r];have hl:(i.mp π).l.length=i.l.length:=by simp[ae.mp]
    have ha:(((i.word.2.take 60).2.word).2.mp π).at_=((i.word.2.take 60).2.word).2.at_:=rfl;have hv:((i.word.2.take 60).2.word).2.bad=none→acc' ++ [((i.mp π).word.1,(((i.word.2.take 60).2.mp π).word).1)]=(acc++[(i.word.1,((i.word.2.take 60).2.word).1)]).map (sk π):=fun hv=>by
      have h2:=gk (π:=π).k _ hv;have h1:=(mr h2).1;rw[gk.v _ hv,gk.v _ h1,h hb];simp[sk]
    rw[hl,ha];split
    · exact⟨rfl,hv⟩
    · rw[kA];exact Tg fun hk=>hv (mr hk).1
end
section
variable {π:Int→Int}
structure CR (π:Int→Int) (ks:List UInt8) (c d:aj):Prop where
  op:d.op=c.op
  pos:d.pos=π c.pos
  text:d.name.text=c.name.text
  name:110∈ks→d.name=c.name.mp π
  names:d.names=c.names.map (Word.mp π)
  aY:d.aY=c.aY.map (sk π)
  pat:112∈ks→d.jM=π c.jM
  left:d.left=c.left.mp π∨(c.left = .zero∧d.left = .zero)
  right:d.right=c.right.mp π∨(c.right = .zero∧d.right = .zero)
def PR (π:Int→Int) (ks:List UInt8) (x y:ae × aj):Prop:=y.1=x.1.mp π∧(x.1.bad=none→CR π ks x.2 y.2)
theorem CR.more {ks ks' : List UInt8} {c d:aj} (h:CR π ks c d) (h1:110∈ks' → 110∈ks) (h2:112∈ks' → 112∈ks):CR π ks' c d :=
  ⟨h.op,h.pos,h.text,fun k=>h.name (h1 k),h.names,h.aY,fun k=>h.pat (h2 k),h.left,h.right⟩
theorem Xj {r:ae} {b:Option Int}:(r.mp π).qt (b.map π)=(r.qt b).mp π:=by cases b<;>rfl
theorem Xk {r:ae} {b:Option Int} (h:(r.qt b).bad=none):b=none∧r.bad=none:=by
  cases b with
  | some a=>simp[ae.qt] at h
  | none=>exact⟨rfl,h⟩
theorem SX {ks:List UInt8} {k:UInt8} (hk:k≠110∧k≠112) {one:ae→Nd × ae} (ho:gX π (Nd.mp π) one) {r:ae} {c d:aj} (h:CR π ks c d) :
    PR π (k::ks) (jK r c (fi one r.l r.at_ r.fin)) (jK (r.mp π) d (fi one (r.mp π).l (r.mp π).at_ (r.mp π).fin)):=by
  have e:fi one (r.mp π).l (r.mp π).at_ (r.mp π).fin=_:=ame ho (l:=r.l) (a:=r.at_) (fin:=r.fin);rw[e];have h' := h.more (ks' := k::ks) (fun m=>by rcases iR.1 m with m | m;exact absurd m.symm hk.1;exact m) (fun m=>by rcases iR.1 m with m | m;exact absurd m.symm hk.2;exact m);generalize fi one r.l r.at_ r.fin=g;obtain⟨n,a,b⟩:=g;cases b with
  | some b=>exact⟨rfl,fun hb=>by simp[jK] at hb⟩
  | none =>
    refine⟨rfl,fun _=>?_⟩;have hl:d.left.kind=c.left.kind:=by
      rcases h.left with e | ⟨e1,e2⟩
      · rw[e,jc]
      · rw[e1,e2]
    simp only[jK,hl,wW,fO,ey,B7];split
    · exact⟨h'.op,h'.pos,h'.text,h'.name,h'.names,h'.aY,h'.pat,.inl rfl,h'.right⟩
    · exact⟨h'.op,h'.pos,h'.text,h'.name,h'.names,h'.aY,h'.pat,h'.left,.inl rfl⟩
theorem akD {ks:List UInt8} {r:ae} {c d:aj} (h:CR π ks c d):PR π (112::ks) (n6 r c) (n6 (r.mp π) d):=by
  unfold n6;simp only;rw[kA]
  by_cases hb:(r.take 123).2.bad=none
  case neg =>
    have bl : ((r.take 123).2.mp π).bad≠none:=by simpa [ae.mp] using hb
    rw[aw (.inl hb),aw (.inl bl)];exact⟨rfl,fun k=>absurd k hb⟩
  have bl : ¬((r.take 123).2.mp π).bad≠none:=by simpa [ae.mp] using hb
  rw[sC hb];have oC:((r.take 123).1.mp π).kids.length=(r.take 123).1.kids.length:=by simp[Ex]
  have hn:∀(ps qs:List (Word × Word)),qs=ps.map (sk π)→CR π (112::ks) {c with jM:=(r.take 123).1.tok.pos,aY:=ps} {d with jM:=((r.take 123).1.mp π).tok.pos,aY:=qs}:=fun ps qs hq =>
    ⟨h.op,h.pos,h.text,fun m=>h.name (by rcases iR.1 m with m | m;exact absurd m (by decide);exact m),h.names,hq,fun _=>by rw[rl];rfl,h.left,h.right⟩
  by_cases hk:(r.take 123).1.kids.length=0
  · rw[aw (.inr hk),aw (.inr (by rw[oC];exact hk))];exact⟨rfl,fun _=>hn _ _ h.aY⟩
  · rw[ah (by rintro (k | k);exact k hb;exact hk k),ah (by rintro (k | k);exact bl k;exact hk (by rw[←oC];exact k)),oC,AI];obtain⟨e1,e2⟩:=Tg (π:=π) (n:=(r.take 123).1.kids.length+1) (i:=(r.take 123).1.inner) (acc:=[]) (acc' := []) fun _=>rfl
    refine⟨?_,fun k=>?_⟩
    · simp only;rw[e1,←Xj];rfl
    · exact hn _ _ (e2 (Xk k).1)
theorem akI {ks:List UInt8} {k:UInt8} {x y:ae × aj} (h:PR π ks x y):PR π (k::ks) (gu k x) (gu k y):=by
  obtain⟨r,c⟩:=x;obtain⟨r',d⟩:=y;obtain⟨rfl,h⟩:=h;simp only at h
  by_cases hb:r.bad=none
  case neg =>
    have bl : (r.mp π).bad≠none:=by simpa [ae.mp] using hb
    rw[gu,gu,aw hb,aw bl];exact⟨rfl,fun k=>absurd k hb⟩
  have h:=h hb;have bl : ¬(r.mp π).bad≠none:=by simpa [ae.mp] using hb
  have other:k≠110→k≠112→CR π (k::ks) c d:=fun h1 h2=>h.more (fun m=>by rcases iR.1 m with m | m;exact absurd m.symm h1;exact m) (fun m=>by rcases iR.1 m with m | m;exact absurd m.symm h2;exact m)
  rw[gu,gu,ah (by simpa using hb),ah bl];simp only
  by_cases k1:k=110
  · rw[aw k1,aw k1];refine⟨gk.r r,fun hw=>?_⟩;have e:=gk (π:=π).v r hw;exact⟨h.op,h.pos,by rw[e];rfl,fun _=>e,h.names,h.aY,fun m=>h.pat (by rcases iR.1 m with m | m;exact absurd (m.trans k1) (by decide);exact m),h.left,h.right⟩
  rw[ah k1,ah k1]
  by_cases k2:k=102
  · rw[aw k2,aw k2];refine⟨gk.r r,fun hw=>?_⟩;have e:=gk (π:=π).v r hw;have o:=other k1 (by rw[k2];decide);exact⟨o.op,o.pos,o.text,o.name,by simp only;rw[e];rfl,o.aY,o.pat,o.left,o.right⟩
  rw[ah k2,ah k2]
  by_cases k3:k=119
  · rw[aw k3,aw k3];have e:lI (r.mp π).l (r.mp π).at_ (r.mp π).fin=_:=apr (π:=π) (l:=r.l) (a:=r.at_) (fin:=r.fin);rw[e];refine⟨rfl,fun _=>?_⟩;have o:=other k1 (by rw[k3];decide);exact⟨o.op,o.pos,o.text,o.name,rfl,o.aY,o.pat,o.left,o.right⟩
  rw[ah k3,ah k3]
  by_cases k4:k=112
  · rw[aw k4,aw k4,k4];exact akD h
  rw[ah k4,ah k4];have hm:bp (r.mp π).l=bp r.l:=aiG
  by_cases k5:k=116
  · rw[aw k5,aw k5,hm];exact SX ⟨k1,k4⟩ (Gg _) h
  rw[ah k5,ah k5]
  by_cases k6:k=114
  · rw[aw k6,aw k6,hm];exact SX ⟨k1,k4⟩ (aaO _) h
  rw[ah k6,ah k6];exact⟨rfl,fun _=>other k1 k4⟩
theorem Tp:∀{ks' ks:List UInt8} {x y:ae × aj},PR π ks x y→PR π (ks'.reverse++ks) (fZ ks' x) (fZ ks' y)
  | [],ks,x,y,h=>by simpa [fZ] using h
  | k :: ks', ks, x, y, h => by
    rw[fZ,fZ,List.reverse_cons,eh];exact Tp (akI h)
def Out (π:Int→Int) (x y:aj × Int × Int):Prop :=
  (x=(.zero,0,0)∧y=(.zero,0,0))∨(∃k a,0<k∧x=(.zero,k,a)∧y=(.zero,k,π a))∨(x.2=(0,0)∧y.2=(0,0)∧0<x.1.op∧x.1.op<16∧CR π (cL x.1.op).2 x.1 y.1)
theorem PK:∀{ks:List UInt8} {x:ae × aj},(fZ ks x).2.op=x.2.op
  | [],x=>rfl
  | k :: ks, x => by
    rw[fZ,PK];unfold gu
    repeat' split
    all_goals try rfl
    · unfold n6;simp only;split<;>rfl
    all_goals
      unfold jK;split
      · rfl
      · simp only;split<;>rfl
theorem S0 {w:List UInt8}:∀{n op:Nat},mR w n op≠0→0<mR w n op∧mR w n op<op+n
  | 0,_,h=>absurd rfl h
  | n + 1, op, h => by
    rw[mR] at h ⊢;split
    · rename_i h1;omega
    · rename_i h1;rw[ah h1] at h
      have:=S0 h
      omega
theorem YL {l:List Tree} {fin:Int}:Out π (s6 l fin) (s6 (l.map (Tree.mp π)) (π fin)):=by
  cases l with
  | nil=>exact .inl ⟨rfl,rfl⟩
  | cons t ts =>
    have e:(⟨(t::ts).map (Tree.mp π),0,π fin,none⟩:ae)=(⟨t::ts,0,fin,none⟩:ae).mp π:=rfl;have e1:s6 ((t::ts).map (Tree.mp π)) (π fin)=(if jL (ae.word ⟨(t::ts).map (Tree.mp π),0,π fin,none⟩).1.text=0 then (.zero,2,(t.mp π).tok.pos)
      else td (fZ (cL (jL (ae.word ⟨(t::ts).map (Tree.mp π),0,π fin,none⟩).1.text)).2 ((ae.word ⟨(t::ts).map (Tree.mp π),0,π fin,none⟩).2,{aj.zero with op:=jL (ae.word ⟨(t::ts).map (Tree.mp π),0,π fin,none⟩).1.text,pos:=(ae.word ⟨(t::ts).map (Tree.mp π),0,π fin,none⟩).1.pos}))):=rfl
    rw[e1,e,apn,gk.r];have e2:s6 (t::ts) fin=(if jL (ae.word ⟨t::ts,0,fin,none⟩).1.text=0 then (.zero,2,t.tok.pos)
      else td (fZ (cL (jL (ae.word ⟨t::ts,0,fin,none⟩).1.text)).2 ((ae.word ⟨t::ts,0,fin,none⟩).2,{aj.zero with op:=jL (ae.word ⟨t::ts,0,fin,none⟩).1.text,pos:=(ae.word ⟨t::ts,0,fin,none⟩).1.pos}))):=rfl
    rw[e2];generalize hr:(⟨t::ts,0,fin,none⟩:ae)=r
    by_cases hn:jL r.word.1.text=0
    · rw[aw hn,aw hn];exact .inr (.inl ⟨2,_,by decide,rfl,by rw[rl];rfl⟩)
    rw[ah hn,ah hn];have ag:=S0 hn;have lW:0<jL r.word.1.text∧jL r.word.1.text<16:=by
      show 0<mR r.word.1.text 16 0∧mR r.word.1.text 16 0<16;omega
    generalize jL r.word.1.text=op at lW;have h0:PR π [] (r.word.2,{aj.zero with op:=op,pos:=r.word.1.pos}) (r.word.2.mp π,{aj.zero with op:=op,pos:=(r.mp π).word.1.pos}) :=
      ⟨rfl,fun hb=>⟨rfl,by simp only;rw[gk.v r hb];rfl,rfl,fun h=>by simp at h,rfl,rfl,fun h=>by simp at h,.inr ⟨rfl,rfl⟩,.inr ⟨rfl,rfl⟩⟩⟩
    have h1:=Tp (ks' := (cL op).2) h0;have ho:=@PK (cL op).2 (r.word.2,{aj.zero with op:=op,pos:=r.word.1.pos});generalize fZ (cL op).2 (r.word.2,{aj.zero with op:=op,pos:=r.word.1.pos})=x at h1 ho;generalize fZ (cL op).2 (r.word.2.mp π,{aj.zero with op:=op,pos:=(r.mp π).word.1.pos})=y at h1;obtain⟨i,c⟩:=x;obtain⟨j,d⟩:=y;obtain⟨rfl,h1⟩:=h1;simp only at h1 ho;have e3:(if (i.mp π).bad=none∧(i.mp π).at_<(i.mp π).l.length then (i.mp π).fail else i.mp π)=(if i.bad=none∧i.at_<i.l.length then i.fail else i).mp π:=by
      by_cases h:i.bad=none∧i.at_<i.l.length
      · rw[aw h,aw (by simpa [ae.mp] using h),Jp]
      · rw[ah h,ah (by simpa [ae.mp] using h)]
    unfold td;simp only;rw[e3];have hq:(if i.bad=none∧i.at_<i.l.length then i.fail else i).bad=none→i.bad=none:=fun h=>by
      split at h
      · exact absurd h i.zK
      · exact h
    generalize (if i.bad=none∧i.at_<i.l.length then i.fail else i)=q at hq;cases hb:q.bad with
    | some a=>exact .inr (.inl ⟨2,a,by decide,rfl,by simp[ae.mp,hb]⟩)
    | none =>
      have hc:=h1 (hq hb);refine .inr (.inr ⟨rfl,by simp[ae.mp,hb],?_,?_,?_⟩)
      · simp only;rw[ho];exact lW.1
      · simp only;rw[ho];exact lW.2
      · simp only[ae.mp,hb,B7];rw[ho];exact hc.more (fun m=>by simpa using m) (fun m=>by simpa using m)
end
section
variable {π:Int→Int}
theorem EC:∀{l:List Tok} {op:List (Tok × List Tree)} {row:List Tree},
    du (l.map (Tok.mp π)) (op.map fun p=>(p.1.mp π,p.2.map (Tree.mp π))) (row.map (Tree.mp π))=((du l op row).1.map (Tree.mp π),(du l op row).2.map π)
  | [], op, row => by
    rw[cX,du,du,List.getLast?_map];cases op.getLast? with
    | none=>rfl
    | some p=>rfl
  | t :: ts, op, row => by
    rw[bL,du,du];have ek:(t.mp π).kind=t.kind:=rfl;rw[ek,aD,List.getLast?_map];split
    · split
      · rfl
      · rw[←EC];simp
    · split
      · cases op.getLast? with
        | none=>rfl
        | some p =>
          obtain⟨u,ahead⟩:=p;have eu:(u.mp π).kind=u.kind:=rfl;simp only[pf,eu];split
          · rw[←EC];simp[Tree.mp,Ey,List.map_dropLast];rfl
          · rfl
      · rw[←EC];simp[Tree.mp,tmps];rfl
theorem DM {d:Nat}:∀{n p:Nat} {s:List UInt8} {acc:List Tok},dB n (p+d) s (acc.map (Tok.mp (·+(d:Int))))=((dB n p s acc).1.map (Tok.mp (·+(d:Int))),(dB n p s acc).2.map (·+(d:Int)))
  | 0,_,_,_=>rfl
  | n+1,_,[],_=>rfl
  | n + 1, p, c :: r, acc => by
    rw[dB,dB];split
    · rfl
    split
    · rw[show p+d+(dC (c::r)).length=p+(dC (c::r)).length+d by omega,←DM];simp[Tok.mp]
    split
    · rw[show p+d+1=p+1+d by omega,←DM];simp[Tok.mp]
    split
    · rw[show p+d+1=p+1+d by omega,←DM]
    · simp
theorem amS {r:List UInt8}:dC (32::r)=[]:=by rw[dC,List.takeWhile_cons,ah (by decide)]
theorem ahP {n p:Nat} {r:List UInt8} {acc:List Tok}:dB (n+1) p (32::r) acc=dB n (p+1) r acc:=by
  rw[dB,ah (by rintro⟨h,_⟩;exact absurd h (by decide)),amS,ah (by simp),ah (by decide),aw (.inl rfl)]
theorem Sg {p:Nat} {r:List UInt8} {acc:List Tok}:∀{d n:Nat},dB (n+d) p (List.replicate d 32++r) acc=dB n (p+d) r acc
  | 0,n=>rfl
  | d + 1, n => by
    rw[ry,gN,show n+(d+1)=n+d+1 by omega,ahP]
    have:=@Sg (p+1) r acc d n
    rw[this,show p+1+d=p+(d+1) by omega]
theorem ahS {d:Nat} {r:List UInt8}:dJ (List.replicate d 32++r)=((dJ r).1.map (Tok.mp (·+(d:Int))),(dJ r).2.map (·+(d:Int))):=by
  rw[dJ,dJ,bz,Fl,wS,Sg,←DM];rfl
theorem T0 {s s' : List UInt8} (h:dJ s' = ((dJ s).1.map (Tok.mp π),(dJ s).2.map π)) (hl:(s'.length:Int)=π s.length):Out π (cS s) (cS s'):=by
  have ht:=EC (π:=π) (l:=(dJ s).1) (op:=[]) (row:=[]);simp only[cX] at ht;unfold cS;rw[h];cases (dJ s).2 with
  | some a=>exact .inr (.inl ⟨1,a,by decide,rfl,rfl⟩)
  | none =>
    simp only[B7];rw[ht,hl];cases (du (dJ s).1 [] []).2 with
    | some a=>exact .inr (.inl ⟨2,a,by decide,rfl,rfl⟩)
    | none=>exact YL
theorem amf {d:Nat} {s:List UInt8}:Out (·+(d:Int)) (cS s) (cS (List.replicate d 32++s)):=T0 ahS (by simp;omega)
def oi (n:Int) (x:Int):Int:=if 0≤x∧x≤n then x else 0
theorem FV {n x:Int} (h:oi n x=x) (hn:0≤n):0≤x∧x≤n:=by
  unfold oi at h;split at h
  · assumption
  · omega
theorem amg {s:List UInt8}:Out (oi s.length) (cS s) (cS s):=by
  obtain⟨h1,h2⟩:=ahT s;have e1:(dJ s).1.map (Tok.mp (oi s.length))=(dJ s).1:=by
    refine(Fm fun t ht=>?_).trans (List.map_id _)
    have:0≤t.pos∧t.pos≤(s.length:Int):=h1 t ht
    rw[Tok.mp,oi,aw this];rfl
  have e2:(dJ s).2.map (oi s.length)=(dJ s).2:=by
    cases h:(dJ s).2 with
    | none=>rfl
    | some a=>rw[pf,oi,aw (show 0≤a∧a≤(s.length:Int) from h2 a h)]
  refine T0 ?_ ?_
  · rw[e1,e2]
  · rw[oi,aw ⟨by omega,by omega⟩]
variable {s:ar}
theorem CR.SK {c d:aj} (h:CR π (cL c.op).2 c d) (ho:(1≤c.op∧c.op≤10)∨c.op=15):d.name=c.name.mp π:=h.name (by
  have:∀k:Fin 16,((1≤k.val∧k.val≤10)∨k.val=15)→110∈(cL (k.val:Nat)).2:=by decide
  have:=this ⟨c.op.toNat,by omega⟩ (by simp only;omega)
  rwa [show ((c.op.toNat:Nat):Int)=c.op by omega] at this)
theorem O6 {c d:aj} (h:CR π (cL c.op).2 c d):lk s d=(lk s c).map (au.mp π):=by
  rw[←O7];have e:bP s d=bP s (c.mp π):=by unfold bP;rw[h.text];rfl
  have eo:d.op=(c.mp π).op:=h.op;have ep:d.pos=(c.mp π).pos:=h.pos;have en:=h.SK;have hl:∀lat:Int,dq s lat d.left=dq s lat (c.mp π).left∧∀p,jg s lat p d.left=jg s lat p (c.mp π).left:=fun lat=>by
    rcases h.left with k | ⟨k,k'⟩
    · rw[k];exact⟨rfl,fun _=>rfl⟩
    · rw[k',show (c.mp π).left=Nd.zero.mp π by rw[←k];rfl];exact⟨rfl,fun _=>rfl⟩
  have hr:∀lat:Int,dq s lat d.right=dq s lat (c.mp π).right∧(∀p,jg s lat p d.right=jg s lat p (c.mp π).right)∧qz d.right=qz (c.mp π).right:=fun lat=>by
    rcases h.right with k | ⟨k,k'⟩
    · rw[k];exact⟨rfl,fun _=>rfl,rfl⟩
    · rw[k',show (c.mp π).right=Nd.zero.mp π by rw[←k];rfl];exact⟨rfl,fun _=>rfl,rfl⟩
  unfold lk;rw[e,eo,ep];have eo2:(c.mp π).op=c.op:=rfl;rw[eo2];split
  · rw[en (by omega)];rfl
  split
  · rw[en (by omega)];rfl
  split
  · rw[en (by omega),(hl _).1,(hr _).1,(hr 0).2.2];rfl
  split
  · rw[en (by omega),(hl _).2,(hr _).2.1];rfl
  · rfl
theorem UK {c d:aj} (h:CR π (cL c.op).2 c d) (ho:(mP c.op||o8 c.op)=true):oZ s d=(oZ s c).map (au.mp π):=by
  rw[←ana];have lW:1≤c.op∧c.op≤7:=by
    simp only[mP,o8,jS,bm,cq] at ho;omega
  have e1:d={c.mp π with jM:=d.jM,left:=d.left,right:=d.right}:=by
    have h1:=h.op;have h2:=h.pos;have h3:=h.SK (by omega);have h4:=h.names;have h5:=h.aY;cases d;simp only at h1 h2 h3 h4 h5;subst h1 h2 h3 h4 h5;rfl
  have e2:kT d=kT (c.mp π):=by
    by_cases h5:c.op=5
    · have hp:=h.pat (by rw[h5];decide);rw[e1,hp];rfl
    · unfold kT;rw[ah (by rw[h.op];exact fun k=>h5 k.1),ah (by exact fun k=>h5 k.1)]
  unfold oZ;rw[e2];rw[e1];rfl
theorem am' {c d:aj} (h:CR π (cL c.op).2 c d) (hm:∀x y,x<y→π x<π y):kY s d=(kY s c).mp π:=by
  unfold kY;rw[h.op];split
  · rename_i ho;rw[UK h ho,Ik hm]
  · rfl
theorem abj {c d:aj} (h:CR π (cL c.op).2 c d) (hm:∀x y,x<y→π x<π y):fI s d=(fI s c).mp π:=by
  rw[fI,fI,O6 h,Ik hm]
theorem aiR (n:Nd):(n.mp π).mp (fun _=>0)=n.mp fun _=>0:=by
  induction n using Nd.ind with
  | h n ih =>
    obtain⟨k,p,t,ws,ks⟩:=n;rw[qY,qY,qY,uU,uU];congr 1;exact Fm fun m hm=>ih m hm
theorem CR.same {ks:List UInt8} {c d:aj} (h:CR π ks c d):c.mp (fun _=>0)=d.mp fun _=>0:=by
  have hn:∀{n m:Nd},(m=n.mp π∨(n = .zero∧m = .zero))→n.mp (fun _=>0)=m.mp fun _=>0:=fun {n m} k=>by
    rcases k with rfl | ⟨rfl,rfl⟩
    · exact(aiR n).symm
    · rfl
  have hw:∀l:List Word,(l.map (Word.mp π)).map (Word.mp fun _=>0)=l.map (Word.mp fun _=>0):=fun l=>by simp[Word.mp,rr]
  have e6:d.name.mp (fun _=>0)=c.name.mp fun _=>0:=by rw[Word.mp,Word.mp,h.text]
  simp only[aj.mp,h.op,h.names,h.aY,hn h.left,hn h.right,hw,e6,uU];rfl
end
section
variable {π:Int→Int} {s:ar}
theorem JI:∀{a b:List Word},a.map (Word.mp fun _=>0)=b.map (Word.mp fun _=>0)→fj a b=true
  | [],[],_=>rfl
  | [],_::_,h=>by simp at h
  | _::_,[],h=>by simp at h
  | w :: ws, u :: us, h => by
    simp only[bL,eP,Word.mp,Word.mk.injEq,eC] at h;simp[fj,h.1,JI h.2]
theorem Uu:∀(n m:Nd),n.mp (fun _=>0)=m.mp (fun _=>0)→n.eN m=true:=by
  intro n;induction n using Nd.ind with
  | h n ih =>
    intro m h;have hk:n.kind=m.kind:=by rw[←jc (π:=fun _=>0) n,h,jc]
    have ht:n.text=m.text:=by rw[←j6 (π:=fun _=>0) n,h,j6]
    have hn:n.names.map (Word.mp fun _=>0)=m.names.map (Word.mp fun _=>0):=by rw[←nX,h,nX]
    have hs:n.kids.map (Nd.mp fun _=>0)=m.kids.map (Nd.mp fun _=>0):=by rw[←ia,h,ia]
    have key:∀(a b:List Nd),(∀x∈a,∀y,x.mp (fun _=>0)=y.mp (fun _=>0)→x.eN y=true)→a.map (Nd.mp fun _=>0)=b.map (Nd.mp fun _=>0)→fN a b=true:=by
      intro a;induction a with
      | nil=>intro b _ e;cases b<;>simp_all [fN]
      | cons x xs ihx =>
        intro b hx e;cases b with
        | nil=>simp at e
        | cons y ys =>
          simp only[bL,eP] at e;simp only[fN,bm];exact⟨hx x (by simp) y e.1,ihx ys (fun z hz=>hx z (by simp[hz])) e.2⟩
    rw[Nd.Em];simp[hk,ht,JI hn,key _ _ ih hs]
theorem UA:∀{a b:List (Word × Word)},a.map (sk fun _=>0)=b.map (sk fun _=>0)→fu a b=true
  | [],[],_=>rfl
  | [],_::_,h=>by simp at h
  | _::_,[],h=>by simp at h
  | p :: ps, q :: qs, h => by
    simp only[bL,eP,sk,jW,Word.mp,Word.mk.injEq,eC] at h;simp[fu,h.1.1,h.1.2,UA h.2]
theorem Ut {c d:aj} (h:c.mp (fun _=>0)=d.mp fun _=>0):c.eN d=true:=by
  simp only[aj.mp,aj.mk.injEq,Word.mp,Word.mk.injEq,eC,o7] at h;obtain⟨h1,h2,h3,h4,h5,h6⟩:=h;simp only[aj.eN,bm,cq];exact⟨⟨⟨⟨⟨h1,h2⟩,JI h3⟩,UA h4⟩,Uu _ _ h5⟩,Uu _ _ h6⟩
theorem ah0 {r:Rm} {c d:aj} (h:CR π (cL c.op).2 c d) (hm:∀x y,x<y→π x<π y):dg (gp s r d)=(dg (gp s r c)).mp π:=by
  rw[←Ik hm];congr 1;have hl:=ahZ (r:=r) (Ut h.same);rw[gp,gp,am' h hm,abj h hm,hl,h.op,h.pos,o6 (by decide),o6 (by decide)];simp
theorem SB {α:Type} {g:α→α}:∀{l:List α},l=l.map g→∀x∈l,g x=x
  | [],_,x,hx=>by simp at hx
  | y :: ys, h, x, hx => by
    simp only[bL,eP] at h
    rcases iR.1 hx with rfl | hx
    · exact h.1.symm
    · exact SB h.2 x hx
theorem Xp {o f:au}:e9 o f=o∨e9 o f=f:=by
  unfold e9;split
  · exact .inl rfl
  · split
    · exact .inr rfl
    · exact .inl rfl
theorem Sc {l:List au}:dg l = .zero∨dg l∈l:=by
  have:∀(l:List au) (o:au),l.foldl e9 o=o∨l.foldl e9 o∈l:=fun l=>by
    induction l with
    | nil=>intro o;exact .inl rfl
    | cons f l ih =>
      intro o;rw[qe]
      rcases ih (e9 o f) with h | h
      · rw[h]
        rcases @Xp o f with k | k
        · exact .inl k
        · exact .inr (by rw[k];simp)
      · exact .inr (by simp[h])
  exact this l .zero
theorem abK {n:Int} {f:au} (h:f.mp (oi n)=f) (hn:0≤n):f.cls=0∨(0≤f.loc∧f.loc≤n):=by
  by_cases hc:f.cls=0
  · exact .inl hc
  · rw[au.mp,ah hc] at h;exact .inr (FV (by have:=gj au.loc h;exact this) hn)
theorem ah1 {n:Int} (hn:0≤n) {r:Rm} {c:aj} (h:CR (oi n) (cL c.op).2 c c):(dg (gp s r c)).cls=0∨(0≤(dg (gp s r c)).loc∧(dg (gp s r c)).loc≤n):=by
  have hp:=FV h.pos.symm hn;have key:∀l:List au,l=l.map (au.mp (oi n))→(dg l).cls=0∨(0≤(dg l).loc∧(dg l).loc≤n):=fun l hl=>by
    rcases @Sc l with e | e
    · rw[e];exact .inl rfl
    · exact abK (SB hl _ e) hn
  have h1:(kY s c).cls=0∨(0≤(kY s c).loc∧(kY s c).loc≤n):=by
    unfold kY;split
    · rename_i ho;exact key _ (UK h ho)
    · exact .inl rfl
  have h2:(fI s c).cls=0∨(0≤(fI s c).loc∧(fI s c).loc≤n):=key _ (O6 h)
  rcases @Sc (gp s r c) with e | e
  · rw[e];exact .inl rfl
  · generalize dg (gp s r c)=f at e;simp only[gp,gY,iR,List.not_mem_nil,or_false] at e
    rcases e with ((rfl | rfl) | e) | e
    · exact h1
    · exact h2
    all_goals
      unfold c_ at e;split at e
      · rw[lb.1 e];exact .inr hp
      · simp at e
theorem Sk {r:Rm}:dg (gp s r .zero) = .zero:=by
  have h1:kY s .zero = .zero:=rfl;have h2:fI s .zero = .zero:=rfl;have h3:j4 r .zero=false:=by simp[j4,uB,uZ,aj.zero]
  rw[gp,h1,h2,h3];rfl
theorem anv {r:Rm} {t:List UInt8} {d:Nat} :
    ((gF s r t).2.2.cls≠0∧(gF s r (List.replicate d 32++t)).2.2=⟨(gF s r t).2.2.cls,(gF s r t).2.2.loc+d⟩∧0≤(gF s r t).2.2.loc∧(gF s r t).2.2.loc≤t.length) ∨
    (gF s r t=((cS t).1,mC s (cS t).1,.zero)∧∃c,gF s r (List.replicate d 32++t)=(c,mC s (cS t).1,.zero)∧(cS t).1.eN c=true∧(cS (List.replicate d 32++t)).1=c):=by
  have hm:∀x y:Int,x<y→x+(d:Int)<y+d:=fun x y h=>by omega
  have eH:=amg (s:=t)
  rcases amf (d:=d) (s:=t) with ⟨e1,e2⟩ | ⟨k,a,hk,e1,e2⟩ | ⟨e1,e2,_,_,hc⟩
  · right;have z:∀u:List UInt8,cS u=(.zero,0,0)→gF s r u=(.zero,mC s .zero,.zero):=fun u hu=>by
      rw[DN (by rw[hu]) (by rw[hu,Sk];rfl),hu];rfl
    rw[z _ e1,z _ e2,e1,e2];exact⟨rfl,_,rfl,rfl,rfl⟩
  · left;have hk:k≠0:=by omega
    rw[Im (by rw[e1];exact hk),Im (by rw[e2];exact hk),e1,e2];refine⟨hk,rfl,?_⟩;rw[e1] at eH
    rcases eH with ⟨h,_⟩ | ⟨k',a',_,h1,h2⟩ | ⟨h,_⟩
    · simp only[jW] at h;omega
    · simp only[jW,o7] at h1 h2;exact FV (by rw[h1.2] at h2 ⊢;exact h2.2.symm) (by omega)
    · simp only[jW] at h;omega
  · have h1:(cS t).2.1=0:=by rw[e1]
    have h2:(cS (List.replicate d 32++t)).2.1=0:=by rw[e2]
    have e:=ah0 (s:=s) (r:=r) hc hm;have hi:CR (oi t.length) (cL (cS t).1.op).2 (cS t).1 (cS t).1∨(cS t).1 = .zero:=by
      rcases eH with ⟨h,_⟩ | ⟨k',a',hk,h,_⟩ | ⟨_,_,_,_,h⟩
      · exact .inr (by rw[h])
      · rw[h] at h1;simp only at h1;omega
      · exact .inl h
    by_cases hf:(dg (gp s r (cS t).1)).cls=0
    · right;have hs:=Ut hc.same;rw[DN h1 hf,DN h2 (by rw[e,xN];exact hf)];refine⟨rfl,_,?_,hs,rfl⟩;show (_,mC s _,_)=_;rw[Wy hs]
    · left;rw[Io h1 hf,Io h2 (by rw[e,xN];exact hf),e];refine⟨hf,?_,?_⟩
      · simp only;rw[au.mp,ah hf]
      · rcases hi with hi | hi
        · exact(ah1 (by omega) hi).resolve_left hf
        · rw[hi,Sk] at hf;exact absurd rfl hf
end
end Go.Am
