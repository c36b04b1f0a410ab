/-
  Part 4 of the proof of JudgeTextUptoCardSaid: a logic over the model, the forms of the functions that the law reaches, and what they compute.
-/
import Derived.Test.YtkeidlpchmepkaaGreatDoorText3
set_option linter.unusedVariables false
set_option linter.unusedSimpArgs false
set_option linter.defProp false
set_option linter.unusedSectionVars false
namespace Go.Am
theorem apo {p:Int} {ws:List Word} (h:gv ws=true):(Nd.mk 3 p [] ws []).gE=true:=by
  rw[Nd.wU];simp[Nd.kind,Nd.text,Nd.names,Nd.kids,h]
theorem apq {p:Int} {ks:List Nd} (h:∀x∈ks,x.gE=true) (h0:0<ks.length):(Nd.mk 4 p [] [] ks).gE=true:=by
  rw[Nd.wU];simp[Nd.jK,Nd.kind,Nd.text,Nd.names,Nd.kids];exact⟨h0,h⟩
theorem apm {p:Int} {ks:List Nd} (h:∀x∈ks,x.mP=true):(Nd.mk 5 p [] [] ks).gE=true:=by
  rw[Nd.wU];simp[Nd.jK,Nd.kind,Nd.text,Nd.names,Nd.kids];exact h
theorem WX {n:Nd} (hk:n.kind=2) (h:n.jA=true):n.gE=true:=by rw[Nd.wU,ak hk];exact h
theorem LP {n:Nd} (hk:n.kind=1) (h:n.jA=true):n.dS=true:=by rw[Nd.qS,ak hk];exact h
theorem apl {p:Int} {c:Nd} (h:c.gE=true):(Nd.mk 7 p [] [] [c]).dS=true:=by
  rw[Nd.qS];simp[Nd.jK,Nd.kind,Nd.text,Nd.names,Nd.kids,se,h]
theorem WW {k p:Int} {ks:List Nd} (hk:k=8∨k=9) (h:∀x∈ks,x.dS=true) (h0:0<ks.length):(Nd.mk k p [] [] ks).dS=true:=by
  rw[Nd.qS]
  rcases hk with rfl | rfl
  all_goals
    simp[Nd.jK,Nd.kind,Nd.text,Nd.names,Nd.kids];exact⟨h0,h⟩
theorem ow {t:Tree} {k:Int} (hg:t.Good) (hk:t.tok.kind=k) (fw:k≠97):t.tok.text=[UInt8.ofNat k.toNat]:=by
  rcases ((vk _).1 hg).1 with ⟨h,_⟩ | ⟨_,h⟩
  · omega
  · rw[h,hk]
theorem MF {t:Tree} (hg:t.Good):t.tok.text.length≤16:=ar4 ((vk _).1 hg).1
def SW (w:Word):Nat:=w.text.length+1
def SN (n:Nd):Nat:=n.wt+1
theorem sX:Sound ab.word Word.text (fun w=>cV w.text=true) SW:=by
  intro r hg hb;obtain⟨t1,t2⟩:=ml (show (r.take 97).2.bad=none from hb);have ko:=(t1.good hg).1;refine⟨[(r.take 97).1],t1,arV t2,?_,?_⟩
  · rcases ((vk _).1 ko).1 with ⟨_,h⟩ | ⟨h,_⟩
    · exact h
    · exact absurd t2 h
  · have:=MF ko
    rw[rq];simp only[SW,ab.word];omega
theorem CE {k:Int} (hk:k=1∨k=2):Sound (ab.leaf k) Nd.cE (fun n=>n.kind=k∧n.jA=true) SN:=by
  intro r hg hb;obtain⟨seg,e1,e2,e3,e4⟩:=sX r hg hb;refine⟨seg,e1,?_,⟨rfl,?_⟩,?_⟩
  · rw[e2];simp only[ab.leaf];rw[Nd.cE,ak hk]
  · simp only[ab.leaf,Nd.jA,Nd.text,Nd.names,Nd.kids];rw[e3];rfl
  · simp only[SW] at e4;simp only[ab.leaf,SN,Nd.wt,dL,eK,dp,oD];obtain⟨t1,t2⟩:=ml (show (r.take 97).2.bad=none from hb);have hl:=MF (t1.good hg).1;have h0:26≤gX seg:=by
      obtain⟨pre,post,q1,q2,q3⟩:=e1.ex
      rcases seg with _ | ⟨t,ts⟩
      · exfalso
        obtain⟨p,q,r1,r2,r3⟩:=t1.ex
        have:r.word.2.at_=(r.take 97).2.at_:=rfl
        simp only[bw,dv,iE] at q3 r3;omega
      · simp only[gX,aP];omega
    have:r.word.1.text.length≤16:=hl
    omega
theorem atE (l:List Word):(l.map SW).sum=dL l:=rfl
theorem Y_ (l:List Nd):(l.map SN).sum=eK l:=by rw[Dv];rfl
theorem L0 {l:List Word} (h:∀w∈l,cV w.text=true):gv l=true:=jl.2 h
theorem M0 {e:Bool} {r:ab} (hg:dr r.l) (hb:(r.words e).2.bad=none) :
    ∃t,gy r (r.words e).2 [t]∧t.Good∧dV (aU [t])=[123]++gx (r.words e).1.1++[125]∧gv (r.words e).1.1=true∧dL (r.words e).1.1+26≤gX [t]:=by
  obtain⟨t,h1,U,h3,h4,h5,_⟩:=Ia (one:=ab.word) sX (k:=123) (e:=e) hg hb;have ko:=(h1.good hg).1;refine⟨t,h1,ko,?_,L0 h4,?_⟩
  · rw[AE (by rw[U];decide),h3,ow ko U (by decide),U];rfl
  · rw[atE] at h5;rw[rq];have e:dL (r.words e).1.1=dL (r.bracket (bJ ab.word) 123 e).1.1:=rfl;omega
theorem Gk {one:ab→Nd × ab} {Q:Nd→Prop} (hs:Sound one Nd.cE Q SN) {k:Int} (hk:k=40∨k=91) {e:Bool} {r:ab} (hg:dr r.l) (hb:(r.nodes one k e).2.bad=none) :
    ∃t,gy r (r.nodes one k e).2 [t]∧t.Good∧dV (aU [t])=[UInt8.ofNat k.toNat]++bW (cY (r.nodes one k e).1.1)++[UInt8.ofNat (closing k).toNat]∧(∀x∈(r.nodes one k e).1.1,Q x)∧eK (r.nodes one k e).1.1+26≤gX [t] ∧
      (e=false→0<(r.nodes one k e).1.1.length):=by
  obtain⟨t,h1,U,h3,h4,h5,h6⟩:=Ia hs (k:=k) (e:=e) hg hb;have ko:=(h1.good hg).1;refine⟨t,h1,ko,?_,h4,?_,h6⟩
  · rw[AE (by rw[U];rcases hk with rfl | rfl<;>decide),h3,ow ko U (by omega),U,yL];rfl
  · rw[Y_] at h5;rw[rq];have e:eK (r.nodes one k e).1.1=eK (r.bracket (bJ one) k e).1.1:=rfl;omega
theorem aqs:Sound ab.rule Nd.cE (fun n=>n.mP=true) SN:=by
  intro r hg hb;have bz : ((r.word.2.take 58).2.words true).2.bad=none:=hb;have l1:r.word.2.l=r.l:=r.eC 97;have l2:(r.word.2.take 58).2.l=r.l:=(ab.eC _ 58).trans l1;obtain⟨t,h1,U,h3,h4,h5⟩:=M0 (by rw[l2];exact hg) bz;obtain⟨c1,c2⟩:=ml h1.b;obtain⟨seg,e1,e2,e3,e4⟩:=sX r hg c1.b;have lr:=(c1.good (by rw[l1];exact hg)).1;refine⟨seg++[(r.word.2.take 58).1]++[t],(e1.trans c1).trans h1,?_,?_,?_⟩
  · rw[uE (by rw[c2];decide) (by rw[c2];rfl),e2,h3,ow lr c2 (by decide)];simp only[ab.rule];rw[Nd.cE];simp
  · simp only[ab.rule,Nd.mP,Nd.kind,Nd.text,Nd.names,Nd.kids];rw[e3,h4];rfl
  · simp only[ab.rule,SN,Nd.wt,eK,uA,rq];simp only[SW] at e4;simp only[rq] at h5;omega
theorem R7:∀n,Sound (ab.constant n) Nd.cE (fun m=>m.gE=true) SN
  | 0 => fun r hg hb => by
    obtain⟨seg,e1,e2,⟨e3,e5⟩,e4⟩:=CE (.inr rfl) r hg hb;refine⟨seg,e1,e2,?_,e4⟩;exact WX e3 e5
  | n + 1 => fun r hg hb => by
    simp only[ab.constant] at hb ⊢;split
    · rename_i hs;rw[ak hs] at hb;obtain⟨t,h1,U,h3,h4,h5⟩:=M0 hg hb;refine⟨[t],h1,?_,?_,?_⟩
      · rw[h3,Nd.cE];simp
      · exact apo h4
      · simp only[SN,Nd.wt,eK,dv];omega
    · rename_i hs;rw[ah hs] at hb;split
      · rename_i hs;rw[ak hs] at hb;obtain⟨t,h1,U,h3,h4,h5,h6⟩:=Gk (R7 n) (.inl rfl) hg hb;refine⟨[t],h1,?_,?_,?_⟩
        · rw[h3,Nd.cE];simp only[show (closing 40).toNat=41 from rfl];rfl
        · exact apq h4 (h6 rfl)
        · simp only[SN,Nd.wt,dL,dp,oD,dv];omega
      · rename_i hs;rw[ah hs] at hb;split
        · rename_i hs;rw[ak hs] at hb;obtain⟨t,h1,U,h3,h4,h5,h6⟩:=Gk aqs (.inr rfl) hg hb;refine⟨[t],h1,?_,?_,?_⟩
          · rw[h3,Nd.cE];simp only[show (closing 91).toNat=93 from rfl];rfl
          · exact apm h4
          · simp only[SN,Nd.wt,dL,dp,oD,dv];omega
        · rename_i hs;rw[ah hs] at hb;obtain⟨seg,e1,e2,⟨e3,e5⟩,e4⟩:=CE (.inr rfl) r hg hb;refine⟨seg,e1,e2,?_,e4⟩;exact WX e3 e5
theorem Rn (n:Nat):Sound (ab.atom n) Nd.cE (fun m=>m.mZ=true) SN:=by
  intro r hg hb;simp only[ab.atom] at hb ⊢;split
  · rename_i hs;rw[ak hs] at hb;have l1:(r.take 35).2.l=r.l:=r.eC 35;obtain⟨seg,e1,e2,e3,e4⟩:=R7 n (r.take 35).2 (by rw[l1];exact hg) hb;obtain⟨c1,c2⟩:=ml e1.b;have lr:=(c1.good hg).1;refine⟨[(r.take 35).1]++seg,c1.trans e1,?_,?_,?_⟩
    · have:=uE (t:=(r.take 35).1) (by rw[c2];decide) (by rw[c2];rfl) [] seg
      rw[gk] at this;rw[this,ow lr c2 (by decide),e2,Nd.cE];simp[aU,dV,gY,cY,n7]
    · simp only[Nd.mZ,apl e3,Nd.kind];rfl
    · simp only[SN,Nd.wt,dL,eK,dp,oD,dv,uA,rq] at e4 ⊢;omega
  · rename_i hs;rw[ah hs] at hb;obtain⟨seg,e1,e2,⟨e3,e5⟩,e4⟩:=CE (.inl rfl) r hg hb;refine⟨seg,e1,e2,?_,e4⟩;simp only[Nd.mZ,LP e3 e5,e3];rfl
theorem Eg {n:Nd} (h:n.mZ=true):n.dS=true:=by simp only[Nd.mZ,a_] at h;exact h.2
theorem F1:∀n,Sound (ab.label n) Nd.cE (fun m=>m.dS=true) SN
  | 0 => fun r hg hb => by
    obtain⟨seg,e1,e2,⟨e3,e5⟩,e4⟩:=CE (.inl rfl) r hg hb;refine⟨seg,e1,e2,?_,e4⟩;exact LP e3 e5
  | n + 1 => fun r hg hb => by
    simp only[ab.label] at hb ⊢;split
    · rename_i hs;rw[ak hs] at hb;have l1:(r.take 43).2.l=r.l:=r.eC 43;obtain⟨t,h1,U,h3,h4,h5,h6⟩:=Gk (F1 n) (.inl rfl) (by rw[l1];exact hg) hb;obtain⟨c1,c2⟩:=ml h1.b;have lr:=(c1.good hg).1;refine⟨[(r.take 43).1]++[t],c1.trans h1,?_,?_,?_⟩
      · have:=uE (t:=(r.take 43).1) (by rw[c2];decide) (by rw[c2];rfl) [] [t]
        rw[gk] at this;rw[this,ow lr c2 (by decide),h3,Nd.cE];simp only[show (closing 40).toNat=41 from rfl];rfl
      · exact WW (.inl rfl) h4 (h6 rfl)
      · simp only[SN,Nd.wt,dL,dp,oD,dv,uA,rq] at h5 ⊢;omega
    · rename_i hs;rw[ah hs] at hb;split
      · rename_i hs;rw[ak hs] at hb;have l1:(r.take 38).2.l=r.l:=r.eC 38;obtain⟨t,h1,U,h3,h4,h5,h6⟩:=Gk (F1 n) (.inl rfl) (by rw[l1];exact hg) hb;obtain⟨c1,c2⟩:=ml h1.b;have lr:=(c1.good hg).1;refine⟨[(r.take 38).1]++[t],c1.trans h1,?_,?_,?_⟩
        · have:=uE (t:=(r.take 38).1) (by rw[c2];decide) (by rw[c2];rfl) [] [t]
          rw[gk] at this;rw[this,ow lr c2 (by decide),h3,Nd.cE];simp only[show (closing 40).toNat=41 from rfl];rfl
        · exact WW (.inr rfl) h4 (h6 rfl)
        · simp only[SN,Nd.wt,dL,dp,oD,dv,uA,rq] at h5 ⊢;omega
      · rename_i hs;rw[ah hs] at hb;obtain⟨seg,e1,e2,e3,e4⟩:=Rn (n+1) r hg hb;exact⟨seg,e1,e2,Eg e3,e4⟩
theorem ae0 (n:Nat):Sound (ab.field n) Nd.cE (fun m=>m.kh=true) SN:=by
  intro r hg hb;have bz : ((r.word.2.take 61).2.atom n).2.bad=none:=hb;have l1:r.word.2.l=r.l:=r.eC 97;have l2:(r.word.2.take 61).2.l=r.l:=(ab.eC _ 61).trans l1;obtain⟨sg,h1,U,h3,h4⟩:=Rn n (r.word.2.take 61).2 (by rw[l2];exact hg) bz;obtain⟨c1,c2⟩:=ml h1.b;obtain⟨seg,e1,e2,e3,e4⟩:=sX r hg c1.b;have lr:=(c1.good (by rw[l1];exact hg)).1;refine⟨seg++[(r.word.2.take 61).1]++sg,(e1.trans c1).trans h1,?_,?_,?_⟩
  · rw[uE (by rw[c2];decide) (by rw[c2];rfl),e2,U,ow lr c2 (by decide)];simp only[ab.field];rw[Nd.cE];simp[cY,n7]
  · simp only[ab.field,Nd.kh,Nd.kind,Nd.text,Nd.names,Nd.kids,se];rw[e3,h3];rfl
  · simp only[ab.field,SN,Nd.wt,eK,dL,dp,oD,uA,rq] at h4 ⊢;simp only[SW] at e4;omega
theorem apn {p:Int} {ws:List Word} {ks:List Nd} (h1:ws.length≤1) (U:gv ws=true) (h3:∀x∈ks,x.kh=true):(Nd.mk 10 p [] ws ks).h_=true:=by
  unfold Nd.h_;simp[Nd.kind,Nd.text,Nd.names,Nd.kids,U];exact⟨aD (by omega),h3⟩
theorem UO (t:Tree):gy t.inner t.inner []:=⟨⟨[],t.kids,rfl,rfl,rfl⟩,rfl,rfl,rfl⟩
theorem SI {n:Nat} {t:Tree} (hg:dr t.kids) {a:ab × List Nd} (ha:a=if t.inner.sees 124=true then (t.inner,[]) else da (bJ (ab.field n)) t.inner) (hb:a.1.bad=none) :
    ∃seg,gy t.inner a.1 seg∧dV (aU seg)=bW (cY a.2)∧(∀x∈a.2,x.kh=true)∧eK a.2≤gX seg:=by
  split at ha
  · subst ha;exact⟨[],UO t,rfl,by simp,by simp[eK]⟩
  · subst ha;obtain⟨seg,e1,e2⟩:=Yh (ae0 n) (r:=t.inner) hg hb;refine⟨seg,e1,?_,e2.q,?_⟩
    · rw[e2.t,yL]
    · have:=e2.s;rwa [Y_] at this
theorem aqb {n:Nat} {t:Tree} (hg:dr t.kids) (hb:(ab.rowOf n t).1.1.bad=none) :
    ∃seg,gy t.inner (ab.rowOf n t).1.1 seg∧dV (aU seg)=bW (cY (ab.rowOf n t).1.2)++(if 0<(ab.rowOf n t).2.length then [124]++gx (ab.rowOf n t).2 else []) ∧
      (∀x∈(ab.rowOf n t).1.2,x.kh=true)∧(ab.rowOf n t).2.length≤1∧gv (ab.rowOf n t).2=true∧eK (ab.rowOf n t).1.2+dL (ab.rowOf n t).2≤gX seg:=by
  unfold ab.rowOf at hb ⊢;split
  · exact⟨[],UO t,rfl,by simp,by simp,rfl,by simp[eK,dL]⟩
  rename_i aI;rw[ah aI] at hb;unfold ab.lI at hb ⊢;simp only at hb ⊢;generalize ha:(if t.inner.sees 124=true then (t.inner,[]) else da (bJ (ab.field n)) t.inner)=a at hb ⊢;split
  · rename_i hs;rw[ak hs] at hb;have hba:a.1.bad=none:=by
      simp only[ab.sees,ab.ok,a_,Bc] at hs;exact hs.1
    obtain⟨seg,e1,e2,e3,e4⟩:=SI hg ha.symm hba;have l1:a.1.l=t.inner.l:=e1.l;have l2:(a.1.take 124).2.l=t.inner.l:=(ab.eC _ 124).trans l1;obtain⟨sw,w1,w2,w3,w4⟩:=sX (a.1.take 124).2 (by rw[l2];exact hg) hb;obtain⟨c1,c2⟩:=ml w1.b;have lr:=(c1.good (by rw[l1];exact hg)).1;refine⟨seg++[(a.1.take 124).1]++sw,(e1.trans c1).trans w1,?_,e3,by simp,?_,?_⟩
    · rw[uE (by rw[c2];decide) (by rw[c2];rfl),e2,ow lr c2 (by decide),w2];simp[gx,bW]
    · simp only[gv,rG,Nm,s4];exact w3
    · simp only[uA,rq,dL,bC,dp,mr,oD];simp only[SW] at w4;omega
  · rename_i hs;rw[ah hs] at hb;obtain⟨seg,e1,e2,e3,e4⟩:=SI hg ha.symm hb;exact⟨seg,e1,by simpa using e2,e3,by simp,rfl,by simpa [dL] using e4⟩
theorem Xh (n:Nat):Sound (ab.row n) Nd.cE (fun m=>m.h_=true) SN:=by
  intro r hg hb;simp only[ab.row] at hb ⊢;split
  · rename_i hs;rw[ak hs] at hb;have fG:(r.take 91).2.bad=none:=by
      rcases r.rr 91 with ⟨_,_,h,_⟩ | ⟨h,_⟩
      · exact h
      · rw[hs] at h;simp at h
    obtain⟨c1,c2⟩:=ml fG;have lr:=(c1.good hg).1;have tS:dr (r.take 91).1.kids:=((vk _).1 lr).2.2;have dg:(ab.rowOf n (r.take 91).1).1.1.close.bad=none:=hb;obtain⟨seg,e1,e2,e3,e4,e5,e6⟩:=aqb (n:=n) tS (Ik dg).1;have Kd:=Q5 e1 dg;subst Kd;refine⟨[(r.take 91).1],⟨c1.ex,c1.l,c1.b,hb⟩,?_,apn e4 e5 e3,?_⟩
    · rw[AE (by rw[c2];decide),ow lr c2 (by decide),c2,e2,Nd.cE];simp only[show (closing 91).toNat=93 from rfl];simp
    · simp only[SN,Nd.wt,rq,dv];omega
  · rename_i hs;rw[ah hs] at hb;obtain⟨seg,e1,e2,⟨e3,e5⟩,e4⟩:=CE (.inl rfl) r hg hb;refine⟨seg,e1,e2,?_,e4⟩
    have:=LP e3 e5
    show (r.leaf 1).1.h_=true;unfold Nd.h_;rw[e3,this];rfl
abbrev Sh:=Int × List UInt8
def Tok.sh (t:Tok):Sh:=(t.kind,t.text)
def bl (c:UInt8):Sh:=((c.toNat:Nat),[c])
def eH (t:List UInt8):Sh:=(97,t)
def dw:List (List Sh)→List Sh
  | []=>[]
  | x::xs=>x++xs.flatMap fun y=>bl 44::y
def Fi:List (List Sh)→List Sh
  | []=>[]
  | x::_=>x
def j7 (ws:List Word):List Sh:=dw (ws.map fun w=>[eH w.text])
mutual
def Nd.fB:Nd→List Sh
  | .mk k _ t ws ks =>
    if k=1∨k=2 then [eH t]
    else if k=3 then [bl 123]++j7 ws++[bl 125]
    else if k=4 then [bl 40]++dw (fC ks)++[bl 41]
    else if k=5 then [bl 91]++dw (fC ks)++[bl 93]
    else if k=6 then [eH t]++[bl 58]++([bl 123]++j7 ws++[bl 125])
    else if k=7 then [bl 35]++Fi (fC ks)
    else if k=8 then [bl 43]++([bl 40]++dw (fC ks)++[bl 41])
    else if k=9 then [bl 38]++([bl 40]++dw (fC ks)++[bl 41])
    else if k=10 then [bl 91]++(dw (fC ks)++(if 0<ws.length then [bl 124]++j7 ws else []))++[bl 93]
    else if k=11 then [eH t]++[bl 61]++Fi (fC ks)
    else []
def fC:List Nd→List (List Sh)
  | []=>[]
  | n::ns=>n.fB::fC ns
end
theorem C9:∀l,fC l=l.map Nd.fB
  | []=>rfl
  | n::ns=>by simp[fC,C9 ns]
def kM (s:List UInt8) (ks:List Sh):Prop:=∀(n p:Nat) (acc:List Tok),s.length≤n→∃toks,d_ n p s acc=(acc++toks,none)∧toks.map Tok.sh=ks
def Stop:List UInt8→Prop
  | []=>True
  | c::_=>fR c=false
theorem lex_nil:kM [] []:=fun n p acc _=>⟨[],by cases n<;>simp[d_],rfl⟩
theorem GR {c:UInt8} {s:List UInt8} (h:fR c=false):ei (c::s)=[]:=by simp[ei,h]
theorem Vm {c:UInt8} (h1:lf (c.toNat:Nat)=true) (U:fR c=false) (h3:c.toNat≠45) {s:List UInt8} {ks:List Sh} (h:kM s ks):kM ([c]++s) ([bl c]++ks):=by
  intro n p acc hn
  rcases n with _ | n
  · simp at hn
  obtain⟨toks,e1,e2⟩:=h n (p+1) (acc++[⟨(c.toNat:Nat),[c],p⟩]) (by simpa using hn);refine⟨⟨(c.toNat:Nat),[c],p⟩::toks,?_,by simp[Tok.sh,bl,e2]⟩;rw[lT,d_];rw[ah (fun h=>h3 h.1),GR U,ah (by simp),ak h1,e1];simp
theorem Yw {α:Type} {f:α→Bool}:∀{t s:List α},t.all f=true→(∀c r,s=c::r→f c=false)→(t++s).takeWhile f=t
  | [], s, _, h => by
    cases s with
    | nil=>rfl
    | cons c r=>simp[h c r rfl]
  | x :: t, s, ht, h => by
    simp only[rG,a_] at ht;simp[ht.1,Yw ht.2 h]
theorem amr {t:List UInt8} (h:cV t=true):t.all fR=true∧(∃c r,t=c::r∧sF c=true):=by
  unfold cV at h
  rcases t with _ | ⟨c,r⟩
  · simp at h
  · simp only[a_] at h;refine⟨?_,c,r,rfl,h.2.1⟩;simp only[rG,a_];refine⟨?_,h.2.2⟩
    have:=h.2.1
    simp only[sF,fR,vO,sb] at this ⊢
    simp_all
theorem Vk {t:List UInt8} (ht:cV t=true) {s:List UInt8} {ks:List Sh} (hs:Stop s) (h:kM s ks):kM (t++s) ([eH t]++ks):=by
  intro n p acc hn;obtain⟨b8,c,r,rfl,hc⟩:=amr ht
  rcases n with _ | n
  · simp at hn
  have cn:ei (c::r++s)=c::r:=Yw b8 fun c' r' e=>by subst e;exact hs
  obtain⟨toks,e1,e2⟩:=h n (p+(c::r).length) (acc++[⟨97,c::r,p⟩]) (by simp at hn ⊢;omega);refine⟨⟨97,c::r,p⟩::toks,?_,by simp[Tok.sh,eH,e2]⟩;have EY:c.toNat≠45:=fun e=>by
    simp only[sF,vO,e] at hc;revert hc;decide
  rw[fN] at cn ⊢;rw[d_,ah (fun h=>EY h.1),cn,ak ⟨by simp,ht⟩];rw[show (c::(r++s)).drop (c::r).length=s by rw[←fN,List.drop_left],e1];simp
def iQ (tx:List UInt8) (sh:List Sh):Prop:=∀s ks,Stop s→kM s ks→kM (tx++s) (sh++ks)
def oA (tx:List UInt8) (sh:List Sh):Prop:=∀s ks,kM s ks→kM (tx++s) (sh++ks)
theorem oA.n {t:List UInt8} {k:List Sh} (h:oA t k):iQ t k:=fun s ks _ hl=>h s ks hl
theorem sG (c:UInt8) (h:(lf (c.toNat:Nat)&&!fR c&&decide (c.toNat≠45))=true):oA [c] [bl c]:=fun _ _ hl=>by
  simp only[a_,rD,bH] at h;exact Vm h.1.1 h.1.2 h.2 hl
theorem ug {t:List UInt8} (h:cV t=true):iQ t [eH t]:=fun _ _ hs hl=>Vk h hs hl
theorem oA.app {a b:List UInt8} {x y:List Sh} (h:oA a x) (k:oA b y):oA (a++b) (x++y):=fun s ks hl=>by
  rw[dt,dt];exact h _ _ (k _ _ hl)
theorem iQ.sign {a:List UInt8} {c:UInt8} {x:List Sh} (h:iQ a x) (hc:(lf (c.toNat:Nat)&&!fR c&&decide (c.toNat≠45))=true):oA (a++[c]) (x++[bl c]):=fun s ks hl=>by
  rw[dt,dt]
  have:=hc
  simp only[a_,rD,bH] at this;exact h _ _ this.1.2 (sG c hc _ _ hl)
theorem oA.nn {a b:List UInt8} {x y:List Sh} (h:oA a x) (k:iQ b y):iQ (a++b) (x++y):=fun s ks hs hl=>by
  rw[dt,dt];exact h _ _ (k _ _ hs hl)
theorem Vo {β:Type} {T:β→List UInt8} {S:β→List Sh}:∀{l:List β},(∀x∈l,iQ (T x) (S x))→∀s ks,Stop s→kM s ks→Stop ((l.map T).flatMap (fun y=>44::y)++s)∧kM ((l.map T).flatMap (fun y=>44::y)++s) ((l.map S).flatMap (fun y=>bl 44::y)++ks)
  | [],_,s,ks,hs,hl=>⟨hs,hl⟩
  | x :: xs, h, s, ks, hs, hl => by
    obtain⟨h1,U⟩:=Vo (l:=xs) (fun y hy=>h y (by simp[hy])) s ks hs hl;simp only[bC,nQ,dt,fN];refine⟨rfl,?_⟩;exact sG 44 (by decide) _ _ (h x (by simp) _ _ h1 U)
theorem Ga {β:Type} {T:β→List UInt8} {S:β→List Sh} {l:List β} (h:∀x∈l,iQ (T x) (S x)):iQ (bW (l.map T)) (dw (l.map S)):=by
  intro s ks hs hl;cases l with
  | nil=>exact hl
  | cons x xs =>
    obtain⟨h1,U⟩:=Vo (l:=xs) (fun y hy=>h y (by simp[hy])) s ks hs hl;simp only[bC,bW,dw,dt];exact h x (by simp) _ _ h1 U
theorem KT {ws:List Word} (h:gv ws=true):iQ (gx ws) (j7 ws):=Ga (T:=Word.text) (S:=fun w=>[eH w.text]) fun w hw=>ug (jl.1 h w hw)
theorem KS {ws:List Word} (h:gv ws=true):oA ([123]++gx ws++[125]) ([bl 123]++j7 ws++[bl 125]):=iQ.sign ((sG 123 (by decide)).nn (KT h)) (by decide)
theorem KR {a b:UInt8} {ks:List Nd} (ha:(lf (a.toNat:Nat)&&!fR a&&decide (a.toNat≠45))=true) (hb:(lf (b.toNat:Nat)&&!fR b&&decide (b.toNat≠45))=true) (h:∀n∈ks,iQ n.cE n.fB) :
    oA ([a]++bW (cY ks)++[b]) ([bl a]++dw (fC ks)++[bl b]):=by
  rw[yL,C9];exact iQ.sign ((sG a ha).nn (Ga h)) hb
theorem Nd.ru (n:Nd):n.cE=if n.kind=1∨n.kind=2 then n.text else if n.kind=3 then [123]++gx n.names++[125] else if n.kind=4 then [40]++bW (cY n.kids)++[41] else if n.kind=5 then [91]++bW (cY n.kids)++[93]
    else if n.kind=6 then n.text++[58,123]++gx n.names++[125] else if n.kind=7 then [35]++n7 (cY n.kids) else if n.kind=8 then [43,40]++bW (cY n.kids)++[41] else if n.kind=9 then [38,40]++bW (cY n.kids)++[41]
    else if n.kind=10 then ([91]++bW (cY n.kids))++(if 0<n.names.length then [124]++gx n.names else [])++[93] else if n.kind=11 then n.text++[61]++n7 (cY n.kids) else []:=by cases n;rw[Nd.cE];rfl
theorem Nd.jf (n:Nd):n.fB=if n.kind=1∨n.kind=2 then [eH n.text] else if n.kind=3 then [bl 123]++j7 n.names++[bl 125] else if n.kind=4 then [bl 40]++dw (fC n.kids)++[bl 41] else if n.kind=5 then [bl 91]++dw (fC n.kids)++[bl 93]
    else if n.kind=6 then [eH n.text]++[bl 58]++([bl 123]++j7 n.names++[bl 125]) else if n.kind=7 then [bl 35]++Fi (fC n.kids) else if n.kind=8 then [bl 43]++([bl 40]++dw (fC n.kids)++[bl 41]) else if n.kind=9 then [bl 38]++([bl 40]++dw (fC n.kids)++[bl 41])
    else if n.kind=10 then [bl 91]++(dw (fC n.kids)++(if 0<n.names.length then [bl 124]++j7 n.names else []))++[bl 93] else if n.kind=11 then [eH n.text]++[bl 61]++Fi (fC n.kids) else []:=by cases n;rw[Nd.fB];rfl
theorem FW {n m:Nd} (hm:m∈n.kids):m.wt+5≤n.wt:=by
  have h1:=Hk hm;have U:eK n.kids+4≤n.wt:=by cases n;simp only[Nd.wt,Nd.kids];omega
  omega
def Lx (n:Nd):Prop:=iQ n.cE n.fB
theorem VG {n:Nd} (hk:n.kind=1∨n.kind=2) (h:n.jA=true):Lx n:=by
  unfold Lx;rw[Nd.ru,Nd.jf,ak hk,ak hk];simp only[Nd.jA,a_] at h;exact ug h.1
theorem Xo {n:Nd} (h:n.mP=true):n.kind=6∧cV n.text=true∧gv n.names=true∧n.kids=[]:=by
  simp only[Nd.mP,a_,bH] at h;exact⟨h.1.1.1,h.1.1.2,h.1.2,iD.1 (by omega)⟩
theorem al7 {n:Nd} (h:n.mP=true):Lx n:=by
  obtain⟨k,h1,U,_⟩:=Xo h;unfold Lx;rw[Nd.ru,Nd.jf];simp only[k,show ¬((6:Int)=1∨(6:Int)=2) by omega,show ¬(6:Int)=3 by omega,show ¬(6:Int)=4 by omega,show ¬(6:Int)=5 by omega,bP,b7];have e:n.text++[58,123]++gx n.names++[125]=(n.text++[58])++([123]++gx n.names++[125]):=by simp
  rw[e];exact(((ug h1).sign (by decide)).app (KS U)).n
theorem R6 {n:Nd} (h:n.gE=true):(n.kind=2∧n.jA=true)∨(n.kind=3∧n.text=[]∧gv n.names=true∧n.kids=[])∨(n.kind=4∧n.text=[]∧n.names=[]∧n.kids≠[]∧∀x∈n.kids,x.gE=true)∨(n.kind=5∧n.text=[]∧n.names=[]∧∀x∈n.kids,x.mP=true):=by
  rw[Nd.wU] at h;split at h
  · rename_i k;exact .inl ⟨k,h⟩
  split at h
  · rename_i k;simp only[a_,bH] at h;exact .inr (.inl ⟨k,h.1.1,h.1.2,iD.1 (by omega)⟩)
  split at h
  · rename_i k;simp only[Nd.jK,a_,bH] at h;exact .inr (.inr (.inl ⟨k,h.1.1.1,iD.1 (by omega),fun e=>by rw[e] at h;simp at h,jl.1 h.2⟩))
  split at h
  · rename_i k;simp only[Nd.jK,a_,bH] at h;exact .inr (.inr (.inr ⟨k,h.1.1,iD.1 (by omega),jl.1 h.2⟩))
  · simp at h
theorem al4:∀(k:Nat) (n:Nd),n.wt≤k→n.gE=true→Lx n:=by
  intro k;induction k with
  | zero=>intro n h _;cases n;simp only[Nd.wt] at h;omega
  | succ k ih =>
    intro n hk h
    rcases R6 h with ⟨h1,U⟩ | ⟨h1,_,U,_⟩ | ⟨h1,_,_,_,U⟩ | ⟨h1,_,_,U⟩
    · exact VG (.inr h1) U
    · unfold Lx;rw[Nd.ru,Nd.jf,h1];exact(KS U).n
    · unfold Lx;rw[Nd.ru,Nd.jf,h1];exact(KR (by decide) (by decide) fun m hm=>ih m (by have:=FW hm;omega) (U m hm)).n
    · unfold Lx;rw[Nd.ru,Nd.jf,h1];exact(KR (by decide) (by decide) fun m hm=>al7 (U m hm)).n
theorem CD {n:Nd} (h:n.dS=true):(n.kind=1∧n.jA=true)∨(n.kind=7∧n.text=[]∧n.names=[]∧∃c,n.kids=[c]∧c.gE=true)∨((n.kind=8∨n.kind=9)∧n.text=[]∧n.names=[]∧n.kids≠[]∧∀x∈n.kids,x.dS=true):=by
  rw[Nd.qS] at h;split at h
  · rename_i k;exact .inl ⟨k,h⟩
  split at h
  · rename_i k;simp only[Nd.jK,a_,bH] at h;refine .inr (.inl ⟨k,h.1.1.1,iD.1 (by omega),?_⟩)
    match hq:n.kids,h.1.2 with
    | [c],_=>exact⟨c,rfl,by have:=h.2;rw[hq] at this;exact this⟩
    | [],e=>simp at e
    | _::_::_,e=>simp at e;omega
  split at h
  · rename_i k;simp only[Nd.jK,a_,bH] at h;exact .inr (.inr ⟨k,h.1.1.1,iD.1 (by omega),fun e=>by rw[e] at h;simp at h,jl.1 h.2⟩)
  · simp at h
theorem K6:∀(k:Nat) (n:Nd),n.wt≤k→n.dS=true→Lx n:=by
  intro k;induction k with
  | zero=>intro n h _;cases n;simp only[Nd.wt] at h;omega
  | succ k ih =>
    intro n hk h
    rcases CD h with ⟨h1,U⟩ | ⟨h1,_,_,c,U,h3⟩ | ⟨h1,_,_,_,U⟩
    · exact VG (.inl h1) U
    · unfold Lx;rw[Nd.ru,Nd.jf,h1,U];exact(sG 35 (by decide)).nn (al4 _ c (bt _) h3)
    · have dx:=KR (a:=40) (b:=41) (by decide) (by decide) fun m hm=>ih m (by have:=FW hm;omega) (U m hm)
      unfold Lx;rw[Nd.ru,Nd.jf]
      rcases h1 with h1 | h1
      · rw[h1];exact((sG 43 (by decide)).app dx).n
      · rw[h1];exact((sG 38 (by decide)).app dx).n
theorem EH {n:Nd} (h:n.kh=true):n.kind=11∧cV n.text=true∧n.names=[]∧∃c,n.kids=[c]∧c.mZ=true:=by
  simp only[Nd.kh,a_,bH] at h;refine⟨h.1.1.1.1,h.1.1.1.2,iD.1 (by omega),?_⟩
  match hq:n.kids,h.1.2 with
  | [c],_=>exact⟨c,rfl,by have:=h.2;rw[hq] at this;exact this⟩
  | [],e=>simp at e
  | _::_::_,e=>simp at e;omega
theorem al5 {n:Nd} (h:n.kh=true):Lx n:=by
  obtain⟨k,h1,_,c,U,h3⟩:=EH h;unfold Lx;rw[Nd.ru,Nd.jf,k,U];exact((ug h1).sign (by decide)).nn (K6 _ c (bt _) (Eg h3))
theorem C5 {n:Nd} (h:n.h_=true):(n.kind=10∧n.text=[]∧(n.names=[]∨∃w,n.names=[w]∧cV w.text=true)∧∀x∈n.kids,x.kh=true)∨(n.kind=1∧n.dS=true):=by
  unfold Nd.h_ at h;split at h
  · rename_i k;simp only[a_,bH] at h;refine .inl ⟨k,h.1.1.1,?_,jl.1 h.2⟩
    match hq:n.names,h.1.1.2 with
    | [],_=>exact .inl rfl
    | [w],_=>exact .inr ⟨w,rfl,by have:=h.1.2;rw[hq] at this;simpa [gv] using this⟩
    | _::_::_,e=>simp at e;omega
  · simp only[a_,bH] at h;exact .inr h
theorem al6 {n:Nd} (h:n.h_=true):Lx n:=by
  rcases C5 h with ⟨k,_,hn,hf⟩ | ⟨_,h⟩
  · have hk:iQ (bW (cY n.kids)) (dw (fC n.kids)):=by rw[yL,C9];exact Ga fun m hm=>al5 (hf m hm)
    unfold Lx;rw[Nd.ru,Nd.jf,k]
    rcases hn with hn | ⟨w,hn,hw⟩
    · rw[hn];have e1:([91]:List UInt8)++bW (cY n.kids)++[]=[91]++bW (cY n.kids):=by simp
      have e2:[bl 91]++(dw (fC n.kids)++[])++[bl 93]=[bl 91]++dw (fC n.kids)++[bl 93]:=by simp
      show iQ (([91]++bW (cY n.kids))++[]++[93]) ([bl 91]++(dw (fC n.kids)++[])++[bl 93]);rw[e1,e2];exact(((sG 91 (by decide)).nn hk).sign (by decide)).n
    · rw[hn];have e1:(([91]:List UInt8)++bW (cY n.kids))++([124]++gx [w])++[93]=(([91]++bW (cY n.kids))++[124])++(gx [w]++[93]):=by simp
      have e2:[bl 91]++(dw (fC n.kids)++([bl 124]++j7 [w]))++[bl 93]=(([bl 91]++dw (fC n.kids))++[bl 124])++(j7 [w]++[bl 93]):=by simp
      show iQ (([91]++bW (cY n.kids))++([124]++gx [w])++[93]) ([bl 91]++(dw (fC n.kids)++([bl 124]++j7 [w]))++[bl 93]);rw[e1,e2];exact((((sG 91 (by decide)).nn hk).sign (by decide)).app ((KT (by simp[gv,hw])).sign (by decide))).n
  · exact K6 _ n (bt _) h
mutual
def Tree.WF:Tree→Prop
  | .mk t ks e=>jN t.kind=false∧(closing t.kind=0→ks=[]∧e=t.pos)∧ec ks
def ec:List Tree→Prop
  | []=>True
  | t::ts=>t.WF∧ec ts
end
theorem iS:∀{a b:List Tree},ec (a++b)↔ec a∧ec b
  | [],b=>by simp[ec]
  | t::ts,b=>by simp only[fN,ec,iS (a:=ts),H0]
theorem x_ {a r:List Tok} {t:Tok}:dJ (a++t::r) a.length=t.kind:=by simp[dJ]
theorem YC {a r:List Tok} {t:Tok}:ia (a++t::r) a.length=t:=by simp[ia]
theorem WI {a r:List Tok} {t:Tok}:om (a++t::r) a.length=t.pos:=by simp[om]
theorem RJ {c:Int} (h:closing c≠0):jN (closing c)=true∧closing (closing c)=0:=by
  have:c=40∨c=123∨c=91:=by
    unfold closing at h;split at h
    · rename_i k;exact .inl k
    · split at h
      · rename_i k;exact .inr k
      · exact absurd rfl h
  rcases this with rfl | rfl | rfl<;>decide
theorem SR (t:Tree) (ts:List Tree):aU (t::ts)=t.flat++aU ts:=rfl
theorem Ej {l:List Tok} {x:Nat}:∀(k:Nat) (us:List Tree) (a b:List Tok) (n:Nat) (d:Int),aP us≤k→ec us→l=a++aU us++b→1≤d→iy l x (n+(aU us).length) a.length d=iy l x n (a++aU us).length d
  | _,[],a,b,n,d,_,_,_,_=>by simp[aU]
  | 0,t::ts,a,b,n,d,h,_,_,_=>by simp[aP] at h
  | k + 1, .mk t ks e :: ts, a, b, n, d, h, hw, hl, hd => by
    simp only[aP,Tree.many] at h;obtain⟨⟨w1,w2,w3⟩,w4⟩:=hw;rw[SR] at hl ⊢
    by_cases hc:closing t.kind=0
    · have ef:(Tree.mk t ks e).flat=[t]:=by simp[Tree.flat,hc]
      rw[ef] at hl ⊢;have hk:dJ l a.length=t.kind:=by rw[hl];simp only[dt,fN];exact x_
      have Fc:delta l a.length=0:=by unfold delta;rw[hk,hc,w1];simp
      rw[show n+([t]++aU ts).length=(n+(aU ts).length)+1 by simp;omega,q_,Fc,ah (by omega),Int.add_zero]
      have:=Ej (l:=l) (x:=x) k ts (a++[t]) b n d (by omega) w4 (by rw[hl];simp) hd
      rw[show (a++[t]).length=a.length+1 by simp] at this;rw[this];simp
    · have ef:(Tree.mk t ks e).flat=t::(aU ks++[⟨closing t.kind,[UInt8.ofNat (closing t.kind).toNat],e⟩]):=by simp[Tree.flat,hc]
      generalize fW:(⟨closing t.kind,[UInt8.ofNat (closing t.kind).toNat],e⟩:Tok)=c at ef;have B3:c.kind=closing t.kind:=by rw[←fW]
      obtain⟨c1,c2⟩:=RJ hc;rw[ef] at hl ⊢;have hk:dJ l a.length=t.kind:=by rw[hl];simp only[dt,fN];exact x_
      have JC:delta l a.length=1:=Bw (by rw[hk];exact hc);have pY:dJ l (a++[t]++aU ks).length=c.kind:=by
        rw[hl]
        have:a++(t::(aU ks++[c])++aU ts)++b=(a++[t]++aU ks)++c::(aU ts++b):=by simp
        rw[this];exact x_
      have JD:delta l (a++[t]++aU ks).length = -1:=by unfold delta;rw[pY,B3,c2,c1];simp
      rw[show n+(t::(aU ks++[c])++aU ts).length=((n+(aU ts).length+1)+(aU ks).length)+1 by simp;omega,q_,JC,ah (by omega)];have h1:=Ej (l:=l) (x:=x) k ks (a++[t]) ([c]++aU ts++b) (n+(aU ts).length+1) (d+1) (by omega) w3 (by rw[hl];simp) (by omega);rw[show (a++[t]).length=a.length+1 by simp] at h1;rw[h1,q_,JD,ah (by omega),show d+1 + -1=d by omega];have U:=Ej (l:=l) (x:=x) k ts (a++[t]++aU ks++[c]) b n d (by omega) w4 (by rw[hl];simp) hd;rw[show (a++[t]++aU ks++[c]).length=(a++[t]++aU ks).length+1 by simp;omega] at U;rw[U];simp
theorem aou {l:List Tok} {t c:Tok} {ks:List Tree} {a b:List Tok} (hl:l=a++[t]++aU ks++c::b) (hw:ec ks) (hc:closing t.kind≠0) (B3:c.kind=closing t.kind):partner l a.length=(a++[t]++aU ks).length:=by
  obtain⟨c1,c2⟩:=RJ hc;have hk:dJ l a.length=t.kind:=by rw[hl];simp only[dt,lT];exact x_
  have JC:delta l a.length=1:=Bw (by rw[hk];exact hc);have pY:dJ l (a++[t]++aU ks).length=c.kind:=by rw[hl];exact x_
  have JD:delta l (a++[t]++aU ks).length = -1:=by unfold delta;rw[pY,B3,c2,c1];simp
  unfold partner;rw[show l.length - a.length=((b.length+1)+(aU ks).length)+1 by rw[hl];simp;omega,q_,JC,ah (by omega)];have h1:=Ej (l:=l) (x:=a.length) _ ks (a++[t]) (c::b) (b.length+1) (0+1) (bt _) hw hl (by omega);rw[show (a++[t]).length=a.length+1 by simp] at h1;rw[h1,q_,JD,ak (by omega)]
theorem G_ {l:List Tok}:∀(k:Nat) (us:List Tree) (a b:List Tok) (n:Nat),aP us≤k→ec us→l=a++aU us++b→(aU us).length≤n→mn l n a.length (a.length+(aU us).length)=us
  | _,[],a,b,n,_,_,_,_=>by cases n<;>simp[aU,mn]
  | 0,t::ts,a,b,n,h,_,_,_=>by simp[aP] at h
  | k + 1, .mk t ks e :: ts, a, b, n, h, hw, hl, hn => by
    simp only[aP,Tree.many] at h;obtain⟨⟨w1,w2,w3⟩,w4⟩:=hw;rw[SR] at hl hn ⊢
    by_cases hc:closing t.kind=0
    · have ef:(Tree.mk t ks e).flat=[t]:=by simp[Tree.flat,hc]
      obtain⟨w5,w6⟩:=w2 hc;rw[ef] at hl hn ⊢;have fH : l=a++t::(aU ts++b):=by rw[hl];simp
      have hk:dJ l a.length=t.kind:=by rw[fH];exact x_
      have ht:ia l a.length=t:=by rw[fH];exact YC
      have hp:om l a.length=t.pos:=by rw[fH];exact WI
      simp only[bw,iE] at hn ⊢;obtain⟨m,rfl⟩:∃m,n=m+1:=⟨n - 1,by omega⟩;rw[mn,ak (by omega),ah (by rw[hk];simpa using hc),ht,hp]
      have:=G_ (l:=l) k ts (a++[t]) b m (by omega) w4 (by rw[hl];simp) (by omega)
      rw[show (a++[t]).length=a.length+1 by simp,show a.length+1+(aU ts).length=a.length+(1+(aU ts).length) by omega] at this;rw[this,w5,w6]
    · have ef:(Tree.mk t ks e).flat=t::(aU ks++[⟨closing t.kind,[UInt8.ofNat (closing t.kind).toNat],e⟩]):=by simp[Tree.flat,hc]
      generalize fW:(⟨closing t.kind,[UInt8.ofNat (closing t.kind).toNat],e⟩:Tok)=c at ef;have B3:c.kind=closing t.kind:=by rw[←fW]
      have qI:c.pos=e:=by rw[←fW]
      rw[ef] at hl hn ⊢;have zO:l=a++t::(aU ks++[c]++aU ts++b):=by rw[hl];simp
      have jQ:l=a++[t]++aU ks++c::(aU ts++b):=by rw[hl];simp
      have hk:dJ l a.length=t.kind:=by rw[zO];exact x_
      have ht:ia l a.length=t:=by rw[zO];exact YC
      have Cg:=aou jQ w3 hc B3;have hp:om l (a++[t]++aU ks).length=e:=by rw[←qI,jQ];exact WI
      simp only[bw,cG,dv] at hn;obtain⟨m,rfl⟩:∃m,n=m+1:=⟨n - 1,by omega⟩;rw[mn,ak (by simp),ak (by rw[hk];exact hc),ht,Cg,hp];have h1:=G_ (l:=l) k ks (a++[t]) (c::(aU ts++b)) m (by omega) w3 jQ (by omega);have U:=G_ (l:=l) k ts (a++[t]++aU ks++[c]) b m (by omega) w4 (by rw[hl];simp) (by omega);have e1:(a++[t]++aU ks).length=(a++[t]).length+(aU ks).length:=bw;have e2:a.length+1=(a++[t]).length:=by simp
      have e3:(a++[t]).length+(aU ks).length+1=(a++[t]++aU ks++[c]).length:=by simp only[bw,iE]
      have e4:a.length+(t::(aU ks++[c])++aU ts).length=(a++[t]++aU ks++[c]).length+(aU ts).length:=by simp only[bw,cG,dv];omega
      rw[e1,e2,h1,e3,e4,U]
theorem YD {us:List Tree} (hw:ec us) (h:(gf (aU us)).2=none):(gf (aU us)).1=us:=by
  unfold gf at h ⊢;split
  · rename_i h0;rw[ak h0] at h;simp at h
  · have:=G_ (l:=aU us) _ us [] [] (aU us).length (bt _) hw (by simp) (bt _)
    simpa using this
def fe:List Tok→List (Tok × List Tree)→List Tree→List Tree × Option Int
  | [],op,row=>match op.getLast? with | some (t,_)=>([],some t.pos) | none=>(row,none)
  | t :: ts, op, row =>
    if closing t.kind≠0 then (if 24≤op.length then ([],some t.pos) else fe ts (op++[(t,row)]) [])
    else if jN t.kind=true then
      match op.getLast? with
      | none=>([],some t.pos)
      | some (u,ahead)=>if closing u.kind=t.kind then fe ts op.dropLast (ahead++[.mk u row t.pos]) else ([],some t.pos)
    else fe ts op (row++[.mk t [] t.pos])
def Tk.ok (cC σ:ae) (n:Nat):Tk→Prop
  | .full=>True
  | .tk τ=>cC.aC τ=none∧σ.aC τ=some n
  | .no=>False
def Tk.name:Tk→Option Nat
  | .tk τ=>some τ
  | _=>none
def im (cC σ:ae) (L:List (Tk × Nat)):Prop:=cC.sub σ∧(∀p∈L,p.1.ok cC σ p.2)∧(L.filterMap fun p=>p.1.name).Nodup
theorem im.init {σ:ae} {L:List (Tk × Nat)} (h:∀p∈L,p.1 = .full):im σ σ L:=by
  refine⟨ae.aW σ,fun p hp=>by rw[h p hp];trivial,?_⟩
  have:L.filterMap (fun p=>p.1.name)=[]:=by
    rw[List.filterMap_eq_nil_iff];intro p hp;rw[h p hp];rfl
  rw[this];exact List.nodup_nil
theorem im.perm {cC σ:ae} {L L' : List (Tk × Nat)} (h:im cC σ L) (hp:L.Perm L'):im cC σ L' :=
  ⟨h.1,fun p hm=>h.2.1 p (hp.mem_iff.2 hm),(hp.filterMap _).nodup_iff.1 h.2.2⟩
theorem im.tail {cC σ:ae} {p:Tk × Nat} {L:List (Tk × Nat)} (h:im cC σ (p::L)):im cC σ L:=by
  refine⟨h.1,fun q hq=>h.2.1 q (by simp[hq]),?_⟩
  have:=h.2.2
  simp only[HK] at this;split at this
  · exact this
  · exact(ND.1 this).2
theorem im.full {cC σ:ae} {n:Nat} {L:List (Tk × Nat)} (h:im cC σ L):im cC σ ((.full,n)::L) :=
  ⟨h.1,fun q hq=>by rcases j_.1 hq with rfl | hq;exact trivial;exact h.2.1 q hq,by simpa [HK,Tk.name] using h.2.2⟩
theorem im.put {cC σ:ae} {tk:Tk} {n m τ:Nat} {L:List (Tk × Nat)} (h:im cC σ ((tk,n)::L)) (h0:cC.aC τ=none) (ht:tk = .tk τ∨σ.aC τ=none):im cC (σ.aL τ m) ((.tk τ,m)::L):=by
  have Ue:τ∉L.filterMap fun p=>p.1.name:=fun hm=>by
    obtain⟨⟨t,k⟩,hq,hn⟩:=NB.1 hm;cases t with
    | no=>simp[Tk.name] at hn
    | full=>simp[Tk.name] at hn
    | tk υ =>
      simp only[Tk.name,aH] at hn;subst hn
      rcases ht with rfl | ht
      · have:=h.2.2
        simp only[HK,Tk.name] at this;exact(ND.1 this).1 hm
      · have:=(h.2.1 (.tk υ,k) (by simp[hq])).2
        rw[ht] at this;simp at this
  refine⟨⟨h.1.1,fun t k hk=>?_,h.1.2.2⟩,fun p hp=>?_,?_⟩
  · have aI:t≠τ:=by rintro rfl;rw[h0] at hk;simp at hk
    simp only[ae.aL,ah aI];exact h.1.2.1 t k hk
  · rcases j_.1 hp with rfl | Ui
    · exact⟨h0,by simp[ae.aL]⟩
    · have:=h.2.1 p (by simp[Ui])
      obtain⟨t,k⟩:=p;cases t with
      | no=>exact this
      | full=>trivial
      | tk υ =>
        have aI:υ≠τ:=by rintro rfl;exact Ue (NB.2 ⟨(.tk υ,k),Ui,rfl⟩)
        exact⟨this.1,by simp only[ae.aL,ah aI];exact this.2⟩
  · simp only[HK,Tk.name];exact ND.2 ⟨Ue,h.tail.2.2⟩
theorem im.fresh {cC σ:ae} {L:List (Tk × Nat)} (h:im cC σ L) {τ:Nat} (ht:σ.aC τ=none):cC.aC τ=none:=by
  cases hq:cC.aC τ with
  | none=>rfl
  | some n=>rw[h.1.2.1 τ n hq] at ht;simp at ht
theorem H4 {cC σ:ae} {tk u:Tk} {k:Nat} {m n:List (List V)} {K:V→ae→Prop} {L:List (Tk × Nat)} (h:im cC σ ((tk,m.length)::L)) (hb:m.length+n.length≤aF)
    (hk:∀τ,im cC (σ.aL τ (m.length+n.length)) ((.tk τ,m.length+n.length)::L)→K (.sl (.tk τ) k (m++n)) (σ.aL τ (m.length+n.length))):nN σ k (.sl tk k m) (.sl u k n) K:=by
  have hh:=h.2.1 (tk,m.length) (by simp);cases tk with
  | no=>exact hh.elim
  | full=>exact H5 hb fun τ bh=>hk τ (h.put (h.fresh bh) (.inr bh))
  | tk τ=>exact ke hb hh.2 (hk τ (h.put hh.1 (.inl rfl)))
theorem aoa {σ:ae} {H:V→ae→Prop} {k:Nat} {cs:List V}:OQ.aM σ H (.kx k) [.agg cs]=(cs.length=k∧bm cs=true∧bE cs=true∧H (.sl .full k [cs]) σ):=by
  simp only[OQ.aM,KD,vL,V.wd,V.cells,aH]
  by_cases h:cs.length=k∧bm cs=true∧bE cs=true
  · rw[ak h];simp[h]
  · rw[ah h];simp;intro h1 U h3;exact absurd ⟨h1,U,h3⟩ h
theorem ari {k:Nat} {τ:Tk} {m:List (List V)} {j j' : IntKind} {b:Nat} {H:V→Prop} (U:b≤m.length) (h:H (.sl .full k (m.take b))):C_ k (.sl τ k m) none (some (.int j b)) (some (.int j' b)) H:=.inl ⟨τ,m,0,b,rfl,rO _,U,rfl,⟨j,rfl⟩,⟨j',rfl⟩,h⟩
structure ag where
  op:Int
  pos:Int
  name:Word
  names:List Word
  aV:List (Word × Word)
  lG:Int
  left:Nd
  right:Nd
def ag.zero:ag:=⟨0,0,⟨[],0⟩,[],[],0,.zero,.zero⟩
def dT (p:Word × Word):List V:=[.str p.1.text,.int .i64 p.1.pos,.str p.2.text,.int .i64 p.2.pos]
def ag.cp (c:ag) (pc:V):List V:=[.int .i64 c.op,.int .i64 c.pos,.str c.name.text,.int .i64 c.name.pos,.sl .no 2 (c.names.map Word.enc),pc,.int .i64 c.lG,
  .int .i64 c.left.kind,.int .i64 c.left.pos,.str c.left.text,.sl .no 2 (c.left.names.map Word.enc),.sl .no 5 (c.left.kids.map Nd.enc),.int .i64 c.right.kind,.int .i64 c.right.pos,.str c.right.text,.sl .no 2 (c.right.names.map Word.enc),.sl .no 5 (c.right.kids.map Nd.enc)]
def oi:List (Word × Word)→V
  | []=>.sl .full 4 []
  | p::ps=>.sl .no 4 ((p::ps).map dT)
def ag.enc (c:ag):List V:=c.cp (.sl .no 4 (c.aV.map dT))
def iU:List (List UInt8 × List UInt8) :=
  [([],[]),([99,104,97,105,110],[110,119]),([112,111,119,101,114],[110,119]),([112,114,111,100,117,99,116],[110,119]),([103,114,105,100],[110,119,112]),([116,97,98,108,101],[110,119,112]),([108,97,98,101,108],[110,119]),([114,111,119],[110,119]),([108,101,113],[110,116,116]),([114,111,119,101,113],[110,114,114]),([108,97,99,107,115],[110,102]),([112,117,115,104],[]),([112,111,112],[]),([99,104,101,99,107],[]),([99,111,114,101],[]),([119,104,121],[110])]
def fQ:List V:=(iU.map fun p=>[V.str p.1,V.str p.2]).flatten
def bT (op:Int):List UInt8 × List UInt8:=if 0≤op∧op<16 then iU.getD op.toNat ([],[]) else ([],[])
def mc (w:List UInt8):Nat→Nat→Int
  | 0,_=>0
  | n+1,op=>if 0<op∧(bT op).1=w then op else mc w n (op+1)
def gM (w:List UInt8):Int:=mc w 16 0
def ab.fp:Nat→ab→List (Word × Word)→ab × List (Word × Word)
  | 0,i,acc=>(i,acc)
  | n + 1, i, acc =>
    if i.bad≠none then (i,acc)
    else
      if ((i.word.2.take 60).2.word).2.at_=i.l.length then (((i.word.2.take 60).2.word).2,acc++[(i.word.1,((i.word.2.take 60).2.word).1)])
      else fp n (((i.word.2.take 60).2.word).2.take 44).2 (acc++[(i.word.1,((i.word.2.take 60).2.word).1)])
def ab.rU (r:ab) (b:Option Int):ab:=match b with | some a=>{r with bad:=some a} | none=>r
def mN (r:ab) (c:ag):ab × ag :=
  let t:=(r.take 123).1
  let r1:=(r.take 123).2
  if r1.bad≠none∨t.kids.length=0 then (r1,{c with lG:=t.tok.pos})
  else (r1.rU (t.inner.fp (t.kids.length+1) []).1.bad,{c with lG:=t.tok.pos,aV:=(t.inner.fp (t.kids.length+1) []).2})
def gW (r:ab) (c:ag) (g:Nd × Int × Option Int):ab × ag :=
  match g.2.2 with
  | some a=>({r with bad:=some a},c)
  | none=>({r with at_:=g.2.1},if c.left.kind=0 then {c with left:=g.1} else {c with right:=g.1})
def cB (letter:UInt8) (x:ab × ag):ab × ag :=
  if x.1.bad≠none then x
  else if letter=110 then (x.1.word.2,{x.2 with name:=x.1.word.1})
  else if letter=102 then (x.1.word.2,{x.2 with names:=[x.1.word.1]})
  else if letter=119 then ({x.1 with bad:=(ib x.1.l x.1.at_ x.1.fin).2,at_:=x.1.at_+1},{x.2 with names:=(ib x.1.l x.1.at_ x.1.fin).1})
  else if letter=112 then mN x.1 x.2
  else if letter=116 then gW x.1 x.2 (eh (ab.label (aP x.1.l)) x.1.l x.1.at_ x.1.fin)
  else if letter=114 then gW x.1 x.2 (eh (ab.row (aP x.1.l)) x.1.l x.1.at_ x.1.fin)
  else x
def gq:List UInt8→ab × ag→ab × ag
  | [],x=>x
  | k::ks,x=>gq ks (cB k x)
def tB (x:ab × ag):ag × Int × Int :=
  match (if x.1.bad=none∧x.1.at_<x.1.l.length then x.1.fail else x.1).bad with
  | some a=>(.zero,2,a)
  | none=>(x.2,0,0)
def qA (l:List Tree) (fin:Int):ag × Int × Int :=
  match l with
  | []=>(.zero,0,0)
  | t :: _ =>
    let w:=(⟨l,0,fin,none⟩:ab).word
    if gM w.1.text=0 then (.zero,2,t.tok.pos)
    else tB (gq (bT (gM w.1.text)).2 (w.2,{ag.zero with op:=gM w.1.text,pos:=w.1.pos}))
def cO (s:List UInt8):ag × Int × Int :=
  match (c_ s).2 with
  | some a=>(.zero,1,a)
  | none => match (fe (c_ s).1 [] []).2 with
    | some a=>(.zero,2,a)
    | none=>qA (fe (c_ s).1 [] []).1 s.length
structure iR (l:List Tree) (fin:Int) (x:ab × ag):Prop where
  hl:x.1.l=l
  hf:x.1.fin=fin
  ge:0≤x.1.at_
  le:x.1.at_≤(l.length:Int)+1
  ok:x.1.bad=none→x.1.at_≤(l.length:Int)
theorem aeJ (r:ab):r.fail.fin=r.fin:=by unfold ab.fail;split<;>rfl
theorem Df (r:ab) (k:Int):(r.take k).2.fin=r.fin:=by
  unfold ab.take;split
  · rfl
  · exact aeJ r
theorem aiC (n:Nat) (r:ab):j9 r (r.row n).2:=by
  unfold ab.row;split
  · rename_i hs;have h:=qF r 91;have hb:(r.take 91).2.bad=none:=by
      rcases r.rr 91 with ⟨_,_,hb,_,_⟩ | ⟨h',_⟩
      · exact hb
      · rw[hs] at h';simp at h'
    exact⟨h.1,fun h1 U=>by
      obtain⟨p1,p2,p3⟩:=h.2 h1 U;exact⟨p1,p2,fun _=>p3 hb⟩⟩
  · exact BM r 1
theorem iR.goes {l:List Tree} {fin:Int} {x:ab × ag} {r:ab} {c:ag} (h:iR l fin x) (hb:x.1.bad=none) (g:j9 x.1 r) (hf:r.fin=x.1.fin):iR l fin (r,c):=by
  obtain⟨h1,U,h3,h4,h5⟩:=h;have h5:=h5 hb;obtain⟨g1,g2⟩:=g;rw[h1] at g2;have g2:=g2 h3 (by omega);exact⟨g1.trans h1,hf.trans U,by simp only;omega,by simp only;omega,fun _=>by simp only;omega⟩
theorem iR.bad {l:List Tree} {fin:Int} {r:ab} {c c' : ag} {a:Int} (h:iR l fin (r,c)):iR l fin ({r with bad:=some a},c'):=⟨h.hl,h.hf,h.ge,h.le,fun h=>by simp at h⟩
theorem V2 {l:List Tree} {fin:Int} {r:ab} {c:ag} {one:ab→Nd × ab} (h:iR l fin (r,c)) (hb:r.bad=none) (ho:∀r,j9 r (one r).2):iR l fin (gW r c (eh one r.l r.at_ r.fin)):=by
  unfold gW eh;have he:(⟨r.l,r.at_,r.fin,none⟩:ab)=r:=by cases r;simp only at hb;subst hb;rfl
  rw[he];cases hq:(one r).2.bad with
  | some a=>exact h.bad
  | none =>
    obtain⟨g1,g2⟩:=ho r;have h5:=h.ok hb;have h3:=h.ge;have h1:=h.hl;simp only at h5 h3 h1;rw[h1] at g2;have g2:=g2 h3 h5;exact⟨h.hl,h.hf,by simp only;omega,by simp only;omega,fun _=>by simp only;omega⟩
theorem aog {l:List Tree} {fin:Int} {r:ab} {c:ag} (h:iR l fin (r,c)) (hb:r.bad=none):iR l fin (mN r c):=by
  have h1:∀c',iR l fin ((r.take 123).2,c'):=fun c' => iR.goes (x:=(r,c)) h hb (qF r 123) (Df r 123)
  unfold mN;simp only;split
  · exact h1 _
  · unfold ab.rU;split
    · exact(h1 c).bad
    · exact h1 _
theorem Wq {l:List Tree} {fin:Int} {x:ab × ag} (h:iR l fin x) (k:UInt8):iR l fin (cB k x):=by
  obtain⟨r,c⟩:=x;unfold cB;simp only;split
  · exact h
  rename_i hb;have hb:r.bad=none:=by simpa using hb
  split
  · exact iR.goes (x:=(r,c)) h hb (vj r) (Df r 97)
  split
  · exact iR.goes (x:=(r,c)) h hb (vj r) (Df r 97)
  split
  · have h5:=h.ok hb;have h3:=h.ge;simp only at h5 h3;refine⟨h.hl,h.hf,by simp only;omega,by simp only;omega,fun hn=>?_⟩;have he:(⟨r.l,r.at_,r.fin,none⟩:ab)=r:=by cases r;simp only at hb;subst hb;rfl
    simp only[ib,he] at hn;cases hq:(r.words false).2.bad with
    | some a=>rw[hq] at hn;simp at hn
    | none =>
      obtain⟨g1,g2⟩:=I3 r false;have h1:=h.hl;simp only at h1;rw[h1] at g2
      have:=(g2 h3 h5)
      have:=this.2.2 hq
      simp only;omega
  split
  · exact aog h hb
  split
  · exact V2 h hb (I2 _)
  split
  · exact V2 h hb (aiC _)
  · exact h
theorem Wu:∀(ks:List UInt8) (k:UInt8) (x:ab × ag),gq (ks++[k]) x=cB k (gq ks x)
  | [],_,_=>rfl
  | _::ks,k,x=>Wu ks k _
theorem Lz {l:List Tree} {fin:Int}:∀(ks:List UInt8) {x:ab × ag},iR l fin x→iR l fin (gq ks x)
  | [],_,h=>h
  | k::ks,_,h=>Lz ks (Wq h k)
theorem Wr {k:UInt8} {x:ab × ag} (h:k≠112∨x.1.bad≠none):(cB k x).2.aV=x.2.aV:=by
  unfold cB;split
  · rfl
  rename_i hb;have hb:x.1.bad=none:=by simpa using hb
  have hk:k≠112:=by rcases h with h | h;exact h;exact absurd hb h
  split
  · rfl
  split
  · rfl
  split
  · rfl
  have hn:∀g,(gW x.1 x.2 g).2.aV=x.2.aV:=fun g=>by
    unfold gW;split
    · rfl
    · simp only;split<;>rfl
  split
  · exact hn _
  split
  · exact hn _
  · rfl
theorem Wt:∀(ks:List UInt8) {x:ab × ag},(∀k∈ks,k≠112)→(gq ks x).2.aV=x.2.aV
  | [],_,_=>rfl
  | k::ks,x,h=>(Wt ks fun j hj=>h j (by simp[hj])).trans (Wr (.inl (h k (by simp))))
theorem ah0 (op:Int) (i:Nat) (h:(bT op).2[i]?=some 112):∀k∈(bT op).2.take i,k≠112:=by
  unfold bT at h ⊢;split at h
  · rename_i h1;rw[ak h1];have aj:op.toNat<16:=by omega
    generalize op.toNat=n at h aj ⊢;have key:∀n<16,∀i<3,(iU.getD n ([],[])).2[i]?=some 112→∀k∈(iU.getD n ([],[])).2.take i,k≠112:=by decide
    have hl:∀n<16,(iU.getD n ([],[])).2.length≤3:=by decide
    have:=(dD.1 h).1
    exact key n aj i (by have:=hl n aj;omega) h
  · simp at h
theorem IW (op:Int):∀c∈(bT op).2,c.toNat<128:=by
  unfold bT;split
  · rename_i h1;have aj:op.toNat<16:=by omega
    generalize op.toNat=n at aj ⊢;have key:∀n<16,∀c∈(iU.getD n ([],[])).2,c.toNat<128:=by decide
    exact key n aj
  · simp
def gg (s:au) (lat:Int) (t:List UInt8) (p kind:Int):List aA :=
  match jq s.vars t with
  | none=>if (iI s.bj t).isNone then [⟨3,p⟩] else [⟨4,p⟩]
  | some v => match s.vars[v]? with
    | some x=>if x.kind≠kind∨(0≤lat∧x.lat≠lat) then [⟨4,p⟩] else []
    | none=>[]
def fy (s:au) (w:Word):List aA:=if (iI s.bj w.text).isNone then (if (jq s.vars w.text).isNone then [⟨3,w.pos⟩] else [⟨4,w.pos⟩]) else []
def tA (s:au) (lat:Int) (n:Nd):Option Int:=(gF (sQ s lat.toNat) (n.kids.getD 0 ja)).2
def wY (s:au) (lat:Int) (n:Nd):List aA:=if 0<n.kids.length∧0≤lat then (match tA s lat n with | some p=>[⟨4,p⟩] | none=>[]) else []
def jm (s:au) (lat:Int) (n:Nd):List aA:=if n.kind=1 then gg s lat n.text n.pos 1 else if n.kind=7 then wY s lat n else []
mutual
def eG (s:au) (lat:Int):Nd→List aA
  | .mk k p t ws ks=>jm s lat (.mk k p t ws ks)++if k=1∨k=7 then [] else vM s lat ks
def vM (s:au) (lat:Int):List Nd→List aA
  | []=>[]
  | n::ns=>eG s lat n++vM s lat ns
end
theorem KI {s:au} {lat:Int}:∀{l:List Nd},vM s lat l=l.flatMap (eG s lat)
  | []=>by simp[vM]
  | n::ns=>by simp[vM,KI]
theorem FY {s:au} {lat:Int} (n:Nd):eG s lat n=jm s lat n++if n.kind=1∨n.kind=7 then [] else n.kids.flatMap (eG s lat):=by
  cases n;rw[eG,KI];rfl
def r7 (ks:List Nd) (i:Nat):List aA:=if (gn ((ks.take i).map Nd.text) (ks.getD i ja).text).isSome then [⟨4,(ks.getD i ja).pos⟩] else []
def xd (s:au) (lat:Int) (ks:List Nd) (i:Nat):List aA:=r7 ks i++(ks.getD i ja).kids.flatMap (jm s lat)
def mC (s:au) (lat:Int) (ks:List Nd) (m:Nat):List aA:=(List.range m).flatMap (xd s lat ks)
def uB (s:au) (lat:Int) (ws:List Word):List aA:=ws.flatMap fun w=>gg s lat w.text w.pos 2
def mg (s:au) (lat p:Int) (n:Nd):List aA :=
  if n.kind=1 then gg s lat n.text n.pos 2 else if n.kind=10 then mC s lat n.kids n.kids.length++uB s lat n.names++(if 16<n.kids.length then [⟨7,p⟩] else []) else []
def ca (s:au) (c:ag):Int:=cF (iI s.bj c.name.text)
def u7 (n:Nd):List aA:=if n.kind=8∨n.kind=9 then [⟨6,n.pos⟩] else []
def oP (s:au) (c:ag):List aA :=
  if c.op=10 then gg s (-1) c.name.text c.name.pos 2
  else if c.op=15 then gg s (-1) c.name.text c.name.pos 1
  else if c.op=8 then fy s c.name++eG s (ca s c) c.left++eG s (ca s c) c.right++u7 c.right
  else if c.op=9 then fy s c.name++mg s (ca s c) c.pos c.left++mg s (ca s c) c.pos c.right
  else []
def jo (s:au) (c:ag):aA:=fz (oP s c)
def qx (a b:List aA):Prop:=∀f:aA,f.cls≠0→(f∈a↔f∈b)
theorem qx.refl (a:List aA):qx a a:=fun _ _=>Iff.rfl
theorem qx.app {a b c d:List aA} (h:qx a b) (k:qx c d):qx (a++c) (b++d):=fun f hf=>by rw[il,il,h f hf,k f hf]
theorem qx.flat {α:Type} {f g:α→List aA}:∀{l:List α},(∀x∈l,qx (f x) (g x))→qx (l.flatMap f) (l.flatMap g)
  | [],_=>qx.refl _
  | x::l,h=>by rw[nQ,nQ];exact(h x (by simp)).app (qx.flat fun y hy=>h y (by simp[hy]))
section
variable {s:au} {lat:Int}
end
def mq (τ:Nat) (l:List aA) (s:au) (lat p:Int):List V:=[.sl (.tk τ) 2 (l.map aA.enc),.sl .no 3 (s.bj.map dX.enc),.sl .no 3 (s.vars.map df.enc),.int .i64 lat,.int .i64 p]
def ch (σ:ae) (b τ:Nat) (l:List aA) (s:au) (lat p:Int):ae:=(σ.set b (mq τ l s lat p)).aL τ l.length
section
variable {σ:ae} {b b' τ n:Nat} {l:List aA} {s:au} {lat KK p x y:Int} {c:List V}
theorem Hj:(ch σ b τ l s lat p).box b=some (mq τ l s lat p):=by simp[ch,ae.set,ae.aL]
theorem yP (h:b' ≠ b):(ch σ b τ l s lat p).box b' = σ.box b' := by simp[ch,ae.set,ae.aL,h]
theorem M4:(ch σ b τ l s lat p).aC τ=some l.length:=by simp[ch,ae.set,ae.aL]
theorem Y6 (h:b' ≠ b):(ch σ b τ l s lat p).set b' c=ch (σ.set b' c) b τ l s lat p:=by
  simp only[ch,ae.set,ae.aL,ae.mk.injEq,fO];funext z
  by_cases h1:z=b'
  · subst h1;simp[h]
  · simp[h1]
theorem aty:(ch σ b τ l s lat p).set b [.sl (.tk τ) 2 (l.map aA.enc),.sl .no 3 (s.bj.map dX.enc),.sl .no 3 (s.vars.map df.enc),.int .i64 x,.int .i64 p]=ch σ b τ l s x p:=by
  simp only[ch,mq,ae.set,ae.aL,ae.mk.injEq,fO];funext z
  by_cases h1:z=b<;>simp[h1]
theorem atx:((ch σ b τ l s lat p).aL τ (l.length+1)).set b [.sl (.tk τ) 2 (l.map aA.enc++[[.int .i64 x,.int .i64 y]]),.sl .no 3 (s.bj.map dX.enc),.sl .no 3 (s.vars.map df.enc),.int .i64 lat,.int .i64 p]=ch σ b τ (l++[⟨x,y⟩]) s lat p:=by
  simp only[ch,mq,ae.set,ae.aL,ae.mk.injEq,fE,bC,dp,aA.enc,bw,iE,fO];constructor
  · funext z
    by_cases h1:z=b<;>simp[h1]
  · funext z
    by_cases h1:z=τ<;>simp[h1]
theorem atz (h:σ.box b=none) (ht:σ.aC τ=none):σ.sub (ch σ b τ l s lat p):=by
  refine⟨fun x cs hx=>?_,fun t m hm=>?_,fun _ _ h=>h⟩
  · have:x≠b:=by rintro rfl;rw[h] at hx;simp at hx
    rw[yP this];exact hx
  · have:t≠τ:=by rintro rfl;rw[ht] at hm;simp at hm
    simp[ch,ae.set,ae.aL,this];exact hm
theorem Y5 (h:b' ≠ b) (hn:σ.box b' = none):(ch σ b τ l s lat p).sub (ch (σ.set b' c) b τ l s lat p):=by
  refine⟨fun x cs hx=>?_,fun t m hm=>?_,fun _ _ h=>h⟩
  · by_cases h1:x=b
    · subst h1;rw[Hj] at hx ⊢;exact hx
    · rw[yP h1] at hx ⊢
      have:x≠b' := by rintro rfl;rw[hn] at hx;simp at hx
      simp only[ae.set,this,bP];exact hx
  · simpa [ch,ae.set,ae.aL] using hm
theorem w_f:bf false 1 (mq τ l s lat p)=some (.sl (.tk τ) 2 (l.map aA.enc)):=rfl
theorem w_s:takeN 2 ((mq τ l s lat p).drop 1)=some s.enc:=rfl
theorem w_l:bf false 1 ((mq τ l s lat p).drop 1)=some (.sl .no 3 (s.bj.map dX.enc)):=rfl
theorem w_v:bf false 1 ((mq τ l s lat p).drop 2)=some (.sl .no 3 (s.vars.map df.enc)):=rfl
theorem w_t:bf false 1 ((mq τ l s lat p).drop 3)=some (.int .i64 lat):=rfl
theorem w_p:bf false 1 ((mq τ l s lat p).drop 4)=some (.int .i64 p):=rfl
theorem w_h:bI 1 (mq τ l s lat p)=true:=rfl
theorem asG:bI 1 ((mq τ l s lat p).drop 3)=true:=rfl
theorem w_o {v:V}:over (mq τ l s lat p) [v]=[v,.sl .no 3 (s.bj.map dX.enc),.sl .no 3 (s.vars.map df.enc),.int .i64 lat,.int .i64 p]:=rfl
theorem asJ {v:V}:setAt (mq τ l s lat p) 3 [v]=[.sl (.tk τ) 2 (l.map aA.enc),.sl .no 3 (s.bj.map dX.enc),.sl .no 3 (s.vars.map df.enc),v,.int .i64 p]:=rfl
theorem wq {w:Word}:bf false 1 w.enc=some (.str w.text):=rfl
theorem qu {w:Word}:bf false 1 (w.enc.drop 1)=some (.int .i64 w.pos):=rfl
theorem w_b {u v x y:V}:over [u,v,x,y] s.enc=[.sl .no 3 (s.bj.map dX.enc),.sl .no 3 (s.vars.map df.enc),x,y]:=rfl
def iB:=And.intro @w_b <| And.intro @wq <| And.intro @qu <| And.intro @Hj <| And.intro @M4 <| And.intro @w_f <| And.intro @w_s <| And.intro @w_l <| And.intro @w_v <| And.intro @w_t <| And.intro @w_p <| And.intro @w_h <| And.intro @asG <| And.intro @w_o @asJ
end
theorem Y7 {σ:ae} {b τ υ n:Nat} {l:List aA} {s:au} {lat p:Int} (h:υ≠τ):(ch σ b τ l s lat p).aL υ n=ch (σ.aL υ n) b τ l s lat p:=by
  simp only[ch,ae.set,ae.aL,ae.mk.injEq,nL,fO];funext z
  by_cases h1:z=υ
  · subst h1;simp[h]
  · simp[h1]
theorem Y4 {σ σ' : ae} {b τ:Nat} {l:List aA} {s:au} {lat p:Int} (h:σ.sub σ'):(ch σ b τ l s lat p).sub (ch σ' b τ l s lat p):=by
  refine⟨fun x cs hx=>?_,fun t m hm=>?_,h.2.2⟩
  · by_cases h1:x=b
    · subst h1;rw[Hj] at hx ⊢;exact hx
    · rw[yP h1] at hx ⊢;exact h.1 x cs hx
  · simp only[ch,ae.set,ae.aL] at hm ⊢;split
    · rename_i e;rw[ak e] at hm;exact hm
    · rename_i e;rw[ah e] at hm;exact h.2.1 t m hm
structure Ah (σ σ' : ae) (τ:Nat) (tk:Tk) (n:Nat):Prop where
  box:σ'.box=σ.box
  sub:σ.sub σ'
  tk:tk = .full∨∃υ,tk = .tk υ∧υ≠τ∧σ'.aC υ=some n∧σ.aC υ=none
theorem Ah.nil {σ:ae} {τ:Nat}:Ah σ σ τ .full 0:=⟨rfl,ae.aW σ,.inl rfl⟩
theorem Ah.app {σ σ' : ae} {b τ k:Nat} {tk u:Tk} {l:List aA} {s:au} {lat p:Int} {m e:List (List V)} {K:V→ae→Prop} (h:Ah σ σ' τ tk m.length) (hb:m.length+e.length≤aF)
    (hk:∀jI wx,Ah σ wx τ jI (m++e).length→K (.sl jI k (m++e)) (ch wx b τ l s lat p)):nN (ch σ' b τ l s lat p) k (.sl tk k m) (.sl u k e) K:=by
  have hl:(m++e).length=m.length+e.length:=bw;have up:∀υ n,σ'.aC υ=none∨σ.aC υ=none→σ.sub (σ'.aL υ n):=fun υ n hn=>⟨fun x cs hx=>h.sub.1 x cs hx,fun t q hq=>by
    have aI:t≠υ:=by
      rintro rfl
      rcases hn with hn | hn
      · rw[h.sub.2.1 _ _ hq] at hn;simp at hn
      · rw[hq] at hn;simp at hn
    simp only[ae.aL,ah aI];exact h.sub.2.1 t q hq,h.sub.2.2⟩
  rcases h.tk with rfl | ⟨υ,rfl,aI,ht,h0⟩
  · refine H5 hb fun υ qh=>?_
    have aI:υ≠τ:=by rintro rfl;rw[M4] at qh;simp at qh
    have Kq : σ'.aC υ=none:=by simpa [ch,ae.set,ae.aL,aI] using qh
    rw[Y7 aI];refine hk _ _ ⟨h.box,up υ _ (.inl Kq),.inr ⟨υ,rfl,aI,by rw[hl];simp[ae.aL],?_⟩⟩;cases hq:σ.aC υ with
    | none=>rfl
    | some n=>rw[h.sub.2.1 _ _ hq] at Kq;simp at Kq
  · refine ke hb (by simpa [ch,ae.set,ae.aL,aI] using ht) ?_;rw[Y7 aI];exact hk _ _ ⟨h.box,up υ _ (.inr h0),.inr ⟨υ,rfl,aI,by rw[hl];simp[ae.aL],h0⟩⟩
section
variable {s:au} {lat:Int}
theorem AK {t:List UInt8} {p k:Int}:(gg s lat t p k).length≤1:=by
  unfold gg;split
  · split<;>simp
  · split
    · split<;>simp
    · simp
theorem akN {w:Word}:(fy s w).length≤1:=by unfold fy;split;(split<;>simp);simp
theorem Ee {n:Nd}:(jm s lat n).length≤1:=by
  unfold jm;split
  · exact AK
  · split
    · unfold wY;split
      · cases tA s lat n<;>simp
      · simp
    · simp
mutual
theorem KF:∀n:Nd,(eG s lat n).length≤n.bS
  | .mk k p t ws ks => by
    have h1:=@Ee s lat (.mk k p t ws ks);have U:=KH ks;rw[eG,bw,Nd.bS];split
    · simp;omega
    · omega
theorem KH:∀l:List Nd,(vM s lat l).length≤fv l
  | []=>by simp[vM]
  | n :: ns => by
    have:=KF n;have:=KH ns
    rw[vM,bw,fv];omega
end
theorem RT:∀{l:List Nd} {i:Nat} (hi:i<l.length),fv (l.take i)+l[i].bS≤fv l
  | [],i,hi=>by simp at hi
  | n::ns,0,_=>by simp[fv]
  | n :: ns, i + 1, hi => by
    have:=RT (l:=ns) (i:=i) (by simpa using hi)
    simp only[oE,fv,A9];omega
theorem akL {l:List Nd} {i:Nat} (hi:i<l.length):((l.take i).flatMap (eG s lat)).length+l[i].bS≤fv l:=by
  have h1:=@KH s lat (l.take i);rw[KI] at h1
  have:=RT hi
  omega
theorem BF {α:Type} {f:α→List aA} {m:Nat}:∀{l:List α},(∀x∈l,(f x).length≤m)→(l.flatMap f).length≤l.length*m
  | [],_=>by simp
  | x :: l, h => by
    have:=h x (by simp)
    have:=BF (m:=m) (l:=l) fun y hy=>h y (by simp[hy])
    rw[nQ,bw,cG,gP,uT];omega
theorem IQ {α:Type} {f:α→List aA} {l:List α} {i:Nat} (hi:i<l.length):(l.take (i+1)).flatMap f=(l.take i).flatMap f++f l[i]:=by
  rw[kP hi,wC];simp
theorem Mz {ws:List Word}:(uB s lat ws).length≤ws.length:=by
  have:=BF (f:=fun w:Word=>gg s lat w.text w.pos 2) (m:=1) (l:=ws) fun _ _=>AK
  rw[pJ] at this;exact this
theorem ae' {ks:List Nd} {i:Nat}:(xd s lat ks i).length≤1+(ks.getD i ja).kids.length:=by
  have:=BF (f:=jm s lat) (m:=1) (l:=(ks.getD i ja).kids) fun _ _=>Ee
  have U:(r7 ks i).length≤1:=by unfold r7;split<;>simp
  rw[xd,bw];omega
theorem SV {ks:List Nd} {m:Nat}:mC s lat ks (m+1)=mC s lat ks m++xd s lat ks m:=by
  simp only[mC,rK,wC,nQ,List.flatMap_nil,dn]
theorem RR:∀{l:List Nd} {i:Nat} (hi:i<l.length),fv (l.take (i+1))=fv (l.take i)+l[i].bS
  | [],i,hi=>by simp at hi
  | n::ns,0,_=>by simp[fv]
  | n :: ns, i + 1, hi => by
    have:=RR (l:=ns) (i:=i) (by simpa using hi)
    simp only[oE,fv,A9] at this ⊢;omega
theorem IU {ks:List Nd}:∀{m:Nat},m≤ks.length→(mC s lat ks m).length≤fv (ks.take m)
  | 0,_=>by simp[mC]
  | m + 1, hm => by
    have h1:=IU (ks:=ks) (m:=m) (by omega);have U:=@ae' s lat ks m;have h3:=Nd.qB ks[m];have h4:=Ip ks[m].kids;rw[oX (by omega)] at U;rw[SV,bw,RR (by omega)];omega
theorem Xb {p:Int} {n:Nd}:(mg s lat p n).length≤2*n.bS+2:=by
  have B':=Nd.qB n;have hnc:=Bs n;have h1:=IU (s:=s) (lat:=lat) (bt n.kids.length);have U:=RS n.kids n.kids.length;have h3:=@Mz s lat n.names;have h4:=@AK s lat n.text n.pos 2;unfold mg;split
  · omega
  · split
    · simp only[bw]
      have:(if 16<n.kids.length then [(⟨7,p⟩:aA)] else []).length≤1:=by split<;>simp
      omega
    · simp
end
def qU (kind:Int) (l:List Tree) (a fin:Int):bK :=
  if a8 l a 97=true then ⟨.mk kind (eJ l a).pos (eJ l a).text [] [],a+1,false,0⟩ else db l a fin
def yv (l:List Tree) (a fin:Int):bK :=
  if a8 l a 97=false then db l a fin
  else if a8 l (a+1) 58=false then db l (a+1) fin
  else if a8 l (a+2) 123=false then db l (a+2) fin
  else if (wholeAt nameAt (bn l (a+2)) true).2.bad=true then (wholeAt nameAt (bn l (a+2)) true).2
  else ⟨.mk 6 (eJ l a).pos (eJ l a).text (qv (wholeAt nameAt (bn l (a+2)) true).1) [],a+3,false,0⟩
def lB (w:List Nd × bK) (mk:List Nd→Nd) (next:Int):bK:=if w.2.bad=true then w.2 else ⟨mk w.1,next,false,0⟩
def nY:Nat→List Tree→Int→Int→bK
  | 0,l,a,fin=>qU 2 l a fin
  | n + 1, l, a, fin =>
    if a8 l a 97=true then qU 2 l a fin
    else if a8 l a 123=true then lB (wholeAt nameAt (bn l a) true) (fun ks=>.mk 3 (eJ l a).pos [] (qv ks) []) (a+1)
    else if a8 l a 40=true then lB (wholeAt (nY n) (bn l a) false) (fun ks=>.mk 4 (eJ l a).pos [] [] ks) (a+1)
    else if a8 l a 91=true then lB (wholeAt yv (bn l a) true) (fun ks=>.mk 5 (eJ l a).pos [] [] ks) (a+1)
    else db l a fin
def bK.put (g:bK) (f:Nd→Nd):bK:=if g.bad=true then g else {g with node:=f g.node}
def hD:Nat→List Tree→Int→Int→bK
  | 0,l,a,fin=>qU 1 l a fin
  | n + 1, l, a, fin =>
    if a8 l a 97=true then qU 1 l a fin
    else if a8 l a 35=true then (nY (n+1) l (a+1) fin).put fun m=>.mk 7 (eJ l a).pos [] [] [m]
    else if a8 l a 43=false∧a8 l a 38=false then db l a fin
    else if a8 l (a+1) 40=false then db l (a+1) fin
    else lB (wholeAt (hD n) (bn l (a+1)) false) (fun ks=>.mk (if a8 l a 38=true then 9 else 8) (eJ l a).pos [] [] ks) (a+2)
def pK (n:Nat) (l:List Tree) (a fin:Int):bK:=if a8 l a 43=true∨a8 l a 38=true then db l a fin else hD n l a fin
def w9 (n:Nat) (l:List Tree) (a fin:Int):bK :=
  if a8 l a 97=false then db l a fin
  else if a8 l (a+1) 61=false then db l (a+1) fin
  else (pK n l (a+2) fin).put fun m=>.mk 11 (eJ l a).pos (eJ l a).text [] [m]
def ur (l:List Tree) (a:Int) (ks:List Nd) (ws:List Word) (next:Int):bK :=
  if next<(bn l a).kids.length then db (bn l a).kids next (bn l a).fin else ⟨.mk 10 (eJ l a).pos [] ws ks,a+1,false,0⟩
def pA (l:List Tree) (a:Int) (ks:List Nd) (next:Int):bK :=
  if a8 (bn l a).kids next 124=true then
    if (nameAt (bn l a).kids (next+1) (bn l a).fin).bad=true then nameAt (bn l a).kids (next+1) (bn l a).fin
    else ur l a ks (qv [(nameAt (bn l a).kids (next+1) (bn l a).fin).node]) (nameAt (bn l a).kids (next+1) (bn l a).fin).next
  else ur l a ks [] next
def sN (n:Nat) (l:List Tree) (a:Int):List Nd × bK:=ft (fun i=>w9 n (bn l a).kids i (bn l a).fin) (bn l a).kids ((bn l a).kids.length+1) 0 []
def kF (n:Nat) (l:List Tree) (a fin:Int):bK :=
  if a8 l a 97=true then hD n l a fin
  else if a8 l a 91=false then db l a fin
  else if 0<(bn l a).kids.length∧a8 (bn l a).kids 0 124=false then
    if (sN n l a).2.bad=true then (sN n l a).2 else pA l a (sN n l a).1 (sN n l a).2.next
  else pA l a [] 0
def rC (g:List Tree→Int→Int→bK):Prop:=∀l a fin,(g l a fin).bad=false→0≤a∧a+1≤(g l a fin).next∧(g l a fin).next≤(l.length:Int)
theorem oa {l:List Tree} {i k:Int} (h:a8 l i k=true):0≤i∧i<(l.length:Int):=by
  obtain⟨j,t,rfl,_,_,hl⟩:=vK h;omega
theorem D7 (k:Int):rC (qU k):=fun l a fin h=>by
  unfold qU at h ⊢;split
  · rename_i hk;have:=oa hk;exact⟨this.1,by simp,by simp only;omega⟩
  · rename_i hk;rw[ah hk] at h;simp[db] at h
theorem ZG:rC yv:=fun l a fin h=>by
  unfold yv at h ⊢;split
  · rename_i hk;rw[ak hk] at h;simp[db] at h
  rename_i h1;rw[ah h1] at h;split
  · rename_i hk;rw[ak hk] at h;simp[db] at h
  rename_i U;rw[ah U] at h;split
  · rename_i hk;rw[ak hk] at h;simp[db] at h
  rename_i h3;rw[ah h3] at h;split
  · rename_i hk;rw[ak hk,hk] at h;simp at h
  · have:=oa (by simpa using h3:a8 l (a+2) 123=true)
    have:=oa (by simpa using h1:a8 l a 97=true)
    exact⟨this.1,by simp only;omega,by simp only;omega⟩
theorem FN {w:List Nd × bK} {mk:List Nd→Nd} {next:Int} (h:(lB w mk next).bad=false):(lB w mk next).next=next:=by
  unfold lB at h ⊢;split
  · rename_i hk;rw[ak hk,hk] at h;simp at h
  · rfl
theorem Q2:∀n,rC (nY n)
  | 0=>D7 2
  | n + 1 => fun l a fin h => by
    simp only[nY] at h ⊢;split
    · rename_i hk;rw[ak hk] at h;exact D7 2 l a fin h
    rename_i h1;rw[ah h1] at h;split
    · rename_i hk;rw[ak hk] at h;have:=oa hk;rw[FN h];omega
    rename_i U;rw[ah U] at h;split
    · rename_i hk;rw[ak hk] at h;have:=oa hk;rw[FN h];omega
    rename_i h3;rw[ah h3] at h;split
    · rename_i hk;rw[ak hk] at h;have:=oa hk;rw[FN h];omega
    · rename_i hk;rw[ah hk] at h;simp[db] at h
theorem WT {g:bK} {f:Nd→Nd} (h:(g.put f).bad=false):g.bad=false∧(g.put f).next=g.next:=by
  unfold bK.put at h ⊢;split
  · rename_i hk;rw[ak hk,hk] at h;simp at h
  · rename_i hk;exact⟨by simpa using hk,rfl⟩
theorem D6:∀n,rC (hD n)
  | 0=>D7 1
  | n + 1 => fun l a fin h => by
    simp only[hD] at h ⊢;split
    · rename_i hk;rw[ak hk] at h;exact D7 1 l a fin h
    rename_i h1;rw[ah h1] at h;split
    · rename_i hk;rw[ak hk] at h
      have:=oa hk
      obtain⟨g1,g2⟩:=WT h
      have:=Q2 (n+1) l (a+1) fin g1
      rw[g2];omega
    rename_i U;rw[ah U] at h;split
    · rename_i hk;rw[ak hk] at h;simp[db] at h
    rename_i h3;rw[ah h3] at h;split
    · rename_i hk;rw[ak hk] at h;simp[db] at h
    rename_i h4;rw[ah h4] at h
    have:=oa (by simpa using h4:a8 l (a+1) 40=true)
    have h5:0≤a:=by
      cases tJ:a8 l a 43
      · cases vl:a8 l a 38
        · exact absurd ⟨tJ,vl⟩ h3
        · exact(oa vl).1
      · exact(oa tJ).1
    rw[FN h];omega
theorem ZD (n:Nat):rC (pK n):=fun l a fin h=>by
  unfold pK at h ⊢;split
  · rename_i hk;rw[ak hk] at h;simp[db] at h
  · rename_i hk;rw[ah hk] at h;exact D6 n l a fin h
theorem ZE (n:Nat):rC (w9 n):=fun l a fin h=>by
  unfold w9 at h ⊢;split
  · rename_i hk;rw[ak hk] at h;simp[db] at h
  rename_i h1;rw[ah h1] at h;split
  · rename_i hk;rw[ak hk] at h;simp[db] at h
  rename_i U;rw[ah U] at h;obtain⟨g1,g2⟩:=WT h
  have:=ZD n l (a+2) fin g1
  have:=oa (by simpa using h1:a8 l a 97=true)
  rw[g2];omega
def wu (l:List Tree) (a:Int):Word:=⟨(eJ l a).text,(eJ l a).pos⟩
def sJ (l:List Tree) (fin:Int):Nat→Nat→List (Word × Word)→List (Word × Word) × Int
  | 0,_,acc=>(acc,-1)
  | n + 1, a, acc =>
    if a8 l (a:Nat) 97=false then ([],mj l (a:Nat) fin)
    else if a8 l ((a+1:Nat):Int) 60=false then ([],mj l ((a+1:Nat):Int) fin)
    else if a8 l ((a+2:Nat):Int) 97=false then ([],mj l ((a+2:Nat):Int) fin)
    else if a+3=l.length then (acc++[(wu l (a:Nat),wu l ((a+2:Nat):Int))],-1)
    else if a8 l ((a+3:Nat):Int) 44=false then ([],mj l ((a+3:Nat):Int) fin)
    else sJ l fin n (a+4) (acc++[(wu l (a:Nat),wu l ((a+2:Nat):Int))])
def Aq (t:Tree):List (Word × Word) × Int:=if t.kids.length=0 then ([],-1) else sJ t.kids t.fin (t.kids.length+1) 0 []
def kE (k:UInt8) (c:ag) (l:List Tree) (a fin:Int):ag × Int × Int :=
  if k=110∨k=102 then (if a8 l a 97=true then (if k=102 then {c with names:=[wu l a]} else {c with name:=wu l a},a+1,-1) else (c,a,mj l a fin))
  else if k=119 then (if (pz l a fin).2.bad=true then (c,a,(pz l a fin).2.pos) else ({c with names:=(pz l a fin).1},a+1,-1))
  else if k=112 then (if a8 l a 123=true then ({c with aV:=(Aq (bn l a)).1,lG:=(bn l a).tok.pos},a+1,(Aq (bn l a)).2) else (c,a,mj l a fin))
  else
    let g:=if k=114 then kF (aP l) l a fin else hD (aP l) l a fin
    if g.bad=true then (c,a,g.pos) else (if c.left.kind=0 then {c with left:=g.node} else {c with right:=g.node},g.next,-1)
def sK (l:List Tree) (fin:Int):List UInt8→ag→Int→ag × Int × Int
  | [],c,a=>(c,a,-1)
  | k::ks,c,a=>if 0≤(kE k c l a fin).2.2 then kE k c l a fin else sK l fin ks (kE k c l a fin).1 (kE k c l a fin).2.1
def yn (w:List UInt8):Nat→Nat→Int→Int
  | 0,_,r=>r
  | n+1,op,r=>yn w n (op+1) (if w=(bT op).1 then op else r)
def r5 (l:List Tree) (fin:Int):ag × Int × Int :=
  match l with
  | []=>(.zero,0,0)
  | t :: _ =>
    let op:=if t.tok.kind=97 then yn t.tok.text 15 1 0 else 0
    if op=0 then (.zero,2,t.tok.pos)
    else
      let x:=sK l fin (bT op).2 {ag.zero with op:=op,pos:=t.tok.pos} 1
      if 0≤x.2.2 then (.zero,2,x.2.2)
      else if x.2.1<l.length then (.zero,2,mj l x.2.1 fin)
      else (x.1,0,0)
def LV (s:List UInt8):ag × Int × Int :=
  match (c_ s).2 with
  | some a=>(.zero,1,a)
  | none => match (gf (c_ s).1).2 with
    | some a=>(.zero,2,a)
    | none=>r5 (gf (c_ s).1).1 s.length
def uj:List (Tok × List Tree)→List Tok
  | []=>[]
  | (t,r)::op=>aU r++[t]++uj op
theorem Lo:∀(op:List (Tok × List Tree)) (t:Tok) (r:List Tree),uj (op++[(t,r)])=uj op++aU r++[t]
  | [],t,r=>by simp[uj]
  | (u,q)::op,t,r=>by simp[uj,Lo op t r]
theorem RK {c:Int} (h:closing c≠0):jN c=false:=by
  unfold closing at h;split at h
  · rename_i e;subst e;decide
  · split at h
    · rename_i e;rcases e with e | e<;>subst e<;>decide
    · exact absurd rfl h
theorem wh {α:Type} (l:List α):l=[]∨∃ys x,l=ys++[x]:=by
  rcases Nt l with h | ⟨ys,x,h⟩
  · exact .inl h
  · exact .inr ⟨ys,x,by rw[h];simp⟩
theorem Di:∀(ts:List Tok) (op:List (Tok × List Tree)) (row:List Tree),(∀t∈ts,rS t)→(∀p∈op,closing p.1.kind≠0∧ec p.2)→ec row→(fe ts op row).2=none →
    ec (fe ts op row).1∧aU (fe ts op row).1=uj op++aU row++ts
  | [], op, row, _, ho, hr, hn => by
    rcases wh op with rfl | ⟨ys,⟨u,a⟩,rfl⟩
    · simpa [fe,uj] using hr
    · simp[fe] at hn
  | t :: ts, op, row, ht, ho, hr, hn => by
    simp only[fe] at hn ⊢;have nq:∀t∈ts,rS t:=fun x hx=>ht x (by simp[hx])
    by_cases hc:closing t.kind=0
    · rw[ah (by simp[hc])] at hn ⊢;cases fW:jN t.kind
      · rw[fW] at hn;simp only[cI,bP] at hn ⊢;obtain⟨h1,U⟩:=Di ts op (row++[.mk t [] t.pos]) nq ho (iS.2 ⟨hr,by simp[ec,Tree.WF,hc,fW]⟩) hn;exact⟨h1,by rw[U,gp];simp[aU,Tree.flat,hc]⟩
      · rw[fW] at hn;simp only[b7] at hn ⊢
        rcases wh op with rfl | ⟨ys,⟨u,a⟩,rfl⟩
        · simp at hn
        · simp only[DN,HE] at hn ⊢
          by_cases hk:closing u.kind=t.kind
          · rw[ak hk] at hn ⊢;obtain⟨hu,ha⟩:=ho (u,a) (by simp);have hte:t=⟨closing u.kind,[UInt8.ofNat (closing u.kind).toNat],t.pos⟩:=by
              rcases ht t (by simp) with ⟨fw,_⟩ | ⟨_,U⟩
              · rw[fw] at fW;exact absurd fW (by decide)
              · rw[hk,←U]
            obtain⟨h1,U⟩:=Di ts ys (a++[.mk u row t.pos]) nq (fun p hp=>ho p (by simp[hp])) (iS.2 ⟨ha,by simp[ec,Tree.WF,hu,hr,RK hu]⟩) hn;refine⟨h1,?_⟩;rw[U,gp,Lo];simp only[aU,Tree.flat,hu,ne_eq,V5,b7,dn];rw[←hte];simp
          · rw[ah hk] at hn;simp at hn
    · rw[ak hc] at hn ⊢
      by_cases qH:24≤op.length
      · rw[ak qH] at hn;simp at hn
      · rw[ah qH] at hn ⊢;obtain⟨h1,U⟩:=Di ts (op++[(t,row)]) [] nq (fun p hp=>by rcases il.1 hp with h | h;exact ho p h;simp at h;subst h;exact⟨hc,hr⟩) (by simp[ec]) hn;exact⟨h1,by rw[U,Lo];simp[aU]⟩
theorem G8:∀(ts:List Tok) (op:List (Tok × List Tree)) (row:List Tree),(fe ts op row).2≠none→(fe ts op row).1=[]
  | [], op, row, h => by
    rcases wh op with rfl | ⟨ys,⟨u,a⟩,rfl⟩
    · simp[fe] at h
    · simp[fe]
  | t :: ts, op, row, h => by
    simp only[fe] at h ⊢;split
    · rename_i hc;rw[ak hc] at h;split
      · rfl
      · rename_i qH;rw[ah qH] at h;exact G8 _ _ _ h
    · rename_i hc;rw[ah hc] at h;split
      · rename_i fW;rw[ak fW] at h
        rcases wh op with rfl | ⟨ys,⟨u,a⟩,rfl⟩
        · rfl
        · simp only[DN,HE] at h ⊢;split
          · rename_i hk;rw[ak hk] at h;exact G8 _ _ _ h
          · rfl
      · rename_i fW;rw[ah fW] at h;exact G8 _ _ _ h
def w8 (l:List Tok) (f:Int):Option Int:=if 0≤f then some (om l f.toNat) else none
theorem G9 (l:List Tok):∀(n i:Nat) (op:List (Tok × List Tree)) (row:List Tree) (o:List Nat),i+n=l.length→op.map (·.1)=o.map (ia l)→(fe (l.drop i) op row).2=w8 l (ng l n i o)
  | 0, i, op, row, o, hi, ho => by
    rw[Ns (by omega)]
    rcases wh op with rfl | ⟨ys,⟨u,a⟩,rfl⟩
    · have:o=[]:=by simpa using ho.symm
      subst this;simp[fe,ng,w8]
    · rcases wh o with rfl | ⟨zs,j,rfl⟩
      · simp at ho
      · simp only[fE,bC,dp] at ho;have hj:u=ia l j:=by have:=Zi ho rfl;simpa using this
        simp[fe,ng,w8,hj,ia,om];cases l[j]?<;>rfl
  | n + 1, i, op, row, o, hi, ho => by
    have aj:i<l.length:=by omega
    have hti:ia l i=l[i]:=by simp[ia,aj]
    have pd:dJ l i=l[i].kind:=by simp[dJ,aj]
    have zR:om l i=l[i].pos:=by simp[om,aj]
    have cW:op.length=o.length:=by have:=gm List.length ho;simpa using this
    rw[kN aj];simp only[fe,ng,pd];have Ke:w8 l (i:Nat)=some l[i].pos:=by simp[w8,zR]
    by_cases hc:closing l[i].kind=0
    · simp only[ne_eq,hc,Gl,BD,bP];cases fW:jN l[i].kind
      · simp only[cI,bP];exact G9 l n (i+1) op _ o (by omega) ho
      · simp only[b7]
        rcases wh op with rfl | ⟨ys,⟨u,a⟩,rfl⟩
        · have:o=[]:=by simpa using ho.symm
          subst this;simp[Ke]
        · rcases wh o with rfl | ⟨zs,j,rfl⟩
          · simp at ho
          · simp only[fE,bC,dp] at ho;have hj:u=ia l j:=by have:=Zi ho rfl;simpa using this
            have nr:ys.map (·.1)=zs.map (ia l):=List.append_inj_left' ho rfl;have JV:dJ l j=u.kind:=by rw[hj];simp only[dJ,ia];cases l[j]?<;>rfl
            simp only[DN,HE,JV]
            by_cases hk:closing u.kind=l[i].kind
            · rw[ak hk,ak hk];exact G9 l n (i+1) ys _ zs (by omega) nr
            · rw[ah hk,ah hk,Ke]
    · rw[ak hc]
      by_cases qH:24≤op.length
      · rw[ak qH,ak ⟨hc,by omega⟩,Ke]
      · rw[ah qH,ah (fun h=>qH (by omega))];simp only[ne_eq,hc,V5,b7,RK hc,cI,bP];exact G9 l n (i+1) _ _ _ (by omega) (by simp[ho,hti])
theorem ar6 {l:List Tok} (h:∀t∈l,rS t):fe l [] []=gf l:=by
  have hf:=G9 l l.length 0 [] [] [] (by omega) rfl;rw[DH] at hf;have hr:(gf l).2=w8 l (ng l l.length 0 []):=by
    unfold gf w8;split<;>rfl
  have U:(fe l [] []).2=(gf l).2:=by rw[hf,hr]
  cases hq:(fe l [] []).2 with
  | some a =>
    have h1:=G8 l [] [] (by rw[hq];simp);have h3:(gf l).1=[]:=by
      rw[hq] at U;unfold gf at U ⊢;split
      · rfl
      · rename_i hn;rw[ah hn] at U;simp at U
    exact Prod.ext (h1.trans h3.symm) U
  | none =>
    obtain⟨h3,h4⟩:=Di l [] [] h (by simp) (by simp[ec]) hq;simp only[uj,aU,gk] at h4;have h5:=YD h3 (by rw[h4,←U,hq]);rw[h4] at h5;exact Prod.ext h5.symm U
theorem yJ (s:List UInt8):fe (c_ s).1 [] []=gf (c_ s).1:=ar6 (Af _ _ _ _ (by simp))
theorem ZF (n:Nat):rC (kF n):=fun l a fin h=>by
  have h3:∀ks ws next,(ur l a ks ws next).bad=false→(ur l a ks ws next).next=a+1:=fun ks ws next h=>by
    unfold ur at h ⊢;split
    · rename_i hk;rw[ak hk] at h;simp[db] at h
    · rfl
  have U:∀ks next,(pA l a ks next).bad=false→(pA l a ks next).next=a+1:=fun ks next h=>by
    unfold pA at h ⊢;split
    · rename_i hk;rw[ak hk] at h;split
      · rename_i hb;rw[ak hb,hb] at h;simp at h
      · rename_i hb;rw[ah hb] at h;exact h3 _ _ _ h
    · rename_i hk;rw[ah hk] at h;exact h3 _ _ _ h
  unfold kF at h ⊢;split
  · rename_i hk;rw[ak hk] at h;exact D6 n l a fin h
  rename_i h1;rw[ah h1] at h;split
  · rename_i hk;rw[ak hk] at h;simp[db] at h
  rename_i h4;rw[ah h4] at h;have hk:=oa (by simpa using h4:a8 l a 91=true);split
  · rename_i h5;rw[ak h5] at h;split
    · rename_i hb;rw[ak hb,hb] at h;simp at h
    · rename_i hb;rw[ah hb] at h;rw[U _ _ h];omega
  · rename_i h5;rw[ah h5] at h;rw[U _ _ h];omega
theorem aon (k:UInt8) (c:ag) (l:List Tree) (a:Nat) (fin:Int):∃a' : Nat,(kE k c l a fin).2.1=(a' : Nat)∧(a≤l.length→a' ≤ l.length):=by
  have Kj:∀kind,a8 l (a:Nat) kind=true→∃a' : Nat,((a:Int)+1)=(a' : Nat)∧(a≤l.length→a' ≤ l.length):=fun kind hk=>by
    have:=oa hk
    exact⟨a+1,rfl,fun _=>by omega⟩
  have dH:∃a' : Nat,(a:Int)=(a' : Nat)∧(a≤l.length→a' ≤ l.length):=⟨a,rfl,id⟩;unfold kE;split
  · split
    · rename_i hk;exact Kj _ hk
    · exact dH
  split
  · split
    · exact dH
    · rename_i hb;have hk:a8 l (a:Nat) 123=true:=by
        by_cases hk:a8 l (a:Nat) 123=true
        · exact hk
        · unfold pz at hb;rw[ah hk] at hb;simp[db] at hb
      exact Kj _ hk
  split
  · split
    · rename_i hk;exact Kj _ hk
    · exact dH
  have hg:rC (if k=114 then kF (aP l) else hD (aP l)):=by split;exact ZF _;exact D6 _
  have B6:=hg l (a:Nat) fin;rw[show (if k=114 then kF (aP l) else hD (aP l)) l (a:Nat) fin=(if k=114 then kF (aP l) l (a:Nat) fin else hD (aP l) l (a:Nat) fin) by split<;>rfl] at B6;generalize (if k=114 then kF (aP l) l (a:Nat) fin else hD (aP l) l (a:Nat) fin)=g at B6 ⊢;cases hb:g.bad
  · obtain⟨_,h1,U⟩:=B6 hb;simp only[hb,cI,bP];exact⟨g.next.toNat,by omega,fun _=>by omega⟩
  · simp only[hb,b7];exact dH
def In (N p:Int):Prop:=0≤p∧p≤N
inductive rQ (N:Int):Tree→Prop
  | mk (t:Tok) (ks:List Tree) (e:Int):In N t.pos→In N e→(∀k∈ks,rQ N k)→rQ N (.mk t ks e)
theorem rQ.fin {N:Int} {t:Tree} (h:rQ N t):In N t.fin:=by cases h;assumption
theorem rQ.pos {N:Int} {t:Tree} (h:rQ N t):In N t.tok.pos:=by cases h;assumption
theorem rQ.kids {N:Int} {t:Tree} (h:rQ N t):∀k∈t.kids,rQ N k:=by cases h;assumption
def j8 (N:Int) (l:List Tree):Prop:=∀k∈l,rQ N k
section
variable {N:Int} (h0:0≤N)
include h0
theorem qQ:In N 0:=⟨by omega,h0⟩
theorem qt {l:List Tree} {a fin:Int} (hl:j8 N l) (hf:In N fin):In N (mj l a fin):=by
  unfold mj;split
  · cases h:l[a.toNat]? with
    | none=>exact hf
    | some t=>exact(hl t (pI h)).pos
  · exact hf
theorem nM {l:List Tree} {a fin:Int} (hl:j8 N l) (hf:In N fin):In N (db l a fin).pos:=qt h0 hl hf
theorem G7 {l:List Tree} {a:Int} (hl:j8 N l):j8 N (bn l a).kids∧In N (bn l a).fin:=by
  unfold bn;cases h:l[a.toNat]? with
  | none=>exact⟨by simp[j8,Tree.zero,Tree.kids],by exact qQ h0⟩
  | some t=>exact⟨(hl t (pI h)).kids,(hl t (pI h)).fin⟩
def tg (N:Int) (g:List Tree→Int→Int→bK):Prop:=∀l a fin,j8 N l→In N fin→In N (g l a fin).pos
theorem F6 (k:Int):tg N (qU k):=fun l a fin hl hf=>by
  unfold qU;split;exact qQ h0;exact nM h0 hl hf
theorem Gg:tg N nameAt:=fun l a fin hl hf=>by
  unfold nameAt;split;exact qQ h0;exact nM h0 hl hf
theorem Mt {one:Int→bK} {l:List Tree} (h:∀a,In N (one a).pos):∀n a out,In N (ft one l n a out).2.pos
  | 0,_,_=>qQ h0
  | n + 1, a, out => by
    simp only[ft];split
    · exact h a
    · split
      · exact Mt h n _ _
      · exact h a
theorem AU {g:List Tree→Int→Int→bK} (hg:tg N g) {l:List Tree} {a:Int} (hl:j8 N l) (e:Bool):In N (wholeAt g (bn l a) e).2.pos:=by
  obtain⟨hk,hf⟩:=G7 h0 (a:=a) hl;unfold wholeAt;split
  · exact qQ h0
  · simp only;split
    · exact nM h0 hk hf
    · exact Mt h0 (fun a=>hg _ a _ hk hf) _ _ _
theorem FO {w:List Nd × bK} {mk:List Nd→Nd} {next:Int} (h:In N w.2.pos):In N (lB w mk next).pos:=by
  unfold lB;split;exact h;exact qQ h0
theorem WS {g:bK} {f:Nd→Nd} (h:In N g.pos):In N (g.put f).pos:=by
  unfold bK.put;split<;>exact h
theorem aqq:tg N yv:=fun l a fin hl hf=>by
  unfold yv;split
  · exact nM h0 hl hf
  split
  · exact nM h0 hl hf
  split
  · exact nM h0 hl hf
  split
  · exact AU h0 (Gg h0) hl _
  · exact qQ h0
theorem R4:∀n,tg N (nY n)
  | 0=>F6 h0 2
  | n + 1 => fun l a fin hl hf => by
    unfold nY;split
    · exact F6 h0 2 l a fin hl hf
    split
    · exact FO h0 (AU h0 (Gg h0) hl _)
    split
    · exact FO h0 (AU h0 (R4 n) hl _)
    split
    · exact FO h0 (AU h0 (aqq h0) hl _)
    · exact nM h0 hl hf
theorem CA:∀n,tg N (hD n)
  | 0=>F6 h0 1
  | n + 1 => fun l a fin hl hf => by
    unfold hD;split
    · exact F6 h0 1 l a fin hl hf
    split
    · exact WS h0 (R4 h0 _ _ _ _ hl hf)
    split
    · exact nM h0 hl hf
    split
    · exact nM h0 hl hf
    · exact FO h0 (AU h0 (CA n) hl _)
theorem aav (n:Nat):tg N (pK n):=fun l a fin hl hf=>by
  unfold pK;split;exact nM h0 hl hf;exact CA h0 n l a fin hl hf
theorem aeY (n:Nat):tg N (w9 n):=fun l a fin hl hf=>by
  unfold w9;split
  · exact nM h0 hl hf
  split
  · exact nM h0 hl hf
  · exact WS h0 (aav h0 n _ _ _ hl hf)
theorem Xe (n:Nat):tg N (kF n):=fun l a fin hl hf=>by
  obtain⟨hk,o9⟩:=G7 h0 (a:=a) hl;have h3:∀ks ws next,In N (ur l a ks ws next).pos:=fun ks ws next=>by
    unfold ur;split;exact nM h0 hk o9;exact qQ h0
  have U:∀ks next,In N (pA l a ks next).pos:=fun ks next=>by
    unfold pA;split
    · split
      · exact Gg h0 _ _ _ hk o9
      · exact h3 _ _ _
    · exact h3 _ _ _
  unfold kF;split
  · exact CA h0 n l a fin hl hf
  split
  · exact nM h0 hl hf
  split
  · split
    · exact Mt h0 (fun i=>aeY h0 n _ i _ hk o9) _ _ _
    · exact U _ _
  · exact U _ _
theorem YU {l:List Tree} {a fin:Int} (hl:j8 N l) (hf:In N fin):In N (pz l a fin).2.pos:=by
  unfold pz;split;exact AU h0 (Gg h0) hl _;exact nM h0 hl hf
def Nk (N p:Int):Prop:=p = -1∨In N p
theorem Wk {l:List Tree} {fin:Int} (hl:j8 N l) (hf:In N fin):∀n a acc,Nk N (sJ l fin n a acc).2
  | 0,_,_=>.inl rfl
  | n + 1, a, acc => by
    simp only[sJ];split
    · refine Or.inr ?_;simp only;exact qt h0 hl hf
    split
    · refine Or.inr ?_;simp only;exact qt h0 hl hf
    split
    · refine Or.inr ?_;simp only;exact qt h0 hl hf
    split
    · exact .inl rfl
    split
    · refine Or.inr ?_;simp only;exact qt h0 hl hf
    · exact Wk hl hf n _ _
theorem aoi {l:List Tree} {a:Int} (hl:j8 N l):Nk N (Aq (bn l a)).2:=by
  obtain⟨hk,hf⟩:=G7 h0 (a:=a) hl;unfold Aq;split
  · exact .inl rfl
  · exact Wk h0 hk hf _ _ _
theorem ar8 {l:List Tok} (hl:∀t∈l,In N t.pos):∀n i to,j8 N (mn l n i to):=by
  have hp:∀i,In N (om l i):=fun i=>by
    unfold om;cases h:l[i]? with
    | none=>exact qQ h0
    | some t=>exact hl t (pI h)
  have ht:∀i,In N (ia l i).pos:=fun i=>by
    unfold ia;cases h:l[i]? with
    | none=>exact qQ h0
    | some t=>exact hl t (pI h)
  intro n;induction n with
  | zero=>intro i to;simp[mn,j8]
  | succ n ih =>
    intro i to;simp only[mn];split
    · split
      · intro k hk
        rcases j_.1 hk with rfl | hk
        · exact .mk _ _ _ (ht i) (hp _) (ih _ _)
        · exact ih _ _ k hk
      · intro k hk
        rcases j_.1 hk with rfl | hk
        · exact .mk _ _ _ (ht i) (hp _) (by simp)
        · exact ih _ _ k hk
    · simp[j8]
end
theorem F8 {N:Int}:∀n (p:Nat) (s:List UInt8) (acc:List Tok),(p:Int)+s.length≤N→(∀t∈acc,In N t.pos)→(∀t∈(d_ n p s acc).1,In N t.pos)∧∀a,(d_ n p s acc).2=some a→In N a
  | 0,_,_,acc,_,h=>⟨by simpa [d_] using h,by simp[d_]⟩
  | n+1,_,[],acc,_,h=>⟨by simpa [d_] using h,by simp[d_]⟩
  | n + 1, p, c :: r, acc, hp, h => by
    simp only[cG] at hp;simp only[d_];split
    · exact⟨h,by simp⟩
    split
    · rename_i hr;have hle:(ei (c::r)).length≤(c::r).length:=(Zq _).length_le;refine F8 n _ _ _ ?_ ?_
      · rw[A_];simp only[cG] at hle ⊢;omega
      · intro t ht
        rcases il.1 ht with ht | ht
        · exact h t ht
        · rw[lS] at ht;subst ht;constructor<;>simp only<;>omega
    split
    · refine F8 n _ _ _ (by omega) ?_;intro t ht
      rcases il.1 ht with ht | ht
      · exact h t ht
      · rw[lS] at ht;subst ht;constructor<;>simp only<;>omega
    split
    · exact F8 n _ _ _ (by omega) h
    · refine⟨by simp,fun a ha=>?_⟩;simp only[aH] at ha;subst ha;constructor<;>omega
theorem Vi (s:List UInt8):(∀t∈(c_ s).1,In s.length t.pos)∧∀a,(c_ s).2=some a→In s.length a:=F8 _ _ _ _ (by simp) (by simp)
theorem Vq (s:List UInt8):j8 s.length (gf (c_ s).1).1∧∀a,(gf (c_ s).1).2=some a→In s.length a:=by
  have h0:(0:Int)≤s.length:=by omega
  have h:=(Vi s).1;unfold gf;split
  · refine⟨by simp[j8],fun a ha=>?_⟩;simp only[aH] at ha;subst ha;unfold om;cases hq:(c_ s).1[(ng (c_ s).1 (c_ s).1.length 0 []).toNat]? with
    | none=>exact qQ h0
    | some t=>exact h t (pI hq)
  · exact⟨ar8 h0 h _ _ _,by simp⟩
def iv (sep:List UInt8):List (List UInt8)→List UInt8
  | []=>[]
  | x::xs=>x++xs.flatMap fun y=>sep++y
theorem akh (sep:List UInt8) (l:List (List UInt8)) (y:List UInt8):iv sep (l++[y])=iv sep l++(if 0<l.length then sep else [])++y:=by
  cases l with
  | nil=>simp[iv]
  | cons x xs=>simp[iv]
theorem FR (l:List (List UInt8)):iv [44] l=bW l:=by cases l<;>rfl
theorem aki {sep:List UInt8} {l:List (List UInt8)} {i:Nat} (h:i<l.length):iv sep (l.take (i+1))=iv sep (l.take i)++(if 0<i then sep else [])++l[i]:=by
  rw[kP h,akh,gZ,rN (HS h)]
theorem akf {sep:List UInt8} {l:List (List UInt8)} {i:Nat}:(iv sep (l.take i)).length≤(iv sep l).length:=by
  have key:∀a b:List (List UInt8),(iv sep a).length≤(iv sep (a++b)).length:=fun a b=>by
    cases a with
    | nil=>simp[iv]
    | cons x xs=>simp[iv,wC]
  have:=key (l.take i) (l.drop i)
  rwa [nR] at this
def iL (p:Word × Word):List UInt8:=p.1.text++[60]++p.2.text
def rW (l:List (List UInt8)):List UInt8:=[123]++bW l++[125]
def kZ (k:UInt8) (c:ag) (n:Nd):List UInt8 :=
  if k=110 then c.name.text
  else if k=102 then bW (c.names.map Word.text)
  else if k=119 then rW (c.names.map Word.text)
  else if k=112 then rW (c.aV.map iL)
  else n.cE
def isTerm (k:UInt8):Bool:=k≠110&&k≠102&&k≠119&&k≠112
def wk (c:ag) (x:List (List UInt8) × List Nd) (k:UInt8):List (List UInt8) × List Nd:=(x.1++[kZ k c (x.2.headD .zero)],if isTerm k=true then x.2.tail else x.2)
def jG (c:ag) (ks:List UInt8):List (List UInt8) × List Nd:=ks.foldl (wk c) ([(bT c.op).1],[c.left,c.right])
def fc (c:ag):List UInt8:=iv [32] (jG c (bT c.op).2).1
theorem WA (c:ag) (ks:List UInt8) (k:UInt8):jG c (ks++[k])=wk c (jG c ks) k:=by simp[jG,A7]
def jc (l:List (Word × Word)):Nat:=(l.map fun p=>p.1.text.length+p.2.text.length+2).sum
theorem aoY {l:List (Word × Word)} {i:Nat} (h:i<l.length):l[i].1.text.length+l[i].2.text.length+2≤jc l:=by
  induction l generalizing i with
  | nil=>simp at h
  | cons p ps ih =>
    cases i with
    | zero=>simp[jc]
    | succ i =>
      have:=ih (i:=i) (by simp at h;omega)
      simp only[jc,bC,mr,A9] at this ⊢;omega
theorem WM (l:List (Word × Word)):(bW (l.map iL)).length≤jc l∧l.length≤jc l:=by
  induction l with
  | nil=>simp[bW,jc]
  | cons p ps ih =>
    have key:∀qs:List (Word × Word),((qs.map iL).flatMap fun y=>44::y).length≤jc qs:=fun qs=>by
      induction qs with
      | nil=>simp
      | cons q qs ih=>simp[iL,jc] at ih ⊢;omega
    have:=key ps
    have:=ih.2
    simp[bW,iL,jc] at *;omega
def ag.wt (c:ag):Nat:=c.name.text.length+dL c.names+jc c.aV+c.left.wt+c.right.wt
theorem LK (l:List Word):(bW (l.map Word.text)).length≤dL l∧l.length≤dL l:=⟨Du l,by
  induction l with
  | nil=>simp
  | cons w ws ih=>simp[dL] at ih ⊢;omega⟩
theorem aoI {k:UInt8} {c:ag} {n:Nd} (h:n.wt≤c.wt):(kZ k c n).length≤c.wt+2:=by
  have h1:=(LK c.names).1;have U:=(WM c.aV).1;have h3:=YG n;have h4:c.wt=c.name.text.length+dL c.names+jc c.aV+c.left.wt+c.right.wt:=rfl;unfold kZ rW;split
  · omega
  split
  · omega
  split
  · simp;omega
  split
  · simp;omega
  · omega
theorem as3 (op:Int):(bT op).1.length≤8:=by
  unfold bT;split
  · rename_i h1;have aj:op.toNat<16:=by omega
    generalize op.toNat=n at aj ⊢;have key:∀n<16,(iU.getD n ([],[])).1.length≤8:=by decide
    exact key n aj
  · simp
theorem Ho:Nd.zero.wt=4:=by simp[Nd.zero,Nd.wt,dL,eK]
theorem atF (n:Nd):4≤n.wt:=by cases n;simp only[Nd.wt];omega
theorem LD (c:ag) (ks:List UInt8):(∀x∈(jG c ks).1,x.length≤c.wt+8)∧(∀n∈(jG c ks).2,n.wt≤c.wt)∧(jG c ks).1.length=ks.length+1∧(jG c ks).2=[c.left,c.right].drop (ks.filter isTerm).length:=by
  have hc:c.wt=c.name.text.length+dL c.names+jc c.aV+c.left.wt+c.right.wt:=rfl
  rcases Nt ks with rfl | ⟨ys,k,rfl⟩
  · have:=as3 c.op
    refine⟨?_,?_,rfl,rfl⟩
    · intro x hx;simp[jG] at hx;subst hx;omega
    · intro n hn;simp[jG] at hn;rcases hn with rfl | rfl<;>omega
  · obtain⟨i1,i2,i3,i4⟩:=LD c ys;rw[List.concat_eq_append,WA];have hz:((jG c ys).2.headD .zero).wt≤c.wt:=by
      cases hq:(jG c ys).2 with
      | nil=>have:=atF c.left;simp[Ho];omega
      | cons n ns=>exact i2 n (by rw[hq];simp)
    refine⟨?_,?_,?_,?_⟩
    · intro x hx
      rcases il.1 hx with hx | hx
      · exact i1 x hx
      · rw[lS] at hx;subst hx;have:=aoI (k:=k) hz;omega
    · intro n hn;simp only[wk] at hn;split at hn
      · exact i2 n (List.mem_of_mem_tail hn)
      · exact i2 n hn
    · simp[wk,i3]
    · simp only[wk,i4];cases h:isTerm k
      · simp[h]
      · simp[h]
termination_by ks.length
decreasing_by subst_vars;simp
theorem akg {B:Nat}:∀(l:List (List UInt8)),(∀x∈l,x.length≤B)→(iv [32] l).length≤l.length*(B+1)
  | [],_=>by simp[iv]
  | x :: xs, h => by
    have hx:=h x (by simp);have key:∀ys:List (List UInt8),(∀x∈ys,x.length≤B)→(ys.flatMap fun y=>[32]++y).length≤ys.length*(B+1):=fun ys=>by
      induction ys with
      | nil=>simp
      | cons y ys ih =>
        intro h;have h1:=h y (by simp);have U:=ih fun x hx=>h x (by simp[hx])
        simp only[nQ,bw,cG,dv,gP] at U ⊢;omega
    have:=key xs fun x hx=>h x (by simp[hx])
    simp only[iv,bw,cG,gP] at this ⊢;omega
theorem ah1 (op:Int):∀i<(bT op).2.length,∀k,(bT op).2[i]?=some k→isTerm k=true→(((bT op).2.take i).filter isTerm).length<2:=by
  unfold bT;split
  · rename_i h1;have aj:op.toNat<16:=by omega
    generalize op.toNat=n at aj ⊢;have key:∀n<16,∀i<(iU.getD n ([],[])).2.length,∀k∈(iU.getD n ([],[])).2[i]?,isTerm k=true→(((iU.getD n ([],[])).2.take i).filter isTerm).length<2:=by decide
    intro i hi k hk;exact key n aj i hi k hk
  · simp
def Ef:List V:=.int .i64 0::List.replicate 8 (.int .u64 0)
def SU:List V:=.str []::.int .i64 0::List.replicate 8 (.int .u64 0)
structure bq where
  v:Int
  c:aN
structure bF where
  name:List UInt8
  a:bq
structure dE where
  fs:List bF
  tail:Int
structure jj where
  op:Int
  lat:Int
  code:List a7
  to:bq
  a:dE
  b:dE
  v:Int
  field:List UInt8
theorem aN.abw {P:aN→Prop} (h:∀(a b c d e f g i:aY) (hl:[a,b,c,d,e,f,g,i].length=8),P ⟨[a,b,c,d,e,f,g,i],hl⟩) (e:aN):P e:=by
  obtain⟨w,hl⟩:=e
  match w,hl with
  | [a,b,c,d,e,f,g,i],hl=>exact h a b c d e f g i hl
def bq.enc (x:bq):List V:=.int .i64 x.v::x.c.enc
def bF.enc (x:bF):List V:=.str x.name::x.a.enc
def dE.enc (x:dE):List V:=[.sl .no 10 (x.fs.map bF.enc),.int .i64 x.tail]
def bV (op lat:Int) (c:V) (to:bq) (fa:V) (ta:Int) (fb:V) (tb v:Int) (f:List UInt8):List V:=.int .i64 op::.int .i64 lat::c::(to.enc++[fa,.int .i64 ta,fb,.int .i64 tb,.int .i64 v,.str f])
def jj.enc (x:jj):List V:=bV x.op x.lat (.sl .no 10 (x.code.map a7.enc)) x.to (.sl .no 10 (x.a.fs.map bF.enc)) x.a.tail (.sl .no 10 (x.b.fs.map bF.enc)) x.b.tail x.v x.field
def bq.zero:bq:=⟨0,.zero⟩
def dE.zero:dE:=⟨[],0⟩
def jj.zero:jj:=⟨0,0,[],.zero,.zero,.zero,0,[]⟩
def kR:List V:=bV 0 0 (.sl .full 10 []) .zero (.sl .full 10 []) 0 (.sl .full 10 []) 0 0 []
theorem bq.ext' {x y:bq} (h:x.v=y.v) (k:x.c=y.c):x=y:=by cases x;cases y;simp only at h k;subst h;subst k;rfl
theorem bF.ext' {x y:bF} (h:x.name=y.name) (k:x.a=y.a):x=y:=by cases x;cases y;simp only at h k;subst h;subst k;rfl
instance:DecidableEq bq:=fun x y=>if h:x.v=y.v∧x.c=y.c then isTrue (bq.ext' h.1 h.2) else isFalse fun e=>h ⟨e▸rfl,e▸rfl⟩
instance:DecidableEq bF:=fun x y=>if h:x.name=y.name∧x.a=y.a then isTrue (bF.ext' h.1 h.2) else isFalse fun e=>h ⟨e▸rfl,e▸rfl⟩
section
variable {x y:bq} {n:Nat} {i:Int} {e:aN}
theorem bq.b_:x.enc.length=9:=by simp[bq.enc,aN.b_]
theorem bq.eW:bE x.enc=true:=by simp[bq.enc,bE,V.one,aN.eW]
theorem bq.cN:bm x.enc=true:=by simp[bq.enc,bm,V.cc,aN.cN]
theorem bq.cM:a9 x.enc=x.enc:=by simp[bq.enc,a9,V.erase,aN.cM]
theorem bq.bY:bx n x.enc=true:=by simp[bq.enc,bx,V.lo,aN.bY]
theorem bq.dU:takeN 9 x.enc=some x.enc:=by have:=wo (c:=x.enc);rwa [bq.b_] at this
theorem bq.fK:bf true 9 x.enc=some (.agg x.enc):=by rw[yc,bq.dU];rfl
theorem bq.fq:bI 9 x.enc=true:=by have:=vm (c:=x.enc);rwa [bq.b_] at this
theorem bq.eX:over y.enc x.enc=x.enc:=qZ (by rw[bq.b_,bq.b_])
theorem bq.C3:bf false 1 x.enc=some (.int .i64 x.v):=rfl
theorem bq.LR:takeN 8 (x.enc.drop 1)=some x.c.enc:=by show takeN 8 x.c.enc=_;exact aN.dU
theorem bq.GM:Ef=bq.zero.enc:=by rw[bq.enc];show _=V.int .i64 0::aN.zero.enc;rw[←aN.vZ];rfl
theorem bq.b_v:over x.enc [.int .i64 i]=(bq.mk i x.c).enc:=by rw[bq.enc,oh,me];rfl
theorem bq.Bl:bI 1 x.enc=true:=rfl
theorem bq.aaz:bI 8 (x.enc.drop 1)=true:=by show bI 8 x.c.enc=true;exact aN.fq
theorem bq.H9:setAt x.enc 1 e.enc=(bq.mk x.v e).enc:=by rw[bq.enc,jH,lJ,aN.eX];rfl
theorem bq.nJ:eP [1,1,1,1,1,1,1,1,1] x.enc y.enc=some (decide (x=y)):=by
  rw[bq.enc,bq.enc,vd,aN.nJ,tj];congr 1;rw[←uM];exact oT.2 ⟨fun h=>bq.ext' h.1 h.2,fun h=>h▸⟨rfl,rfl⟩⟩
def bq.af:=And.intro @bq.b_ <| And.intro @bq.eW <| And.intro @bq.cN <| And.intro @bq.cM <| And.intro @bq.bY <| And.intro @bq.dU <| And.intro @bq.fK <| And.intro @bq.fq <| And.intro @bq.eX <| And.intro @bq.C3 <| And.intro @bq.LR <| And.intro @bq.GM <| And.intro @bq.b_v <| And.intro @bq.Bl <| And.intro @bq.aaz <| And.intro @bq.H9 @bq.nJ
end
section
variable {x y:bF} {n:Nat} {t:List UInt8} {a:bq}
theorem bF.b_:x.enc.length=10:=by simp[bF.enc,bq.b_]
theorem bF.eW:bE x.enc=true:=by simp[bF.enc,bE,V.one,bq.eW]
theorem bF.cN:bm x.enc=true:=by simp[bF.enc,bm,V.cc,bq.cN]
theorem bF.cM:a9 x.enc=x.enc:=by simp[bF.enc,a9,V.erase,bq.cM]
theorem bF.bY:bx n x.enc=true:=by simp[bF.enc,bx,V.lo,bq.bY]
theorem bF.dU:takeN 10 x.enc=some x.enc:=by have:=wo (c:=x.enc);rwa [bF.b_] at this
theorem bF.fK:bf true 10 x.enc=some (.agg x.enc):=by rw[yc,bF.dU];rfl
theorem bF.fq:bI 10 x.enc=true:=by have:=vm (c:=x.enc);rwa [bF.b_] at this
theorem bF.eX:over y.enc x.enc=x.enc:=qZ (by rw[bF.b_,bF.b_])
theorem bF.rh:bf false 1 x.enc=some (.str x.name):=rfl
theorem bF.LQ:takeN 9 (x.enc.drop 1)=some x.a.enc:=by show takeN 9 x.a.enc=_;exact bq.dU
theorem bF.GM:SU=(bF.mk [] .zero).enc:=by rw[bF.enc];show _=V.str []::bq.zero.enc;rw[←bq.GM];rfl
theorem bF.H_:over x.enc [.str t]=(bF.mk t x.a).enc:=by rw[bF.enc,oh,me];rfl
theorem bF.Bl:bI 1 x.enc=true:=rfl
theorem bF.aaA:bI 9 (x.enc.drop 1)=true:=by show bI 9 x.a.enc=true;exact bq.fq
theorem bF.b_a:setAt x.enc 1 a.enc=(bF.mk x.name a).enc:=by rw[bF.enc,jH,lJ,bq.eX];rfl
theorem bF.nJ:eP [2,1,1,1,1,1,1,1,1,1] x.enc y.enc=some (decide (x=y)):=by
  rw[bF.enc,bF.enc,Sx,bq.nJ,tj];congr 1;rw[←uM];exact oT.2 ⟨fun h=>bF.ext' h.1 h.2,fun h=>h▸⟨rfl,rfl⟩⟩
def bF.af:=And.intro @bF.b_ <| And.intro @bF.eW <| And.intro @bF.cN <| And.intro @bF.cM <| And.intro @bF.bY <| And.intro @bF.dU <| And.intro @bF.fK <| And.intro @bF.fq <| And.intro @bF.eX <| And.intro @bF.rh <| And.intro @bF.LQ <| And.intro @bF.GM <| And.intro @bF.H_ <| And.intro @bF.Bl <| And.intro @bF.aaA <| And.intro @bF.b_a @bF.nJ
end
section
variable {x:dE} {n:Nat} {u w:V}
theorem dE.b_:x.enc.length=2:=rfl
theorem dE.eW:bE x.enc=true:=rfl
theorem dE.cN:bm x.enc=true:=rfl
theorem dE.cM:a9 x.enc=x.enc:=rfl
theorem dE.bY:bx n x.enc=true:=rfl
theorem dE.dU:takeN 2 x.enc=some x.enc:=rfl
theorem dE.fK:bf true 2 x.enc=some (.agg x.enc):=rfl
theorem dE.fq:bI 2 x.enc=true:=rfl
theorem dE.eX:over [u,w] x.enc=x.enc:=rfl
theorem dE.C1:bf false 1 x.enc=some (.sl .no 10 (x.fs.map bF.enc)):=rfl
theorem dE.LU:bf false 1 (x.enc.drop 1)=some (.int .i64 x.tail):=rfl
def dE.af:=And.intro @dE.b_ <| And.intro @dE.eW <| And.intro @dE.cN <| And.intro @dE.cM <| And.intro @dE.bY <| And.intro @dE.dU <| And.intro @dE.fK <| And.intro @dE.fq <| And.intro @dE.eX <| And.intro @dE.C1 @dE.LU
end
section
variable {op lat ta tb v i:Int} {c fa fb d:V} {to tp:bq} {r:dE} {f g:List UInt8} {x:jj} {n:Nat}
theorem qz:(bV op lat c to fa ta fb tb v f).length=18:=by simp[bV,bq.b_]
theorem H7:takeN 18 (bV op lat c to fa ta fb tb v f)=some (bV op lat c to fa ta fb tb v f):=by have:=wo (c:=bV op lat c to fa ta fb tb v f);rwa [qz] at this
theorem Z8:bI 18 (bV op lat c to fa ta fb tb v f)=true:=by have:=vm (c:=bV op lat c to fa ta fb tb v f);rwa [qz] at this
theorem aaf {Wa KK Yv Yy v' : Int} {c' SA SG : V} {f' : List UInt8}:over (bV op lat c to fa ta fb tb v f) (bV Wa KK c' tp SA Yv SG Yy v' f')=bV Wa KK c' tp SA Yv SG Yy v' f' := qZ (by rw[qz,qz])
theorem za (h1:c.one=true) (U:fa.one=true) (h3:fb.one=true):bE (bV op lat c to fa ta fb tb v f)=true:=by
  have h:=@bq.eW to;simp only[bV,bE,Ln,mS,h1];rw[Gp,h];simp only[bE,Ln,V',U,h3,Hr]
theorem Ec (h1:c.cc=true) (U:fa.cc=true) (h3:fb.cc=true):bm (bV op lat c to fa ta fb tb v f)=true:=by
  have h:=@bq.cN to;have app:∀{a b:List V},bm a=true→bm b=true→bm (a++b)=true:=by
    intro a;induction a with
    | nil=>intro b _ h;exact h
    | cons x a ih=>intro b h1 U;simp only[bm,a_,fN] at h1 ⊢;exact⟨h1.1,ih h1.2 U⟩
  simp only[bV,bm,V.cc,mS,h1];exact app h (by simp[bm,V.cc,U,h3])
theorem Eb:a9 (bV op lat c to fa ta fb tb v f)=bV op lat c.erase to fa.erase ta fb.erase tb v f:=by
  have h:=@bq.cM to;have app:∀{a b:List V},a9 (a++b)=a9 a++a9 b:=by
    intro a;induction a with
    | nil=>intro b;rfl
    | cons x a ih=>intro b;simp only[a9,fN,ih]
  simp only[bV,a9,V.erase,app,h]
theorem uZ:(bV op lat c to fa ta fb tb v f).drop 12=[fa,.int .i64 ta,fb,.int .i64 tb,.int .i64 v,.str f]:=by
  simp only[bV,A5];exact List.drop_left' bq.b_
theorem Z9:bf false 1 (bV op lat c to fa ta fb tb v f)=some (.int .i64 op):=rfl
theorem Z_:bf false 1 ((bV op lat c to fa ta fb tb v f).drop 1)=some (.int .i64 lat):=rfl
theorem aad:bf false 1 ((bV op lat c to fa ta fb tb v f).drop 2)=some c:=rfl
theorem aae:takeN 9 ((bV op lat c to fa ta fb tb v f).drop 3)=some to.enc:=MA bq.b_
theorem Z':takeN 2 ((bV op lat c to fa ta fb tb v f).drop 12)=some [fa,.int .i64 ta]:=by rw[uZ];rfl
theorem aaa:takeN 2 ((bV op lat c to fa ta fb tb v f).drop 14)=some [fb,.int .i64 tb]:=by rw[show 14=12+2 from rfl,←uR,uZ];rfl
theorem aab:bf false 1 ((bV op lat c to fa ta fb tb v f).drop 16)=some (.int .i64 v):=by rw[show 16=12+4 from rfl,←uR,uZ];rfl
theorem aac:bf false 1 ((bV op lat c to fa ta fb tb v f).drop 17)=some (.str f):=by rw[show 17=12+5 from rfl,←uR,uZ];rfl
theorem Z0:bI 1 (bV op lat c to fa ta fb tb v f)=true:=rfl
theorem Z1:bI 1 ((bV op lat c to fa ta fb tb v f).drop 1)=true:=rfl
theorem Z6:bI 1 ((bV op lat c to fa ta fb tb v f).drop 2)=true:=rfl
theorem Z7:bI 9 ((bV op lat c to fa ta fb tb v f).drop 3)=true:=by obtain⟨tv,te⟩:=to;induction te using aN.abw;rfl
theorem Z2:bI 2 ((bV op lat c to fa ta fb tb v f).drop 12)=true:=by rw[uZ];rfl
theorem Z3:bI 2 ((bV op lat c to fa ta fb tb v f).drop 14)=true:=by rw[show 14=12+2 from rfl,←uR,uZ];rfl
theorem Z4:bI 1 ((bV op lat c to fa ta fb tb v f).drop 16)=true:=by rw[show 16=12+4 from rfl,←uR,uZ];rfl
theorem Z5:bI 1 ((bV op lat c to fa ta fb tb v f).drop 17)=true:=by rw[show 17=12+5 from rfl,←uR,uZ];rfl
theorem aag:over (bV op lat c to fa ta fb tb v f) [.int .i64 i]=bV i lat c to fa ta fb tb v f:=by rw[bV,oh,me];rfl
theorem aah:setAt (bV op lat c to fa ta fb tb v f) 1 [.int .i64 i]=bV op i c to fa ta fb tb v f:=by rw[bV,jH,lJ,oh,me];rfl
theorem aao:setAt (bV op lat c to fa ta fb tb v f) 2 [d]=bV op lat d to fa ta fb tb v f:=by rw[bV,jH,jH,lJ,oh,me];rfl
theorem aap:setAt (bV op lat c to fa ta fb tb v f) 3 tp.enc=bV op lat c tp fa ta fb tb v f:=by
  rw[bV,jH,jH,jH,lJ,Wd (by rw[bq.b_,bq.b_];exact bt _),bq.eX];rfl
theorem zb {m:List V} {k:Nat}:setAt (bV op lat c to fa ta fb tb v f) (12+k) m = .int .i64 op::.int .i64 lat::c::(to.enc++setAt [fa,.int .i64 ta,fb,.int .i64 tb,.int .i64 v,.str f] k m):=by
  rw[show 12+k=(9+k)+1+1+1 by omega,bV,jH,jH,jH];congr 3;have key:∀(a b:List V) (n:Nat),setAt (a++b) (a.length+n) m=a++setAt b n m:=by
    intro a;induction a with
    | nil=>intro b n;rw[dv,gQ];rfl
    | cons x a ih=>intro b n;rw[fN,cG,show a.length+1+n=(a.length+n)+1 by omega,jH,ih];rfl
  have:=key to.enc [fa,.int .i64 ta,fb,.int .i64 tb,.int .i64 v,.str f] k
  rw[bq.b_] at this;exact this
theorem aai:setAt (bV op lat c to fa ta fb tb v f) 12 [d,.int .i64 i]=bV op lat c to d i fb tb v f:=zb (k:=0)
theorem aak:setAt (bV op lat c to fa ta fb tb v f) 14 [d,.int .i64 i]=bV op lat c to fa ta d i v f:=zb (k:=2)
theorem aam:setAt (bV op lat c to fa ta fb tb v f) 16 [.int .i64 i]=bV op lat c to fa ta fb tb i f:=zb (k:=4)
theorem aan:setAt (bV op lat c to fa ta fb tb v f) 17 [.str g]=bV op lat c to fa ta fb tb v g:=zb (k:=5)
theorem aaj:setAt (bV op lat c to fa ta fb tb v f) 12 r.enc=bV op lat c to (.sl .no 10 (r.fs.map bF.enc)) r.tail fb tb v f:=zb (k:=0)
theorem aal:setAt (bV op lat c to fa ta fb tb v f) 14 r.enc=bV op lat c to fa ta (.sl .no 10 (r.fs.map bF.enc)) r.tail v f:=zb (k:=2)
theorem jj.cM:a9 x.enc=x.enc:=Eb
theorem jj.cN:bm x.enc=true:=Ec rfl rfl rfl
def iF:=And.intro @qz <| And.intro @H7 <| And.intro @Z8 <| And.intro @aaf <| And.intro @Z9 <| And.intro @Z_ <| And.intro @aad <| And.intro @aae <| And.intro @Z' <| And.intro @aaa <| And.intro @aab <| And.intro @aac <| And.intro @Z0 <| And.intro @Z1 <| And.intro @Z6 <| And.intro @Z7 <| And.intro @Z2 <| And.intro @Z3 <| And.intro @Z4 <| And.intro @Z5 <| And.intro @aag <| And.intro @aah <| And.intro @aao <| And.intro @aap <| And.intro @aai <| And.intro @aak <| And.intro @aam <| And.intro @aan <| And.intro @aaj @aal
end
def dP (op:Int) (k:UInt8):Nat:=(bT op).2.count k
def mL (l:List (List UInt8)):Bool:=l.all cV
def ag.lF (c:ag):Bool:=if dP c.op 110=0 then decide (c.name.text=[]) else cV c.name.text
def ag.i_ (c:ag):Bool :=
  if 0<dP c.op 119 then decide (0<c.names.length)&&mL (c.names.map Word.text)
  else if 0<dP c.op 102 then decide (c.names.length=1)&&mL (c.names.map Word.text)
  else decide (c.names.length=0)
def mf (p:Word × Word):Bool:=cV p.1.text&&cV p.2.text
def ag.jZ (c:ag):Bool:=if dP c.op 112=0 then decide (c.aV.length=0) else c.aV.all mf
def ag.iN (c:ag):Bool :=
  if 0<dP c.op 116 then c.left.dS&&c.right.dS
  else if 0<dP c.op 114 then c.left.h_&&c.right.h_
  else c.left.b9 .zero&&c.right.b9 .zero
def ag.eB (c:ag):Bool:=decide (0≤c.op∧c.op≤15)&&c.lF&&c.i_&&c.jZ&&c.iN
def eb:List (Word × Word)→List (Word × Word)→Bool
  | [],[]=>true
  | p::ps,q::qs=>decide (p.1.text=q.1.text)&&decide (p.2.text=q.2.text)&&eb ps qs
  | _,_=>false
def ag.b9 (a b:ag):Bool:=decide (a.op=b.op)&&decide (a.name.text=b.name.text)&&c9 a.names b.names&&eb a.aV b.aV&&a.left.b9 b.left&&a.right.b9 b.right
theorem XF:∀{a b:List (Word × Word)},eb a b=true→a.length=b.length
  | [],[],_=>rfl
  | [],_::_,h=>by simp[eb] at h
  | _::_,[],h=>by simp[eb] at h
  | _::ws,_::us,h=>by simp only[eb,a_] at h;simp[XF h.2]
theorem XE:∀{a b:List (Word × Word)} {i:Nat} (h:i<a.length) (U:i<b.length),a.length=b.length→eb (a.take i) (b.take i)=true →
    (eb (a.take (i+1)) (b.take (i+1))=(decide (a[i].1.text=b[i].1.text)&&decide (a[i].2.text=b[i].2.text)))∧((decide (a[i].1.text=b[i].1.text)&&decide (a[i].2.text=b[i].2.text))=false→eb a b=false)
  | p :: ps, q :: qs, 0, _, _, _, _ => by
    refine⟨by simp[eb],fun h=>?_⟩;simp only[Zm] at h;simp only[eb,h,Hs]
  | p :: ps, q :: qs, i + 1, h, U, hl, hs => by
    simp only[oE,eb,a_] at hs;obtain⟨k1,k2⟩:=XE (a:=ps) (b:=qs) (i:=i) (by simpa using h) (by simpa using U) (by simpa using hl) hs.2;refine⟨?_,fun h=>?_⟩
    · rw[oE,oE,eb,k1];simp[hs.1.1,hs.1.2]
    · simp only[A9] at h;simp[eb,k2 h]
def oL (s:au) (lat:Nat) (n:Nd):bq:=if n.kind=1 then ⟨cF (jq s.vars n.text),.zero⟩ else ⟨-1,(gF (sQ s lat) (n.kids.getD 0 ja)).1⟩
def r9 (s:au) (lat:Nat) (k:Nd):bF:=⟨k.text,oL s lat (k.kids.getD 0 ja)⟩
def yF (s:au):List Word→Int
  | []=>-1
  | w::_=>cF (jq s.vars w.text)
theorem arF {s:au}:∀{l:List Word} (h:0<l.length),yF s (l.take (0+1))=cF (jq s.vars l[0].text)
  | [],h=>by simp at h
  | _::_,_=>rfl
def la (s:au) (lat:Nat) (n:Nd):dE:=if n.kind=1 then ⟨[],cF (jq s.vars n.text)⟩ else ⟨n.kids.map (r9 s lat),yF s n.names⟩
def YJ (s:au) (v:Option Nat):Int:=match v with | some k=>(match s.vars[k]? with | some x=>x.lat | none=>0) | none=>0
def lU (s:au) (c:ag):jj :=
  if c.op=8 then ⟨8,ca s c,(ln s (ca s c) c.left).getD [],oL s (ca s c).toNat c.right,.zero,.zero,0,[]⟩
  else if c.op=9 then ⟨9,ca s c,[],.zero,la s (ca s c).toNat c.left,la s (ca s c).toNat c.right,0,[]⟩
  else ⟨10,YJ s (jq s.vars c.name.text),[],.zero,.zero,.zero,cF (jq s.vars c.name.text),(c.names.getD 0 ⟨[],0⟩).text⟩
def jy (s:au) (c:ag):Bool:=decide (8≤c.op)&&decide (c.op≤10)&&c.eB&&decide ((jo s c).cls=0)
structure mU (s:au) (c:ag):Prop where
  op:8≤c.op∧c.op≤10
  q:c.eB=true
  none:∀f∈oP s c,f.cls=0
theorem US {s:au} {c:ag}:jy s c=true↔mU s c:=by
  simp only[jy,a_,bH];constructor
  · rintro⟨⟨⟨a,b⟩,d⟩,e⟩;exact⟨⟨a,b⟩,d,(Vf e).2⟩
  · rintro⟨⟨a,b⟩,d,e⟩;exact⟨⟨⟨a,b⟩,d⟩,by rw[jo,Vg e];rfl⟩
section
variable {s:au} {c:ag} {lat:Int}
theorem ash {t:List UInt8} {p k:Int}:∀f∈gg s lat t p k,f.cls≠0:=by
  intro f hf;unfold gg at hf;split at hf
  · split at hf<;>(rw[lS.1 hf];simp)
  · split at hf
    · split at hf
      · rw[lS.1 hf];simp
      · simp at hf
    · simp at hf
theorem akM {w:Word}:∀f∈fy s w,f.cls≠0:=by
  intro f hf;unfold fy at hf;split at hf
  · split at hf<;>(rw[lS.1 hf];simp)
  · simp at hf
theorem VY {l:List aA} (h:∀f∈l,f.cls≠0) (k:∀f∈l,f.cls=0):l=[]:=by
  cases l with
  | nil=>rfl
  | cons f l=>exact absurd (k f (by simp)) (h f (by simp))
theorem asi {t:List UInt8} {p k:Int} (h:gg s lat t p k=[]):∃v,∃hv:v<s.vars.length,jq s.vars t=some v∧s.vars[v].kind=k∧(0≤lat→s.vars[v].lat=lat):=by
  unfold gg at h;split at h
  · split at h<;>simp at h
  · rename_i v hv;have aj:=SK hv;rw[cw aj] at h;simp only at h;split at h
    · simp at h
    · rename_i hn;refine⟨v,aj,hv,?_,fun h0=>?_⟩
      · exact Classical.byContradiction fun hc=>hn (.inl hc)
      · exact Classical.byContradiction fun hc=>hn (.inr ⟨h0,hc⟩)
theorem akP {w:Word} (h:fy s w=[]):∃k,iI s.bj w.text=some k∧k<s.bj.length:=by
  unfold fy at h;split at h
  · split at h<;>simp at h
  · rename_i hn;cases hL:iI s.bj w.text with
    | none=>rw[hL] at hn;simp at hn
    | some k=>exact⟨k,rfl,(EI hL).1⟩
theorem mU.akU (h:mU s c) (h9:c.op=8∨c.op=9):∃k,iI s.bj c.name.text=some k∧k<s.bj.length:=by
  refine akP (VY akM fun f hf=>h.none f ?_);unfold oP;rw[ah (by omega),ah (by omega)]
  by_cases h8:c.op=8
  · rw[ak h8];simp[hf]
  · rw[ah h8,ak (by omega)];simp[hf]
theorem mU.ca (h:mU s c) (h9:c.op=8∨c.op=9):∃k:Nat,ca s c=k∧k<s.bj.length:=by
  obtain⟨k,e,hk⟩:=h.akU h9;exact⟨k,by rw[Go.Am.ca,e];rfl,hk⟩
theorem LX (h:c.eB=true):c.lF=true∧c.i_=true∧c.jZ=true∧c.iN=true:=by
  simp only[ag.eB,a_] at h;exact⟨h.1.1.1.2,h.1.1.2,h.1.2,h.2⟩
theorem mU.labels (h:mU s c) (h8:c.op=8):c.left.dS=true∧c.right.dS=true:=by
  have:=(LX h.q).2.2.2
  rw[ag.iN,h8] at this;simpa [show dP 8 116=2 from by decide] using this
theorem mU.rows (h:mU s c) (h9:c.op=9):c.left.h_=true∧c.right.h_=true:=by
  have:=(LX h.q).2.2.2
  rw[ag.iN,h9] at this;simpa [show dP 9 116=0 from by decide,show dP 9 114=2 from by decide] using this
theorem mU.one (h:mU s c) (gS:c.op=10):∃w,c.names=[w]∧cV w.text=true:=by
  have:=(LX h.q).2.1
  rw[ag.i_,gS] at this;simp only[show dP 10 119=0 from by decide,show dP 10 102=1 from by decide,Nat.lt_irrefl,bP,Nat.zero_lt_one,b7,a_,bH] at this
  match hq:c.names,this.1 with
  | [w],_=>exact⟨w,rfl,by have:=this.2;rw[hq] at this;simpa [mL] using this⟩
theorem mU.var (h:mU s c) (gS:c.op=10):∃v,∃hv:v<s.vars.length,jq s.vars c.name.text=some v∧s.vars[v].kind=2:=by
  have:gg s (-1) c.name.text c.name.pos 2=[]:=VY ash fun f hf=>h.none f (by unfold oP;rw[ak gS];exact hf)
  obtain⟨v,hv,h1,U,_⟩:=asi this;exact⟨v,hv,h1,U⟩
theorem mU.right (h:mU s c) (h8:c.op=8):c.right.kind=1∨c.right.kind=7:=by
  have hl:=(h.labels h8).2;rw[Nd.qS] at hl
  by_cases h1:c.right.kind=1
  · exact .inl h1
  · by_cases h7:c.right.kind=7
    · exact .inr h7
    · rw[ah h1,ah h7] at hl
      by_cases Ty:c.right.kind=8∨c.right.kind=9
      · have:=h.none ⟨6,c.right.pos⟩ (by unfold oP;rw[ah (by omega),ah (by omega),ak h8];simp[u7,Ty])
        simp at this
      · rw[ah Ty] at hl;simp at hl
end
def SS (k:Nd):Prop:=0<k.kids.length∧∀a∈k.kids,a.kind=1∨0<a.kids.length
theorem GQ {n:Nd} (h:n.h_=true):∀k∈n.kids,SS k:=by
  rcases C5 h with ⟨_,_,_,hf⟩ | ⟨h1,h⟩
  · intro k hk;obtain⟨_,_,_,a,ha,hq⟩:=EH (hf k hk);refine⟨by rw[ha];simp,fun b hb=>?_⟩;rw[ha] at hb;obtain rfl:=lS.1 hb;have hl:=Eg hq;simp only[Nd.mZ,a_,kK,bH] at hq
    rcases hq.1 with h | h
    · exact .inl h
    · exact .inr (by rw[Cz hl h];omega)
  · rw[Nd.qS,ak h1] at h;intro k hk;simp only[Nd.jA,a_,bH] at h
    have:n.kids.length=0:=by have:=h.2;omega
    exact absurd (List.length_pos_of_mem hk) (by omega)
theorem Xc {n:Nd} (h:n.h_=true):n.names.length≤1:=by
  rcases C5 h with ⟨_,_,hn,_⟩ | ⟨h1,h⟩
  · rcases hn with h | ⟨w,h,_⟩<;>rw[h]<;>simp
  · rw[Nd.qS,ak h1] at h;simp only[Nd.jA,a_,bH] at h
    have:n.names.length=0:=by have:=h.2;omega
    omega
def CS (r:Rl) (p:Int × Int):Rl:=if (0≤p.1∧p.1<(bp r:Nat))∧0≤p.2∧p.2<(bp r:Nat) then r.put p.1.toNat (jg (r.get p.1.toNat) p.2) else r
def oe (n:Int) (l:List (Int × Int)):Rl:=l.foldl CS (Rl.of (min n.toNat 64:Nat) fun _=>0#64)
theorem anH {n:Int} {l:List (Int × Int)} {i:Nat} (hi:i<l.length):oe n (l.take (i+1))=CS (oe n (l.take i)) l[i]:=by
  rw[oe,oe,kP hi,A7];rfl
def dm (l:List Word):List (List UInt8):=l.map Word.text
theorem AX {l:List Word}:(dm l).length=l.length:=by simp[dm]
def Gx (l:List (List UInt8)) (p:Word × Word):Int × Int:=(cF (gn l p.1.text),cF (gn l p.2.text))
def sM (c:ag):Rl:=pM (oe (c.names.length:Nat) (c.aV.map (Gx (dm c.names))))
def GF (l:List bg):bg:=⟨true,l.flatMap bg.bd⟩
def pq (s:au) (w:Word):List bg:=match iI s.bj w.text with | some k=>(match s.bj[k]? with | some x=>[x.shape] | none=>[]) | none=>[]
def rb (s:au) (c:ag):bg:=GF (c.names.flatMap (pq s))
def au.Ak (s:au):Prop:=s.ok∧∀l∈s.bj,l.shape.bd.length≤100
def qj (op:Int):Bool:=decide (1≤op)&&decide (op≤5)
def sW (op:Int):Bool:=decide (op=6)||decide (op=7)
def qi (s:au) (t:List UInt8):Bool:=(iI s.bj t).isSome
def fZ (s:au) (t:List UInt8):Bool:=(iI s.bj t).isSome||(jq s.vars t).isSome
def dj (b:Bool) (x y:Int):List aA:=if b then [⟨x,y⟩] else []
def o8 (s:au) (c:ag):List aA :=
  if qj c.op then dj (fZ s c.name.text) 3 c.name.pos
  else dj (!fZ s c.name.text) 3 c.name.pos++dj (fZ s c.name.text&&!qi s c.name.text) 4 c.name.pos
def ql (s:au) (c:ag) (i:Nat):List aA :=
  let w:=c.names.getD i ⟨[],0⟩
  if c.op=3 then dj (!fZ s w.text) 3 w.pos++dj (fZ s w.text&&!qi s w.text) 4 w.pos
  else dj ((gn ((dm c.names).take i) w.text).isSome||(sW c.op&&fZ s w.text)) 3 w.pos
def jY (s:au) (c:ag) (m:Nat):List aA:=(List.range m).flatMap (ql s c)
def qm (c:ag) (w:Word):List aA:=dj (gn (dm c.names) w.text).isNone 3 w.pos
def nH (c:ag) (p:Word × Word):List aA:=qm c p.1++qm c p.2
def qq (c:ag):List aA:=c.aV.flatMap (nH c)
def og (c:ag):List aA:=if c.op=5∧c.names.length≤64 then dj (!po (sM c)) 5 c.lG else []
def mI (s:au) (c:ag):List aA :=
  if c.op=6∨c.op=7 then dj (decide ((64:Int) - (s.vars.length:Nat)<(c.names.length:Nat))) 7 c.pos
  else dj (decide ((if c.op=3 then (8:Int) else if c.op=4 then 8 else 64)<((if c.op=3 then (rb s c).bd.length else c.names.length):Nat))||decide (16≤s.bj.length)) 7 c.pos
def uu (s:au) (c:ag):List aA:=o8 s c++jY s c c.names.length++qq c++og c++mI s c
def ot (s:au) (c:ag):aA:=if qj c.op||sW c.op then fz (uu s c) else .zero
section
variable {s:au} {c:ag}
theorem pD {b:Bool} {x y:Int}:(dj b x y).length≤1:=by unfold dj;split<;>simp
theorem aja:(o8 s c).length≤2:=by
  have h1:=@pD (fZ s c.name.text) 3 c.name.pos;have U:=@pD (!fZ s c.name.text) 3 c.name.pos;have h3:=@pD (fZ s c.name.text&&!qi s c.name.text) 4 c.name.pos;unfold o8;split
  · omega
  · rw[bw];omega
theorem amG {i:Nat}:(ql s c i).length≤2:=by
  unfold ql;simp only;split
  · rw[bw];have U:=@pD (!fZ s (c.names.getD i ⟨[],0⟩).text) 3 (c.names.getD i ⟨[],0⟩).pos;have h3:=@pD (fZ s (c.names.getD i ⟨[],0⟩).text&&!qi s (c.names.getD i ⟨[],0⟩).text) 4 (c.names.getD i ⟨[],0⟩).pos;omega
  · exact uS pD (by omega)
theorem V1 {m:Nat}:jY s c (m+1)=jY s c m++ql s c m:=by rw[jY,rK,wC];simp[jY]
theorem Lf:∀{m:Nat},(jY s c m).length≤2*m
  | 0=>by simp[jY]
  | m + 1 => by
    have h1:=@Lf m;have U:=@amG s c m;rw[V1,bw];omega
theorem aoR {p:Word × Word}:(nH c p).length≤2:=by
  unfold nH qm;rw[bw];have h1:=@pD (gn (dm c.names) p.1.text).isNone 3 p.1.pos;have U:=@pD (gn (dm c.names) p.2.text).isNone 3 p.2.pos;omega
theorem WK {l:List (Word × Word)}:(l.flatMap (nH c)).length≤2*l.length:=by
  have:=BF (f:=nH c) (m:=2) (l:=l) fun _ _=>aoR
  omega
theorem an5:(og c).length≤1:=by
  unfold og;split
  · exact pD
  · simp
theorem alo:(mI s c).length≤1:=by unfold mI;split<;>exact pD
end
structure Rm where
  bytes:Int
  D':Int
  frames:Int
def Rm.enc (r:Rm):List V:=[.int .i64 r.bytes,.int .i64 r.D',.int .i64 r.frames]
section
variable {r:Rm} {n:Nat} {a b c:V}
theorem Rm.b_:r.enc.length=3:=rfl
theorem Rm.eW:bE r.enc=true:=rfl
theorem Rm.cN:bm r.enc=true:=rfl
theorem Rm.cM:a9 r.enc=r.enc:=rfl
theorem Rm.bY:bx n r.enc=true:=rfl
theorem Rm.dU:takeN 3 r.enc=some r.enc:=rfl
theorem Rm.fK:bf true 3 r.enc=some (.agg r.enc):=rfl
theorem Rm.fq:bI 3 r.enc=true:=rfl
theorem Rm.eX:over [a,b,c] r.enc=r.enc:=rfl
theorem Rm.r_b:bf false 1 r.enc=some (.int .i64 r.bytes):=rfl
theorem Rm.LQ:bf false 1 (r.enc.drop 1)=some (.int .i64 r.D'):=rfl
theorem Rm.C1:bf false 1 (r.enc.drop 2)=some (.int .i64 r.frames):=rfl
def Rm.af:=And.intro @Rm.b_ <| And.intro @Rm.eW <| And.intro @Rm.cN <| And.intro @Rm.cM <| And.intro @Rm.bY <| And.intro @Rm.dU <| And.intro @Rm.fK <| And.intro @Rm.fq <| And.intro @Rm.eX <| And.intro @Rm.r_b <| And.intro @Rm.LQ @Rm.C1
end
def yC (op:Int):Bool:=decide (1≤op)&&decide (op≤10)
def y_ (op:Int):Bool:=decide (8≤op)&&decide (op≤10)
def kX (r:Rm) (c:ag):Bool :=
  (yC c.op&&(decide (1024<((fc c).length:Int))||decide (IntKind.i64.wrap (16383 - (fc c).length)<r.bytes)))||(y_ c.op&&decide (64≤r.D'))||(decide (c.op=11)&&decide (16≤r.frames))
def kz (s:au) (r:Rm) (c:ag):List aA:=[ot s c,jo s c]++dj (kX r c) 7 c.pos++dj (decide (c.op=12)&&decide (r.frames≤1)) 8 c.pos
def S0 (f:Int × Int):aA:=⟨f.1,f.2⟩
def jW (s:au) (r:Rm) (t:List UInt8):ag × jj × aA :=
  if (cO t).2.1≠0 then (.zero,.zero,S0 (cO t).2)
  else if (fz (kz s r (cO t).1)).cls≠0 then (.zero,.zero,fz (kz s r (cO t).1))
  else ((cO t).1,if jy s (cO t).1 then lU s (cO t).1 else .zero,.zero)
def iZ (τ:Nat) (l:List aA) (s:au) (c:ag):List V:=[.sl .no 3 (s.bj.map dX.enc),.sl .no 3 (s.vars.map df.enc),
  .int .i64 c.op,.int .i64 c.pos,.str c.name.text,.int .i64 c.name.pos,.sl .no 2 (c.names.map Word.enc),.sl .no 4 (c.aV.map dT),.int .i64 c.lG,
  .int .i64 c.left.kind,.int .i64 c.left.pos,.str c.left.text,.sl .no 2 (c.left.names.map Word.enc),.sl .no 5 (c.left.kids.map Nd.enc),.int .i64 c.right.kind,.int .i64 c.right.pos,.str c.right.text,.sl .no 2 (c.right.names.map Word.enc),.sl .no 5 (c.right.kids.map Nd.enc),
  .sl (.tk τ) 2 (l.map aA.enc)]
def dk (σ:ae) (b τ:Nat) (l:List aA) (s:au) (c:ag):ae:=(σ.set b (iZ τ l s c)).aL τ l.length
section
variable {σ σ' : ae} {b b' τ υ n:Nat} {l:List aA} {s:au} {c:ag} {x y:Int} {d:List V}
theorem KC:(dk σ b τ l s c).box b=some (iZ τ l s c):=by simp[dk,ae.set,ae.aL]
theorem ud (h:b' ≠ b):(dk σ b τ l s c).box b' = σ.box b' := by simp[dk,ae.set,ae.aL,h]
theorem U0:(dk σ b τ l s c).aC τ=some l.length:=by simp[dk,ae.set,ae.aL]
theorem UZ (h:b' ≠ b):(dk σ b τ l s c).set b' d=dk (σ.set b' d) b τ l s c:=by
  simp only[dk,ae.set,ae.aL,ae.mk.injEq,fO];funext z
  by_cases h1:z=b'
  · subst h1;simp[h]
  · simp[h1]
theorem akl:((dk σ b τ l s c).aL τ (l.length+1)).set b ((iZ τ l s c).take 19++[.sl (.tk τ) 2 (l.map aA.enc++[[.int .i64 x,.int .i64 y]])])=dk σ b τ (l++[⟨x,y⟩]) s c:=by
  simp only[dk,iZ,ae.set,ae.aL,ae.mk.injEq,fE,bC,dp,aA.enc,bw,iE,fO];constructor
  · funext z
    by_cases h1:z=b<;>simp[h1]
  · funext z
    by_cases h1:z=τ<;>simp[h1]
theorem akm (h:σ.box b=none) (ht:σ.aC τ=none):σ.sub (dk σ b τ l s c):=by
  refine⟨fun x cs hx=>?_,fun t m hm=>?_,fun _ _ h=>h⟩
  · have:x≠b:=by rintro rfl;rw[h] at hx;simp at hx
    rw[ud this];exact hx
  · have:t≠τ:=by rintro rfl;rw[ht] at hm;simp at hm
    simp[dk,ae.set,ae.aL,this];exact hm
theorem UY (h:b' ≠ b) (hn:σ.box b' = none):(dk σ b τ l s c).sub (dk (σ.set b' d) b τ l s c):=by
  refine⟨fun x cs hx=>?_,fun t m hm=>?_,fun _ _ h=>h⟩
  · by_cases h1:x=b
    · subst h1;rw[KC] at hx ⊢;exact hx
    · rw[ud h1] at hx ⊢
      have:x≠b' := by rintro rfl;rw[hn] at hx;simp at hx
      simp only[ae.set,this,bP];exact hx
  · simpa [dk,ae.set,ae.aL] using hm
theorem j_f:bf false 1 ((iZ τ l s c).drop 19)=some (.sl (.tk τ) 2 (l.map aA.enc)):=rfl
theorem j_s:takeN 2 (iZ τ l s c)=some s.enc:=rfl
theorem j_c:takeN 17 ((iZ τ l s c).drop 2)=some c.enc:=rfl
theorem j_l:bf false 1 (iZ τ l s c)=some (.sl .no 3 (s.bj.map dX.enc)):=rfl
theorem j_v:bf false 1 ((iZ τ l s c).drop 1)=some (.sl .no 3 (s.vars.map df.enc)):=rfl
theorem j_o:bf false 1 ((iZ τ l s c).drop 2)=some (.int .i64 c.op):=rfl
theorem j_p:bf false 1 ((iZ τ l s c).drop 3)=some (.int .i64 c.pos):=rfl
theorem j_t:bf false 1 ((iZ τ l s c).drop 4)=some (.str c.name.text):=rfl
theorem j_a:bf false 1 ((iZ τ l s c).drop 5)=some (.int .i64 c.name.pos):=rfl
theorem j_n:bf false 1 ((iZ τ l s c).drop 6)=some (.sl .no 2 (c.names.map Word.enc)):=rfl
theorem j_r:bf false 1 ((iZ τ l s c).drop 7)=some (.sl .no 4 (c.aV.map dT)):=rfl
theorem j_q:bf false 1 ((iZ τ l s c).drop 8)=some (.int .i64 c.lG):=rfl
theorem j_h:bI 1 ((iZ τ l s c).drop 19)=true:=rfl
theorem j_w {v:V}:setAt (iZ τ l s c) 19 [v]=(iZ τ l s c).take 19++[v]:=rfl
def j0 (s:au):List V:=[.sl .no 3 (s.bj.map dX.enc),.sl .no 3 (s.vars.map df.enc),.int .i64 0,.int .i64 0,.str [],.int .i64 0,.sl .full 2 [],.sl .full 4 [],.int .i64 0,.int .i64 0,.int .i64 0,.str [],.sl .full 2 [],.sl .full 5 [],.int .i64 0,.int .i64 0,.str [],.sl .full 2 [],.sl .full 5 [],.sl .full 2 []]
def jz (s:au) (c:ag):List V:=(iZ 0 [] s c).take 19++[.sl .full 2 []]
theorem aj9:over [.sl .full 3 [],.sl .full 3 [],.int .i64 0,.int .i64 0,.str [],.int .i64 0,.sl .full 2 [],.sl .full 4 [],.int .i64 0,.int .i64 0,.int .i64 0,.str [],.sl .full 2 [],.sl .full 5 [],.int .i64 0,.int .i64 0,.str [],.sl .full 2 [],.sl .full 5 [],.sl .full 2 []] s.enc=j0 s:=rfl
theorem aj8:bI 17 ((j0 s).drop 2)=true:=rfl
theorem aj_:setAt (j0 s) 2 c.enc=jz s c:=by rw[ag.enc,ag.cp];rfl
theorem aku:(jz s c).length=20:=rfl
theorem akw:bE (jz s c)=true:=rfl
theorem akv:bm (jz s c)=true:=rfl
theorem akx:takeN 20 (jz s c)=some (jz s c):=rfl
def U1:=And.intro @aj9 <| And.intro @aj8 <| And.intro @aj_ <| And.intro @aku <| And.intro @akw <| And.intro @akv @akx
def hC:=And.intro @KC <| And.intro @U0 <| And.intro @j_f <| And.intro @j_s <| And.intro @j_c <| And.intro @j_l <| And.intro @j_v <| And.intro @j_o <| And.intro @j_p <| And.intro @j_t <| And.intro @j_a <| And.intro @j_n <| And.intro @j_r <| And.intro @j_q <| And.intro @j_h @j_w
end
section
variable {s:au} {lat p:Int}
end
theorem alq {r:Rm} {c:ag} (h:kX r c=true):c.op≠12:=fun e=>by
  simp[kX,yC,y_,e] at h
theorem KU {s:au} {r:Rm} {t:List UInt8} (h:(cO t).2.1≠0):jW s r t=(.zero,.zero,S0 (cO t).2):=by rw[jW,ak h]
theorem KV {s:au} {r:Rm} {t:List UInt8} (h:(cO t).2.1=0) (h' : (fz (kz s r (cO t).1)).cls≠0):jW s r t=(.zero,.zero,fz (kz s r (cO t).1)):=by rw[jW,ah (by simpa using h),ak h']
theorem Gb {s:au} {r:Rm} {t:List UInt8} (h:(cO t).2.1=0) (h' : (fz (kz s r (cO t).1)).cls=0):jW s r t=((cO t).1,if jy s (cO t).1 then lU s (cO t).1 else .zero,.zero):=by
  rw[jW,ah (by simpa using h),ah (by simpa using h')]
structure CB (B:Nat) (c:ag):Prop where
  ns:dL c.names≤B
  ps:c.aV.length≤B
  l:c.left.wt≤B
  r:c.right.wt≤B
  nm:c.name.text.length≤B
  pt:jc c.aV≤34*B
theorem Si {r r' : ab} {seg:List Tree} (h:gy r r' seg):gX seg≤gX r.l:=by
  obtain⟨pre,post,e,_,_⟩:=h.ex;rw[e,uA,uA];omega
theorem MZ {r:ab} (hg:dr r.l) (hb:r.bad=none):r.word.1.text.length≤16:=by
  cases h:(r.take 97).2.bad with
  | none=>exact MF ((ml h).1.good hg).1
  | some b =>
    have:(r.take 97).1 = .zero:=by
      unfold ab.take at h ⊢;split
      · rename_i hs;rw[ak hs] at h;simp[hb] at h
      · rfl
    simp[ab.word,this,Tree.zero,Tree.tok]
theorem YR {r:ab} (hg:dr r.l):r.word.1.text.length≤16:=by
  cases hb:r.bad with
  | none=>exact MZ hg hb
  | some a =>
    have:r.sees 97=false:=by simp[ab.sees,ab.ok,hb]
    simp[ab.word,ab.take,this,Tree.zero,Tree.tok]
theorem WN {l:List (Word × Word)} {p:Word × Word}:jc (l++[p])=jc l+(p.1.text.length+p.2.text.length+2):=by simp[jc]
theorem Wn:∀(n:Nat) (i:ab) (acc:List (Word × Word)),dr i.l→jc (ab.fp n i acc).2≤jc acc+34*n
  | 0,_,_,_=>by simp[ab.fp]
  | n + 1, i, acc, hg => by
    have e1:(i.word.2.take 60).2.l=i.l:=by rw[ab.eC];exact ab.eC i 97
    have e2:((i.word.2.take 60).2.word).2.l=i.l:=by rw[←e1];exact ab.eC _ 97
    have w1:=YR hg;have w2:((i.word.2.take 60).2.word).1.text.length≤16:=YR (by rw[e1];exact hg);simp only[ab.fp];split
    · simp only;omega
    · split
      · simp only[WN];omega
      · have:=Wn n (((i.word.2.take 60).2.word).2.take 44).2 (acc++[(i.word.1,((i.word.2.take 60).2.word).1)]) (by rw[ab.eC,e2];exact hg)
        simp only[WN] at this;omega
theorem arL {r:ab} {k:Int} (hg:dr r.l):dr (r.take k).1.kids:=by
  cases h:(r.take k).2.bad with
  | none=>exact((vk _).1 ((ml h).1.good hg).1).2.2
  | some b =>
    have:(r.take k).1.kids=[]:=by
      rcases r.rr k with ⟨_,_,hb,_⟩ | ⟨hs,_⟩
      · rw[h] at hb;simp at hb
      · simp[ab.take,hs,Tree.zero,Tree.kids]
    rw[this];trivial
theorem Wl:∀(n:Nat) (i:ab) (acc:List (Word × Word)),(ab.fp n i acc).2.length≤acc.length+n
  | 0,_,_=>by simp[ab.fp]
  | n + 1, i, acc => by
    simp only[ab.fp];split
    · simp only;omega
    · split
      · simp
      · have:=Wl n (((i.word.2.take 60).2.word).2.take 44).2 (acc++[(i.word.1,((i.word.2.take 60).2.word).1)])
        simp only[bw,cG,dv] at this;omega
theorem V3 {B:Nat} {c:ag} (h:CB B c) {r:ab} {g:Nd × Int × Option Int} (hg:g.1.wt≤B):CB B (gW r c g).2:=by
  unfold gW;cases g.2.2 with
  | some a=>exact h
  | none =>
    simp only;split
    · exact⟨h.ns,h.ps,hg,h.r,h.nm,h.pt⟩
    · exact⟨h.ns,h.ps,h.l,hg,h.nm,h.pt⟩
theorem W5 {one:ab→Nd × ab} {Q:Nd→Prop} (hs:Sound one Nd.cE Q SN) {l:List Tree} (hg:dr l) (a fin:Int):(eh one l a fin).1.wt≤gX l+4:=by
  unfold eh;cases hb:(one ⟨l,a,fin,none⟩).2.bad with
  | some b=>simp only[Ho];omega
  | none =>
    obtain⟨seg,e1,_,_,e4⟩:=hs ⟨l,a,fin,none⟩ hg hb
    have:=Si e1
    simp only[SN] at e4 this ⊢;omega
theorem aos {B:Nat} {k:UInt8} {x:ab × ag} (hg:dr x.1.l) (hB:gX x.1.l+20≤B) (h:CB B x.2):CB B (cB k x).2:=by
  obtain⟨r,c⟩:=x;simp only at hg hB h;unfold cB;simp only;split
  · exact h
  rename_i hb;have hb:r.bad=none:=by simpa using hb
  split
  · exact⟨h.ns,h.ps,h.l,h.r,by have:=MZ hg hb;simp only;omega,h.pt⟩
  split
  · refine⟨?_,h.ps,h.l,h.r,h.nm,h.pt⟩
    have:=MZ hg hb
    simp[dL];omega
  split
  · refine⟨?_,h.ps,h.l,h.r,h.nm,h.pt⟩;show dL (ib r.l r.at_ r.fin).1≤B;unfold ib;cases hw:((⟨r.l,r.at_,r.fin,none⟩:ab).words false).2.bad with
    | some b=>simp[dL]
    | none =>
      obtain⟨t,e1,_,_,_,e5⟩:=M0 (r:=⟨r.l,r.at_,r.fin,none⟩) hg hw
      have:=Si e1
      simp only at this ⊢;omega
  split
  · unfold mN;simp only;split
    · exact⟨h.ns,h.ps,h.l,h.r,h.nm,h.pt⟩
    · have g1:=Wn ((r.take 123).1.kids.length+1) (r.take 123).1.inner [] (arL hg);have g2:=kB (r.take 123).1.kids;have g3:=(r.sS 123).1;refine⟨h.ns,?_,h.l,h.r,h.nm,by simp only[gX,jc,dp,oD] at hB g1 ⊢;omega⟩;have h1:=Wl ((r.take 123).1.kids.length+1) (r.take 123).1.inner [];have U:=kB (r.take 123).1.kids;have h3:=(r.sS 123).1;simp only[gX,dv] at hB h1 ⊢;omega
  split
  · exact V3 h (by have:=W5 (F1 (aP r.l)) hg r.at_ r.fin;omega)
  split
  · exact V3 h (by have:=W5 (Xh (aP r.l)) hg r.at_ r.fin;omega)
  · exact h
theorem Ww {B:Nat} {l:List Tree} {fin:Int} (hg:dr l) (hB:gX l+20≤B):∀(ks:List UInt8) (x:ab × ag),iR l fin x→CB B x.2→CB B (gq ks x).2
  | [],_,_,h=>h
  | k::ks,x,hi,h=>Ww hg hB ks _ (Wq hi k) (aos (by rw[hi.hl];exact hg) (by rw[hi.hl];exact hB) h)
theorem AY {B:Nat} (h:4≤B):CB B ag.zero:=⟨by simp[ag.zero,dL],by simp[ag.zero],by simp only[ag.zero,Ho];omega,by simp only[ag.zero,Ho];omega,by simp[ag.zero],by simp[ag.zero,jc]⟩
theorem ad' {B:Nat} {x:ab × ag} (h4:4≤B) (h:CB B x.2):CB B (tB x).1:=by
  unfold tB;split
  · exact AY h4
  · exact h
theorem ab7 {B:Nat} {l:List Tree} {fin:Int} (hg:dr l) (hB:gX l+20≤B):CB B (qA l fin).1:=by
  unfold qA;split
  · exact AY (by omega)
  · rename_i t ts;simp only;split
    · exact AY (by omega)
    · refine ad' (by omega) (Ww hg hB _ _ (fin:=fin) ?_ ?_)
      · exact iR.goes (x:=(⟨t::ts,0,fin,none⟩,ag.zero)) ⟨rfl,rfl,by simp,by simp only;omega,fun _=>by simp only;omega⟩ rfl (vj _) (Df _ 97)
      · have h:=AY (B:=B) (by omega);exact⟨h.ns,h.ps,h.l,h.r,h.nm,h.pt⟩
theorem apW (s:List UInt8):CB (26*s.length+20) (cO s).1:=by
  unfold cO;rw[yJ];split
  · exact AY (by omega)
  · split
    · exact AY (by omega)
    · refine ab7 (Vr s) ?_
      have:=Vs s
      simp only[gX];omega
theorem Ay:∀a b:List Word,c9 a b=decide (a.map Word.text=b.map Word.text)
  | [],[]=>by simp[c9]
  | [],_::_=>by simp[c9]
  | _::_,[]=>by simp[c9]
  | w::ws,u::us=>by simp[c9,Ay ws us]
def Word.mp (π:Int→Int) (w:Word):Word:=⟨w.text,π w.pos⟩
mutual
def Nd.mp (π:Int→Int):Nd→Nd
  | .mk k p t ws ks=>.mk k (π p) t (ws.map (Word.mp π)) (vT π ks)
def vT (π:Int→Int):List Nd→List Nd
  | []=>[]
  | n::ns=>n.mp π::vT π ns
end
def aA.mp (π:Int→Int) (f:aA):aA:=if f.cls=0 then f else ⟨f.cls,π f.loc⟩
def ag.mp (π:Int→Int) (c:ag):ag:=⟨c.op,π c.pos,c.name.mp π,c.names.map (Word.mp π),c.aV.map fun p=>(p.1.mp π,p.2.mp π),π c.lG,c.left.mp π,c.right.mp π⟩
section
variable {π:Int→Int}
theorem VN:∀{l:List Nd},vT π l=l.map (Nd.mp π)
  | []=>rfl
  | n::ns=>by rw[vT,VN];rfl
theorem lE (n:Nd):(n.mp π).kind=n.kind:=by cases n;rw[Nd.mp];rfl
theorem yj (n:Nd):(n.mp π).pos=π n.pos:=by cases n;rw[Nd.mp];rfl
theorem ma (n:Nd):(n.mp π).text=n.text:=by cases n;rw[Nd.mp];rfl
theorem qV (n:Nd):(n.mp π).names=n.names.map (Word.mp π):=by cases n;rw[Nd.mp];rfl
theorem jX (n:Nd):(n.mp π).kids=n.kids.map (Nd.mp π):=by cases n;rw[Nd.mp,←VN];rfl
theorem yO {w:Word}:(w.mp π).text=w.text:=rfl
theorem yN {w:Word}:(w.mp π).pos=π w.pos:=rfl
theorem LZ {l:List Word}:gv (l.map (Word.mp π))=gv l:=by simp[gv,s5,Word.mp]
theorem Vc (n:Nd):(n.mp π).jA=n.jA:=by simp[Nd.jA,ma,qV,jX]
theorem Rr (n:Nd):(n.mp π).jK=n.jK:=by simp[Nd.jK,ma,qV]
theorem aqm (n:Nd):(n.mp π).mP=n.mP:=by simp[Nd.mP,lE,ma,qV,jX,LZ]
theorem Bi {f:Nd→Bool}:∀{l:List Nd},(∀n∈l,f (n.mp π)=f n)→(l.map (Nd.mp π)).all f=l.all f
  | [],_=>rfl
  | n::ns,h=>by rw[bC,rG,rG,h n (by simp),Bi fun m hm=>h m (by simp[hm])]
theorem Nd.ind {P:Nd→Prop} (h:∀n,(∀m∈n.kids,P m)→P n) (n:Nd):P n:=by
  obtain⟨k,hk⟩:∃k,n.bS≤k:=⟨_,bt _⟩;induction k generalizing n with
  | zero=>have:=Nd.qB n;omega
  | succ k ih=>exact h n fun m hm=>ih m (by have:=oQ hm;omega)
theorem R2 (n:Nd):(n.mp π).gE=n.gE:=by
  induction n using Nd.ind with
  | h n ih=>simp only[Nd.wU,lE,ma,qV,jX,LZ,Vc,Rr,aE,Bi ih,Bi fun m _=>aqm m]
theorem TY {f:Nd→Bool} (h:∀n,f (n.mp π)=f n):∀{l:List Nd},se f (l.map (Nd.mp π))=se f l
  | []=>rfl
  | n::_=>h n
theorem FZ (n:Nd):(n.mp π).dS=n.dS:=by
  induction n using Nd.ind with
  | h n ih=>simp only[Nd.qS,lE,jX,Vc,Rr,aE,Bi ih,TY R2]
theorem aat (n:Nd):(n.mp π).mZ=n.mZ:=by simp only[Nd.mZ,lE,FZ]
theorem aeT (n:Nd):(n.mp π).kh=n.kh:=by simp only[Nd.kh,lE,ma,qV,jX,aE,TY aat]
theorem aqf (n:Nd):(n.mp π).h_=n.h_:=by simp only[Nd.h_,lE,ma,qV,jX,aE,LZ,Bi fun m _=>aeT m,FZ]
theorem XM:∀{l m:List Word},c9 (l.map (Word.mp π)) m=c9 l m
  | [],[]=>rfl
  | [],_::_=>rfl
  | _::_,[]=>rfl
  | w::ws,u::us=>by simp only[bC,c9,XM];rfl
theorem aqH (n:Nd):(n.mp π).b9 .zero=n.b9 .zero:=by
  simp only[Nd.Ax,lE,ma,qV,jX,XM];congr 1;show cH (n.kids.map (Nd.mp π)) []=cH n.kids [];cases n.kids<;>rfl
theorem M5 {l:List Word}:dm (l.map (Word.mp π))=dm l:=by simp[dm,s5,Word.mp]
theorem ap6 (c:ag):(c.mp π).eB=c.eB:=by
  have e1:(c.mp π).names.map Word.text=c.names.map Word.text:=by simp[ag.mp,s5,Word.mp]
  have e2:(c.mp π).lF=c.lF:=rfl;have e3:(c.mp π).i_=c.i_:=by simp only[ag.i_,e1];simp[ag.mp]
  have e4:(c.mp π).jZ=c.jZ:=by simp only[ag.jZ];simp[ag.mp,s5,Word.mp];rfl
  have e5:(c.mp π).iN=c.iN:=by simp only[ag.iN];simp only[ag.mp,FZ,aqf,aqH]
  simp only[ag.eB,e2,e3,e4,e5];rfl
theorem LI {l:List (List UInt8)}:∀{ws:List Word} {s:aY},f_ l s (ws.map (Word.mp π))=((f_ l s ws).1,(f_ l s ws).2.map π)
  | [],_=>rfl
  | w :: ws, s => by
    simp only[bC,f_,yO,yN];cases gn l w.text with
    | none=>rfl
    | some k=>exact LI
theorem Xm {f:aZ}:∀{ks:List Nd} {s:aY},sO f s (ks.map (Nd.mp π))=((sO f s ks).1,(sO f s ks).2.map π)
  | [],_=>rfl
  | k :: ks, s => by
    simp only[bC,sO,ma,yj,qV,LI];cases gn f.names k.text with
    | none=>rfl
    | some o =>
      simp only;cases (f_ f.names 0#64 k.names).2 with
      | some p=>rfl
      | none=>exact Xm
theorem atA {f:aZ} (n:Nd):sY f (n.mp π)=((sY f n).1,(sY f n).2.map π):=by
  unfold sY;rw[lE,qV,jX,LI,Xm,nI,nI,ma,yj];split
  · split
    · rfl
    · split
      · rfl
      · cases gn f.names n.text<;>rfl
  · rfl
theorem xr {ks:List Nd} {i:Nat} (h:i<ks.length):(ks.map (Nd.mp π)).getD i ja=(ks.getD i ja).mp π:=by simp[List.getD,h]
theorem atB {s:bg} {ks:List Nd} {i:Nat} (h:i<ks.length):jh s (ks.map (Nd.mp π)) i=((jh s ks i).1,(jh s ks i).2.map π):=by
  rw[jh,jh,xr h,atA]
theorem ad7 {s:bg} {ks:List Nd} (h:s.bd.length≤ks.length):tz s (ks.map (Nd.mp π))=((tz s ks).1,(tz s ks).2.map π):=by
  have e:∀i,i<s.bd.length→jh s (ks.map (Nd.mp π)) i=((jh s ks i).1,(jh s ks i).2.map π):=fun i hi=>atB (by omega)
  have e1:(List.range s.bd.length).find? (fun i=>(jh s (ks.map (Nd.mp π)) i).2.isSome)=(List.range s.bd.length).find? (fun i=>(jh s ks i).2.isSome) :=
    find_congr fun i hi=>by rw[e i (by simpa using hi)];simp
  unfold tz;rw[e1];cases hf:(List.range s.bd.length).find? (fun i=>(jh s ks i).2.isSome) with
  | some i =>
    have hi:i<s.bd.length:=by simpa using NC hf
    simp only[e i hi]
  | none =>
    have e2:(fun j=>if j<s.bd.length then (jh s (ks.map (Nd.mp π)) j).1 else 0#64)=fun j=>if j<s.bd.length then (jh s ks j).1 else 0#64:=funext fun j=>by
      split
      · rename_i hj;rw[e j hj]
      · rfl
    simp only[e2];rfl
theorem IB {s:bg} (n:Nd):gF s (n.mp π)=((gF s n).1,(gF s n).2.map π):=by
  have e1:nG s (n.mp π)=nG s n:=by simp only[nG,lE,jX,aE]
  have e2:jb s (n.mp π)=(jb s n).map (Nd.mp π):=by unfold jb;split<;>simp[jX]
  unfold gF;rw[e1,R2];split
  · rename_i h;rw[e2];refine ad7 ?_;simp only[a_] at h;obtain⟨⟨h1,U⟩,_⟩:=h;unfold nG at h1;unfold jb;cases ht:s.tuple with
    | true=>rw[ht] at h1;simp only[Bool.not_true,yT,a_,bH] at h1;simp[h1.2]
    | false =>
      simp only[lL,ht,a_,kK,bH,cI,false_or] at U;simp[U.1.2]
  · simp[yj]
theorem afe {f:aA}:(f.mp π).cls=f.cls:=by unfold aA.mp;split<;>rfl
theorem vf {x y:Int} (h:x≠0):(aA.mk x y).mp π=⟨x,π y⟩:=by rw[aA.mp,ah (by exact h)]
theorem sT {b:Bool} {x y:Int} (h:x≠0):dj b x (π y)=(dj b x y).map (aA.mp π):=by cases b<;>simp[dj,vf h]
theorem BG {α β:Type} {f:α→List aA} {g:β→List aA} {m:α→β}:∀{l:List α},(∀x∈l,g (m x)=(f x).map (aA.mp π))→(l.map m).flatMap g=(l.flatMap f).map (aA.mp π)
  | [],_=>rfl
  | x::l,h=>by rw[bC,nQ,nQ,fE,h x (by simp),BG fun y hy=>h y (by simp[hy])]
theorem IM {f g:Nat→List aA}:∀{l:List Nat},(∀x∈l,g x=(f x).map (aA.mp π))→l.flatMap g=(l.flatMap f).map (aA.mp π)
  | [],_=>rfl
  | x::l,h=>by rw[nQ,nQ,fE,h x (by simp),IM fun y hy=>h y (by simp[hy])]
variable {s:au} {lat:Int}
theorem He {t:List UInt8} {p k:Int}:gg s lat t (π p) k=(gg s lat t p k).map (aA.mp π):=by
  unfold gg;cases jq s.vars t with
  | none=>simp only;split<;>simp[vf]
  | some v =>
    simp only;cases s.vars[v]? with
    | none=>rfl
    | some x=>simp only;split<;>simp[vf]
theorem akO {w:Word}:fy s (w.mp π)=(fy s w).map (aA.mp π):=by
  unfold fy;rw[yO,yN];split
  · split<;>simp[vf]
  · rfl
theorem ad8 {n:Nd} (h:0<n.kids.length):tA s lat (n.mp π)=(tA s lat n).map π:=by rw[tA,tA,jX,xr h,IB]
theorem Ri (n:Nd):jm s lat (n.mp π)=(jm s lat n).map (aA.mp π):=by
  unfold jm;rw[lE,ma,yj,He];split
  · rfl
  · split
    · unfold wY;rw[jX,aE];split
      · rename_i h;rw[ad8 h.1];cases tA s lat n<;>simp[vf]
      · rfl
    · rfl
theorem akH (n:Nd):eG s lat (n.mp π)=(eG s lat n).map (aA.mp π):=by
  induction n using Nd.ind with
  | h n ih =>
    rw[FY,FY,lE,jX,Ri,fE];congr 1;split
    · rfl
    · exact BG ih
theorem arW {ks:List Nd} {i:Nat}:((ks.map (Nd.mp π)).take i).map Nd.text=(ks.take i).map Nd.text:=by
  rw[←List.map_take,A'];exact List.map_congr_left fun n _=>ma n
theorem ap' {p:Int} (n:Nd):mg s lat (π p) (n.mp π)=(mg s lat p n).map (aA.mp π):=by
  unfold mg;rw[lE,ma,yj,He,jX,qV,aE];split
  · rfl
  · split
    · rw[fE,fE];congr 1
      · congr 1
        · refine IM fun i hi=>?_
          have hi:i<n.kids.length:=by simpa using hi
          rw[xd,xd,fE,xr hi];congr 1
          · rw[r7,r7,arW,xr hi,ma,yj];split<;>simp[vf]
          · rw[jX];exact BG fun m _=>Ri m
        · exact BG fun w _=>by rw[yO,yN,He]
      · split<;>simp[vf]
    · rfl
theorem ab3 {c:ag}:oP s (c.mp π)=(oP s c).map (aA.mp π):=by
  have e:ca s (c.mp π)=ca s c:=rfl;unfold oP;rw[e];simp only[ag.mp,yO,yN,He,akO,akH,ap'];have hd:u7 (c.right.mp π)=(u7 c.right).map (aA.mp π):=by unfold u7;rw[lE,yj];split<;>simp[vf]
  rw[hd]
  repeat' split
  all_goals simp only[fE,dp]
theorem apY {c:ag}:sM (c.mp π)=sM c:=by
  rw[sM,sM]
  have:(c.mp π).aV.map (Gx (dm (c.mp π).names))=c.aV.map (Gx (dm c.names)):=by
    simp only[ag.mp,M5,A'];rfl
  rw[this];simp only[ag.mp,aE]
theorem aoT {c:ag}:rb s (c.mp π)=rb s c:=by
  rw[rb,rb];congr 1;simp only[ag.mp,List.flatMap_map];rfl
theorem aqM {c:ag}:uu s (c.mp π)=(uu s c).map (aA.mp π):=by
  have h1:o8 s (c.mp π)=(o8 s c).map (aA.mp π):=by
    show (if qj c.op then dj (fZ s c.name.text) 3 (π c.name.pos) else dj (!fZ s c.name.text) 3 (π c.name.pos)++dj (fZ s c.name.text&&!qi s c.name.text) 4 (π c.name.pos))=_;unfold o8
    by_cases h:qj c.op=true
    · rw[ak h,ak h];exact sT (by decide)
    · rw[ah h,ah h,fE,sT (by decide),sT (by decide)]
  have U:∀i,i<c.names.length→ql s (c.mp π) i=(ql s c i).map (aA.mp π):=fun i hi=>by
    have e:(c.mp π).names.getD i ⟨[],0⟩=(c.names.getD i ⟨[],0⟩).mp π:=by simp[ag.mp,List.getD,hi]
    have e1:dm (c.mp π).names=dm c.names:=M5;have e2:(c.mp π).op=c.op:=rfl;unfold ql;rw[e,e1,e2];simp only[yO,yN];split
    · rw[fE,sT (by decide),sT (by decide)]
    · exact sT (by decide)
  have h3:qq (c.mp π)=(qq c).map (aA.mp π):=by
    have e1:dm (c.mp π).names=dm c.names:=M5;refine BG (l:=c.aV) (f:=nH c) (g:=nH (c.mp π)) fun p _=>?_
    rw[nH,nH,qm,qm,qm,qm,e1,fE,yO,yN,yO,yN,sT (by decide),sT (by decide)]
  have h4:og (c.mp π)=(og c).map (aA.mp π):=by
    unfold og;rw[apY];simp only[ag.mp,aE];split
    · exact sT (by decide)
    · rfl
  have h5:mI s (c.mp π)=(mI s c).map (aA.mp π):=by
    unfold mI;rw[aoT];simp only[ag.mp,aE];split<;>exact sT (by decide)
  have hn:(c.mp π).names.length=c.names.length:=by simp[ag.mp]
  rw[uu,uu,h1,h3,h4,h5,hn,jY,jY,IM (f:=ql s c) fun i hi=>U i (by simpa using hi)];simp only[fE]
theorem KO {l:List aA}:(fz l).cls=0↔∀f∈l,f.cls=0 :=
  ⟨fun h=>(Vf h).2,fun h=>by rw[Vg h];rfl⟩
theorem Ve {l:List aA}:(fz (l.map (aA.mp π))).cls=0↔(fz l).cls=0:=by
  rw[KO,KO];simp[afe]
theorem Rh {lat:Nat} {n:Nd} (h:n.kind=1∨0<n.kids.length):oL s lat (n.mp π)=oL s lat n:=by
  unfold oL;rw[lE,ma,jX];split
  · rfl
  · rename_i h1;rw[xr (h.resolve_left h1),IB]
theorem ak' {lat:Nat} {n:Nd} (h:n.kind=1∨0<n.kids.length):l_ s lat (n.mp π)=l_ s lat n:=by
  unfold l_;rw[lE,ma,jX];split
  · rfl
  · rename_i h1;rw[xr (h.resolve_left h1),IB];simp only;cases (gF (sQ s lat) (n.kids.getD 0 ja)).2<;>rfl
theorem R0 {lat:Nat}:∀{l:List Nd},(∀m∈l,lV s lat (m.mp π)=lV s lat m)→nX s lat (l.map (Nd.mp π))=nX s lat l
  | [],_=>rfl
  | n::ns,h=>by rw[bC,nX,nX,h n (by simp),R0 fun m hm=>h m (by simp[hm])]
theorem aca {lat:Nat} (n:Nd):n.dS=true→lV s lat (n.mp π)=lV s lat n:=by
  induction n using Nd.ind with
  | h n ih =>
    intro hq;rw[Ir,Ir,lE,jX];have ho:qo (n.mp π)=qo n:=by simp only[qo,lE,jX,aE]
    rw[ho];split
    · rename_i h;rw[ak' ?_]
      rcases h with h | h
      · exact .inl h
      · exact .inr (by rw[Cz hq h];omega)
    · rename_i h;rw[R0 fun m hm=>ih m hm (U3 hq h m hm)]
theorem Xk {lat:Nat} {n:Nd} (h:∀k∈n.kids,0<k.kids.length∧∀a∈k.kids,a.kind=1∨0<a.kids.length):la s lat (n.mp π)=la s lat n:=by
  unfold la;rw[lE,ma,jX,qV,A'];have e1:n.kids.map (r9 s lat∘Nd.mp π)=n.kids.map (r9 s lat):=List.map_congr_left fun k hk=>by
    obtain⟨h1,U⟩:=h k hk;show r9 s lat (k.mp π)=_;rw[r9,r9,ma,jX,xr h1,Rh]
    have:k.kids.getD 0 ja∈k.kids:=by rw[oX h1];exact fD _
    exact U _ this
  have e2:yF s (n.names.map (Word.mp π))=yF s n.names:=by cases n.names<;>rfl
  rw[e1,e2]
end
def kQ {β:Type} (f:β→β→Bool):List β→List β→Bool
  | [],[]=>true
  | x::xs,y::ys=>f x y&&kQ f xs ys
  | _,_=>false
theorem HZ:∀a b:List Nd,kQ Nd.b9 a b=cH a b
  | [],[]=>by simp[kQ,cH]
  | [],_::_=>by simp[kQ,cH]
  | _::_,[]=>by simp[kQ,cH]
  | x::xs,y::ys=>by simp[kQ,cH,HZ xs ys]
def mR (a b:Word):Bool:=decide (a.text=b.text)
theorem HY:∀a b:List Word,kQ mR a b=c9 a b
  | [],[]=>rfl
  | [],_::_=>rfl
  | _::_,[]=>rfl
  | x::xs,y::ys=>by simp[kQ,c9,mR,HY xs ys]
def at_ (pre us:List Tree) (fin:Int) (k:Nat):ab:=⟨pre++us,((pre.length+k:Nat):Int),fin,none⟩
theorem mi {pre post:List Tree} {t:Tree} {fin k:Int}:(at_ pre (t::post) fin 0).sees k=decide (t.tok.kind=k):=by
  simp[at_,ab.sees,ab.ok,a8]
theorem XY {pre:List Tree} {fin k:Int}:(at_ pre [] fin 0).sees k=false:=by
  simp[at_,ab.sees,ab.ok,a8]
theorem lO {pre post:List Tree} {t:Tree} {fin k:Int} (h:t.tok.kind=k):(at_ pre (t::post) fin 0).take k=(t,at_ (pre++[t]) post fin 0):=by
  have hs:=mi (pre:=pre) (post:=post) (t:=t) (fin:=fin) (k:=k);rw[aD h] at hs;rw[ab.take,ak hs];simp[at_]
def pF {β:Type} (one:Nat→ab→β × ab) (sm:β→β→Bool) (x:β) (sh:List Sh):Prop :=
  ∀toks:List Tok,toks.map Tok.sh=sh→∃us:List Tree,us≠[]∧aU us=toks∧ec us ∧
    ∀N,aP us≤N→∀(pre post:List Tree) (fin:Int),∃y,one N (at_ pre (us++post) fin 0)=(y,at_ (pre++us) post fin 0)∧sm y x=true
theorem C7 {t:List UInt8} {toks:List Tok} (h:toks.map Tok.sh=[eH t]):∃p,toks=[⟨97,t,p⟩]:=by
  match toks,h with
  | [⟨k, s, p⟩], h =>
    simp[Tok.sh,eH] at h;exact⟨p,by rw[h.1,h.2]⟩
theorem rn {c:UInt8} {toks:List Tok} (h:toks.map Tok.sh=[bl c]):∃p,toks=[⟨(c.toNat:Nat),[c],p⟩]:=by
  match toks,h with
  | [⟨k, s, p⟩], h =>
    simp[Tok.sh,bl] at h;exact⟨p,by rw[h.1,h.2]⟩
theorem sB {t:Tok} (h1:closing t.kind=0) (U:jN t.kind=false):aU [.mk t [] t.pos]=[t]∧ec [.mk t [] t.pos]:=by
  refine⟨by simp[aU,Tree.flat,h1],?_⟩;simp[ec,Tree.WF,U]
theorem uK (w:Word):pF (fun _=>ab.word) mR w [eH w.text]:=by
  intro toks h;obtain⟨p,rfl⟩:=C7 h;obtain⟨f1,f2⟩:=sB (t:=⟨97,w.text,p⟩) rfl rfl;refine⟨_,by simp,f1,f2,fun N _ pre post fin=>⟨⟨w.text,p⟩,?_,by simp[mR]⟩⟩
  have:=lO (pre:=pre) (post:=post) (t:=.mk ⟨97,w.text,p⟩ [] p) (fin:=fin) (k:=97) rfl
  simp only[lT,ab.word,this];rfl
theorem rl {m n:Nd} (k:m.kind=n.kind) (t:m.text=n.text) (w:c9 m.names n.names=true) (s:cH m.kids n.kids=true):m.b9 n=true:=by
  rw[Nd.Ax,aD k,aD t,w,s];rfl
theorem KN {k:Int} {n:Nd} (hk:n.kind=k) (h:n.jA=true):pF (fun _=>ab.leaf k) Nd.b9 n [eH n.text]:=by
  intro toks ht;obtain⟨us,h1,U,h3,h4⟩:=uK ⟨n.text,0⟩ toks ht;refine⟨us,h1,U,h3,fun N hN pre post fin=>?_⟩;obtain⟨y,e1,e2⟩:=h4 N hN pre post fin;refine⟨.mk k y.pos y.text [] [],by simp only[ab.leaf,e1],?_⟩;simp only[Nd.jA,a_,bH] at h;have hn:n.names=[]:=iD.1 (by omega);have e9:n.kids=[]:=iD.1 (by omega);simp only[mR,bH] at e2;exact rl hk.symm e2 (show c9 [] n.names=true by rw[hn];rfl) (show cH [] n.kids=true by rw[e9];simp[cH])
def DV (post:List Tree):Prop:=∀t r,post=t::r→t.tok.kind≠44
theorem amK {pre post:List Tree} {fin:Int} (h:DV post):(at_ pre post fin 0).sees 44=false:=by
  cases post with
  | nil=>exact XY
  | cons t r=>rw[mi];exact aB (h t r rfl)
section
variable {β:Type} {one:Nat→ab→β × ab} {sm:β→β→Bool} {S:β→List Sh}
theorem Tf:∀(xs:List β),(∀x∈xs,pF one sm x (S x))→∀toks:List Tok,toks.map Tok.sh=(xs.map S).flatMap (fun y=>bl 44::y) →
    ∃us:List Tree,aU us=toks∧ec us∧xs.length≤us.length∧∀N,aP us≤N→∀(pre post:List Tree) (fin:Int) (n:Nat) (acc:List β),xs.length≤n→DV post →
      ∃ys,gR (bJ (one N)) n (at_ pre (us++post) fin 0,acc)=(at_ (pre++us) post fin 0,acc++ys)∧kQ sm ys xs=true
  | [], _, toks, ht => by
    have:toks=[]:=by simpa using ht
    subst this;refine⟨[],rfl,trivial,by simp,fun N _ pre post fin n acc _ hp=>⟨[],?_,rfl⟩⟩;cases n with
    | zero=>simp[gR]
    | succ n=>rw[gR];simp[amK hp]
  | x :: xs, h, toks, ht => by
    simp only[bC,nQ] at ht;obtain⟨t1,t3,rfl,h1,h3⟩:=ij.1 ht;obtain⟨tc,t2,rfl,hc,U⟩:=ij.1 (show t1.map Tok.sh=[bl 44]++S x from h1);obtain⟨p,rfl⟩:=rn hc;obtain⟨f1,f2⟩:=sB (t:=⟨((44:UInt8).toNat:Nat),[44],p⟩) rfl rfl;obtain⟨ux,n1,e1,w1,b1⟩:=h x (by simp) t2 U;obtain⟨us,e2,w2,l2,b2⟩:=Tf xs (fun y hy=>h y (by simp[hy])) t3 h3;generalize hT:(Tree.mk ⟨((44:UInt8).toNat:Nat),[44],p⟩ [] p)=T at f1 f2;have hk:T.tok.kind=44:=by rw[←hT];rfl
    refine⟨[T]++ux++us,?_,?_,?_,?_⟩
    · rw[gp,gp,e1,e2,←f1,←hT]
    · rw[iS,iS];exact⟨⟨by rw[←hT] at f2 ⊢;exact f2,w1⟩,w2⟩
    · simp only[bw,cG,dv];omega
    · intro N hN pre post fin n acc hn hp;simp only[qk] at hN;obtain⟨n,rfl⟩:∃m,n=m+1:=⟨n - 1,by simp at hn;omega⟩;obtain⟨y,q1,q2⟩:=b1 N (by omega) (pre++[T]) (us++post) fin;obtain⟨ys,q3,q4⟩:=b2 N (by omega) (pre++[T]++ux) post fin n (acc++[y]) (by simp at hn;omega) hp;refine⟨y::ys,?_,by simp[kQ,q2,q4]⟩;have es:[T]++ux++us++post=T::(ux++(us++post)):=by simp
      rw[es,gR];simp only[mi,hk,bZ,b7];rw[lO hk];simp only[bJ,q1];rw[show pre++([T]++ux++us)=pre++[T]++ux++us by simp,q3];simp
theorem Yg {x:β} {xs:List β} (h:∀y∈x::xs,pF one sm y (S y)) {toks:List Tok} (ht:toks.map Tok.sh=dw ((x::xs).map S)) :
    ∃us:List Tree,us≠[]∧aU us=toks∧ec us∧∀N,aP us≤N→∀(pre post:List Tree) (fin:Int),DV post →
      ∃ys,da (bJ (one N)) (at_ pre (us++post) fin 0)=(at_ (pre++us) post fin 0,ys)∧kQ sm ys (x::xs)=true:=by
  simp only[bC,dw] at ht;obtain⟨t1,t2,rfl,h1,U⟩:=ij.1 ht;obtain⟨ux,n1,e1,w1,b1⟩:=h x (by simp) t1 h1;obtain⟨us,e2,w2,l2,b2⟩:=Tf xs (fun y hy=>h y (by simp[hy])) t2 U;refine⟨ux++us,by simp[n1],by rw[gp,e1,e2],by rw[iS];exact⟨w1,w2⟩,fun N hN pre post fin hp=>?_⟩;rw[qk] at hN;obtain⟨y,q1,q2⟩:=b1 N (by omega) pre (us++post) fin;obtain⟨ys,q3,q4⟩:=b2 N (by omega) (pre++ux) post fin (at_ pre (ux++us++post) fin 0).l.length [y] (by simp[at_];omega) hp;refine⟨y::ys,?_,by simp[kQ,q2,q4]⟩;unfold da;simp only[bJ,dt] at q1 q3 ⊢;rw[q1];simp only[gk];rw[q3];simp
theorem ard {a b:UInt8} (h:closing (a.toNat:Nat)=(b.toNat:Nat)):[UInt8.ofNat (closing (a.toNat:Nat)).toNat]=[b]:=by rw[h];simp
theorem H' {a b:UInt8} {e:Bool} {xs:List β} (tL:closing (a.toNat:Nat)=(b.toNat:Nat)) (B0:(b.toNat:Int)≠0) (hca:jN (a.toNat:Nat)=false) (h:∀y∈xs,pF one sm y (S y)) (he:xs=[]→e=true) {toks:List Tok}
    (ht:toks.map Tok.sh=[bl a]++dw (xs.map S)++[bl b]) :
    ∃T:Tree,aU [T]=toks∧ec [T]∧T.tok.kind=(a.toNat:Nat)∧∀N,aP [T]≤N+1→∀(pre post:List Tree) (fin:Int),
      ∃ys p,(at_ pre (T::post) fin 0).bracket (bJ (one N)) (a.toNat:Nat) e=((ys,p),at_ (pre++[T]) post fin 0)∧kQ sm ys xs=true:=by
  obtain⟨t1,t3,rfl,h1,h3⟩:=ij.1 ht;obtain⟨ta,t2,rfl,ha,U⟩:=ij.1 h1;obtain⟨pa,rfl⟩:=rn ha;obtain⟨pb,rfl⟩:=rn h3;have TU:closing (a.toNat:Nat)≠0:=by rw[tL];exact B0
  have key:∃us:List Tree,aU us=t2∧ec us∧∀N,aP us≤N→∀(T:Tree),T.kids=us→∃ys,ab.inside (bJ (one N)) e T=(at_ us [] T.fin 0,ys)∧kQ sm ys xs=true:=by
    cases xs with
    | nil =>
      have:t2=[]:=by simpa [dw] using U
      subst this;refine⟨[],rfl,trivial,fun N _ T hT=>⟨[],?_,rfl⟩⟩;rw[ab.inside,ak ⟨he rfl,by rw[hT];rfl⟩];simp[Tree.inner,at_,hT]
    | cons x xs =>
      obtain⟨us,n1,e1,w1,b1⟩:=Yg h U;refine⟨us,e1,w1,fun N hN T hT=>?_⟩;obtain⟨ys,q1,q2⟩:=b1 N hN [] [] T.fin (fun t r h=>by simp at h);refine⟨ys,?_,q2⟩;rw[ab.inside,ah (fun h=>n1 (by rw[←hT];exact iD.1 h.2))]
      have:T.inner=at_ [] (us++[]) T.fin 0:=by simp[Tree.inner,at_,hT]
      rw[this,q1];simp
  obtain⟨us,e1,w1,b1⟩:=key;refine⟨.mk ⟨(a.toNat:Nat),[a],pa⟩ us pb,?_,?_,rfl,?_⟩
  · simp only[aU,Tree.flat,dn];rw[ak TU,e1,ard tL,tL];simp
  · simp only[ec,Tree.WF];exact⟨⟨hca,fun h=>absurd h TU,w1⟩,trivial⟩
  · intro N hN pre post fin;obtain⟨ys,q1,q2⟩:=b1 N (by simp only[aP,Tree.many] at hN;omega) (.mk ⟨(a.toNat:Nat),[a],pa⟩ us pb) rfl;refine⟨ys,pa,?_,q2⟩;unfold ab.bracket;rw[lO (t:=.mk ⟨(a.toNat:Nat),[a],pa⟩ us pb) (k:=(a.toNat:Nat)) rfl];simp only[q1];have bM:(at_ (pre++[Tree.mk ⟨(a.toNat:Nat),[a],pa⟩ us pb]) post fin 0).ok=true:=rfl;rw[ak bM];have fW:(at_ us [] pb 0).close=at_ us [] pb 0:=by unfold ab.close;rw[ah];simp[at_]
    simp only[ab.under,Tree.fin,fW,Tree.tok];rfl
end
theorem ajb {us:List Tree} {s:Sh} {r:List Sh} (h0:us≠[]) (h:(aU us).map Tok.sh=s::r):∃t ts,us=t::ts∧t.tok.kind=s.1:=by
  cases us with
  | nil=>exact absurd rfl h0
  | cons t ts =>
    refine⟨t,ts,rfl,?_⟩;have e:aU (t::ts)=aU [t]++aU ts:=gp [t] ts;rw[e,EJ] at h;simp only[fN,bC,fM] at h;rw[←h.1];rfl
theorem v9 {pre us post:List Tree} {fin k:Int} {s:Sh} {r:List Sh} {toks:List Tok} (h0:us≠[]) (hf:aU us=toks) (h:toks.map Tok.sh=s::r):(at_ pre (us++post) fin 0).sees k=decide (s.1=k):=by
  obtain⟨t,ts,rfl,hk⟩:=ajb h0 (by rw[hf];exact h);rw[fN,mi,hk]
theorem yi {us:List Tree} (h:us≠[]):1≤aP us:=by
  cases us with
  | nil=>exact absurd rfl h
  | cons t ts=>simp only[aP];omega
theorem Az {c:UInt8} (h:(decide (closing (c.toNat:Nat)=0)&&!jN (c.toNat:Nat))=true) {toks:List Tok} (ht:toks.map Tok.sh=[bl c]):∃T:Tree,aU [T]=toks∧ec [T]∧T.tok.kind=(c.toNat:Nat):=by
  simp only[a_,bH,rD] at h;obtain⟨p,rfl⟩:=rn ht;obtain⟨f1,f2⟩:=sB (t:=⟨(c.toNat:Nat),[c],p⟩) h.1 h.2;exact⟨_,f1,f2,rfl⟩
theorem YT {ws:List Word} {toks:List Tok} (ht:toks.map Tok.sh=[bl 123]++j7 ws++[bl 125]) :
    ∃T:Tree,aU [T]=toks∧ec [T]∧T.tok.kind=123∧∀(pre post:List Tree) (fin:Int),∃ys p,(at_ pre (T::post) fin 0).words true=((ys,p),at_ (pre++[T]) post fin 0)∧c9 ys ws=true:=by
  obtain⟨T,h1,U,h3,h4⟩:=H' (one:=fun _=>ab.word) (sm:=mR) (S:=fun w=>[eH w.text]) (a:=123) (b:=125) (e:=true) (xs:=ws) (by decide) (by decide) (by decide) (fun w _=>uK w) (fun _=>rfl) ht;refine⟨T,h1,U,h3,fun pre post fin=>?_⟩;obtain⟨ys,p,q1,q2⟩:=h4 (aP [T]) (by omega) pre post fin;rw[HY] at q2;exact⟨ys,p,q1,q2⟩
theorem Gj {one:Nat→ab→Nd × ab} {a b:UInt8} {e:Bool} {ks:List Nd} (tL:(decide (closing (a.toNat:Nat)=(b.toNat:Nat))&&decide ((b.toNat:Int)≠0)&&!jN (a.toNat:Nat))=true) (h:∀y∈ks,pF one Nd.b9 y y.fB) (he:ks=[]→e=true) {toks:List Tok}
    (ht:toks.map Tok.sh=[bl a]++dw (fC ks)++[bl b]) :
    ∃T:Tree,aU [T]=toks∧ec [T]∧T.tok.kind=(a.toNat:Nat)∧∀N,aP [T]≤N+1→∀(pre post:List Tree) (fin:Int),
      ∃ys p,(at_ pre (T::post) fin 0).nodes (one N) (a.toNat:Nat) e=((ys,p),at_ (pre++[T]) post fin 0)∧cH ys ks=true:=by
  simp only[a_,bH,rD] at tL;rw[C9] at ht;obtain⟨T,h1,U,h3,h4⟩:=H' (one:=one) (sm:=Nd.b9) (S:=Nd.fB) (e:=e) tL.1.1 tL.1.2 tL.2 h he ht;refine⟨T,h1,U,h3,fun N hN pre post fin=>?_⟩;obtain⟨ys,p,q1,q2⟩:=h4 N hN pre post fin;rw[HZ] at q2;exact⟨ys,p,q1,q2⟩
theorem aqo {n:Nd} (h:n.mP=true):pF (fun _=>ab.rule) Nd.b9 n n.fB:=by
  obtain⟨k,h1,U,h3⟩:=Xo h;intro toks ht;have e:n.fB=[eH n.text]++[bl 58]++([bl 123]++j7 n.names++[bl 125]):=by rw[Nd.jf,k];rfl
  rw[e] at ht;obtain⟨t1,t3,rfl,a1,a3⟩:=ij.1 ht;obtain⟨tw,tc,rfl,aw,ac⟩:=ij.1 a1;obtain⟨uw,n1,f1,w1,b1⟩:=uK ⟨n.text,0⟩ tw aw;obtain⟨C,f2,w2,c2⟩:=Az (by decide) ac;obtain⟨T,f3,w3,c3,b3⟩:=YT a3;refine⟨uw++[C]++[T],by simp,by rw[gp,gp,f1,f2,f3],by rw[iS,iS];exact⟨⟨w1,w2⟩,w3⟩,fun N hN pre post fin=>?_⟩;obtain⟨y,q1,q2⟩:=b1 (aP uw) (bt _) pre ([C]++[T]++post) fin;obtain⟨ys,p,q3,q4⟩:=b3 (pre++uw++[C]) post fin;have q5:=lO (pre:=pre++uw) (post:=[T]++post) (t:=C) (fin:=fin) (k:=58) c2;refine⟨.mk 6 y.pos y.text ys [],?_,?_⟩
  · have es:uw++[C]++[T]++post=uw++([C]++[T]++post):=by simp
    have rf : (at_ pre (uw++([C]++[T]++post)) fin 0).word=(y,at_ (pre++uw) ([C]++[T]++post) fin 0):=q1;have LO : (at_ (pre++uw) ([C]++[T]++post) fin 0).take 58=(C,at_ (pre++uw++[C]) (T::post) fin 0):=q5;simp only[es,ab.rule,rf,LO,q3];simp
  · simp only[mR,bH] at q2;exact rl k.symm q2 q4 (show cH [] n.kids=true by rw[h3];simp[cH])
theorem acg:∀(k:Nat) (n:Nd),n.wt≤k→n.gE=true→pF ab.constant Nd.b9 n n.fB:=by
  intro k;induction k with
  | zero=>intro n h _;cases n;simp only[Nd.wt] at h;omega
  | succ k ih =>
    intro n hk h toks ht
    rcases R6 h with ⟨h1,U⟩ | ⟨h1,U,h3,h4⟩ | ⟨h1,U,h3,h4,h5⟩ | ⟨h1,U,h3,h4⟩
    · have e:n.fB=[eH n.text]:=by rw[Nd.jf,h1];rfl
      rw[e] at ht;obtain⟨us,n1,f1,w1,b1⟩:=KN h1 U toks ht;refine⟨us,n1,f1,w1,fun N hN pre post fin=>?_⟩;have hp:=yi n1;obtain⟨N,rfl⟩:∃m,N=m+1:=⟨N - 1,by omega⟩;obtain⟨y,q1,q2⟩:=b1 _ hN pre post fin;refine⟨y,?_,q2⟩;have s1:=v9 (pre:=pre) (post:=post) (fin:=fin) (k:=123) n1 f1 ht;have s2:=v9 (pre:=pre) (post:=post) (fin:=fin) (k:=40) n1 f1 ht;have s3:=v9 (pre:=pre) (post:=post) (fin:=fin) (k:=91) n1 f1 ht;rw[ab.constant,s1,s2,s3];exact q1
    · have e:n.fB=[bl 123]++j7 n.names++[bl 125]:=by rw[Nd.jf,h1];rfl
      rw[e] at ht;obtain⟨T,f1,w1,c1,b1⟩:=YT ht;refine⟨[T],by simp,f1,w1,fun N hN pre post fin=>?_⟩;have hp:=yi (us:=[T]) (by simp);obtain⟨N,rfl⟩:∃m,N=m+1:=⟨N - 1,by omega⟩;obtain⟨ys,p,q1,q2⟩:=b1 pre post fin;refine⟨.mk 3 p [] ys [],?_,rl h1.symm U.symm q2 (show cH [] n.kids=true by rw[h4];simp[cH])⟩;rw[lT,ab.constant,ak (by rw[mi,c1];rfl),q1]
    · have e:n.fB=[bl 40]++dw (fC n.kids)++[bl 41]:=by rw[Nd.jf,h1];rfl
      rw[e] at ht;obtain⟨T,f1,w1,c1,b1⟩:=Gj (one:=ab.constant) (e:=false) (by decide) (fun m hm=>ih m (by have:=FW hm;omega) (h5 m hm)) (fun h=>absurd h h4) ht;refine⟨[T],by simp,f1,w1,fun N hN pre post fin=>?_⟩;have hp:=yi (us:=[T]) (by simp);obtain⟨N,rfl⟩:∃m,N=m+1:=⟨N - 1,by omega⟩;obtain⟨ys,p,q1,q2⟩:=b1 N hN pre post fin;refine⟨.mk 4 p [] [] ys,?_,rl h1.symm U.symm (show c9 [] n.names=true by rw[h3];rfl) q2⟩;have rf : (at_ pre (T::post) fin 0).nodes (ab.constant N) 40 false=((ys,p),at_ (pre++[T]) post fin 0):=q1;rw[lT,ab.constant,ah (by rw[mi,c1];decide),ak (by rw[mi,c1];rfl),rf]
    · have e:n.fB=[bl 91]++dw (fC n.kids)++[bl 93]:=by rw[Nd.jf,h1];rfl
      rw[e] at ht;obtain⟨T,f1,w1,c1,b1⟩:=Gj (one:=fun _=>ab.rule) (e:=true) (by decide) (fun m hm=>aqo (h4 m hm)) (fun _=>rfl) ht;refine⟨[T],by simp,f1,w1,fun N hN pre post fin=>?_⟩;have hp:=yi (us:=[T]) (by simp);obtain⟨N,rfl⟩:∃m,N=m+1:=⟨N - 1,by omega⟩;obtain⟨ys,p,q1,q2⟩:=b1 N hN pre post fin;refine⟨.mk 5 p [] [] ys,?_,rl h1.symm U.symm (show c9 [] n.names=true by rw[h3];rfl) q2⟩;have rf : (at_ pre (T::post) fin 0).nodes ab.rule 91 true=((ys,p),at_ (pre++[T]) post fin 0):=q1;rw[lT,ab.constant,ah (by rw[mi,c1];decide),ah (by rw[mi,c1];decide),ak (by rw[mi,c1];rfl),rf]
theorem Rj {n:Nd} (h:n.dS=true) (hk:n.kind=1∨n.kind=7):pF ab.atom Nd.b9 n n.fB:=by
  intro toks ht
  rcases CD h with ⟨h1,U⟩ | ⟨h1,U,h3,c,h4,h5⟩ | ⟨h1,_⟩
  · have e:n.fB=[eH n.text]:=by rw[Nd.jf,h1];rfl
    rw[e] at ht;obtain⟨us,n1,f1,w1,b1⟩:=KN h1 U toks ht;refine⟨us,n1,f1,w1,fun N hN pre post fin=>?_⟩;obtain⟨y,q1,q2⟩:=b1 _ hN pre post fin;refine⟨y,?_,q2⟩;have s1:=v9 (pre:=pre) (post:=post) (fin:=fin) (k:=35) n1 f1 ht;rw[ab.atom,s1];exact q1
  · have e:n.fB=[bl 35]++c.fB:=by rw[Nd.jf,h1,h4];rfl
    rw[e] at ht;obtain⟨t1,t2,rfl,a1,a2⟩:=ij.1 ht;obtain⟨C,f2,w2,c2⟩:=Az (by decide) a1;obtain⟨us,n1,f1,w1,b1⟩:=acg _ c (bt _) h5 t2 a2;refine⟨[C]++us,by simp,by rw[gp,f1,f2],by rw[iS];exact⟨w2,w1⟩,fun N hN pre post fin=>?_⟩;rw[qk] at hN;obtain⟨y,q1,q2⟩:=b1 N (by omega) (pre++[C]) post fin;have q5:=lO (pre:=pre) (post:=us++post) (t:=C) (fin:=fin) (k:=35) c2;refine⟨.mk 7 C.tok.pos [] [] [y],?_,rl h1.symm U.symm (show c9 [] n.names=true by rw[h3];rfl) (show cH [y] n.kids=true by rw[h4];simp[cH,q2])⟩;rw[dt,lT,ab.atom,ak (by rw[mi,c2];rfl),q5];simp only[q1];simp
  · omega
theorem akI:∀(k:Nat) (n:Nd),n.wt≤k→n.dS=true→pF ab.label Nd.b9 n n.fB:=by
  intro k;induction k with
  | zero=>intro n h _;cases n;simp only[Nd.wt] at h;omega
  | succ k ih =>
    intro n hk h toks ht
    by_cases eQ:n.kind=1∨n.kind=7
    · obtain⟨us,n1,f1,w1,b1⟩:=Rj h eQ toks ht;refine⟨us,n1,f1,w1,fun N hN pre post fin=>?_⟩;have hp:=yi n1;obtain⟨N,rfl⟩:∃m,N=m+1:=⟨N - 1,by omega⟩;obtain⟨y,q1,q2⟩:=b1 _ hN pre post fin;refine⟨y,?_,q2⟩;obtain⟨s,r,hs,tJ,vl⟩:∃s r,toks.map Tok.sh=s::r∧s.1≠43∧s.1≠38:=by
        rw[ht,Nd.jf]
        rcases eQ with e | e<;>rw[e]
        · exact⟨_,_,rfl,(by decide:(97:Int)≠43),(by decide:(97:Int)≠38)⟩
        · exact⟨_,_,rfl,(by decide:(35:Int)≠43),(by decide:(35:Int)≠38)⟩
      have s1:=v9 (pre:=pre) (post:=post) (fin:=fin) (k:=43) n1 f1 hs;have s2:=v9 (pre:=pre) (post:=post) (fin:=fin) (k:=38) n1 f1 hs;rw[aB tJ] at s1;rw[aB vl] at s2;rw[ab.label,s1,s2];exact q1
    · rcases CD h with ⟨h1,_⟩ | ⟨h1,_⟩ | ⟨h1,U,h3,h4,h5⟩
      · omega
      · omega
      have pZ:=fun m hm=>ih m (by have:=FW hm;omega) (h5 m hm)
      rcases h1 with h1 | h1
      · have e:n.fB=[bl 43]++([bl 40]++dw (fC n.kids)++[bl 41]):=by rw[Nd.jf,h1];rfl
        rw[e] at ht;obtain⟨t1,t2,rfl,a1,a2⟩:=ij.1 ht;obtain⟨C,f2,w2,c2⟩:=Az (by decide) a1;obtain⟨T,f1,w1,c1,b1⟩:=Gj (one:=ab.label) (e:=false) (by decide) pZ (fun h=>absurd h h4) a2;refine⟨[C]++[T],by simp,by rw[gp,f1,f2],by rw[iS];exact⟨w2,w1⟩,fun N hN pre post fin=>?_⟩;rw[qk] at hN;have hp:=yi (us:=[C]) (by simp);obtain⟨N,rfl⟩:∃m,N=m+1:=⟨N - 1,by omega⟩;obtain⟨ys,p,q1,q2⟩:=b1 N (by omega) (pre++[C]) post fin;have q5:=lO (pre:=pre) (post:=T::post) (t:=C) (fin:=fin) (k:=43) c2;refine⟨.mk 8 C.tok.pos [] [] ys,?_,rl h1.symm U.symm (show c9 [] n.names=true by rw[h3];rfl) q2⟩;have rf : (at_ (pre++[C]) (T::post) fin 0).nodes (ab.label N) 40 false=((ys,p),at_ (pre++[C]++[T]) post fin 0):=q1;rw[dt,lT,lT,ab.label,ak (by rw[mi,c2];rfl),q5];simp only[rf];simp
      · have e:n.fB=[bl 38]++([bl 40]++dw (fC n.kids)++[bl 41]):=by rw[Nd.jf,h1];rfl
        rw[e] at ht;obtain⟨t1,t2,rfl,a1,a2⟩:=ij.1 ht;obtain⟨C,f2,w2,c2⟩:=Az (by decide) a1;obtain⟨T,f1,w1,c1,b1⟩:=Gj (one:=ab.label) (e:=false) (by decide) pZ (fun h=>absurd h h4) a2;refine⟨[C]++[T],by simp,by rw[gp,f1,f2],by rw[iS];exact⟨w2,w1⟩,fun N hN pre post fin=>?_⟩;rw[qk] at hN;have hp:=yi (us:=[C]) (by simp);obtain⟨N,rfl⟩:∃m,N=m+1:=⟨N - 1,by omega⟩;obtain⟨ys,p,q1,q2⟩:=b1 N (by omega) (pre++[C]) post fin;have q5:=lO (pre:=pre) (post:=T::post) (t:=C) (fin:=fin) (k:=38) c2;refine⟨.mk 9 C.tok.pos [] [] ys,?_,rl h1.symm U.symm (show c9 [] n.names=true by rw[h3];rfl) q2⟩;have rf : (at_ (pre++[C]) (T::post) fin 0).nodes (ab.label N) 40 false=((ys,p),at_ (pre++[C]++[T]) post fin 0):=q1;rw[dt,lT,lT,ab.label,ah (by rw[mi,c2];decide),ak (by rw[mi,c2];rfl),q5];simp only[rf];simp
theorem aeV {n:Nd} (h:n.kh=true):pF ab.field Nd.b9 n n.fB:=by
  obtain⟨k,h1,U,c,h3,h4⟩:=EH h;intro toks ht;have e:n.fB=[eH n.text]++[bl 61]++c.fB:=by rw[Nd.jf,k,h3];rfl
  rw[e] at ht;obtain⟨t1,t3,rfl,a1,a3⟩:=ij.1 ht;obtain⟨tw,tc,rfl,aw,ac⟩:=ij.1 a1;obtain⟨uw,n1,f1,w1,b1⟩:=uK ⟨n.text,0⟩ tw aw;obtain⟨C,f2,w2,c2⟩:=Az (by decide) ac;have hc:c.kind=1∨c.kind=7:=by simp only[Nd.mZ,a_,kK,bH] at h4;exact h4.1
  obtain⟨ua,n3,f3,w3,b3⟩:=Rj (Eg h4) hc t3 a3;refine⟨uw++[C]++ua,by simp,by rw[gp,gp,f1,f2,f3],by rw[iS,iS];exact⟨⟨w1,w2⟩,w3⟩,fun N hN pre post fin=>?_⟩;rw[qk] at hN;obtain⟨y,q1,q2⟩:=b1 (aP uw) (bt _) pre ([C]++ua++post) fin;obtain⟨z,q3,q4⟩:=b3 N (by omega) (pre++uw++[C]) post fin;have q5:=lO (pre:=pre++uw) (post:=ua++post) (t:=C) (fin:=fin) (k:=61) c2;refine⟨.mk 11 y.pos y.text [] [z],?_,?_⟩
  · have es:uw++[C]++ua++post=uw++([C]++ua++post):=by simp
    have rf : (at_ pre (uw++([C]++ua++post)) fin 0).word=(y,at_ (pre++uw) ([C]++ua++post) fin 0):=q1;have LO : (at_ (pre++uw) ([C]++ua++post) fin 0).take 61=(C,at_ (pre++uw++[C]) (ua++post) fin 0):=q5;simp only[es,ab.field,rf,LO,q3];simp
  · simp only[mR,bH] at q2;exact rl k.symm q2 (show c9 [] n.names=true by rw[U];rfl) (show cH [z] n.kids=true by rw[h3];simp[cH,q4])
theorem Ku (T:Tree):T.inner=at_ [] T.kids T.fin 0:=by simp[Tree.inner,at_]
theorem ab0 {us:List Tree} {fin:Int}:(at_ us [] fin 0).close=at_ us [] fin 0:=by unfold ab.close;rw[ah];simp[at_]
theorem aeX {n:Nd} (h:n.kh=true):∃r,n.fB=eH n.text::r:=by
  obtain⟨k,_,_,c,h3,_⟩:=EH h;exact⟨[bl 61]++c.fB,by rw[Nd.jf,k,h3];rfl⟩
theorem aqd {n:Nd} (hn:n.names=[]∨∃w,n.names=[w]∧cV w.text=true) (hf:∀x∈n.kids,x.kh=true) {toks:List Tok}
    (ht:toks.map Tok.sh=dw (fC n.kids)++(if 0<n.names.length then [bl 124]++j7 n.names else [])) :
    ∃us:List Tree,aU us=toks∧ec us∧∀N,aP us≤N→∀T:Tree,T.kids=us→∃ws ks,ab.rowOf N T=((at_ us [] T.fin 0,ks),ws)∧c9 ws n.names=true∧cH ks n.kids=true:=by
  obtain⟨t1,t2,rfl,a1,a2⟩:=ij.1 ht;have VU:(n.names=[]∧t2=[])∨(∃w C uw,n.names=[w]∧uw≠[]∧aU ([C]++uw)=t2∧ec ([C]++uw)∧C.tok.kind=124∧∀(pre post:List Tree) (fin:Int),∃y,(at_ pre (uw++post) fin 0).word=(y,at_ (pre++uw) post fin 0)∧mR y w=true):=by
    rcases hn with hn | ⟨w,hn,hw⟩
    · left;rw[hn] at a2;exact⟨hn,by simpa using a2⟩
    · right;have e:(if 0<n.names.length then [bl 124]++j7 n.names else [])=[bl 124]++[eH w.text]:=by rw[hn];simp[j7,dw]
      rw[e] at a2;obtain⟨tc,tw,rfl,ac,aw⟩:=ij.1 a2;obtain⟨C,f2,w2,c2⟩:=Az (by decide) ac;obtain⟨uw,n1,f1,w1,b1⟩:=uK w tw aw;exact⟨w,C,uw,hn,n1,by rw[gp,f1,f2],by rw[iS];exact⟨w2,w1⟩,c2,fun pre post fin=>b1 _ (bt _) pre post fin⟩
  have tail:∀(pre:List Tree) (kJ : List Tree) (fin:Int) (ks:List Nd),(n.names=[]∧kJ = []∨∃w C uw,n.names=[w]∧kJ = [C]++uw∧C.tok.kind=124∧∀(pre post:List Tree) (fin:Int),∃y,(at_ pre (uw++post) fin 0).word=(y,at_ (pre++uw) post fin 0)∧mR y w=true) →
      ∃ws,(if (at_ pre kJ fin 0).sees 124=true then (((((at_ pre kJ fin 0).take 124).2.word.2,ks),[((at_ pre kJ fin 0).take 124).2.word.1]):(ab × List Nd) × List Word) else ((at_ pre kJ fin 0,ks),[]))=((at_ (pre++kJ) [] fin 0,ks),ws)∧c9 ws n.names=true:=by
    intro pre kJ fin ks h
    rcases h with ⟨h1,rfl⟩ | ⟨w,C,uw,h1,rfl,h3,h4⟩
    · rw[XY];exact⟨[],by simp,by rw[h1];rfl⟩
    · obtain⟨y,q1,q2⟩:=h4 (pre++[C]) [] fin;rw[dn] at q1;refine⟨[y],?_,by rw[h1];simpa [c9,mR] using q2⟩;rw[lT,mi,h3,ak (by decide),lO h3,q1];simp
  cases hk:n.kids with
  | nil =>
    rw[hk] at a1
    have:t1=[]:=by simpa [fC,dw] using a1
    subst this
    rcases VU with ⟨h1,rfl⟩ | ⟨w,C,uw,h1,h0,U,h3,h4,h5⟩
    · refine⟨[],rfl,trivial,fun N _ T hT=>⟨[],[],?_,by rw[h1];rfl,by simp[cH]⟩⟩;rw[ab.rowOf,ak (by rw[hT];rfl),Ku,hT]
    · refine⟨[C]++uw,by simpa using U,h3,fun N _ T hT=>?_⟩;obtain⟨ws,q1,q2⟩:=tail [] ([C]++uw) T.fin [] (.inr ⟨w,C,uw,h1,rfl,h4,h5⟩);refine⟨ws,[],?_,q2,by simp[cH]⟩;rw[ab.rowOf,ah (by rw[hT];simp),Ku,hT,ab.lI];have hs:(at_ [] ([C]++uw) T.fin 0).sees 124=true:=by rw[lT,mi,h4];rfl
      simp only[hs,b7] at q1 ⊢;rw[q1];simp
  | cons x xs =>
    rw[hk,C9] at a1;obtain⟨us,n1,f1,w1,b1⟩:=Yg (one:=ab.field) (sm:=Nd.b9) (S:=Nd.fB) (x:=x) (xs:=xs) (fun y hy=>aeV (hf y (by rw[hk];exact hy))) a1;obtain⟨r,hr⟩:=aeX (hf x (by rw[hk];simp));have ajj:t1.map Tok.sh=eH x.text::(r++(xs.map Nd.fB).flatMap fun y=>bl 44::y):=by rw[a1];simp[dw,hr]
    have go:∀(kJ : List Tree),DV kJ → (n.names=[]∧kJ = []∨∃w C uw,n.names=[w]∧kJ = [C]++uw∧C.tok.kind=124∧∀(pre post:List Tree) (fin:Int),∃y,(at_ pre (uw++post) fin 0).word=(y,at_ (pre++uw) post fin 0)∧mR y w=true) →
        ∀N,aP (us++kJ)≤N→∀T:Tree,T.kids=us++kJ → ∃ws ks,ab.rowOf N T=((at_ (us++kJ) [] T.fin 0,ks),ws)∧c9 ws n.names=true∧cH ks (x::xs)=true:=by
      intro kJ hnc hq N hN T hT;rw[qk] at hN;obtain⟨ks,q1,q2⟩:=b1 N (by omega) [] kJ T.fin hnc;obtain⟨ws,q3,q4⟩:=tail us kJ T.fin ks hq;rw[HZ] at q2;refine⟨ws,ks,?_,q4,q2⟩;rw[ab.rowOf,ah (by rw[hT];intro h;rw[bw] at h;exact n1 (iD.1 (by omega))),Ku,hT,ab.lI];have hs:(at_ [] (us++kJ) T.fin 0).sees 124=false:=by rw[v9 n1 f1 ajj];rfl
      rw[gk] at q1;simp only[hs,cI,bP,q1];exact q3
    rcases VU with ⟨h1,rfl⟩ | ⟨w,C,uw,h1,h0,U,h3,h4,h5⟩
    · refine⟨us++[],by simpa using f1,by simpa using w1,go [] (fun t r h=>by simp at h) (.inl ⟨h1,rfl⟩)⟩
    · refine⟨us++([C]++uw),by rw[gp,f1,U],by rw[iS];exact⟨w1,h3⟩,go ([C]++uw) (fun t r h=>?_) (.inr ⟨w,C,uw,h1,rfl,h4,h5⟩)⟩;simp only[lT,fM] at h;rw[←h.1,h4];decide
theorem aqh {n:Nd} (h:n.h_=true):pF ab.row Nd.b9 n n.fB:=by
  intro toks ht
  rcases C5 h with ⟨k,U,hn,hf⟩ | ⟨k,h⟩
  · have e:n.fB=[bl 91]++(dw (fC n.kids)++(if 0<n.names.length then [bl 124]++j7 n.names else []))++[bl 93]:=by rw[Nd.jf,k];rfl
    rw[e] at ht;obtain⟨t1,t3,rfl,h1,h3⟩:=ij.1 ht;obtain⟨ta,t2,rfl,ha,dx⟩:=ij.1 h1;obtain⟨pa,rfl⟩:=rn ha;obtain⟨pb,rfl⟩:=rn h3;obtain⟨us,f1,w1,b1⟩:=aqd hn hf dx;generalize hT:Tree.mk ⟨((91:UInt8).toNat:Nat),[91],pa⟩ us pb=T;have TK:T.tok.kind=91:=by rw[←hT];rfl
    have TM:T.kids=us:=by rw[←hT];rfl
    have hTm:aP [T]=1+aP us:=by simp only[aP,K7,TM];omega
    refine⟨[T],by simp,?_,?_,fun N hN pre post fin=>?_⟩
    · rw[←hT];have hc:closing ((91:UInt8).toNat:Nat)≠0:=by decide
      simp only[aU,Tree.flat,dn];rw[ak hc,f1];simp;decide +kernel
    · rw[←hT];simp only[ec,Tree.WF];exact⟨⟨rfl,fun h=>absurd h (by decide),w1⟩,trivial⟩
    · obtain⟨ws,ks,q1,q2,q3⟩:=b1 N (by omega) T TM;refine⟨.mk 10 T.tok.pos [] ws ks,?_,rl k.symm U.symm q2 q3⟩;have q5:=lO (pre:=pre) (post:=post) (t:=T) (fin:=fin) (k:=91) TK;rw[lT,ab.row,ak (by rw[mi,TK];rfl),q5];simp only[q1,ab.under,ab0];rfl
  · have e:n.fB=[eH n.text]:=by rw[Nd.jf,k];rfl
    have hl:n.jA=true:=by
      rcases CD h with ⟨_,U⟩ | ⟨h1,_⟩ | ⟨h1,_⟩
      · exact U
      · omega
      · omega
    rw[e] at ht;obtain⟨us,n1,f1,w1,b1⟩:=KN k hl toks ht;refine⟨us,n1,f1,w1,fun N hN pre post fin=>?_⟩;obtain⟨y,q1,q2⟩:=b1 _ hN pre post fin;refine⟨y,?_,q2⟩;have s1:=v9 (pre:=pre) (post:=post) (fin:=fin) (k:=91) n1 f1 ht;rw[ab.row,s1];exact q1
def um (p:Word × Word):List Sh:=[eH p.1.text]++[bl 60]++[eH p.2.text]
def yo (k:UInt8) (c:ag) (n:Nd):List Sh :=
  if k=110 then [eH c.name.text]
  else if k=102 then j7 c.names
  else if k=119 then [bl 123]++j7 c.names++[bl 125]
  else if k=112 then [bl 123]++dw (c.aV.map um)++[bl 125]
  else n.fB
def ky:List UInt8→List Nd→List (UInt8 × Nd)
  | [],_=>[]
  | k::ks,ts=>(k,ts.headD .zero)::ky ks (if isTerm k=true then ts.tail else ts)
theorem WB (c:ag):∀(ks:List UInt8) (x:List (List UInt8) × List Nd),(ks.foldl (wk c) x).1=x.1++(ky ks x.2).map fun q=>kZ q.1 c q.2
  | [],x=>by simp[ky]
  | k :: ks, x => by
    rw[wD,WB c ks];simp[wk,ky]
def C8 (c:ag):List Sh:=[eH (bT c.op).1]++((ky (bT c.op).2 [c.left,c.right]).map fun q=>yo q.1 c q.2).flatten
theorem G4 (c:ag):fc c=(bT c.op).1++((ky (bT c.op).2 [c.left,c.right]).map fun q=>kZ q.1 c q.2).flatMap fun y=>[32]++y:=by
  rw[fc,jG,WB];rfl
theorem Vn {s:List UInt8} {ks:List Sh} (h:kM s ks):kM ([32]++s) ks:=by
  intro n p acc hn
  rcases n with _ | n
  · simp at hn
  obtain⟨toks,e1,e2⟩:=h n (p+1) acc (by simpa using hn);refine⟨toks,?_,e2⟩;rw[lT,d_,ah (fun h=>by have:=h.1;revert this;decide),GR (by decide),ah (by simp),ah (by decide),ak (.inl (by decide)),e1]
theorem Vl {β:Type} {T:β→List UInt8} {S:β→List Sh}:∀{l:List β},(∀x∈l,iQ (T x) (S x))→Stop ((l.map T).flatMap fun y=>[32]++y)∧kM ((l.map T).flatMap fun y=>[32]++y) ((l.map S).flatten)
  | [],_=>⟨trivial,lex_nil⟩
  | x :: xs, h => by
    obtain⟨h1,U⟩:=Vl (l:=xs) fun y hy=>h y (by simp[hy])
    simp only[bC,nQ,iC,dt];exact⟨show fR 32=false by decide,Vn (h x (by simp) _ _ h1 U)⟩
theorem alm {p:Word × Word} (h:mf p=true):iQ (iL p) (um p):=by
  simp only[mf,a_] at h;exact(iQ.sign (ug h.1) (by decide)).nn (ug h.2)
theorem aln {ps:List (Word × Word)} (h:ps.all mf=true):oA (rW (ps.map iL)) ([bl 123]++dw (ps.map um)++[bl 125]) :=
  iQ.sign ((sG 123 (by decide)).nn (Ga (T:=iL) (S:=um) fun p hp=>alm (jl.1 h p hp))) (by decide)
theorem amu {ws:List Word} (h:mL (ws.map Word.text)=true):gv ws=true:=by
  simp only[mL,List.all_map] at h;exact h
def wJ (k:UInt8) (c:ag) (n:Nd):Prop :=
  (k=110∧cV c.name.text=true)∨(k=102∧c.names.length=1∧gv c.names=true)∨(k=119∧0<c.names.length∧gv c.names=true)∨(k=112∧c.aV.all mf=true)∨(k=116∧n.dS=true)∨(k=114∧n.h_=true)
theorem Wz {k:UInt8} {c:ag} {n:Nd} (h:wJ k c n):iQ (kZ k c n) (yo k c n):=by
  rcases h with ⟨rfl,h⟩ | ⟨rfl,_,h⟩ | ⟨rfl,_,h⟩ | ⟨rfl,h⟩ | ⟨rfl,h⟩ | ⟨rfl,h⟩
  · exact ug h
  · exact KT h
  · exact(KS h).n
  · exact(aln h).n
  · exact K6 _ n (bt _) h
  · exact al6 h
theorem Yz {c:ag} (h0:cV (bT c.op).1=true) (h:∀q∈ky (bT c.op).2 [c.left,c.right],wJ q.1 c q.2):(c_ (fc c)).2=none∧(c_ (fc c)).1.map Tok.sh=C8 c:=by
  obtain⟨h1,U⟩:=Vl (T:=fun q:UInt8 × Nd=>kZ q.1 c q.2) (S:=fun q=>yo q.1 c q.2) (l:=ky (bT c.op).2 [c.left,c.right]) fun q hq=>Wz (h q hq)
  have:=ug h0 _ _ h1 U
  rw[G4];obtain⟨toks,e1,e2⟩:=this _ 0 [] (bt _);unfold c_;rw[e1];exact⟨rfl,by rw[C8];simpa using e2⟩
def CX (a b:Word × Word):Bool:=decide (a.1.text=b.1.text)&&decide (a.2.text=b.2.text)
theorem Q4:∀a b:List (Word × Word),kQ CX a b=eb a b
  | [],[]=>rfl
  | [],_::_=>rfl
  | _::_,[]=>rfl
  | p::ps,q::qs=>by simp only[kQ,eb,CX,Q4 ps qs]
theorem aol:∀(ps:List (Word × Word)) (p:Word × Word) (toks:List Tok),toks.map Tok.sh=dw ((p::ps).map um) →
    ∃us:List Tree,us≠[]∧aU us=toks∧ec us∧∀(n:Nat) (pre:List Tree) (fin:Int) (acc:List (Word × Word)),us.length≤n →
      ∃ys r,ab.fp n (at_ pre us fin 0) acc=(r,acc++ys)∧r.bad=none∧kQ CX ys (p::ps)=true:=by
  intro ps;induction ps with
  | nil =>
    intro p toks ht;have ht:toks.map Tok.sh=[eH p.1.text]++[bl 60]++[eH p.2.text]:=by simpa [dw,um] using ht
    obtain⟨t12,t3,rfl,tH,h3⟩:=ij.1 ht;obtain⟨t1,t2,rfl,h1,U⟩:=ij.1 tH;obtain⟨p1,rfl⟩:=C7 h1;obtain⟨p2,rfl⟩:=rn U;obtain⟨p3,rfl⟩:=C7 h3;obtain⟨f1,w1⟩:=sB (t:=⟨97,p.1.text,p1⟩) rfl rfl;obtain⟨f2,w2⟩:=sB (t:=⟨((60:UInt8).toNat:Nat),[60],p2⟩) rfl rfl;obtain⟨f3,w3⟩:=sB (t:=⟨97,p.2.text,p3⟩) rfl rfl;refine⟨[.mk ⟨97,p.1.text,p1⟩ [] p1]++[.mk ⟨((60:UInt8).toNat:Nat),[60],p2⟩ [] p2]++[.mk ⟨97,p.2.text,p3⟩ [] p3],by simp,by rw[gp,gp,f1,f2,f3],by rw[iS,iS];exact⟨⟨w1,w2⟩,w3⟩,fun n pre fin acc hn=>?_⟩;obtain⟨m,rfl⟩:∃m,n=m+1:=⟨n - 1,by simp at hn;omega⟩;generalize BU:(Tree.mk ⟨97,p.1.text,p1⟩ [] p1)=T1;generalize BV:(Tree.mk ⟨((60:UInt8).toNat:Nat),[60],p2⟩ [] p2)=T2;generalize BW:(Tree.mk ⟨97,p.2.text,p3⟩ [] p3)=T3;have e1:(at_ pre (T1::[T2,T3]) fin 0).take 97=(T1,at_ (pre++[T1]) [T2,T3] fin 0):=lO (by rw[←BU];rfl);have e2:(at_ (pre++[T1]) [T2,T3] fin 0).take 60=(T2,at_ (pre++[T1]++[T2]) [T3] fin 0):=lO (by rw[←BV];rfl);have e3:(at_ (pre++[T1]++[T2]) [T3] fin 0).take 97=(T3,at_ (pre++[T1]++[T2]++[T3]) [] fin 0):=lO (by rw[←BW];rfl);refine⟨[(⟨T1.tok.text,T1.tok.pos⟩,⟨T3.tok.text,T3.tok.pos⟩)],at_ (pre++[T1]++[T2]++[T3]) [] fin 0,?_,rfl,?_⟩
    · simp only[ab.fp,fN,gk];have MV:(at_ pre (T1::[T2,T3]) fin 0).word=(⟨T1.tok.text,T1.tok.pos⟩,at_ (pre++[T1]) [T2,T3] fin 0):=by rw[ab.word,e1]
      have MW:(at_ (pre++[T1]++[T2]) [T3] fin 0).word=(⟨T3.tok.text,T3.tok.pos⟩,at_ (pre++[T1]++[T2]++[T3]) [] fin 0):=by rw[ab.word,e3]
      rw[ah (by simp[at_])];simp only[MV,e2,MW];rw[ak (by simp[at_])]
    · rw[←BU,←BW];simp[kQ,CX,Tree.tok]
  | cons q ps ih =>
    intro p toks ht;have ht:toks.map Tok.sh=[eH p.1.text]++[bl 60]++[eH p.2.text]++[bl 44]++dw ((q::ps).map um):=by simpa [dw,um] using ht
    obtain⟨auh,t5,rfl,aiN,h5⟩:=ij.1 ht;obtain⟨t123,t4,rfl,I6,h4⟩:=ij.1 aiN;obtain⟨t12,t3,rfl,tH,h3⟩:=ij.1 I6;obtain⟨t1,t2,rfl,h1,U⟩:=ij.1 tH;obtain⟨p1,rfl⟩:=C7 h1;obtain⟨p2,rfl⟩:=rn U;obtain⟨p3,rfl⟩:=C7 h3;obtain⟨p4,rfl⟩:=rn h4;obtain⟨us,n0,f5,w5,b5⟩:=ih q t5 h5;obtain⟨f1,w1⟩:=sB (t:=⟨97,p.1.text,p1⟩) rfl rfl;obtain⟨f2,w2⟩:=sB (t:=⟨((60:UInt8).toNat:Nat),[60],p2⟩) rfl rfl;obtain⟨f3,w3⟩:=sB (t:=⟨97,p.2.text,p3⟩) rfl rfl;obtain⟨f4,w4⟩:=sB (t:=⟨((44:UInt8).toNat:Nat),[44],p4⟩) rfl rfl;refine⟨[.mk ⟨97,p.1.text,p1⟩ [] p1]++[.mk ⟨((60:UInt8).toNat:Nat),[60],p2⟩ [] p2]++[.mk ⟨97,p.2.text,p3⟩ [] p3]++[.mk ⟨((44:UInt8).toNat:Nat),[44],p4⟩ [] p4]++us,by simp,by rw[gp,gp,gp,gp,f1,f2,f3,f4,f5],by rw[iS,iS,iS,iS];exact⟨⟨⟨⟨w1,w2⟩,w3⟩,w4⟩,w5⟩,fun n pre fin acc hn=>?_⟩;obtain⟨m,rfl⟩:∃m,n=m+1:=⟨n - 1,by simp at hn;omega⟩;generalize BU:(Tree.mk ⟨97,p.1.text,p1⟩ [] p1)=T1;generalize BV:(Tree.mk ⟨((60:UInt8).toNat:Nat),[60],p2⟩ [] p2)=T2;generalize BW:(Tree.mk ⟨97,p.2.text,p3⟩ [] p3)=T3;generalize hT4:(Tree.mk ⟨((44:UInt8).toNat:Nat),[44],p4⟩ [] p4)=T4;have e1:(at_ pre (T1::(T2::T3::T4::us)) fin 0).take 97=(T1,at_ (pre++[T1]) (T2::T3::T4::us) fin 0):=lO (by rw[←BU];rfl);have e2:(at_ (pre++[T1]) (T2::T3::T4::us) fin 0).take 60=(T2,at_ (pre++[T1]++[T2]) (T3::T4::us) fin 0):=lO (by rw[←BV];rfl);have e3:(at_ (pre++[T1]++[T2]) (T3::T4::us) fin 0).take 97=(T3,at_ (pre++[T1]++[T2]++[T3]) (T4::us) fin 0):=lO (by rw[←BW];rfl);have e4:(at_ (pre++[T1]++[T2]++[T3]) (T4::us) fin 0).take 44=(T4,at_ (pre++[T1]++[T2]++[T3]++[T4]) us fin 0):=lO (by rw[←hT4];rfl);obtain⟨ys,r,g1,g2,g3⟩:=b5 m (pre++[T1]++[T2]++[T3]++[T4]) fin (acc++[(⟨T1.tok.text,T1.tok.pos⟩,⟨T3.tok.text,T3.tok.pos⟩)]) (by simp at hn;omega);refine⟨(⟨T1.tok.text,T1.tok.pos⟩,⟨T3.tok.text,T3.tok.pos⟩)::ys,r,?_,g2,?_⟩
    · simp only[ab.fp,fN,gk];have MV:(at_ pre (T1::(T2::T3::T4::us)) fin 0).word=(⟨T1.tok.text,T1.tok.pos⟩,at_ (pre++[T1]) (T2::T3::T4::us) fin 0):=by rw[ab.word,e1]
      have MW:(at_ (pre++[T1]++[T2]) (T3::T4::us) fin 0).word=(⟨T3.tok.text,T3.tok.pos⟩,at_ (pre++[T1]++[T2]++[T3]) (T4::us) fin 0):=by rw[ab.word,e3]
      rw[ah (by simp[at_])];simp only[MV,e2,MW,e4,g1];rw[ah (by simp[at_];omega)];simp
    · rw[←BU,←BW];simp only[kQ,CX,g3,Tree.tok];simp
def DB (k:UInt8) (c:ag) (n:Nd) (c0 c1:ag):Prop :=
  (k=110∧∃w:Word,w.text=c.name.text∧c1={c0 with name:=w}) ∨
  ((k=102∨k=119)∧∃ws,c9 ws c.names=true∧c1={c0 with names:=ws}) ∨
  (k=112∧∃ps a,eb ps c.aV=true∧c1={c0 with aV:=ps,lG:=a}) ∨
  ((k=116∨k=114)∧∃m:Nd,m.b9 n=true∧c1=if c0.left.kind=0 then {c0 with left:=m} else {c0 with right:=m})
def Zv (k:UInt8) (c:ag) (n:Nd) (toks:List Tok):Prop :=
  ∃us:List Tree,us≠[]∧aU us=toks∧ec us∧∀(pre post:List Tree) (fin:Int) (c0:ag),(k=112→c0.aV=[])→∃c1,cB k (at_ pre (us++post) fin 0,c0)=(at_ (pre++us) post fin 0,c1)∧DB k c n c0 c1
theorem H8 {pre us:List Tree} {fin:Int}:(⟨(at_ pre us fin 0).l,(at_ pre us fin 0).at_,(at_ pre us fin 0).fin,none⟩:ab)=at_ pre us fin 0:=rfl
theorem at_next {pre us:List Tree} {T:Tree} {fin:Int}:({at_ pre (T::us) fin 0 with at_:=(at_ pre (T::us) fin 0).at_+1}:ab)=at_ (pre++[T]) us fin 0:=by simp[at_]
theorem aoq {k:UInt8} {c:ag} {n:Nd} (h:wJ k c n) {toks:List Tok} (ht:toks.map Tok.sh=yo k c n):Zv k c n toks:=by
  rcases h with ⟨rfl,h⟩ | ⟨rfl,h1,h⟩ | ⟨rfl,h1,h⟩ | ⟨rfl,h⟩ | ⟨rfl,h⟩ | ⟨rfl,h⟩
  · obtain⟨us,n1,f1,w1,b1⟩:=uK c.name toks ht;refine⟨us,n1,f1,w1,fun pre post fin c0 _=>?_⟩;obtain⟨y,q1,q2⟩:=b1 (aP us) (bt _) pre post fin;refine⟨{c0 with name:=y},?_,.inl ⟨rfl,y,by simpa [mR] using q2,rfl⟩⟩;have q1:(at_ pre (us++post) fin 0).word=(y,at_ (pre++us) post fin 0):=q1;have hb:(at_ pre (us++post) fin 0).bad=none:=rfl;simp[cB,hb,q1]
  · obtain⟨w,hw⟩:∃w,c.names=[w]:=by
      match hc:c.names,h1 with
      | [w],_=>exact⟨w,rfl⟩
    have ht:toks.map Tok.sh=[eH w.text]:=by rw[ht];simp[yo,j7,hw,dw]
    obtain⟨us,n1,f1,w1,b1⟩:=uK w toks ht;refine⟨us,n1,f1,w1,fun pre post fin c0 _=>?_⟩;obtain⟨y,q1,q2⟩:=b1 (aP us) (bt _) pre post fin;refine⟨{c0 with names:=[y]},?_,.inr (.inl ⟨.inl rfl,[y],?_,rfl⟩)⟩
    · have q1:(at_ pre (us++post) fin 0).word=(y,at_ (pre++us) post fin 0):=q1;have hb:(at_ pre (us++post) fin 0).bad=none:=rfl;simp[cB,hb,q1]
    · rw[hw];simpa [c9,mR] using q2
  · obtain⟨T,f1,w1,k1,b1⟩:=H' (one:=fun _=>ab.word) (sm:=mR) (S:=fun w=>[eH w.text]) (a:=123) (b:=125) (e:=false) (xs:=c.names) (by decide) (by decide) (by decide) (fun w _=>uK w) (fun e=>by rw[e] at h1;simp at h1) (toks:=toks) ht;refine⟨[T],by simp,f1,w1,fun pre post fin c0 _=>?_⟩;obtain⟨ys,p,q1,q2⟩:=b1 (aP [T]) (by omega) pre post fin;rw[HY] at q2;have q1:(at_ pre (T::post) fin 0).words false=((ys,p),at_ (pre++[T]) post fin 0):=q1;refine⟨{c0 with names:=ys},?_,.inr (.inl ⟨.inr rfl,ys,q2,rfl⟩)⟩;have hb:(at_ pre (T::post) fin 0).bad=none:=rfl;have hw:ib (at_ pre (T::post) fin 0).l (at_ pre (T::post) fin 0).at_ (at_ pre (T::post) fin 0).fin=(ys,none):=by
      unfold ib;rw[H8,q1];rfl
    have wX:cB 119 (at_ pre ([T]++post) fin 0,c0)=({at_ pre (T::post) fin 0 with bad:=(ib (at_ pre (T::post) fin 0).l (at_ pre (T::post) fin 0).at_ (at_ pre (T::post) fin 0).fin).2,at_:=(at_ pre (T::post) fin 0).at_+1},{c0 with names:=(ib (at_ pre (T::post) fin 0).l (at_ pre (T::post) fin 0).at_ (at_ pre (T::post) fin 0).fin).1}):=rfl;rw[wX,hw,←at_next];rfl
  · have ht:toks.map Tok.sh=[bl 123]++dw (c.aV.map um)++[bl 125]:=ht;obtain⟨t1,t3,rfl,h1,h3⟩:=ij.1 ht;obtain⟨ta,t2,rfl,ha,U⟩:=ij.1 h1;obtain⟨pa,rfl⟩:=rn ha;obtain⟨pb,rfl⟩:=rn h3;have key:∃us:List Tree,aU us=t2∧ec us∧((us=[]∧c.aV=[])∨us≠[]∧∀fin,∃ys r,ab.fp (us.length+1) (at_ [] us fin 0) []=(r,ys)∧r.bad=none∧eb ys c.aV=true):=by
      cases hc:c.aV with
      | nil =>
        rw[hc] at U
        have:t2=[]:=by simpa [dw] using U
        exact⟨[],by rw[this];rfl,trivial,.inl ⟨rfl,rfl⟩⟩
      | cons p ps =>
        rw[hc] at U;obtain⟨us,n1,f1,w1,b1⟩:=aol ps p t2 U;refine⟨us,f1,w1,.inr ⟨n1,fun fin=>?_⟩⟩;obtain⟨ys,r,q1,q2,q3⟩:=b1 (us.length+1) [] fin [] (by omega);exact⟨ys,r,by rw[q1];rfl,q2,by rw[←Q4];exact q3⟩
    obtain⟨us,f1,w1,hk⟩:=key;refine⟨[.mk ⟨((123:UInt8).toNat:Nat),[123],pa⟩ us pb],by simp,?_,?_,fun pre post fin c0 hp=>?_⟩
    · simp only[aU,Tree.flat,dn];rw[ak (by decide),f1];rfl
    · simp only[ec,Tree.WF];exact⟨⟨by decide,fun h=>absurd h (by decide),w1⟩,trivial⟩
    · have hp:=hp rfl;have wW:∀x:ab × ag,x.1.bad=none→cB 112 x=mN x.1 x.2:=fun x hx=>by simp[cB,hx]
      have ph:(at_ pre (Tree.mk ⟨((123:UInt8).toNat:Nat),[123],pa⟩ us pb::post) fin 0).take 123=(.mk ⟨((123:UInt8).toNat:Nat),[123],pa⟩ us pb,at_ (pre++[.mk ⟨((123:UInt8).toNat:Nat),[123],pa⟩ us pb]) post fin 0):=lO rfl;rw[wW _ rfl];unfold mN;simp only[fN,gk,ph,Tree.kids,Tree.tok]
      rcases hk with ⟨rfl,hc⟩ | ⟨n1,hk⟩
      · rw[ak (.inr rfl)];refine⟨_,rfl,.inr (.inr (.inl ⟨rfl,[],pa,by rw[hc];rfl,?_⟩))⟩;cases c0;simp only at hp;subst hp;rfl
      · have hl:us.length≠0:=fun h=>n1 (iD.1 h)
        rw[ah (by simp[at_,hl])];obtain⟨ys,r,q1,q2,q3⟩:=hk pb;have dx:(Tree.mk ⟨((123:UInt8).toNat:Nat),[123],pa⟩ us pb).inner=at_ [] us pb 0:=by simp[Tree.inner,at_,Tree.kids,Tree.fin]
        rw[dx,q1];simp only[q2,ab.rU];exact⟨_,rfl,.inr (.inr (.inl ⟨rfl,ys,pa,q3,rfl⟩))⟩
  · obtain⟨us,n1,f1,w1,b1⟩:=akI _ n (bt _) h toks ht;refine⟨us,n1,f1,w1,fun pre post fin c0 _=>?_⟩;have hm:aP us≤aP (at_ pre (us++post) fin 0).l:=by simp only[at_,qk];omega
    obtain⟨y,q1,q2⟩:=b1 _ hm pre post fin;have Ez:∀x:ab × ag,x.1.bad=none→cB 116 x=gW x.1 x.2 (eh (ab.label (aP x.1.l)) x.1.l x.1.at_ x.1.fin):=fun x hx=>by simp[cB,hx]
    rw[Ez _ rfl];unfold eh;rw[H8,q1];refine⟨_,?_,.inr (.inr (.inr ⟨.inl rfl,y,q2,rfl⟩))⟩;simp[gW,at_]
  · obtain⟨us,n1,f1,w1,b1⟩:=aqh h toks ht;refine⟨us,n1,f1,w1,fun pre post fin c0 _=>?_⟩;have hm:aP us≤aP (at_ pre (us++post) fin 0).l:=by simp only[at_,qk];omega
    obtain⟨y,q1,q2⟩:=b1 _ hm pre post fin;have Ey:∀x:ab × ag,x.1.bad=none→cB 114 x=gW x.1 x.2 (eh (ab.row (aP x.1.l)) x.1.l x.1.at_ x.1.fin):=fun x hx=>by simp[cB,hx]
    rw[Ey _ rfl];unfold eh;rw[H8,q1];refine⟨_,?_,.inr (.inr (.inr ⟨.inr rfl,y,q2,rfl⟩))⟩;simp[gW,at_]
def DC (c:ag):List (UInt8 × Nd)→ag→ag→Prop
  | [],c0,c1=>c1=c0
  | q::qs,c0,c2=>∃c1,DB q.1 c q.2 c0 c1∧DC c qs c1 c2
theorem ad2 {k:UInt8} {c:ag} {n:Nd} {c0 c1:ag} (hk:k≠112) (h:DB k c n c0 c1):c1.aV=c0.aV:=by
  rcases h with ⟨_,w,_,rfl⟩ | ⟨_,w,_,rfl⟩ | ⟨h,_⟩ | ⟨_,m,_,rfl⟩
  · rfl
  · rfl
  · exact absurd h hk
  · split<;>rfl
theorem Wv {c:ag}:∀(qs:List (UInt8 × Nd)),(∀q∈qs,wJ q.1 c q.2)→(qs.map (·.1)).count 112≤1→∀toks:List Tok,toks.map Tok.sh=(qs.map fun q=>yo q.1 c q.2).flatten →
    ∃us:List Tree,aU us=toks∧ec us∧∀(pre:List Tree) (fin:Int) (c0:ag),(112∈qs.map (·.1)→c0.aV=[])→∃c1,gq (qs.map (·.1)) (at_ pre us fin 0,c0)=(at_ (pre++us) [] fin 0,c1)∧DC c qs c0 c1
  | [], _, _, toks, ht => by
    have:toks=[]:=by simpa using ht
    subst this;exact⟨[],rfl,trivial,fun pre fin c0 _=>⟨c0,by simp[gq],rfl⟩⟩
  | q :: qs, h, hc, toks, ht => by
    simp only[bC,iC] at ht;obtain⟨t1,t2,rfl,h1,U⟩:=ij.1 ht;obtain⟨u1,_,f1,w1,b1⟩:=aoq (h q (by simp)) h1;have hc2:(qs.map (·.1)).count 112≤1:=by
      rw[bC,List.count_cons] at hc;omega
    obtain⟨u2,f2,w2,b2⟩:=Wv qs (fun x hx=>h x (by simp[hx])) hc2 t2 U;refine⟨u1++u2,by rw[gp,f1,f2],by rw[iS];exact⟨w1,w2⟩,fun pre fin c0 hp=>?_⟩;obtain⟨c1,e1,g1⟩:=b1 pre u2 fin c0 (fun e=>hp (by simp[e]));obtain⟨c2,e2,g2⟩:=b2 (pre++u1) fin c1 (fun hm=>by
      by_cases e:q.1=112
      · exfalso
        rw[bC,e,Nn] at hc
        have:(qs.map (·.1)).count 112=0:=by omega
        exact Np.1 this hm
      · rw[ad2 e g1];exact hp (by simp only[bC,j_];exact .inr hm))
    exact⟨c2,by simp only[bC,gq,e1,e2,dt],c1,g1,g2⟩
theorem KQ:∀(ks:List UInt8) (ts:List Nd),(ky ks ts).map (·.1)=ks
  | [],_=>rfl
  | k::ks,ts=>by simp only[ky,bC,KQ ks]
def Cy:List (List UInt8):=[[110,119],[110,119,112],[110,116,116],[110,114,114],[110,102],[],[110]]
theorem BJ {op:Int} (h1:1≤op) (U:op≤15):(bT op).2∈Cy∧cV (bT op).1=true∧gM (bT op).1=op:=by
  have key:∀n:Nat,n<15→(bT ((n+1:Nat):Int)).2∈Cy∧cV (bT ((n+1:Nat):Int)).1=true∧gM (bT ((n+1:Nat):Int)).1=((n+1:Nat):Int):=by decide +kernel
  have:=key (op.toNat - 1) (by omega)
  rwa [show ((op.toNat - 1+1:Nat):Int)=op by omega] at this
theorem lb (l:List Tree) (a fin k:Int):(⟨l,a,fin,none⟩:ab).sees k=a8 l a k:=by simp[ab.sees,ab.ok]
theorem AA (l:List Tree) (a fin:Int) (b:Option Int):(⟨l,a,fin,b⟩:ab).spot=mj l a fin:=rfl
theorem kI {l:List Tree} {a fin k:Int} (h:a8 l a k=true):(⟨l,a,fin,none⟩:ab).take k=(bn l a,⟨l,a+1,fin,none⟩):=by
  obtain⟨j,t,rfl,hj,_,hl⟩:=vK h;simp[ab.take,lb,h,bn,hj,List.getD]
theorem lh {l:List Tree} {a fin k:Int} (h:a8 l a k=false):(⟨l,a,fin,none⟩:ab).take k=(.zero,⟨l,a,fin,some (mj l a fin)⟩):=by
  simp[ab.take,lb,h,ab.fail,AA]
theorem sU {l:List Tree} {a k:Int} (h:a8 l a k=true):(bn l a).tok=eJ l a:=by
  obtain⟨j,t,rfl,hj,_,_⟩:=vK h;simp[bn,eJ,hj]
theorem Th {β:Type} {step:ab × List β→ab × List β} {a:ab × List β} (h:a.1.bad≠none):∀n,gR step n a=a
  | 0=>rfl
  | n + 1 => by
    have:a.1.sees 44=false:=by
      simp only[ab.sees,ab.ok];cases hb:a.1.bad with
      | none=>exact absurd hb h
      | some _=>simp
    simp[gR,this]
theorem Ti {β:Type} {step:ab × List β→ab × List β} {a:ab × List β} (h:a.1.sees 44=false):∀n,gR step n a=a
  | 0=>rfl
  | n+1=>by simp[gR,h]
theorem VT {l:List Tree} {a fin:Int} (h:a8 l a 97=true):nameAt l a fin=⟨.mk 0 (eJ l a).pos (eJ l a).text [] [],a+1,false,0⟩:=by simp[nameAt,h]
theorem VS {l:List Tree} {a fin:Int} (h:a8 l a 97=false):nameAt l a fin=db l a fin:=by simp[nameAt,h]
theorem Mu (l:List Tree) (fin:Int):∀(m n:Nat) (a:Nat) (out:List Nd) (ws:List Word),ws=qv out→l.length+1≤m+a→l.length≤n+a→a≤l.length →
    (ft (fun i=>nameAt l i fin) l m a out).2.bad=true∧(gR fu n (fu (⟨l,a,fin,none⟩,ws))).1.bad=some (ft (fun i=>nameAt l i fin) l m a out).2.pos ∨
    (ft (fun i=>nameAt l i fin) l m a out).2.bad=false∧gR fu n (fu (⟨l,a,fin,none⟩,ws))=(⟨l,(ft (fun i=>nameAt l i fin) l m a out).2.next,fin,none⟩,qv (ft (fun i=>nameAt l i fin) l m a out).1)
  | 0,n,a,out,ws,xQ,hm,hn,ha=>by omega
  | m + 1, n, a, out, ws, xQ, hm, hn, ha => by
    cases hk:a8 l a 97
    · left;have e:fu (⟨l,a,fin,none⟩,ws)=(⟨l,a,fin,some (mj l a fin)⟩,ws++[⟨[],0⟩]):=by simp[fu,ab.word,lh hk,Tree.zero,Tree.tok]
      rw[e,Th (by simp)];simp[ft,VS hk,db]
    · obtain⟨j,t,hj,_,_,hl⟩:=vK hk;have e:fu (⟨l,a,fin,none⟩,ws)=(⟨l,(a:Int)+1,fin,none⟩,ws++[⟨(eJ l a).text,(eJ l a).pos⟩]):=by simp[fu,ab.word,kI hk,sU hk]
      rw[e];simp only[ft,VT hk,cI,bP];cases tK:a8 l ((a:Int)+1) 44
      · right;rw[Ti (by simp[lb,tK])];simp[xQ,qv,Nd.text,Nd.pos]
      · obtain⟨j2,t2,hj2,_,_,jQ⟩:=vK tK;obtain⟨n,rfl⟩:∃k,n=k+1:=⟨n - 1,by omega⟩;simp only[gR,lb,tK,b7,kI tK];have ih:=Mu l fin m n (a+2) (out++[.mk 0 (eJ l a).pos (eJ l a).text [] []]) (ws++[⟨(eJ l a).text,(eJ l a).pos⟩]) (by simp[xQ,qv,Nd.text,Nd.pos]) (by omega) (by omega) (by omega);rw[show (a:Int)+1+1=((a+2:Nat):Int) by omega];exact ih
theorem as6 (l:List Tree) (a fin:Int) :
    (pz l a fin).2.bad=true∧ib l a fin=([],some (pz l a fin).2.pos)∨(pz l a fin).2.bad=false∧ib l a fin=((pz l a fin).1,none):=by
  cases h:a8 l a 123
  · left;have e:(⟨l,a,fin,none⟩:ab).words false=(([],0),⟨l,a,fin,some (mj l a fin)⟩):=by
      simp[ab.words,ab.bracket,lh h,ab.ok]
    simp[pz,h,db,ib,e]
  · have ht:∃t,bn l a=t:=⟨_,rfl⟩;obtain⟨t,ht⟩:=ht;have hw:(⟨l,a,fin,none⟩:ab).words false=(((da fu t.inner).2,t.tok.pos),(⟨l,a+1,fin,none⟩:ab).under (da fu t.inner).1):=by
      simp[ab.words,ab.bracket,kI h,ab.ok,ab.inside,ht]
    have hs:=Mu t.kids t.fin (t.kids.length+1) t.kids.length 0 [] [] rfl (by omega) (by omega) (by omega);have hg:da fu t.inner=gR fu t.kids.length (fu (⟨t.kids,((0:Nat):Int),t.fin,none⟩,[])):=rfl;rw[←hg] at hs;have hr:pz l a fin=(qv (wholeAt nameAt t false).1,(wholeAt nameAt t false).2):=by simp[pz,h,ht]
    have iJ:wholeAt nameAt t false=if (ft (fun i=>nameAt t.kids i t.fin) t.kids (t.kids.length+1) ((0:Nat):Int) []).2.bad=false∧(ft (fun i=>nameAt t.kids i t.fin) t.kids (t.kids.length+1) ((0:Nat):Int) []).2.next<t.kids.length then ([],db t.kids (ft (fun i=>nameAt t.kids i t.fin) t.kids (t.kids.length+1) ((0:Nat):Int) []).2.next t.fin)
        else ft (fun i=>nameAt t.kids i t.fin) t.kids (t.kids.length+1) ((0:Nat):Int) []:=by simp[wholeAt]
    generalize ft (fun i=>nameAt t.kids i t.fin) t.kids (t.kids.length+1) ((0:Nat):Int) []=S at hs iJ;generalize da fu t.inner=G at hs hw
    rcases hs with ⟨h1,U⟩ | ⟨h1,U⟩
    · left;rw[h1] at iJ;simp only[nP,BD,bP] at iJ;refine⟨by rw[hr,iJ];exact h1,?_⟩;rw[hr,iJ];have hc:G.1.close=G.1:=by simp[ab.close,ab.ok,U]
      simp[ib,hw,ab.under,hc,U]
    · rw[h1] at iJ;simp only[nL] at iJ;rw[U] at hw
      by_cases hn:S.2.next<t.kids.length
      · left;rw[ak hn] at iJ;refine⟨by rw[hr,iJ];rfl,?_⟩;rw[hr,iJ];simp[ib,hw,ab.under,ab.close,ab.ok,hn,ab.fail,AA,db]
      · right;rw[ah hn] at iJ;refine⟨by rw[hr,iJ];exact h1,?_⟩;rw[hr,iJ];simp[ib,hw,ab.under,ab.close,hn]
def Alike (one:ab→Nd × ab) (g:List Tree→Int→Int→bK):Prop:=∀(l:List Tree) (a fin:Int),
  (g l a fin).bad=true∧(one ⟨l,a,fin,none⟩).2.bad=some (g l a fin).pos∨(g l a fin).bad=false∧one ⟨l,a,fin,none⟩=((g l a fin).node,⟨l,(g l a fin).next,fin,none⟩)
theorem Mr {one:ab→Nd × ab} {g:List Tree→Int→Int→bK} (H:Alike one g) (E8:rC g) (l:List Tree) (fin:Int):∀(m n:Nat) (a:Nat) (out:List Nd),l.length+1≤m+a→l.length≤n+a→a≤l.length →
    (ft (fun i=>g l i fin) l m a out).2.bad=true∧(gR (bJ one) n (bJ one (⟨l,a,fin,none⟩,out))).1.bad=some (ft (fun i=>g l i fin) l m a out).2.pos ∨
    (ft (fun i=>g l i fin) l m a out).2.bad=false∧gR (bJ one) n (bJ one (⟨l,a,fin,none⟩,out))=(⟨l,(ft (fun i=>g l i fin) l m a out).2.next,fin,none⟩,(ft (fun i=>g l i fin) l m a out).1)
  | 0,n,a,out,hm,hn,ha=>by omega
  | m + 1, n, a, out, hm, hn, ha => by
    rcases H l a fin with ⟨h1,U⟩ | ⟨h1,U⟩
    · left;have e:(bJ one (⟨l,a,fin,none⟩,out)).1.bad=some (g l a fin).pos:=U;rw[Th (by rw[e];simp)];simp only[ft,h1,b7];exact⟨trivial,e⟩
    · have hA:=E8 l a fin h1;have e:bJ one (⟨l,a,fin,none⟩,out)=(⟨l,(g l a fin).next,fin,none⟩,out++[(g l a fin).node]):=by simp[bJ,U]
      rw[e];simp only[ft,h1,cI,bP];cases tK:a8 l (g l a fin).next 44
      · right;rw[Ti (by simp[lb,tK])];simp[h1]
      · obtain⟨b,hb⟩:=A3 (show 0≤(g l a fin).next by omega);obtain⟨j2,t2,hj2,_,_,jQ⟩:=vK tK;obtain⟨n,rfl⟩:∃k,n=k+1:=⟨n - 1,by omega⟩;simp only[gR,lb,tK,b7,kI tK];have ih:=Mr H E8 l fin m n (b+1) (out++[(g l a fin).node]) (by omega) (by omega) (by omega);rw[show (g l a fin).next+1=((b+1:Nat):Int) by omega];exact ih
theorem as0 {g:List Tree→Int→Int→bK} (t:Tree) (empty:Bool) (h:¬(empty=true∧t.kids.length=0)):wholeAt g t empty=if (ft (fun i=>g t.kids i t.fin) t.kids (t.kids.length+1) ((0:Nat):Int) []).2.bad=false∧(ft (fun i=>g t.kids i t.fin) t.kids (t.kids.length+1) ((0:Nat):Int) []).2.next<t.kids.length then ([],db t.kids (ft (fun i=>g t.kids i t.fin) t.kids (t.kids.length+1) ((0:Nat):Int) []).2.next t.fin)
        else ft (fun i=>g t.kids i t.fin) t.kids (t.kids.length+1) ((0:Nat):Int) []:=by
  unfold wholeAt;rw[ah h];simp
theorem Ry {β:Type} {step:ab × List β→ab × List β} {conv:List Nd→List β} {g:List Tree→Int→Int→bK} (hc:conv []=[]) {l:List Tree} {a fin:Int} {kind:Int} (hk:a8 l a kind=true) (empty:Bool)
    (hs:∀t:Tree,(ft (fun i=>g t.kids i t.fin) t.kids (t.kids.length+1) ((0:Nat):Int) []).2.bad=true∧(da step t.inner).1.bad=some (ft (fun i=>g t.kids i t.fin) t.kids (t.kids.length+1) ((0:Nat):Int) []).2.pos ∨
      (ft (fun i=>g t.kids i t.fin) t.kids (t.kids.length+1) ((0:Nat):Int) []).2.bad=false∧da step t.inner=(⟨t.kids,(ft (fun i=>g t.kids i t.fin) t.kids (t.kids.length+1) ((0:Nat):Int) []).2.next,t.fin,none⟩,conv (ft (fun i=>g t.kids i t.fin) t.kids (t.kids.length+1) ((0:Nat):Int) []).1)) :
    (wholeAt g (bn l a) empty).2.bad=true∧((⟨l,a,fin,none⟩:ab).bracket step kind empty).2.bad=some (wholeAt g (bn l a) empty).2.pos ∨
    (wholeAt g (bn l a) empty).2.bad=false∧(⟨l,a,fin,none⟩:ab).bracket step kind empty=((conv (wholeAt g (bn l a) empty).1,(eJ l a).pos),⟨l,a+1,fin,none⟩):=by
  have ph:(bn l a).tok=eJ l a:=sU hk;have hb:(⟨l,a,fin,none⟩:ab).bracket step kind empty=(((ab.inside step empty (bn l a)).2,(eJ l a).pos),(⟨l,a+1,fin,none⟩:ab).under (ab.inside step empty (bn l a)).1):=by
    simp[ab.bracket,kI hk,ab.ok,ph]
  rw[hb];have hs:=hs (bn l a);generalize bn l a=t at hs ⊢
  by_cases he:empty=true∧t.kids.length=0
  · right;have e1:ab.inside step empty t=(t.inner,[]):=by unfold ab.inside;rw[ak he]
    have e2:wholeAt g t empty=([],⟨.zero,0,false,0⟩):=by unfold wholeAt;rw[ak he]
    rw[e1,e2];refine⟨rfl,?_⟩;simp[ab.under,ab.close,Tree.inner,he.2,hc]
  · have e1:ab.inside step empty t=da step t.inner:=by unfold ab.inside;rw[ah he]
    rw[e1];have iJ:=as0 (g:=g) t empty he;generalize ft (fun i=>g t.kids i t.fin) t.kids (t.kids.length+1) ((0:Nat):Int) []=S at hs iJ;generalize da step t.inner=G at hs ⊢
    rcases hs with ⟨h1,U⟩ | ⟨h1,U⟩
    · left;rw[h1] at iJ;simp only[nP,BD,bP] at iJ;rw[iJ];have hc:G.1.close=G.1:=by simp[ab.close,ab.ok,U]
      exact⟨h1,by simp[ab.under,hc,U]⟩
    · rw[h1] at iJ;simp only[nL] at iJ;rw[U]
      by_cases hn:S.2.next<t.kids.length
      · left;rw[ak hn] at iJ;rw[iJ];exact⟨rfl,by simp[ab.under,ab.close,ab.ok,hn,ab.fail,AA,db]⟩
      · right;rw[ah hn] at iJ;rw[iJ];exact⟨h1,by simp[ab.under,ab.close,hn]⟩
theorem Lg {one:ab→Nd × ab} {g:List Tree→Int→Int→bK} (H:Alike one g) (E8:rC g) {l:List Tree} {a fin kind:Int} (hk:a8 l a kind=true) (empty:Bool) :
    (wholeAt g (bn l a) empty).2.bad=true∧((⟨l,a,fin,none⟩:ab).nodes one kind empty).2.bad=some (wholeAt g (bn l a) empty).2.pos ∨
    (wholeAt g (bn l a) empty).2.bad=false∧(⟨l,a,fin,none⟩:ab).nodes one kind empty=(((wholeAt g (bn l a) empty).1,(eJ l a).pos),⟨l,a+1,fin,none⟩) :=
  Ry (conv:=id) rfl hk empty fun t=>Mr H E8 t.kids t.fin (t.kids.length+1) t.kids.length 0 [] (by omega) (by omega) (by omega)
theorem YS {l:List Tree} {a fin:Int} (hk:a8 l a 123=true) (empty:Bool) :
    (wholeAt nameAt (bn l a) empty).2.bad=true∧((⟨l,a,fin,none⟩:ab).words empty).2.bad=some (wholeAt nameAt (bn l a) empty).2.pos ∨
    (wholeAt nameAt (bn l a) empty).2.bad=false∧(⟨l,a,fin,none⟩:ab).words empty=((qv (wholeAt nameAt (bn l a) empty).1,(eJ l a).pos),⟨l,a+1,fin,none⟩) :=
  Ry (conv:=qv) rfl hk empty fun t=>Mu t.kids t.fin (t.kids.length+1) t.kids.length 0 [] [] rfl (by omega) (by omega) (by omega)
theorem Ae (k:Int):Alike (ab.leaf k) (qU k):=fun l a fin=>by
  unfold qU;cases h:a8 l a 97
  · left;simp[ab.leaf,ab.word,lh h,db]
  · right;simp[ab.leaf,ab.word,kI h,sU h]
theorem aqn:Alike ab.rule yv:=fun l a fin=>by
  unfold yv ab.rule;cases h:a8 l a 97
  · left;have hb:∀r:ab,r.bad≠none→((r.take 58).2.words true).2.bad=r.bad:=fun r hr=>by
      obtain⟨x,hx⟩:∃x,r.bad=some x:=by cases hq:r.bad with | none=>exact absurd hq hr | some x=>exact⟨x,rfl⟩
      have e:r.take 58=(.zero,r):=by simp[ab.take,ab.sees,ab.ok,hx,ab.fail]
      have e2:r.take 123=(.zero,r):=by simp[ab.take,ab.sees,ab.ok,hx,ab.fail]
      simp[e,ab.words,ab.bracket,e2,ab.ok,hx]
    simp only[ab.word,lh h,b7];exact⟨rfl,hb _ (by simp)⟩
  simp only[ab.word,kI h,nP,bP];cases U:a8 l (a+1) 58
  · left;simp only[lh U,b7];refine⟨rfl,?_⟩;simp[ab.words,ab.bracket,ab.take,ab.sees,ab.ok,ab.fail,db]
  simp only[kI U,nP,bP];have e2:a+1+1=a+2:=by omega
  rw[e2];cases h3:a8 l (a+2) 123
  · left;simp only[b7];refine⟨rfl,?_⟩;simp[ab.words,ab.bracket,lh h3,ab.ok,db]
  simp only[nP,bP]
  rcases YS (fin:=fin) h3 true with ⟨p1,p2⟩ | ⟨p1,p2⟩
  · left;rw[ak p1];exact⟨p1,p2⟩
  · right;rw[p1];simp only[cI,bP];refine⟨trivial,?_⟩;rw[p2];simp[sU h];omega
theorem pn {l:List Tree} {a k k' : Int} (h:a8 l a k=true) (aI:k≠k'):a8 l a k' = false:=by
  cases hq:a8 l a k' with
  | false=>rfl
  | true =>
    obtain⟨j,t,rfl,hj,hk,_⟩:=vK h;obtain⟨j',t',e,fX,iX,_⟩:=vK hq;obtain rfl:j' = j:=by omega
    rw[hj] at fX;simp only[aH] at fX;subst fX;exact absurd (hk.symm.trans iX) aI
theorem R3:∀n,Alike (ab.constant n) (nY n)
  | 0=>Ae 2
  | n + 1 => fun l a fin => by
    simp only[nY,ab.constant,lb];cases fw:a8 l a 97
    case true =>
      simp only[pn fw (show (97:Int)≠123 by decide),pn fw (show (97:Int)≠40 by decide),pn fw (show (97:Int)≠91 by decide),cI,bP,b7];exact Ae 2 l a fin
    simp only[cI,bP];cases I6:a8 l a 123
    case true =>
      simp only[b7]
      rcases YS (fin:=fin) I6 true with ⟨p1,p2⟩ | ⟨p1,p2⟩
      · left;unfold lB;rw[ak p1];exact⟨p1,p2⟩
      · right;unfold lB;rw[p1,p2];exact⟨rfl,rfl⟩
    simp only[cI,bP];cases EX:a8 l a 40
    case true =>
      simp only[b7]
      rcases Lg (R3 n) (Q2 n) (fin:=fin) EX false with ⟨p1,p2⟩ | ⟨p1,p2⟩
      · left;unfold lB;rw[ak p1];exact⟨p1,p2⟩
      · right;unfold lB;rw[p1,p2];exact⟨rfl,rfl⟩
    simp only[cI,bP];cases EZ:a8 l a 91
    case true =>
      simp only[b7]
      rcases Lg aqn ZG (fin:=fin) EZ true with ⟨p1,p2⟩ | ⟨p1,p2⟩
      · left;unfold lB;rw[ak p1];exact⟨p1,p2⟩
      · right;unfold lB;rw[p1,p2];exact⟨rfl,rfl⟩
    simp only[cI,bP];left;simp[ab.leaf,ab.word,lh fw,db]
theorem aaU {β:Type} {step:ab × List β→ab × List β} {l:List Tree} {a fin kind:Int} {e:Bool} (h:a8 l a kind=false):(⟨l,a,fin,none⟩:ab).bracket step kind e=(([],0),⟨l,a,fin,some (mj l a fin)⟩):=by
  simp[ab.bracket,lh h,ab.ok]
theorem ach {n:Nat} {l:List Tree} {a fin:Int} (f:Nd→Nd) :
    ((nY n l a fin).put f).bad=true∧(ab.constant n ⟨l,a,fin,none⟩).2.bad=some ((nY n l a fin).put f).pos∨((nY n l a fin).put f).bad=false∧(f (ab.constant n ⟨l,a,fin,none⟩).1,(ab.constant n ⟨l,a,fin,none⟩).2)=(((nY n l a fin).put f).node,⟨l,((nY n l a fin).put f).next,fin,none⟩):=by
  unfold bK.put
  rcases R3 n l a fin with ⟨p1,p2⟩ | ⟨p1,p2⟩
  · left;rw[ak p1];exact⟨p1,p2⟩
  · right;rw[p1,p2];exact⟨rfl,rfl⟩
def Ed (n:Nat) (l:List Tree) (a fin:Int):bK:=if a8 l a 35=true then (nY n l (a+1) fin).put fun m=>.mk 7 (eJ l a).pos [] [] [m] else qU 1 l a fin
theorem Rg (n:Nat):Alike (ab.atom n) (Ed n):=fun l a fin=>by
  unfold Ed;simp only[ab.atom,lb];cases pR:a8 l a 35
  · simp only[cI,bP];exact Ae 1 l a fin
  · simp only[b7,kI pR,sU pR]
    rcases ach (n:=n) (l:=l) (a:=a+1) (fin:=fin) (fun m=>.mk 7 (eJ l a).pos [] [] [m]) with ⟨p1,p2⟩ | ⟨p1,p2⟩
    · exact .inl ⟨p1,p2⟩
    · exact .inr ⟨p1,p2⟩
theorem KG:∀n,Alike (ab.label n) (hD n)
  | 0=>Ae 1
  | n + 1 => fun l a fin => by
    have sign:∀(k:Int),a8 l a k=true→∀kd,(kd=8∨kd=9) →
        let x:Nd × ab:=(.mk kd ((⟨l,a,fin,none⟩:ab).take k).1.tok.pos [] [] (((⟨l,a,fin,none⟩:ab).take k).2.nodes (ab.label n) 40 false).1.1,(((⟨l,a,fin,none⟩:ab).take k).2.nodes (ab.label n) 40 false).2)
        let g:=if a8 l (a+1) 40=false then db l (a+1) fin else lB (wholeAt (hD n) (bn l (a+1)) false) (fun ks=>.mk kd (eJ l a).pos [] [] ks) (a+2)
        g.bad=true∧x.2.bad=some g.pos∨g.bad=false∧x=(g.node,⟨l,g.next,fin,none⟩):=fun k hk kd _=>by
      simp only[kI hk,sU hk];cases EX:a8 l (a+1) 40
      · left;simp only[b7];unfold ab.nodes;rw[aaU EX];exact⟨rfl,rfl⟩
      · simp only[nP,bP];have e2:a+1+1=a+2:=by omega
        rcases Lg (KG n) (D6 n) (fin:=fin) EX false with ⟨p1,p2⟩ | ⟨p1,p2⟩
        · left;unfold lB;rw[ak p1];exact⟨p1,p2⟩
        · right;unfold lB;rw[p1,p2,e2];exact⟨rfl,rfl⟩
    simp only[hD,ab.label,lb];cases fw:a8 l a 97
    case true =>
      simp only[pn fw (show (97:Int)≠43 by decide),pn fw (show (97:Int)≠38 by decide),cI,bP,b7]
      have:=Rg (n+1) l a fin
      unfold Ed at this;rw[pn fw (show (97:Int)≠35 by decide)] at this;exact this
    simp only[cI,bP];cases pR:a8 l a 35
    case true =>
      simp only[pn pR (show (35:Int)≠43 by decide),pn pR (show (35:Int)≠38 by decide),cI,bP,b7]
      have:=Rg (n+1) l a fin
      unfold Ed at this;rw[ak pR] at this;exact this
    simp only[cI,bP];cases tJ:a8 l a 43
    case true =>
      simp only[nP,BD,bP,b7,pn tJ (show (43:Int)≠38 by decide),cI];exact sign 43 tJ 8 (.inl rfl)
    simp only[cI,bP,nL];cases vl:a8 l a 38
    case true =>
      simp only[nP,bP,b7];exact sign 38 vl 9 (.inr rfl)
    simp only[cI,bP,b7];left;refine⟨rfl,?_⟩;simp[ab.atom,lb,pR,ab.leaf,ab.word,lh fw,db]
theorem aau (n:Nat) (l:List Tree) (a fin:Int):(pK n l a fin).bad=true∧(ab.atom n ⟨l,a,fin,none⟩).2.bad=some (pK n l a fin).pos∨(pK n l a fin).bad=false∧ab.atom n ⟨l,a,fin,none⟩=((pK n l a fin).node,⟨l,(pK n l a fin).next,fin,none⟩)∨n=0∧a8 l a 35=true:=by
  cases n with
  | zero =>
    cases pR:a8 l a 35
    · unfold pK hD
      by_cases h:a8 l a 43=true∨a8 l a 38=true
      · left;rw[ak h];have fw:a8 l a 97=false:=by rcases h with h | h<;>exact pn h (by decide)
        exact⟨rfl,by simp[ab.atom,lb,pR,ab.leaf,ab.word,lh fw,db]⟩
      · rw[ah h]
        have:=Ae 1 l a fin
        simp only[ab.atom,lb,pR,cI,bP]
        rcases this with h | h
        · exact .inl h
        · exact .inr (.inl h)
    · exact .inr (.inr ⟨rfl,rfl⟩)
  | succ n =>
    unfold pK
    by_cases h:a8 l a 43=true∨a8 l a 38=true
    · left;rw[ak h];have fw:a8 l a 97=false:=by rcases h with h | h<;>exact pn h (by decide)
      have pR:a8 l a 35=false:=by rcases h with h | h<;>exact pn h (by decide)
      exact⟨rfl,by simp[ab.atom,lb,pR,ab.leaf,ab.word,lh fw,db]⟩
    · rw[ah h];have tJ:a8 l a 43=false:=by cases hq:a8 l a 43 with | false=>rfl | true=>exact absurd (.inl hq) h
      have vl:a8 l a 38=false:=by cases hq:a8 l a 38 with | false=>rfl | true=>exact absurd (.inr hq) h
      have:=KG (n+1) l a fin
      simp only[ab.label,lb,tJ,vl,cI,bP] at this
      rcases this with h | h
      · exact .inl h
      · exact .inr (.inl h)
theorem aeU (n:Nat):Alike (ab.field (n+1)) (w9 (n+1)):=fun l a fin=>by
  have eQ:∀(b:Int),∀r:ab,r.bad=some b→∀m,(ab.atom m r).2.bad=some b:=fun b r hr m=>by
    have e:∀k,r.sees k=false:=fun k=>by simp[ab.sees,ab.ok,hr]
    have e2:r.take 97=(.zero,r):=by simp[ab.take,e,ab.fail,hr]
    simp[ab.atom,e,ab.leaf,ab.word,e2,hr]
  unfold w9 ab.field;cases h:a8 l a 97
  · left;simp only[ab.word,lh h,b7];refine⟨rfl,eQ _ _ ?_ _⟩;simp[ab.take,ab.sees,ab.ok,ab.fail,db]
  simp only[ab.word,kI h,nP,bP];cases U:a8 l (a+1) 61
  · left;simp only[lh U,b7];exact⟨rfl,eQ _ _ rfl _⟩
  simp only[kI U,nP,bP];have e2:a+1+1=a+2:=by omega
  rw[e2];unfold bK.put
  rcases aau (n+1) l (a+2) fin with ⟨p1,p2⟩ | ⟨p1,p2⟩ | ⟨h0,_⟩
  · left;rw[ak p1];exact⟨p1,p2⟩
  · right;rw[p1,p2,sU h];exact⟨rfl,rfl⟩
  · omega
theorem Xd {l:List Tree} {a fin:Int} {ks:List Nd} {nx:Int} {X:(ab × List Nd) × List Word} (r1:ab) (hr:r1=⟨(bn l a).kids,nx,(bn l a).fin,none⟩)
    (hX:X=if r1.sees 124=true then (((r1.take 124).2.word.2,ks),[(r1.take 124).2.word.1]) else ((r1,ks),[])) :
    (pA l a ks nx).bad=true∧((⟨l,a+1,fin,none⟩:ab).under X.1.1).bad=some (pA l a ks nx).pos ∨
    (pA l a ks nx).bad=false∧((Nd.mk 10 (eJ l a).pos [] X.2 X.1.2,(⟨l,a+1,fin,none⟩:ab).under X.1.1):Nd × ab)=((pA l a ks nx).node,⟨l,(pA l a ks nx).next,fin,none⟩):=by
  subst hr;unfold pA;simp only[lb] at hX;cases I7:a8 (bn l a).kids nx 124
  · rw[I7] at hX;simp only[cI,bP] at hX ⊢;subst hX;unfold ur
    by_cases hn:nx<(bn l a).kids.length
    · left;rw[ak hn];exact⟨rfl,by simp[ab.under,ab.close,ab.ok,hn,ab.fail,AA,db]⟩
    · right;rw[ah hn];exact⟨rfl,by simp[ab.under,ab.close,hn]⟩
  · rw[I7] at hX;simp only[b7,kI I7] at hX ⊢;cases fw:a8 (bn l a).kids (nx+1) 97
    · left;have e:nameAt (bn l a).kids (nx+1) (bn l a).fin=db (bn l a).kids (nx+1) (bn l a).fin:=VS fw;rw[e];simp only[db,b7];subst hX;exact⟨trivial,by simp[ab.word,lh fw,ab.under,ab.close,ab.ok]⟩
    · rw[VT fw];simp only[cI,bP];have hw:(⟨(bn l a).kids,nx+1,(bn l a).fin,none⟩:ab).word=(⟨(eJ (bn l a).kids (nx+1)).text,(eJ (bn l a).kids (nx+1)).pos⟩,⟨(bn l a).kids,nx+1+1,(bn l a).fin,none⟩):=by
        simp[ab.word,kI fw,sU fw]
      rw[hw] at hX;subst hX;unfold ur
      by_cases hn:nx+1+1<(bn l a).kids.length
      · left;rw[ak hn];exact⟨rfl,by simp[ab.under,ab.close,ab.ok,hn,ab.fail,AA,db]⟩
      · right;rw[ah hn];exact⟨rfl,by simp[ab.under,ab.close,hn,qv,Nd.text,Nd.pos]⟩
theorem aqg (n:Nat):Alike (ab.row (n+1)) (kF (n+1)):=fun l a fin=>by
  unfold kF;simp only[ab.row,lb];cases fw:a8 l a 97
  case true =>
    simp only[pn fw (show (97:Int)≠91 by decide),cI,bP,b7]
    have:=Ae 1 l a fin
    simp only[hD,fw,b7];exact this
  simp only[cI,bP];cases EZ:a8 l a 91
  case false =>
    left;simp only[cI,bP,b7];exact⟨rfl,by simp[ab.leaf,ab.word,lh fw,db]⟩
  simp only[nP,bP,b7,kI EZ,sU EZ];have dx:(bn l a).inner=⟨(bn l a).kids,0,(bn l a).fin,none⟩:=rfl
  by_cases gT:0<(bn l a).kids.length∧a8 (bn l a).kids 0 124=false
  · rw[ak gT];have hX:ab.rowOf (n+1) (bn l a)=if (da (bJ (ab.field (n+1))) (bn l a).inner).1.sees 124=true then ((((da (bJ (ab.field (n+1))) (bn l a).inner).1.take 124).2.word.2,(da (bJ (ab.field (n+1))) (bn l a).inner).2),[((da (bJ (ab.field (n+1))) (bn l a).inner).1.take 124).2.word.1]) else (da (bJ (ab.field (n+1))) (bn l a).inner,[]):=by
      unfold ab.rowOf ab.lI;rw[ah (by omega)]
      have:(bn l a).inner.sees 124=false:=by rw[dx,lb];exact gT.2
      simp[this]
    have hs:(sN (n+1) l a).2.bad=true∧(da (bJ (ab.field (n+1))) (bn l a).inner).1.bad=some (sN (n+1) l a).2.pos∨(sN (n+1) l a).2.bad=false∧da (bJ (ab.field (n+1))) (bn l a).inner=(⟨(bn l a).kids,(sN (n+1) l a).2.next,(bn l a).fin,none⟩,(sN (n+1) l a).1) :=
      Mr (aeU n) (ZE (n+1)) (bn l a).kids (bn l a).fin ((bn l a).kids.length+1) (bn l a).kids.length 0 [] (by omega) (by omega) (by omega)
    generalize da (bJ (ab.field (n+1))) (bn l a).inner=G at hX hs;generalize sN (n+1) l a=S at hs ⊢
    rcases hs with ⟨p1,p2⟩ | ⟨p1,p2⟩
    · left;rw[ak p1];have jR:G.1.sees 124=false:=by simp[ab.sees,ab.ok,p2]
      rw[hX,jR];simp only[cI,bP];have hc:G.1.close=G.1:=by simp[ab.close,ab.ok,p2]
      exact⟨p1,by simp[ab.under,hc,p2]⟩
    · rw[p1];simp only[cI,bP];rw[p2] at hX;exact Xd _ rfl hX
  · rw[ah gT];refine Xd (ks:=[]) (nx:=0) (bn l a).inner dx ?_;unfold ab.rowOf ab.lI
    by_cases hk:(bn l a).kids.length=0
    · rw[ak hk]
      have:(bn l a).inner.sees 124=false:=by rw[dx,lb];simp[iD.1 hk,a8]
      rw[this];simp
    · rw[ah hk];have h0:a8 (bn l a).kids 0 124=true:=by
        cases hq:a8 (bn l a).kids 0 124 with
        | true=>rfl
        | false=>exact absurd ⟨by omega,hq⟩ gT
      have:(bn l a).inner.sees 124=true:=by rw[dx,lb];exact h0
      simp only[this,b7]
theorem W4 {one:ab→Nd × ab} {g:List Tree→Int→Int→bK} (H:Alike one g) (l:List Tree) (a fin:Int) :
    (g l a fin).bad=true∧eh one l a fin=(.zero,0,some (g l a fin).pos)∨(g l a fin).bad=false∧eh one l a fin=((g l a fin).node,(g l a fin).next,none):=by
  unfold eh
  rcases H l a fin with ⟨p1,p2⟩ | ⟨p1,p2⟩
  · left;rw[p2];exact⟨p1,rfl⟩
  · right;rw[p2];exact⟨p1,rfl⟩
end Go.Am
