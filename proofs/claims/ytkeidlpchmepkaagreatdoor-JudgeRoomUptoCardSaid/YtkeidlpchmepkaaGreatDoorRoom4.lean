/-
  Part 4 of the proof of JudgeRoomUptoCardSaid: a logic over the model, the forms of the functions that the law reaches, and what they compute.
-/
import Derived.Test.YtkeidlpchmepkaaGreatDoorRoom3
set_option linter.unusedVariables false
set_option linter.unusedSimpArgs false
set_option linter.defProp false
set_option linter.unusedSectionVars false

namespace Go.Am
theorem q_set {p:Int} {ws:List Word} (h:rightW ws=true):(Nd.mk 3 p [] ws []).constQ=true:=by
  rw[Nd.constQ_eq];simp[Nd.kind,Nd.text,Nd.names,Nd.kids,h]
theorem q_tuple {p:Int} {ks:List Nd} (h:∀x∈ks,x.constQ=true) (h0:0<ks.length):(Nd.mk 4 p [] [] ks).constQ=true:=by
  rw[Nd.constQ_eq];simp[Nd.bareQ,Nd.kind,Nd.text,Nd.names,Nd.kids];exact⟨h0,h⟩
theorem q_grid {p:Int} {ks:List Nd} (h:∀x∈ks,x.ruleQ=true):(Nd.mk 5 p [] [] ks).constQ=true:=by
  rw[Nd.constQ_eq];simp[Nd.bareQ,Nd.kind,Nd.text,Nd.names,Nd.kids];exact h
theorem q_point {n:Nd} (hk:n.kind=2) (h:n.leafQ=true):n.constQ=true:=by rw[Nd.constQ_eq,if_pos hk];exact h
theorem q_var {n:Nd} (hk:n.kind=1) (h:n.leafQ=true):n.labelQ=true:=by rw[Nd.labelQ_eq,if_pos hk];exact h
theorem q_const {p:Int} {c:Nd} (h:c.constQ=true):(Nd.mk 7 p [] [] [c]).labelQ=true:=by
  rw[Nd.labelQ_eq];simp[Nd.bareQ,Nd.kind,Nd.text,Nd.names,Nd.kids,headQ,h]
theorem q_join {k p:Int} {ks:List Nd} (hk:k=8∨k=9) (h:∀x∈ks,x.labelQ=true) (h0:0<ks.length):(Nd.mk k p [] [] ks).labelQ=true:=by
  rw[Nd.labelQ_eq]
  rcases hk with rfl | rfl
  all_goals
    simp[Nd.bareQ,Nd.kind,Nd.text,Nd.names,Nd.kids];exact⟨h0,h⟩
theorem sign_text {t:Tree} {k:Int} (hg:t.Good) (hk:t.tok.kind=k) (h97:k≠97):t.tok.text=[UInt8.ofNat k.toNat]:=by
  rcases ((good_eq _).1 hg).1 with ⟨h,_⟩ | ⟨_,h⟩
  · omega
  · rw[h,hk]
theorem tree_len {t:Tree} (hg:t.Good):t.tok.text.length≤16:=tok_len ((good_eq _).1 hg).1
def SW (w:Word):Nat:=w.text.length+1
def SN (n:Nd):Nat:=n.wt+1
theorem word_sound:Sound Rdr.word Word.text (fun w=>nameR w.text=true) SW:=by
  intro r hg hb;obtain⟨t1,t2⟩:=take_eats (show (r.take 97).2.bad=none from hb);have hgood:=(t1.good hg).1;refine⟨[(r.take 97).1],t1,text_name t2,?_,?_⟩
  · rcases ((good_eq _).1 hgood).1 with ⟨_,h⟩ | ⟨h,_⟩
    · exact h
    · exact absurd t2 h
  · have:=tree_len hgood
    rw[szs_one];simp only[SW,Rdr.word];omega
theorem leaf_sound {k:Int} (hk:k=1∨k=2):Sound (Rdr.leaf k) Nd.txt (fun n=>n.kind=k∧n.leafQ=true) SN:=by
  intro r hg hb;obtain⟨seg,e1,e2,e3,e4⟩:=word_sound r hg hb;refine⟨seg,e1,?_,⟨rfl,?_⟩,?_⟩
  · rw[e2];simp only[Rdr.leaf];rw[Nd.txt,if_pos hk]
  · simp only[Rdr.leaf,Nd.leafQ,Nd.text,Nd.names,Nd.kids];rw[e3];rfl
  · simp only[SW] at e4;simp only[Rdr.leaf,SN,Nd.wt,wsum,wts,List.map_nil,List.sum_nil];obtain⟨t1,t2⟩:=take_eats (show (r.take 97).2.bad=none from hb);have hl:=tree_len (t1.good hg).1;have h0:26≤szs seg:=by
      obtain⟨pre,post,q1,q2,q3⟩:=e1.ex
      rcases seg with _ | ⟨t,ts⟩
      · exfalso
        obtain⟨p,q,r1,r2,r3⟩:=t1.ex
        have:r.word.2.at_=(r.take 97).2.at_:=rfl
        simp only[List.length_append,List.length_nil,List.length_singleton] at q3 r3;omega
      · simp only[szs,manys];omega
    have:r.word.1.text.length≤16:=hl
    omega
theorem wsum_S (l:List Word):(l.map SW).sum=wsum l:=rfl
theorem wts_S (l:List Nd):(l.map SN).sum=wts l:=by rw[wts_map];rfl
theorem rightW_of {l:List Word} (h:∀w∈l,nameR w.text=true):rightW l=true:=List.all_eq_true.2 h
theorem words_sound {e:Bool} {r:Rdr} (hg:Goods r.l) (hb:(r.words e).2.bad=none) :
    ∃t,Eats r (r.words e).2 [t]∧t.Good∧textR (flats [t])=[123]++wtext (r.words e).1.1++[125]∧rightW (r.words e).1.1=true∧wsum (r.words e).1.1+26≤szs [t]:=by
  obtain⟨t,h1,h2,h3,h4,h5,_⟩:=bracket_sound (one:=Rdr.word) word_sound (k:=123) (e:=e) hg hb;have hgood:=(h1.good hg).1;refine⟨t,h1,hgood,?_,rightW_of h4,?_⟩
  · rw[text_in (by rw[h2];decide),h3,sign_text hgood h2 (by decide),h2];rfl
  · rw[wsum_S] at h5;rw[szs_one];have e:wsum (r.words e).1.1=wsum (r.bracket (oStep Rdr.word) 123 e).1.1:=rfl;omega
theorem nodes_sound {one:Rdr→Nd × Rdr} {Q:Nd→Prop} (hs:Sound one Nd.txt Q SN) {k:Int} (hk:k=40∨k=91) {e:Bool} {r:Rdr} (hg:Goods r.l) (hb:(r.nodes one k e).2.bad=none) :
    ∃t,Eats r (r.nodes one k e).2 [t]∧t.Good∧textR (flats [t])=[UInt8.ofNat k.toNat]++joinC (txts (r.nodes one k e).1.1)++[UInt8.ofNat (closing k).toNat]∧(∀x∈(r.nodes one k e).1.1,Q x)∧wts (r.nodes one k e).1.1+26≤szs [t] ∧
      (e=false→0<(r.nodes one k e).1.1.length):=by
  obtain⟨t,h1,h2,h3,h4,h5,h6⟩:=bracket_sound hs (k:=k) (e:=e) hg hb;have hgood:=(h1.good hg).1;refine⟨t,h1,hgood,?_,h4,?_,h6⟩
  · rw[text_in (by rw[h2];rcases hk with rfl | rfl<;>decide),h3,sign_text hgood h2 (by omega),h2,txts_map];rfl
  · rw[wts_S] at h5;rw[szs_one];have e:wts (r.nodes one k e).1.1=wts (r.bracket (oStep one) k e).1.1:=rfl;omega
theorem rule_sound:Sound Rdr.rule Nd.txt (fun n=>n.ruleQ=true) SN:=by
  intro r hg hb;have hb' : ((r.word.2.take 58).2.words true).2.bad=none:=hb;have l1:r.word.2.l=r.l:=r.take_l 97;have l2:(r.word.2.take 58).2.l=r.l:=(Rdr.take_l _ 58).trans l1;obtain⟨t,h1,h2,h3,h4,h5⟩:=words_sound (by rw[l2];exact hg) hb';obtain⟨c1,c2⟩:=take_eats h1.b;obtain⟨seg,e1,e2,e3,e4⟩:=word_sound r hg c1.b;have hgc:=(c1.good (by rw[l1];exact hg)).1;refine⟨seg++[(r.word.2.take 58).1]++[t],(e1.trans c1).trans h1,?_,?_,?_⟩
  · rw[text_mid (by rw[c2];decide) (by rw[c2];rfl),e2,h3,sign_text hgc c2 (by decide)];simp only[Rdr.rule];rw[Nd.txt];simp
  · simp only[Rdr.rule,Nd.ruleQ,Nd.kind,Nd.text,Nd.names,Nd.kids];rw[e3,h4];rfl
  · simp only[Rdr.rule,SN,Nd.wt,wts,szs_append,szs_one];simp only[SW] at e4;simp only[szs_one] at h5;omega
theorem constant_sound:∀n,Sound (Rdr.constant n) Nd.txt (fun m=>m.constQ=true) SN
  | 0 => fun r hg hb => by
    obtain⟨seg,e1,e2,⟨e3,e5⟩,e4⟩:=leaf_sound (.inr rfl) r hg hb;refine⟨seg,e1,e2,?_,e4⟩;exact q_point e3 e5
  | n + 1 => fun r hg hb => by
    simp only[Rdr.constant] at hb ⊢;split
    · rename_i hs;rw[if_pos hs] at hb;obtain⟨t,h1,h2,h3,h4,h5⟩:=words_sound hg hb;refine⟨[t],h1,?_,?_,?_⟩
      · rw[h3,Nd.txt];simp
      · exact q_set h4
      · simp only[SN,Nd.wt,wts,List.length_nil];omega
    · rename_i hs;rw[if_neg hs] at hb;split
      · rename_i hs;rw[if_pos hs] at hb;obtain⟨t,h1,h2,h3,h4,h5,h6⟩:=nodes_sound (constant_sound n) (.inl rfl) hg hb;refine⟨[t],h1,?_,?_,?_⟩
        · rw[h3,Nd.txt];simp only[show (closing 40).toNat=41 from rfl];rfl
        · exact q_tuple h4 (h6 rfl)
        · simp only[SN,Nd.wt,wsum,List.map_nil,List.sum_nil,List.length_nil];omega
      · rename_i hs;rw[if_neg hs] at hb;split
        · rename_i hs;rw[if_pos hs] at hb;obtain⟨t,h1,h2,h3,h4,h5,h6⟩:=nodes_sound rule_sound (.inr rfl) hg hb;refine⟨[t],h1,?_,?_,?_⟩
          · rw[h3,Nd.txt];simp only[show (closing 91).toNat=93 from rfl];rfl
          · exact q_grid h4
          · simp only[SN,Nd.wt,wsum,List.map_nil,List.sum_nil,List.length_nil];omega
        · rename_i hs;rw[if_neg hs] at hb;obtain⟨seg,e1,e2,⟨e3,e5⟩,e4⟩:=leaf_sound (.inr rfl) r hg hb;refine⟨seg,e1,e2,?_,e4⟩;exact q_point e3 e5
theorem atom_sound (n:Nat):Sound (Rdr.atom n) Nd.txt (fun m=>m.atomQ=true) SN:=by
  intro r hg hb;simp only[Rdr.atom] at hb ⊢;split
  · rename_i hs;rw[if_pos hs] at hb;have l1:(r.take 35).2.l=r.l:=r.take_l 35;obtain⟨seg,e1,e2,e3,e4⟩:=constant_sound n (r.take 35).2 (by rw[l1];exact hg) hb;obtain⟨c1,c2⟩:=take_eats e1.b;have hgc:=(c1.good hg).1;refine⟨[(r.take 35).1]++seg,c1.trans e1,?_,?_,?_⟩
    · have:=text_mid (t:=(r.take 35).1) (by rw[c2];decide) (by rw[c2];rfl) [] seg
      rw[List.nil_append] at this;rw[this,sign_text hgc c2 (by decide),e2,Nd.txt];simp[flats,textR,textF,txts,headT]
    · simp only[Nd.atomQ,q_const e3,Nd.kind];rfl
    · simp only[SN,Nd.wt,wsum,wts,List.map_nil,List.sum_nil,List.length_nil,szs_append,szs_one] at e4 ⊢;omega
  · rename_i hs;rw[if_neg hs] at hb;obtain⟨seg,e1,e2,⟨e3,e5⟩,e4⟩:=leaf_sound (.inl rfl) r hg hb;refine⟨seg,e1,e2,?_,e4⟩;simp only[Nd.atomQ,q_var e3 e5,e3];rfl
theorem atom_label {n:Nd} (h:n.atomQ=true):n.labelQ=true:=by simp only[Nd.atomQ,Bool.and_eq_true] at h;exact h.2
theorem label_sound:∀n,Sound (Rdr.label n) Nd.txt (fun m=>m.labelQ=true) SN
  | 0 => fun r hg hb => by
    obtain⟨seg,e1,e2,⟨e3,e5⟩,e4⟩:=leaf_sound (.inl rfl) r hg hb;refine⟨seg,e1,e2,?_,e4⟩;exact q_var e3 e5
  | n + 1 => fun r hg hb => by
    simp only[Rdr.label] at hb ⊢;split
    · rename_i hs;rw[if_pos hs] at hb;have l1:(r.take 43).2.l=r.l:=r.take_l 43;obtain⟨t,h1,h2,h3,h4,h5,h6⟩:=nodes_sound (label_sound n) (.inl rfl) (by rw[l1];exact hg) hb;obtain⟨c1,c2⟩:=take_eats h1.b;have hgc:=(c1.good hg).1;refine⟨[(r.take 43).1]++[t],c1.trans h1,?_,?_,?_⟩
      · have:=text_mid (t:=(r.take 43).1) (by rw[c2];decide) (by rw[c2];rfl) [] [t]
        rw[List.nil_append] at this;rw[this,sign_text hgc c2 (by decide),h3,Nd.txt];simp only[show (closing 40).toNat=41 from rfl];rfl
      · exact q_join (.inl rfl) h4 (h6 rfl)
      · simp only[SN,Nd.wt,wsum,List.map_nil,List.sum_nil,List.length_nil,szs_append,szs_one] at h5 ⊢;omega
    · rename_i hs;rw[if_neg hs] at hb;split
      · rename_i hs;rw[if_pos hs] at hb;have l1:(r.take 38).2.l=r.l:=r.take_l 38;obtain⟨t,h1,h2,h3,h4,h5,h6⟩:=nodes_sound (label_sound n) (.inl rfl) (by rw[l1];exact hg) hb;obtain⟨c1,c2⟩:=take_eats h1.b;have hgc:=(c1.good hg).1;refine⟨[(r.take 38).1]++[t],c1.trans h1,?_,?_,?_⟩
        · have:=text_mid (t:=(r.take 38).1) (by rw[c2];decide) (by rw[c2];rfl) [] [t]
          rw[List.nil_append] at this;rw[this,sign_text hgc c2 (by decide),h3,Nd.txt];simp only[show (closing 40).toNat=41 from rfl];rfl
        · exact q_join (.inr rfl) h4 (h6 rfl)
        · simp only[SN,Nd.wt,wsum,List.map_nil,List.sum_nil,List.length_nil,szs_append,szs_one] at h5 ⊢;omega
      · rename_i hs;rw[if_neg hs] at hb;obtain⟨seg,e1,e2,e3,e4⟩:=atom_sound (n+1) r hg hb;exact⟨seg,e1,e2,atom_label e3,e4⟩
theorem field_sound (n:Nat):Sound (Rdr.field n) Nd.txt (fun m=>m.fieldQ=true) SN:=by
  intro r hg hb;have hb' : ((r.word.2.take 61).2.atom n).2.bad=none:=hb;have l1:r.word.2.l=r.l:=r.take_l 97;have l2:(r.word.2.take 61).2.l=r.l:=(Rdr.take_l _ 61).trans l1;obtain⟨sg,h1,h2,h3,h4⟩:=atom_sound n (r.word.2.take 61).2 (by rw[l2];exact hg) hb';obtain⟨c1,c2⟩:=take_eats h1.b;obtain⟨seg,e1,e2,e3,e4⟩:=word_sound r hg c1.b;have hgc:=(c1.good (by rw[l1];exact hg)).1;refine⟨seg++[(r.word.2.take 61).1]++sg,(e1.trans c1).trans h1,?_,?_,?_⟩
  · rw[text_mid (by rw[c2];decide) (by rw[c2];rfl),e2,h2,sign_text hgc c2 (by decide)];simp only[Rdr.field];rw[Nd.txt];simp[txts,headT]
  · simp only[Rdr.field,Nd.fieldQ,Nd.kind,Nd.text,Nd.names,Nd.kids,headQ];rw[e3,h3];rfl
  · simp only[Rdr.field,SN,Nd.wt,wts,wsum,List.map_nil,List.sum_nil,szs_append,szs_one] at h4 ⊢;simp only[SW] at e4;omega
end Go.Am

namespace Go.Am
theorem q_row {p:Int} {ws:List Word} {ks:List Nd} (h1:ws.length≤1) (h2:rightW ws=true) (h3:∀x∈ks,x.fieldQ=true):(Nd.mk 10 p [] ws ks).rowQ=true:=by
  unfold Nd.rowQ;simp[Nd.kind,Nd.text,Nd.names,Nd.kids,h2];exact⟨decide_eq_true (by omega),h3⟩
theorem inner_none (t:Tree):Eats t.inner t.inner []:=⟨⟨[],t.kids,rfl,rfl,rfl⟩,rfl,rfl,rfl⟩
theorem fields_in {n:Nat} {t:Tree} (hg:Goods t.kids) {a:Rdr × List Nd} (ha:a=if t.inner.sees 124=true then (t.inner,[]) else someG (oStep (Rdr.field n)) t.inner) (hb:a.1.bad=none) :
    ∃seg,Eats t.inner a.1 seg∧textR (flats seg)=joinC (txts a.2)∧(∀x∈a.2,x.fieldQ=true)∧wts a.2≤szs seg:=by
  split at ha
  · subst ha;exact⟨[],inner_none t,rfl,by simp,by simp[wts]⟩
  · subst ha;obtain⟨seg,e1,e2⟩:=some_sound (field_sound n) (r:=t.inner) hg hb;refine⟨seg,e1,?_,e2.q,?_⟩
    · rw[e2.t,txts_map]
    · have:=e2.s;rwa [wts_S] at this
theorem rowIn_sound {n:Nat} {t:Tree} (hg:Goods t.kids) (hb:(Rdr.rowOf n t).1.1.bad=none) :
    ∃seg,Eats t.inner (Rdr.rowOf n t).1.1 seg∧textR (flats seg)=joinC (txts (Rdr.rowOf n t).1.2)++(if 0<(Rdr.rowOf n t).2.length then [124]++wtext (Rdr.rowOf n t).2 else []) ∧
      (∀x∈(Rdr.rowOf n t).1.2,x.fieldQ=true)∧(Rdr.rowOf n t).2.length≤1∧rightW (Rdr.rowOf n t).2=true∧wts (Rdr.rowOf n t).1.2+wsum (Rdr.rowOf n t).2≤szs seg:=by
  unfold Rdr.rowOf at hb ⊢;split
  · exact⟨[],inner_none t,rfl,by simp,by simp,rfl,by simp[wts,wsum]⟩
  rename_i hne;rw[if_neg hne] at hb;unfold Rdr.rowIn at hb ⊢;simp only at hb ⊢;generalize ha:(if t.inner.sees 124=true then (t.inner,[]) else someG (oStep (Rdr.field n)) t.inner)=a at hb ⊢;split
  · rename_i hs;rw[if_pos hs] at hb;have hba:a.1.bad=none:=by
      simp only[Rdr.sees,Rdr.ok,Bool.and_eq_true,Option.isNone_iff_eq_none] at hs;exact hs.1
    obtain⟨seg,e1,e2,e3,e4⟩:=fields_in hg ha.symm hba;have l1:a.1.l=t.inner.l:=e1.l;have l2:(a.1.take 124).2.l=t.inner.l:=(Rdr.take_l _ 124).trans l1;obtain⟨sw,w1,w2,w3,w4⟩:=word_sound (a.1.take 124).2 (by rw[l2];exact hg) hb;obtain⟨c1,c2⟩:=take_eats w1.b;have hgc:=(c1.good (by rw[l1];exact hg)).1;refine⟨seg++[(a.1.take 124).1]++sw,(e1.trans c1).trans w1,?_,e3,by simp,?_,?_⟩
    · rw[text_mid (by rw[c2];decide) (by rw[c2];rfl),e2,sign_text hgc c2 (by decide),w2];simp[wtext,joinC]
    · simp only[rightW,List.all_cons,List.all_nil,Bool.and_true];exact w3
    · simp only[szs_append,szs_one,wsum,List.map_cons,List.map_nil,List.sum_cons,List.sum_nil];simp only[SW] at w4;omega
  · rename_i hs;rw[if_neg hs] at hb;obtain⟨seg,e1,e2,e3,e4⟩:=fields_in hg ha.symm hb;exact⟨seg,e1,by simpa using e2,e3,by simp,rfl,by simpa [wsum] using e4⟩
theorem row_sound (n:Nat):Sound (Rdr.row n) Nd.txt (fun m=>m.rowQ=true) SN:=by
  intro r hg hb;simp only[Rdr.row] at hb ⊢;split
  · rename_i hs;rw[if_pos hs] at hb;have hb1:(r.take 91).2.bad=none:=by
      rcases r.take_at 91 with ⟨_,_,h,_⟩ | ⟨h,_⟩
      · exact h
      · rw[hs] at h;simp at h
    obtain⟨c1,c2⟩:=take_eats hb1;have hgc:=(c1.good hg).1;have hgk:Goods (r.take 91).1.kids:=((good_eq _).1 hgc).2.2;have hb2:(Rdr.rowOf n (r.take 91).1).1.1.close.bad=none:=hb;obtain⟨seg,e1,e2,e3,e4,e5,e6⟩:=rowIn_sound (n:=n) hgk (close_ok hb2).1;have hseg:=all_in e1 hb2;subst hseg;refine⟨[(r.take 91).1],⟨c1.ex,c1.l,c1.b,hb⟩,?_,q_row e4 e5 e3,?_⟩
    · rw[text_in (by rw[c2];decide),sign_text hgc c2 (by decide),c2,e2,Nd.txt];simp only[show (closing 91).toNat=93 from rfl];simp
    · simp only[SN,Nd.wt,szs_one,List.length_nil];omega
  · rename_i hs;rw[if_neg hs] at hb;obtain⟨seg,e1,e2,⟨e3,e5⟩,e4⟩:=leaf_sound (.inl rfl) r hg hb;refine⟨seg,e1,e2,?_,e4⟩
    have:=q_var e3 e5
    show (r.leaf 1).1.rowQ=true;unfold Nd.rowQ;rw[e3,this];rfl
end Go.Am

namespace Go.Am
abbrev Sh:=Int × List UInt8
def Tok.sh (t:Tok):Sh:=(t.kind,t.text)
def sgn (c:UInt8):Sh:=((c.toNat:Nat),[c])
def LexTo (s:List UInt8) (ks:List Sh):Prop:=∀(n p:Nat) (acc:List Tok),s.length≤n→∃toks,lexF n p s acc=(acc++toks,none)∧toks.map Tok.sh=ks
def Stop:List UInt8→Prop
  | []=>True
  | c::_=>goesB c=false
theorem runR_no {c:UInt8} {s:List UInt8} (h:goesB c=false):runR (c::s)=[]:=by simp[runR,h]
theorem lex_sign {c:UInt8} (h1:signZ (c.toNat:Nat)=true) (h2:goesB c=false) (h3:c.toNat≠45) {s:List UInt8} {ks:List Sh} (h:LexTo s ks):LexTo ([c]++s) ([sgn c]++ks):=by
  intro n p acc hn
  rcases n with _ | n
  · simp at hn
  obtain⟨toks,e1,e2⟩:=h n (p+1) (acc++[⟨(c.toNat:Nat),[c],p⟩]) (by simpa using hn);refine⟨⟨(c.toNat:Nat),[c],p⟩::toks,?_,by simp[Tok.sh,sgn,e2]⟩;rw[List.singleton_append,lexF];rw[if_neg (fun h=>h3 h.1),runR_no h2,if_neg (by simp),if_pos h1,e1];simp
def LexN (tx:List UInt8) (sh:List Sh):Prop:=∀s ks,Stop s→LexTo s ks→LexTo (tx++s) (sh++ks)
def LexS (tx:List UInt8) (sh:List Sh):Prop:=∀s ks,LexTo s ks→LexTo (tx++s) (sh++ks)
theorem LexS.n {t:List UInt8} {k:List Sh} (h:LexS t k):LexN t k:=fun s ks _ hl=>h s ks hl
theorem lexS (c:UInt8) (h:(signZ (c.toNat:Nat)&&!goesB c&&decide (c.toNat≠45))=true):LexS [c] [sgn c]:=fun _ _ hl=>by
  simp only[Bool.and_eq_true,Bool.not_eq_true',decide_eq_true_eq] at h;exact lex_sign h.1.1 h.1.2 h.2 hl
theorem LexS.app {a b:List UInt8} {x y:List Sh} (h:LexS a x) (k:LexS b y):LexS (a++b) (x++y):=fun s ks hl=>by
  rw[List.append_assoc,List.append_assoc];exact h _ _ (k _ _ hl)
theorem LexN.sign {a:List UInt8} {c:UInt8} {x:List Sh} (h:LexN a x) (hc:(signZ (c.toNat:Nat)&&!goesB c&&decide (c.toNat≠45))=true):LexS (a++[c]) (x++[sgn c]):=fun s ks hl=>by
  rw[List.append_assoc,List.append_assoc]
  have:=hc
  simp only[Bool.and_eq_true,Bool.not_eq_true',decide_eq_true_eq] at this;exact h _ _ this.1.2 (lexS c hc _ _ hl)
end Go.Am

namespace Go.Am
theorem field_spec {n:Nd} (h:n.fieldQ=true):n.kind=11∧nameR n.text=true∧n.names=[]∧∃c,n.kids=[c]∧c.atomQ=true:=by
  simp only[Nd.fieldQ,Bool.and_eq_true,decide_eq_true_eq] at h;refine⟨h.1.1.1.1,h.1.1.1.2,List.length_eq_zero_iff.1 (by omega),?_⟩
  match hq:n.kids,h.1.2 with
  | [c],_=>exact⟨c,rfl,by have:=h.2;rw[hq] at this;exact this⟩
  | [],e=>simp at e
  | _::_::_,e=>simp at e;omega
theorem row_spec {n:Nd} (h:n.rowQ=true):(n.kind=10∧n.text=[]∧(n.names=[]∨∃w,n.names=[w]∧nameR w.text=true)∧∀x∈n.kids,x.fieldQ=true)∨(n.kind=1∧n.labelQ=true):=by
  unfold Nd.rowQ at h;split at h
  · rename_i k;simp only[Bool.and_eq_true,decide_eq_true_eq] at h;refine .inl ⟨k,h.1.1.1,?_,List.all_eq_true.1 h.2⟩
    match hq:n.names,h.1.1.2 with
    | [],_=>exact .inl rfl
    | [w],_=>exact .inr ⟨w,rfl,by have:=h.1.2;rw[hq] at this;simpa [rightW] using this⟩
    | _::_::_,e=>simp at e;omega
  · simp only[Bool.and_eq_true,decide_eq_true_eq] at h;exact .inr h
end Go.Am

namespace Go.Am
mutual
def Tree.WF:Tree→Prop
  | .mk t ks e=>closesZ t.kind=false∧(closing t.kind=0→ks=[]∧e=t.pos)∧WFs ks
def WFs:List Tree→Prop
  | []=>True
  | t::ts=>t.WF∧WFs ts
end
theorem WFs_append:∀{a b:List Tree},WFs (a++b)↔WFs a∧WFs b
  | [],b=>by simp[WFs]
  | t::ts,b=>by simp only[List.cons_append,WFs,WFs_append (a:=ts),and_assoc]
theorem kindAt_mid {a r:List Tok} {t:Tok}:kindAt (a++t::r) a.length=t.kind:=by simp[kindAt]
theorem tokN_mid {a r:List Tok} {t:Tok}:tokN (a++t::r) a.length=t:=by simp[tokN]
theorem posAt_mid {a r:List Tok} {t:Tok}:posAt (a++t::r) a.length=t.pos:=by simp[posAt]
theorem closing_close {c:Int} (h:closing c≠0):closesZ (closing c)=true∧closing (closing c)=0:=by
  have:c=40∨c=123∨c=91:=by
    unfold closing at h;split at h
    · rename_i k;exact .inl k
    · split at h
      · rename_i k;exact .inr k
      · exact absurd rfl h
  rcases this with rfl | rfl | rfl<;>decide
theorem flats_cons (t:Tree) (ts:List Tree):flats (t::ts)=t.flat++flats ts:=rfl
theorem bal {l:List Tok} {x:Nat}:∀(k:Nat) (us:List Tree) (a b:List Tok) (n:Nat) (d:Int),manys us≤k→WFs us→l=a++flats us++b→1≤d→partnerF l x (n+(flats us).length) a.length d=partnerF l x n (a++flats us).length d
  | _,[],a,b,n,d,_,_,_,_=>by simp[flats]
  | 0,t::ts,a,b,n,d,h,_,_,_=>by simp[manys] at h
  | k + 1, .mk t ks e :: ts, a, b, n, d, h, hw, hl, hd => by
    simp only[manys,Tree.many] at h;obtain⟨⟨w1,w2,w3⟩,w4⟩:=hw;rw[flats_cons] at hl ⊢
    by_cases hc:closing t.kind=0
    · have ef:(Tree.mk t ks e).flat=[t]:=by simp[Tree.flat,hc]
      rw[ef] at hl ⊢;have hk:kindAt l a.length=t.kind:=by rw[hl];simp only[List.append_assoc,List.cons_append];exact kindAt_mid
      have hd0:delta l a.length=0:=by unfold delta;rw[hk,hc,w1];simp
      rw[show n+([t]++flats ts).length=(n+(flats ts).length)+1 by simp;omega,partnerF_succ,hd0,if_neg (by omega),Int.add_zero]
      have:=bal (l:=l) (x:=x) k ts (a++[t]) b n d (by omega) w4 (by rw[hl];simp) hd
      rw[show (a++[t]).length=a.length+1 by simp] at this;rw[this];simp
    · have ef:(Tree.mk t ks e).flat=t::(flats ks++[⟨closing t.kind,[UInt8.ofNat (closing t.kind).toNat],e⟩]):=by simp[Tree.flat,hc]
      generalize hcl:(⟨closing t.kind,[UInt8.ofNat (closing t.kind).toNat],e⟩:Tok)=c at ef;have hck:c.kind=closing t.kind:=by rw[←hcl]
      obtain⟨c1,c2⟩:=closing_close hc;rw[ef] at hl ⊢;have hk:kindAt l a.length=t.kind:=by rw[hl];simp only[List.append_assoc,List.cons_append];exact kindAt_mid
      have hd1:delta l a.length=1:=delta_open (by rw[hk];exact hc);have hk2:kindAt l (a++[t]++flats ks).length=c.kind:=by
        rw[hl]
        have:a++(t::(flats ks++[c])++flats ts)++b=(a++[t]++flats ks)++c::(flats ts++b):=by simp
        rw[this];exact kindAt_mid
      have hd2:delta l (a++[t]++flats ks).length = -1:=by unfold delta;rw[hk2,hck,c2,c1];simp
      rw[show n+(t::(flats ks++[c])++flats ts).length=((n+(flats ts).length+1)+(flats ks).length)+1 by simp;omega,partnerF_succ,hd1,if_neg (by omega)];have h1:=bal (l:=l) (x:=x) k ks (a++[t]) ([c]++flats ts++b) (n+(flats ts).length+1) (d+1) (by omega) w3 (by rw[hl];simp) (by omega);rw[show (a++[t]).length=a.length+1 by simp] at h1;rw[h1,partnerF_succ,hd2,if_neg (by omega),show d+1 + -1=d by omega];have h2:=bal (l:=l) (x:=x) k ts (a++[t]++flats ks++[c]) b n d (by omega) w4 (by rw[hl];simp) hd;rw[show (a++[t]++flats ks++[c]).length=(a++[t]++flats ks).length+1 by simp;omega] at h2;rw[h2];simp
theorem partner_at {l:List Tok} {t c:Tok} {ks:List Tree} {a b:List Tok} (hl:l=a++[t]++flats ks++c::b) (hw:WFs ks) (hc:closing t.kind≠0) (hck:c.kind=closing t.kind):partner l a.length=(a++[t]++flats ks).length:=by
  obtain⟨c1,c2⟩:=closing_close hc;have hk:kindAt l a.length=t.kind:=by rw[hl];simp only[List.append_assoc,List.singleton_append];exact kindAt_mid
  have hd1:delta l a.length=1:=delta_open (by rw[hk];exact hc);have hk2:kindAt l (a++[t]++flats ks).length=c.kind:=by rw[hl];exact kindAt_mid
  have hd2:delta l (a++[t]++flats ks).length = -1:=by unfold delta;rw[hk2,hck,c2,c1];simp
  unfold partner;rw[show l.length - a.length=((b.length+1)+(flats ks).length)+1 by rw[hl];simp;omega,partnerF_succ,hd1,if_neg (by omega)];have h1:=bal (l:=l) (x:=a.length) _ ks (a++[t]) (c::b) (b.length+1) (0+1) (Nat.le_refl _) hw hl (by omega);rw[show (a++[t]).length=a.length+1 by simp] at h1;rw[h1,partnerF_succ,hd2,if_pos (by omega)]
theorem treesF_flats {l:List Tok}:∀(k:Nat) (us:List Tree) (a b:List Tok) (n:Nat),manys us≤k→WFs us→l=a++flats us++b→(flats us).length≤n→treesF l n a.length (a.length+(flats us).length)=us
  | _,[],a,b,n,_,_,_,_=>by cases n<;>simp[flats,treesF]
  | 0,t::ts,a,b,n,h,_,_,_=>by simp[manys] at h
  | k + 1, .mk t ks e :: ts, a, b, n, h, hw, hl, hn => by
    simp only[manys,Tree.many] at h;obtain⟨⟨w1,w2,w3⟩,w4⟩:=hw;rw[flats_cons] at hl hn ⊢
    by_cases hc:closing t.kind=0
    · have ef:(Tree.mk t ks e).flat=[t]:=by simp[Tree.flat,hc]
      obtain⟨w5,w6⟩:=w2 hc;rw[ef] at hl hn ⊢;have hl' : l=a++t::(flats ts++b):=by rw[hl];simp
      have hk:kindAt l a.length=t.kind:=by rw[hl'];exact kindAt_mid
      have ht:tokN l a.length=t:=by rw[hl'];exact tokN_mid
      have hp:posAt l a.length=t.pos:=by rw[hl'];exact posAt_mid
      simp only[List.length_append,List.length_singleton] at hn ⊢;obtain⟨m,rfl⟩:∃m,n=m+1:=⟨n - 1,by omega⟩;rw[treesF,if_pos (by omega),if_neg (by rw[hk];simpa using hc),ht,hp]
      have:=treesF_flats (l:=l) k ts (a++[t]) b m (by omega) w4 (by rw[hl];simp) (by omega)
      rw[show (a++[t]).length=a.length+1 by simp,show a.length+1+(flats ts).length=a.length+(1+(flats ts).length) by omega] at this;rw[this,w5,w6]
    · have ef:(Tree.mk t ks e).flat=t::(flats ks++[⟨closing t.kind,[UInt8.ofNat (closing t.kind).toNat],e⟩]):=by simp[Tree.flat,hc]
      generalize hcl:(⟨closing t.kind,[UInt8.ofNat (closing t.kind).toNat],e⟩:Tok)=c at ef;have hck:c.kind=closing t.kind:=by rw[←hcl]
      have hce:c.pos=e:=by rw[←hcl]
      rw[ef] at hl hn ⊢;have hl1:l=a++t::(flats ks++[c]++flats ts++b):=by rw[hl];simp
      have hl2:l=a++[t]++flats ks++c::(flats ts++b):=by rw[hl];simp
      have hk:kindAt l a.length=t.kind:=by rw[hl1];exact kindAt_mid
      have ht:tokN l a.length=t:=by rw[hl1];exact tokN_mid
      have hpa:=partner_at hl2 w3 hc hck;have hp:posAt l (a++[t]++flats ks).length=e:=by rw[←hce,hl2];exact posAt_mid
      simp only[List.length_append,List.length_cons,List.length_nil] at hn;obtain⟨m,rfl⟩:∃m,n=m+1:=⟨n - 1,by omega⟩;rw[treesF,if_pos (by simp),if_pos (by rw[hk];exact hc),ht,hpa,hp];have h1:=treesF_flats (l:=l) k ks (a++[t]) (c::(flats ts++b)) m (by omega) w3 hl2 (by omega);have h2:=treesF_flats (l:=l) k ts (a++[t]++flats ks++[c]) b m (by omega) w4 (by rw[hl];simp) (by omega);have e1:(a++[t]++flats ks).length=(a++[t]).length+(flats ks).length:=List.length_append;have e2:a.length+1=(a++[t]).length:=by simp
      have e3:(a++[t]).length+(flats ks).length+1=(a++[t]++flats ks++[c]).length:=by simp only[List.length_append,List.length_singleton]
      have e4:a.length+(t::(flats ks++[c])++flats ts).length=(a++[t]++flats ks++[c]).length+(flats ts).length:=by simp only[List.length_append,List.length_cons,List.length_nil];omega
      rw[e1,e2,h1,e3,e4,h2]
theorem tree_back {us:List Tree} (hw:WFs us) (h:(treeR (flats us)).2=none):(treeR (flats us)).1=us:=by
  unfold treeR at h ⊢;split
  · rename_i h0;rw[if_pos h0] at h;simp at h
  · have:=treesF_flats (l:=flats us) _ us [] [] (flats us).length (Nat.le_refl _) hw (by simp) (Nat.le_refl _)
    simpa using this
end Go.Am

namespace Go.Am
def treeP:List Tok→List (Tok × List Tree)→List Tree→List Tree × Option Int
  | [],op,row=>match op.getLast? with | some (t,_)=>([],some t.pos) | none=>(row,none)
  | t :: ts, op, row =>
    if closing t.kind≠0 then (if 24≤op.length then ([],some t.pos) else treeP ts (op++[(t,row)]) [])
    else if closesZ t.kind=true then
      match op.getLast? with
      | none=>([],some t.pos)
      | some (u,ahead)=>if closing u.kind=t.kind then treeP ts op.dropLast (ahead++[.mk u row t.pos]) else ([],some t.pos)
    else treeP ts op (row++[.mk t [] t.pos])
def Tk.ok (σ0 σ:Store) (n:Nat):Tk→Prop
  | .full=>True
  | .tk τ=>σ0.tip τ=none∧σ.tip τ=some n
  | .no=>False
def Tk.name:Tk→Option Nat
  | .tk τ=>some τ
  | _=>none
def Toks (σ0 σ:Store) (L:List (Tk × Nat)):Prop:=σ0.sub σ∧(∀p∈L,p.1.ok σ0 σ p.2)∧(L.filterMap fun p=>p.1.name).Nodup
theorem Toks.init {σ:Store} {L:List (Tk × Nat)} (h:∀p∈L,p.1 = .full):Toks σ σ L:=by
  refine⟨Store.sub_refl σ,fun p hp=>by rw[h p hp];trivial,?_⟩
  have:L.filterMap (fun p=>p.1.name)=[]:=by
    rw[List.filterMap_eq_nil_iff];intro p hp;rw[h p hp];rfl
  rw[this];exact List.nodup_nil
theorem Toks.perm {σ0 σ:Store} {L L' : List (Tk × Nat)} (h:Toks σ0 σ L) (hp:L.Perm L'):Toks σ0 σ L' :=
  ⟨h.1,fun p hm=>h.2.1 p (hp.mem_iff.2 hm),(hp.filterMap _).nodup_iff.1 h.2.2⟩
theorem Toks.tail {σ0 σ:Store} {p:Tk × Nat} {L:List (Tk × Nat)} (h:Toks σ0 σ (p::L)):Toks σ0 σ L:=by
  refine⟨h.1,fun q hq=>h.2.1 q (by simp[hq]),?_⟩
  have:=h.2.2
  simp only[List.filterMap_cons] at this;split at this
  · exact this
  · exact(List.nodup_cons.1 this).2
theorem Toks.full {σ0 σ:Store} {n:Nat} {L:List (Tk × Nat)} (h:Toks σ0 σ L):Toks σ0 σ ((.full,n)::L) :=
  ⟨h.1,fun q hq=>by rcases List.mem_cons.1 hq with rfl | hq;exact trivial;exact h.2.1 q hq,by simpa [List.filterMap_cons,Tk.name] using h.2.2⟩
theorem Toks.put {σ0 σ:Store} {tk:Tk} {n m τ:Nat} {L:List (Tk × Nat)} (h:Toks σ0 σ ((tk,n)::L)) (h0:σ0.tip τ=none) (ht:tk = .tk τ∨σ.tip τ=none):Toks σ0 (σ.setTip τ m) ((.tk τ,m)::L):=by
  have hnm:τ∉L.filterMap fun p=>p.1.name:=fun hm=>by
    obtain⟨⟨t,k⟩,hq,hn⟩:=List.mem_filterMap.1 hm;cases t with
    | no=>simp[Tk.name] at hn
    | full=>simp[Tk.name] at hn
    | tk υ =>
      simp only[Tk.name,Option.some.injEq] at hn;subst hn
      rcases ht with rfl | ht
      · have:=h.2.2
        simp only[List.filterMap_cons,Tk.name] at this;exact(List.nodup_cons.1 this).1 hm
      · have:=(h.2.1 (.tk υ,k) (by simp[hq])).2
        rw[ht] at this;simp at this
  refine⟨⟨h.1.1,fun t k hk=>?_,h.1.2.2⟩,fun p hp=>?_,?_⟩
  · have hne:t≠τ:=by rintro rfl;rw[h0] at hk;simp at hk
    simp only[Store.setTip,if_neg hne];exact h.1.2.1 t k hk
  · rcases List.mem_cons.1 hp with rfl | hp2
    · exact⟨h0,by simp[Store.setTip]⟩
    · have:=h.2.1 p (by simp[hp2])
      obtain⟨t,k⟩:=p;cases t with
      | no=>exact this
      | full=>trivial
      | tk υ =>
        have hne:υ≠τ:=by rintro rfl;exact hnm (List.mem_filterMap.2 ⟨(.tk υ,k),hp2,rfl⟩)
        exact⟨this.1,by simp only[Store.setTip,if_neg hne];exact this.2⟩
  · simp only[List.filterMap_cons,Tk.name];exact List.nodup_cons.2 ⟨hnm,h.tail.2.2⟩
theorem Toks.fresh {σ0 σ:Store} {L:List (Tk × Nat)} (h:Toks σ0 σ L) {τ:Nat} (ht:σ.tip τ=none):σ0.tip τ=none:=by
  cases hq:σ0.tip τ with
  | none=>rfl
  | some n=>rw[h.1.2.1 τ n hq] at ht;simp at ht
theorem app_any {σ0 σ:Store} {tk u:Tk} {k:Nat} {m n:List (List V)} {K:V→Store→Prop} {L:List (Tk × Nat)} (h:Toks σ0 σ ((tk,m.length)::L)) (hb:m.length+n.length≤big)
    (hk:∀τ,Toks σ0 (σ.setTip τ (m.length+n.length)) ((.tk τ,m.length+n.length)::L)→K (.sl (.tk τ) k (m++n)) (σ.setTip τ (m.length+n.length))):AppOk σ k (.sl tk k m) (.sl u k n) K:=by
  have hh:=h.2.1 (tk,m.length) (by simp);cases tk with
  | no=>exact hh.elim
  | full=>exact app_full hb fun τ hτ=>hk τ (h.put (h.fresh hτ) (.inr hτ))
  | tk τ=>exact app_tk hb hh.2 (hk τ (h.put hh.1 (.inl rfl)))
theorem own_keep {σ:Store} {H:V→Store→Prop} {k:Nat} {cs:List V}:OQ.sem σ H (.keep k) [.agg cs]=(cs.length=k∧nolL cs=true∧oneL cs=true∧H (.sl .full k [cs]) σ):=by
  simp only[OQ.sem,keepOk,keepV,V.wd,V.cells,Option.some.injEq]
  by_cases h:cs.length=k∧nolL cs=true∧oneL cs=true
  · rw[if_pos h];simp[h]
  · rw[if_neg h];simp;intro h1 h2 h3;exact absurd ⟨h1,h2,h3⟩ h
theorem slcL_full {k:Nat} {τ:Tk} {m:List (List V)} {j j' : IntKind} {b:Nat} {H:V→Prop} (h2:b≤m.length) (h:H (.sl .full k (m.take b))):slcL k (.sl τ k m) none (some (.int j b)) (some (.int j' b)) H:=.inl ⟨τ,m,0,b,rfl,Nat.zero_le _,h2,rfl,⟨j,rfl⟩,⟨j',rfl⟩,h⟩
end Go.Am

namespace Go.Am
structure Cmd where
  op:Int
  pos:Int
  name:Word
  names:List Word
  pairs:List (Word × Word)
  pairsAt:Int
  left:Nd
  right:Nd
def Cmd.zero:Cmd:=⟨0,0,⟨[],0⟩,[],[],0,.zero,.zero⟩
def penc (p:Word × Word):List V:=[.str p.1.text,.int .i64 p.1.pos,.str p.2.text,.int .i64 p.2.pos]
def Cmd.encP (c:Cmd) (pc:V):List V:=[.int .i64 c.op,.int .i64 c.pos,.str c.name.text,.int .i64 c.name.pos,.sl .no 2 (c.names.map Word.enc),pc,.int .i64 c.pairsAt,
  .int .i64 c.left.kind,.int .i64 c.left.pos,.str c.left.text,.sl .no 2 (c.left.names.map Word.enc),.sl .no 5 (c.left.kids.map Nd.enc),.int .i64 c.right.kind,.int .i64 c.right.pos,.str c.right.text,.sl .no 2 (c.right.names.map Word.enc),.sl .no 5 (c.right.kids.map Nd.enc)]
def pcell:List (Word × Word)→V
  | []=>.sl .full 4 []
  | p::ps=>.sl .no 4 ((p::ps).map penc)
def Cmd.enc (c:Cmd):List V:=c.encP (.sl .no 4 (c.pairs.map penc))
def formT:List (List UInt8 × List UInt8) :=
  [([],[]),([99,104,97,105,110],[110,119]),([112,111,119,101,114],[110,119]),([112,114,111,100,117,99,116],[110,119]),([103,114,105,100],[110,119,112]),([116,97,98,108,101],[110,119,112]),([108,97,98,101,108],[110,119]),([114,111,119],[110,119]),([108,101,113],[110,116,116]),([114,111,119,101,113],[110,114,114]),([108,97,99,107,115],[110,102]),([112,117,115,104],[]),([112,111,112],[]),([99,104,101,99,107],[]),([99,111,114,101],[]),([119,104,121],[110])]
def formCells:List V:=(formT.map fun p=>[V.str p.1,V.str p.2]).flatten
def formOf (op:Int):List UInt8 × List UInt8:=if 0≤op∧op<16 then formT.getD op.toNat ([],[]) else ([],[])
def numF (w:List UInt8):Nat→Nat→Int
  | 0,_=>0
  | n+1,op=>if 0<op∧(formOf op).1=w then op else numF w n (op+1)
def numberP (w:List UInt8):Int:=numF w 16 0
def Rdr.pairsG:Nat→Rdr→List (Word × Word)→Rdr × List (Word × Word)
  | 0,i,acc=>(i,acc)
  | n + 1, i, acc =>
    if i.bad≠none then (i,acc)
    else
      if ((i.word.2.take 60).2.word).2.at_=i.l.length then (((i.word.2.take 60).2.word).2,acc++[(i.word.1,((i.word.2.take 60).2.word).1)])
      else pairsG n (((i.word.2.take 60).2.word).2.take 44).2 (acc++[(i.word.1,((i.word.2.take 60).2.word).1)])
def Rdr.bads (r:Rdr) (b:Option Int):Rdr:=match b with | some a=>{r with bad:=some a} | none=>r
def pairsP (r:Rdr) (c:Cmd):Rdr × Cmd :=
  let t:=(r.take 123).1
  let r1:=(r.take 123).2
  if r1.bad≠none∨t.kids.length=0 then (r1,{c with pairsAt:=t.tok.pos})
  else (r1.bads (t.inner.pairsG (t.kids.length+1) []).1.bad,{c with pairsAt:=t.tok.pos,pairs:=(t.inner.pairsG (t.kids.length+1) []).2})
def nodeP (r:Rdr) (c:Cmd) (g:Nd × Int × Option Int):Rdr × Cmd :=
  match g.2.2 with
  | some a=>({r with bad:=some a},c)
  | none=>({r with at_:=g.2.1},if c.left.kind=0 then {c with left:=g.1} else {c with right:=g.1})
def partP (letter:UInt8) (x:Rdr × Cmd):Rdr × Cmd :=
  if x.1.bad≠none then x
  else if letter=110 then (x.1.word.2,{x.2 with name:=x.1.word.1})
  else if letter=102 then (x.1.word.2,{x.2 with names:=[x.1.word.1]})
  else if letter=119 then ({x.1 with bad:=(wordsAt x.1.l x.1.at_ x.1.fin).2,at_:=x.1.at_+1},{x.2 with names:=(wordsAt x.1.l x.1.at_ x.1.fin).1})
  else if letter=112 then pairsP x.1 x.2
  else if letter=116 then nodeP x.1 x.2 (readAt (Rdr.label (manys x.1.l)) x.1.l x.1.at_ x.1.fin)
  else if letter=114 then nodeP x.1 x.2 (readAt (Rdr.row (manys x.1.l)) x.1.l x.1.at_ x.1.fin)
  else x
def partsP:List UInt8→Rdr × Cmd→Rdr × Cmd
  | [],x=>x
  | k::ks,x=>partsP ks (partP k x)
def endP (x:Rdr × Cmd):Cmd × Int × Int :=
  match (if x.1.bad=none∧x.1.at_<x.1.l.length then x.1.fail else x.1).bad with
  | some a=>(.zero,2,a)
  | none=>(x.2,0,0)
def cmdP (l:List Tree) (fin:Int):Cmd × Int × Int :=
  match l with
  | []=>(.zero,0,0)
  | t :: _ =>
    let w:=(⟨l,0,fin,none⟩:Rdr).word
    if numberP w.1.text=0 then (.zero,2,t.tok.pos)
    else endP (partsP (formOf (numberP w.1.text)).2 (w.2,{Cmd.zero with op:=numberP w.1.text,pos:=w.1.pos}))
def readP (s:List UInt8):Cmd × Int × Int :=
  match (lexR s).2 with
  | some a=>(.zero,1,a)
  | none => match (treeP (lexR s).1 [] []).2 with
    | some a=>(.zero,2,a)
    | none=>cmdP (treeP (lexR s).1 [] []).1 s.length
end Go.Am

namespace Go.Am
structure PInv (l:List Tree) (fin:Int) (x:Rdr × Cmd):Prop where
  hl:x.1.l=l
  hf:x.1.fin=fin
  ge:0≤x.1.at_
  le:x.1.at_≤(l.length:Int)+1
  ok:x.1.bad=none→x.1.at_≤(l.length:Int)
theorem fail_fin (r:Rdr):r.fail.fin=r.fin:=by unfold Rdr.fail;split<;>rfl
theorem take_fin (r:Rdr) (k:Int):(r.take k).2.fin=r.fin:=by
  unfold Rdr.take;split
  · rfl
  · exact fail_fin r
theorem goes_row (n:Nat) (r:Rdr):Goes r (r.row n).2:=by
  unfold Rdr.row;split
  · rename_i hs;have h:=goes_take r 91;have hb:(r.take 91).2.bad=none:=by
      rcases r.take_at 91 with ⟨_,_,hb,_,_⟩ | ⟨h',_⟩
      · exact hb
      · rw[hs] at h';simp at h'
    exact⟨h.1,fun h1 h2=>by
      obtain⟨p1,p2,p3⟩:=h.2 h1 h2;exact⟨p1,p2,fun _=>p3 hb⟩⟩
  · exact goes_leaf r 1
theorem PInv.goes {l:List Tree} {fin:Int} {x:Rdr × Cmd} {r:Rdr} {c:Cmd} (h:PInv l fin x) (hb:x.1.bad=none) (g:Goes x.1 r) (hf:r.fin=x.1.fin):PInv l fin (r,c):=by
  obtain⟨h1,h2,h3,h4,h5⟩:=h;have h5:=h5 hb;obtain⟨g1,g2⟩:=g;rw[h1] at g2;have g2:=g2 h3 (by omega);exact⟨g1.trans h1,hf.trans h2,by simp only;omega,by simp only;omega,fun _=>by simp only;omega⟩
theorem PInv.bad {l:List Tree} {fin:Int} {r:Rdr} {c c' : Cmd} {a:Int} (h:PInv l fin (r,c)):PInv l fin ({r with bad:=some a},c'):=⟨h.hl,h.hf,h.ge,h.le,fun h=>by simp at h⟩
theorem nodeP_inv {l:List Tree} {fin:Int} {r:Rdr} {c:Cmd} {one:Rdr→Nd × Rdr} (h:PInv l fin (r,c)) (hb:r.bad=none) (ho:∀r,Goes r (one r).2):PInv l fin (nodeP r c (readAt one r.l r.at_ r.fin)):=by
  unfold nodeP readAt;have he:(⟨r.l,r.at_,r.fin,none⟩:Rdr)=r:=by cases r;simp only at hb;subst hb;rfl
  rw[he];cases hq:(one r).2.bad with
  | some a=>exact h.bad
  | none =>
    obtain⟨g1,g2⟩:=ho r;have h5:=h.ok hb;have h3:=h.ge;have h1:=h.hl;simp only at h5 h3 h1;rw[h1] at g2;have g2:=g2 h3 h5;exact⟨h.hl,h.hf,by simp only;omega,by simp only;omega,fun _=>by simp only;omega⟩
theorem pairsP_inv {l:List Tree} {fin:Int} {r:Rdr} {c:Cmd} (h:PInv l fin (r,c)) (hb:r.bad=none):PInv l fin (pairsP r c):=by
  have h1:∀c',PInv l fin ((r.take 123).2,c'):=fun c' => PInv.goes (x:=(r,c)) h hb (goes_take r 123) (take_fin r 123)
  unfold pairsP;simp only;split
  · exact h1 _
  · unfold Rdr.bads;split
    · exact(h1 c).bad
    · exact h1 _
theorem partP_inv {l:List Tree} {fin:Int} {x:Rdr × Cmd} (h:PInv l fin x) (k:UInt8):PInv l fin (partP k x):=by
  obtain⟨r,c⟩:=x;unfold partP;simp only;split
  · exact h
  rename_i hb;have hb:r.bad=none:=by simpa using hb
  split
  · exact PInv.goes (x:=(r,c)) h hb (goes_word r) (take_fin r 97)
  split
  · exact PInv.goes (x:=(r,c)) h hb (goes_word r) (take_fin r 97)
  split
  · have h5:=h.ok hb;have h3:=h.ge;simp only at h5 h3;refine⟨h.hl,h.hf,by simp only;omega,by simp only;omega,fun hn=>?_⟩;have he:(⟨r.l,r.at_,r.fin,none⟩:Rdr)=r:=by cases r;simp only at hb;subst hb;rfl
    simp only[wordsAt,he] at hn;cases hq:(r.words false).2.bad with
    | some a=>rw[hq] at hn;simp at hn
    | none =>
      obtain⟨g1,g2⟩:=goes_words r false;have h1:=h.hl;simp only at h1;rw[h1] at g2
      have:=(g2 h3 h5)
      have:=this.2.2 hq
      simp only;omega
  split
  · exact pairsP_inv h hb
  split
  · exact nodeP_inv h hb (goes_label _)
  split
  · exact nodeP_inv h hb (goes_row _)
  · exact h
theorem partsP_snoc:∀(ks:List UInt8) (k:UInt8) (x:Rdr × Cmd),partsP (ks++[k]) x=partP k (partsP ks x)
  | [],_,_=>rfl
  | _::ks,k,x=>partsP_snoc ks k _
theorem partsP_inv {l:List Tree} {fin:Int}:∀(ks:List UInt8) {x:Rdr × Cmd},PInv l fin x→PInv l fin (partsP ks x)
  | [],_,h=>h
  | k::ks,_,h=>partsP_inv ks (partP_inv h k)
theorem partP_pairs {k:UInt8} {x:Rdr × Cmd} (h:k≠112∨x.1.bad≠none):(partP k x).2.pairs=x.2.pairs:=by
  unfold partP;split
  · rfl
  rename_i hb;have hb:x.1.bad=none:=by simpa using hb
  have hk:k≠112:=by rcases h with h | h;exact h;exact absurd hb h
  split
  · rfl
  split
  · rfl
  split
  · rfl
  have hn:∀g,(nodeP x.1 x.2 g).2.pairs=x.2.pairs:=fun g=>by
    unfold nodeP;split
    · rfl
    · simp only;split<;>rfl
  split
  · exact hn _
  split
  · exact hn _
  · rfl
theorem partsP_pairs:∀(ks:List UInt8) {x:Rdr × Cmd},(∀k∈ks,k≠112)→(partsP ks x).2.pairs=x.2.pairs
  | [],_,_=>rfl
  | k::ks,x,h=>(partsP_pairs ks fun j hj=>h j (by simp[hj])).trans (partP_pairs (.inl (h k (by simp))))
theorem form_once (op:Int) (i:Nat) (h:(formOf op).2[i]?=some 112):∀k∈(formOf op).2.take i,k≠112:=by
  unfold formOf at h ⊢;split at h
  · rename_i h1;rw[if_pos h1];have hlt:op.toNat<16:=by omega
    generalize op.toNat=n at h hlt ⊢;have key:∀n<16,∀i<3,(formT.getD n ([],[])).2[i]?=some 112→∀k∈(formT.getD n ([],[])).2.take i,k≠112:=by decide
    have hl:∀n<16,(formT.getD n ([],[])).2.length≤3:=by decide
    have:=(List.getElem?_eq_some_iff.1 h).1
    exact key n hlt i (by have:=hl n hlt;omega) h
  · simp at h
theorem form_ascii (op:Int):∀c∈(formOf op).2,c.toNat<128:=by
  unfold formOf;split
  · rename_i h1;have hlt:op.toNat<16:=by omega
    generalize op.toNat=n at hlt ⊢;have key:∀n<16,∀c∈(formT.getD n ([],[])).2,c.toNat<128:=by decide
    exact key n hlt
  · simp
end Go.Am

namespace Go.Am
def varFl (s:Scp) (lat:Int) (t:List UInt8) (p kind:Int):List Flt :=
  match findV s.vars t with
  | none=>if (findL s.lats t).isNone then [⟨3,p⟩] else [⟨4,p⟩]
  | some v => match s.vars[v]? with
    | some x=>if x.kind≠kind∨(0≤lat∧x.lat≠lat) then [⟨4,p⟩] else []
    | none=>[]
def latFl (s:Scp) (w:Word):List Flt:=if (findL s.lats w.text).isNone then (if (findV s.vars w.text).isNone then [⟨3,w.pos⟩] else [⟨4,w.pos⟩]) else []
def elmO (s:Scp) (lat:Int) (n:Nd):Option Int:=(elemF (shapeF s lat.toNat) (n.kids.getD 0 nd0)).2
def elmFl (s:Scp) (lat:Int) (n:Nd):List Flt:=if 0<n.kids.length∧0≤lat then (match elmO s lat n with | some p=>[⟨4,p⟩] | none=>[]) else []
def atmFl (s:Scp) (lat:Int) (n:Nd):List Flt:=if n.kind=1 then varFl s lat n.text n.pos 1 else if n.kind=7 then elmFl s lat n else []
mutual
def labFl (s:Scp) (lat:Int):Nd→List Flt
  | .mk k p t ws ks=>atmFl s lat (.mk k p t ws ks)++if k=1∨k=7 then [] else labsFl s lat ks
def labsFl (s:Scp) (lat:Int):List Nd→List Flt
  | []=>[]
  | n::ns=>labFl s lat n++labsFl s lat ns
end
theorem labsFl_map {s:Scp} {lat:Int}:∀{l:List Nd},labsFl s lat l=l.flatMap (labFl s lat)
  | []=>by simp[labsFl]
  | n::ns=>by simp[labsFl,labsFl_map]
theorem labFl_eq {s:Scp} {lat:Int} (n:Nd):labFl s lat n=atmFl s lat n++if n.kind=1∨n.kind=7 then [] else n.kids.flatMap (labFl s lat):=by
  cases n;rw[labFl,labsFl_map];rfl
def dupFl (ks:List Nd) (i:Nat):List Flt:=if (findS ((ks.take i).map Nd.text) (ks.getD i nd0).text).isSome then [⟨4,(ks.getD i nd0).pos⟩] else []
def fldFl (s:Scp) (lat:Int) (ks:List Nd) (i:Nat):List Flt:=dupFl ks i++(ks.getD i nd0).kids.flatMap (atmFl s lat)
def fldsFl (s:Scp) (lat:Int) (ks:List Nd) (m:Nat):List Flt:=(List.range m).flatMap (fldFl s lat ks)
def tailFl (s:Scp) (lat:Int) (ws:List Word):List Flt:=ws.flatMap fun w=>varFl s lat w.text w.pos 2
def rowFl (s:Scp) (lat p:Int) (n:Nd):List Flt :=
  if n.kind=1 then varFl s lat n.text n.pos 2 else if n.kind=10 then fldsFl s lat n.kids n.kids.length++tailFl s lat n.names++(if 16<n.kids.length then [⟨7,p⟩] else []) else []
def latI (s:Scp) (c:Cmd):Int:=optI (findL s.lats c.name.text)
def defFl (n:Nd):List Flt:=if n.kind=8∨n.kind=9 then [⟨6,n.pos⟩] else []
def cmdFl (s:Scp) (c:Cmd):List Flt :=
  if c.op=10 then varFl s (-1) c.name.text c.name.pos 2
  else if c.op=15 then varFl s (-1) c.name.text c.name.pos 1
  else if c.op=8 then latFl s c.name++labFl s (latI s c) c.left++labFl s (latI s c) c.right++defFl c.right
  else if c.op=9 then latFl s c.name++rowFl s (latI s c) c.pos c.left++rowFl s (latI s c) c.pos c.right
  else []
def faultC (s:Scp) (c:Cmd):Flt:=leastF (cmdFl s c)
def EqF (a b:List Flt):Prop:=∀f:Flt,f.cls≠0→(f∈a↔f∈b)
theorem EqF.refl (a:List Flt):EqF a a:=fun _ _=>Iff.rfl
theorem EqF.app {a b c d:List Flt} (h:EqF a b) (k:EqF c d):EqF (a++c) (b++d):=fun f hf=>by rw[List.mem_append,List.mem_append,h f hf,k f hf]
theorem EqF.flat {α:Type} {f g:α→List Flt}:∀{l:List α},(∀x∈l,EqF (f x) (g x))→EqF (l.flatMap f) (l.flatMap g)
  | [],_=>EqF.refl _
  | x::l,h=>by rw[List.flatMap_cons,List.flatMap_cons];exact(h x (by simp)).app (EqF.flat fun y hy=>h y (by simp[hy]))
section
variable {s:Scp} {lat:Int}
end
end Go.Am

namespace Go.Am
def wenc (τ:Nat) (l:List Flt) (s:Scp) (lat p:Int):List V:=[.sl (.tk τ) 2 (l.map Flt.enc),.sl .no 3 (s.lats.map Ltc.enc),.sl .no 3 (s.vars.map Vrb.enc),.int .i64 lat,.int .i64 p]
def wput (σ:Store) (b τ:Nat) (l:List Flt) (s:Scp) (lat p:Int):Store:=(σ.set b (wenc τ l s lat p)).setTip τ l.length
section
variable {σ:Store} {b b' τ n:Nat} {l:List Flt} {s:Scp} {lat lat' p x y:Int} {c:List V}
theorem wput_box:(wput σ b τ l s lat p).box b=some (wenc τ l s lat p):=by simp[wput,Store.set,Store.setTip]
theorem wput_ne (h:b' ≠ b):(wput σ b τ l s lat p).box b' = σ.box b' := by simp[wput,Store.set,Store.setTip,h]
theorem wput_tip:(wput σ b τ l s lat p).tip τ=some l.length:=by simp[wput,Store.set,Store.setTip]
theorem wput_setne (h:b' ≠ b):(wput σ b τ l s lat p).set b' c=wput (σ.set b' c) b τ l s lat p:=by
  simp only[wput,Store.set,Store.setTip,Store.mk.injEq,and_true];funext z
  by_cases h1:z=b'
  · subst h1;simp[h]
  · simp[h1]
theorem wput_lat:(wput σ b τ l s lat p).set b [.sl (.tk τ) 2 (l.map Flt.enc),.sl .no 3 (s.lats.map Ltc.enc),.sl .no 3 (s.vars.map Vrb.enc),.int .i64 x,.int .i64 p]=wput σ b τ l s x p:=by
  simp only[wput,wenc,Store.set,Store.setTip,Store.mk.injEq,and_true];funext z
  by_cases h1:z=b<;>simp[h1]
theorem wput_app:((wput σ b τ l s lat p).setTip τ (l.length+1)).set b [.sl (.tk τ) 2 (l.map Flt.enc++[[.int .i64 x,.int .i64 y]]),.sl .no 3 (s.lats.map Ltc.enc),.sl .no 3 (s.vars.map Vrb.enc),.int .i64 lat,.int .i64 p]=wput σ b τ (l++[⟨x,y⟩]) s lat p:=by
  simp only[wput,wenc,Store.set,Store.setTip,Store.mk.injEq,List.map_append,List.map_cons,List.map_nil,Flt.enc,List.length_append,List.length_singleton,and_true];constructor
  · funext z
    by_cases h1:z=b<;>simp[h1]
  · funext z
    by_cases h1:z=τ<;>simp[h1]
theorem wput_sub (h:σ.box b=none) (ht:σ.tip τ=none):σ.sub (wput σ b τ l s lat p):=by
  refine⟨fun x cs hx=>?_,fun t m hm=>?_,fun _ _ h=>h⟩
  · have:x≠b:=by rintro rfl;rw[h] at hx;simp at hx
    rw[wput_ne this];exact hx
  · have:t≠τ:=by rintro rfl;rw[ht] at hm;simp at hm
    simp[wput,Store.set,Store.setTip,this];exact hm
theorem wput_new (h:b' ≠ b) (hn:σ.box b' = none):(wput σ b τ l s lat p).sub (wput (σ.set b' c) b τ l s lat p):=by
  refine⟨fun x cs hx=>?_,fun t m hm=>?_,fun _ _ h=>h⟩
  · by_cases h1:x=b
    · subst h1;rw[wput_box] at hx ⊢;exact hx
    · rw[wput_ne h1] at hx ⊢
      have:x≠b' := by rintro rfl;rw[hn] at hx;simp at hx
      simp only[Store.set,this,if_false];exact hx
  · simpa [wput,Store.set,Store.setTip] using hm
theorem w_f:ldC false 1 (wenc τ l s lat p)=some (.sl (.tk τ) 2 (l.map Flt.enc)):=rfl
theorem w_s:takeN 2 ((wenc τ l s lat p).drop 1)=some s.enc:=rfl
theorem w_l:ldC false 1 ((wenc τ l s lat p).drop 1)=some (.sl .no 3 (s.lats.map Ltc.enc)):=rfl
theorem w_v:ldC false 1 ((wenc τ l s lat p).drop 2)=some (.sl .no 3 (s.vars.map Vrb.enc)):=rfl
theorem w_t:ldC false 1 ((wenc τ l s lat p).drop 3)=some (.int .i64 lat):=rfl
theorem w_p:ldC false 1 ((wenc τ l s lat p).drop 4)=some (.int .i64 p):=rfl
theorem w_h:hasN 1 (wenc τ l s lat p)=true:=rfl
theorem w_h3:hasN 1 ((wenc τ l s lat p).drop 3)=true:=rfl
theorem w_o {v:V}:over (wenc τ l s lat p) [v]=[v,.sl .no 3 (s.lats.map Ltc.enc),.sl .no 3 (s.vars.map Vrb.enc),.int .i64 lat,.int .i64 p]:=rfl
theorem w_o3 {v:V}:setAt (wenc τ l s lat p) 3 [v]=[.sl (.tk τ) 2 (l.map Flt.enc),.sl .no 3 (s.lats.map Ltc.enc),.sl .no 3 (s.vars.map Vrb.enc),v,.int .i64 p]:=rfl
theorem wd_t {w:Word}:ldC false 1 w.enc=some (.str w.text):=rfl
theorem wd_p {w:Word}:ldC false 1 (w.enc.drop 1)=some (.int .i64 w.pos):=rfl
theorem w_b {u v x y:V}:over [u,v,x,y] s.enc=[.sl .no 3 (s.lats.map Ltc.enc),.sl .no 3 (s.vars.map Vrb.enc),x,y]:=rfl
def wr_:=And.intro @w_b <| And.intro @wd_t <| And.intro @wd_p <| And.intro @wput_box <| And.intro @wput_tip <| And.intro @w_f <| And.intro @w_s <| And.intro @w_l <| And.intro @w_v <| And.intro @w_t <| And.intro @w_p <| And.intro @w_h <| And.intro @w_h3 <| And.intro @w_o @w_o3
end
end Go.Am

namespace Go.Am
theorem wput_tipne {σ:Store} {b τ υ n:Nat} {l:List Flt} {s:Scp} {lat p:Int} (h:υ≠τ):(wput σ b τ l s lat p).setTip υ n=wput (σ.setTip υ n) b τ l s lat p:=by
  simp only[wput,Store.set,Store.setTip,Store.mk.injEq,true_and,and_true];funext z
  by_cases h1:z=υ
  · subst h1;simp[h]
  · simp[h1]
theorem wput_mono {σ σ' : Store} {b τ:Nat} {l:List Flt} {s:Scp} {lat p:Int} (h:σ.sub σ'):(wput σ b τ l s lat p).sub (wput σ' b τ l s lat p):=by
  refine⟨fun x cs hx=>?_,fun t m hm=>?_,h.2.2⟩
  · by_cases h1:x=b
    · subst h1;rw[wput_box] at hx ⊢;exact hx
    · rw[wput_ne h1] at hx ⊢;exact h.1 x cs hx
  · simp only[wput,Store.set,Store.setTip] at hm ⊢;split
    · rename_i e;rw[if_pos e] at hm;exact hm
    · rename_i e;rw[if_neg e] at hm;exact h.2.1 t m hm
structure Ah (σ σ' : Store) (τ:Nat) (tk:Tk) (n:Nat):Prop where
  box:σ'.box=σ.box
  sub:σ.sub σ'
  tk:tk = .full∨∃υ,tk = .tk υ∧υ≠τ∧σ'.tip υ=some n∧σ.tip υ=none
theorem Ah.nil {σ:Store} {τ:Nat}:Ah σ σ τ .full 0:=⟨rfl,Store.sub_refl σ,.inl rfl⟩
theorem Ah.app {σ σ' : Store} {b τ k:Nat} {tk u:Tk} {l:List Flt} {s:Scp} {lat p:Int} {m e:List (List V)} {K:V→Store→Prop} (h:Ah σ σ' τ tk m.length) (hb:m.length+e.length≤big)
    (hk:∀tk' σ'',Ah σ σ'' τ tk' (m++e).length→K (.sl tk' k (m++e)) (wput σ'' b τ l s lat p)):AppOk (wput σ' b τ l s lat p) k (.sl tk k m) (.sl u k e) K:=by
  have hl:(m++e).length=m.length+e.length:=List.length_append;have up:∀υ n,σ'.tip υ=none∨σ.tip υ=none→σ.sub (σ'.setTip υ n):=fun υ n hn=>⟨fun x cs hx=>h.sub.1 x cs hx,fun t q hq=>by
    have hne:t≠υ:=by
      rintro rfl
      rcases hn with hn | hn
      · rw[h.sub.2.1 _ _ hq] at hn;simp at hn
      · rw[hq] at hn;simp at hn
    simp only[Store.setTip,if_neg hne];exact h.sub.2.1 t q hq,h.sub.2.2⟩
  rcases h.tk with rfl | ⟨υ,rfl,hne,ht,h0⟩
  · refine app_full hb fun υ hυ=>?_
    have hne:υ≠τ:=by rintro rfl;rw[wput_tip] at hυ;simp at hυ
    have hυ' : σ'.tip υ=none:=by simpa [wput,Store.set,Store.setTip,hne] using hυ
    rw[wput_tipne hne];refine hk _ _ ⟨h.box,up υ _ (.inl hυ'),.inr ⟨υ,rfl,hne,by rw[hl];simp[Store.setTip],?_⟩⟩;cases hq:σ.tip υ with
    | none=>rfl
    | some n=>rw[h.sub.2.1 _ _ hq] at hυ';simp at hυ'
  · refine app_tk hb (by simpa [wput,Store.set,Store.setTip,hne] using ht) ?_;rw[wput_tipne hne];exact hk _ _ ⟨h.box,up υ _ (.inr h0),.inr ⟨υ,rfl,hne,by rw[hl];simp[Store.setTip],h0⟩⟩
section
variable {s:Scp} {lat:Int}
theorem varFl_len {t:List UInt8} {p k:Int}:(varFl s lat t p k).length≤1:=by
  unfold varFl;split
  · split<;>simp
  · split
    · split<;>simp
    · simp
theorem latFl_len {w:Word}:(latFl s w).length≤1:=by unfold latFl;split;(split<;>simp);simp
theorem atmFl_len {n:Nd}:(atmFl s lat n).length≤1:=by
  unfold atmFl;split
  · exact varFl_len
  · split
    · unfold elmFl;split
      · cases elmO s lat n<;>simp
      · simp
    · simp
mutual
theorem labFl_len:∀n:Nd,(labFl s lat n).length≤n.cnt
  | .mk k p t ws ks => by
    have h1:=@atmFl_len s lat (.mk k p t ws ks);have h2:=labsFl_len ks;rw[labFl,List.length_append,Nd.cnt];split
    · simp;omega
    · omega
theorem labsFl_len:∀l:List Nd,(labsFl s lat l).length≤cnts l
  | []=>by simp[labsFl]
  | n :: ns => by
    have:=labFl_len n;have:=labsFl_len ns
    rw[labsFl,List.length_append,cnts];omega
end
theorem cnts_take2:∀{l:List Nd} {i:Nat} (hi:i<l.length),cnts (l.take i)+l[i].cnt≤cnts l
  | [],i,hi=>by simp at hi
  | n::ns,0,_=>by simp[cnts]
  | n :: ns, i + 1, hi => by
    have:=cnts_take2 (l:=ns) (i:=i) (by simpa using hi)
    simp only[List.take_succ_cons,cnts,List.getElem_cons_succ];omega
theorem labs_take {l:List Nd} {i:Nat} (hi:i<l.length):((l.take i).flatMap (labFl s lat)).length+l[i].cnt≤cnts l:=by
  have h1:=@labsFl_len s lat (l.take i);rw[labsFl_map] at h1
  have:=cnts_take2 hi
  omega
theorem flat_len {α:Type} {f:α→List Flt} {m:Nat}:∀{l:List α},(∀x∈l,(f x).length≤m)→(l.flatMap f).length≤l.length*m
  | [],_=>by simp
  | x :: l, h => by
    have:=h x (by simp)
    have:=flat_len (m:=m) (l:=l) fun y hy=>h y (by simp[hy])
    rw[List.flatMap_cons,List.length_append,List.length_cons,Nat.add_mul,Nat.one_mul];omega
theorem flat_take {α:Type} {f:α→List Flt} {l:List α} {i:Nat} (hi:i<l.length):(l.take (i+1)).flatMap f=(l.take i).flatMap f++f l[i]:=by
  rw[List.take_succ_eq_append_getElem hi,List.flatMap_append];simp
theorem tailFl_len {ws:List Word}:(tailFl s lat ws).length≤ws.length:=by
  have:=flat_len (f:=fun w:Word=>varFl s lat w.text w.pos 2) (m:=1) (l:=ws) fun _ _=>varFl_len
  rw[Nat.mul_one] at this;exact this
theorem fldFl_len {ks:List Nd} {i:Nat}:(fldFl s lat ks i).length≤1+(ks.getD i nd0).kids.length:=by
  have:=flat_len (f:=atmFl s lat) (m:=1) (l:=(ks.getD i nd0).kids) fun _ _=>atmFl_len
  have h2:(dupFl ks i).length≤1:=by unfold dupFl;split<;>simp
  rw[fldFl,List.length_append];omega
theorem fldsFl_succ {ks:List Nd} {m:Nat}:fldsFl s lat ks (m+1)=fldsFl s lat ks m++fldFl s lat ks m:=by
  simp only[fldsFl,List.range_succ,List.flatMap_append,List.flatMap_cons,List.flatMap_nil,List.append_nil]
theorem cnts_succ:∀{l:List Nd} {i:Nat} (hi:i<l.length),cnts (l.take (i+1))=cnts (l.take i)+l[i].cnt
  | [],i,hi=>by simp at hi
  | n::ns,0,_=>by simp[cnts]
  | n :: ns, i + 1, hi => by
    have:=cnts_succ (l:=ns) (i:=i) (by simpa using hi)
    simp only[List.take_succ_cons,cnts,List.getElem_cons_succ] at this ⊢;omega
theorem fldsFl_len {ks:List Nd}:∀{m:Nat},m≤ks.length→(fldsFl s lat ks m).length≤cnts (ks.take m)
  | 0,_=>by simp[fldsFl]
  | m + 1, hm => by
    have h1:=fldsFl_len (ks:=ks) (m:=m) (by omega);have h2:=@fldFl_len s lat ks m;have h3:=Nd.cnt_pos ks[m];have h4:=cnts_len ks[m].kids;rw[getD_at (by omega)] at h2;rw[fldsFl_succ,List.length_append,cnts_succ (by omega)];omega
theorem rowFl_len {p:Int} {n:Nd}:(rowFl s lat p n).length≤2*n.cnt+2:=by
  have hkc:=Nd.cnt_pos n;have hnc:=cnt_names n;have h1:=fldsFl_len (s:=s) (lat:=lat) (Nat.le_refl n.kids.length);have h2:=cnts_take n.kids n.kids.length;have h3:=@tailFl_len s lat n.names;have h4:=@varFl_len s lat n.text n.pos 2;unfold rowFl;split
  · omega
  · split
    · simp only[List.length_append]
      have:(if 16<n.kids.length then [(⟨7,p⟩:Flt)] else []).length≤1:=by split<;>simp
      omega
    · simp
end
end Go.Am

namespace Go.Am
def Got.put (g:Got) (f:Nd→Nd):Got:=if g.bad=true then g else {g with node:=f g.node}
end Go.Am

namespace Go.Am
end Go.Am

namespace Go.Am
def opFlat:List (Tok × List Tree)→List Tok
  | []=>[]
  | (t,r)::op=>flats r++[t]++opFlat op
theorem opFlat_snoc:∀(op:List (Tok × List Tree)) (t:Tok) (r:List Tree),opFlat (op++[(t,r)])=opFlat op++flats r++[t]
  | [],t,r=>by simp[opFlat]
  | (u,q)::op,t,r=>by simp[opFlat,opFlat_snoc op t r]
theorem closing_closes {c:Int} (h:closing c≠0):closesZ c=false:=by
  unfold closing at h;split at h
  · rename_i e;subst e;decide
  · split at h
    · rename_i e;rcases e with e | e<;>subst e<;>decide
    · exact absurd rfl h
theorem snoc_or {α:Type} (l:List α):l=[]∨∃ys x,l=ys++[x]:=by
  rcases List.eq_nil_or_concat l with h | ⟨ys,x,h⟩
  · exact .inl h
  · exact .inr ⟨ys,x,by rw[h];simp⟩
theorem treeP_ok:∀(ts:List Tok) (op:List (Tok × List Tree)) (row:List Tree),(∀t∈ts,TokOk t)→(∀p∈op,closing p.1.kind≠0∧WFs p.2)→WFs row→(treeP ts op row).2=none →
    WFs (treeP ts op row).1∧flats (treeP ts op row).1=opFlat op++flats row++ts
  | [], op, row, _, ho, hr, hn => by
    rcases snoc_or op with rfl | ⟨ys,⟨u,a⟩,rfl⟩
    · simpa [treeP,opFlat] using hr
    · simp[treeP] at hn
  | t :: ts, op, row, ht, ho, hr, hn => by
    simp only[treeP] at hn ⊢;have hts:∀t∈ts,TokOk t:=fun x hx=>ht x (by simp[hx])
    by_cases hc:closing t.kind=0
    · rw[if_neg (by simp[hc])] at hn ⊢;cases hcl:closesZ t.kind
      · rw[hcl] at hn;simp only[Bool.false_eq_true,if_false] at hn ⊢;obtain⟨h1,h2⟩:=treeP_ok ts op (row++[.mk t [] t.pos]) hts ho (WFs_append.2 ⟨hr,by simp[WFs,Tree.WF,hc,hcl]⟩) hn;exact⟨h1,by rw[h2,flats_append];simp[flats,Tree.flat,hc]⟩
      · rw[hcl] at hn;simp only[if_true] at hn ⊢
        rcases snoc_or op with rfl | ⟨ys,⟨u,a⟩,rfl⟩
        · simp at hn
        · simp only[List.getLast?_concat,List.dropLast_concat] at hn ⊢
          by_cases hk:closing u.kind=t.kind
          · rw[if_pos hk] at hn ⊢;obtain⟨hu,ha⟩:=ho (u,a) (by simp);have hte:t=⟨closing u.kind,[UInt8.ofNat (closing u.kind).toNat],t.pos⟩:=by
              rcases ht t (by simp) with ⟨h97,_⟩ | ⟨_,h2⟩
              · rw[h97] at hcl;exact absurd hcl (by decide)
              · rw[hk,←h2]
            obtain⟨h1,h2⟩:=treeP_ok ts ys (a++[.mk u row t.pos]) hts (fun p hp=>ho p (by simp[hp])) (WFs_append.2 ⟨ha,by simp[WFs,Tree.WF,hu,hr,closing_closes hu]⟩) hn;refine⟨h1,?_⟩;rw[h2,flats_append,opFlat_snoc];simp only[flats,Tree.flat,hu,ne_eq,not_false_eq_true,if_true,List.append_nil];rw[←hte];simp
          · rw[if_neg hk] at hn;simp at hn
    · rw[if_pos hc] at hn ⊢
      by_cases h24:24≤op.length
      · rw[if_pos h24] at hn;simp at hn
      · rw[if_neg h24] at hn ⊢;obtain⟨h1,h2⟩:=treeP_ok ts (op++[(t,row)]) [] hts (fun p hp=>by rcases List.mem_append.1 hp with h | h;exact ho p h;simp at h;subst h;exact⟨hc,hr⟩) (by simp[WFs]) hn;exact⟨h1,by rw[h2,opFlat_snoc];simp[flats]⟩
theorem treeP_bad:∀(ts:List Tok) (op:List (Tok × List Tree)) (row:List Tree),(treeP ts op row).2≠none→(treeP ts op row).1=[]
  | [], op, row, h => by
    rcases snoc_or op with rfl | ⟨ys,⟨u,a⟩,rfl⟩
    · simp[treeP] at h
    · simp[treeP]
  | t :: ts, op, row, h => by
    simp only[treeP] at h ⊢;split
    · rename_i hc;rw[if_pos hc] at h;split
      · rfl
      · rename_i h24;rw[if_neg h24] at h;exact treeP_bad _ _ _ h
    · rename_i hc;rw[if_neg hc] at h;split
      · rename_i hcl;rw[if_pos hcl] at h
        rcases snoc_or op with rfl | ⟨ys,⟨u,a⟩,rfl⟩
        · rfl
        · simp only[List.getLast?_concat,List.dropLast_concat] at h ⊢;split
          · rename_i hk;rw[if_pos hk] at h;exact treeP_bad _ _ _ h
          · rfl
      · rename_i hcl;rw[if_neg hcl] at h;exact treeP_bad _ _ _ h
def faultAt (l:List Tok) (f:Int):Option Int:=if 0≤f then some (posAt l f.toNat) else none
theorem treeP_fault (l:List Tok):∀(n i:Nat) (op:List (Tok × List Tree)) (row:List Tree) (o:List Nat),i+n=l.length→op.map (·.1)=o.map (tokN l)→(treeP (l.drop i) op row).2=faultAt l (faultF l n i o)
  | 0, i, op, row, o, hi, ho => by
    rw[List.drop_eq_nil_of_le (by omega)]
    rcases snoc_or op with rfl | ⟨ys,⟨u,a⟩,rfl⟩
    · have:o=[]:=by simpa using ho.symm
      subst this;simp[treeP,faultF,faultAt]
    · rcases snoc_or o with rfl | ⟨zs,j,rfl⟩
      · simp at ho
      · simp only[List.map_append,List.map_cons,List.map_nil] at ho;have hj:u=tokN l j:=by have:=List.append_inj_right' ho rfl;simpa using this
        simp[treeP,faultF,faultAt,hj,tokN,posAt];cases l[j]?<;>rfl
  | n + 1, i, op, row, o, hi, ho => by
    have hlt:i<l.length:=by omega
    have hti:tokN l i=l[i]:=by simp[tokN,hlt]
    have hki:kindAt l i=l[i].kind:=by simp[kindAt,hlt]
    have hpi:posAt l i=l[i].pos:=by simp[posAt,hlt]
    have hlo:op.length=o.length:=by have:=congrArg List.length ho;simpa using this
    rw[List.drop_eq_getElem_cons hlt];simp only[treeP,faultF,hki];have hself:faultAt l (i:Nat)=some l[i].pos:=by simp[faultAt,hpi]
    by_cases hc:closing l[i].kind=0
    · simp only[ne_eq,hc,not_true_eq_false,false_and,if_false];cases hcl:closesZ l[i].kind
      · simp only[Bool.false_eq_true,if_false];exact treeP_fault l n (i+1) op _ o (by omega) ho
      · simp only[if_true]
        rcases snoc_or op with rfl | ⟨ys,⟨u,a⟩,rfl⟩
        · have:o=[]:=by simpa using ho.symm
          subst this;simp[hself]
        · rcases snoc_or o with rfl | ⟨zs,j,rfl⟩
          · simp at ho
          · simp only[List.map_append,List.map_cons,List.map_nil] at ho;have hj:u=tokN l j:=by have:=List.append_inj_right' ho rfl;simpa using this
            have hys:ys.map (·.1)=zs.map (tokN l):=List.append_inj_left' ho rfl;have hkj:kindAt l j=u.kind:=by rw[hj];simp only[kindAt,tokN];cases l[j]?<;>rfl
            simp only[List.getLast?_concat,List.dropLast_concat,hkj]
            by_cases hk:closing u.kind=l[i].kind
            · rw[if_pos hk,if_pos hk];exact treeP_fault l n (i+1) ys _ zs (by omega) hys
            · rw[if_neg hk,if_neg hk,hself]
    · rw[if_pos hc]
      by_cases h24:24≤op.length
      · rw[if_pos h24,if_pos ⟨hc,by omega⟩,hself]
      · rw[if_neg h24,if_neg (fun h=>h24 (by omega))];simp only[ne_eq,hc,not_false_eq_true,if_true,closing_closes hc,Bool.false_eq_true,if_false];exact treeP_fault l n (i+1) _ _ _ (by omega) (by simp[ho,hti])
theorem treeP_eq {l:List Tok} (h:∀t∈l,TokOk t):treeP l [] []=treeR l:=by
  have hf:=treeP_fault l l.length 0 [] [] [] (by omega) rfl;rw[List.drop_zero] at hf;have hr:(treeR l).2=faultAt l (faultF l l.length 0 []):=by
    unfold treeR faultAt;split<;>rfl
  have h2:(treeP l [] []).2=(treeR l).2:=by rw[hf,hr]
  cases hq:(treeP l [] []).2 with
  | some a =>
    have h1:=treeP_bad l [] [] (by rw[hq];simp);have h3:(treeR l).1=[]:=by
      rw[hq] at h2;unfold treeR at h2 ⊢;split
      · rfl
      · rename_i hn;rw[if_neg hn] at h2;simp at h2
    exact Prod.ext (h1.trans h3.symm) h2
  | none =>
    obtain⟨h3,h4⟩:=treeP_ok l [] [] h (by simp) (by simp[WFs]) hq;simp only[opFlat,flats,List.nil_append] at h4;have h5:=tree_back h3 (by rw[h4,←h2,hq]);rw[h4] at h5;exact Prod.ext h5.symm h2
theorem treeP_line (s:List UInt8):treeP (lexR s).1 [] []=treeR (lexR s).1:=treeP_eq (lexF_ok _ _ _ _ (by simp))
end Go.Am

namespace Go.Am
def In (N p:Int):Prop:=0≤p∧p≤N
inductive TOk (N:Int):Tree→Prop
  | mk (t:Tok) (ks:List Tree) (e:Int):In N t.pos→In N e→(∀k∈ks,TOk N k)→TOk N (.mk t ks e)
theorem TOk.fin {N:Int} {t:Tree} (h:TOk N t):In N t.fin:=by cases h;assumption
theorem TOk.pos {N:Int} {t:Tree} (h:TOk N t):In N t.tok.pos:=by cases h;assumption
theorem TOk.kids {N:Int} {t:Tree} (h:TOk N t):∀k∈t.kids,TOk N k:=by cases h;assumption
section
variable {N:Int} (h0:0≤N)
include h0
end
end Go.Am

namespace Go.Am
def joinS (sep:List UInt8):List (List UInt8)→List UInt8
  | []=>[]
  | x::xs=>x++xs.flatMap fun y=>sep++y
theorem joinS_snoc (sep:List UInt8) (l:List (List UInt8)) (y:List UInt8):joinS sep (l++[y])=joinS sep l++(if 0<l.length then sep else [])++y:=by
  cases l with
  | nil=>simp[joinS]
  | cons x xs=>simp[joinS]
theorem joinS_C (l:List (List UInt8)):joinS [44] l=joinC l:=by cases l<;>rfl
theorem joinS_take {sep:List UInt8} {l:List (List UInt8)} {i:Nat} (h:i<l.length):joinS sep (l.take (i+1))=joinS sep (l.take i)++(if 0<i then sep else [])++l[i]:=by
  rw[List.take_succ_eq_append_getElem h,joinS_snoc,List.length_take,Nat.min_eq_left (Nat.le_of_lt h)]
theorem joinS_le {sep:List UInt8} {l:List (List UInt8)} {i:Nat}:(joinS sep (l.take i)).length≤(joinS sep l).length:=by
  have key:∀a b:List (List UInt8),(joinS sep a).length≤(joinS sep (a++b)).length:=fun a b=>by
    cases a with
    | nil=>simp[joinS]
    | cons x xs=>simp[joinS,List.flatMap_append]
  have:=key (l.take i) (l.drop i)
  rwa [List.take_append_drop] at this
def pairT (p:Word × Word):List UInt8:=p.1.text++[60]++p.2.text
def braceT (l:List (List UInt8)):List UInt8:=[123]++joinC l++[125]
def pieceT (k:UInt8) (c:Cmd) (n:Nd):List UInt8 :=
  if k=110 then c.name.text
  else if k=102 then joinC (c.names.map Word.text)
  else if k=119 then braceT (c.names.map Word.text)
  else if k=112 then braceT (c.pairs.map pairT)
  else n.txt
def isTerm (k:UInt8):Bool:=k≠110&&k≠102&&k≠119&&k≠112
def stepC (c:Cmd) (x:List (List UInt8) × List Nd) (k:UInt8):List (List UInt8) × List Nd:=(x.1++[pieceT k c (x.2.headD .zero)],if isTerm k=true then x.2.tail else x.2)
def piecesT (c:Cmd) (ks:List UInt8):List (List UInt8) × List Nd:=ks.foldl (stepC c) ([(formOf c.op).1],[c.left,c.right])
def textC (c:Cmd):List UInt8:=joinS [32] (piecesT c (formOf c.op).2).1
theorem piecesT_snoc (c:Cmd) (ks:List UInt8) (k:UInt8):piecesT c (ks++[k])=stepC c (piecesT c ks) k:=by simp[piecesT,List.foldl_append]
def psum (l:List (Word × Word)):Nat:=(l.map fun p=>p.1.text.length+p.2.text.length+2).sum
theorem psum_at {l:List (Word × Word)} {i:Nat} (h:i<l.length):l[i].1.text.length+l[i].2.text.length+2≤psum l:=by
  induction l generalizing i with
  | nil=>simp at h
  | cons p ps ih =>
    cases i with
    | zero=>simp[psum]
    | succ i =>
      have:=ih (i:=i) (by simp at h;omega)
      simp only[psum,List.map_cons,List.sum_cons,List.getElem_cons_succ] at this ⊢;omega
theorem psum_len (l:List (Word × Word)):(joinC (l.map pairT)).length≤psum l∧l.length≤psum l:=by
  induction l with
  | nil=>simp[joinC,psum]
  | cons p ps ih =>
    have key:∀qs:List (Word × Word),((qs.map pairT).flatMap fun y=>44::y).length≤psum qs:=fun qs=>by
      induction qs with
      | nil=>simp
      | cons q qs ih=>simp[pairT,psum] at ih ⊢;omega
    have:=key ps
    have:=ih.2
    simp[joinC,pairT,psum] at *;omega
def Cmd.wt (c:Cmd):Nat:=c.name.text.length+wsum c.names+psum c.pairs+c.left.wt+c.right.wt
theorem psum_word (l:List Word):(joinC (l.map Word.text)).length≤wsum l∧l.length≤wsum l:=⟨wtext_len l,by
  induction l with
  | nil=>simp
  | cons w ws ih=>simp[wsum] at ih ⊢;omega⟩
theorem piece_len {k:UInt8} {c:Cmd} {n:Nd} (h:n.wt≤c.wt):(pieceT k c n).length≤c.wt+2:=by
  have h1:=(psum_word c.names).1;have h2:=(psum_len c.pairs).1;have h3:=txt_len n;have h4:c.wt=c.name.text.length+wsum c.names+psum c.pairs+c.left.wt+c.right.wt:=rfl;unfold pieceT braceT;split
  · omega
  split
  · omega
  split
  · simp;omega
  split
  · simp;omega
  · omega
theorem word_len (op:Int):(formOf op).1.length≤8:=by
  unfold formOf;split
  · rename_i h1;have hlt:op.toNat<16:=by omega
    generalize op.toNat=n at hlt ⊢;have key:∀n<16,(formT.getD n ([],[])).1.length≤8:=by decide
    exact key n hlt
  · simp
theorem zero_wt:Nd.zero.wt=4:=by simp[Nd.zero,Nd.wt,wsum,wts]
theorem wt_four (n:Nd):4≤n.wt:=by cases n;simp only[Nd.wt];omega
theorem pieces_ok (c:Cmd) (ks:List UInt8):(∀x∈(piecesT c ks).1,x.length≤c.wt+8)∧(∀n∈(piecesT c ks).2,n.wt≤c.wt)∧(piecesT c ks).1.length=ks.length+1∧(piecesT c ks).2=[c.left,c.right].drop (ks.filter isTerm).length:=by
  have hc:c.wt=c.name.text.length+wsum c.names+psum c.pairs+c.left.wt+c.right.wt:=rfl
  rcases List.eq_nil_or_concat ks with rfl | ⟨ys,k,rfl⟩
  · have:=word_len c.op
    refine⟨?_,?_,rfl,rfl⟩
    · intro x hx;simp[piecesT] at hx;subst hx;omega
    · intro n hn;simp[piecesT] at hn;rcases hn with rfl | rfl<;>omega
  · obtain⟨i1,i2,i3,i4⟩:=pieces_ok c ys;rw[List.concat_eq_append,piecesT_snoc];have hz:((piecesT c ys).2.headD .zero).wt≤c.wt:=by
      cases hq:(piecesT c ys).2 with
      | nil=>have:=wt_four c.left;simp[zero_wt];omega
      | cons n ns=>exact i2 n (by rw[hq];simp)
    refine⟨?_,?_,?_,?_⟩
    · intro x hx
      rcases List.mem_append.1 hx with hx | hx
      · exact i1 x hx
      · rw[List.mem_singleton] at hx;subst hx;have:=piece_len (k:=k) hz;omega
    · intro n hn;simp only[stepC] at hn;split at hn
      · exact i2 n (List.mem_of_mem_tail hn)
      · exact i2 n hn
    · simp[stepC,i3]
    · simp only[stepC,i4];cases h:isTerm k
      · simp[h]
      · simp[h]
termination_by ks.length
decreasing_by subst_vars;simp
theorem joinS_len {B:Nat}:∀(l:List (List UInt8)),(∀x∈l,x.length≤B)→(joinS [32] l).length≤l.length*(B+1)
  | [],_=>by simp[joinS]
  | x :: xs, h => by
    have hx:=h x (by simp);have key:∀ys:List (List UInt8),(∀x∈ys,x.length≤B)→(ys.flatMap fun y=>[32]++y).length≤ys.length*(B+1):=fun ys=>by
      induction ys with
      | nil=>simp
      | cons y ys ih =>
        intro h;have h1:=h y (by simp);have h2:=ih fun x hx=>h x (by simp[hx])
        simp only[List.flatMap_cons,List.length_append,List.length_cons,List.length_nil,Nat.add_mul] at h2 ⊢;omega
    have:=key xs fun x hx=>h x (by simp[hx])
    simp only[joinS,List.length_append,List.length_cons,Nat.add_mul] at this ⊢;omega
theorem form_terms (op:Int):∀i<(formOf op).2.length,∀k,(formOf op).2[i]?=some k→isTerm k=true→(((formOf op).2.take i).filter isTerm).length<2:=by
  unfold formOf;split
  · rename_i h1;have hlt:op.toNat<16:=by omega
    generalize op.toNat=n at hlt ⊢;have key:∀n<16,∀i<(formT.getD n ([],[])).2.length,∀k∈(formT.getD n ([],[])).2[i]?,isTerm k=true→(((formT.getD n ([],[])).2.take i).filter isTerm).length<2:=by decide
    intro i hi k hk;exact key n hlt i hi k hk
  · simp
end Go.Am

namespace Go.Am
def atmZ:List V:=.int .i64 0::List.replicate 8 (.int .u64 0)
def fldZ:List V:=.str []::.int .i64 0::List.replicate 8 (.int .u64 0)
structure Atm where
  v:Int
  c:Elm
structure Fld where
  name:List UInt8
  a:Atm
structure Rtm where
  fs:List Fld
  tail:Int
structure Ast where
  op:Int
  lat:Int
  code:List Ins
  to:Atm
  a:Rtm
  b:Rtm
  v:Int
  field:List UInt8
theorem Elm.cases8 {P:Elm→Prop} (h:∀(a b c d e f g i:B64) (hl:[a,b,c,d,e,f,g,i].length=8),P ⟨[a,b,c,d,e,f,g,i],hl⟩) (e:Elm):P e:=by
  obtain⟨w,hl⟩:=e
  match w,hl with
  | [a,b,c,d,e,f,g,i],hl=>exact h a b c d e f g i hl
def Atm.enc (x:Atm):List V:=.int .i64 x.v::x.c.enc
def Fld.enc (x:Fld):List V:=.str x.name::x.a.enc
def Rtm.enc (x:Rtm):List V:=[.sl .no 10 (x.fs.map Fld.enc),.int .i64 x.tail]
def astV (op lat:Int) (c:V) (to:Atm) (fa:V) (ta:Int) (fb:V) (tb v:Int) (f:List UInt8):List V:=.int .i64 op::.int .i64 lat::c::(to.enc++[fa,.int .i64 ta,fb,.int .i64 tb,.int .i64 v,.str f])
def Ast.enc (x:Ast):List V:=astV x.op x.lat (.sl .no 10 (x.code.map Ins.enc)) x.to (.sl .no 10 (x.a.fs.map Fld.enc)) x.a.tail (.sl .no 10 (x.b.fs.map Fld.enc)) x.b.tail x.v x.field
def Atm.zero:Atm:=⟨0,.zero⟩
def Rtm.zero:Rtm:=⟨[],0⟩
def Ast.zero:Ast:=⟨0,0,[],.zero,.zero,.zero,0,[]⟩
def astZ:List V:=astV 0 0 (.sl .full 10 []) .zero (.sl .full 10 []) 0 (.sl .full 10 []) 0 0 []
theorem Atm.ext' {x y:Atm} (h:x.v=y.v) (k:x.c=y.c):x=y:=by cases x;cases y;simp only at h k;subst h;subst k;rfl
theorem Fld.ext' {x y:Fld} (h:x.name=y.name) (k:x.a=y.a):x=y:=by cases x;cases y;simp only at h k;subst h;subst k;rfl
instance:DecidableEq Atm:=fun x y=>if h:x.v=y.v∧x.c=y.c then isTrue (Atm.ext' h.1 h.2) else isFalse fun e=>h ⟨e▸rfl,e▸rfl⟩
instance:DecidableEq Fld:=fun x y=>if h:x.name=y.name∧x.a=y.a then isTrue (Fld.ext' h.1 h.2) else isFalse fun e=>h ⟨e▸rfl,e▸rfl⟩
section
variable {x y:Atm} {n:Nat} {i:Int} {e:Elm}
theorem Atm.r_len:x.enc.length=9:=by simp[Atm.enc,Elm.r_len]
theorem Atm.r_one:oneL x.enc=true:=by simp[Atm.enc,oneL,V.one,Elm.r_one]
theorem Atm.r_nol:nolL x.enc=true:=by simp[Atm.enc,nolL,V.nol,Elm.r_nol]
theorem Atm.r_er:eraseL x.enc=x.enc:=by simp[Atm.enc,eraseL,V.erase,Elm.r_er]
theorem Atm.r_lo:loL n x.enc=true:=by simp[Atm.enc,loL,V.lo,Elm.r_lo]
theorem Atm.r_tk:takeN 9 x.enc=some x.enc:=by have:=takeN_all (c:=x.enc);rwa [Atm.r_len] at this
theorem Atm.r_ld:ldC true 9 x.enc=some (.agg x.enc):=by rw[ldC_agg,Atm.r_tk];rfl
theorem Atm.r_has:hasN 9 x.enc=true:=by have:=hasN_all (c:=x.enc);rwa [Atm.r_len] at this
theorem Atm.r_ov:over y.enc x.enc=x.enc:=over_all (by rw[Atm.r_len,Atm.r_len])
theorem Atm.r_v:ldC false 1 x.enc=some (.int .i64 x.v):=rfl
theorem Atm.r_c:takeN 8 (x.enc.drop 1)=some x.c.enc:=by show takeN 8 x.c.enc=_;exact Elm.r_tk
theorem Atm.r_z:atmZ=Atm.zero.enc:=by rw[Atm.enc];show _=V.int .i64 0::Elm.zero.enc;rw[←Elm.r_zero];rfl
theorem Atm.b_v:over x.enc [.int .i64 i]=(Atm.mk i x.c).enc:=by rw[Atm.enc,over_cons,over_nil];rfl
theorem Atm.b_h:hasN 1 x.enc=true:=rfl
theorem Atm.b_h8:hasN 8 (x.enc.drop 1)=true:=by show hasN 8 x.c.enc=true;exact Elm.r_has
theorem Atm.b_c:setAt x.enc 1 e.enc=(Atm.mk x.v e).enc:=by rw[Atm.enc,setAt_succ,setAt_zero,Elm.r_ov];rfl
theorem Atm.r_eq:eqC [1,1,1,1,1,1,1,1,1] x.enc y.enc=some (decide (x=y)):=by
  rw[Atm.enc,Atm.enc,eqC_int,Elm.r_eq,andM_some];congr 1;rw[←Bool.decide_and];exact decide_eq_decide.2 ⟨fun h=>Atm.ext' h.1 h.2,fun h=>h▸⟨rfl,rfl⟩⟩
def Atm.rec_:=And.intro @Atm.r_len <| And.intro @Atm.r_one <| And.intro @Atm.r_nol <| And.intro @Atm.r_er <| And.intro @Atm.r_lo <| And.intro @Atm.r_tk <| And.intro @Atm.r_ld <| And.intro @Atm.r_has <| And.intro @Atm.r_ov <| And.intro @Atm.r_v <| And.intro @Atm.r_c <| And.intro @Atm.r_z <| And.intro @Atm.b_v <| And.intro @Atm.b_h <| And.intro @Atm.b_h8 <| And.intro @Atm.b_c @Atm.r_eq
end
section
variable {x y:Fld} {n:Nat} {t:List UInt8} {a:Atm}
theorem Fld.r_len:x.enc.length=10:=by simp[Fld.enc,Atm.r_len]
theorem Fld.r_one:oneL x.enc=true:=by simp[Fld.enc,oneL,V.one,Atm.r_one]
theorem Fld.r_nol:nolL x.enc=true:=by simp[Fld.enc,nolL,V.nol,Atm.r_nol]
theorem Fld.r_er:eraseL x.enc=x.enc:=by simp[Fld.enc,eraseL,V.erase,Atm.r_er]
theorem Fld.r_lo:loL n x.enc=true:=by simp[Fld.enc,loL,V.lo,Atm.r_lo]
theorem Fld.r_tk:takeN 10 x.enc=some x.enc:=by have:=takeN_all (c:=x.enc);rwa [Fld.r_len] at this
theorem Fld.r_ld:ldC true 10 x.enc=some (.agg x.enc):=by rw[ldC_agg,Fld.r_tk];rfl
theorem Fld.r_has:hasN 10 x.enc=true:=by have:=hasN_all (c:=x.enc);rwa [Fld.r_len] at this
theorem Fld.r_ov:over y.enc x.enc=x.enc:=over_all (by rw[Fld.r_len,Fld.r_len])
theorem Fld.r_n:ldC false 1 x.enc=some (.str x.name):=rfl
theorem Fld.r_a:takeN 9 (x.enc.drop 1)=some x.a.enc:=by show takeN 9 x.a.enc=_;exact Atm.r_tk
theorem Fld.r_z:fldZ=(Fld.mk [] .zero).enc:=by rw[Fld.enc];show _=V.str []::Atm.zero.enc;rw[←Atm.r_z];rfl
theorem Fld.b_n:over x.enc [.str t]=(Fld.mk t x.a).enc:=by rw[Fld.enc,over_cons,over_nil];rfl
theorem Fld.b_h:hasN 1 x.enc=true:=rfl
theorem Fld.b_h9:hasN 9 (x.enc.drop 1)=true:=by show hasN 9 x.a.enc=true;exact Atm.r_has
theorem Fld.b_a:setAt x.enc 1 a.enc=(Fld.mk x.name a).enc:=by rw[Fld.enc,setAt_succ,setAt_zero,Atm.r_ov];rfl
theorem Fld.r_eq:eqC [2,1,1,1,1,1,1,1,1,1] x.enc y.enc=some (decide (x=y)):=by
  rw[Fld.enc,Fld.enc,eqC_str,Atm.r_eq,andM_some];congr 1;rw[←Bool.decide_and];exact decide_eq_decide.2 ⟨fun h=>Fld.ext' h.1 h.2,fun h=>h▸⟨rfl,rfl⟩⟩
def Fld.rec_:=And.intro @Fld.r_len <| And.intro @Fld.r_one <| And.intro @Fld.r_nol <| And.intro @Fld.r_er <| And.intro @Fld.r_lo <| And.intro @Fld.r_tk <| And.intro @Fld.r_ld <| And.intro @Fld.r_has <| And.intro @Fld.r_ov <| And.intro @Fld.r_n <| And.intro @Fld.r_a <| And.intro @Fld.r_z <| And.intro @Fld.b_n <| And.intro @Fld.b_h <| And.intro @Fld.b_h9 <| And.intro @Fld.b_a @Fld.r_eq
end
section
variable {x:Rtm} {n:Nat} {u w:V}
theorem Rtm.r_len:x.enc.length=2:=rfl
theorem Rtm.r_one:oneL x.enc=true:=rfl
theorem Rtm.r_nol:nolL x.enc=true:=rfl
theorem Rtm.r_er:eraseL x.enc=x.enc:=rfl
theorem Rtm.r_lo:loL n x.enc=true:=rfl
theorem Rtm.r_tk:takeN 2 x.enc=some x.enc:=rfl
theorem Rtm.r_ld:ldC true 2 x.enc=some (.agg x.enc):=rfl
theorem Rtm.r_has:hasN 2 x.enc=true:=rfl
theorem Rtm.r_ov:over [u,w] x.enc=x.enc:=rfl
theorem Rtm.r_f:ldC false 1 x.enc=some (.sl .no 10 (x.fs.map Fld.enc)):=rfl
theorem Rtm.r_t:ldC false 1 (x.enc.drop 1)=some (.int .i64 x.tail):=rfl
def Rtm.rec_:=And.intro @Rtm.r_len <| And.intro @Rtm.r_one <| And.intro @Rtm.r_nol <| And.intro @Rtm.r_er <| And.intro @Rtm.r_lo <| And.intro @Rtm.r_tk <| And.intro @Rtm.r_ld <| And.intro @Rtm.r_has <| And.intro @Rtm.r_ov <| And.intro @Rtm.r_f @Rtm.r_t
end
section
variable {op lat ta tb v i:Int} {c fa fb d:V} {to tp:Atm} {r:Rtm} {f g:List UInt8} {x:Ast} {n:Nat}
theorem ast_len:(astV op lat c to fa ta fb tb v f).length=18:=by simp[astV,Atm.r_len]
theorem ast_tk:takeN 18 (astV op lat c to fa ta fb tb v f)=some (astV op lat c to fa ta fb tb v f):=by have:=takeN_all (c:=astV op lat c to fa ta fb tb v f);rwa [ast_len] at this
theorem ast_has:hasN 18 (astV op lat c to fa ta fb tb v f)=true:=by have:=hasN_all (c:=astV op lat c to fa ta fb tb v f);rwa [ast_len] at this
theorem ast_ov {op' lat' ta' tb' v' : Int} {c' fa' fb' : V} {f' : List UInt8}:over (astV op lat c to fa ta fb tb v f) (astV op' lat' c' tp fa' ta' fb' tb' v' f')=astV op' lat' c' tp fa' ta' fb' tb' v' f' := over_all (by rw[ast_len,ast_len])
theorem ast_one (h1:c.one=true) (h2:fa.one=true) (h3:fb.one=true):oneL (astV op lat c to fa ta fb tb v f)=true:=by
  have h:=@Atm.r_one to;simp only[astV,oneL,one_int,Bool.true_and,h1];rw[oneL_app,h];simp only[oneL,one_int,one_str,h2,h3,Bool.and_self]
theorem ast_nol (h1:c.nol=true) (h2:fa.nol=true) (h3:fb.nol=true):nolL (astV op lat c to fa ta fb tb v f)=true:=by
  have h:=@Atm.r_nol to;have app:∀{a b:List V},nolL a=true→nolL b=true→nolL (a++b)=true:=by
    intro a;induction a with
    | nil=>intro b _ h;exact h
    | cons x a ih=>intro b h1 h2;simp only[nolL,Bool.and_eq_true,List.cons_append] at h1 ⊢;exact⟨h1.1,ih h1.2 h2⟩
  simp only[astV,nolL,V.nol,Bool.true_and,h1];exact app h (by simp[nolL,V.nol,h2,h3])
theorem ast_er:eraseL (astV op lat c to fa ta fb tb v f)=astV op lat c.erase to fa.erase ta fb.erase tb v f:=by
  have h:=@Atm.r_er to;have app:∀{a b:List V},eraseL (a++b)=eraseL a++eraseL b:=by
    intro a;induction a with
    | nil=>intro b;rfl
    | cons x a ih=>intro b;simp only[eraseL,List.cons_append,ih]
  simp only[astV,eraseL,V.erase,app,h]
theorem ast_d12:(astV op lat c to fa ta fb tb v f).drop 12=[fa,.int .i64 ta,fb,.int .i64 tb,.int .i64 v,.str f]:=by
  simp only[astV,List.drop_succ_cons];exact List.drop_left' Atm.r_len
theorem ast_l0:ldC false 1 (astV op lat c to fa ta fb tb v f)=some (.int .i64 op):=rfl
theorem ast_l1:ldC false 1 ((astV op lat c to fa ta fb tb v f).drop 1)=some (.int .i64 lat):=rfl
theorem ast_l2:ldC false 1 ((astV op lat c to fa ta fb tb v f).drop 2)=some c:=rfl
theorem ast_l3:takeN 9 ((astV op lat c to fa ta fb tb v f).drop 3)=some to.enc:=takeN_app Atm.r_len
theorem ast_l12:takeN 2 ((astV op lat c to fa ta fb tb v f).drop 12)=some [fa,.int .i64 ta]:=by rw[ast_d12];rfl
theorem ast_l14:takeN 2 ((astV op lat c to fa ta fb tb v f).drop 14)=some [fb,.int .i64 tb]:=by rw[show 14=12+2 from rfl,←List.drop_drop,ast_d12];rfl
theorem ast_l16:ldC false 1 ((astV op lat c to fa ta fb tb v f).drop 16)=some (.int .i64 v):=by rw[show 16=12+4 from rfl,←List.drop_drop,ast_d12];rfl
theorem ast_l17:ldC false 1 ((astV op lat c to fa ta fb tb v f).drop 17)=some (.str f):=by rw[show 17=12+5 from rfl,←List.drop_drop,ast_d12];rfl
theorem ast_h:hasN 1 (astV op lat c to fa ta fb tb v f)=true:=rfl
theorem ast_h1:hasN 1 ((astV op lat c to fa ta fb tb v f).drop 1)=true:=rfl
theorem ast_h2:hasN 1 ((astV op lat c to fa ta fb tb v f).drop 2)=true:=rfl
theorem ast_h3:hasN 9 ((astV op lat c to fa ta fb tb v f).drop 3)=true:=by obtain⟨tv,te⟩:=to;induction te using Elm.cases8;rfl
theorem ast_h12:hasN 2 ((astV op lat c to fa ta fb tb v f).drop 12)=true:=by rw[ast_d12];rfl
theorem ast_h14:hasN 2 ((astV op lat c to fa ta fb tb v f).drop 14)=true:=by rw[show 14=12+2 from rfl,←List.drop_drop,ast_d12];rfl
theorem ast_h16:hasN 1 ((astV op lat c to fa ta fb tb v f).drop 16)=true:=by rw[show 16=12+4 from rfl,←List.drop_drop,ast_d12];rfl
theorem ast_h17:hasN 1 ((astV op lat c to fa ta fb tb v f).drop 17)=true:=by rw[show 17=12+5 from rfl,←List.drop_drop,ast_d12];rfl
theorem ast_s0:over (astV op lat c to fa ta fb tb v f) [.int .i64 i]=astV i lat c to fa ta fb tb v f:=by rw[astV,over_cons,over_nil];rfl
theorem ast_s1:setAt (astV op lat c to fa ta fb tb v f) 1 [.int .i64 i]=astV op i c to fa ta fb tb v f:=by rw[astV,setAt_succ,setAt_zero,over_cons,over_nil];rfl
theorem ast_s2:setAt (astV op lat c to fa ta fb tb v f) 2 [d]=astV op lat d to fa ta fb tb v f:=by rw[astV,setAt_succ,setAt_succ,setAt_zero,over_cons,over_nil];rfl
theorem ast_s3:setAt (astV op lat c to fa ta fb tb v f) 3 tp.enc=astV op lat c tp fa ta fb tb v f:=by
  rw[astV,setAt_succ,setAt_succ,setAt_succ,setAt_zero,over_app (by rw[Atm.r_len,Atm.r_len];exact Nat.le_refl _),Atm.r_ov];rfl
theorem ast_sapp {m:List V} {k:Nat}:setAt (astV op lat c to fa ta fb tb v f) (12+k) m = .int .i64 op::.int .i64 lat::c::(to.enc++setAt [fa,.int .i64 ta,fb,.int .i64 tb,.int .i64 v,.str f] k m):=by
  rw[show 12+k=(9+k)+1+1+1 by omega,astV,setAt_succ,setAt_succ,setAt_succ];congr 3;have key:∀(a b:List V) (n:Nat),setAt (a++b) (a.length+n) m=a++setAt b n m:=by
    intro a;induction a with
    | nil=>intro b n;rw[List.length_nil,Nat.zero_add];rfl
    | cons x a ih=>intro b n;rw[List.cons_append,List.length_cons,show a.length+1+n=(a.length+n)+1 by omega,setAt_succ,ih];rfl
  have:=key to.enc [fa,.int .i64 ta,fb,.int .i64 tb,.int .i64 v,.str f] k
  rw[Atm.r_len] at this;exact this
theorem ast_s12:setAt (astV op lat c to fa ta fb tb v f) 12 [d,.int .i64 i]=astV op lat c to d i fb tb v f:=ast_sapp (k:=0)
theorem ast_s14:setAt (astV op lat c to fa ta fb tb v f) 14 [d,.int .i64 i]=astV op lat c to fa ta d i v f:=ast_sapp (k:=2)
theorem ast_s16:setAt (astV op lat c to fa ta fb tb v f) 16 [.int .i64 i]=astV op lat c to fa ta fb tb i f:=ast_sapp (k:=4)
theorem ast_s17:setAt (astV op lat c to fa ta fb tb v f) 17 [.str g]=astV op lat c to fa ta fb tb v g:=ast_sapp (k:=5)
theorem ast_s12r:setAt (astV op lat c to fa ta fb tb v f) 12 r.enc=astV op lat c to (.sl .no 10 (r.fs.map Fld.enc)) r.tail fb tb v f:=ast_sapp (k:=0)
theorem ast_s14r:setAt (astV op lat c to fa ta fb tb v f) 14 r.enc=astV op lat c to fa ta (.sl .no 10 (r.fs.map Fld.enc)) r.tail v f:=ast_sapp (k:=2)
theorem Ast.r_er:eraseL x.enc=x.enc:=ast_er
theorem Ast.r_nol:nolL x.enc=true:=ast_nol rfl rfl rfl
def ast_:=And.intro @ast_len <| And.intro @ast_tk <| And.intro @ast_has <| And.intro @ast_ov <| And.intro @ast_l0 <| And.intro @ast_l1 <| And.intro @ast_l2 <| And.intro @ast_l3 <| And.intro @ast_l12 <| And.intro @ast_l14 <| And.intro @ast_l16 <| And.intro @ast_l17 <| And.intro @ast_h <| And.intro @ast_h1 <| And.intro @ast_h2 <| And.intro @ast_h3 <| And.intro @ast_h12 <| And.intro @ast_h14 <| And.intro @ast_h16 <| And.intro @ast_h17 <| And.intro @ast_s0 <| And.intro @ast_s1 <| And.intro @ast_s2 <| And.intro @ast_s3 <| And.intro @ast_s12 <| And.intro @ast_s14 <| And.intro @ast_s16 <| And.intro @ast_s17 <| And.intro @ast_s12r @ast_s14r
end
end Go.Am

namespace Go.Am
def cntN (op:Int) (k:UInt8):Nat:=(formOf op).2.count k
def namedQ (l:List (List UInt8)):Bool:=l.all nameR
def Cmd.nameQ (c:Cmd):Bool:=if cntN c.op 110=0 then decide (c.name.text=[]) else nameR c.name.text
def Cmd.namesQ (c:Cmd):Bool :=
  if 0<cntN c.op 119 then decide (0<c.names.length)&&namedQ (c.names.map Word.text)
  else if 0<cntN c.op 102 then decide (c.names.length=1)&&namedQ (c.names.map Word.text)
  else decide (c.names.length=0)
def pairQ (p:Word × Word):Bool:=nameR p.1.text&&nameR p.2.text
def Cmd.pairsQ (c:Cmd):Bool:=if cntN c.op 112=0 then decide (c.pairs.length=0) else c.pairs.all pairQ
def Cmd.termsQ (c:Cmd):Bool :=
  if 0<cntN c.op 116 then c.left.labelQ&&c.right.labelQ
  else if 0<cntN c.op 114 then c.left.rowQ&&c.right.rowQ
  else c.left.sameQ .zero&&c.right.sameQ .zero
def Cmd.rightQ (c:Cmd):Bool:=decide (0≤c.op∧c.op≤15)&&c.nameQ&&c.namesQ&&c.pairsQ&&c.termsQ
def samePQ:List (Word × Word)→List (Word × Word)→Bool
  | [],[]=>true
  | p::ps,q::qs=>decide (p.1.text=q.1.text)&&decide (p.2.text=q.2.text)&&samePQ ps qs
  | _,_=>false
def Cmd.sameQ (a b:Cmd):Bool:=decide (a.op=b.op)&&decide (a.name.text=b.name.text)&&sameW a.names b.names&&samePQ a.pairs b.pairs&&a.left.sameQ b.left&&a.right.sameQ b.right
theorem samePQ_len:∀{a b:List (Word × Word)},samePQ a b=true→a.length=b.length
  | [],[],_=>rfl
  | [],_::_,h=>by simp[samePQ] at h
  | _::_,[],h=>by simp[samePQ] at h
  | _::ws,_::us,h=>by simp only[samePQ,Bool.and_eq_true] at h;simp[samePQ_len h.2]
theorem samePQ_at:∀{a b:List (Word × Word)} {i:Nat} (h:i<a.length) (h2:i<b.length),a.length=b.length→samePQ (a.take i) (b.take i)=true →
    (samePQ (a.take (i+1)) (b.take (i+1))=(decide (a[i].1.text=b[i].1.text)&&decide (a[i].2.text=b[i].2.text)))∧((decide (a[i].1.text=b[i].1.text)&&decide (a[i].2.text=b[i].2.text))=false→samePQ a b=false)
  | p :: ps, q :: qs, 0, _, _, _, _ => by
    refine⟨by simp[samePQ],fun h=>?_⟩;simp only[List.getElem_cons_zero] at h;simp only[samePQ,h,Bool.false_and]
  | p :: ps, q :: qs, i + 1, h, h2, hl, hs => by
    simp only[List.take_succ_cons,samePQ,Bool.and_eq_true] at hs;obtain⟨k1,k2⟩:=samePQ_at (a:=ps) (b:=qs) (i:=i) (by simpa using h) (by simpa using h2) (by simpa using hl) hs.2;refine⟨?_,fun h=>?_⟩
    · rw[List.take_succ_cons,List.take_succ_cons,samePQ,k1];simp[hs.1.1,hs.1.2]
    · simp only[List.getElem_cons_succ] at h;simp[samePQ,k2 h]
end Go.Am

namespace Go.Am
def atmF (s:Scp) (lat:Nat) (n:Nd):Atm:=if n.kind=1 then ⟨optI (findV s.vars n.text),.zero⟩ else ⟨-1,(elemF (shapeF s lat) (n.kids.getD 0 nd0)).1⟩
def fldF (s:Scp) (lat:Nat) (k:Nd):Fld:=⟨k.text,atmF s lat (k.kids.getD 0 nd0)⟩
def tailF (s:Scp):List Word→Int
  | []=>-1
  | w::_=>optI (findV s.vars w.text)
theorem tailF_one {s:Scp}:∀{l:List Word} (h:0<l.length),tailF s (l.take (0+1))=optI (findV s.vars l[0].text)
  | [],h=>by simp at h
  | _::_,_=>rfl
def rtmF (s:Scp) (lat:Nat) (n:Nd):Rtm:=if n.kind=1 then ⟨[],optI (findV s.vars n.text)⟩ else ⟨n.kids.map (fldF s lat),tailF s n.names⟩
def varLat (s:Scp) (v:Option Nat):Int:=match v with | some k=>(match s.vars[k]? with | some x=>x.lat | none=>0) | none=>0
def astF (s:Scp) (c:Cmd):Ast :=
  if c.op=8 then ⟨8,latI s c,(compR s (latI s c) c.left).getD [],atmF s (latI s c).toNat c.right,.zero,.zero,0,[]⟩
  else if c.op=9 then ⟨9,latI s c,[],.zero,rtmF s (latI s c).toNat c.left,rtmF s (latI s c).toNat c.right,0,[]⟩
  else ⟨10,varLat s (findV s.vars c.name.text),[],.zero,.zero,.zero,optI (findV s.vars c.name.text),(c.names.getD 0 ⟨[],0⟩).text⟩
def isAst (s:Scp) (c:Cmd):Bool:=decide (8≤c.op)&&decide (c.op≤10)&&c.rightQ&&decide ((faultC s c).cls=0)
structure Fine (s:Scp) (c:Cmd):Prop where
  op:8≤c.op∧c.op≤10
  q:c.rightQ=true
  none:∀f∈cmdFl s c,f.cls=0
theorem isAst_iff {s:Scp} {c:Cmd}:isAst s c=true↔Fine s c:=by
  simp only[isAst,Bool.and_eq_true,decide_eq_true_eq];constructor
  · rintro⟨⟨⟨a,b⟩,d⟩,e⟩;exact⟨⟨a,b⟩,d,(least_none e).2⟩
  · rintro⟨⟨a,b⟩,d,e⟩;exact⟨⟨⟨a,b⟩,d⟩,by rw[faultC,least_of_none e];rfl⟩
section
variable {s:Scp} {c:Cmd} {lat:Int}
theorem varFl_cls {t:List UInt8} {p k:Int}:∀f∈varFl s lat t p k,f.cls≠0:=by
  intro f hf;unfold varFl at hf;split at hf
  · split at hf<;>(rw[List.mem_singleton.1 hf];simp)
  · split at hf
    · split at hf
      · rw[List.mem_singleton.1 hf];simp
      · simp at hf
    · simp at hf
theorem latFl_cls {w:Word}:∀f∈latFl s w,f.cls≠0:=by
  intro f hf;unfold latFl at hf;split at hf
  · split at hf<;>(rw[List.mem_singleton.1 hf];simp)
  · simp at hf
theorem nil_of {l:List Flt} (h:∀f∈l,f.cls≠0) (k:∀f∈l,f.cls=0):l=[]:=by
  cases l with
  | nil=>rfl
  | cons f l=>exact absurd (k f (by simp)) (h f (by simp))
theorem varFl_nil {t:List UInt8} {p k:Int} (h:varFl s lat t p k=[]):∃v,∃hv:v<s.vars.length,findV s.vars t=some v∧s.vars[v].kind=k∧(0≤lat→s.vars[v].lat=lat):=by
  unfold varFl at h;split at h
  · split at h<;>simp at h
  · rename_i v hv;have hlt:=findV_lt hv;rw[List.getElem?_eq_getElem hlt] at h;simp only at h;split at h
    · simp at h
    · rename_i hn;refine⟨v,hlt,hv,?_,fun h0=>?_⟩
      · exact Classical.byContradiction fun hc=>hn (.inl hc)
      · exact Classical.byContradiction fun hc=>hn (.inr ⟨h0,hc⟩)
theorem latFl_nil {w:Word} (h:latFl s w=[]):∃k,findL s.lats w.text=some k∧k<s.lats.length:=by
  unfold latFl at h;split at h
  · split at h<;>simp at h
  · rename_i hn;cases hL:findL s.lats w.text with
    | none=>rw[hL] at hn;simp at hn
    | some k=>exact⟨k,rfl,(find_lt hL).1⟩
theorem Fine.latt (h:Fine s c) (h9:c.op=8∨c.op=9):∃k,findL s.lats c.name.text=some k∧k<s.lats.length:=by
  refine latFl_nil (nil_of latFl_cls fun f hf=>h.none f ?_);unfold cmdFl;rw[if_neg (by omega),if_neg (by omega)]
  by_cases h8:c.op=8
  · rw[if_pos h8];simp[hf]
  · rw[if_neg h8,if_pos (by omega)];simp[hf]
theorem Fine.latI (h:Fine s c) (h9:c.op=8∨c.op=9):∃k:Nat,latI s c=k∧k<s.lats.length:=by
  obtain⟨k,e,hk⟩:=h.latt h9;exact⟨k,by rw[Go.Am.latI,e];rfl,hk⟩
theorem rightQ_parts (h:c.rightQ=true):c.nameQ=true∧c.namesQ=true∧c.pairsQ=true∧c.termsQ=true:=by
  simp only[Cmd.rightQ,Bool.and_eq_true] at h;exact⟨h.1.1.1.2,h.1.1.2,h.1.2,h.2⟩
theorem Fine.labels (h:Fine s c) (h8:c.op=8):c.left.labelQ=true∧c.right.labelQ=true:=by
  have:=(rightQ_parts h.q).2.2.2
  rw[Cmd.termsQ,h8] at this;simpa [show cntN 8 116=2 from by decide] using this
theorem Fine.rows (h:Fine s c) (h9:c.op=9):c.left.rowQ=true∧c.right.rowQ=true:=by
  have:=(rightQ_parts h.q).2.2.2
  rw[Cmd.termsQ,h9] at this;simpa [show cntN 9 116=0 from by decide,show cntN 9 114=2 from by decide] using this
theorem Fine.one (h:Fine s c) (h10:c.op=10):∃w,c.names=[w]∧nameR w.text=true:=by
  have:=(rightQ_parts h.q).2.1
  rw[Cmd.namesQ,h10] at this;simp only[show cntN 10 119=0 from by decide,show cntN 10 102=1 from by decide,Nat.lt_irrefl,if_false,Nat.zero_lt_one,if_true,Bool.and_eq_true,decide_eq_true_eq] at this
  match hq:c.names,this.1 with
  | [w],_=>exact⟨w,rfl,by have:=this.2;rw[hq] at this;simpa [namedQ] using this⟩
theorem Fine.var (h:Fine s c) (h10:c.op=10):∃v,∃hv:v<s.vars.length,findV s.vars c.name.text=some v∧s.vars[v].kind=2:=by
  have:varFl s (-1) c.name.text c.name.pos 2=[]:=nil_of varFl_cls fun f hf=>h.none f (by unfold cmdFl;rw[if_pos h10];exact hf)
  obtain⟨v,hv,h1,h2,_⟩:=varFl_nil this;exact⟨v,hv,h1,h2⟩
theorem Fine.right (h:Fine s c) (h8:c.op=8):c.right.kind=1∨c.right.kind=7:=by
  have hl:=(h.labels h8).2;rw[Nd.labelQ_eq] at hl
  by_cases h1:c.right.kind=1
  · exact .inl h1
  · by_cases h7:c.right.kind=7
    · exact .inr h7
    · rw[if_neg h1,if_neg h7] at hl
      by_cases h89:c.right.kind=8∨c.right.kind=9
      · have:=h.none ⟨6,c.right.pos⟩ (by unfold cmdFl;rw[if_neg (by omega),if_neg (by omega),if_pos h8];simp[defFl,h89])
        simp at this
      · rw[if_neg h89] at hl;simp at hl
end
def fldK (k:Nd):Prop:=0<k.kids.length∧∀a∈k.kids,a.kind=1∨0<a.kids.length
theorem rowQ_flds {n:Nd} (h:n.rowQ=true):∀k∈n.kids,fldK k:=by
  rcases row_spec h with ⟨_,_,_,hf⟩ | ⟨h1,h⟩
  · intro k hk;obtain⟨_,_,_,a,ha,hq⟩:=field_spec (hf k hk);refine⟨by rw[ha];simp,fun b hb=>?_⟩;rw[ha] at hb;obtain rfl:=List.mem_singleton.1 hb;have hl:=atom_label hq;simp only[Nd.atomQ,Bool.and_eq_true,Bool.or_eq_true,decide_eq_true_eq] at hq
    rcases hq.1 with h | h
    · exact .inl h
    · exact .inr (by rw[label_const hl h];omega)
  · rw[Nd.labelQ_eq,if_pos h1] at h;intro k hk;simp only[Nd.leafQ,Bool.and_eq_true,decide_eq_true_eq] at h
    have:n.kids.length=0:=by have:=h.2;omega
    exact absurd (List.length_pos_of_mem hk) (by omega)
theorem rowQ_one {n:Nd} (h:n.rowQ=true):n.names.length≤1:=by
  rcases row_spec h with ⟨_,_,hn,_⟩ | ⟨h1,h⟩
  · rcases hn with h | ⟨w,h,_⟩<;>rw[h]<;>simp
  · rw[Nd.labelQ_eq,if_pos h1] at h;simp only[Nd.leafQ,Bool.and_eq_true,decide_eq_true_eq] at h
    have:n.names.length=0:=by have:=h.2;omega
    omega
end Go.Am

namespace Go.Am
def ofStep (r:Rl) (p:Int × Int):Rl:=if (0≤p.1∧p.1<(pts r:Nat))∧0≤p.2∧p.2<(pts r:Nat) then r.put p.1.toNat (withB (r.get p.1.toNat) p.2) else r
def ofR (n:Int) (l:List (Int × Int)):Rl:=l.foldl ofStep (Rl.of (min n.toNat 64:Nat) fun _=>0#64)
theorem ofR_take {n:Int} {l:List (Int × Int)} {i:Nat} (hi:i<l.length):ofR n (l.take (i+1))=ofStep (ofR n (l.take i)) l[i]:=by
  rw[ofR,ofR,List.take_succ_eq_append_getElem hi,List.foldl_append];rfl
def wtx (l:List Word):List (List UInt8):=l.map Word.text
theorem wtx_len {l:List Word}:(wtx l).length=l.length:=by simp[wtx]
def pairI (l:List (List UInt8)) (p:Word × Word):Int × Int:=(optI (findS l p.1.text),optI (findS l p.2.text))
def relC (c:Cmd):Rl:=closR (ofR (c.names.length:Nat) (c.pairs.map (pairI (wtx c.names))))
def prodS (l:List Shp):Shp:=⟨true,l.flatMap Shp.facs⟩
def latO (s:Scp) (w:Word):List Shp:=match findL s.lats w.text with | some k=>(match s.lats[k]? with | some x=>[x.shape] | none=>[]) | none=>[]
def prodC (s:Scp) (c:Cmd):Shp:=prodS (c.names.flatMap (latO s))
def Scp.ok2 (s:Scp):Prop:=s.ok∧∀l∈s.lats,l.shape.facs.length≤100
def lat5 (op:Int):Bool:=decide (1≤op)&&decide (op≤5)
def var2 (op:Int):Bool:=decide (op=6)||decide (op=7)
def isL (s:Scp) (t:List UInt8):Bool:=(findL s.lats t).isSome
def livS (s:Scp) (t:List UInt8):Bool:=(findL s.lats t).isSome||(findV s.vars t).isSome
def tellF (b:Bool) (x y:Int):List Flt:=if b then [⟨x,y⟩] else []
def headFl (s:Scp) (c:Cmd):List Flt :=
  if lat5 c.op then tellF (livS s c.name.text) 3 c.name.pos
  else tellF (!livS s c.name.text) 3 c.name.pos++tellF (livS s c.name.text&&!isL s c.name.text) 4 c.name.pos
def nmFl (s:Scp) (c:Cmd) (i:Nat):List Flt :=
  let w:=c.names.getD i ⟨[],0⟩
  if c.op=3 then tellF (!livS s w.text) 3 w.pos++tellF (livS s w.text&&!isL s w.text) 4 w.pos
  else tellF ((findS ((wtx c.names).take i) w.text).isSome||(var2 c.op&&livS s w.text)) 3 w.pos
def nmsFl (s:Scp) (c:Cmd) (m:Nat):List Flt:=(List.range m).flatMap (nmFl s c)
def nonFl (c:Cmd) (w:Word):List Flt:=tellF (findS (wtx c.names) w.text).isNone 3 w.pos
def prFl (c:Cmd) (p:Word × Word):List Flt:=nonFl c p.1++nonFl c p.2
def prsFl (c:Cmd):List Flt:=c.pairs.flatMap (prFl c)
def ordFl (c:Cmd):List Flt:=if c.op=5∧c.names.length≤64 then tellF (!latH (relC c)) 5 c.pairsAt else []
def limFl (s:Scp) (c:Cmd):List Flt :=
  if c.op=6∨c.op=7 then tellF (decide ((64:Int) - (s.vars.length:Nat)<(c.names.length:Nat))) 7 c.pos
  else tellF (decide ((if c.op=3 then (8:Int) else if c.op=4 then 8 else 64)<((if c.op=3 then (prodC s c).facs.length else c.names.length):Nat))||decide (16≤s.lats.length)) 7 c.pos
def scFl (s:Scp) (c:Cmd):List Flt:=headFl s c++nmsFl s c c.names.length++prsFl c++ordFl c++limFl s c
def scF (s:Scp) (c:Cmd):Flt:=if lat5 c.op||var2 c.op then leastF (scFl s c) else .zero
section
variable {s:Scp} {c:Cmd}
theorem tellF_len {b:Bool} {x y:Int}:(tellF b x y).length≤1:=by unfold tellF;split<;>simp
theorem headFl_len:(headFl s c).length≤2:=by
  have h1:=@tellF_len (livS s c.name.text) 3 c.name.pos;have h2:=@tellF_len (!livS s c.name.text) 3 c.name.pos;have h3:=@tellF_len (livS s c.name.text&&!isL s c.name.text) 4 c.name.pos;unfold headFl;split
  · omega
  · rw[List.length_append];omega
theorem nmFl_len {i:Nat}:(nmFl s c i).length≤2:=by
  unfold nmFl;simp only;split
  · rw[List.length_append];have h2:=@tellF_len (!livS s (c.names.getD i ⟨[],0⟩).text) 3 (c.names.getD i ⟨[],0⟩).pos;have h3:=@tellF_len (livS s (c.names.getD i ⟨[],0⟩).text&&!isL s (c.names.getD i ⟨[],0⟩).text) 4 (c.names.getD i ⟨[],0⟩).pos;omega
  · exact Nat.le_trans tellF_len (by omega)
theorem nmsFl_succ {m:Nat}:nmsFl s c (m+1)=nmsFl s c m++nmFl s c m:=by rw[nmsFl,List.range_succ,List.flatMap_append];simp[nmsFl]
theorem nmsFl_len:∀{m:Nat},(nmsFl s c m).length≤2*m
  | 0=>by simp[nmsFl]
  | m + 1 => by
    have h1:=@nmsFl_len m;have h2:=@nmFl_len s c m;rw[nmsFl_succ,List.length_append];omega
theorem prFl_len {p:Word × Word}:(prFl c p).length≤2:=by
  unfold prFl nonFl;rw[List.length_append];have h1:=@tellF_len (findS (wtx c.names) p.1.text).isNone 3 p.1.pos;have h2:=@tellF_len (findS (wtx c.names) p.2.text).isNone 3 p.2.pos;omega
theorem prs_len {l:List (Word × Word)}:(l.flatMap (prFl c)).length≤2*l.length:=by
  have:=flat_len (f:=prFl c) (m:=2) (l:=l) fun _ _=>prFl_len
  omega
theorem ordFl_len:(ordFl c).length≤1:=by
  unfold ordFl;split
  · exact tellF_len
  · simp
theorem limFl_len:(limFl s c).length≤1:=by unfold limFl;split<;>exact tellF_len
end
structure Rm where
  bytes:Int
  asserts:Int
  frames:Int
def Rm.enc (r:Rm):List V:=[.int .i64 r.bytes,.int .i64 r.asserts,.int .i64 r.frames]
section
variable {r:Rm} {n:Nat} {a b c:V}
theorem Rm.r_len:r.enc.length=3:=rfl
theorem Rm.r_one:oneL r.enc=true:=rfl
theorem Rm.r_nol:nolL r.enc=true:=rfl
theorem Rm.r_er:eraseL r.enc=r.enc:=rfl
theorem Rm.r_lo:loL n r.enc=true:=rfl
theorem Rm.r_tk:takeN 3 r.enc=some r.enc:=rfl
theorem Rm.r_ld:ldC true 3 r.enc=some (.agg r.enc):=rfl
theorem Rm.r_has:hasN 3 r.enc=true:=rfl
theorem Rm.r_ov:over [a,b,c] r.enc=r.enc:=rfl
theorem Rm.r_b:ldC false 1 r.enc=some (.int .i64 r.bytes):=rfl
theorem Rm.r_a:ldC false 1 (r.enc.drop 1)=some (.int .i64 r.asserts):=rfl
theorem Rm.r_f:ldC false 1 (r.enc.drop 2)=some (.int .i64 r.frames):=rfl
def Rm.rec_:=And.intro @Rm.r_len <| And.intro @Rm.r_one <| And.intro @Rm.r_nol <| And.intro @Rm.r_er <| And.intro @Rm.r_lo <| And.intro @Rm.r_tk <| And.intro @Rm.r_ld <| And.intro @Rm.r_has <| And.intro @Rm.r_ov <| And.intro @Rm.r_b <| And.intro @Rm.r_a @Rm.r_f
end
def staysF (op:Int):Bool:=decide (1≤op)&&decide (op≤10)
def assF (op:Int):Bool:=decide (8≤op)&&decide (op≤10)
def limitF (r:Rm) (c:Cmd):Bool :=
  (staysF c.op&&(decide (1024<((textC c).length:Int))||decide (IntKind.i64.wrap (16383 - (textC c).length)<r.bytes)))||(assF c.op&&decide (64≤r.asserts))||(decide (c.op=11)&&decide (16≤r.frames))
def lineFl (s:Scp) (r:Rm) (c:Cmd):List Flt:=[scF s c,faultC s c]++tellF (limitF r c) 7 c.pos++tellF (decide (c.op=12)&&decide (r.frames≤1)) 8 c.pos
def fltR (f:Int × Int):Flt:=⟨f.1,f.2⟩
def lineF (s:Scp) (r:Rm) (t:List UInt8):Cmd × Ast × Flt :=
  if (readP t).2.1≠0 then (.zero,.zero,fltR (readP t).2)
  else if (leastF (lineFl s r (readP t).1)).cls≠0 then (.zero,.zero,leastF (lineFl s r (readP t).1))
  else ((readP t).1,if isAst s (readP t).1 then astF s (readP t).1 else .zero,.zero)
end Go.Am

namespace Go.Am
def jenc (τ:Nat) (l:List Flt) (s:Scp) (c:Cmd):List V:=[.sl .no 3 (s.lats.map Ltc.enc),.sl .no 3 (s.vars.map Vrb.enc),
  .int .i64 c.op,.int .i64 c.pos,.str c.name.text,.int .i64 c.name.pos,.sl .no 2 (c.names.map Word.enc),.sl .no 4 (c.pairs.map penc),.int .i64 c.pairsAt,
  .int .i64 c.left.kind,.int .i64 c.left.pos,.str c.left.text,.sl .no 2 (c.left.names.map Word.enc),.sl .no 5 (c.left.kids.map Nd.enc),.int .i64 c.right.kind,.int .i64 c.right.pos,.str c.right.text,.sl .no 2 (c.right.names.map Word.enc),.sl .no 5 (c.right.kids.map Nd.enc),
  .sl (.tk τ) 2 (l.map Flt.enc)]
def jput (σ:Store) (b τ:Nat) (l:List Flt) (s:Scp) (c:Cmd):Store:=(σ.set b (jenc τ l s c)).setTip τ l.length
section
variable {σ σ' : Store} {b b' τ υ n:Nat} {l:List Flt} {s:Scp} {c:Cmd} {x y:Int} {d:List V}
theorem jput_box:(jput σ b τ l s c).box b=some (jenc τ l s c):=by simp[jput,Store.set,Store.setTip]
theorem jput_ne (h:b' ≠ b):(jput σ b τ l s c).box b' = σ.box b' := by simp[jput,Store.set,Store.setTip,h]
theorem jput_tip:(jput σ b τ l s c).tip τ=some l.length:=by simp[jput,Store.set,Store.setTip]
theorem jput_setne (h:b' ≠ b):(jput σ b τ l s c).set b' d=jput (σ.set b' d) b τ l s c:=by
  simp only[jput,Store.set,Store.setTip,Store.mk.injEq,and_true];funext z
  by_cases h1:z=b'
  · subst h1;simp[h]
  · simp[h1]
theorem jput_app:((jput σ b τ l s c).setTip τ (l.length+1)).set b ((jenc τ l s c).take 19++[.sl (.tk τ) 2 (l.map Flt.enc++[[.int .i64 x,.int .i64 y]])])=jput σ b τ (l++[⟨x,y⟩]) s c:=by
  simp only[jput,jenc,Store.set,Store.setTip,Store.mk.injEq,List.map_append,List.map_cons,List.map_nil,Flt.enc,List.length_append,List.length_singleton,and_true];constructor
  · funext z
    by_cases h1:z=b<;>simp[h1]
  · funext z
    by_cases h1:z=τ<;>simp[h1]
theorem jput_sub (h:σ.box b=none) (ht:σ.tip τ=none):σ.sub (jput σ b τ l s c):=by
  refine⟨fun x cs hx=>?_,fun t m hm=>?_,fun _ _ h=>h⟩
  · have:x≠b:=by rintro rfl;rw[h] at hx;simp at hx
    rw[jput_ne this];exact hx
  · have:t≠τ:=by rintro rfl;rw[ht] at hm;simp at hm
    simp[jput,Store.set,Store.setTip,this];exact hm
theorem jput_new (h:b' ≠ b) (hn:σ.box b' = none):(jput σ b τ l s c).sub (jput (σ.set b' d) b τ l s c):=by
  refine⟨fun x cs hx=>?_,fun t m hm=>?_,fun _ _ h=>h⟩
  · by_cases h1:x=b
    · subst h1;rw[jput_box] at hx ⊢;exact hx
    · rw[jput_ne h1] at hx ⊢
      have:x≠b' := by rintro rfl;rw[hn] at hx;simp at hx
      simp only[Store.set,this,if_false];exact hx
  · simpa [jput,Store.set,Store.setTip] using hm
theorem j_f:ldC false 1 ((jenc τ l s c).drop 19)=some (.sl (.tk τ) 2 (l.map Flt.enc)):=rfl
theorem j_s:takeN 2 (jenc τ l s c)=some s.enc:=rfl
theorem j_c:takeN 17 ((jenc τ l s c).drop 2)=some c.enc:=rfl
theorem j_l:ldC false 1 (jenc τ l s c)=some (.sl .no 3 (s.lats.map Ltc.enc)):=rfl
theorem j_v:ldC false 1 ((jenc τ l s c).drop 1)=some (.sl .no 3 (s.vars.map Vrb.enc)):=rfl
theorem j_o:ldC false 1 ((jenc τ l s c).drop 2)=some (.int .i64 c.op):=rfl
theorem j_p:ldC false 1 ((jenc τ l s c).drop 3)=some (.int .i64 c.pos):=rfl
theorem j_t:ldC false 1 ((jenc τ l s c).drop 4)=some (.str c.name.text):=rfl
theorem j_a:ldC false 1 ((jenc τ l s c).drop 5)=some (.int .i64 c.name.pos):=rfl
theorem j_n:ldC false 1 ((jenc τ l s c).drop 6)=some (.sl .no 2 (c.names.map Word.enc)):=rfl
theorem j_r:ldC false 1 ((jenc τ l s c).drop 7)=some (.sl .no 4 (c.pairs.map penc)):=rfl
theorem j_q:ldC false 1 ((jenc τ l s c).drop 8)=some (.int .i64 c.pairsAt):=rfl
theorem j_h:hasN 1 ((jenc τ l s c).drop 19)=true:=rfl
theorem j_w {v:V}:setAt (jenc τ l s c) 19 [v]=(jenc τ l s c).take 19++[v]:=rfl
def j0 (s:Scp):List V:=[.sl .no 3 (s.lats.map Ltc.enc),.sl .no 3 (s.vars.map Vrb.enc),.int .i64 0,.int .i64 0,.str [],.int .i64 0,.sl .full 2 [],.sl .full 4 [],.int .i64 0,.int .i64 0,.int .i64 0,.str [],.sl .full 2 [],.sl .full 5 [],.int .i64 0,.int .i64 0,.str [],.sl .full 2 [],.sl .full 5 [],.sl .full 2 []]
def jz (s:Scp) (c:Cmd):List V:=(jenc 0 [] s c).take 19++[.sl .full 2 []]
theorem j0_o:over [.sl .full 3 [],.sl .full 3 [],.int .i64 0,.int .i64 0,.str [],.int .i64 0,.sl .full 2 [],.sl .full 4 [],.int .i64 0,.int .i64 0,.int .i64 0,.str [],.sl .full 2 [],.sl .full 5 [],.int .i64 0,.int .i64 0,.str [],.sl .full 2 [],.sl .full 5 [],.sl .full 2 []] s.enc=j0 s:=rfl
theorem j0_h:hasN 17 ((j0 s).drop 2)=true:=rfl
theorem j0_s:setAt (j0 s) 2 c.enc=jz s c:=by rw[Cmd.enc,Cmd.encP];rfl
theorem jz_len:(jz s c).length=20:=rfl
theorem jz_one:oneL (jz s c)=true:=rfl
theorem jz_nol:nolL (jz s c)=true:=rfl
theorem jz_tk:takeN 20 (jz s c)=some (jz s c):=rfl
def jz_:=And.intro @j0_o <| And.intro @j0_h <| And.intro @j0_s <| And.intro @jz_len <| And.intro @jz_one <| And.intro @jz_nol @jz_tk
def jr_:=And.intro @jput_box <| And.intro @jput_tip <| And.intro @j_f <| And.intro @j_s <| And.intro @j_c <| And.intro @j_l <| And.intro @j_v <| And.intro @j_o <| And.intro @j_p <| And.intro @j_t <| And.intro @j_a <| And.intro @j_n <| And.intro @j_r <| And.intro @j_q <| And.intro @j_h @j_w
end
end Go.Am

namespace Go.Am
def OkF (p:Int) (f:Flt):Prop:=f.cls<7∨f=⟨7,p⟩
theorem tellF_ok {p x y:Int} {b:Bool} (h:x<7∨(x=7∧y=p)):∀f∈tellF b x y,OkF p f:=fun f hf=>by
  unfold tellF at hf;split at hf
  · rw[List.mem_singleton.1 hf]
    rcases h with h | ⟨rfl,rfl⟩
    · exact .inl h
    · exact .inr rfl
  · simp at hf
theorem least_ok {p:Int} {l:List Flt} (h:∀f∈l,OkF p f):OkF p (leastF l):=by
  rcases (least_spec l .zero).1 with e | ⟨e,_⟩
  · exact .inl (by show (l.foldl bestF .zero).cls<7;rw[e];decide)
  · exact h _ e
theorem scF_ok {s:Scp} {c:Cmd}:OkF c.pos (scF s c):=by
  unfold scF;split
  · refine least_ok fun f hf=>?_
    simp only[scFl,List.mem_append] at hf
    rcases hf with (((hf | hf) | hf) | hf) | hf
    · unfold headFl at hf;split at hf
      · exact tellF_ok (.inl (by decide)) f hf
      · rcases List.mem_append.1 hf with hf | hf<;>exact tellF_ok (.inl (by decide)) f hf
    · obtain⟨i,_,hf⟩:=List.mem_flatMap.1 hf;unfold nmFl at hf;simp only at hf;split at hf
      · rcases List.mem_append.1 hf with hf | hf<;>exact tellF_ok (.inl (by decide)) f hf
      · exact tellF_ok (.inl (by decide)) f hf
    · obtain⟨i,_,hf⟩:=List.mem_flatMap.1 hf
      rcases List.mem_append.1 hf with hf | hf<;>exact tellF_ok (.inl (by decide)) f hf
    · unfold ordFl at hf;split at hf
      · exact tellF_ok (.inl (by decide)) f hf
      · simp at hf
    · unfold limFl at hf;split at hf<;>exact tellF_ok (.inr ⟨rfl,rfl⟩) f hf
  · exact .inl (by decide)
section
variable {s:Scp} {lat p:Int}
theorem varFl_ok {t:List UInt8} {q k:Int}:∀f∈varFl s lat t q k,OkF p f:=fun f hf=>by
  unfold varFl at hf;split at hf
  · split at hf<;>(rw[List.mem_singleton.1 hf];exact .inl (by simp))
  · split at hf
    · split at hf
      · rw[List.mem_singleton.1 hf];exact .inl (by simp)
      · simp at hf
    · simp at hf
theorem latFl_ok {w:Word}:∀f∈latFl s w,OkF p f:=fun f hf=>by
  unfold latFl at hf;split at hf
  · split at hf<;>(rw[List.mem_singleton.1 hf];exact .inl (by simp))
  · simp at hf
theorem atmFl_ok {n:Nd}:∀f∈atmFl s lat n,OkF p f:=fun f hf=>by
  unfold atmFl at hf;split at hf
  · exact varFl_ok f hf
  · split at hf
    · unfold elmFl at hf;split at hf
      · split at hf
        · rw[List.mem_singleton.1 hf];exact .inl (by simp)
        · simp at hf
      · simp at hf
    · simp at hf
mutual
theorem labFl_ok:∀(n:Nd),∀f∈labFl s lat n,OkF p f
  | .mk k q t ws ks => fun f hf => by
    rw[labFl] at hf
    rcases List.mem_append.1 hf with hf | hf
    · exact atmFl_ok f hf
    · split at hf
      · simp at hf
      · exact labsFl_ok ks f hf
theorem labsFl_ok:∀(l:List Nd),∀f∈labsFl s lat l,OkF p f
  | []=>fun f hf=>by simp[labsFl] at hf
  | n :: ns => fun f hf => by
    rw[labsFl] at hf
    rcases List.mem_append.1 hf with hf | hf
    · exact labFl_ok n f hf
    · exact labsFl_ok ns f hf
end
theorem rowFl_ok {n:Nd}:∀f∈rowFl s lat p n,OkF p f:=fun f hf=>by
  unfold rowFl at hf;split at hf
  · exact varFl_ok f hf
  · split at hf
    · simp only[List.mem_append] at hf
      rcases hf with (hf | hf) | hf
      · obtain⟨i,_,hf⟩:=List.mem_flatMap.1 hf
        rcases List.mem_append.1 hf with hf | hf
        · unfold dupFl at hf;split at hf
          · rw[List.mem_singleton.1 hf];exact .inl (by simp)
          · simp at hf
        · obtain⟨k,_,hf⟩:=List.mem_flatMap.1 hf;exact atmFl_ok f hf
      · obtain⟨w,_,hf⟩:=List.mem_flatMap.1 hf;exact varFl_ok f hf
      · split at hf
        · rw[List.mem_singleton.1 hf];exact .inr rfl
        · simp at hf
    · simp at hf
end
theorem faultC_ok {s:Scp} {c:Cmd}:OkF c.pos (faultC s c):=least_ok fun f hf=>by
  unfold cmdFl at hf;split at hf
  · exact varFl_ok f hf
  split at hf
  · exact varFl_ok f hf
  split at hf
  · simp only[List.mem_append] at hf
    rcases hf with ((hf | hf) | hf) | hf
    · exact latFl_ok f hf
    · exact labFl_ok _ f hf
    · exact labFl_ok _ f hf
    · unfold defFl at hf;split at hf
      · rw[List.mem_singleton.1 hf];exact .inl (by simp)
      · simp at hf
  split at hf
  · simp only[List.mem_append] at hf
    rcases hf with (hf | hf) | hf
    · exact latFl_ok f hf
    · exact rowFl_ok f hf
    · exact rowFl_ok f hf
  · simp at hf
theorem limitF_mono {a b:Rm} {c:Cmd} (h1:a.bytes≤b.bytes) (h2:a.asserts≤b.asserts) (h3:a.frames=b.frames) (h:limitF a c=true):limitF b c=true:=by
  simp only[limitF,Bool.or_eq_true,Bool.and_eq_true,decide_eq_true_eq] at h ⊢
  rcases h with (⟨h,k⟩ | ⟨h,k⟩) | ⟨h,k⟩
  · exact .inl (.inl ⟨h,by omega⟩)
  · exact .inl (.inr ⟨h,by omega⟩)
  · exact .inr ⟨h,by omega⟩
theorem limit_no_pop {r:Rm} {c:Cmd} (h:limitF r c=true):c.op≠12:=fun e=>by
  simp[limitF,staysF,assF,e] at h
theorem lineFl_room {s:Scp} {a b:Rm} {c:Cmd} (h1:a.bytes≤b.bytes) (h2:a.asserts≤b.asserts) (h3:a.frames=b.frames) :
    leastF (lineFl s b c)=leastF (lineFl s a c)∨((leastF (lineFl s a c)).cls=0∧leastF (lineFl s b c)=⟨7,c.pos⟩):=by
  cases ha:limitF a c with
  | true=>exact .inl (by rw[lineFl,lineFl,ha,limitF_mono h1 h2 h3 ha,h3])
  | false =>
    cases hb:limitF b c with
    | false=>exact .inl (by rw[lineFl,lineFl,ha,hb,h3])
    | true =>
      have hp:=limit_no_pop hb;have ea:lineFl s a c=[scF s c,faultC s c]:=by simp[lineFl,ha,tellF,hp]
      have eb:leastF (lineFl s b c)=bestF (leastF [scF s c,faultC s c]) ⟨7,c.pos⟩:=by
        have:lineFl s b c=[scF s c,faultC s c]++[⟨7,c.pos⟩]:=by simp[lineFl,hb,tellF,hp]
        rw[this,leastF,List.foldl_append];rfl
      rw[ea,eb];have hok:OkF c.pos (leastF [scF s c,faultC s c]):=least_ok fun f hf=>by
        rcases List.mem_cons.1 hf with rfl | hf
        · exact scF_ok
        · rw[List.mem_singleton.1 hf];exact faultC_ok
      generalize leastF [scF s c,faultC s c]=o at hok
      by_cases h0:o.cls=0
      · exact .inr ⟨h0,by simp[bestF,lessF,h0]⟩
      · refine .inl ?_
        rcases hok with h | rfl
        · simp only[bestF,lessF];rw[if_neg (by decide)];simp[h0];intro h';omega
        · simp[bestF,lessF]
theorem lineF_bad {s:Scp} {r:Rm} {t:List UInt8} (h:(readP t).2.1≠0):lineF s r t=(.zero,.zero,fltR (readP t).2):=by rw[lineF,if_pos h]
theorem lineF_no {s:Scp} {r:Rm} {t:List UInt8} (h:(readP t).2.1=0) (h' : (leastF (lineFl s r (readP t).1)).cls≠0):lineF s r t=(.zero,.zero,leastF (lineFl s r (readP t).1)):=by rw[lineF,if_neg (by simpa using h),if_pos h']
theorem lineF_ok {s:Scp} {r:Rm} {t:List UInt8} (h:(readP t).2.1=0) (h' : (leastF (lineFl s r (readP t).1)).cls=0):lineF s r t=((readP t).1,if isAst s (readP t).1 then astF s (readP t).1 else .zero,.zero):=by
  rw[lineF,if_neg (by simpa using h),if_neg (by simpa using h')]
theorem flt_ne {f:Flt} (h:f.cls≠0):f≠.zero:=fun e=>h (by rw[e];rfl)
theorem room_law {s:Scp} {a b:Rm} {t:List UInt8} (h1:a.bytes≤b.bytes) (h2:a.asserts≤b.asserts) (h3:a.frames=b.frames) :
    ((lineF s a t).2.2≠.zero∧(lineF s a t).2.2=(lineF s b t).2.2) ∨
    ((lineF s a t).2.2 = .zero∧(lineF s a t).1=(readP t).1∧(((lineF s b t).2.2 = .zero∧(lineF s b t).1=(readP t).1)∨(lineF s b t).2.2=⟨7,(readP t).1.pos⟩)):=by
  by_cases hr:(readP t).2.1=0
  · by_cases ha:(leastF (lineFl s a (readP t).1)).cls=0
    · refine .inr ?_;rw[lineF_ok hr ha];refine⟨rfl,rfl,?_⟩
      rcases lineFl_room (s:=s) (c:=(readP t).1) h1 h2 h3 with e | ⟨_,e⟩
      · rw[lineF_ok hr (by rw[e];exact ha)];exact .inl ⟨rfl,rfl⟩
      · rw[lineF_no hr (by rw[e];simp)];exact .inr e
    · refine .inl ?_
      rcases lineFl_room (s:=s) (c:=(readP t).1) h1 h2 h3 with e | ⟨e,_⟩
      · rw[lineF_no hr ha,lineF_no hr (by rw[e];exact ha)];exact⟨flt_ne ha,e.symm⟩
      · exact absurd e ha
  · rw[lineF_bad hr,lineF_bad hr];exact .inl ⟨flt_ne hr,rfl⟩
end Go.Am

namespace Go.Am
structure CB (B:Nat) (c:Cmd):Prop where
  ns:wsum c.names≤B
  ps:c.pairs.length≤B
  l:c.left.wt≤B
  r:c.right.wt≤B
  nm:c.name.text.length≤B
  pt:psum c.pairs≤34*B
theorem eats_le {r r' : Rdr} {seg:List Tree} (h:Eats r r' seg):szs seg≤szs r.l:=by
  obtain⟨pre,post,e,_,_⟩:=h.ex;rw[e,szs_append,szs_append];omega
theorem word_le {r:Rdr} (hg:Goods r.l) (hb:r.bad=none):r.word.1.text.length≤16:=by
  cases h:(r.take 97).2.bad with
  | none=>exact tree_len ((take_eats h).1.good hg).1
  | some b =>
    have:(r.take 97).1 = .zero:=by
      unfold Rdr.take at h ⊢;split
      · rename_i hs;rw[if_pos hs] at h;simp[hb] at h
      · rfl
    simp[Rdr.word,this,Tree.zero,Tree.tok]
theorem word_le' {r:Rdr} (hg:Goods r.l):r.word.1.text.length≤16:=by
  cases hb:r.bad with
  | none=>exact word_le hg hb
  | some a =>
    have:r.sees 97=false:=by simp[Rdr.sees,Rdr.ok,hb]
    simp[Rdr.word,Rdr.take,this,Tree.zero,Tree.tok]
theorem psum_snoc {l:List (Word × Word)} {p:Word × Word}:psum (l++[p])=psum l+(p.1.text.length+p.2.text.length+2):=by simp[psum]
theorem pairsG_sum:∀(n:Nat) (i:Rdr) (acc:List (Word × Word)),Goods i.l→psum (Rdr.pairsG n i acc).2≤psum acc+34*n
  | 0,_,_,_=>by simp[Rdr.pairsG]
  | n + 1, i, acc, hg => by
    have e1:(i.word.2.take 60).2.l=i.l:=by rw[Rdr.take_l];exact Rdr.take_l i 97
    have e2:((i.word.2.take 60).2.word).2.l=i.l:=by rw[←e1];exact Rdr.take_l _ 97
    have w1:=word_le' hg;have w2:((i.word.2.take 60).2.word).1.text.length≤16:=word_le' (by rw[e1];exact hg);simp only[Rdr.pairsG];split
    · simp only;omega
    · split
      · simp only[psum_snoc];omega
      · have:=pairsG_sum n (((i.word.2.take 60).2.word).2.take 44).2 (acc++[(i.word.1,((i.word.2.take 60).2.word).1)]) (by rw[Rdr.take_l,e2];exact hg)
        simp only[psum_snoc] at this;omega
theorem take_goods {r:Rdr} {k:Int} (hg:Goods r.l):Goods (r.take k).1.kids:=by
  cases h:(r.take k).2.bad with
  | none=>exact((good_eq _).1 ((take_eats h).1.good hg).1).2.2
  | some b =>
    have:(r.take k).1.kids=[]:=by
      rcases r.take_at k with ⟨_,_,hb,_⟩ | ⟨hs,_⟩
      · rw[h] at hb;simp at hb
      · simp[Rdr.take,hs,Tree.zero,Tree.kids]
    rw[this];trivial
theorem pairsG_len:∀(n:Nat) (i:Rdr) (acc:List (Word × Word)),(Rdr.pairsG n i acc).2.length≤acc.length+n
  | 0,_,_=>by simp[Rdr.pairsG]
  | n + 1, i, acc => by
    simp only[Rdr.pairsG];split
    · simp only;omega
    · split
      · simp
      · have:=pairsG_len n (((i.word.2.take 60).2.word).2.take 44).2 (acc++[(i.word.1,((i.word.2.take 60).2.word).1)])
        simp only[List.length_append,List.length_cons,List.length_nil] at this;omega
theorem node_cb {B:Nat} {c:Cmd} (h:CB B c) {r:Rdr} {g:Nd × Int × Option Int} (hg:g.1.wt≤B):CB B (nodeP r c g).2:=by
  unfold nodeP;cases g.2.2 with
  | some a=>exact h
  | none =>
    simp only;split
    · exact⟨h.ns,h.ps,hg,h.r,h.nm,h.pt⟩
    · exact⟨h.ns,h.ps,h.l,hg,h.nm,h.pt⟩
theorem readAt_wt {one:Rdr→Nd × Rdr} {Q:Nd→Prop} (hs:Sound one Nd.txt Q SN) {l:List Tree} (hg:Goods l) (a fin:Int):(readAt one l a fin).1.wt≤szs l+4:=by
  unfold readAt;cases hb:(one ⟨l,a,fin,none⟩).2.bad with
  | some b=>simp only[zero_wt];omega
  | none =>
    obtain⟨seg,e1,_,_,e4⟩:=hs ⟨l,a,fin,none⟩ hg hb
    have:=eats_le e1
    simp only[SN] at e4 this ⊢;omega
theorem part_cb {B:Nat} {k:UInt8} {x:Rdr × Cmd} (hg:Goods x.1.l) (hB:szs x.1.l+20≤B) (h:CB B x.2):CB B (partP k x).2:=by
  obtain⟨r,c⟩:=x;simp only at hg hB h;unfold partP;simp only;split
  · exact h
  rename_i hb;have hb:r.bad=none:=by simpa using hb
  split
  · exact⟨h.ns,h.ps,h.l,h.r,by have:=word_le hg hb;simp only;omega,h.pt⟩
  split
  · refine⟨?_,h.ps,h.l,h.r,h.nm,h.pt⟩
    have:=word_le hg hb
    simp[wsum];omega
  split
  · refine⟨?_,h.ps,h.l,h.r,h.nm,h.pt⟩;show wsum (wordsAt r.l r.at_ r.fin).1≤B;unfold wordsAt;cases hw:((⟨r.l,r.at_,r.fin,none⟩:Rdr).words false).2.bad with
    | some b=>simp[wsum]
    | none =>
      obtain⟨t,e1,_,_,_,e5⟩:=words_sound (r:=⟨r.l,r.at_,r.fin,none⟩) hg hw
      have:=eats_le e1
      simp only at this ⊢;omega
  split
  · unfold pairsP;simp only;split
    · exact⟨h.ns,h.ps,h.l,h.r,h.nm,h.pt⟩
    · have g1:=pairsG_sum ((r.take 123).1.kids.length+1) (r.take 123).1.inner [] (take_goods hg);have g2:=manys_ge (r.take 123).1.kids;have g3:=(r.take_many 123).1;refine⟨h.ns,?_,h.l,h.r,h.nm,by simp only[szs,psum,List.map_nil,List.sum_nil] at hB g1 ⊢;omega⟩;have h1:=pairsG_len ((r.take 123).1.kids.length+1) (r.take 123).1.inner [];have h2:=manys_ge (r.take 123).1.kids;have h3:=(r.take_many 123).1;simp only[szs,List.length_nil] at hB h1 ⊢;omega
  split
  · exact node_cb h (by have:=readAt_wt (label_sound (manys r.l)) hg r.at_ r.fin;omega)
  split
  · exact node_cb h (by have:=readAt_wt (row_sound (manys r.l)) hg r.at_ r.fin;omega)
  · exact h
theorem parts_cb {B:Nat} {l:List Tree} {fin:Int} (hg:Goods l) (hB:szs l+20≤B):∀(ks:List UInt8) (x:Rdr × Cmd),PInv l fin x→CB B x.2→CB B (partsP ks x).2
  | [],_,_,h=>h
  | k::ks,x,hi,h=>parts_cb hg hB ks _ (partP_inv hi k) (part_cb (by rw[hi.hl];exact hg) (by rw[hi.hl];exact hB) h)
theorem zero_cb {B:Nat} (h:4≤B):CB B Cmd.zero:=⟨by simp[Cmd.zero,wsum],by simp[Cmd.zero],by simp only[Cmd.zero,zero_wt];omega,by simp only[Cmd.zero,zero_wt];omega,by simp[Cmd.zero],by simp[Cmd.zero,psum]⟩
theorem end_cb {B:Nat} {x:Rdr × Cmd} (h4:4≤B) (h:CB B x.2):CB B (endP x).1:=by
  unfold endP;split
  · exact zero_cb h4
  · exact h
theorem cmd_cb {B:Nat} {l:List Tree} {fin:Int} (hg:Goods l) (hB:szs l+20≤B):CB B (cmdP l fin).1:=by
  unfold cmdP;split
  · exact zero_cb (by omega)
  · rename_i t ts;simp only;split
    · exact zero_cb (by omega)
    · refine end_cb (by omega) (parts_cb hg hB _ _ (fin:=fin) ?_ ?_)
      · exact PInv.goes (x:=(⟨t::ts,0,fin,none⟩,Cmd.zero)) ⟨rfl,rfl,by simp,by simp only;omega,fun _=>by simp only;omega⟩ rfl (goes_word _) (take_fin _ 97)
      · have h:=zero_cb (B:=B) (by omega);exact⟨h.ns,h.ps,h.l,h.r,h.nm,h.pt⟩
theorem read_cb (s:List UInt8):CB (26*s.length+20) (readP s).1:=by
  unfold readP;rw[treeP_line];split
  · exact zero_cb (by omega)
  · split
    · exact zero_cb (by omega)
    · refine cmd_cb (line_good s) ?_
      have:=line_many s
      simp only[szs];omega
end Go.Am

namespace Go.Am
theorem sameW_eq:∀a b:List Word,sameW a b=decide (a.map Word.text=b.map Word.text)
  | [],[]=>by simp[sameW]
  | [],_::_=>by simp[sameW]
  | _::_,[]=>by simp[sameW]
  | w::ws,u::us=>by simp[sameW,sameW_eq ws us]
end Go.Am
