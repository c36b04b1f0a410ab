/-
  Part 4 of the proof of CodeRisesUptoCardSaid: a logic over the model, the forms of the functions that the law reaches, and what they compute.
-/
import Derived.Test.YtaddgcjnnpejjaaGreatDoorRises3
set_option linter.unusedVariables false
set_option linter.unusedSimpArgs false
set_option linter.defProp false
set_option linter.unusedSectionVars false

namespace Go.Am
def FTo (v r:V):List V→List V→Prop
  | [],[]=>True
  | x::xs,y::ys=>(y=x∨(x=v∧y=r)∨y = .any)∧FTo v r xs ys
  | _,_=>False
theorem FTo.RL {E E' : Env} {v r:V} (hle:E.le E') (h:∀u,R E v u→R E' r u):∀{t t' : List V} {vs:List Value},FTo v r t t' → RL E t vs→RL E' t' vs
  | [],[],[],_,_=>by simp only[Go.Am.RL]
  | [],[],_::_,_,k=>by simp[Go.Am.RL] at k
  | [],_::_,_,k,_=>by simp[FTo] at k
  | _::_,[],_,k,_=>by simp[FTo] at k
  | _::_,_::_,[],_,k=>by simp[Go.Am.RL] at k
  | x :: xs, y :: ys, u :: us, k, k2 => by
    simp only[FTo] at k;simp only[Go.Am.RL] at k2 ⊢;refine⟨?_,FTo.RL hle h k.2 k2.2⟩
    rcases k.1 with rfl | ⟨rfl,rfl⟩ | rfl
    · exact R.mono _ hle k2.1
    · exact h _ k2.1
    · simp only[R]
theorem fto_nil {v r:V}:FTo v r [] []=True:=rfl
theorem fto_cons {v r x y:V} {xs ys:List V}:FTo v r (x::xs) (y::ys)=((y=x∨(x=v∧y=r)∨y = .any)∧FTo v r xs ys):=rfl
theorem fto_same {v r:V}:∀{l:List V},FTo v r l l=True
  | []=>rfl
  | x::l=>by rw[fto_cons,fto_same];simp
theorem entT {α:Type} {F:Nat→α→St} {J:Nat→α→Prop} {t:List V} {l:List (List V)} {σ:Store} (n:Nat) (h:∀τ,σ.tip τ=none→∃x,J 0 x∧LTo τ n t (F 0 x).t∧l=(F 0 x).loc∧(F 0 x).out=σ.setTip τ n):CEnt F J ⟨t,l,σ⟩ :=
  (Upd.tokEnter (ι:={x // J 0 x}) (I:=fun x=>F 0 x.1) n fun τ hτ=>by
    obtain⟨x,h1,h2,h3,h4⟩:=h τ hτ;exact⟨⟨x,h1⟩,h2,h3,h4⟩).mono fun _ ⟨x,e⟩=>⟨x.1,x.2,e⟩
def fto:=And.intro @fto_nil <| And.intro @fto_cons @fto_same
theorem RAs_frz {E:Env} {b:Nat} {cs:List V} (hc:∀(j:Nat) x,cs[j]?=some x→∃v,E.w.cell? ⟨b,j,none⟩=some v∧(E.role b).com j∧R E x v) :
    ∀(xs:List V) (p:Nat),(∀(j:Nat) x,xs[j]?=some x→cs[p+j]?=some x)→oneL xs=true→RAs E xs b p
  | [],_,_,_=>by simp[RAs]
  | x :: xs, p, hp, ho => by
    simp only[oneL,Bool.and_eq_true] at ho;simp only[RAs];obtain⟨v,v1,v2,v3⟩:=hc p x (by have:=hp 0 x rfl;simpa using this);refine⟨⟨v,v1,v2,one_ok (E:=E) (xs:=[x]) (vs:=[v]) (by simp only[RL];exact⟨v3,trivial⟩) (by simp[oneL,ho.1]) v (by simp),v3⟩,RAs_frz hc xs (p+1) (fun j y hy=>?_) ho.2⟩;have:=hp (j+1) y (by simpa using hy)
    rwa [show p+1+j=p+(j+1) by omega]
theorem oneL_app:∀{a b:List V},oneL (a++b)=(oneL a&&oneL b)
  | [],b=>by simp[oneL]
  | x::a,b=>by simp[oneL,oneL_app,Bool.and_assoc]
theorem REs_frz {E:Env} {b k:Nat} {cs:List V} (hc:∀(j:Nat) x,cs[j]?=some x→∃v,E.w.cell? ⟨b,j,none⟩=some v∧(E.role b).com j∧R E x v) :
    ∀(rows:List (List V)) (p:Nat),(∀(j:Nat) x,rows.flatten[j]?=some x→cs[p+j]?=some x)→oneL rows.flatten=true→(∀r∈rows,r.length=k)→REs E k rows b p
  | [],_,_,_,_=>by simp[REs]
  | r :: rows, p, hp, ho, hr => by
    rw[List.flatten_cons,oneL_app,Bool.and_eq_true] at ho;have hl:=hr r (by simp);simp only[REs];refine⟨hl,RAs_frz hc r p (fun j x hx=>?_) ho.1,REs_frz hc rows (p+k) (fun j x hx=>?_) ho.2 fun q hq=>hr q (by simp[hq])⟩
    · refine hp j x ?_;rw[List.flatten_cons,List.getElem?_append_left (List.getElem?_eq_some_iff.1 hx).1];exact hx
    · have:=hp (k+j) x (by rw[List.flatten_cons,List.getElem?_append_right (by omega),hl,Nat.add_sub_cancel_left];exact hx)
      rwa [show p+k+j=p+(k+j) by omega]
theorem Upd.frz {k:Nat} {v:V} {rows:List (List V)} {t t' : List V} {l:List (List V)} {σ:Store} {K:St→Prop} (h:Own σ k v rows) (h1:oneL rows.flatten=true) (ht:FTo v (.sl .no k rows) t t')
    (hk:∀σ',(∀σ0,OwnS σ0 σ v→σ0.sub σ')→K ⟨t',l,σ'⟩):Upd ⟨t,l,σ⟩ K:=by
  intro E a hs;obtain⟨ad,cap,rfl,hc,hr,hb⟩:=h
  rcases hb with h0 | ⟨b,cs,rfl,hbx,hl,htk⟩
  · have e:rows=[]:=List.eq_nil_of_length_eq_zero (by omega);subst e;refine⟨E,⟨t',l,σ⟩,rfl,Fr.refl E,⟨hs.ok,hs.okL,hs.defers,FTo.RL (Env.le.refl E) (fun u hu=>?_) ht hs.slot⟩,hk σ fun σ0 h=>h.sub⟩;simp only[R] at hu ⊢;subst hu;exact⟨_,_,rfl,hc,.inl trivial,trivial⟩
  · obtain⟨hf,hs',hcell⟩:=frz_spec hs hbx;refine⟨E.frz b,⟨t',l,σ.del b⟩,rfl,hf,⟨hs'.ok,hs'.okL,hs'.defers,FTo.RL (E:=E.frz b) (Env.le.refl _) (fun u hu=>?_) ht hs'.slot⟩,hk _ fun σ0 h=>⟨fun b' cs' hb' => ?_,fun t n hn=>h.sub.2 t n hn⟩⟩
    · simp only[R] at hu ⊢;subst hu;refine⟨_,_,rfl,hc,.inr ⟨b,0,rfl,REs_frz (cs:=cs) hcell rows 0 (fun j x hx=>?_) h1 hr⟩,trivial⟩;rw[Nat.zero_add];rw[←htk,List.getElem?_take] at hx;split at hx
      · exact hx
      · simp at hx
    · have hne:b' ≠ b:=by
        rintro rfl;rw[h.new b' rfl] at hb';simp at hb'
      simp only[Store.del];rw[if_neg hne];exact h.sub.1 b' cs' hb'
def CutOf (σ:Store) (k:Nat) (v:V) (rows:List (List V)) (m:Nat) (v' : V):Prop :=
  ∃a cap,v' = .raw (.slice a (rows.length - m) cap)∧(rows.length - m=0∨∃b cs,ownB v=some b∧a=some ⟨b,m*k,none⟩∧σ.box b=some cs∧rows.length*k≤cs.length∧cs.take (rows.length*k)=rows.flatten)
theorem Own.cutFrom {σ:Store} {k m:Nat} {v:V} {rows:List (List V)} {H:V→Store→Prop} {i:IntKind} {j:Int} (h:Own σ k v rows) (h0:0≤j) (hj:j.toNat=m) (hm:m≤rows.length)
    (hk:∀v',CutOf σ k v rows m v' → H v' σ):OQ.sem σ H (.slc k true false false) [v,.int i j]:=by
  obtain⟨a,cap,rfl,h1,h2,h3⟩:=h;show bnd true 0 [.int i j] fun m vs=>bnd false rows.length vs fun h vs=>bnd false cap vs fun M vs=>vs=[]∧m≤h∧h≤M∧M≤cap∧H (.raw (.slice (if M=m then a else a.map (·.add (m*k))) (h - m) (M - m))) σ
  refine⟨h0,rfl,by omega,h1,Nat.le_refl _,?_⟩;rw[hj];refine hk _ ⟨_,_,rfl,?_⟩
  by_cases hz:rows.length - m=0
  · exact .inl hz
  · rcases h3 with h3 | ⟨b,cs,rfl,h4,h5,h6⟩
    · omega
    · refine .inr ⟨b,cs,rfl,?_,h4,?_,h6⟩
      · rw[if_neg (by omega)];simp[addr_add]
      · rw[h5];exact Nat.mul_le_mul_right _ h1
theorem Own.cpy {σ:Store} {k m1 m2:Nat} {v v1 v2:V} {rows:List (List V)} {H:V→Store→Prop} (h:Own σ k v rows) (c1:CutOf σ k v rows m1 v1) (c2:CutOf σ k v rows m2 v2) (hm:m2≤m1) (hm1:m1≤rows.length) (ho:oneL rows.flatten=true)
    (hk:∀σ',Own σ' k v (rows.take m1++(rows.drop m2).take (rows.length - m1))→OwnF σ v σ' v→H (.int .i64 (rows.length - m1:Nat)) σ'):OQ.sem σ H (.cpy k) [v1,v2]:=by
  obtain⟨a1,cap1,rfl,d1⟩:=c1;obtain⟨a2,cap2,rfl,d2⟩:=c2;show ∃xs,CutAt σ a2 (Nat.min (rows.length - m2) (rows.length - m1)*k) xs∧CpyOk σ k a1 (Nat.min (rows.length - m2) (rows.length - m1)) xs H;have emin:Nat.min (rows.length - m2) (rows.length - m1)=rows.length - m1:=Nat.min_eq_right (by omega);rw[emin]
  by_cases hz:rows.length - m1=0
  · rw[hz];refine⟨[],.inl ⟨by simp,rfl⟩,fun _=>?_,fun e=>absurd rfl e⟩;have:=hk σ (by rw[hz,List.take_of_length_le (by omega),List.take_zero,List.append_nil];exact h) OwnF.refl;rw[hz] at this;exact this
  · obtain⟨a,cap,rfl,h1,h2,h3⟩:=h
    rcases d1 with d1 | ⟨b,cs,e1,rfl,hb,hl,htk⟩
    · exact absurd d1 hz
    rcases d2 with d2 | ⟨b',cs',e2,rfl,hb',hl',htk'⟩
    · exact absurd d2 (by omega)
    obtain rfl:b=b' := by rw[e1] at e2;exact Option.some.inj e2
    obtain rfl:cs=cs' := by rw[hb] at hb';exact Option.some.inj hb'
    rcases h3 with h3 | ⟨b3,cs3,rfl,h4,h5,h6⟩
    · exact absurd h3 (by omega)
    obtain rfl:b3=b:=by simpa [ownB] using e1
    obtain rfl:cs=cs3:=by rw[hb] at h4;exact Option.some.inj h4
    have hmk:(rows.length - m1)*k+m1*k=rows.length*k:=by rw[←Nat.add_mul];congr 1;omega
    have hmk2:m2*k≤m1*k:=Nat.mul_le_mul_right _ hm;have hfl:=flat_length h2;have e3:cs=rows.flatten++cs.drop (rows.length*k):=by rw[←h6];simp
    have hxs:(cs.drop (m2*k)).take ((rows.length - m1)*k)=((rows.drop m2).take (rows.length - m1)).flatten:=by
      have hdl:(rows.drop m2).flatten.length=(rows.length - m2)*k:=by rw[flat_length (k:=k) (fun r hr=>h2 r (List.mem_of_mem_drop hr)),List.length_drop]
      have hle:(rows.length - m1)*k≤(rows.length - m2)*k:=Nat.mul_le_mul_right _ (by omega);rw[e3,List.drop_append_of_le_length (by rw[hfl];omega),flatten_drop h2,List.take_append_of_le_length (by rw[hdl];exact hle),flatten_take (fun r hr=>h2 r (List.mem_of_mem_drop hr))]
    have hone:oneL ((rows.drop m2).take (rows.length - m1)).flatten=true:=by
      have hd:∀{q:List (List V)} {n:Nat},oneL q.flatten=true→oneL (q.take n).flatten=true∧oneL (q.drop n).flatten=true:=fun {q n} hq=>by
        rw[←List.take_append_drop n q,List.flatten_append,oneL_app,Bool.and_eq_true] at hq;exact hq
      exact(hd (hd ho).2).1
    have hxl:((rows.drop m2).take (rows.length - m1)).flatten.length=(rows.length - m1)*k:=by
      rw[flat_length (k:=k) (fun r hr=>h2 r (List.mem_of_mem_drop (List.mem_of_mem_take hr))),List.length_take,List.length_drop,Nat.min_eq_left (by omega)]
    refine⟨_,.inr ⟨b3,m2*k,cs,rfl,hb,by omega,rfl,by rw[hxs];exact hone⟩,fun e=>absurd e hz,fun _=>⟨b3,m1*k,cs,rfl,hb,by omega,?_⟩⟩;rw[hxs];have hend:=setAt_end (k:=k) (n:=m1*k) (cs:=cs) (xs:=((rows.drop m2).take (rows.length - m1)).flatten) (ys:=(rows.take m1).flatten)
      (by rw[e3,List.take_append_of_le_length (by rw[hfl];omega),flatten_take h2]) (by rw[hxl];omega) (by rw[flat_length (k:=k) (fun r hr=>h2 r (List.mem_of_mem_take hr)),List.length_take,Nat.min_eq_left hm1])
    have hrl:(rows.take m1++(rows.drop m2).take (rows.length - m1)).length=rows.length:=by simp;omega
    refine hk _ ⟨some ⟨b3,0,Option.none⟩,cap,by rw[hrl],by rw[hrl];exact h1,fun r hr=>?_,.inr ⟨b3,_,rfl,Store.set_same _ _ _,by rw[hend.2];exact h5,?_⟩⟩ ⟨fun b' cs' hb' hne=>?_,rfl,fun b' hb' => .inl hb'⟩
    · rcases List.mem_append.1 hr with hr | hr
      · exact h2 r (List.mem_of_mem_take hr)
      · exact h2 r (List.mem_of_mem_drop (List.mem_of_mem_take hr))
    · have e5:=hend.1;rw[hxl] at e5;rw[hrl,←hmk,Nat.add_comm,e5,List.flatten_append]
    · have:b' ≠ b3:=by rintro rfl;exact hne rfl
      rw[Store.set_other _ _ this];exact hb'
end Go.Am

namespace Go.Am
theorem Own.lenL {σ:Store} {k:Nat} {v:V} {rows:List (List V)} {K:V→Prop} (h:Own σ k v rows) (hk:K (.int .i64 rows.length)):lenL v K:=by
  obtain⟨a,cap,rfl,_⟩:=h;exact hk
theorem Own.idxL {σ:Store} {k:Nat} {v:V} {rows:List (List V)} {K:V→Prop} {ik:IntKind} {j:Nat} {c:List V} (h:Own σ k v rows) (hj:rows[j]?=some c)
    (hk:∀b cs rest,ownB v=some b→σ.box b=some cs→cs.drop (j*k)=c++rest→K (.ptr (.out b) (j*k))):idxL k v (.int ik (j:Nat)) K:=by
  have:=h.idx (H:=fun u _=>K u) (i:=ik) (j:=(j:Nat)) (by omega) (by simpa using hj) (fun b cs rest h1 h2 h3=>by
    have:=hk b cs rest h1 h2 (by simpa using h3);simpa using this)
  obtain⟨a,cap,rfl,h1,h2,h3⟩:=h;have hlt:=(List.getElem?_eq_some_iff.1 hj).1
  rcases h3 with h3 | ⟨b,cs,rfl,h4,h5,h6⟩
  · omega
  · exact⟨ik,j,rfl,this.1,this.2.1,this.2.2⟩
theorem Own.slcFrom {σ:Store} {k m:Nat} {v:V} {rows:List (List V)} {K:V→Prop} {i:IntKind} (h:Own σ k v rows) (hm:m≤rows.length)
    (hk:∀v',CutOf σ k v rows m v' → K v'):slcL k v (some (.int i (m:Nat))) Option.none Option.none K:=by
  have:=h.cutFrom (H:=fun u _=>K u) (i:=i) (j:=(m:Nat)) (by omega) (Int.toNat_natCast m) hm hk;obtain⟨a,cap,rfl,h1,h2,h3⟩:=h;have h' : bnd true 0 [V.int i (m:Nat)] fun m vs=>bnd false rows.length vs fun h vs=>bnd false cap vs fun M vs=>vs=[]∧m≤h∧h≤M∧M≤cap∧K (.raw (.slice (if M=m then a else a.map (·.add (m*k))) (h - m) (M - m))):=this
  obtain⟨_,_,g1,g2,_,g4⟩:=h';rw[Int.toNat_natCast] at g1 g4;exact .inr ⟨a,_,cap,m,rows.length,rfl,g1,h1,⟨i,rfl⟩,rfl,rfl,g4⟩
theorem shift_set {α:Type} {l:List α} {z x:α} {k:Nat} (hk:k≤l.length):((l++[z]).take (k+1)++((l++[z]).drop k).take ((l++[z]).length - (k+1))).set k x=l.take k++x::l.drop k:=by
  have e1:∃w,(l++[z]).take (k+1)=l.take k++[w]:=by
    have h:k<(l++[z]).length:=by simp;omega
    exact⟨(l++[z])[k],by rw[List.take_succ_eq_append_getElem h,List.take_append_of_le_length hk]⟩
  obtain⟨w,e1⟩:=e1;have e2:((l++[z]).drop k).take ((l++[z]).length - (k+1))=l.drop k:=by
    rw[List.drop_append_of_le_length hk,List.take_append_of_le_length (by simp),List.take_of_length_le (by simp)]
  have hl:(l.take k).length=k:=by simp;omega
  rw[e1,e2,List.append_assoc,List.set_append_right _ _ (by omega),hl,Nat.sub_self];rfl
def lessI (x:Int):List Int→Nat
  | []=>0
  | y::l=>if y<x then lessI x l+1 else 0
def insI (x:Int) (l:List Int):List Int:=if l[lessI x l]?=some x then l else l.take (lessI x l)++x::l.drop (lessI x l)
def varI (l:List Int) (i:Ins):List Int:=if i.op=1∧0≤i.n then insI i.n l else l
def varsF (l:List Ins):List Int:=l.foldl varI []
theorem lessI_le {x:Int}:∀{l:List Int},lessI x l≤l.length
  | []=>Nat.le_refl _
  | y::l=>by have:=@lessI_le x l;rw[lessI];split<;>simp<;>omega
theorem lessI_lt {x:Int}:∀{l:List Int} {j:Nat},j<lessI x l→∃h:j<l.length,l[j]<x
  | [],j,h=>by simp[lessI] at h
  | y :: l, j, h => by
    rw[lessI] at h;split at h
    · rename_i hy;cases j with
      | zero=>exact⟨by simp,hy⟩
      | succ j =>
        obtain⟨h1,h2⟩:=lessI_lt (x:=x) (l:=l) (j:=j) (by omega);exact⟨by simpa using h1,by simpa using h2⟩
    · omega
theorem lessI_ge {x:Int}:∀{l:List Int} (h:lessI x l<l.length),¬l[lessI x l]<x
  | [],h=>by simp[lessI] at h
  | y :: l, h => by
    by_cases hy:y<x
    · simp only[lessI,if_pos hy,List.length_cons,List.getElem_cons_succ] at h ⊢;exact lessI_ge (by omega)
    · simp only[lessI,if_neg hy,List.getElem_cons_zero];exact hy
theorem varsF_take {l:List Ins} {i:Nat} (hi:i<l.length):varsF (l.take (i+1))=varI (varsF (l.take i)) l[i]:=by
  rw[varsF,List.take_succ_eq_append_getElem hi,List.foldl_append];rfl
theorem varI_len {l:List Int} {i:Ins}:(varI l i).length≤l.length+1:=by
  unfold varI insI;have:=@lessI_le i.n l;split
  · split
    · omega
    · simp;omega
  · omega
theorem varsF_len:∀{l:List Ins},(varsF l).length≤l.length:=by
  intro l;have key:∀(l:List Ins) (o:List Int),(l.foldl varI o).length≤o.length+l.length:=by
    intro l;induction l with
    | nil=>intro o;simp
    | cons i l ih=>intro o;have:=ih (varI o i);have:=@varI_len o i;simp only[List.foldl_cons,List.length_cons];omega
  have:=key l [];rw[List.length_nil,Nat.zero_add] at this;exact this
theorem insI_mem {x y:Int} {l:List Int}:y∈insI x l↔y=x∨y∈l:=by
  unfold insI;split
  · rename_i h;constructor
    · exact .inr
    · rintro (rfl | h')
      · exact List.mem_of_getElem? h
      · exact h'
  · conv=>rhs;rw[←List.take_append_drop (lessI x l) l]
    simp only[List.mem_append,List.mem_cons];constructor
    · rintro (h | h | h)
      · exact .inr (.inl h)
      · exact .inl h
      · exact .inr (.inr h)
    · rintro (h | h | h)
      · exact .inr (.inl h)
      · exact .inl h
      · exact .inr (.inr h)
theorem insI_sorted {x:Int} {l:List Int} (h:l.Pairwise (·<·)):(insI x l).Pairwise (·<·):=by
  unfold insI;split
  · exact h
  · rename_i hne;have h1:∀y∈l.take (lessI x l),y<x:=fun y hy=>by
      obtain⟨j,hj,rfl⟩:=List.mem_iff_getElem.1 hy;have hj' : j<lessI x l:=by simp at hj;omega
      obtain⟨q,hq⟩:=lessI_lt hj';simpa using hq
    have h2:∀y∈l.drop (lessI x l),x<y:=fun y hy=>by
      obtain⟨j,hj,rfl⟩:=List.mem_iff_getElem.1 hy;simp at hj;have hk:lessI x l<l.length:=by omega
      have g1:=lessI_ge hk;have g2:l[lessI x l]≠x:=fun e=>hne (by rw[List.getElem?_eq_getElem hk,e])
      rw[List.getElem_drop]
      by_cases hj0:j=0
      · subst hj0;simp only[Nat.add_zero];omega
      · have:=List.pairwise_iff_getElem.1 h (lessI x l) (lessI x l+j) hk (by omega) (by omega);omega
    rw[←List.take_append_drop (lessI x l) l,List.pairwise_append] at h;rw[List.pairwise_append,List.pairwise_cons];refine⟨h.1,⟨h2,h.2.1⟩,fun a ha b hb=>?_⟩
    rcases List.mem_cons.1 hb with rfl | hb
    · exact h1 a ha
    · exact h.2.2 a ha b hb
theorem varsF_spec {l:List Ins}:(varsF l).Pairwise (·<·)∧∀y,y∈varsF l↔∃i∈l,i.op=1∧0≤i.n∧y=i.n:=by
  have key:∀(l:List Ins) (o:List Int),o.Pairwise (·<·)→(l.foldl varI o).Pairwise (·<·)∧∀y,y∈l.foldl varI o↔y∈o∨∃i∈l,i.op=1∧0≤i.n∧y=i.n:=by
    intro l;induction l with
    | nil=>intro o ho;simpa using ho
    | cons i l ih =>
      intro o ho;have hv:(varI o i).Pairwise (·<·):=by unfold varI;split;exact insI_sorted ho;exact ho
      obtain⟨g1,g2⟩:=ih _ hv;refine⟨g1,fun y=>?_⟩;rw[List.foldl_cons,g2,varI];split
      · rename_i h;rw[insI_mem];simp only[List.mem_cons,exists_eq_or_imp];constructor
        · rintro ((rfl | h1) | h1)
          · exact .inr (.inl ⟨h.1,h.2,rfl⟩)
          · exact .inl h1
          · exact .inr (.inr h1)
        · rintro (h1 | ⟨_,_,rfl⟩ | h1)
          · exact .inl (.inr h1)
          · exact .inl (.inl rfl)
          · exact .inr h1
      · rename_i h;simp only[List.mem_cons,exists_eq_or_imp];constructor
        · rintro (h1 | h1)
          · exact .inl h1
          · exact .inr (.inr h1)
        · rintro (h1 | ⟨a,b,_⟩ | h1)
          · exact .inl h1
          · exact absurd ⟨a,b⟩ h
          · exact .inr h1
  obtain⟨g1,g2⟩:=key l [] (by simp);exact⟨g1,fun y=>by rw[varsF,g2];simp⟩
end Go.Am

namespace Go.Am
theorem subB_refl {a:B64}:subB a a=true:=subB_iff.2 fun _ h=>h
section
variable {r:Rl} {i j k:Nat}
theorem below_sub (ho:orderR r=true) (hi:i<pts r):subB (belowH r i) (belowH r j)=true↔hsR r i j=true:=by
  simp only[orderR,Bool.and_eq_true] at ho;obtain⟨hr,tr⟩:=closedR_iff.1 ho.1;rw[subB_iff];simp only[belowH_get];exact⟨fun h=>h i (hr i hi),fun h k hk=>tr _ _ _ hk h⟩
theorem raise_ge {u v:B64} (hl:latH r=true) (hu:(pointH r u).isSome=true) (hv:(pointH r v).isSome=true):subB u (raiseH r u v)=true:=by
  obtain⟨hp,ho⟩:=lat_pts hl;obtain⟨i,hi⟩:=Option.isSome_iff_exists.1 hu;obtain⟨j,hj⟩:=Option.isSome_iff_exists.1 hv;obtain⟨i1,rfl⟩:=pointH_some hi;obtain⟨j1,rfl⟩:=pointH_some hj;obtain⟨a,ha⟩:=Option.ne_none_iff_exists'.1 (joinH_all hl i1 j1 hp);rw[raiseH_points ho i1 j1 ha,below_sub ho i1];exact(joinH_some ha).1
theorem raise_mono {u v u' v' : B64} (hl:latH r=true) (hu:(pointH r u).isSome=true) (hv:(pointH r v).isSome=true) (hu' : (pointH r u').isSome=true) (hv' : (pointH r v').isSome=true)
    (h1:subB u u' = true) (h2:subB v v' = true):subB (raiseH r u v) (raiseH r u' v')=true:=by
  obtain⟨hp,ho⟩:=lat_pts hl;obtain⟨i,hi⟩:=Option.isSome_iff_exists.1 hu;obtain⟨j,hj⟩:=Option.isSome_iff_exists.1 hv;obtain⟨i',hi'⟩:=Option.isSome_iff_exists.1 hu';obtain⟨j',hj'⟩:=Option.isSome_iff_exists.1 hv';obtain⟨i1,rfl⟩:=pointH_some hi;obtain⟨j1,rfl⟩:=pointH_some hj;obtain⟨i2,rfl⟩:=pointH_some hi';obtain⟨j2,rfl⟩:=pointH_some hj';obtain⟨a,ha⟩:=Option.ne_none_iff_exists'.1 (joinH_all hl i1 j1 hp);obtain⟨b,hb⟩:=Option.ne_none_iff_exists'.1 (joinH_all hl i2 j2 hp);obtain⟨a1,a2,a3⟩:=joinH_some ha;obtain⟨b1,b2,b3⟩:=joinH_some hb;rw[below_sub ho i1] at h1;rw[below_sub ho j1] at h2;rw[raiseH_points ho i1 j1 ha,raiseH_points ho i2 j2 hb,below_sub ho (hsR_lt a1).2];simp only[orderR,Bool.and_eq_true] at ho;have tr:=(closedR_iff.1 ho.1).2;exact a3 b (tr _ _ _ h1 b1) (tr _ _ _ h2 b2)
end
section
variable {f:Fct} {a b a' b' : B64}
theorem or_mono (h1:subB a a' = true) (h2:subB b b' = true):subB (a|||b) (a' ||| b')=true:=by
  rw[subB_iff] at h1 h2 ⊢;intro k hk;rw[BitVec.getLsbD_or,Bool.or_eq_true] at hk ⊢;exact hk.imp (h1 k) (h2 k)
theorem and_mono (h1:subB a a' = true) (h2:subB b b' = true):subB (a&&&b) (a' &&& b')=true:=by
  rw[subB_iff] at h1 h2 ⊢;intro k hk;rw[BitVec.getLsbD_and,Bool.and_eq_true] at hk ⊢;exact⟨h1 k hk.1,h2 k hk.2⟩
theorem or_ge:subB a (a|||b)=true:=by
  rw[subB_iff];intro k hk;rw[BitVec.getLsbD_or,hk];rfl
theorem kind4 (hf:facR f=true) (h4:f.kind=4):latH f.rel=true:=by
  rcases (facR_kinds hf).2 with hk | hk | hk | hk
  · omega
  · omega
  · omega
  · exact hk.2.1
theorem joinW_ge (hf:facR f=true) (ha:wordF f a=true) (hb:wordF f b=true):subB a (joinW f a b)=true:=by
  by_cases h4:f.kind=4
  · simp only[wordF,h4,Int.reduceEq,if_false] at ha hb;simp only[joinW,h4,if_true];exact raise_ge (kind4 hf h4) ha hb
  · simp only[joinW,h4,if_false];exact or_ge
theorem joinW_mono (hf:facR f=true) (ha:wordF f a=true) (hb:wordF f b=true) (ha' : wordF f a' = true) (hb' : wordF f b' = true) (h1:subB a a' = true) (h2:subB b b' = true):subB (joinW f a b) (joinW f a' b')=true:=by
  by_cases h4:f.kind=4
  · simp only[wordF,h4,Int.reduceEq,if_false] at ha hb ha' hb';simp only[joinW,h4,if_true];exact raise_mono (kind4 hf h4) ha hb ha' hb' h1 h2
  · simp only[joinW,h4,if_false];exact or_mono h1 h2
end
section
variable {s:Shp} {a b a' b' : Elm}
theorem leqE_iff:leqE a b=true↔∀i,i<8→subB (a.get i) (b.get i)=true:=by
  simp only[leqE,List.all_eq_true,List.mem_range]
theorem leqE_refl:leqE a a=true:=leqE_iff.2 fun _ _=>subB_refl
theorem joinE_get {i:Nat} (hi:i<8):(joinE s a b).get i=match s.facs[i]? with | some f=>joinW f (a.get i) (b.get i) | none=>a.get i|||b.get i:=by
  rw[joinE,Elm.get_of hi,joinF];cases s.facs[i]?<;>rfl
theorem joinE_ge (ha:fitsE s a=true) (hb:fitsE s b=true):leqE a (joinE s a b)=true:=by
  rw[fits_iff] at ha hb;refine leqE_iff.2 fun i hi=>?_
  have h1:=ha.2 i hi;have h2:=hb.2 i hi;rw[joinE_get hi];unfold fitF at h1 h2;cases hf:s.facs[i]? with
  | none=>exact or_ge
  | some f=>rw[hf] at h1 h2;exact joinW_ge (shpR_fac ha.1 hf) h1 h2
theorem joinE_mono (ha:fitsE s a=true) (hb:fitsE s b=true) (ha' : fitsE s a' = true) (hb' : fitsE s b' = true) (h1:leqE a a' = true) (h2:leqE b b' = true):leqE (joinE s a b) (joinE s a' b')=true:=by
  rw[fits_iff] at ha hb ha' hb';rw[leqE_iff] at h1 h2 ⊢;intro i hi;have k1:=ha.2 i hi;have k2:=hb.2 i hi;have k3:=ha'.2 i hi;have k4:=hb'.2 i hi;rw[joinE_get hi,joinE_get hi];unfold fitF at k1 k2 k3 k4;cases hf:s.facs[i]? with
  | none=>exact or_mono (h1 i hi) (h2 i hi)
  | some f=>rw[hf] at k1 k2 k3 k4;exact joinW_mono (shpR_fac ha.1 hf) k1 k2 k3 k4 (h1 i hi) (h2 i hi)
theorem meetE_mono (h1:leqE a a' = true) (h2:leqE b b' = true):leqE (meetE a b) (meetE a' b')=true:=by
  rw[leqE_iff] at h1 h2 ⊢;intro i hi;rw[meetE,Elm.get_of hi,meetE,Elm.get_of hi];exact and_mono (h1 i hi) (h2 i hi)
theorem opE_mono {k:Int} (ha:fitsE s a=true) (hb:fitsE s b=true) (ha' : fitsE s a' = true) (hb' : fitsE s b' = true) (h1:leqE a a' = true) (h2:leqE b b' = true):leqE (opE s k a b) (opE s k a' b')=true:=by
  unfold opE;split
  · exact joinE_mono ha hb ha' hb' h1 h2
  · exact meetE_mono h1 h2
theorem opE_fits {k:Int} (ha:fitsE s a=true) (hb:fitsE s b=true):fitsE s (opE s k a b)=true:=by
  unfold opE;split
  · exact fits_join ha hb
  · exact fits_meet ha hb
end
section
variable {s:Scp} {lat:Nat} {v w:List Elm}
theorem foldl_mono {s:Shp} {k:Int} {α:Type} {f g:α→Elm}:∀(l:List α) (x y:Elm),fitsE s x=true→fitsE s y=true→leqE x y=true→(∀z∈l,fitsE s (f z)=true∧fitsE s (g z)=true∧leqE (f z) (g z)=true) →
    leqE ((l.map f).foldl (opE s k) x) ((l.map g).foldl (opE s k) y)=true
  | [],_,_,_,_,h,_=>h
  | z :: l, x, y, hx, hy, h, hl => by
    obtain⟨h1,h2,h3⟩:=hl z (by simp);exact foldl_mono l _ _ (opE_fits hx h1) (opE_fits hy h2) (opE_mono hx h1 hy h2 h h3) fun u hu=>hl u (by simp[hu])
mutual
theorem mean_mono (hv:v.length=s.vars.length) (hw:w.length=s.vars.length) (hf:∀e∈v,fitsE (shapeF s lat) e=true) (hg:∀e∈w,fitsE (shapeF s lat) e=true) (hle:∀i,leqE (v.getD i .zero) (w.getD i .zero)=true) :
    ∀(n:Nd) {c:List Ins},n.labelQ=true→compF s lat n=some c→leqE (meanF s lat v n) (meanF s lat w n)=true
  | .mk k p t ws ks, c, hq, h => by
    rw[compF] at h;rw[meanF,meanF]
    by_cases h1:k=1
    · rw[if_pos h1,if_pos h1];exact hle _
    · rw[if_neg h1,if_neg h1]
      by_cases h7:k=7
      · rw[if_pos h7,if_pos h7];exact leqE_refl
      · rw[if_neg h7,if_neg h7];rw[if_neg (by omega)] at h;simp only[Option.map_eq_some_iff] at h;obtain⟨m,hm,rfl⟩:=h;obtain⟨h0,hall⟩:=label_rest hq (by omega);obtain⟨_,f1⟩:=mean_sameL hv hf ks hall hm;obtain⟨_,f2⟩:=mean_sameL hw hg ks hall hm;have h3:=mean_monoL hv hw hf hg hle ks hall hm;rw[meanL_map] at f1 f2 ⊢;rw[meanL_map];cases ks with
        | nil=>simp at h0
        | cons x ks =>
          simp only[List.map_cons,List.forall_mem_cons,List.mem_map,forall_exists_index,and_imp,forall_apply_eq_imp_iff₂] at f1 f2 h3;simp only[List.map_cons,foldM];exact foldl_mono ks _ _ f1.1 f2.1 h3.1 fun z hz=>⟨f1.2 z hz,f2.2 z hz,h3.2 z hz⟩
theorem mean_monoL (hv:v.length=s.vars.length) (hw:w.length=s.vars.length) (hf:∀e∈v,fitsE (shapeF s lat) e=true) (hg:∀e∈w,fitsE (shapeF s lat) e=true) (hle:∀i,leqE (v.getD i .zero) (w.getD i .zero)=true) :
    ∀(ks:List Nd) {c:List Ins},(∀x∈ks,x.labelQ=true)→compL s lat ks=some c→∀z∈ks,leqE (meanF s lat v z) (meanF s lat w z)=true
  | [],_,_,_=>by simp
  | n :: ns, c, hq, h => by
    rw[compL] at h;cases hn:compF s lat n with
    | none=>rw[hn] at h;simp at h
    | some a =>
      rw[hn] at h;simp only[Option.map_eq_some_iff] at h;obtain⟨b,hb,rfl⟩:=h;intro z hz
      rcases List.mem_cons.1 hz with e | hz
      · rw[e];exact mean_mono hv hw hf hg hle n (hq n (by simp)) hn
      · exact mean_monoL hv hw hf hg hle ns (fun x hx=>hq x (by simp[hx])) hb z hz
end
mutual
theorem mean_agree:∀(n:Nd) {c:List Ins},n.labelQ=true→compF s lat n=some c→(∀i∈c,i.op=1→v.getD i.n.toNat .zero=w.getD i.n.toNat .zero)→meanF s lat v n=meanF s lat w n
  | .mk k p t ws ks, c, hq, h, ha => by
    rw[compF] at h;rw[meanF,meanF]
    by_cases h1:k=1
    · rw[if_pos h1,if_pos h1];rw[if_pos (.inl h1)] at h;simp only[Option.map_eq_some_iff] at h;obtain⟨i,hi,rfl⟩:=h
      rcases leaf_op hi with ⟨_,j,hj,rfl⟩ | ⟨e,_⟩
      · have hj:findV s.vars t=some j:=hj;have:=ha ⟨1,(j:Nat),.zero⟩ (by simp) rfl;rw[hj];simpa using this
      · exact absurd h1 e
    · rw[if_neg h1,if_neg h1]
      by_cases h7:k=7
      · rw[if_pos h7,if_pos h7]
      · rw[if_neg h7,if_neg h7];rw[if_neg (by omega)] at h;simp only[Option.map_eq_some_iff] at h;obtain⟨m,hm,rfl⟩:=h;obtain⟨h0,hall⟩:=label_rest hq (by omega);rw[mean_agreeL ks hall hm fun i hi=>ha i (by simp[hi])]
theorem mean_agreeL:∀(ks:List Nd) {c:List Ins},(∀x∈ks,x.labelQ=true)→compL s lat ks=some c→(∀i∈c,i.op=1→v.getD i.n.toNat .zero=w.getD i.n.toNat .zero)→meanL s lat v ks=meanL s lat w ks
  | [],_,_,_,_=>by rw[meanL,meanL]
  | n :: ns, c, hq, h, ha => by
    rw[compL] at h;cases hn:compF s lat n with
    | none=>rw[hn] at h;simp at h
    | some a =>
      rw[hn] at h;simp only[Option.map_eq_some_iff] at h;obtain⟨b,hb,rfl⟩:=h;rw[meanL,meanL,mean_agree n (hq n (by simp)) hn fun i hi=>ha i (by simp[hi]),mean_agreeL ns (fun x hx=>hq x (by simp[hx])) hb fun i hi=>ha i (by simp[hi])]
end
mutual
theorem comp_nn:∀(n:Nd) {c:List Ins},n.labelQ=true→compF s lat n=some c→∀i∈c,i.op=1→∃j:Nat,i.n=j
  | .mk k p t ws ks, c, hq, h => by
    rw[compF] at h;split at h
    · simp only[Option.map_eq_some_iff] at h;obtain⟨i,hi,rfl⟩:=h;intro x hx hop;rw[List.mem_singleton.1 hx] at hop ⊢
      rcases leaf_op hi with ⟨_,j,hj,rfl⟩ | ⟨_,_,rfl⟩
      · exact⟨j,rfl⟩
      · simp at hop
    · rename_i h17;simp only[Option.map_eq_some_iff] at h;obtain⟨m,hm,rfl⟩:=h;obtain⟨h0,hall⟩:=label_rest hq h17;intro x hx hop
      rcases List.mem_append.1 hx with hx | hx
      · exact comp_nnL ks hall hm x hx hop
      · rw[List.mem_singleton.1 hx,opF] at hop;simp only at hop;split at hop<;>simp at hop
theorem comp_nnL:∀(ks:List Nd) {c:List Ins},(∀x∈ks,x.labelQ=true)→compL s lat ks=some c→∀i∈c,i.op=1→∃j:Nat,i.n=j
  | [],c,_,h=>by rw[compL] at h;cases h;simp
  | n :: ns, c, hq, h => by
    rw[compL] at h;cases hn:compF s lat n with
    | none=>rw[hn] at h;simp at h
    | some a =>
      rw[hn] at h;simp only[Option.map_eq_some_iff] at h;obtain⟨b,hb,rfl⟩:=h;intro x hx hop
      rcases List.mem_append.1 hx with hx | hx
      · exact comp_nn n (hq n (by simp)) hn x hx hop
      · exact comp_nnL ns (fun x hx=>hq x (by simp[hx])) hb x hx hop
end
def mostF (s:Shp) (v w:List Elm) (n:Nat):List Elm:=(List.range n).map fun i=>joinE s (v.getD i .zero) (w.getD i .zero)
def someF (l:List Ins) (v w:List Elm) (n:Nat):List Elm:=(List.range n).map fun i=>if hasB (ofB (varsF l)) (i:Nat) then v.getD i .zero else w.getD i .zero
theorem range_map_succ {α:Type} {f:Nat→α} {n:Nat}:(List.range (n+1)).map f=(List.range n).map f++[f n]:=by rw[List.range_succ,List.map_append];rfl
theorem rises (hv:v.length=s.vars.length) (hw:w.length=s.vars.length) (h64:s.vars.length≤64) (hf:∀e∈v,fitsE (shapeF s lat) e=true) (hg:∀e∈w,fitsE (shapeF s lat) e=true)
    {n:Nd} {l:List Ins} (hq:n.labelQ=true) (h:compF s lat n=some l) :
    ∃a b,evalF (shapeF s lat) l v=some a∧evalF (shapeF s lat) l (mostF (shapeF s lat) v w v.length)=some b∧evalF (shapeF s lat) l (someF l v w v.length)=some a∧leqE a b=true:=by
  have gv:∀i,i<s.vars.length→fitsE (shapeF s lat) (v.getD i .zero)=true:=fun i hi=>by rw[getD_at (by omega)];exact hf _ (List.getElem_mem _)
  have gw:∀i,i<s.vars.length→fitsE (shapeF s lat) (w.getD i .zero)=true:=fun i hi=>by rw[getD_at (by omega)];exact hg _ (List.getElem_mem _)
  have hm:∀e∈mostF (shapeF s lat) v w v.length,fitsE (shapeF s lat) e=true:=fun e he=>by
    obtain⟨i,hi,rfl⟩:=List.mem_map.1 he;have hi:=List.mem_range.1 hi;exact fits_join (gv i (by omega)) (gw i (by omega))
  have hs:∀e∈someF l v w v.length,fitsE (shapeF s lat) e=true:=fun e he=>by
    obtain⟨i,hi,rfl⟩:=List.mem_map.1 he;have hi:=List.mem_range.1 hi;split
    · exact gv i (by omega)
    · exact gw i (by omega)
  have lm:(mostF (shapeF s lat) v w v.length).length=s.vars.length:=by simp[mostF,hv]
  have ls:(someF l v w v.length).length=s.vars.length:=by simp[someF,hv]
  obtain⟨e1,f1⟩:=eval_means hv hf hq h;obtain⟨e2,f2⟩:=eval_means lm hm hq h;obtain⟨e3,f3⟩:=eval_means ls hs hq h;refine⟨_,_,e1,e2,?_,mean_mono hv lm hf hm (fun i=>?_) n hq h⟩
  · rw[e3,mean_agree (v:=v) (w:=someF l v w v.length) n hq h fun i hi hop=>?_]
    by_cases hlt:i.n.toNat<v.length
    · rw[getD_at (l:=someF l v w v.length) (by rw[ls];omega)];simp only[someF,List.getElem_map,List.getElem_range];split
      · rfl
      · rename_i hno
        by_cases hn:0≤i.n
        · refine absurd ?_ hno;have hmem:i.n∈varsF l:=varsF_spec.2 _ |>.2 ⟨i,hi,hop,hn,rfl⟩;rw[hasB_nat,ofB_get,decide_eq_true (by omega),decide_eq_true (by rw[Int.toNat_of_nonneg hn];exact hmem)];rfl
        · exfalso
          have:∃j:Nat,i.n=j:=by
            exact comp_nn n hq h i hi hop
          omega
    · have e4:∀u:List Elm,u.length=s.vars.length→u.getD i.n.toNat .zero = .zero:=fun u hu=>by simp[List.getD,List.getElem?_eq_none (show u.length≤i.n.toNat by omega)]
      rw[e4 v hv,e4 _ ls]
  · by_cases hi:i<s.vars.length
    · rw[getD_at (l:=mostF (shapeF s lat) v w v.length) (by rw[lm];omega)];simp only[mostF,List.getElem_map,List.getElem_range];exact joinE_ge (gv i hi) (gw i hi)
    · have e4:∀u:List Elm,u.length=s.vars.length→u.getD i .zero = .zero:=fun u hu=>by simp[List.getD,List.getElem?_eq_none (show u.length≤i by omega)]
      rw[e4 v hv,e4 _ lm];exact leqE_refl
end
end Go.Am

namespace Go.Am
def delta (l:List Tok) (i:Nat):Int:=(if closing (kindAt l i)≠0 then 1 else 0) - (if closesZ (kindAt l i)=true then 1 else 0)
theorem partnerF_succ {l:List Tok} {x n i:Nat} {d:Int}:partnerF l x (n+1) i d=if d+delta l i=0 then i else partnerF l x n (i+1) (d+delta l i):=by
  simp only[partnerF,delta];have e:d+(if closing (kindAt l i)≠0 then 1 else 0) - (if closesZ (kindAt l i)=true then 1 else 0)=d+((if closing (kindAt l i)≠0 then 1 else 0) - (if closesZ (kindAt l i)=true then 1 else 0)):=by omega
  rw[e];rfl
theorem delta_ge (l:List Tok) (i:Nat) : -1≤delta l i:=by unfold delta;split<;>split<;>omega
theorem partnerF_rng {l:List Tok} {x:Nat}:∀(n i:Nat) (d:Int),partnerF l x n i d=x∨i≤partnerF l x n i d
  | 0,_,_=>.inl rfl
  | n + 1, i, d => by
    rw[partnerF_succ];split
    · exact .inr (Nat.le_refl _)
    · rcases partnerF_rng n (i+1) (d+delta l i) with h | h
      · exact .inl h
      · exact .inr (by omega)
theorem less {l:List Tok} {x y:Nat}:∀(n p:Nat) (a b:Int),1≤a→a<b→y<p→x<p→p≤partnerF l x n p b→partnerF l y n p a<partnerF l x n p b
  | 0,p,a,b,_,_,_,hx,h=>by simp only[partnerF] at h;omega
  | n + 1, p, a, b, ha, hb, hy, hx, h => by
    have hd:=delta_ge l p;simp only[partnerF_succ] at h ⊢;rw[if_neg (show ¬b+delta l p=0 by omega)] at h ⊢;have h2:p+1≤partnerF l x n (p+1) (b+delta l p):=by rcases partnerF_rng (l:=l) (x:=x) n (p+1) (b+delta l p) with e | e<;>omega
    split
    · omega
    · exact less n (p+1) _ _ (by omega) (by omega) (by omega) (by omega) h2
def Within (l:List Tok) (i to:Nat):Prop:=∀j,i≤j→j<to→closing (kindAt l j)≠0→partner l j<to
def TokOk (t:Tok):Prop:=(t.kind=97∧nameR t.text=true)∨(t.kind≠97∧t.text=[UInt8.ofNat t.kind.toNat])
mutual
def Tree.Good:Tree→Prop
  | .mk t ks _=>TokOk t∧(closing t.kind=0→ks=[])∧Goods ks
def Goods:List Tree→Prop
  | []=>True
  | t::ts=>t.Good∧Goods ts
end
theorem goods_append:∀{a b:List Tree},Goods (a++b)↔Goods a∧Goods b
  | [],b=>by simp[Goods]
  | t::ts,b=>by simp only[List.cons_append,Goods,goods_append (a:=ts),and_assoc]
end Go.Am

namespace Go.Am
structure Eats (r r' : Rdr) (seg:List Tree):Prop where
  ex:∃pre post,r.l=pre++seg++post∧r.at_=(pre.length:Nat)∧r'.at_=((pre++seg).length:Nat)
  l:r'.l=r.l
  b:r.bad=none
  b' : r'.bad=none
theorem Eats.trans {r r' r'' : Rdr} {a b:List Tree} (h:Eats r r' a) (k:Eats r' r'' b):Eats r r'' (a++b):=by
  obtain⟨pre,post,e1,e2,e3⟩:=h.ex;obtain⟨pre',post',f1,f2,f3⟩:=k.ex;refine⟨⟨pre,post',?_,e2,?_⟩,k.l.trans h.l,h.b,k.b'⟩
  · have hl:(pre++a).length=pre'.length:=by omega
    have:pre++a++post=pre' ++ (b++post'):=by rw[←e1,←h.l,f1,List.append_assoc]
    obtain⟨g1,g2⟩:=List.append_inj this hl;rw[e1,g2];simp
  · rw[f3];have hl:(pre++a).length=pre'.length:=by omega
    simp only[List.length_append] at hl ⊢;omega
theorem Eats.good {r r' : Rdr} {a:List Tree} (h:Eats r r' a) (hg:Goods r.l):Goods a:=by
  obtain⟨pre,post,e1,_,_⟩:=h.ex;rw[e1,goods_append,goods_append] at hg;exact hg.1.2
def szs (l:List Tree):Nat:=26*manys l
section
variable {β:Type} {one:Rdr→β × Rdr} {T:β→List UInt8} {Q:β→Prop} {S:β→Nat}
structure Has (T:β→List UInt8) (Q:β→Prop) (S:β→Nat) (seg:List Tree) (xs:List β):Prop where
  t:textR (flats seg)=joinC (xs.map T)
  q:∀x∈xs,Q x
  s:(xs.map S).sum≤szs seg
  n:0<xs.length
end
end Go.Am

namespace Go.Am
def SN (n:Nd):Nat:=n.wt+1
end Go.Am

namespace Go.Am
end Go.Am

namespace Go.Am
abbrev Sh:=Int × List UInt8
def Tok.sh (t:Tok):Sh:=(t.kind,t.text)
def LexTo (s:List UInt8) (ks:List Sh):Prop:=∀(n p:Nat) (acc:List Tok),s.length≤n→∃toks,lexF n p s acc=(acc++toks,none)∧toks.map Tok.sh=ks
def Stop:List UInt8→Prop
  | []=>True
  | c::_=>goesB c=false
def LexN (tx:List UInt8) (sh:List Sh):Prop:=∀s ks,Stop s→LexTo s ks→LexTo (tx++s) (sh++ks)
def LexS (tx:List UInt8) (sh:List Sh):Prop:=∀s ks,LexTo s ks→LexTo (tx++s) (sh++ks)
theorem LexS.n {t:List UInt8} {k:List Sh} (h:LexS t k):LexN t k:=fun s ks _ hl=>h s ks hl
theorem LexS.app {a b:List UInt8} {x y:List Sh} (h:LexS a x) (k:LexS b y):LexS (a++b) (x++y):=fun s ks hl=>by
  rw[List.append_assoc,List.append_assoc];exact h _ _ (k _ _ hl)
end Go.Am

namespace Go.Am
end Go.Am

namespace Go.Am
end Go.Am

namespace Go.Am
def Tk.ok (σ0 σ:Store) (n:Nat):Tk→Prop
  | .full=>True
  | .tk τ=>σ0.tip τ=none∧σ.tip τ=some n
  | .no=>False
def Tk.name:Tk→Option Nat
  | .tk τ=>some τ
  | _=>none
def Toks (σ0 σ:Store) (L:List (Tk × Nat)):Prop:=σ0.sub σ∧(∀p∈L,p.1.ok σ0 σ p.2)∧(L.filterMap fun p=>p.1.name).Nodup
theorem Toks.init {σ:Store} {L:List (Tk × Nat)} (h:∀p∈L,p.1 = .full):Toks σ σ L:=by
  refine⟨Store.sub_refl σ,fun p hp=>by rw[h p hp];trivial,?_⟩;have:L.filterMap (fun p=>p.1.name)=[]:=by
    rw[List.filterMap_eq_nil_iff];intro p hp;rw[h p hp];rfl
  rw[this];exact List.nodup_nil
theorem Toks.perm {σ0 σ:Store} {L L' : List (Tk × Nat)} (h:Toks σ0 σ L) (hp:L.Perm L'):Toks σ0 σ L' :=
  ⟨h.1,fun p hm=>h.2.1 p (hp.mem_iff.2 hm),(hp.filterMap _).nodup_iff.1 h.2.2⟩
theorem Toks.tail {σ0 σ:Store} {p:Tk × Nat} {L:List (Tk × Nat)} (h:Toks σ0 σ (p::L)):Toks σ0 σ L:=by
  refine⟨h.1,fun q hq=>h.2.1 q (by simp[hq]),?_⟩;have:=h.2.2;simp only[List.filterMap_cons] at this;split at this
  · exact this
  · exact(List.nodup_cons.1 this).2
theorem Toks.full {σ0 σ:Store} {n:Nat} {L:List (Tk × Nat)} (h:Toks σ0 σ L):Toks σ0 σ ((.full,n)::L) :=
  ⟨h.1,fun q hq=>by rcases List.mem_cons.1 hq with rfl | hq;exact trivial;exact h.2.1 q hq,by simpa [List.filterMap_cons,Tk.name] using h.2.2⟩
theorem Toks.put {σ0 σ:Store} {tk:Tk} {n m τ:Nat} {L:List (Tk × Nat)} (h:Toks σ0 σ ((tk,n)::L)) (h0:σ0.tip τ=none) (ht:tk = .tk τ∨σ.tip τ=none):Toks σ0 (σ.setTip τ m) ((.tk τ,m)::L):=by
  have hnm:τ∉L.filterMap fun p=>p.1.name:=fun hm=>by
    obtain⟨⟨t,k⟩,hq,hn⟩:=List.mem_filterMap.1 hm;cases t with
    | no=>simp[Tk.name] at hn
    | full=>simp[Tk.name] at hn
    | tk υ =>
      simp only[Tk.name,Option.some.injEq] at hn;subst hn
      rcases ht with rfl | ht
      · have:=h.2.2;simp only[List.filterMap_cons,Tk.name] at this;exact(List.nodup_cons.1 this).1 hm
      · have:=(h.2.1 (.tk υ,k) (by simp[hq])).2;rw[ht] at this;simp at this
  refine⟨⟨h.1.1,fun t k hk=>?_⟩,fun p hp=>?_,?_⟩
  · have hne:t≠τ:=by rintro rfl;rw[h0] at hk;simp at hk
    simp only[Store.setTip,if_neg hne];exact h.1.2 t k hk
  · rcases List.mem_cons.1 hp with rfl | hp2
    · exact⟨h0,by simp[Store.setTip]⟩
    · have:=h.2.1 p (by simp[hp2]);obtain⟨t,k⟩:=p;cases t with
      | no=>exact this
      | full=>trivial
      | tk υ =>
        have hne:υ≠τ:=by rintro rfl;exact hnm (List.mem_filterMap.2 ⟨(.tk υ,k),hp2,rfl⟩)
        exact⟨this.1,by simp only[Store.setTip,if_neg hne];exact this.2⟩
  · simp only[List.filterMap_cons,Tk.name];exact List.nodup_cons.2 ⟨hnm,h.tail.2.2⟩
theorem Toks.fresh {σ0 σ:Store} {L:List (Tk × Nat)} (h:Toks σ0 σ L) {τ:Nat} (ht:σ.tip τ=none):σ0.tip τ=none:=by
  cases hq:σ0.tip τ with
  | none=>rfl
  | some n=>rw[h.1.2 τ n hq] at ht;simp at ht
theorem app_any {σ0 σ:Store} {tk u:Tk} {k:Nat} {m n:List (List V)} {K:V→Store→Prop} {L:List (Tk × Nat)} (h:Toks σ0 σ ((tk,m.length)::L)) (hb:m.length+n.length≤big)
    (hk:∀τ,Toks σ0 (σ.setTip τ (m.length+n.length)) ((.tk τ,m.length+n.length)::L)→K (.sl (.tk τ) k (m++n)) (σ.setTip τ (m.length+n.length))):AppOk σ k (.sl tk k m) (.sl u k n) K:=by
  have hh:=h.2.1 (tk,m.length) (by simp);cases tk with
  | no=>exact hh.elim
  | full=>exact app_full hb fun τ hτ=>hk τ (h.put (h.fresh hτ) (.inr hτ))
  | tk τ=>exact app_tk hb hh.2 (hk τ (h.put hh.1 (.inl rfl)))
end Go.Am
