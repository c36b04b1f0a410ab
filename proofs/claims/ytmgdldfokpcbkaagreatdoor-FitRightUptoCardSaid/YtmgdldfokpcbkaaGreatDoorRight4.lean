/-
  Part 4 of the proof of FitRightUptoCardSaid: a logic over the model, the forms of the functions that the law reaches, and what they compute.
-/
import Derived.Test.YtmgdldfokpcbkaaGreatDoorRight3
set_option linter.unusedVariables false
set_option linter.unusedSimpArgs false
set_option linter.defProp false
set_option linter.unusedSectionVars false

namespace Go.Am
def wenc (τ:Nat) (l:List Flt) (s:Scp) (lat p:Int):List V:=[.sl (.tk τ) 2 (l.map Flt.enc),.sl .no 3 (s.lats.map Ltc.enc),.sl .no 3 (s.vars.map Vrb.enc),.int .i64 lat,.int .i64 p]
def wput (σ:Store) (b τ:Nat) (l:List Flt) (s:Scp) (lat p:Int):Store:=(σ.set b (wenc τ l s lat p)).setTip τ l.length
section
variable {σ:Store} {b b' τ n:Nat} {l:List Flt} {s:Scp} {lat lat' p x y:Int} {c:List V}
theorem wput_box:(wput σ b τ l s lat p).box b=some (wenc τ l s lat p):=by simp[wput,Store.set,Store.setTip]
theorem wput_ne (h:b' ≠ b):(wput σ b τ l s lat p).box b' = σ.box b' := by simp[wput,Store.set,Store.setTip,h]
theorem wput_tip:(wput σ b τ l s lat p).tip τ=some l.length:=by simp[wput,Store.set,Store.setTip]
theorem wput_setne (h:b' ≠ b):(wput σ b τ l s lat p).set b' c=wput (σ.set b' c) b τ l s lat p:=by
  simp only[wput,Store.set,Store.setTip,Store.mk.injEq,and_true];funext z
  by_cases h1:z=b'
  · subst h1;simp[h]
  · simp[h1]
theorem wput_lat:(wput σ b τ l s lat p).set b [.sl (.tk τ) 2 (l.map Flt.enc),.sl .no 3 (s.lats.map Ltc.enc),.sl .no 3 (s.vars.map Vrb.enc),.int .i64 x,.int .i64 p]=wput σ b τ l s x p:=by
  simp only[wput,wenc,Store.set,Store.setTip,Store.mk.injEq,and_true];funext z
  by_cases h1:z=b<;>simp[h1]
theorem wput_app:((wput σ b τ l s lat p).setTip τ (l.length+1)).set b [.sl (.tk τ) 2 (l.map Flt.enc++[[.int .i64 x,.int .i64 y]]),.sl .no 3 (s.lats.map Ltc.enc),.sl .no 3 (s.vars.map Vrb.enc),.int .i64 lat,.int .i64 p]=wput σ b τ (l++[⟨x,y⟩]) s lat p:=by
  simp only[wput,wenc,Store.set,Store.setTip,Store.mk.injEq,List.map_append,List.map_cons,List.map_nil,Flt.enc,List.length_append,List.length_singleton,and_true];constructor
  · funext z
    by_cases h1:z=b<;>simp[h1]
  · funext z
    by_cases h1:z=τ<;>simp[h1]
theorem wput_sub (h:σ.box b=none) (ht:σ.tip τ=none):σ.sub (wput σ b τ l s lat p):=by
  refine⟨fun x cs hx=>?_,fun t m hm=>?_,fun _ _ h=>h⟩
  · have:x≠b:=by rintro rfl;rw[h] at hx;simp at hx
    rw[wput_ne this];exact hx
  · have:t≠τ:=by rintro rfl;rw[ht] at hm;simp at hm
    simp[wput,Store.set,Store.setTip,this];exact hm
theorem wput_new (h:b' ≠ b) (hn:σ.box b' = none):(wput σ b τ l s lat p).sub (wput (σ.set b' c) b τ l s lat p):=by
  refine⟨fun x cs hx=>?_,fun t m hm=>?_,fun _ _ h=>h⟩
  · by_cases h1:x=b
    · subst h1;rw[wput_box] at hx ⊢;exact hx
    · rw[wput_ne h1] at hx ⊢
      have:x≠b' := by rintro rfl;rw[hn] at hx;simp at hx
      simp only[Store.set,this,if_false];exact hx
  · simpa [wput,Store.set,Store.setTip] using hm
theorem w_f:ldC false 1 (wenc τ l s lat p)=some (.sl (.tk τ) 2 (l.map Flt.enc)):=rfl
theorem w_s:takeN 2 ((wenc τ l s lat p).drop 1)=some s.enc:=rfl
theorem w_l:ldC false 1 ((wenc τ l s lat p).drop 1)=some (.sl .no 3 (s.lats.map Ltc.enc)):=rfl
theorem w_v:ldC false 1 ((wenc τ l s lat p).drop 2)=some (.sl .no 3 (s.vars.map Vrb.enc)):=rfl
theorem w_t:ldC false 1 ((wenc τ l s lat p).drop 3)=some (.int .i64 lat):=rfl
theorem w_p:ldC false 1 ((wenc τ l s lat p).drop 4)=some (.int .i64 p):=rfl
theorem w_h:hasN 1 (wenc τ l s lat p)=true:=rfl
theorem w_h3:hasN 1 ((wenc τ l s lat p).drop 3)=true:=rfl
theorem w_o {v:V}:over (wenc τ l s lat p) [v]=[v,.sl .no 3 (s.lats.map Ltc.enc),.sl .no 3 (s.vars.map Vrb.enc),.int .i64 lat,.int .i64 p]:=rfl
theorem w_o3 {v:V}:setAt (wenc τ l s lat p) 3 [v]=[.sl (.tk τ) 2 (l.map Flt.enc),.sl .no 3 (s.lats.map Ltc.enc),.sl .no 3 (s.vars.map Vrb.enc),v,.int .i64 p]:=rfl
theorem wd_t {w:Word}:ldC false 1 w.enc=some (.str w.text):=rfl
theorem wd_p {w:Word}:ldC false 1 (w.enc.drop 1)=some (.int .i64 w.pos):=rfl
theorem w_b {u v x y:V}:over [u,v,x,y] s.enc=[.sl .no 3 (s.lats.map Ltc.enc),.sl .no 3 (s.vars.map Vrb.enc),x,y]:=rfl
def wr_:=And.intro @w_b <| And.intro @wd_t <| And.intro @wd_p <| And.intro @wput_box <| And.intro @wput_tip <| And.intro @w_f <| And.intro @w_s <| And.intro @w_l <| And.intro @w_v <| And.intro @w_t <| And.intro @w_p <| And.intro @w_h <| And.intro @w_h3 <| And.intro @w_o @w_o3
end
end Go.Am

namespace Go.Am
theorem wput_tipne {σ:Store} {b τ υ n:Nat} {l:List Flt} {s:Scp} {lat p:Int} (h:υ≠τ):(wput σ b τ l s lat p).setTip υ n=wput (σ.setTip υ n) b τ l s lat p:=by
  simp only[wput,Store.set,Store.setTip,Store.mk.injEq,true_and,and_true];funext z
  by_cases h1:z=υ
  · subst h1;simp[h]
  · simp[h1]
theorem wput_mono {σ σ' : Store} {b τ:Nat} {l:List Flt} {s:Scp} {lat p:Int} (h:σ.sub σ'):(wput σ b τ l s lat p).sub (wput σ' b τ l s lat p):=by
  refine⟨fun x cs hx=>?_,fun t m hm=>?_,h.2.2⟩
  · by_cases h1:x=b
    · subst h1;rw[wput_box] at hx ⊢;exact hx
    · rw[wput_ne h1] at hx ⊢;exact h.1 x cs hx
  · simp only[wput,Store.set,Store.setTip] at hm ⊢;split
    · rename_i e;rw[if_pos e] at hm;exact hm
    · rename_i e;rw[if_neg e] at hm;exact h.2.1 t m hm
structure Ah (σ σ' : Store) (τ:Nat) (tk:Tk) (n:Nat):Prop where
  box:σ'.box=σ.box
  sub:σ.sub σ'
  tk:tk = .full∨∃υ,tk = .tk υ∧υ≠τ∧σ'.tip υ=some n∧σ.tip υ=none
theorem Ah.nil {σ:Store} {τ:Nat}:Ah σ σ τ .full 0:=⟨rfl,Store.sub_refl σ,.inl rfl⟩
theorem Ah.app {σ σ' : Store} {b τ k:Nat} {tk u:Tk} {l:List Flt} {s:Scp} {lat p:Int} {m e:List (List V)} {K:V→Store→Prop} (h:Ah σ σ' τ tk m.length) (hb:m.length+e.length≤big)
    (hk:∀tk' σ'',Ah σ σ'' τ tk' (m++e).length→K (.sl tk' k (m++e)) (wput σ'' b τ l s lat p)):AppOk (wput σ' b τ l s lat p) k (.sl tk k m) (.sl u k e) K:=by
  have hl:(m++e).length=m.length+e.length:=List.length_append;have up:∀υ n,σ'.tip υ=none∨σ.tip υ=none→σ.sub (σ'.setTip υ n):=fun υ n hn=>⟨fun x cs hx=>h.sub.1 x cs hx,fun t q hq=>by
    have hne:t≠υ:=by
      rintro rfl
      rcases hn with hn | hn
      · rw[h.sub.2.1 _ _ hq] at hn;simp at hn
      · rw[hq] at hn;simp at hn
    simp only[Store.setTip,if_neg hne];exact h.sub.2.1 t q hq,h.sub.2.2⟩
  rcases h.tk with rfl | ⟨υ,rfl,hne,ht,h0⟩
  · refine app_full hb fun υ hυ=>?_
    have hne:υ≠τ:=by rintro rfl;rw[wput_tip] at hυ;simp at hυ
    have hυ' : σ'.tip υ=none:=by simpa [wput,Store.set,Store.setTip,hne] using hυ
    rw[wput_tipne hne];refine hk _ _ ⟨h.box,up υ _ (.inl hυ'),.inr ⟨υ,rfl,hne,by rw[hl];simp[Store.setTip],?_⟩⟩;cases hq:σ.tip υ with
    | none=>rfl
    | some n=>rw[h.sub.2.1 _ _ hq] at hυ';simp at hυ'
  · refine app_tk hb (by simpa [wput,Store.set,Store.setTip,hne] using ht) ?_;rw[wput_tipne hne];exact hk _ _ ⟨h.box,up υ _ (.inr h0),.inr ⟨υ,rfl,hne,by rw[hl];simp[Store.setTip],h0⟩⟩
section
variable {s:Scp} {lat:Int}
theorem varFl_len {t:List UInt8} {p k:Int}:(varFl s lat t p k).length≤1:=by
  unfold varFl;split
  · split<;>simp
  · split
    · split<;>simp
    · simp
theorem latFl_len {w:Word}:(latFl s w).length≤1:=by unfold latFl;split;(split<;>simp);simp
theorem atmFl_len {n:Nd}:(atmFl s lat n).length≤1:=by
  unfold atmFl;split
  · exact varFl_len
  · split
    · unfold elmFl;split
      · cases elmO s lat n<;>simp
      · simp
    · simp
mutual
theorem labFl_len:∀n:Nd,(labFl s lat n).length≤n.cnt
  | .mk k p t ws ks => by
    have h1:=@atmFl_len s lat (.mk k p t ws ks);have h2:=labsFl_len ks;rw[labFl,List.length_append,Nd.cnt];split
    · simp;omega
    · omega
theorem labsFl_len:∀l:List Nd,(labsFl s lat l).length≤cnts l
  | []=>by simp[labsFl]
  | n :: ns => by
    have:=labFl_len n;have:=labsFl_len ns
    rw[labsFl,List.length_append,cnts];omega
end
theorem cnts_take2:∀{l:List Nd} {i:Nat} (hi:i<l.length),cnts (l.take i)+l[i].cnt≤cnts l
  | [],i,hi=>by simp at hi
  | n::ns,0,_=>by simp[cnts]
  | n :: ns, i + 1, hi => by
    have:=cnts_take2 (l:=ns) (i:=i) (by simpa using hi)
    simp only[List.take_succ_cons,cnts,List.getElem_cons_succ];omega
theorem labs_take {l:List Nd} {i:Nat} (hi:i<l.length):((l.take i).flatMap (labFl s lat)).length+l[i].cnt≤cnts l:=by
  have h1:=@labsFl_len s lat (l.take i);rw[labsFl_map] at h1
  have:=cnts_take2 hi
  omega
theorem flat_len {α:Type} {f:α→List Flt} {m:Nat}:∀{l:List α},(∀x∈l,(f x).length≤m)→(l.flatMap f).length≤l.length*m
  | [],_=>by simp
  | x :: l, h => by
    have:=h x (by simp)
    have:=flat_len (m:=m) (l:=l) fun y hy=>h y (by simp[hy])
    rw[List.flatMap_cons,List.length_append,List.length_cons,Nat.add_mul,Nat.one_mul];omega
theorem flat_take {α:Type} {f:α→List Flt} {l:List α} {i:Nat} (hi:i<l.length):(l.take (i+1)).flatMap f=(l.take i).flatMap f++f l[i]:=by
  rw[List.take_succ_eq_append_getElem hi,List.flatMap_append];simp
theorem tailFl_len {ws:List Word}:(tailFl s lat ws).length≤ws.length:=by
  have:=flat_len (f:=fun w:Word=>varFl s lat w.text w.pos 2) (m:=1) (l:=ws) fun _ _=>varFl_len
  rw[Nat.mul_one] at this;exact this
theorem fldFl_len {ks:List Nd} {i:Nat}:(fldFl s lat ks i).length≤1+(ks.getD i nd0).kids.length:=by
  have:=flat_len (f:=atmFl s lat) (m:=1) (l:=(ks.getD i nd0).kids) fun _ _=>atmFl_len
  have h2:(dupFl ks i).length≤1:=by unfold dupFl;split<;>simp
  rw[fldFl,List.length_append];omega
theorem fldsFl_succ {ks:List Nd} {m:Nat}:fldsFl s lat ks (m+1)=fldsFl s lat ks m++fldFl s lat ks m:=by
  simp only[fldsFl,List.range_succ,List.flatMap_append,List.flatMap_cons,List.flatMap_nil,List.append_nil]
theorem fldsFl_len {ks:List Nd} {N:Nat} (h:∀k∈ks,k.kids.length≤N):∀{m:Nat},m≤ks.length→(fldsFl s lat ks m).length≤m*(1+N)
  | 0,_=>by simp[fldsFl]
  | m + 1, hm => by
    have h1:=fldsFl_len h (m:=m) (by omega);have h2:=@fldFl_len s lat ks m;have h3:(ks.getD m nd0).kids.length≤N:=by rw[getD_at (by omega)];exact h _ (List.getElem_mem _)
    rw[fldsFl_succ,List.length_append,Nat.add_mul,Nat.one_mul];omega
theorem rowFl_len {p:Int} {n:Nd} (hc:n.cnt≤500):(rowFl s lat p n).length≤260000:=by
  have hkk:∀k∈n.kids,k.kids.length≤500:=fun k hk=>by have:=cnt_kids k;have:=cnt_kid hk;omega
  have hkc:=cnt_kids n;have hnc:=cnt_names n;have h1:=fldsFl_len (s:=s) (lat:=lat) hkk (Nat.le_refl _);have h2:=Nat.mul_le_mul_right (1+500) (show n.kids.length≤500 by omega);have h3:=@tailFl_len s lat n.names;have h4:=@varFl_len s lat n.text n.pos 2;unfold rowFl;split
  · omega
  · split
    · simp only[List.length_append]
      have:(if 16<n.kids.length then [(⟨7,p⟩:Flt)] else []).length≤1:=by split<;>simp
      omega
    · simp
end
end Go.Am

namespace Go.Am
def atmZ:List V:=.int .i64 0::List.replicate 8 (.int .u64 0)
def fldZ:List V:=.str []::.int .i64 0::List.replicate 8 (.int .u64 0)
structure Atm where
  v:Int
  c:Elm
structure Fld where
  name:List UInt8
  a:Atm
structure Rtm where
  fs:List Fld
  tail:Int
structure Ast where
  op:Int
  lat:Int
  code:List Ins
  to:Atm
  a:Rtm
  b:Rtm
  v:Int
  field:List UInt8
theorem Elm.cases8 {P:Elm→Prop} (h:∀(a b c d e f g i:B64) (hl:[a,b,c,d,e,f,g,i].length=8),P ⟨[a,b,c,d,e,f,g,i],hl⟩) (e:Elm):P e:=by
  obtain⟨w,hl⟩:=e
  match w,hl with
  | [a,b,c,d,e,f,g,i],hl=>exact h a b c d e f g i hl
def Atm.enc (x:Atm):List V:=.int .i64 x.v::x.c.enc
def Fld.enc (x:Fld):List V:=.str x.name::x.a.enc
def Rtm.enc (x:Rtm):List V:=[.sl .no 10 (x.fs.map Fld.enc),.int .i64 x.tail]
def astV (op lat:Int) (c:V) (to:Atm) (fa:V) (ta:Int) (fb:V) (tb v:Int) (f:List UInt8):List V:=.int .i64 op::.int .i64 lat::c::(to.enc++[fa,.int .i64 ta,fb,.int .i64 tb,.int .i64 v,.str f])
def Ast.enc (x:Ast):List V:=astV x.op x.lat (.sl .no 10 (x.code.map Ins.enc)) x.to (.sl .no 10 (x.a.fs.map Fld.enc)) x.a.tail (.sl .no 10 (x.b.fs.map Fld.enc)) x.b.tail x.v x.field
def Atm.zero:Atm:=⟨0,.zero⟩
def Rtm.zero:Rtm:=⟨[],0⟩
def Ast.zero:Ast:=⟨0,0,[],.zero,.zero,.zero,0,[]⟩
def astZ:List V:=astV 0 0 (.sl .full 10 []) .zero (.sl .full 10 []) 0 (.sl .full 10 []) 0 0 []
theorem Atm.ext' {x y:Atm} (h:x.v=y.v) (k:x.c=y.c):x=y:=by cases x;cases y;simp only at h k;subst h;subst k;rfl
theorem Fld.ext' {x y:Fld} (h:x.name=y.name) (k:x.a=y.a):x=y:=by cases x;cases y;simp only at h k;subst h;subst k;rfl
instance:DecidableEq Atm:=fun x y=>if h:x.v=y.v∧x.c=y.c then isTrue (Atm.ext' h.1 h.2) else isFalse fun e=>h ⟨e▸rfl,e▸rfl⟩
instance:DecidableEq Fld:=fun x y=>if h:x.name=y.name∧x.a=y.a then isTrue (Fld.ext' h.1 h.2) else isFalse fun e=>h ⟨e▸rfl,e▸rfl⟩
section
variable {x y:Atm} {n:Nat} {i:Int} {e:Elm}
theorem Atm.r_len:x.enc.length=9:=by simp[Atm.enc,Elm.r_len]
theorem Atm.r_one:oneL x.enc=true:=by simp[Atm.enc,oneL,V.one,Elm.r_one]
theorem Atm.r_nol:nolL x.enc=true:=by simp[Atm.enc,nolL,V.nol,Elm.r_nol]
theorem Atm.r_er:eraseL x.enc=x.enc:=by simp[Atm.enc,eraseL,V.erase,Elm.r_er]
theorem Atm.r_lo:loL n x.enc=true:=by simp[Atm.enc,loL,V.lo,Elm.r_lo]
theorem Atm.r_tk:takeN 9 x.enc=some x.enc:=by have:=takeN_all (c:=x.enc);rwa [Atm.r_len] at this
theorem Atm.r_ld:ldC true 9 x.enc=some (.agg x.enc):=by rw[ldC_agg,Atm.r_tk];rfl
theorem Atm.r_has:hasN 9 x.enc=true:=by have:=hasN_all (c:=x.enc);rwa [Atm.r_len] at this
theorem Atm.r_ov:over y.enc x.enc=x.enc:=over_all (by rw[Atm.r_len,Atm.r_len])
theorem Atm.r_v:ldC false 1 x.enc=some (.int .i64 x.v):=rfl
theorem Atm.r_c:takeN 8 (x.enc.drop 1)=some x.c.enc:=by show takeN 8 x.c.enc=_;exact Elm.r_tk
theorem Atm.r_z:atmZ=Atm.zero.enc:=by rw[Atm.enc];show _=V.int .i64 0::Elm.zero.enc;rw[←Elm.r_zero];rfl
theorem Atm.b_v:over x.enc [.int .i64 i]=(Atm.mk i x.c).enc:=by rw[Atm.enc,over_cons,over_nil];rfl
theorem Atm.b_h:hasN 1 x.enc=true:=rfl
theorem Atm.b_h8:hasN 8 (x.enc.drop 1)=true:=by show hasN 8 x.c.enc=true;exact Elm.r_has
theorem Atm.b_c:setAt x.enc 1 e.enc=(Atm.mk x.v e).enc:=by rw[Atm.enc,setAt_succ,setAt_zero,Elm.r_ov];rfl
theorem Atm.r_eq:eqC [1,1,1,1,1,1,1,1,1] x.enc y.enc=some (decide (x=y)):=by
  rw[Atm.enc,Atm.enc,eqC_int,Elm.r_eq,andM_some];congr 1;rw[←Bool.decide_and];exact decide_eq_decide.2 ⟨fun h=>Atm.ext' h.1 h.2,fun h=>h▸⟨rfl,rfl⟩⟩
def Atm.rec_:=And.intro @Atm.r_len <| And.intro @Atm.r_one <| And.intro @Atm.r_nol <| And.intro @Atm.r_er <| And.intro @Atm.r_lo <| And.intro @Atm.r_tk <| And.intro @Atm.r_ld <| And.intro @Atm.r_has <| And.intro @Atm.r_ov <| And.intro @Atm.r_v <| And.intro @Atm.r_c <| And.intro @Atm.r_z <| And.intro @Atm.b_v <| And.intro @Atm.b_h <| And.intro @Atm.b_h8 <| And.intro @Atm.b_c @Atm.r_eq
end
section
variable {x y:Fld} {n:Nat} {t:List UInt8} {a:Atm}
theorem Fld.r_len:x.enc.length=10:=by simp[Fld.enc,Atm.r_len]
theorem Fld.r_one:oneL x.enc=true:=by simp[Fld.enc,oneL,V.one,Atm.r_one]
theorem Fld.r_nol:nolL x.enc=true:=by simp[Fld.enc,nolL,V.nol,Atm.r_nol]
theorem Fld.r_er:eraseL x.enc=x.enc:=by simp[Fld.enc,eraseL,V.erase,Atm.r_er]
theorem Fld.r_lo:loL n x.enc=true:=by simp[Fld.enc,loL,V.lo,Atm.r_lo]
theorem Fld.r_tk:takeN 10 x.enc=some x.enc:=by have:=takeN_all (c:=x.enc);rwa [Fld.r_len] at this
theorem Fld.r_ld:ldC true 10 x.enc=some (.agg x.enc):=by rw[ldC_agg,Fld.r_tk];rfl
theorem Fld.r_has:hasN 10 x.enc=true:=by have:=hasN_all (c:=x.enc);rwa [Fld.r_len] at this
theorem Fld.r_ov:over y.enc x.enc=x.enc:=over_all (by rw[Fld.r_len,Fld.r_len])
theorem Fld.r_n:ldC false 1 x.enc=some (.str x.name):=rfl
theorem Fld.r_a:takeN 9 (x.enc.drop 1)=some x.a.enc:=by show takeN 9 x.a.enc=_;exact Atm.r_tk
theorem Fld.r_z:fldZ=(Fld.mk [] .zero).enc:=by rw[Fld.enc];show _=V.str []::Atm.zero.enc;rw[←Atm.r_z];rfl
theorem Fld.b_n:over x.enc [.str t]=(Fld.mk t x.a).enc:=by rw[Fld.enc,over_cons,over_nil];rfl
theorem Fld.b_h:hasN 1 x.enc=true:=rfl
theorem Fld.b_h9:hasN 9 (x.enc.drop 1)=true:=by show hasN 9 x.a.enc=true;exact Atm.r_has
theorem Fld.b_a:setAt x.enc 1 a.enc=(Fld.mk x.name a).enc:=by rw[Fld.enc,setAt_succ,setAt_zero,Atm.r_ov];rfl
theorem Fld.r_eq:eqC [2,1,1,1,1,1,1,1,1,1] x.enc y.enc=some (decide (x=y)):=by
  rw[Fld.enc,Fld.enc,eqC_str,Atm.r_eq,andM_some];congr 1;rw[←Bool.decide_and];exact decide_eq_decide.2 ⟨fun h=>Fld.ext' h.1 h.2,fun h=>h▸⟨rfl,rfl⟩⟩
def Fld.rec_:=And.intro @Fld.r_len <| And.intro @Fld.r_one <| And.intro @Fld.r_nol <| And.intro @Fld.r_er <| And.intro @Fld.r_lo <| And.intro @Fld.r_tk <| And.intro @Fld.r_ld <| And.intro @Fld.r_has <| And.intro @Fld.r_ov <| And.intro @Fld.r_n <| And.intro @Fld.r_a <| And.intro @Fld.r_z <| And.intro @Fld.b_n <| And.intro @Fld.b_h <| And.intro @Fld.b_h9 <| And.intro @Fld.b_a @Fld.r_eq
end
section
variable {x:Rtm} {n:Nat} {u w:V}
theorem Rtm.r_len:x.enc.length=2:=rfl
theorem Rtm.r_one:oneL x.enc=true:=rfl
theorem Rtm.r_nol:nolL x.enc=true:=rfl
theorem Rtm.r_er:eraseL x.enc=x.enc:=rfl
theorem Rtm.r_lo:loL n x.enc=true:=rfl
theorem Rtm.r_tk:takeN 2 x.enc=some x.enc:=rfl
theorem Rtm.r_ld:ldC true 2 x.enc=some (.agg x.enc):=rfl
theorem Rtm.r_has:hasN 2 x.enc=true:=rfl
theorem Rtm.r_ov:over [u,w] x.enc=x.enc:=rfl
theorem Rtm.r_f:ldC false 1 x.enc=some (.sl .no 10 (x.fs.map Fld.enc)):=rfl
theorem Rtm.r_t:ldC false 1 (x.enc.drop 1)=some (.int .i64 x.tail):=rfl
def Rtm.rec_:=And.intro @Rtm.r_len <| And.intro @Rtm.r_one <| And.intro @Rtm.r_nol <| And.intro @Rtm.r_er <| And.intro @Rtm.r_lo <| And.intro @Rtm.r_tk <| And.intro @Rtm.r_ld <| And.intro @Rtm.r_has <| And.intro @Rtm.r_ov <| And.intro @Rtm.r_f @Rtm.r_t
end
section
variable {op lat ta tb v i:Int} {c fa fb d:V} {to tp:Atm} {r:Rtm} {f g:List UInt8} {x:Ast} {n:Nat}
theorem ast_len:(astV op lat c to fa ta fb tb v f).length=18:=by simp[astV,Atm.r_len]
theorem ast_tk:takeN 18 (astV op lat c to fa ta fb tb v f)=some (astV op lat c to fa ta fb tb v f):=by have:=takeN_all (c:=astV op lat c to fa ta fb tb v f);rwa [ast_len] at this
theorem ast_has:hasN 18 (astV op lat c to fa ta fb tb v f)=true:=by have:=hasN_all (c:=astV op lat c to fa ta fb tb v f);rwa [ast_len] at this
theorem ast_ov {op' lat' ta' tb' v' : Int} {c' fa' fb' : V} {f' : List UInt8}:over (astV op lat c to fa ta fb tb v f) (astV op' lat' c' tp fa' ta' fb' tb' v' f')=astV op' lat' c' tp fa' ta' fb' tb' v' f' := over_all (by rw[ast_len,ast_len])
theorem ast_one (h1:c.one=true) (h2:fa.one=true) (h3:fb.one=true):oneL (astV op lat c to fa ta fb tb v f)=true:=by
  have h:=@Atm.r_one to;simp only[astV,oneL,one_int,Bool.true_and,h1];rw[oneL_app,h];simp only[oneL,one_int,one_str,h2,h3,Bool.and_self]
theorem ast_nol (h1:c.nol=true) (h2:fa.nol=true) (h3:fb.nol=true):nolL (astV op lat c to fa ta fb tb v f)=true:=by
  have h:=@Atm.r_nol to;have app:∀{a b:List V},nolL a=true→nolL b=true→nolL (a++b)=true:=by
    intro a;induction a with
    | nil=>intro b _ h;exact h
    | cons x a ih=>intro b h1 h2;simp only[nolL,Bool.and_eq_true,List.cons_append] at h1 ⊢;exact⟨h1.1,ih h1.2 h2⟩
  simp only[astV,nolL,V.nol,Bool.true_and,h1];exact app h (by simp[nolL,V.nol,h2,h3])
theorem ast_lo (h1:c.lo n=true) (h2:fa.lo n=true) (h3:fb.lo n=true):loL n (astV op lat c to fa ta fb tb v f)=true:=by
  have h:=@Atm.r_lo to n;have app:∀{a b:List V},loL n a=true→loL n b=true→loL n (a++b)=true:=by
    intro a;induction a with
    | nil=>intro b _ h;exact h
    | cons x a ih=>intro b h1 h2;simp only[loL,Bool.and_eq_true,List.cons_append] at h1 ⊢;exact⟨h1.1,ih h1.2 h2⟩
  simp only[astV,loL,V.lo,Bool.true_and,h1];exact app h (by simp[loL,V.lo,h2,h3])
theorem ast_er:eraseL (astV op lat c to fa ta fb tb v f)=astV op lat c.erase to fa.erase ta fb.erase tb v f:=by
  have h:=@Atm.r_er to;have app:∀{a b:List V},eraseL (a++b)=eraseL a++eraseL b:=by
    intro a;induction a with
    | nil=>intro b;rfl
    | cons x a ih=>intro b;simp only[eraseL,List.cons_append,ih]
  simp only[astV,eraseL,V.erase,app,h]
theorem ast_d12:(astV op lat c to fa ta fb tb v f).drop 12=[fa,.int .i64 ta,fb,.int .i64 tb,.int .i64 v,.str f]:=by
  simp only[astV,List.drop_succ_cons];exact List.drop_left' Atm.r_len
theorem ast_l0:ldC false 1 (astV op lat c to fa ta fb tb v f)=some (.int .i64 op):=rfl
theorem ast_l1:ldC false 1 ((astV op lat c to fa ta fb tb v f).drop 1)=some (.int .i64 lat):=rfl
theorem ast_l2:ldC false 1 ((astV op lat c to fa ta fb tb v f).drop 2)=some c:=rfl
theorem ast_l3:takeN 9 ((astV op lat c to fa ta fb tb v f).drop 3)=some to.enc:=takeN_app Atm.r_len
theorem ast_l12:takeN 2 ((astV op lat c to fa ta fb tb v f).drop 12)=some [fa,.int .i64 ta]:=by rw[ast_d12];rfl
theorem ast_l14:takeN 2 ((astV op lat c to fa ta fb tb v f).drop 14)=some [fb,.int .i64 tb]:=by rw[show 14=12+2 from rfl,←List.drop_drop,ast_d12];rfl
theorem ast_l16:ldC false 1 ((astV op lat c to fa ta fb tb v f).drop 16)=some (.int .i64 v):=by rw[show 16=12+4 from rfl,←List.drop_drop,ast_d12];rfl
theorem ast_l17:ldC false 1 ((astV op lat c to fa ta fb tb v f).drop 17)=some (.str f):=by rw[show 17=12+5 from rfl,←List.drop_drop,ast_d12];rfl
theorem ast_h:hasN 1 (astV op lat c to fa ta fb tb v f)=true:=rfl
theorem ast_h1:hasN 1 ((astV op lat c to fa ta fb tb v f).drop 1)=true:=rfl
theorem ast_h2:hasN 1 ((astV op lat c to fa ta fb tb v f).drop 2)=true:=rfl
theorem ast_h3:hasN 9 ((astV op lat c to fa ta fb tb v f).drop 3)=true:=by obtain⟨tv,te⟩:=to;induction te using Elm.cases8;rfl
theorem ast_h12:hasN 2 ((astV op lat c to fa ta fb tb v f).drop 12)=true:=by rw[ast_d12];rfl
theorem ast_h14:hasN 2 ((astV op lat c to fa ta fb tb v f).drop 14)=true:=by rw[show 14=12+2 from rfl,←List.drop_drop,ast_d12];rfl
theorem ast_h16:hasN 1 ((astV op lat c to fa ta fb tb v f).drop 16)=true:=by rw[show 16=12+4 from rfl,←List.drop_drop,ast_d12];rfl
theorem ast_h17:hasN 1 ((astV op lat c to fa ta fb tb v f).drop 17)=true:=by rw[show 17=12+5 from rfl,←List.drop_drop,ast_d12];rfl
theorem ast_s0:over (astV op lat c to fa ta fb tb v f) [.int .i64 i]=astV i lat c to fa ta fb tb v f:=by rw[astV,over_cons,over_nil];rfl
theorem ast_s1:setAt (astV op lat c to fa ta fb tb v f) 1 [.int .i64 i]=astV op i c to fa ta fb tb v f:=by rw[astV,setAt_succ,setAt_zero,over_cons,over_nil];rfl
theorem ast_s2:setAt (astV op lat c to fa ta fb tb v f) 2 [d]=astV op lat d to fa ta fb tb v f:=by rw[astV,setAt_succ,setAt_succ,setAt_zero,over_cons,over_nil];rfl
theorem ast_s3:setAt (astV op lat c to fa ta fb tb v f) 3 tp.enc=astV op lat c tp fa ta fb tb v f:=by
  rw[astV,setAt_succ,setAt_succ,setAt_succ,setAt_zero,over_app (by rw[Atm.r_len,Atm.r_len];exact Nat.le_refl _),Atm.r_ov];rfl
theorem ast_sapp {m:List V} {k:Nat}:setAt (astV op lat c to fa ta fb tb v f) (12+k) m = .int .i64 op::.int .i64 lat::c::(to.enc++setAt [fa,.int .i64 ta,fb,.int .i64 tb,.int .i64 v,.str f] k m):=by
  rw[show 12+k=(9+k)+1+1+1 by omega,astV,setAt_succ,setAt_succ,setAt_succ];congr 3;have key:∀(a b:List V) (n:Nat),setAt (a++b) (a.length+n) m=a++setAt b n m:=by
    intro a;induction a with
    | nil=>intro b n;rw[List.length_nil,Nat.zero_add];rfl
    | cons x a ih=>intro b n;rw[List.cons_append,List.length_cons,show a.length+1+n=(a.length+n)+1 by omega,setAt_succ,ih];rfl
  have:=key to.enc [fa,.int .i64 ta,fb,.int .i64 tb,.int .i64 v,.str f] k
  rw[Atm.r_len] at this;exact this
theorem ast_s12:setAt (astV op lat c to fa ta fb tb v f) 12 [d,.int .i64 i]=astV op lat c to d i fb tb v f:=ast_sapp (k:=0)
theorem ast_s14:setAt (astV op lat c to fa ta fb tb v f) 14 [d,.int .i64 i]=astV op lat c to fa ta d i v f:=ast_sapp (k:=2)
theorem ast_s16:setAt (astV op lat c to fa ta fb tb v f) 16 [.int .i64 i]=astV op lat c to fa ta fb tb i f:=ast_sapp (k:=4)
theorem ast_s17:setAt (astV op lat c to fa ta fb tb v f) 17 [.str g]=astV op lat c to fa ta fb tb v g:=ast_sapp (k:=5)
theorem ast_s12r:setAt (astV op lat c to fa ta fb tb v f) 12 r.enc=astV op lat c to (.sl .no 10 (r.fs.map Fld.enc)) r.tail fb tb v f:=ast_sapp (k:=0)
theorem ast_s14r:setAt (astV op lat c to fa ta fb tb v f) 14 r.enc=astV op lat c to fa ta (.sl .no 10 (r.fs.map Fld.enc)) r.tail v f:=ast_sapp (k:=2)
theorem Ast.r_er:eraseL x.enc=x.enc:=ast_er
theorem Ast.r_nol:nolL x.enc=true:=ast_nol rfl rfl rfl
def ast_:=And.intro @ast_len <| And.intro @ast_tk <| And.intro @ast_has <| And.intro @ast_ov <| And.intro @ast_l0 <| And.intro @ast_l1 <| And.intro @ast_l2 <| And.intro @ast_l3 <| And.intro @ast_l12 <| And.intro @ast_l14 <| And.intro @ast_l16 <| And.intro @ast_l17 <| And.intro @ast_h <| And.intro @ast_h1 <| And.intro @ast_h2 <| And.intro @ast_h3 <| And.intro @ast_h12 <| And.intro @ast_h14 <| And.intro @ast_h16 <| And.intro @ast_h17 <| And.intro @ast_s0 <| And.intro @ast_s1 <| And.intro @ast_s2 <| And.intro @ast_s3 <| And.intro @ast_s12 <| And.intro @ast_s14 <| And.intro @ast_s16 <| And.intro @ast_s17 <| And.intro @ast_s12r @ast_s14r
end
end Go.Am

namespace Go.Am
def psum (l:List (Word × Word)):Nat:=(l.map fun p=>p.1.text.length+p.2.text.length+2).sum
def Cmd.wt (c:Cmd):Nat:=c.name.text.length+wsum c.names+psum c.pairs+c.left.wt+c.right.wt
end Go.Am

namespace Go.Am
def cntN (op:Int) (k:UInt8):Nat:=(formOf op).2.count k
def namedQ (l:List (List UInt8)):Bool:=l.all nameR
def Cmd.nameQ (c:Cmd):Bool:=if cntN c.op 110=0 then decide (c.name.text=[]) else nameR c.name.text
def Cmd.namesQ (c:Cmd):Bool :=
  if 0<cntN c.op 119 then decide (0<c.names.length)&&namedQ (c.names.map Word.text)
  else if 0<cntN c.op 102 then decide (c.names.length=1)&&namedQ (c.names.map Word.text)
  else decide (c.names.length=0)
def pairQ (p:Word × Word):Bool:=nameR p.1.text&&nameR p.2.text
def Cmd.pairsQ (c:Cmd):Bool:=if cntN c.op 112=0 then decide (c.pairs.length=0) else c.pairs.all pairQ
def Cmd.termsQ (c:Cmd):Bool :=
  if 0<cntN c.op 116 then c.left.labelQ&&c.right.labelQ
  else if 0<cntN c.op 114 then c.left.rowQ&&c.right.rowQ
  else c.left.sameQ .zero&&c.right.sameQ .zero
def Cmd.rightQ (c:Cmd):Bool:=decide (0≤c.op∧c.op≤15)&&c.nameQ&&c.namesQ&&c.pairsQ&&c.termsQ
def samePQ:List (Word × Word)→List (Word × Word)→Bool
  | [],[]=>true
  | p::ps,q::qs=>decide (p.1.text=q.1.text)&&decide (p.2.text=q.2.text)&&samePQ ps qs
  | _,_=>false
def Cmd.sameQ (a b:Cmd):Bool:=decide (a.op=b.op)&&decide (a.name.text=b.name.text)&&sameW a.names b.names&&samePQ a.pairs b.pairs&&a.left.sameQ b.left&&a.right.sameQ b.right
end Go.Am

namespace Go.Am
def atmF (s:Scp) (lat:Nat) (n:Nd):Atm:=if n.kind=1 then ⟨optI (findV s.vars n.text),.zero⟩ else ⟨-1,(elemF (shapeF s lat) (n.kids.getD 0 nd0)).1⟩
def fldF (s:Scp) (lat:Nat) (k:Nd):Fld:=⟨k.text,atmF s lat (k.kids.getD 0 nd0)⟩
def tailF (s:Scp):List Word→Int
  | []=>-1
  | w::_=>optI (findV s.vars w.text)
theorem tailF_one {s:Scp}:∀{l:List Word} (h:0<l.length),tailF s (l.take (0+1))=optI (findV s.vars l[0].text)
  | [],h=>by simp at h
  | _::_,_=>rfl
def rtmF (s:Scp) (lat:Nat) (n:Nd):Rtm:=if n.kind=1 then ⟨[],optI (findV s.vars n.text)⟩ else ⟨n.kids.map (fldF s lat),tailF s n.names⟩
def varLat (s:Scp) (v:Option Nat):Int:=match v with | some k=>(match s.vars[k]? with | some x=>x.lat | none=>0) | none=>0
def astF (s:Scp) (c:Cmd):Ast :=
  if c.op=8 then ⟨8,latI s c,(compR s (latI s c) c.left).getD [],atmF s (latI s c).toNat c.right,.zero,.zero,0,[]⟩
  else if c.op=9 then ⟨9,latI s c,[],.zero,rtmF s (latI s c).toNat c.left,rtmF s (latI s c).toNat c.right,0,[]⟩
  else ⟨10,varLat s (findV s.vars c.name.text),[],.zero,.zero,.zero,optI (findV s.vars c.name.text),(c.names.getD 0 ⟨[],0⟩).text⟩
def isAst (s:Scp) (c:Cmd):Bool:=decide (8≤c.op)&&decide (c.op≤10)&&c.rightQ&&decide ((faultC s c).cls=0)
structure Fine (s:Scp) (c:Cmd):Prop where
  op:8≤c.op∧c.op≤10
  q:c.rightQ=true
  none:∀f∈cmdFl s c,f.cls=0
theorem isAst_iff {s:Scp} {c:Cmd}:isAst s c=true↔Fine s c:=by
  simp only[isAst,Bool.and_eq_true,decide_eq_true_eq];constructor
  · rintro⟨⟨⟨a,b⟩,d⟩,e⟩;exact⟨⟨a,b⟩,d,(least_none e).2⟩
  · rintro⟨⟨a,b⟩,d,e⟩;exact⟨⟨⟨a,b⟩,d⟩,by rw[faultC,least_of_none e];rfl⟩
section
variable {s:Scp} {c:Cmd} {lat:Int}
theorem varFl_cls {t:List UInt8} {p k:Int}:∀f∈varFl s lat t p k,f.cls≠0:=by
  intro f hf;unfold varFl at hf;split at hf
  · split at hf<;>(rw[List.mem_singleton.1 hf];simp)
  · split at hf
    · split at hf
      · rw[List.mem_singleton.1 hf];simp
      · simp at hf
    · simp at hf
theorem latFl_cls {w:Word}:∀f∈latFl s w,f.cls≠0:=by
  intro f hf;unfold latFl at hf;split at hf
  · split at hf<;>(rw[List.mem_singleton.1 hf];simp)
  · simp at hf
theorem nil_of {l:List Flt} (h:∀f∈l,f.cls≠0) (k:∀f∈l,f.cls=0):l=[]:=by
  cases l with
  | nil=>rfl
  | cons f l=>exact absurd (k f (by simp)) (h f (by simp))
theorem varFl_nil {t:List UInt8} {p k:Int} (h:varFl s lat t p k=[]):∃v,∃hv:v<s.vars.length,findV s.vars t=some v∧s.vars[v].kind=k∧(0≤lat→s.vars[v].lat=lat):=by
  unfold varFl at h;split at h
  · split at h<;>simp at h
  · rename_i v hv;have hlt:=findV_lt hv;rw[List.getElem?_eq_getElem hlt] at h;simp only at h;split at h
    · simp at h
    · rename_i hn;refine⟨v,hlt,hv,?_,fun h0=>?_⟩
      · exact Classical.byContradiction fun hc=>hn (.inl hc)
      · exact Classical.byContradiction fun hc=>hn (.inr ⟨h0,hc⟩)
theorem latFl_nil {w:Word} (h:latFl s w=[]):∃k,findL s.lats w.text=some k∧k<s.lats.length:=by
  unfold latFl at h;split at h
  · split at h<;>simp at h
  · rename_i hn;cases hL:findL s.lats w.text with
    | none=>rw[hL] at hn;simp at hn
    | some k=>exact⟨k,rfl,(find_lt hL).1⟩
theorem Fine.latt (h:Fine s c) (h9:c.op=8∨c.op=9):∃k,findL s.lats c.name.text=some k∧k<s.lats.length:=by
  refine latFl_nil (nil_of latFl_cls fun f hf=>h.none f ?_);unfold cmdFl;rw[if_neg (by omega),if_neg (by omega)]
  by_cases h8:c.op=8
  · rw[if_pos h8];simp[hf]
  · rw[if_neg h8,if_pos (by omega)];simp[hf]
theorem Fine.latI (h:Fine s c) (h9:c.op=8∨c.op=9):∃k:Nat,latI s c=k∧k<s.lats.length:=by
  obtain⟨k,e,hk⟩:=h.latt h9;exact⟨k,by rw[Go.Am.latI,e];rfl,hk⟩
theorem rightQ_parts (h:c.rightQ=true):c.nameQ=true∧c.namesQ=true∧c.pairsQ=true∧c.termsQ=true:=by
  simp only[Cmd.rightQ,Bool.and_eq_true] at h;exact⟨h.1.1.1.2,h.1.1.2,h.1.2,h.2⟩
theorem Fine.labels (h:Fine s c) (h8:c.op=8):c.left.labelQ=true∧c.right.labelQ=true:=by
  have:=(rightQ_parts h.q).2.2.2
  rw[Cmd.termsQ,h8] at this;simpa [show cntN 8 116=2 from by decide] using this
theorem Fine.rows (h:Fine s c) (h9:c.op=9):c.left.rowQ=true∧c.right.rowQ=true:=by
  have:=(rightQ_parts h.q).2.2.2
  rw[Cmd.termsQ,h9] at this;simpa [show cntN 9 116=0 from by decide,show cntN 9 114=2 from by decide] using this
theorem Fine.one (h:Fine s c) (h10:c.op=10):∃w,c.names=[w]∧nameR w.text=true:=by
  have:=(rightQ_parts h.q).2.1
  rw[Cmd.namesQ,h10] at this;simp only[show cntN 10 119=0 from by decide,show cntN 10 102=1 from by decide,Nat.lt_irrefl,if_false,Nat.zero_lt_one,if_true,Bool.and_eq_true,decide_eq_true_eq] at this
  match hq:c.names,this.1 with
  | [w],_=>exact⟨w,rfl,by have:=this.2;rw[hq] at this;simpa [namedQ] using this⟩
theorem Fine.var (h:Fine s c) (h10:c.op=10):∃v,∃hv:v<s.vars.length,findV s.vars c.name.text=some v∧s.vars[v].kind=2:=by
  have:varFl s (-1) c.name.text c.name.pos 2=[]:=nil_of varFl_cls fun f hf=>h.none f (by unfold cmdFl;rw[if_pos h10];exact hf)
  obtain⟨v,hv,h1,h2,_⟩:=varFl_nil this;exact⟨v,hv,h1,h2⟩
theorem Fine.right (h:Fine s c) (h8:c.op=8):c.right.kind=1∨c.right.kind=7:=by
  have hl:=(h.labels h8).2;rw[Nd.labelQ_eq] at hl
  by_cases h1:c.right.kind=1
  · exact .inl h1
  · by_cases h7:c.right.kind=7
    · exact .inr h7
    · rw[if_neg h1,if_neg h7] at hl
      by_cases h89:c.right.kind=8∨c.right.kind=9
      · have:=h.none ⟨6,c.right.pos⟩ (by unfold cmdFl;rw[if_neg (by omega),if_neg (by omega),if_pos h8];simp[defFl,h89])
        simp at this
      · rw[if_neg h89] at hl;simp at hl
end
end Go.Am

namespace Go.Am
def isF (s:Scp) (v kind lat:Int):Bool:=if 0≤v then (match s.vars[v.toNat]? with | some x=>decide (x.kind=kind)&&decide (x.lat=lat) | none=>false) else false
def isAtmF (s:Scp) (lat:Nat) (a:Atm):Bool:=if a.v<0 then fitsE (shapeF s lat) a.c else isF s a.v 1 lat
def isRowF (s:Scp) (lat:Nat) (t:Rtm):Bool:=decide (t.fs.length≤16)&&(decide (t.tail<0)||isF s t.tail 2 lat)&&t.fs.all (fun f=>nameR f.name&&isAtmF s lat f.a)&&(twiceS (t.fs.map Fld.name)).isNone
def insF (s:Scp) (lat:Nat) (x:Ins):Bool:=(decide (x.op≠1)||isF s x.n 1 lat)&&(decide (x.op≠2)||fitsE (shapeF s lat) x.c)
def isCodeF (s:Scp) (lat:Nat) (l:List Ins):Bool:=l.all (insF s lat)&&rightC l
def astR (s:Scp) (a:Ast):Bool :=
  if a.op=10 then isF s a.v 2 a.lat&&nameR a.field
  else if a.op=9 then decide (0≤a.lat)&&decide (a.lat<s.lats.length)&&isRowF s a.lat.toNat a.a&&isRowF s a.lat.toNat a.b
  else if a.op=8 then decide (0≤a.lat)&&decide (a.lat<s.lats.length)&&isCodeF s a.lat.toNat a.code&&isAtmF s a.lat.toNat a.to
  else false
end Go.Am

namespace Go.Am
def Got.put (g:Got) (f:Nd→Nd):Got:=if g.bad=true then g else {g with node:=f g.node}
end Go.Am

namespace Go.Proofs.Tryz
open Go.Am
set_option maxRecDepth 4000
set_option maxHeartbeats 4000000
end Go.Proofs.Tryz

namespace Go.Proofs.Tryz
open Go.Am
set_option maxRecDepth 4000
set_option maxHeartbeats 4000000
end Go.Proofs.Tryz

namespace Go.Proofs.Tryz
open Go.Am
set_option maxRecDepth 4000
set_option maxHeartbeats 4000000
end Go.Proofs.Tryz

namespace Go.Am
end Go.Am

namespace Go.Am
end Go.Am

namespace Go.Am
def In (N p:Int):Prop:=0≤p∧p≤N
inductive TOk (N:Int):Tree→Prop
  | mk (t:Tok) (ks:List Tree) (e:Int):In N t.pos→In N e→(∀k∈ks,TOk N k)→TOk N (.mk t ks e)
theorem TOk.fin {N:Int} {t:Tree} (h:TOk N t):In N t.fin:=by cases h;assumption
theorem TOk.pos {N:Int} {t:Tree} (h:TOk N t):In N t.tok.pos:=by cases h;assumption
theorem TOk.kids {N:Int} {t:Tree} (h:TOk N t):∀k∈t.kids,TOk N k:=by cases h;assumption
section
variable {N:Int} (h0:0≤N)
include h0
end
end Go.Am

namespace Go.Am
def exS5:Scp:=⟨[⟨[107],⟨false,[exF]⟩⟩],[⟨[120],1,0⟩,⟨[114],2,0⟩]⟩
def exX:Nd:=.mk 1 0 [120] [] []
def exR:Nd:=.mk 1 7 [114] [] []
def exC5 (n:Nd):Cmd:=⟨8,0,⟨[107],0⟩,[],[],0,exX,n⟩
theorem ex5_fault:faultC exS5 (exC5 exR)=⟨4,7⟩:=by decide +kernel
theorem ex5_is:isAst exS5 (exC5 exX)=true:=by decide +kernel
theorem ex5_len:(astF exS5 (exC5 exX)).code.length=1:=by decide +kernel
theorem ex5_to:(astF exS5 (exC5 exX)).to.v=0:=by decide +kernel
theorem ex5_right:astR exS5 (astF exS5 (exC5 exX))=true:=by decide +kernel
theorem ex5_ok:exS5.ok:=big13_ok (by decide +kernel)
end Go.Am

namespace Go.Am
def longF (f:Fld):Bool:=decide (40<f.name.length)
def manyF (a:Ast):Bool:=decide (200<a.code.length)||decide (40<a.a.fs.length)||decide (40<a.b.fs.length)||decide (40<a.field.length)||(a.a.fs++a.b.fs).any longF
theorem manyF_code {a:Ast} (h:manyF a=false):a.code.length≤200:=by
  simp only[manyF,Bool.or_eq_false_iff,decide_eq_false_iff_not] at h;omega
end Go.Am
