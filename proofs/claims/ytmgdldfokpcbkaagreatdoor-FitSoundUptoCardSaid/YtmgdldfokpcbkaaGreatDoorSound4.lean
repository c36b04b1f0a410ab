/-
  Part 4 of the proof of FitSoundUptoCardSaid: a logic over the model, the forms of the functions that the law reaches, and what they compute.
-/
import Derived.Test.YtmgdldfokpcbkaaGreatDoorSound3
set_option linter.unusedVariables false
set_option linter.unusedSimpArgs false
set_option linter.defProp false
set_option linter.unusedSectionVars false

namespace Go.Am
def Tk.ok (σ0 σ:Store) (n:Nat):Tk→Prop
  | .full=>True
  | .tk τ=>σ0.tip τ=none∧σ.tip τ=some n
  | .no=>False
def Tk.name:Tk→Option Nat
  | .tk τ=>some τ
  | _=>none
def Toks (σ0 σ:Store) (L:List (Tk × Nat)):Prop:=σ0.sub σ∧(∀p∈L,p.1.ok σ0 σ p.2)∧(L.filterMap fun p=>p.1.name).Nodup
theorem Toks.tail {σ0 σ:Store} {p:Tk × Nat} {L:List (Tk × Nat)} (h:Toks σ0 σ (p::L)):Toks σ0 σ L:=by
  refine⟨h.1,fun q hq=>h.2.1 q (by simp[hq]),?_⟩
  have:=h.2.2
  simp only[List.filterMap_cons] at this;split at this
  · exact this
  · exact(List.nodup_cons.1 this).2
theorem Toks.full {σ0 σ:Store} {n:Nat} {L:List (Tk × Nat)} (h:Toks σ0 σ L):Toks σ0 σ ((.full,n)::L) :=
  ⟨h.1,fun q hq=>by rcases List.mem_cons.1 hq with rfl | hq;exact trivial;exact h.2.1 q hq,by simpa [List.filterMap_cons,Tk.name] using h.2.2⟩
theorem Toks.put {σ0 σ:Store} {tk:Tk} {n m τ:Nat} {L:List (Tk × Nat)} (h:Toks σ0 σ ((tk,n)::L)) (h0:σ0.tip τ=none) (ht:tk = .tk τ∨σ.tip τ=none):Toks σ0 (σ.setTip τ m) ((.tk τ,m)::L):=by
  have hnm:τ∉L.filterMap fun p=>p.1.name:=fun hm=>by
    obtain⟨⟨t,k⟩,hq,hn⟩:=List.mem_filterMap.1 hm;cases t with
    | no=>simp[Tk.name] at hn
    | full=>simp[Tk.name] at hn
    | tk υ =>
      simp only[Tk.name,Option.some.injEq] at hn;subst hn
      rcases ht with rfl | ht
      · have:=h.2.2
        simp only[List.filterMap_cons,Tk.name] at this;exact(List.nodup_cons.1 this).1 hm
      · have:=(h.2.1 (.tk υ,k) (by simp[hq])).2
        rw[ht] at this;simp at this
  refine⟨⟨h.1.1,fun t k hk=>?_,h.1.2.2⟩,fun p hp=>?_,?_⟩
  · have hne:t≠τ:=by rintro rfl;rw[h0] at hk;simp at hk
    simp only[Store.setTip,if_neg hne];exact h.1.2.1 t k hk
  · rcases List.mem_cons.1 hp with rfl | hp2
    · exact⟨h0,by simp[Store.setTip]⟩
    · have:=h.2.1 p (by simp[hp2])
      obtain⟨t,k⟩:=p;cases t with
      | no=>exact this
      | full=>trivial
      | tk υ =>
        have hne:υ≠τ:=by rintro rfl;exact hnm (List.mem_filterMap.2 ⟨(.tk υ,k),hp2,rfl⟩)
        exact⟨this.1,by simp only[Store.setTip,if_neg hne];exact this.2⟩
  · simp only[List.filterMap_cons,Tk.name];exact List.nodup_cons.2 ⟨hnm,h.tail.2.2⟩
theorem Toks.fresh {σ0 σ:Store} {L:List (Tk × Nat)} (h:Toks σ0 σ L) {τ:Nat} (ht:σ.tip τ=none):σ0.tip τ=none:=by
  cases hq:σ0.tip τ with
  | none=>rfl
  | some n=>rw[h.1.2.1 τ n hq] at ht;simp at ht
end Go.Am

namespace Go.Am
structure Cmd where
  op:Int
  pos:Int
  name:Word
  names:List Word
  pairs:List (Word × Word)
  pairsAt:Int
  left:Nd
  right:Nd
def Cmd.zero:Cmd:=⟨0,0,⟨[],0⟩,[],[],0,.zero,.zero⟩
def penc (p:Word × Word):List V:=[.str p.1.text,.int .i64 p.1.pos,.str p.2.text,.int .i64 p.2.pos]
def Cmd.encP (c:Cmd) (pc:V):List V:=[.int .i64 c.op,.int .i64 c.pos,.str c.name.text,.int .i64 c.name.pos,.sl .no 2 (c.names.map Word.enc),pc,.int .i64 c.pairsAt,
  .int .i64 c.left.kind,.int .i64 c.left.pos,.str c.left.text,.sl .no 2 (c.left.names.map Word.enc),.sl .no 5 (c.left.kids.map Nd.enc),.int .i64 c.right.kind,.int .i64 c.right.pos,.str c.right.text,.sl .no 2 (c.right.names.map Word.enc),.sl .no 5 (c.right.kids.map Nd.enc)]
def Cmd.enc (c:Cmd):List V:=c.encP (.sl .no 4 (c.pairs.map penc))
def formT:List (List UInt8 × List UInt8) :=
  [([],[]),([99,104,97,105,110],[110,119]),([112,111,119,101,114],[110,119]),([112,114,111,100,117,99,116],[110,119]),([103,114,105,100],[110,119,112]),([116,97,98,108,101],[110,119,112]),([108,97,98,101,108],[110,119]),([114,111,119],[110,119]),([108,101,113],[110,116,116]),([114,111,119,101,113],[110,114,114]),([108,97,99,107,115],[110,102]),([112,117,115,104],[]),([112,111,112],[]),([99,104,101,99,107],[]),([99,111,114,101],[]),([119,104,121],[110])]
def formCells:List V:=(formT.map fun p=>[V.str p.1,V.str p.2]).flatten
def formOf (op:Int):List UInt8 × List UInt8:=if 0≤op∧op<16 then formT.getD op.toNat ([],[]) else ([],[])
end Go.Am

namespace Go.Am
structure PInv (l:List Tree) (fin:Int) (x:Rdr × Cmd):Prop where
  hl:x.1.l=l
  hf:x.1.fin=fin
  ge:0≤x.1.at_
  le:x.1.at_≤(l.length:Int)+1
  ok:x.1.bad=none→x.1.at_≤(l.length:Int)
theorem PInv.goes {l:List Tree} {fin:Int} {x:Rdr × Cmd} {r:Rdr} {c:Cmd} (h:PInv l fin x) (hb:x.1.bad=none) (g:Goes x.1 r) (hf:r.fin=x.1.fin):PInv l fin (r,c):=by
  obtain⟨h1,h2,h3,h4,h5⟩:=h;have h5:=h5 hb;obtain⟨g1,g2⟩:=g;rw[h1] at g2;have g2:=g2 h3 (by omega);exact⟨g1.trans h1,hf.trans h2,by simp only;omega,by simp only;omega,fun _=>by simp only;omega⟩
theorem PInv.bad {l:List Tree} {fin:Int} {r:Rdr} {c c' : Cmd} {a:Int} (h:PInv l fin (r,c)):PInv l fin ({r with bad:=some a},c'):=⟨h.hl,h.hf,h.ge,h.le,fun h=>by simp at h⟩
theorem form_ascii (op:Int):∀c∈(formOf op).2,c.toNat<128:=by
  unfold formOf;split
  · rename_i h1;have hlt:op.toNat<16:=by omega
    generalize op.toNat=n at hlt ⊢;have key:∀n<16,∀c∈(formT.getD n ([],[])).2,c.toNat<128:=by decide
    exact key n hlt
  · simp
end Go.Am

namespace Go.Am
def varFl (s:Scp) (lat:Int) (t:List UInt8) (p kind:Int):List Flt :=
  match findV s.vars t with
  | none=>if (findL s.lats t).isNone then [⟨3,p⟩] else [⟨4,p⟩]
  | some v => match s.vars[v]? with
    | some x=>if x.kind≠kind∨(0≤lat∧x.lat≠lat) then [⟨4,p⟩] else []
    | none=>[]
def latFl (s:Scp) (w:Word):List Flt:=if (findL s.lats w.text).isNone then (if (findV s.vars w.text).isNone then [⟨3,w.pos⟩] else [⟨4,w.pos⟩]) else []
def elmO (s:Scp) (lat:Int) (n:Nd):Option Int:=(elemF (shapeF s lat.toNat) (n.kids.getD 0 nd0)).2
def elmFl (s:Scp) (lat:Int) (n:Nd):List Flt:=if 0<n.kids.length∧0≤lat then (match elmO s lat n with | some p=>[⟨4,p⟩] | none=>[]) else []
def atmFl (s:Scp) (lat:Int) (n:Nd):List Flt:=if n.kind=1 then varFl s lat n.text n.pos 1 else if n.kind=7 then elmFl s lat n else []
mutual
def labFl (s:Scp) (lat:Int):Nd→List Flt
  | .mk k p t ws ks=>atmFl s lat (.mk k p t ws ks)++if k=1∨k=7 then [] else labsFl s lat ks
def labsFl (s:Scp) (lat:Int):List Nd→List Flt
  | []=>[]
  | n::ns=>labFl s lat n++labsFl s lat ns
end
theorem labsFl_map {s:Scp} {lat:Int}:∀{l:List Nd},labsFl s lat l=l.flatMap (labFl s lat)
  | []=>by simp[labsFl]
  | n::ns=>by simp[labsFl,labsFl_map]
theorem labFl_eq {s:Scp} {lat:Int} (n:Nd):labFl s lat n=atmFl s lat n++if n.kind=1∨n.kind=7 then [] else n.kids.flatMap (labFl s lat):=by
  cases n;rw[labFl,labsFl_map];rfl
def dupFl (ks:List Nd) (i:Nat):List Flt:=if (findS ((ks.take i).map Nd.text) (ks.getD i nd0).text).isSome then [⟨4,(ks.getD i nd0).pos⟩] else []
def fldFl (s:Scp) (lat:Int) (ks:List Nd) (i:Nat):List Flt:=dupFl ks i++(ks.getD i nd0).kids.flatMap (atmFl s lat)
def fldsFl (s:Scp) (lat:Int) (ks:List Nd) (m:Nat):List Flt:=(List.range m).flatMap (fldFl s lat ks)
def tailFl (s:Scp) (lat:Int) (ws:List Word):List Flt:=ws.flatMap fun w=>varFl s lat w.text w.pos 2
def rowFl (s:Scp) (lat p:Int) (n:Nd):List Flt :=
  if n.kind=1 then varFl s lat n.text n.pos 2 else if n.kind=10 then fldsFl s lat n.kids n.kids.length++tailFl s lat n.names++(if 16<n.kids.length then [⟨7,p⟩] else []) else []
def latI (s:Scp) (c:Cmd):Int:=optI (findL s.lats c.name.text)
def defFl (n:Nd):List Flt:=if n.kind=8∨n.kind=9 then [⟨6,n.pos⟩] else []
def cmdFl (s:Scp) (c:Cmd):List Flt :=
  if c.op=10 then varFl s (-1) c.name.text c.name.pos 2
  else if c.op=15 then varFl s (-1) c.name.text c.name.pos 1
  else if c.op=8 then latFl s c.name++labFl s (latI s c) c.left++labFl s (latI s c) c.right++defFl c.right
  else if c.op=9 then latFl s c.name++rowFl s (latI s c) c.pos c.left++rowFl s (latI s c) c.pos c.right
  else []
def faultC (s:Scp) (c:Cmd):Flt:=leastF (cmdFl s c)
def EqF (a b:List Flt):Prop:=∀f:Flt,f.cls≠0→(f∈a↔f∈b)
theorem EqF.refl (a:List Flt):EqF a a:=fun _ _=>Iff.rfl
theorem EqF.app {a b c d:List Flt} (h:EqF a b) (k:EqF c d):EqF (a++c) (b++d):=fun f hf=>by rw[List.mem_append,List.mem_append,h f hf,k f hf]
theorem EqF.flat {α:Type} {f g:α→List Flt}:∀{l:List α},(∀x∈l,EqF (f x) (g x))→EqF (l.flatMap f) (l.flatMap g)
  | [],_=>EqF.refl _
  | x::l,h=>by rw[List.flatMap_cons,List.flatMap_cons];exact(h x (by simp)).app (EqF.flat fun y hy=>h y (by simp[hy]))
section
variable {s:Scp} {lat:Int}
end
end Go.Am

namespace Go.Am
def wenc (τ:Nat) (l:List Flt) (s:Scp) (lat p:Int):List V:=[.sl (.tk τ) 2 (l.map Flt.enc),.sl .no 3 (s.lats.map Ltc.enc),.sl .no 3 (s.vars.map Vrb.enc),.int .i64 lat,.int .i64 p]
def wput (σ:Store) (b τ:Nat) (l:List Flt) (s:Scp) (lat p:Int):Store:=(σ.set b (wenc τ l s lat p)).setTip τ l.length
section
variable {σ:Store} {b b' τ n:Nat} {l:List Flt} {s:Scp} {lat lat' p x y:Int} {c:List V}
theorem wput_box:(wput σ b τ l s lat p).box b=some (wenc τ l s lat p):=by simp[wput,Store.set,Store.setTip]
theorem wput_ne (h:b' ≠ b):(wput σ b τ l s lat p).box b' = σ.box b' := by simp[wput,Store.set,Store.setTip,h]
theorem wput_tip:(wput σ b τ l s lat p).tip τ=some l.length:=by simp[wput,Store.set,Store.setTip]
theorem wput_setne (h:b' ≠ b):(wput σ b τ l s lat p).set b' c=wput (σ.set b' c) b τ l s lat p:=by
  simp only[wput,Store.set,Store.setTip,Store.mk.injEq,and_true];funext z
  by_cases h1:z=b'
  · subst h1;simp[h]
  · simp[h1]
theorem wput_lat:(wput σ b τ l s lat p).set b [.sl (.tk τ) 2 (l.map Flt.enc),.sl .no 3 (s.lats.map Ltc.enc),.sl .no 3 (s.vars.map Vrb.enc),.int .i64 x,.int .i64 p]=wput σ b τ l s x p:=by
  simp only[wput,wenc,Store.set,Store.setTip,Store.mk.injEq,and_true];funext z
  by_cases h1:z=b<;>simp[h1]
theorem wput_app:((wput σ b τ l s lat p).setTip τ (l.length+1)).set b [.sl (.tk τ) 2 (l.map Flt.enc++[[.int .i64 x,.int .i64 y]]),.sl .no 3 (s.lats.map Ltc.enc),.sl .no 3 (s.vars.map Vrb.enc),.int .i64 lat,.int .i64 p]=wput σ b τ (l++[⟨x,y⟩]) s lat p:=by
  simp only[wput,wenc,Store.set,Store.setTip,Store.mk.injEq,List.map_append,List.map_cons,List.map_nil,Flt.enc,List.length_append,List.length_singleton,and_true];constructor
  · funext z
    by_cases h1:z=b<;>simp[h1]
  · funext z
    by_cases h1:z=τ<;>simp[h1]
theorem wput_sub (h:σ.box b=none) (ht:σ.tip τ=none):σ.sub (wput σ b τ l s lat p):=by
  refine⟨fun x cs hx=>?_,fun t m hm=>?_,fun _ _ h=>h⟩
  · have:x≠b:=by rintro rfl;rw[h] at hx;simp at hx
    rw[wput_ne this];exact hx
  · have:t≠τ:=by rintro rfl;rw[ht] at hm;simp at hm
    simp[wput,Store.set,Store.setTip,this];exact hm
theorem wput_new (h:b' ≠ b) (hn:σ.box b' = none):(wput σ b τ l s lat p).sub (wput (σ.set b' c) b τ l s lat p):=by
  refine⟨fun x cs hx=>?_,fun t m hm=>?_,fun _ _ h=>h⟩
  · by_cases h1:x=b
    · subst h1;rw[wput_box] at hx ⊢;exact hx
    · rw[wput_ne h1] at hx ⊢
      have:x≠b' := by rintro rfl;rw[hn] at hx;simp at hx
      simp only[Store.set,this,if_false];exact hx
  · simpa [wput,Store.set,Store.setTip] using hm
theorem w_f:ldC false 1 (wenc τ l s lat p)=some (.sl (.tk τ) 2 (l.map Flt.enc)):=rfl
theorem w_s:takeN 2 ((wenc τ l s lat p).drop 1)=some s.enc:=rfl
theorem w_l:ldC false 1 ((wenc τ l s lat p).drop 1)=some (.sl .no 3 (s.lats.map Ltc.enc)):=rfl
theorem w_v:ldC false 1 ((wenc τ l s lat p).drop 2)=some (.sl .no 3 (s.vars.map Vrb.enc)):=rfl
theorem w_t:ldC false 1 ((wenc τ l s lat p).drop 3)=some (.int .i64 lat):=rfl
theorem w_p:ldC false 1 ((wenc τ l s lat p).drop 4)=some (.int .i64 p):=rfl
theorem w_h:hasN 1 (wenc τ l s lat p)=true:=rfl
theorem w_h3:hasN 1 ((wenc τ l s lat p).drop 3)=true:=rfl
theorem w_o {v:V}:over (wenc τ l s lat p) [v]=[v,.sl .no 3 (s.lats.map Ltc.enc),.sl .no 3 (s.vars.map Vrb.enc),.int .i64 lat,.int .i64 p]:=rfl
theorem w_o3 {v:V}:setAt (wenc τ l s lat p) 3 [v]=[.sl (.tk τ) 2 (l.map Flt.enc),.sl .no 3 (s.lats.map Ltc.enc),.sl .no 3 (s.vars.map Vrb.enc),v,.int .i64 p]:=rfl
theorem wd_t {w:Word}:ldC false 1 w.enc=some (.str w.text):=rfl
theorem wd_p {w:Word}:ldC false 1 (w.enc.drop 1)=some (.int .i64 w.pos):=rfl
theorem w_b {u v x y:V}:over [u,v,x,y] s.enc=[.sl .no 3 (s.lats.map Ltc.enc),.sl .no 3 (s.vars.map Vrb.enc),x,y]:=rfl
def wr_:=And.intro @w_b <| And.intro @wd_t <| And.intro @wd_p <| And.intro @wput_box <| And.intro @wput_tip <| And.intro @w_f <| And.intro @w_s <| And.intro @w_l <| And.intro @w_v <| And.intro @w_t <| And.intro @w_p <| And.intro @w_h <| And.intro @w_h3 <| And.intro @w_o @w_o3
end
end Go.Am

namespace Go.Am
theorem wput_tipne {σ:Store} {b τ υ n:Nat} {l:List Flt} {s:Scp} {lat p:Int} (h:υ≠τ):(wput σ b τ l s lat p).setTip υ n=wput (σ.setTip υ n) b τ l s lat p:=by
  simp only[wput,Store.set,Store.setTip,Store.mk.injEq,true_and,and_true];funext z
  by_cases h1:z=υ
  · subst h1;simp[h]
  · simp[h1]
theorem wput_mono {σ σ' : Store} {b τ:Nat} {l:List Flt} {s:Scp} {lat p:Int} (h:σ.sub σ'):(wput σ b τ l s lat p).sub (wput σ' b τ l s lat p):=by
  refine⟨fun x cs hx=>?_,fun t m hm=>?_,h.2.2⟩
  · by_cases h1:x=b
    · subst h1;rw[wput_box] at hx ⊢;exact hx
    · rw[wput_ne h1] at hx ⊢;exact h.1 x cs hx
  · simp only[wput,Store.set,Store.setTip] at hm ⊢;split
    · rename_i e;rw[if_pos e] at hm;exact hm
    · rename_i e;rw[if_neg e] at hm;exact h.2.1 t m hm
structure Ah (σ σ' : Store) (τ:Nat) (tk:Tk) (n:Nat):Prop where
  box:σ'.box=σ.box
  sub:σ.sub σ'
  tk:tk = .full∨∃υ,tk = .tk υ∧υ≠τ∧σ'.tip υ=some n∧σ.tip υ=none
theorem Ah.nil {σ:Store} {τ:Nat}:Ah σ σ τ .full 0:=⟨rfl,Store.sub_refl σ,.inl rfl⟩
theorem Ah.app {σ σ' : Store} {b τ k:Nat} {tk u:Tk} {l:List Flt} {s:Scp} {lat p:Int} {m e:List (List V)} {K:V→Store→Prop} (h:Ah σ σ' τ tk m.length) (hb:m.length+e.length≤big)
    (hk:∀tk' σ'',Ah σ σ'' τ tk' (m++e).length→K (.sl tk' k (m++e)) (wput σ'' b τ l s lat p)):AppOk (wput σ' b τ l s lat p) k (.sl tk k m) (.sl u k e) K:=by
  have hl:(m++e).length=m.length+e.length:=List.length_append;have up:∀υ n,σ'.tip υ=none∨σ.tip υ=none→σ.sub (σ'.setTip υ n):=fun υ n hn=>⟨fun x cs hx=>h.sub.1 x cs hx,fun t q hq=>by
    have hne:t≠υ:=by
      rintro rfl
      rcases hn with hn | hn
      · rw[h.sub.2.1 _ _ hq] at hn;simp at hn
      · rw[hq] at hn;simp at hn
    simp only[Store.setTip,if_neg hne];exact h.sub.2.1 t q hq,h.sub.2.2⟩
  rcases h.tk with rfl | ⟨υ,rfl,hne,ht,h0⟩
  · refine app_full hb fun υ hυ=>?_
    have hne:υ≠τ:=by rintro rfl;rw[wput_tip] at hυ;simp at hυ
    have hυ' : σ'.tip υ=none:=by simpa [wput,Store.set,Store.setTip,hne] using hυ
    rw[wput_tipne hne];refine hk _ _ ⟨h.box,up υ _ (.inl hυ'),.inr ⟨υ,rfl,hne,by rw[hl];simp[Store.setTip],?_⟩⟩;cases hq:σ.tip υ with
    | none=>rfl
    | some n=>rw[h.sub.2.1 _ _ hq] at hυ';simp at hυ'
  · refine app_tk hb (by simpa [wput,Store.set,Store.setTip,hne] using ht) ?_;rw[wput_tipne hne];exact hk _ _ ⟨h.box,up υ _ (.inr h0),.inr ⟨υ,rfl,hne,by rw[hl];simp[Store.setTip],h0⟩⟩
section
variable {s:Scp} {lat:Int}
theorem varFl_len {t:List UInt8} {p k:Int}:(varFl s lat t p k).length≤1:=by
  unfold varFl;split
  · split<;>simp
  · split
    · split<;>simp
    · simp
theorem latFl_len {w:Word}:(latFl s w).length≤1:=by unfold latFl;split;(split<;>simp);simp
theorem atmFl_len {n:Nd}:(atmFl s lat n).length≤1:=by
  unfold atmFl;split
  · exact varFl_len
  · split
    · unfold elmFl;split
      · cases elmO s lat n<;>simp
      · simp
    · simp
mutual
theorem labFl_len:∀n:Nd,(labFl s lat n).length≤n.cnt
  | .mk k p t ws ks => by
    have h1:=@atmFl_len s lat (.mk k p t ws ks);have h2:=labsFl_len ks;rw[labFl,List.length_append,Nd.cnt];split
    · simp;omega
    · omega
theorem labsFl_len:∀l:List Nd,(labsFl s lat l).length≤cnts l
  | []=>by simp[labsFl]
  | n :: ns => by
    have:=labFl_len n;have:=labsFl_len ns
    rw[labsFl,List.length_append,cnts];omega
end
theorem cnts_take2:∀{l:List Nd} {i:Nat} (hi:i<l.length),cnts (l.take i)+l[i].cnt≤cnts l
  | [],i,hi=>by simp at hi
  | n::ns,0,_=>by simp[cnts]
  | n :: ns, i + 1, hi => by
    have:=cnts_take2 (l:=ns) (i:=i) (by simpa using hi)
    simp only[List.take_succ_cons,cnts,List.getElem_cons_succ];omega
theorem labs_take {l:List Nd} {i:Nat} (hi:i<l.length):((l.take i).flatMap (labFl s lat)).length+l[i].cnt≤cnts l:=by
  have h1:=@labsFl_len s lat (l.take i);rw[labsFl_map] at h1
  have:=cnts_take2 hi
  omega
theorem flat_len {α:Type} {f:α→List Flt} {m:Nat}:∀{l:List α},(∀x∈l,(f x).length≤m)→(l.flatMap f).length≤l.length*m
  | [],_=>by simp
  | x :: l, h => by
    have:=h x (by simp)
    have:=flat_len (m:=m) (l:=l) fun y hy=>h y (by simp[hy])
    rw[List.flatMap_cons,List.length_append,List.length_cons,Nat.add_mul,Nat.one_mul];omega
theorem flat_take {α:Type} {f:α→List Flt} {l:List α} {i:Nat} (hi:i<l.length):(l.take (i+1)).flatMap f=(l.take i).flatMap f++f l[i]:=by
  rw[List.take_succ_eq_append_getElem hi,List.flatMap_append];simp
theorem tailFl_len {ws:List Word}:(tailFl s lat ws).length≤ws.length:=by
  have:=flat_len (f:=fun w:Word=>varFl s lat w.text w.pos 2) (m:=1) (l:=ws) fun _ _=>varFl_len
  rw[Nat.mul_one] at this;exact this
theorem fldFl_len {ks:List Nd} {i:Nat}:(fldFl s lat ks i).length≤1+(ks.getD i nd0).kids.length:=by
  have:=flat_len (f:=atmFl s lat) (m:=1) (l:=(ks.getD i nd0).kids) fun _ _=>atmFl_len
  have h2:(dupFl ks i).length≤1:=by unfold dupFl;split<;>simp
  rw[fldFl,List.length_append];omega
theorem fldsFl_succ {ks:List Nd} {m:Nat}:fldsFl s lat ks (m+1)=fldsFl s lat ks m++fldFl s lat ks m:=by
  simp only[fldsFl,List.range_succ,List.flatMap_append,List.flatMap_cons,List.flatMap_nil,List.append_nil]
theorem fldsFl_len {ks:List Nd} {N:Nat} (h:∀k∈ks,k.kids.length≤N):∀{m:Nat},m≤ks.length→(fldsFl s lat ks m).length≤m*(1+N)
  | 0,_=>by simp[fldsFl]
  | m + 1, hm => by
    have h1:=fldsFl_len h (m:=m) (by omega);have h2:=@fldFl_len s lat ks m;have h3:(ks.getD m nd0).kids.length≤N:=by rw[getD_at (by omega)];exact h _ (List.getElem_mem _)
    rw[fldsFl_succ,List.length_append,Nat.add_mul,Nat.one_mul];omega
theorem rowFl_len {p:Int} {n:Nd} (hc:n.cnt≤500):(rowFl s lat p n).length≤260000:=by
  have hkk:∀k∈n.kids,k.kids.length≤500:=fun k hk=>by have:=cnt_kids k;have:=cnt_kid hk;omega
  have hkc:=cnt_kids n;have hnc:=cnt_names n;have h1:=fldsFl_len (s:=s) (lat:=lat) hkk (Nat.le_refl _);have h2:=Nat.mul_le_mul_right (1+500) (show n.kids.length≤500 by omega);have h3:=@tailFl_len s lat n.names;have h4:=@varFl_len s lat n.text n.pos 2;unfold rowFl;split
  · omega
  · split
    · simp only[List.length_append]
      have:(if 16<n.kids.length then [(⟨7,p⟩:Flt)] else []).length≤1:=by split<;>simp
      omega
    · simp
end
end Go.Am

namespace Go.Am
def atmZ:List V:=.int .i64 0::List.replicate 8 (.int .u64 0)
def fldZ:List V:=.str []::.int .i64 0::List.replicate 8 (.int .u64 0)
structure Atm where
  v:Int
  c:Elm
structure Fld where
  name:List UInt8
  a:Atm
structure Rtm where
  fs:List Fld
  tail:Int
structure Ast where
  op:Int
  lat:Int
  code:List Ins
  to:Atm
  a:Rtm
  b:Rtm
  v:Int
  field:List UInt8
theorem Elm.cases8 {P:Elm→Prop} (h:∀(a b c d e f g i:B64) (hl:[a,b,c,d,e,f,g,i].length=8),P ⟨[a,b,c,d,e,f,g,i],hl⟩) (e:Elm):P e:=by
  obtain⟨w,hl⟩:=e
  match w,hl with
  | [a,b,c,d,e,f,g,i],hl=>exact h a b c d e f g i hl
def Atm.enc (x:Atm):List V:=.int .i64 x.v::x.c.enc
def Fld.enc (x:Fld):List V:=.str x.name::x.a.enc
def Rtm.enc (x:Rtm):List V:=[.sl .no 10 (x.fs.map Fld.enc),.int .i64 x.tail]
def astV (op lat:Int) (c:V) (to:Atm) (fa:V) (ta:Int) (fb:V) (tb v:Int) (f:List UInt8):List V:=.int .i64 op::.int .i64 lat::c::(to.enc++[fa,.int .i64 ta,fb,.int .i64 tb,.int .i64 v,.str f])
def Ast.enc (x:Ast):List V:=astV x.op x.lat (.sl .no 10 (x.code.map Ins.enc)) x.to (.sl .no 10 (x.a.fs.map Fld.enc)) x.a.tail (.sl .no 10 (x.b.fs.map Fld.enc)) x.b.tail x.v x.field
def Atm.zero:Atm:=⟨0,.zero⟩
def Rtm.zero:Rtm:=⟨[],0⟩
def Ast.zero:Ast:=⟨0,0,[],.zero,.zero,.zero,0,[]⟩
def astZ:List V:=astV 0 0 (.sl .full 10 []) .zero (.sl .full 10 []) 0 (.sl .full 10 []) 0 0 []
theorem Atm.ext' {x y:Atm} (h:x.v=y.v) (k:x.c=y.c):x=y:=by cases x;cases y;simp only at h k;subst h;subst k;rfl
theorem Fld.ext' {x y:Fld} (h:x.name=y.name) (k:x.a=y.a):x=y:=by cases x;cases y;simp only at h k;subst h;subst k;rfl
instance:DecidableEq Atm:=fun x y=>if h:x.v=y.v∧x.c=y.c then isTrue (Atm.ext' h.1 h.2) else isFalse fun e=>h ⟨e▸rfl,e▸rfl⟩
instance:DecidableEq Fld:=fun x y=>if h:x.name=y.name∧x.a=y.a then isTrue (Fld.ext' h.1 h.2) else isFalse fun e=>h ⟨e▸rfl,e▸rfl⟩
section
variable {x y:Atm} {n:Nat} {i:Int} {e:Elm}
theorem Atm.r_len:x.enc.length=9:=by simp[Atm.enc,Elm.r_len]
theorem Atm.r_one:oneL x.enc=true:=by simp[Atm.enc,oneL,V.one,Elm.r_one]
theorem Atm.r_nol:nolL x.enc=true:=by simp[Atm.enc,nolL,V.nol,Elm.r_nol]
theorem Atm.r_er:eraseL x.enc=x.enc:=by simp[Atm.enc,eraseL,V.erase,Elm.r_er]
theorem Atm.r_lo:loL n x.enc=true:=by simp[Atm.enc,loL,V.lo,Elm.r_lo]
theorem Atm.r_tk:takeN 9 x.enc=some x.enc:=by have:=takeN_all (c:=x.enc);rwa [Atm.r_len] at this
theorem Atm.r_ld:ldC true 9 x.enc=some (.agg x.enc):=by rw[ldC_agg,Atm.r_tk];rfl
theorem Atm.r_has:hasN 9 x.enc=true:=by have:=hasN_all (c:=x.enc);rwa [Atm.r_len] at this
theorem Atm.r_ov:over y.enc x.enc=x.enc:=over_all (by rw[Atm.r_len,Atm.r_len])
theorem Atm.r_v:ldC false 1 x.enc=some (.int .i64 x.v):=rfl
theorem Atm.r_c:takeN 8 (x.enc.drop 1)=some x.c.enc:=by show takeN 8 x.c.enc=_;exact Elm.r_tk
theorem Atm.r_z:atmZ=Atm.zero.enc:=by rw[Atm.enc];show _=V.int .i64 0::Elm.zero.enc;rw[←Elm.r_zero];rfl
theorem Atm.b_v:over x.enc [.int .i64 i]=(Atm.mk i x.c).enc:=by rw[Atm.enc,over_cons,over_nil];rfl
theorem Atm.b_h:hasN 1 x.enc=true:=rfl
theorem Atm.b_h8:hasN 8 (x.enc.drop 1)=true:=by show hasN 8 x.c.enc=true;exact Elm.r_has
theorem Atm.b_c:setAt x.enc 1 e.enc=(Atm.mk x.v e).enc:=by rw[Atm.enc,setAt_succ,setAt_zero,Elm.r_ov];rfl
theorem Atm.r_eq:eqC [1,1,1,1,1,1,1,1,1] x.enc y.enc=some (decide (x=y)):=by
  rw[Atm.enc,Atm.enc,eqC_int,Elm.r_eq,andM_some];congr 1;rw[←Bool.decide_and];exact decide_eq_decide.2 ⟨fun h=>Atm.ext' h.1 h.2,fun h=>h▸⟨rfl,rfl⟩⟩
def Atm.rec_:=And.intro @Atm.r_len <| And.intro @Atm.r_one <| And.intro @Atm.r_nol <| And.intro @Atm.r_er <| And.intro @Atm.r_lo <| And.intro @Atm.r_tk <| And.intro @Atm.r_ld <| And.intro @Atm.r_has <| And.intro @Atm.r_ov <| And.intro @Atm.r_v <| And.intro @Atm.r_c <| And.intro @Atm.r_z <| And.intro @Atm.b_v <| And.intro @Atm.b_h <| And.intro @Atm.b_h8 <| And.intro @Atm.b_c @Atm.r_eq
end
section
variable {x y:Fld} {n:Nat} {t:List UInt8} {a:Atm}
theorem Fld.r_len:x.enc.length=10:=by simp[Fld.enc,Atm.r_len]
theorem Fld.r_one:oneL x.enc=true:=by simp[Fld.enc,oneL,V.one,Atm.r_one]
theorem Fld.r_nol:nolL x.enc=true:=by simp[Fld.enc,nolL,V.nol,Atm.r_nol]
theorem Fld.r_er:eraseL x.enc=x.enc:=by simp[Fld.enc,eraseL,V.erase,Atm.r_er]
theorem Fld.r_lo:loL n x.enc=true:=by simp[Fld.enc,loL,V.lo,Atm.r_lo]
theorem Fld.r_tk:takeN 10 x.enc=some x.enc:=by have:=takeN_all (c:=x.enc);rwa [Fld.r_len] at this
theorem Fld.r_ld:ldC true 10 x.enc=some (.agg x.enc):=by rw[ldC_agg,Fld.r_tk];rfl
theorem Fld.r_has:hasN 10 x.enc=true:=by have:=hasN_all (c:=x.enc);rwa [Fld.r_len] at this
theorem Fld.r_ov:over y.enc x.enc=x.enc:=over_all (by rw[Fld.r_len,Fld.r_len])
theorem Fld.r_n:ldC false 1 x.enc=some (.str x.name):=rfl
theorem Fld.r_a:takeN 9 (x.enc.drop 1)=some x.a.enc:=by show takeN 9 x.a.enc=_;exact Atm.r_tk
theorem Fld.r_z:fldZ=(Fld.mk [] .zero).enc:=by rw[Fld.enc];show _=V.str []::Atm.zero.enc;rw[←Atm.r_z];rfl
theorem Fld.b_n:over x.enc [.str t]=(Fld.mk t x.a).enc:=by rw[Fld.enc,over_cons,over_nil];rfl
theorem Fld.b_h:hasN 1 x.enc=true:=rfl
theorem Fld.b_h9:hasN 9 (x.enc.drop 1)=true:=by show hasN 9 x.a.enc=true;exact Atm.r_has
theorem Fld.b_a:setAt x.enc 1 a.enc=(Fld.mk x.name a).enc:=by rw[Fld.enc,setAt_succ,setAt_zero,Atm.r_ov];rfl
theorem Fld.r_eq:eqC [2,1,1,1,1,1,1,1,1,1] x.enc y.enc=some (decide (x=y)):=by
  rw[Fld.enc,Fld.enc,eqC_str,Atm.r_eq,andM_some];congr 1;rw[←Bool.decide_and];exact decide_eq_decide.2 ⟨fun h=>Fld.ext' h.1 h.2,fun h=>h▸⟨rfl,rfl⟩⟩
def Fld.rec_:=And.intro @Fld.r_len <| And.intro @Fld.r_one <| And.intro @Fld.r_nol <| And.intro @Fld.r_er <| And.intro @Fld.r_lo <| And.intro @Fld.r_tk <| And.intro @Fld.r_ld <| And.intro @Fld.r_has <| And.intro @Fld.r_ov <| And.intro @Fld.r_n <| And.intro @Fld.r_a <| And.intro @Fld.r_z <| And.intro @Fld.b_n <| And.intro @Fld.b_h <| And.intro @Fld.b_h9 <| And.intro @Fld.b_a @Fld.r_eq
end
section
variable {x:Rtm} {n:Nat} {u w:V}
theorem Rtm.r_len:x.enc.length=2:=rfl
theorem Rtm.r_one:oneL x.enc=true:=rfl
theorem Rtm.r_nol:nolL x.enc=true:=rfl
theorem Rtm.r_er:eraseL x.enc=x.enc:=rfl
theorem Rtm.r_lo:loL n x.enc=true:=rfl
theorem Rtm.r_tk:takeN 2 x.enc=some x.enc:=rfl
theorem Rtm.r_ld:ldC true 2 x.enc=some (.agg x.enc):=rfl
theorem Rtm.r_has:hasN 2 x.enc=true:=rfl
theorem Rtm.r_ov:over [u,w] x.enc=x.enc:=rfl
theorem Rtm.r_f:ldC false 1 x.enc=some (.sl .no 10 (x.fs.map Fld.enc)):=rfl
theorem Rtm.r_t:ldC false 1 (x.enc.drop 1)=some (.int .i64 x.tail):=rfl
def Rtm.rec_:=And.intro @Rtm.r_len <| And.intro @Rtm.r_one <| And.intro @Rtm.r_nol <| And.intro @Rtm.r_er <| And.intro @Rtm.r_lo <| And.intro @Rtm.r_tk <| And.intro @Rtm.r_ld <| And.intro @Rtm.r_has <| And.intro @Rtm.r_ov <| And.intro @Rtm.r_f @Rtm.r_t
end
section
variable {op lat ta tb v i:Int} {c fa fb d:V} {to tp:Atm} {r:Rtm} {f g:List UInt8} {x:Ast} {n:Nat}
theorem ast_len:(astV op lat c to fa ta fb tb v f).length=18:=by simp[astV,Atm.r_len]
theorem ast_tk:takeN 18 (astV op lat c to fa ta fb tb v f)=some (astV op lat c to fa ta fb tb v f):=by have:=takeN_all (c:=astV op lat c to fa ta fb tb v f);rwa [ast_len] at this
theorem ast_has:hasN 18 (astV op lat c to fa ta fb tb v f)=true:=by have:=hasN_all (c:=astV op lat c to fa ta fb tb v f);rwa [ast_len] at this
theorem ast_ov {op' lat' ta' tb' v' : Int} {c' fa' fb' : V} {f' : List UInt8}:over (astV op lat c to fa ta fb tb v f) (astV op' lat' c' tp fa' ta' fb' tb' v' f')=astV op' lat' c' tp fa' ta' fb' tb' v' f' := over_all (by rw[ast_len,ast_len])
theorem ast_one (h1:c.one=true) (h2:fa.one=true) (h3:fb.one=true):oneL (astV op lat c to fa ta fb tb v f)=true:=by
  have h:=@Atm.r_one to;simp only[astV,oneL,one_int,Bool.true_and,h1];rw[oneL_app,h];simp only[oneL,one_int,one_str,h2,h3,Bool.and_self]
theorem ast_nol (h1:c.nol=true) (h2:fa.nol=true) (h3:fb.nol=true):nolL (astV op lat c to fa ta fb tb v f)=true:=by
  have h:=@Atm.r_nol to;have app:∀{a b:List V},nolL a=true→nolL b=true→nolL (a++b)=true:=by
    intro a;induction a with
    | nil=>intro b _ h;exact h
    | cons x a ih=>intro b h1 h2;simp only[nolL,Bool.and_eq_true,List.cons_append] at h1 ⊢;exact⟨h1.1,ih h1.2 h2⟩
  simp only[astV,nolL,V.nol,Bool.true_and,h1];exact app h (by simp[nolL,V.nol,h2,h3])
theorem ast_er:eraseL (astV op lat c to fa ta fb tb v f)=astV op lat c.erase to fa.erase ta fb.erase tb v f:=by
  have h:=@Atm.r_er to;have app:∀{a b:List V},eraseL (a++b)=eraseL a++eraseL b:=by
    intro a;induction a with
    | nil=>intro b;rfl
    | cons x a ih=>intro b;simp only[eraseL,List.cons_append,ih]
  simp only[astV,eraseL,V.erase,app,h]
theorem ast_d12:(astV op lat c to fa ta fb tb v f).drop 12=[fa,.int .i64 ta,fb,.int .i64 tb,.int .i64 v,.str f]:=by
  simp only[astV,List.drop_succ_cons];exact List.drop_left' Atm.r_len
theorem ast_l0:ldC false 1 (astV op lat c to fa ta fb tb v f)=some (.int .i64 op):=rfl
theorem ast_l1:ldC false 1 ((astV op lat c to fa ta fb tb v f).drop 1)=some (.int .i64 lat):=rfl
theorem ast_l2:ldC false 1 ((astV op lat c to fa ta fb tb v f).drop 2)=some c:=rfl
theorem ast_l3:takeN 9 ((astV op lat c to fa ta fb tb v f).drop 3)=some to.enc:=takeN_app Atm.r_len
theorem ast_l12:takeN 2 ((astV op lat c to fa ta fb tb v f).drop 12)=some [fa,.int .i64 ta]:=by rw[ast_d12];rfl
theorem ast_l14:takeN 2 ((astV op lat c to fa ta fb tb v f).drop 14)=some [fb,.int .i64 tb]:=by rw[show 14=12+2 from rfl,←List.drop_drop,ast_d12];rfl
theorem ast_l16:ldC false 1 ((astV op lat c to fa ta fb tb v f).drop 16)=some (.int .i64 v):=by rw[show 16=12+4 from rfl,←List.drop_drop,ast_d12];rfl
theorem ast_l17:ldC false 1 ((astV op lat c to fa ta fb tb v f).drop 17)=some (.str f):=by rw[show 17=12+5 from rfl,←List.drop_drop,ast_d12];rfl
theorem ast_h:hasN 1 (astV op lat c to fa ta fb tb v f)=true:=rfl
theorem ast_h1:hasN 1 ((astV op lat c to fa ta fb tb v f).drop 1)=true:=rfl
theorem ast_h2:hasN 1 ((astV op lat c to fa ta fb tb v f).drop 2)=true:=rfl
theorem ast_h3:hasN 9 ((astV op lat c to fa ta fb tb v f).drop 3)=true:=by obtain⟨tv,te⟩:=to;induction te using Elm.cases8;rfl
theorem ast_h12:hasN 2 ((astV op lat c to fa ta fb tb v f).drop 12)=true:=by rw[ast_d12];rfl
theorem ast_h14:hasN 2 ((astV op lat c to fa ta fb tb v f).drop 14)=true:=by rw[show 14=12+2 from rfl,←List.drop_drop,ast_d12];rfl
theorem ast_h16:hasN 1 ((astV op lat c to fa ta fb tb v f).drop 16)=true:=by rw[show 16=12+4 from rfl,←List.drop_drop,ast_d12];rfl
theorem ast_h17:hasN 1 ((astV op lat c to fa ta fb tb v f).drop 17)=true:=by rw[show 17=12+5 from rfl,←List.drop_drop,ast_d12];rfl
theorem ast_s0:over (astV op lat c to fa ta fb tb v f) [.int .i64 i]=astV i lat c to fa ta fb tb v f:=by rw[astV,over_cons,over_nil];rfl
theorem ast_s1:setAt (astV op lat c to fa ta fb tb v f) 1 [.int .i64 i]=astV op i c to fa ta fb tb v f:=by rw[astV,setAt_succ,setAt_zero,over_cons,over_nil];rfl
theorem ast_s2:setAt (astV op lat c to fa ta fb tb v f) 2 [d]=astV op lat d to fa ta fb tb v f:=by rw[astV,setAt_succ,setAt_succ,setAt_zero,over_cons,over_nil];rfl
theorem ast_s3:setAt (astV op lat c to fa ta fb tb v f) 3 tp.enc=astV op lat c tp fa ta fb tb v f:=by
  rw[astV,setAt_succ,setAt_succ,setAt_succ,setAt_zero,over_app (by rw[Atm.r_len,Atm.r_len];exact Nat.le_refl _),Atm.r_ov];rfl
theorem ast_sapp {m:List V} {k:Nat}:setAt (astV op lat c to fa ta fb tb v f) (12+k) m = .int .i64 op::.int .i64 lat::c::(to.enc++setAt [fa,.int .i64 ta,fb,.int .i64 tb,.int .i64 v,.str f] k m):=by
  rw[show 12+k=(9+k)+1+1+1 by omega,astV,setAt_succ,setAt_succ,setAt_succ];congr 3;have key:∀(a b:List V) (n:Nat),setAt (a++b) (a.length+n) m=a++setAt b n m:=by
    intro a;induction a with
    | nil=>intro b n;rw[List.length_nil,Nat.zero_add];rfl
    | cons x a ih=>intro b n;rw[List.cons_append,List.length_cons,show a.length+1+n=(a.length+n)+1 by omega,setAt_succ,ih];rfl
  have:=key to.enc [fa,.int .i64 ta,fb,.int .i64 tb,.int .i64 v,.str f] k
  rw[Atm.r_len] at this;exact this
theorem ast_s12:setAt (astV op lat c to fa ta fb tb v f) 12 [d,.int .i64 i]=astV op lat c to d i fb tb v f:=ast_sapp (k:=0)
theorem ast_s14:setAt (astV op lat c to fa ta fb tb v f) 14 [d,.int .i64 i]=astV op lat c to fa ta d i v f:=ast_sapp (k:=2)
theorem ast_s16:setAt (astV op lat c to fa ta fb tb v f) 16 [.int .i64 i]=astV op lat c to fa ta fb tb i f:=ast_sapp (k:=4)
theorem ast_s17:setAt (astV op lat c to fa ta fb tb v f) 17 [.str g]=astV op lat c to fa ta fb tb v g:=ast_sapp (k:=5)
theorem ast_s12r:setAt (astV op lat c to fa ta fb tb v f) 12 r.enc=astV op lat c to (.sl .no 10 (r.fs.map Fld.enc)) r.tail fb tb v f:=ast_sapp (k:=0)
theorem ast_s14r:setAt (astV op lat c to fa ta fb tb v f) 14 r.enc=astV op lat c to fa ta (.sl .no 10 (r.fs.map Fld.enc)) r.tail v f:=ast_sapp (k:=2)
theorem Ast.r_er:eraseL x.enc=x.enc:=ast_er
theorem Ast.r_nol:nolL x.enc=true:=ast_nol rfl rfl rfl
def ast_:=And.intro @ast_len <| And.intro @ast_tk <| And.intro @ast_has <| And.intro @ast_ov <| And.intro @ast_l0 <| And.intro @ast_l1 <| And.intro @ast_l2 <| And.intro @ast_l3 <| And.intro @ast_l12 <| And.intro @ast_l14 <| And.intro @ast_l16 <| And.intro @ast_l17 <| And.intro @ast_h <| And.intro @ast_h1 <| And.intro @ast_h2 <| And.intro @ast_h3 <| And.intro @ast_h12 <| And.intro @ast_h14 <| And.intro @ast_h16 <| And.intro @ast_h17 <| And.intro @ast_s0 <| And.intro @ast_s1 <| And.intro @ast_s2 <| And.intro @ast_s3 <| And.intro @ast_s12 <| And.intro @ast_s14 <| And.intro @ast_s16 <| And.intro @ast_s17 <| And.intro @ast_s12r @ast_s14r
end
end Go.Am

namespace Go.Am
def pairT (p:Word × Word):List UInt8:=p.1.text++[60]++p.2.text
def psum (l:List (Word × Word)):Nat:=(l.map fun p=>p.1.text.length+p.2.text.length+2).sum
theorem psum_len (l:List (Word × Word)):(joinC (l.map pairT)).length≤psum l∧l.length≤psum l:=by
  induction l with
  | nil=>simp[joinC,psum]
  | cons p ps ih =>
    have key:∀qs:List (Word × Word),((qs.map pairT).flatMap fun y=>44::y).length≤psum qs:=fun qs=>by
      induction qs with
      | nil=>simp
      | cons q qs ih=>simp[pairT,psum] at ih ⊢;omega
    have:=key ps
    have:=ih.2
    simp[joinC,pairT,psum] at *;omega
def Cmd.wt (c:Cmd):Nat:=c.name.text.length+wsum c.names+psum c.pairs+c.left.wt+c.right.wt
theorem psum_word (l:List Word):(joinC (l.map Word.text)).length≤wsum l∧l.length≤wsum l:=⟨wtext_len l,by
  induction l with
  | nil=>simp
  | cons w ws ih=>simp[wsum] at ih ⊢;omega⟩
end Go.Am

namespace Go.Am
def cntN (op:Int) (k:UInt8):Nat:=(formOf op).2.count k
def namedQ (l:List (List UInt8)):Bool:=l.all nameR
def Cmd.nameQ (c:Cmd):Bool:=if cntN c.op 110=0 then decide (c.name.text=[]) else nameR c.name.text
def Cmd.namesQ (c:Cmd):Bool :=
  if 0<cntN c.op 119 then decide (0<c.names.length)&&namedQ (c.names.map Word.text)
  else if 0<cntN c.op 102 then decide (c.names.length=1)&&namedQ (c.names.map Word.text)
  else decide (c.names.length=0)
def pairQ (p:Word × Word):Bool:=nameR p.1.text&&nameR p.2.text
def Cmd.pairsQ (c:Cmd):Bool:=if cntN c.op 112=0 then decide (c.pairs.length=0) else c.pairs.all pairQ
def Cmd.termsQ (c:Cmd):Bool :=
  if 0<cntN c.op 116 then c.left.labelQ&&c.right.labelQ
  else if 0<cntN c.op 114 then c.left.rowQ&&c.right.rowQ
  else c.left.sameQ .zero&&c.right.sameQ .zero
def Cmd.rightQ (c:Cmd):Bool:=decide (0≤c.op∧c.op≤15)&&c.nameQ&&c.namesQ&&c.pairsQ&&c.termsQ
def samePQ:List (Word × Word)→List (Word × Word)→Bool
  | [],[]=>true
  | p::ps,q::qs=>decide (p.1.text=q.1.text)&&decide (p.2.text=q.2.text)&&samePQ ps qs
  | _,_=>false
def Cmd.sameQ (a b:Cmd):Bool:=decide (a.op=b.op)&&decide (a.name.text=b.name.text)&&sameW a.names b.names&&samePQ a.pairs b.pairs&&a.left.sameQ b.left&&a.right.sameQ b.right
end Go.Am

namespace Go.Am
def atmF (s:Scp) (lat:Nat) (n:Nd):Atm:=if n.kind=1 then ⟨optI (findV s.vars n.text),.zero⟩ else ⟨-1,(elemF (shapeF s lat) (n.kids.getD 0 nd0)).1⟩
def fldF (s:Scp) (lat:Nat) (k:Nd):Fld:=⟨k.text,atmF s lat (k.kids.getD 0 nd0)⟩
def tailF (s:Scp):List Word→Int
  | []=>-1
  | w::_=>optI (findV s.vars w.text)
theorem tailF_one {s:Scp}:∀{l:List Word} (h:0<l.length),tailF s (l.take (0+1))=optI (findV s.vars l[0].text)
  | [],h=>by simp at h
  | _::_,_=>rfl
def rtmF (s:Scp) (lat:Nat) (n:Nd):Rtm:=if n.kind=1 then ⟨[],optI (findV s.vars n.text)⟩ else ⟨n.kids.map (fldF s lat),tailF s n.names⟩
def varLat (s:Scp) (v:Option Nat):Int:=match v with | some k=>(match s.vars[k]? with | some x=>x.lat | none=>0) | none=>0
def astF (s:Scp) (c:Cmd):Ast :=
  if c.op=8 then ⟨8,latI s c,(compR s (latI s c) c.left).getD [],atmF s (latI s c).toNat c.right,.zero,.zero,0,[]⟩
  else if c.op=9 then ⟨9,latI s c,[],.zero,rtmF s (latI s c).toNat c.left,rtmF s (latI s c).toNat c.right,0,[]⟩
  else ⟨10,varLat s (findV s.vars c.name.text),[],.zero,.zero,.zero,optI (findV s.vars c.name.text),(c.names.getD 0 ⟨[],0⟩).text⟩
def isAst (s:Scp) (c:Cmd):Bool:=decide (8≤c.op)&&decide (c.op≤10)&&c.rightQ&&decide ((faultC s c).cls=0)
structure Fine (s:Scp) (c:Cmd):Prop where
  op:8≤c.op∧c.op≤10
  q:c.rightQ=true
  none:∀f∈cmdFl s c,f.cls=0
theorem isAst_iff {s:Scp} {c:Cmd}:isAst s c=true↔Fine s c:=by
  simp only[isAst,Bool.and_eq_true,decide_eq_true_eq];constructor
  · rintro⟨⟨⟨a,b⟩,d⟩,e⟩;exact⟨⟨a,b⟩,d,(least_none e).2⟩
  · rintro⟨⟨a,b⟩,d,e⟩;exact⟨⟨⟨a,b⟩,d⟩,by rw[faultC,least_of_none e];rfl⟩
section
variable {s:Scp} {c:Cmd} {lat:Int}
theorem varFl_cls {t:List UInt8} {p k:Int}:∀f∈varFl s lat t p k,f.cls≠0:=by
  intro f hf;unfold varFl at hf;split at hf
  · split at hf<;>(rw[List.mem_singleton.1 hf];simp)
  · split at hf
    · split at hf
      · rw[List.mem_singleton.1 hf];simp
      · simp at hf
    · simp at hf
theorem latFl_cls {w:Word}:∀f∈latFl s w,f.cls≠0:=by
  intro f hf;unfold latFl at hf;split at hf
  · split at hf<;>(rw[List.mem_singleton.1 hf];simp)
  · simp at hf
theorem nil_of {l:List Flt} (h:∀f∈l,f.cls≠0) (k:∀f∈l,f.cls=0):l=[]:=by
  cases l with
  | nil=>rfl
  | cons f l=>exact absurd (k f (by simp)) (h f (by simp))
theorem varFl_nil {t:List UInt8} {p k:Int} (h:varFl s lat t p k=[]):∃v,∃hv:v<s.vars.length,findV s.vars t=some v∧s.vars[v].kind=k∧(0≤lat→s.vars[v].lat=lat):=by
  unfold varFl at h;split at h
  · split at h<;>simp at h
  · rename_i v hv;have hlt:=findV_lt hv;rw[List.getElem?_eq_getElem hlt] at h;simp only at h;split at h
    · simp at h
    · rename_i hn;refine⟨v,hlt,hv,?_,fun h0=>?_⟩
      · exact Classical.byContradiction fun hc=>hn (.inl hc)
      · exact Classical.byContradiction fun hc=>hn (.inr ⟨h0,hc⟩)
theorem latFl_nil {w:Word} (h:latFl s w=[]):∃k,findL s.lats w.text=some k∧k<s.lats.length:=by
  unfold latFl at h;split at h
  · split at h<;>simp at h
  · rename_i hn;cases hL:findL s.lats w.text with
    | none=>rw[hL] at hn;simp at hn
    | some k=>exact⟨k,rfl,(find_lt hL).1⟩
theorem Fine.latt (h:Fine s c) (h9:c.op=8∨c.op=9):∃k,findL s.lats c.name.text=some k∧k<s.lats.length:=by
  refine latFl_nil (nil_of latFl_cls fun f hf=>h.none f ?_);unfold cmdFl;rw[if_neg (by omega),if_neg (by omega)]
  by_cases h8:c.op=8
  · rw[if_pos h8];simp[hf]
  · rw[if_neg h8,if_pos (by omega)];simp[hf]
theorem Fine.latI (h:Fine s c) (h9:c.op=8∨c.op=9):∃k:Nat,latI s c=k∧k<s.lats.length:=by
  obtain⟨k,e,hk⟩:=h.latt h9;exact⟨k,by rw[Go.Am.latI,e];rfl,hk⟩
theorem rightQ_parts (h:c.rightQ=true):c.nameQ=true∧c.namesQ=true∧c.pairsQ=true∧c.termsQ=true:=by
  simp only[Cmd.rightQ,Bool.and_eq_true] at h;exact⟨h.1.1.1.2,h.1.1.2,h.1.2,h.2⟩
theorem Fine.labels (h:Fine s c) (h8:c.op=8):c.left.labelQ=true∧c.right.labelQ=true:=by
  have:=(rightQ_parts h.q).2.2.2
  rw[Cmd.termsQ,h8] at this;simpa [show cntN 8 116=2 from by decide] using this
theorem Fine.rows (h:Fine s c) (h9:c.op=9):c.left.rowQ=true∧c.right.rowQ=true:=by
  have:=(rightQ_parts h.q).2.2.2
  rw[Cmd.termsQ,h9] at this;simpa [show cntN 9 116=0 from by decide,show cntN 9 114=2 from by decide] using this
theorem Fine.one (h:Fine s c) (h10:c.op=10):∃w,c.names=[w]∧nameR w.text=true:=by
  have:=(rightQ_parts h.q).2.1
  rw[Cmd.namesQ,h10] at this;simp only[show cntN 10 119=0 from by decide,show cntN 10 102=1 from by decide,Nat.lt_irrefl,if_false,Nat.zero_lt_one,if_true,Bool.and_eq_true,decide_eq_true_eq] at this
  match hq:c.names,this.1 with
  | [w],_=>exact⟨w,rfl,by have:=this.2;rw[hq] at this;simpa [namedQ] using this⟩
theorem Fine.var (h:Fine s c) (h10:c.op=10):∃v,∃hv:v<s.vars.length,findV s.vars c.name.text=some v∧s.vars[v].kind=2:=by
  have:varFl s (-1) c.name.text c.name.pos 2=[]:=nil_of varFl_cls fun f hf=>h.none f (by unfold cmdFl;rw[if_pos h10];exact hf)
  obtain⟨v,hv,h1,h2,_⟩:=varFl_nil this;exact⟨v,hv,h1,h2⟩
theorem Fine.right (h:Fine s c) (h8:c.op=8):c.right.kind=1∨c.right.kind=7:=by
  have hl:=(h.labels h8).2;rw[Nd.labelQ_eq] at hl
  by_cases h1:c.right.kind=1
  · exact .inl h1
  · by_cases h7:c.right.kind=7
    · exact .inr h7
    · rw[if_neg h1,if_neg h7] at hl
      by_cases h89:c.right.kind=8∨c.right.kind=9
      · have:=h.none ⟨6,c.right.pos⟩ (by unfold cmdFl;rw[if_neg (by omega),if_neg (by omega),if_pos h8];simp[defFl,h89])
        simp at this
      · rw[if_neg h89] at hl;simp at hl
end
end Go.Am

namespace Go.Am
def isF (s:Scp) (v kind lat:Int):Bool:=if 0≤v then (match s.vars[v.toNat]? with | some x=>decide (x.kind=kind)&&decide (x.lat=lat) | none=>false) else false
def isAtmF (s:Scp) (lat:Nat) (a:Atm):Bool:=if a.v<0 then fitsE (shapeF s lat) a.c else isF s a.v 1 lat
def isRowF (s:Scp) (lat:Nat) (t:Rtm):Bool:=decide (t.fs.length≤16)&&(decide (t.tail<0)||isF s t.tail 2 lat)&&t.fs.all (fun f=>nameR f.name&&isAtmF s lat f.a)&&(twiceS (t.fs.map Fld.name)).isNone
def insF (s:Scp) (lat:Nat) (x:Ins):Bool:=(decide (x.op≠1)||isF s x.n 1 lat)&&(decide (x.op≠2)||fitsE (shapeF s lat) x.c)
def isCodeF (s:Scp) (lat:Nat) (l:List Ins):Bool:=l.all (insF s lat)&&rightC l
def astR (s:Scp) (a:Ast):Bool :=
  if a.op=10 then isF s a.v 2 a.lat&&nameR a.field
  else if a.op=9 then decide (0≤a.lat)&&decide (a.lat<s.lats.length)&&isRowF s a.lat.toNat a.a&&isRowF s a.lat.toNat a.b
  else if a.op=8 then decide (0≤a.lat)&&decide (a.lat<s.lats.length)&&isCodeF s a.lat.toNat a.code&&isAtmF s a.lat.toNat a.to
  else false
end Go.Am

namespace Go.Am
def Got.put (g:Got) (f:Nd→Nd):Got:=if g.bad=true then g else {g with node:=f g.node}
end Go.Am

namespace Go.Proofs.Tryz
open Go.Am
set_option maxRecDepth 4000
set_option maxHeartbeats 4000000
end Go.Proofs.Tryz

namespace Go.Proofs.Tryz
open Go.Am
set_option maxRecDepth 4000
set_option maxHeartbeats 4000000
end Go.Proofs.Tryz

namespace Go.Proofs.Tryz
open Go.Am
set_option maxRecDepth 4000
set_option maxHeartbeats 4000000
end Go.Proofs.Tryz

namespace Go.Am
end Go.Am

namespace Go.Am
end Go.Am

namespace Go.Am
def In (N p:Int):Prop:=0≤p∧p≤N
inductive TOk (N:Int):Tree→Prop
  | mk (t:Tok) (ks:List Tree) (e:Int):In N t.pos→In N e→(∀k∈ks,TOk N k)→TOk N (.mk t ks e)
theorem TOk.fin {N:Int} {t:Tree} (h:TOk N t):In N t.fin:=by cases h;assumption
theorem TOk.pos {N:Int} {t:Tree} (h:TOk N t):In N t.tok.pos:=by cases h;assumption
theorem TOk.kids {N:Int} {t:Tree} (h:TOk N t):∀k∈t.kids,TOk N k:=by cases h;assumption
section
variable {N:Int} (h0:0≤N)
include h0
end
end Go.Am

namespace Go.Am
def exS5:Scp:=⟨[⟨[107],⟨false,[exF]⟩⟩],[⟨[120],1,0⟩,⟨[114],2,0⟩]⟩
def exX:Nd:=.mk 1 0 [120] [] []
def exR:Nd:=.mk 1 7 [114] [] []
def exC5 (n:Nd):Cmd:=⟨8,0,⟨[107],0⟩,[],[],0,exX,n⟩
theorem ex5_fault:faultC exS5 (exC5 exR)=⟨4,7⟩:=by decide +kernel
theorem ex5_is:isAst exS5 (exC5 exX)=true:=by decide +kernel
theorem ex5_len:(astF exS5 (exC5 exX)).code.length=1:=by decide +kernel
theorem ex5_to:(astF exS5 (exC5 exX)).to.v=0:=by decide +kernel
theorem ex5_right:astR exS5 (astF exS5 (exC5 exX))=true:=by decide +kernel
theorem ex5_ok:exS5.ok:=big13_ok (by decide +kernel)
end Go.Am

namespace Go.Am
end Go.Am

namespace Go.Am
section
variable {s:Scp} {lat:Nat}
theorem isF_var {l:Int} {t:List UInt8} {p k:Int} (hl:0≤l) (h:varFl s l t p k=[]):isF s (optI (findV s.vars t)) k l=true:=by
  obtain⟨v,hv,h1,h2,h3⟩:=varFl_nil h;rw[h1];have e:s.vars[(optI (some v)).toNat]?=some s.vars[v]:=List.getElem?_eq_getElem hv;unfold isF;rw[if_pos (show 0≤optI (some v) by simp only[optI];omega),e];simp[h2,h3 hl]
theorem elm_fine {n:Nd} (h:elmFl s lat n=[]) (h0:0<n.kids.length):(elemF (shapeF s lat) (n.kids.getD 0 nd0)).2=none:=by
  rw[elmFl,if_pos ⟨h0,by omega⟩] at h;split at h
  · simp at h
  · rename_i e;simpa [elmO] using e
theorem atm_fine {n:Nd} (h:atmFl s lat n=[]) (hk:n.kind=1∨n.kind=7∧0<n.kids.length):isAtmF s lat (atmF s lat n)=true:=by
  rcases hk with hk | ⟨hk,h0⟩
  · rw[atmFl,if_pos hk] at h;have e:=isF_var (by omega) h;obtain⟨v,hv,h1,_⟩:=varFl_nil h;rw[atmF,if_pos hk,isAtmF,h1];rw[h1] at e;exact(if_neg (by simp only[optI];omega)).trans e
  · rw[atmFl,if_neg (by omega),if_pos hk] at h;rw[atmF,if_neg (by omega),isAtmF];exact(if_pos (show (-1:Int)<0 by decide)).trans (fits_elem (elm_fine h h0))
theorem leaf_fine {n:Nd} (h:atmFl s lat n=[]) (hk:n.kind=1∨n.kind=7∧0<n.kids.length):∃i,leafF s lat n=some i∧insF s lat i=true:=by
  rcases hk with hk | ⟨hk,h0⟩
  · rw[atmFl,if_pos hk] at h;have e:=isF_var (by omega) h;obtain⟨v,hv,h1,h2,h3⟩:=varFl_nil h;refine⟨⟨1,v,.zero⟩,?_,?_⟩
    · rw[leafF,if_pos hk,varF,h1];simp only[List.getElem?_eq_getElem hv,h2,h3 (by omega),and_self,if_true]
    · rw[h1] at e;simp only[insF,show isF s ((v:Nat):Int) 1 lat=true from e];simp
  · rw[atmFl,if_neg (by omega),if_pos hk] at h;have e:=elm_fine h h0;refine⟨⟨2,0,(elemF (shapeF s lat) (n.kids.getD 0 nd0)).1⟩,?_,?_⟩
    · rw[leafF,if_neg (by omega),e]
    · simp only[insF,fits_elem e];simp
mutual
theorem comp_fine:∀n:Nd,n.labelQ=true→labFl s lat n=[]→∃l,compF s lat n=some l∧l.all (insF s lat)=true
  | .mk k p t ws ks, hq, h => by
    rw[labFl_eq,List.append_eq_nil_iff] at h;obtain⟨h1,h2⟩:=h;rw[compF_eq]
    by_cases hk:(Nd.mk k p t ws ks).kind=1∨(Nd.mk k p t ws ks).kind=7
    · have hk' : (Nd.mk k p t ws ks).kind=1∨(Nd.mk k p t ws ks).kind=7∧0<(Nd.mk k p t ws ks).kids.length:=by
        rcases hk with hk | hk
        · exact .inl hk
        · exact .inr ⟨hk,by rw[label_const hq hk];omega⟩
      obtain⟨i,e1,e2⟩:=leaf_fine h1 hk';exact⟨[i],by rw[if_pos hk,e1];rfl,by simp[e2]⟩
    · rw[if_neg hk] at h2 ⊢;have hq' : ∀x∈ks,x.labelQ=true:=by
        rw[Nd.labelQ_eq,if_neg (fun e=>hk (.inl e)),if_neg (fun e=>hk (.inr e))] at hq;split at hq
        · simp only[Bool.and_eq_true,List.all_eq_true] at hq;exact hq.2
        · simp at hq
      obtain⟨m,e1,e2⟩:=comps_fine ks hq' fun x hx=>List.flatMap_eq_nil_iff.1 h2 x hx
      refine⟨m++[opF (.mk k p t ws ks)],by rw[show (Nd.mk k p t ws ks).kids=ks from rfl,e1];rfl,?_⟩;rw[List.all_append,e2]
      have:insF s lat (opF (.mk k p t ws ks))=true:=by
        simp only[insF,opF];split<;>simp
      simp[this]
theorem comps_fine:∀l:List Nd,(∀n∈l,n.labelQ=true)→(∀n∈l,labFl s lat n=[])→∃m,compL s lat l=some m∧m.all (insF s lat)=true
  | [],_,_=>⟨[],by rw[compL],rfl⟩
  | n :: ns, hq, h => by
    obtain⟨l,e1,e2⟩:=comp_fine n (hq n (by simp)) (h n (by simp));obtain⟨m,e3,e4⟩:=comps_fine ns (fun x hx=>hq x (by simp[hx])) fun x hx=>h x (by simp[hx])
    exact⟨l++m,by rw[compL,e1];simp only[e3];rfl,by rw[List.all_append,e2,e4];rfl⟩
end
theorem names_fine {ks:List Nd} (h:∀i,i<ks.length→dupFl ks i=[]):(twiceS (ks.map Nd.text)).isNone=true:=by
  rw[Option.isNone_iff_eq_none,twiceS,List.find?_eq_none];intro i hi;have hi:i<ks.length:=by simpa using hi
  have:=h i hi
  rw[dupFl] at this;split at this
  · simp at this
  rename_i hn;rw[←List.map_take];have e:(ks.map Nd.text).getD i []=(ks.getD i nd0).text:=by simp[List.getD,List.getElem?_eq_getElem hi]
  rw[e];exact hn
theorem row_fine {p:Int} {n:Nd} (hq:n.rowQ=true) (h:rowFl s lat p n=[]):isRowF s lat (rtmF s lat n)=true:=by
  rcases row_spec hq with ⟨hk,_,hn,hf⟩ | ⟨hk,_⟩
  · rw[rowFl,if_neg (by omega),if_pos hk,List.append_eq_nil_iff,List.append_eq_nil_iff] at h;obtain⟨⟨h1,h2⟩,h3⟩:=h;have hl:n.kids.length≤16:=by
      by_cases hc:16<n.kids.length
      · rw[if_pos hc] at h3;simp at h3
      · omega
    have hfld:∀i,i<n.kids.length→dupFl n.kids i=[]∧(n.kids.getD i nd0).kids.flatMap (atmFl s lat)=[]:=fun i hi=>by
      have:=List.flatMap_eq_nil_iff.1 h1 i (by simpa using hi)
      rwa [fldFl,List.append_eq_nil_iff] at this
    have hall:(n.kids.map (fldF s lat)).all (fun f=>nameR f.name&&isAtmF s lat f.a)=true:=by
      rw[List.all_eq_true];intro f hf';obtain⟨k,hk1,rfl⟩:=List.mem_map.1 hf';obtain⟨_,g1,_,c,g2,g3⟩:=field_spec (hf k hk1);obtain⟨i,hi,rfl⟩:=List.mem_iff_getElem.1 hk1;have e:=(hfld i hi).2;rw[getD_at hi,g2] at e;have e:atmFl s lat c=[]:=by simpa using e
      have hq:=atom_label g3;simp only[Nd.atomQ,Bool.and_eq_true,Bool.or_eq_true,decide_eq_true_eq] at g3;have hA:=atm_fine e (g3.1.imp id fun hk=>⟨hk,by rw[label_const hq hk];omega⟩);simp only[fldF,g1,g2,Bool.true_and];exact hA
    have htw:=names_fine fun i hi=>(hfld i hi).1
    have ht:tailF s n.names<0∨isF s (tailF s n.names) 2 lat=true:=by
      rcases hn with hn | ⟨w,hn,_⟩
      · rw[hn];left;simp[tailF]
      · right;rw[hn] at h2 ⊢;have h2:varFl s lat w.text w.pos 2=[]:=by simpa [tailFl] using h2
        exact isF_var (by omega) h2
    rw[rtmF,if_neg (by omega)];simp only[isRowF,List.length_map,hall,List.map_map,Bool.and_true];have e:(Fld.name∘fldF s lat)=Nd.text:=by funext k;rfl
    rw[e,htw];simp only[Bool.and_true,Bool.and_eq_true,Bool.or_eq_true,decide_eq_true_eq];exact⟨hl,ht⟩
  · rw[rowFl,if_pos hk] at h;have e:=isF_var (by omega) h;rw[rtmF,if_pos hk];simp only[isRowF,e];simp[twiceS]
theorem atmFl_cls {l:Int} {n:Nd}:∀f∈atmFl s l n,f.cls≠0:=by
  intro f hf;unfold atmFl at hf;split at hf
  · exact varFl_cls f hf
  split at hf
  · unfold elmFl at hf;split at hf
    · split at hf
      · rw[List.mem_singleton.1 hf];simp
      · simp at hf
    · simp at hf
  · simp at hf
mutual
theorem labFl_cls {l:Int}:∀n:Nd,∀f∈labFl s l n,f.cls≠0
  | .mk k p t ws ks, f, hf => by
    rw[labFl_eq] at hf
    rcases List.mem_append.1 hf with hf | hf
    · exact atmFl_cls f hf
    · split at hf
      · simp at hf
      · obtain⟨x,hx,hf⟩:=List.mem_flatMap.1 hf;exact labsFl_cls ks x hx f hf
theorem labsFl_cls {l:Int}:∀ns:List Nd,∀n∈ns,∀f∈labFl s l n,f.cls≠0
  | [],_,h=>by simp at h
  | m :: ms, n, h => by
    rcases List.mem_cons.1 h with e | h
    · rw[e];exact labFl_cls m
    · exact labsFl_cls ms n h
end
theorem rowFl_cls {l p:Int} {n:Nd}:∀f∈rowFl s l p n,f.cls≠0:=by
  intro f hf;unfold rowFl at hf;split at hf
  · exact varFl_cls f hf
  split at hf
  · rcases List.mem_append.1 hf with hf | hf
    · rcases List.mem_append.1 hf with hf | hf
      · obtain⟨i,_,hf⟩:=List.mem_flatMap.1 hf
        rcases List.mem_append.1 hf with hf | hf
        · unfold dupFl at hf;split at hf
          · rw[List.mem_singleton.1 hf];simp
          · simp at hf
        · obtain⟨x,_,hf⟩:=List.mem_flatMap.1 hf;exact atmFl_cls f hf
      · obtain⟨x,_,hf⟩:=List.mem_flatMap.1 hf;exact varFl_cls f hf
    · split at hf
      · rw[List.mem_singleton.1 hf];simp
      · simp at hf
  · simp at hf
theorem Fine.fits {c:Cmd} (h:Fine s c):astR s (astF s c)=true:=by
  have hop:=h.op
  by_cases h8:c.op=8
  · obtain⟨k,hk,hlt⟩:=h.latI (.inl h8);obtain⟨q1,q2⟩:=h.labels h8;have e:cmdFl s c=latFl s c.name++labFl s (Go.Am.latI s c) c.left++labFl s (Go.Am.latI s c) c.right++defFl c.right:=by rw[cmdFl,if_neg (by omega),if_neg (by omega),if_pos h8]
    have hl:labFl s (k:Nat) c.left=[]:=nil_of (labFl_cls _) fun f hf=>h.none f (by rw[e,hk];simp[hf])
    have hr:labFl s (k:Nat) c.right=[]:=nil_of (labFl_cls _) fun f hf=>h.none f (by rw[e,hk];simp[hf])
    obtain⟨l,e1,e2⟩:=comp_fine c.left q1 hl;have hc:=right_comp q1 e1;have ha:atmFl s (k:Nat) c.right=[]:=by rw[labFl_eq] at hr;exact(List.append_eq_nil_iff.1 hr).1
    have hA:=atm_fine ha ((h.right h8).imp id fun hk=>⟨hk,by rw[label_const q2 hk];omega⟩);rw[astF,if_pos h8,hk];have ecr:compR s ((k:Nat):Int) c.left=some l:=by rw[compR,if_pos ⟨by omega,by omega,q1⟩];exact e1
    rw[ecr];simp only[astR,Option.getD_some,Int.toNat_natCast,isCodeF,e2,hc,hA];simp[hlt]
  · by_cases h9:c.op=9
    · obtain⟨k,hk,hlt⟩:=h.latI (.inr h9);obtain⟨q1,q2⟩:=h.rows h9;have e:cmdFl s c=latFl s c.name++rowFl s (Go.Am.latI s c) c.pos c.left++rowFl s (Go.Am.latI s c) c.pos c.right:=by rw[cmdFl,if_neg (by omega),if_neg (by omega),if_neg h8,if_pos h9]
      have hl:rowFl s (k:Nat) c.pos c.left=[]:=nil_of rowFl_cls fun f hf=>h.none f (by rw[e,hk];simp[hf])
      have hr:rowFl s (k:Nat) c.pos c.right=[]:=nil_of rowFl_cls fun f hf=>h.none f (by rw[e,hk];simp[hf])
      rw[astF,if_neg h8,if_pos h9,hk];simp only[astR,Int.toNat_natCast,row_fine q1 hl,row_fine q2 hr];simp[hlt]
    · have h10:c.op=10:=by omega
      obtain⟨v,hv,hv1,hv2⟩:=h.var h10;obtain⟨w,hw,hw2⟩:=h.one h10;rw[astF,if_neg h8,if_neg h9,hv1,hw];have e:s.vars[(optI (some v)).toNat]?=some s.vars[v]:=List.getElem?_eq_getElem hv;have hF:isF s (optI (some v)) 2 (varLat s (some v))=true:=by
        unfold isF;rw[if_pos (show 0≤optI (some v) by simp only[optI];omega),e];simp[hv2,varLat,List.getElem?_eq_getElem hv]
      simp only[astR,hF];simpa using hw2
end
end Go.Am
