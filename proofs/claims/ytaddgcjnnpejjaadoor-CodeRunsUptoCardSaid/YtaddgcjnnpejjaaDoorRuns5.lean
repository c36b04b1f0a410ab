/-
  For every shape, code and values, whether the code runs well, which variables it names and what it comes to are the same by the program and by the document's answer (CodeRuns); on condition that what comes in is of a bulk of at most 1048576 and that the listed variable of math/bits is as its own initialiser lays it.
-/
import Derived.Test.YtaddgcjnnpejjaaDoorProg
import Derived.ProofKit
import Derived.OpenShut
import Derived.JoinedCond
import Derived.ChangeStays
import Derived.ReadAgain
import Derived.Deep.DeepHandedRow
import Derived.Lib.LaidTab
import Derived.Stop.LaidErr
import Derived.Test.YtaddgcjnnpejjaaDoorCards
import Derived.Test.YtaddgcjnnpejjaaDoorTie
import Derived.Test.YtaddgcjnnpejjaaDoorRuns4
set_option linter.unusedVariables false
set_option linter.unusedSimpArgs false
set_option linter.defProp false
set_option linter.unusedSectionVars false

namespace Go.Proofs.Tryd
open Go.Am
set_option maxRecDepth 4000
set_option maxHeartbeats 4000000
def ac5:AC:=.seq (.reg [⟨(some 0),.mv (.c (.bool false)),none⟩])
 (.seq (.reg [⟨(some 7),.bslice 1 [(.c (.str [108,111])),(.c (.str [104,105]))],none⟩,⟨(some 8),.build facZ [(0,1,(.c (.int .i64 1))),(1,1,(.s 7))],none⟩,⟨(some 9),.bslice 67 [(.s 8)],none⟩,⟨(some 10),.build [(.bool false),(.sl .full 67 [])] [(1,1,(.s 9))],none⟩,⟨(some 11),.build [(.str []),(.bool false),(.sl .full 67 [])] [(0,1,(.c (.str [107]))),(1,2,(.s 10))],none⟩,⟨(some 12),.bslice 3 [(.s 11)],none⟩,⟨(some 13),.build [(.str []),(.int .i64 0),(.int .i64 0)] [(0,1,(.c (.str [120]))),(1,1,(.c (.int .i64 1)))],none⟩,⟨(some 14),.bslice 3 [(.s 13)],none⟩,⟨(some 15),.build [(.sl .full 3 []),(.sl .full 3 [])] [(0,1,(.s 12)),(1,1,(.s 14))],none⟩,⟨(some 1),.alloc [(.sl .full 3 []),(.sl .full 3 [])],none⟩,xs 2 1 15])
 (.seq (.reg [⟨(some 16),.build [(.int .i64 0),(.int .i64 0),(.str []),(.sl .full 2 []),(.sl .full 5 [])] [(0,1,(.c (.int .i64 1))),(2,1,(.c (.str [120])))],none⟩,⟨(some 17),.build [(.int .i64 0),(.int .i64 0),(.str []),(.sl .full 2 []),(.sl .full 5 [])] [(0,1,(.c (.int .i64 2))),(2,1,(.c (.str [104,105])))],none⟩,⟨(some 18),.bslice 5 [(.s 17)],none⟩,⟨(some 19),.build [(.int .i64 0),(.int .i64 0),(.str []),(.sl .full 2 []),(.sl .full 5 [])] [(0,1,(.c (.int .i64 7))),(4,1,(.s 18))],none⟩,⟨(some 20),.bslice 5 [(.s 16),(.s 19)],none⟩,⟨(some 21),.build [(.int .i64 0),(.int .i64 0),(.str []),(.sl .full 2 []),(.sl .full 5 [])] [(0,1,(.c (.int .i64 8))),(4,1,(.s 20))],none⟩,⟨(some 2),.alloc [(.int .i64 0),(.int .i64 0),(.str []),(.sl .full 2 []),(.sl .full 5 [])],none⟩,xs 5 2 21])
 (.seq (.reg [xl 2 23 1,xl 5 24 2,xc 13 25 [.s 23,.c (.int .i64 0),.s 24],xm 22 25,xe 26 22 0,xe 27 22 1,xm 3 26,xm 4 27])
 (.seq (.reg [xf 0 29 1,xo 30 29,⟨(some 31),.idxA 3 (.s 30) (.c (.int .i64 0)),none⟩,xf 1 32 31,xl 2 33 32,xm 34 3,⟨(some 35),.build elmZ [],none⟩,⟨(some 36),.bslice 8 [(.s 35)],none⟩,xc 6 37 [.s 33,.s 34,.s 36],xm 28 37,xe 38 28 0,xe 39 28 1,⟨(some 5),.alloc elmZ,none⟩,xs 8 5 38,xm 6 39])
 (.seq (.reg [xm 40 4,xm 41 40,xg 41 (xm 42 3),xg 41 (xL 43 42),xg 41 (xB .eql 44 43 3),⟨(some 45),.pick (.s 41) (.s 44) (.c (.bool false)),none⟩,xm 46 45,xg 46 (xm 47 3),⟨(some 48),.idxA 10 (.s 47) (.c (.int .i64 2)),(some (46,true))⟩,xg 46 (xl 10 49 48),⟨(some 50),.build insZ [(0,1,(.c (.int .i64 3))),(1,1,(.c (.int .i64 2)))],(some (46,true))⟩,⟨(some 51),.eqA false [1,1,1,1,1,1,1,1,1,1] (.s 49) (.s 50),(some (46,true))⟩,⟨(some 52),.pick (.s 46) (.s 51) (.c (.bool false)),none⟩,xm 53 52,xg 53 (xm 54 6),⟨(some 55),.pick (.s 53) (.s 54) (.c (.bool false)),none⟩,xm 56 55,xg 56 (xl 8 57 5),⟨(some 58),.build elmZ [(0,1,(.c (.int .u64 1)))],(some (56,true))⟩,⟨(some 59),.eqA false [1,1,1,1,1,1,1,1] (.s 57) (.s 58),(some (56,true))⟩,⟨(some 60),.pick (.s 56) (.s 59) (.c (.bool false)),none⟩,xm 61 60,xg 61 (xm 62 3),xg 61 (xc 8 63 [.s 62]),⟨(some 64),.pick (.s 61) (.s 63) (.c (.bool false)),none⟩,xm 0 64])
 (.ret))))))
theorem fn5:IsFn prog 5 ac5 [.tmp 0] 65:=⟨f5,⟨[],[],[]⟩,func5,by kernel_rfl,by kernel_rfl,by kernel_rfl,by kernel_rfl⟩
theorem er3_calls {f:FuncId} {u u' v v' w w' : V} {σ:Store} {R' : V→Store→Prop} (h:PCalls prog f [u',v',w'] σ R') (e1:u.erase=u') (e2:v.erase=v') (e3:w.erase=w'):PCalls prog f [u,v,w] σ R' :=
  h.weak (show LLe [u,v,w] [u',v',w'] from⟨e1▸VLe.erase,e2▸VLe.erase,e3▸VLe.erase,trivial⟩) OLe.rfl
theorem alive14_calls {σ:Store} (hg:TZ σ):PCalls prog 5 [] σ fun v σ' => v = .bool true∧σ' = σ:=by
  refine fn5.calls ?_;simp only[slots,ac5,z30_,Nat.reduceAdd,fv_];have hw:exN.wt≤big:=Nat.le_trans ex_wt.1 (by decide);refine(er3_calls (ccompile_calls exS 0 exN hg ex_ok hw (Nat.le_trans ex_wt.2 (by decide))) ?_ ?_ ?_).mono ?_
  · rfl
  · rfl
  · rfl
  · rintro v σ1 ⟨rfl,rfl⟩;rw[ex_code];rw[show codeT (some exC) = .tup [.sl .no 10 (exC.map Ins.enc),.bool true] from rfl];simp only[am];refine idxL_intro (by omega) (rfl) ?_;simp only[am,Elm.rec_];refine(er3_calls (eval_calls ⟨false,[exF]⟩ exC [.zero] hg (ex_ok.2.2 _ (List.mem_cons_self ..)) (by decide) (by decide)) ?_ ?_ ?_).mono ?_
    · rfl
    · rfl
    · rfl
    · rintro v σ ⟨rfl,rfl⟩;rw[ex_run,show evalT (some exE) = .tup [.agg exE.enc,.bool true] from rfl];simp only[am,Nat.reduceAdd,List.length_map,Elm.rec_,List.length_map];simp only[am,show decide (((exC.length:Nat):Int)=3)=true from rfl];refine idxL_intro (by omega) ((codes_at (l:=exC) (j:=2) (by decide))) ?_;simp only[am,Ins.rec_];have q1:over Elm.zero.enc [V.int .u64 1]=exE.enc:=Elm.u_st (e:=.zero) (w:=1#64) (i:=0) (by decide);have q2:hasN 1 Elm.zero.enc=true:=Elm.u_has (e:=.zero) (i:=0) (by decide);simp only[am,decide_true,Elm.rec_,show decide (exC[2]=⟨3,2,Ins.zero.c⟩)=true from decide_eq_true rfl,q1,q2];refine cl (cright_calls exC σ (by decide)) ?_;simp only[am,ex_right];refine retS ?_;simp[V.erase]
end Go.Proofs.Tryd

namespace Go.Am
open Go.ChangeShapes Go.WideShapes Go.ChangeAt Go.RowKit
structure BulkFn {H:Type} (B:DataW H→Nat) (BA:List (DataW H)→Nat):Prop where
  str:∀b,B (.lit (.string b))=b.length+1
  int:∀k n,B (.lit (.int k n))=1
  bool:∀b,B (.lit (.bool b))=1
  nil:B .nil=1
  slice:∀e s,B (.slice e s)=BA e+BA s+1
  agg:∀p,B (.agg p)=BA p+1
  no:BA []=0
  cons:∀d r,BA (d::r)=B d+BA r
section
variable {H:Type} {enc:TypeId × Value→H} {P:Program} {W:World} {sp:Nat→Bool} {B:DataW H→Nat} {BA:List (DataW H)→Nat}
end
theorem post_am2 {H:Type} {enc:TypeId × Value→H} {P:Program} {f:Func} {s:ChangeSpec} {W:World} {args:Array Value} {ds:List (DataW H)} {before:List MemPlace} {tb:TypeId}
    (hl:laidOutB P=true) (hm:mapsRowed P=true) (hz:((List.range P.types.size).all fun t=>match P.underlying t with | some (.slice e)=>decide (0<P.cellsOf e) | _=>true)=true)
    (hres:f.resultTypes=#[tb]) (htb:P.underlying tb=some .bool) (hpar:∀t∈f.params.toList,t<P.types.size) (hvars:s.vars=[]) (hfn:(s.fn H ds).results=[.lit (.bool true)]∧(s.fn H ds).args=ds∧(s.fn H ds).vars=[])
    (hW:DataW.Whole enc P f.params.toList s.vars false W args.toList ds [] before) {W' : World} (hos:W'.os=W.os) (hout:W'.output=W.output) (hfrz:∀a,W'.frozen? a=W.frozen? a) (hsame:∀b,b<W.heap.size→W'.heap[b]?=W.heap[b]?) :
    s.post enc P f false true false false W args (.bool true) W' := by
  have hW' := hW;obtain⟨p,q,hA,hV,rfl,hfz,hnd⟩:=hW;rw[hvars] at hV;obtain⟨_,rfl⟩:=trodVars_none hV;have hkept:W.keptBut W' (fun _=>False):=by
    refine⟨hos,hout,fun i hi=>?_⟩;rw[hsame i hi];cases W.heap[i]? with
    | none=>rfl
    | some ob=>cases ob<;>simp
  simp only[List.append_nil] at hW';have hds:s.fn H (ds++[])=s.fn H ds:=by rw[List.append_nil]
  refine post_of_same (pa:=p) (pv:=[]) hW' (fun b sp' hd=>?_) (fun sp' hs=>?_) (fun sp' hs=>?_) (by simp) (World.keptBut_mono (fun _ h=>h.elim) hkept) ?_ (ok_one hres rfl (okWide_bool_mk htb _))
  · rw[hds,hfn.1,hres];exact trodAll_cons_mk (shut_bool htb _) trodAll_mk0
  · rw[hds,hfn.2.1];have hlt:=DataW.TrodAll.lt hA;have key:∀(ts:List TypeId) (vs:List Value) (ds:List (DataW H)) (ps:List MemPlace),(∀t∈ts,t<P.types.size)→DataW.TrodAll enc P W 0 (fun _=>true) true ts vs ds ps→(∀x∈ps,x.block<W.heap.size)→(∀x∈ps,sp' x.block=true)→DataW.TrodAll enc P W' 0 sp' true ts vs ds ps:=by
      intro ts;induction ts with
      | nil=>intro vs ds ps _ h _ _;cases vs<;>cases ds<;>first | exact h | exact h.elim
      | cons t ts ih =>
        intro vs ds ps hT h hlt hs;cases vs with
        | nil=>exact h.elim
        | cons v vs =>
          cases ds with
          | nil=>exact h.elim
          | cons d ds =>
            obtain⟨p,q,⟨n,h1⟩,h2,rfl⟩:=h;refine⟨p,q,⟨n,?_⟩,ih vs ds q (fun t ht=>hT t (by simp[ht])) h2 (fun x hx=>hlt x (by simp[hx])) (fun x hx=>hs x (by simp[hx])),rfl⟩;refine DataW.trod_stays (kids_rows hl hm) (fun {t e} ht he=>slices_full_of P hz t e ht he) (by simp) (hT t (by simp)) h1 (fun x hx=>?_) (fun x hx=>hs x (by simp[hx]));have hb:=hlt x (by simp[hx]);cases x with
            | cell b off=>exact cell_same (hsame b hb)
            | map b=>exact hsame b hb
    exact key _ _ _ _ hpar hA (fun x hx=>hlt x hx) (fun x hx=>hs x (by simpa using hx))
  · rw[hds,hfn.2.2,hvars];rfl
  · exact hfrz
section
variable {P:Program} {W:World} {r:Reach} {b:Nat} {t:TypeId} {v:Value} {E:Env}
theorem val_slice {e:TypeId} {x:V} (ht:P.underlying t=some (.slice e)) (hv:Value.okWide P W r b t v) (h:RL E [x] v.cells.toList):R E x v:=by
  obtain⟨a,len,cap,rfl⟩:=okWide_slice ht hv;simpa [Value.cells,RL] using h
theorem val_struct {fs:Array Field} {xs:List V} (ht:P.underlying t=some (.struct fs)) (hv:Value.okWide P W r b t v) (h:RL E xs v.cells.toList):R E (.agg xs) v:=by
  obtain⟨cs,rfl,_⟩:=okWide_struct ht hv;simp only[R];exact⟨cs,rfl,by simpa [Value.cells] using h⟩
end
end Go.Am

namespace Go.Am
open Go.ChangeShapes Go.WideShapes Go.ChangeAt Go.RowKit
def txtVal (s:List UInt8):Value:=.string ⟨s.toArray⟩
section
variable {H:Type} {enc:TypeId × Value→H} {P:Program} {W:World}
end
end Go.Am

namespace Go.Am
open Go.ChangeShapes Go.WideShapes Go.ChangeAt Go.RowKit
section
variable {H:Type} {enc:TypeId × Value→H} {P:Program} {W:World} {sp:Nat→Bool} {B:DataW H→Nat} {BA:List (DataW H)→Nat} {E:Env}
end
end Go.Am

namespace Go.Am
open Go.ChangeShapes Go.WideShapes Go.ChangeAt Go.RowKit
def litV:V→Value
  | .str s=>txtVal s
  | .int k n=>.int k n
  | _=>.bool false
def isLit:V→Bool
  | .str _=>true
  | .int _ _=>true
  | _=>false
theorem litR {E:Env} {x:V} (h:isLit x=true) (v:Value):R E x v↔v=litV x:=by
  cases x<;>simp[isLit] at h<;>simp[R,litV,txtVal]
def mStore (B:Nat→Option (List V)):Store:=⟨B,fun _=>none⟩
def mEnv (W:World) (B:Nat→Option (List V)):Env:=⟨W,fun b=>if (B b).isSome then .obox else .const,fun _=>none,fun _=>none⟩
def MGlob (W:World) (B:Nat→Option (List V)):Prop:=∀b cs,B b=some cs→(∃e,W.heap[b]?=some (.cells (cs.map litV).toArray e (0,0)))∧∀x∈cs,isLit x=true
theorem mEnv_ok {W:World} {B:Nat→Option (List V)} (h:MGlob W B):(mEnv W B).ok (mStore B):=by
  refine⟨fun b cs hb=>?_,fun _ _ h=>by simp[mStore] at h,fun b hb=>?_,⟨0,fun _ _=>rfl⟩⟩
  · have hb:B b=some cs:=hb;obtain⟨⟨e,he⟩,hl⟩:=h b cs hb;refine⟨by simp[mEnv,hb],_,e,he,by simp,fun j x hx=>?_⟩;exact⟨litV x,by simp[hx],(litR (hl x (List.mem_of_getElem? hx)) _).2 rfl⟩
  · have hb:W.heap.size≤b:=hb;have hn:B b=none:=by
      cases hq:B b with
      | none=>rfl
      | some cs =>
        obtain⟨⟨e,he⟩,_⟩:=h b cs hq;have hlt:b<W.heap.size:=lt_of_heap (w:=W) he;omega
    simp[mEnv,hn]
theorem law_callsM {H:Type} {enc:TypeId × Value→H} {P:Program} {n:FuncId} {f:Func} {s:ChangeSpec} {W:World} {args:Array Value} {vs:List V} {ds:List (DataW H)} {before:List MemPlace} {tb:TypeId} {B:Nat→Option (List V)}
    (hP:PCalls P n vs (mStore B) fun v σ' => v = .bool true∧σ' = mStore B) (hg:MGlob W B) (hR:RL (mEnv W B) vs args.toList)
    (hl:laidOutB P=true) (hm:mapsRowed P=true) (hz:((List.range P.types.size).all fun t=>match P.underlying t with | some (.slice e)=>decide (0<P.cellsOf e) | _=>true)=true)
    (hres:f.resultTypes=#[tb]) (htb:P.underlying tb=some .bool) (hpar:∀t∈f.params.toList,t<P.types.size) (hvars:s.vars=[]) (hfn:(s.fn H ds).results=[.lit (.bool true)]∧(s.fn H ds).args=ds∧(s.fn H ds).vars=[])
    (hW:DataW.Whole enc P f.params.toList s.vars false W args.toList ds [] before) :
    Calls P n args W fun e W' => ∃v,e = .returned v∧s.post enc P f false true false false W args v W' := by
  refine(hP.2 (mEnv W B) args (fun _=>rfl) (mEnv_ok hg) hR).mono ?_;rintro _ w' ⟨v,x,E',σ',rfl,rfl,_,hok,hRv,hfr,rfl,rfl⟩;simp only[R] at hRv;subst hRv;refine⟨_,rfl,post_am2 hl hm hz hres htb hpar hvars hfn hW hfr.os hfr.output hfr.frz fun b hb=>?_⟩;cases hq:B b with
  | some cs =>
    obtain⟨⟨e,he⟩,hlit⟩:=hg b cs hq;obtain⟨c1,h1,h2⟩:=hfr.shape b _ e he;obtain⟨_,c2,e2,h3,h4,h5⟩:=hok.box b cs hq;have h3:E'.w.heap[b]?=some (.cells c2 e2 (0,0)):=h3;rw[h1] at h3;simp only[Option.some.injEq,Obj.cells.injEq] at h3;obtain⟨rfl,rfl,_⟩:=h3;rw[he,h1];have:c1=(cs.map litV).toArray:=by
      apply Array.ext_getElem?;intro j
      by_cases hj:j<cs.length
      · obtain⟨v,k1,k2⟩:=h5 j cs[j] (by simp[hj]);rw[k1];rw[litR (hlit _ (List.getElem_mem _))] at k2;rw[k2];simp[hj]
      · rw[Array.getElem?_eq_none (by rw[h2];simp;omega),Array.getElem?_eq_none (by simp;omega)]
    rw[this]
  | none=>exact(hfr.same b hb (.inl (by simp[mEnv,hq]))).1
end Go.Am

namespace Go.Am
open Go.ChangeShapes Go.WideShapes Go.ChangeAt Go.RowKit
section
variable {H:Type} {enc:TypeId × Value→H} {P:Program} {W:World} {sp:Nat→Bool} {B:DataW H→Nat} {BA:List (DataW H)→Nat} {E:Env}
end
end Go.Am

namespace Go.Am
open Go.ChangeShapes Go.WideShapes Go.ChangeAt Go.RowKit
section
variable {H:Type} {enc:TypeId × Value→H} {P:Program} {W:World}
theorem laid_at {name:String} {d:DataW Unit} {rest:List (String × DataW Unit)} {g:Nat} {t:TypeId} (h:laidMet P ((name,d)::rest) W) (hg:P.globalNamed name=some g) (ht:(P.globals[g]?).map (·.type)=some t) {vs:List Value}
    (hc:∀(cs:List Value) (fuel:Nat) (p:List MemPlace),DataW.trod (fun _=>()) P W 0 (fun _=>true) false fuel t cs=some (d,p)→cs=vs) (hv:vs≠[]):∃e,W.heap[g]?=some (.cells vs.toArray e (0,0)):=by
  obtain⟨ps,⟨g',t',cs,fuel,p,q,hg',ht',hv',hd,_,hps⟩,_,hb⟩:=h;obtain rfl:g' = g:=Option.some.inj (hg'.symm.trans hg);obtain rfl:t' = t:=Option.some.inj (ht'.symm.trans ht);have hcs:=hc _ _ _ hd;have hcs' : cs=vs.toArray:=by rw[←hcs]
  obtain⟨⟨c,e,hce⟩,_⟩:=hb g' 0 (by
    rw[hps];refine List.mem_append_left _ (List.mem_append_left _ ?_);rw[hcs'];cases vs with
    | nil=>exact absurd rfl hv
    | cons a l=>simp[MemPlace.row])
  refine⟨e,?_⟩;rw[hce];simp only[World.var?,hg,Option.bind_some,hce,Option.some.injEq] at hv';rw[hv',hcs']
end
end Go.Am

namespace Go.Am
open Go.ChangeShapes Go.WideShapes Go.ChangeAt Go.RowKit
def NUCom (W:World) (E:Env):Prop:=∀b,(∃j v,W.cell? ⟨b,j,none⟩=some v∧∀n,v≠.int .u8 n)→∀o,(E.role b).com o
def notU:V→Bool
  | .int k _=>decide (k≠.u8)
  | .str _=>true
  | .bool _=>true
  | _=>false
theorem notU_R {E:Env} {x:V} {v:Value} (h:notU x=true) (hr:R E x v):∀n,v≠.int .u8 n:=by
  intro n e;subst e;cases x<;>simp[notU] at h<;>simp[R] at hr;exact h hr.1.symm
def HasNU (l:List V):Prop:=∃(j:Nat) (x:V),l[j]?=some x∧notU x=true
theorem mEnv_comN {W:World} {B:Nat→Option (List V)} (h:MGlob W B) (hn:∀b cs,B b=some cs→∀x∈cs,∃n,litV x = .int .u8 n):NUCom W (mEnv W B):=by
  rintro b ⟨j,v,hc,hv⟩ o;cases hq:B b with
  | none=>simp[mEnv,hq,Role.com]
  | some cs =>
    obtain⟨⟨e,he⟩,_⟩:=h b cs hq;simp only[World.cell?,he] at hc
    by_cases hj:j<cs.length
    · have hl:litV cs[j]=v:=by simpa [hj] using hc
      obtain⟨n,hx⟩:=hn b cs hq _ (List.getElem_mem hj);exact absurd (hl.symm.trans hx) (hv n)
    · simp[hj] at hc
section
variable {H:Type} {enc:TypeId × Value→H} {P:Program} {W:World} {sp:Nat→Bool} {B:DataW H→Nat} {BA:List (DataW H)→Nat} {E:Env}
theorem rd_rowsN {α:Type} (ea:α→List V) (sz:α→Nat) {e:TypeId} {k n:Nat} (hB:BulkFn B BA) (hk:P.cellsOf e=k) (hlen:∀y,(ea y).length=k)
    (hel:∀cs x,DataW.trod enc P W 0 sp true n e cs=some x→∃y:α,RL E (ea y) cs∧(∀v∈cs,v.oneCell' = true)∧sz y≤B x.1) (hw:E.w=W) (hnl:E.nl=E) (hcom:NUCom W E) (hint:∀y,HasNU (ea y)) {b o:Nat} :
    ∀(els:List (DataW H × List MemPlace)) (i:Nat),(∀j,j<els.length→(W.cells? 0 (Addr.add ⟨b,o,none⟩ ((i+j)*k)) k).bind (DataW.trod enc P W 0 sp true n e)=els[j]?) →
      ∃l:List α,l.length=els.length∧REs E.nl k (l.map ea) b (o+i*k)∧(l.map sz).sum≤BA (els.map (·.1))
  | [],i,_=>⟨[],rfl,by simp[REs],by simp⟩
  | x :: els, i, h => by
    obtain⟨l,h1,h2,h3⟩:=rd_rowsN ea sz hB hk hlen hel hw hnl hcom hint els (i+1) fun j hj=>by
      have:=h (j+1) (by simp;omega);rw[show i+(j+1)=i+1+j by omega] at this;simpa using this
    have h0:=h 0 (by simp);simp only[Nat.add_zero,List.getElem?_cons_zero] at h0;obtain⟨cs,hc,hr⟩:=Option.bind_eq_some_iff.1 h0;obtain⟨y,k1,k2,k3⟩:=hel cs x hr;obtain⟨_,hl,hcell⟩:=World.cells?_some hc;refine⟨y::l,by simp[h1],?_,?_⟩
    · simp only[List.map_cons,REs];have hat:∀(j:Nat) v,cs[j]?=some v→W.cell? ⟨b,o+i*k+j,none⟩=some v:=fun j v hv=>by
        have hj:j<k:=by have:=(List.getElem?_eq_some_iff.1 hv).1;omega
        have:=hcell j hj;rw[addr_add,addr_add] at this;rw[this,hv]
      obtain⟨j0,z,hj0,hz⟩:=hint y;obtain⟨u,hu,hRu⟩:=RL_get k1 j0 _ hj0;have hcm:=hcom b ⟨_,u,hat j0 u hu,notU_R hz hRu⟩;refine⟨hlen y,RAs_mk (E:=E.nl) (by rw[hnl];exact k1) k2 (fun j v hv=>?_) (fun j _=>hcm _),by rw[show o+i*k+k=o+(i+1)*k by rw[Nat.add_mul];omega];exact h2⟩;show E.w.cell? _=_;rw[hw];exact hat j v hv
    · simp only[List.map_cons,List.sum_cons,hB.cons];omega
theorem rd_sliceN {α:Type} (ea:α→List V) (sz:α→Nat) {t e:TypeId} {k fuel:Nat} (hB:BulkFn B BA) (ht:P.underlying t=some (.slice e)) (hk:P.cellsOf e=k) (hpos:0<k) (hlen:∀y,(ea y).length=k) (hw:E.w=W) (hnl:E.nl=E) (hcom:NUCom W E) (hint:∀y,HasNU (ea y))
    (hel:∀n,n<fuel→∀cs x,DataW.trod enc P W 0 sp true n e cs=some x→∃y:α,RL E (ea y) cs∧(∀v∈cs,v.oneCell' = true)∧sz y≤B x.1)
    {cs:List Value} {x:DataW H × List MemPlace} (h:DataW.trod enc P W 0 sp true fuel t cs=some x) :
    ∃l:List α,RL E [.sl .no k (l.map ea)] cs∧(∀v∈cs,v.oneCell' = true)∧(l.map sz).sum+1≤B x.1:=by
  rcases DataW.trod_slice ht h with ⟨rfl,rfl⟩ | ⟨a,len,cap,elems,rest,n,rfl,rfl,rfl,_,hle,_,hl,hels,_,_⟩
  · refine⟨[],?_,by simp[Value.oneCell'],by simp[hB.nil]⟩;simp only[RL,R,List.map_nil,and_true];exact⟨none,0,rfl,by simp,by simp,trivial⟩
  · have ha:elems=[]∨∃b o,a=⟨b,o,none⟩:=by
      cases elems with
      | nil=>exact .inl rfl
      | cons y ys =>
        right;have h0:=hels 0 (by rw[←hl];simp);simp only[List.getElem?_cons_zero] at h0;obtain⟨cs',hc,_⟩:=Option.bind_eq_some_iff.1 h0;obtain⟨_,hl',hcell⟩:=World.cells?_some hc;have h1:=hcell 0 (by rw[hk];exact hpos);have h2:cs'[0]?=some (cs'[0]'(by rw[hl',hk];exact hpos)):=List.getElem?_eq_getElem _;rw[h2] at h1;obtain⟨b,o,s⟩:=a;refine⟨b,o,?_⟩;simp only[World.cell?] at h1;cases s with
        | none=>rfl
        | some s =>
          split at h1
          · simp[Addr.add] at h1
          · simp at h1
    rcases ha with rfl | ⟨b,o,rfl⟩
    · refine⟨[],?_,by simp[Value.oneCell'],by simp[hB.slice]⟩;simp only[List.length_nil] at hl;subst hl;simp only[RL,R,List.map_nil,and_true];exact⟨some a,cap,rfl,by simp,by simp,trivial⟩
    · obtain⟨l,h1,h2,h3⟩:=rd_rowsN (B:=B) (BA:=BA) (sp:=sp) (enc:=enc) (P:=P) (W:=W) (n:=n) ea sz hB hk hlen (hel n (Nat.lt_succ_self n)) hw hnl hcom hint elems 0 (fun j hj=>by
        have:=hels j (by omega);rw[hk] at this;rw[Nat.zero_add];exact this)
      refine⟨l,?_,by simp[Value.oneCell'],?_⟩
      · simp only[RL,R,List.length_map,and_true];exact⟨some ⟨b,o,none⟩,cap,by rw[h1,hl],by omega,.inr ⟨b,o,rfl,by simpa using h2⟩,trivial⟩
      · rw[hB.slice];omega
end
section
variable {H:Type} {enc:TypeId × Value→H} {P:Program} {W:World} {sp:Nat→Bool} {E:Env}
def u64At:Value→B64
  | .int .u64 z=>BitVec.ofInt 64 z
  | _=>0#64
theorem RL_u64s:∀(cs:List Value),(∀v∈cs,∃z:Int,v = .int .u64 z∧0≤z∧z<18446744073709551616)→RL E (encW (cs.map u64At)) cs
  | [],_=>by simp[encW,RL]
  | v :: cs, h => by
    obtain⟨z,rfl,h0,h1⟩:=h v (by simp);have ih:=RL_u64s cs fun v hv=>h v (by simp[hv])
    simp only[encW,List.map_cons,RL] at ih ⊢;refine⟨?_,ih⟩;simp only[R,u64At,Value.int.injEq,true_and];rw[BitVec.toNat_ofInt];omega
theorem rd_u64s {t e:TypeId} {n fuel:Nat} {cs:List Value} {x:DataW H × List MemPlace} (ht:P.underlying t=some (.array n e)) (he:P.underlying e=some (.int .u64)) (hce:P.cellsOf e=1) (hct:P.cellsOf t=n)
    (h:DataW.trod enc P W 0 sp true fuel t cs=some x):∃l:List B64,l.length=n∧RL E (encW l) cs∧(∀v∈cs,v.oneCell' = true):=by
  obtain⟨xs,m,rfl,rfl,hl,hx,hf⟩:=DataW.trod_array ht h;rw[hct] at hl;have all:∀v∈cs,∃z:Int,v = .int .u64 z∧0≤z∧z<18446744073709551616:=by
    intro v hv;obtain⟨i,hi,rfl⟩:=List.mem_iff_getElem.1 hv;have h1:=hf i (by omega);rw[hce,Nat.mul_one,List.getElem?_eq_getElem (show i<xs.length by omega),List.drop_eq_getElem_cons hi,List.take_succ_cons,List.take_zero] at h1;obtain⟨z,e1,_,hw⟩:=DataW.trod_int he h1;simp[Lit.wf,IntKind.min,IntKind.max,IntKind.signed,IntKind.bits] at hw;exact⟨z,by simpa using e1,by omega,by omega⟩
  refine⟨cs.map u64At,by simp[hl],RL_u64s cs all,fun v hv=>?_⟩;obtain⟨z,rfl,_⟩:=all v hv;rfl
theorem RL_app:∀{l m:List V} {cs ds:List Value},RL E l cs→RL E m ds→RL E (l++m) (cs++ds)
  | [],_,[],_,_,h=>h
  | [],_,_::_,_,h,_=>by simp[RL] at h
  | _::_,_,[],_,h,_=>by simp[RL] at h
  | x :: l, m, c :: cs, ds, h, h2 => by
    simp only[RL,List.cons_append] at h ⊢;exact⟨h.1,RL_app h.2 h2⟩
end
end Go.Am

namespace Go.Proofs.Tryd
open Go.Am Go.ChangeShapes Go.WideShapes Go.ChangeAt Go.RowKit
open Go.Proofs.YtaddgcjnnpejjaaDoor
theorem bulkFn (H:Type):BulkFn (H:=H) Rows.uptoBulk Rows.uptoBulkAll :=
  ⟨fun _=>by simp only[Rows.uptoBulk],fun _ _=>by simp only[Rows.uptoBulk],fun _=>by simp only[Rows.uptoBulk],by simp only[Rows.uptoBulk],fun _ _=>by simp only[Rows.uptoBulk],fun _=>by simp only[Rows.uptoBulk],by simp only[Rows.uptoBulkAll],fun _ _=>by simp only[Rows.uptoBulkAll]⟩
theorem laid:laidOutB prog=true:=by kernel_rfl
theorem rowed:mapsRowed prog=true:=by kernel_rfl
theorem fulls:((List.range prog.types.size).all fun t=>match prog.underlying t with | some (.slice e)=>decide (0<prog.cellsOf e) | _=>true)=true:=by kernel_rfl
theorem own:ownKnob prog.godebug=none:=by kernel_rfl
theorem c9:prog.cellsOf 9=1:=by kernel_rfl
theorem c3:prog.cellsOf 3=1:=by kernel_rfl
theorem c4:prog.cellsOf 4=1:=by kernel_rfl
theorem c29:prog.cellsOf 29=1:=by kernel_rfl
theorem c5:prog.cellsOf 5=1:=by kernel_rfl
theorem c127:prog.cellsOf 127=64:=by kernel_rfl
theorem c40:prog.cellsOf 40=64:=by kernel_rfl
theorem c39:prog.cellsOf 39=1:=by kernel_rfl
theorem c42:prog.cellsOf 42=65:=by kernel_rfl
theorem c44:prog.cellsOf 44=67:=by kernel_rfl
theorem c22:prog.cellsOf 22=1:=by kernel_rfl
theorem c24:prog.cellsOf 24=2:=by kernel_rfl
def gB:Nat→Option (List V):=fun b=>if b=0 then some tzCells else none
theorem gB_glob:TZ (mStore gB):=rfl
theorem globs_at {W:World} (h:laidMetH prog Rows.codeRunsRow.laid W):MGlob W gB:=by
  have h:laidMet prog Rows.codeRunsRow.laid W:=h;obtain⟨e3,k3⟩:=laid_at (g:=0) (t:=127) (vs:=tzTab.map fun z=>Value.int .u8 z) h (by kernel_rfl) (by kernel_rfl) (fun cs fuel p hd=>Lib.cells_of_tab underlying127 underlying5 c5 c127 hd) (by simp[tzTab]);intro b cs hb;simp only[gB] at hb;split at hb
  · rename_i hq;subst hq;obtain rfl:=Option.some.inj hb;exact⟨⟨e3,k3⟩,by decide⟩
  · simp at hb
theorem gB_u8:∀b cs,gB b=some cs→∀x∈cs,∃n,litV x = .int .u8 n:=by
  intro b cs hb;simp only[gB] at hb;split at hb
  · obtain rfl:=Option.some.inj hb;intro x hx;obtain⟨w,_,rfl⟩:=List.mem_map.1 hx;exact⟨w,rfl⟩
  · simp at hb
def lay1:DataW Unit→List Value
  | .lit (.int k n)=>[.int k n]
  | _=>[]
def lay2:DataW Unit→List Value
  | .agg ds=>ds.flatMap lay1
  | d=>lay1 d
def layAt (h:Array Obj) (x:Nat × DataW Unit):Array Obj:=h.modify x.1 fun
  | .cells _ t frozen=>.cells (lay2 x.2).toArray t frozen
  | o=>o
noncomputable def laidWorld (os:Os):World :=
  {World.holding prog os ⟨#[],#[],[]⟩ with heap:=[(0,Rows.laid_math_bits_deBruijn64tab)].foldl layAt (World.holding prog os ⟨#[],#[],[]⟩).heap}
set_option maxRecDepth 100000
theorem ln2 {α:Type} {l:List α} (h:l.length=2):∃a b,l=[a,b]:=by
  match l,h with
  | [a,b],_=>exact⟨a,b,rfl⟩
theorem ln3 {α:Type} {l:List α} (h:l.length=3):∃a b c,l=[a,b,c]:=by
  match l,h with
  | [a,b,c],_=>exact⟨a,b,c,rfl⟩
section
variable {H:Type} {enc:TypeId × Value→H} {W:World} {sp:Nat→Bool} {E:Env} (hw:E.w=W) (hnl:E.nl=E) (hcom:NUCom W E)
theorem RL_oneE {x:V} {v:Value}:RL E [x] [v]↔R E x v:=by simp[RL]
theorem rd_intE {n:Nat} {cs:List Value} {x:DataW H × List MemPlace} (h:DataW.trod enc prog W 0 sp true n 3 cs=some x) :
    ∃i:Int,RL E [.int .i64 i] cs∧(∀v∈cs,v.oneCell' = true)∧Rows.uptoBulk x.1=1:=by
  obtain⟨i,rfl,rfl,_⟩:=DataW.trod_int underlying3 h;exact⟨i,by simp[RL,R],by simp[Value.oneCell'],(bulkFn H).int _ _⟩
theorem rd_strE {n:Nat} {cs:List Value} {x:DataW H × List MemPlace} (h:DataW.trod enc prog W 0 sp true n 9 cs=some x) :
    ∃s:List UInt8,RL E [.str s] cs∧(∀v∈cs,v.oneCell' = true)∧s.length+1=Rows.uptoBulk x.1:=by
  obtain⟨s,rfl,rfl,_⟩:=DataW.trod_string underlying9 h;exact⟨s.data.toList,by simp[RL,R],by simp[Value.oneCell'],((bulkFn H).str _).symm⟩
theorem rd_boolE {n:Nat} {cs:List Value} {x:DataW H × List MemPlace} (h:DataW.trod enc prog W 0 sp true n 4 cs=some x) :
    ∃i:Bool,RL E [.bool i] cs∧(∀v∈cs,v.oneCell' = true):=by
  obtain⟨i,rfl,rfl⟩:=DataW.trod_bool underlying4 h;exact⟨i,by simp[RL,R],by simp[Value.oneCell']⟩
theorem rd_relE {n:Nat} {cs:List Value} {x:DataW H × List MemPlace} (h:DataW.trod enc prog W 0 sp true n 42 cs=some x) :
    ∃r:Rl,RL E r.enc cs∧(∀v∈cs,v.oneCell' = true):=by
  obtain⟨xs,m,rfl,rfl,hl,hx,hf⟩:=DataW.trod_struct underlying42 h;rw[c42] at hl;obtain⟨x0,x1,rfl⟩:=ln2 hx;have h0:DataW.trod enc prog W 0 sp true m 3 ((cs.drop 0).take (prog.cellsOf 3))=some x0:=hf 0 _ rfl;have h1:DataW.trod enc prog W 0 sp true m 40 ((cs.drop 1).take (prog.cellsOf 40))=some x1:=hf 1 _ rfl;obtain⟨l,q1,r1,o1⟩:=rd_u64s (E:=E) underlying40 underlying29 c29 c40 h1;rw[c3] at h0;rw[c40,List.take_of_length_le (by simp[hl])] at r1 o1;obtain⟨k,r0,o0,_⟩:=rd_intE (E:=E) h0;rw[List.drop_zero] at r0 o0;refine⟨⟨k,l,q1⟩,?_,fun v hv=>?_⟩
  · have:=RL_app r0 r1
    rwa [List.take_append_drop] at this
  · rw[←List.take_append_drop 1 cs] at hv
    rcases List.mem_append.1 hv with hv | hv
    · exact o0 v hv
    · exact o1 v hv
theorem name_nu (s:List UInt8):HasNU [V.str s]:=⟨0,.str s,rfl,rfl⟩
theorem fct_nu (f:Fct):HasNU f.enc:=⟨0,.int .i64 f.kind,rfl,rfl⟩
include hw hnl hcom in
theorem rd_namesE {n:Nat} {cs:List Value} {x:DataW H × List MemPlace} (h:DataW.trod enc prog W 0 sp true n 39 cs=some x) :
    ∃l:List (List UInt8),RL E [.sl .no 1 (sCells l)] cs∧(∀v∈cs,v.oneCell' = true):=by
  obtain⟨l,r,o,_⟩:=rd_sliceN (α:=List UInt8) (fun s=>[V.str s]) (fun _=>0) (bulkFn H) underlying39 c9 (by omega) (fun _=>rfl) hw hnl hcom name_nu (fun _ _ cs x h=>by
    obtain⟨s,q1,q2,_⟩:=rd_strE (E:=E) h;exact⟨s,q1,q2,Nat.zero_le _⟩) h
  exact⟨l,r,o⟩
include hw hnl hcom in
theorem rd_facE {n:Nat} {cs:List Value} {x:DataW H × List MemPlace} (h:DataW.trod enc prog W 0 sp true n 44 cs=some x) :
    ∃f:Fct,RL E f.enc cs∧(∀v∈cs,v.oneCell' = true):=by
  obtain⟨xs,m,rfl,rfl,hl,hx,hf⟩:=DataW.trod_struct underlying44 h;rw[c44] at hl;obtain⟨x0,x1,x2,rfl⟩:=ln3 hx;have h0:DataW.trod enc prog W 0 sp true m 3 ((cs.drop 0).take (prog.cellsOf 3))=some x0:=hf 0 _ rfl;have h1:DataW.trod enc prog W 0 sp true m 39 ((cs.drop 1).take (prog.cellsOf 39))=some x1:=hf 1 _ rfl;have h2:DataW.trod enc prog W 0 sp true m 42 ((cs.drop 2).take (prog.cellsOf 42))=some x2:=hf 2 _ rfl;rw[c3] at h0;rw[c39] at h1;rw[c42,List.take_of_length_le (by simp[hl])] at h2;obtain⟨k,r0,o0,_⟩:=rd_intE (E:=E) h0;obtain⟨ns,r1,o1⟩:=rd_namesE hw hnl hcom h1;obtain⟨r,r2,o2⟩:=rd_relE (E:=E) h2;obtain⟨a,cs,rfl⟩:∃a t,cs=a::t:=by cases cs with | nil=>simp at hl | cons a t=>exact⟨a,t,rfl⟩
  obtain⟨b,cs,rfl⟩:∃a t,cs=a::t:=by cases cs with | nil=>simp at hl | cons a t=>exact⟨a,t,rfl⟩
  simp only[List.drop_zero,List.drop_succ_cons,List.take_succ_cons,List.take_zero,RL_oneE] at r0 r1 r2 o0 o1 o2;refine⟨⟨k,ns,r⟩,?_,fun v hv=>?_⟩
  · simp only[Fct.enc,RL];exact⟨r0,r1,r2⟩
  · simp only[List.mem_cons,List.not_mem_nil,or_false] at hv o0 o1
    rcases hv with rfl | rfl | hv
    · exact o0 _ rfl
    · exact o1 _ rfl
    · exact o2 _ hv
include hw hnl hcom in
theorem rd_facsE {n:Nat} {cs:List Value} {x:DataW H × List MemPlace} (h:DataW.trod enc prog W 0 sp true n 22 cs=some x) :
    ∃l:List Fct,RL E [.sl .no 67 (l.map Fct.enc)] cs∧(∀v∈cs,v.oneCell' = true):=by
  obtain⟨l,r,o,_⟩:=rd_sliceN (α:=Fct) Fct.enc (fun _=>0) (bulkFn H) underlying22 c44 (by omega) (fun _=>Fct.r_len) hw hnl hcom fct_nu (fun _ _ cs x h=>by
    obtain⟨f,q1,q2⟩:=rd_facE hw hnl hcom h;exact⟨f,q1,q2,Nat.zero_le _⟩) h
  exact⟨l,r,o⟩
include hw hnl hcom in
theorem rd_shpE {n:Nat} {cs:List Value} {x:DataW H × List MemPlace} (h:DataW.trod enc prog W 0 sp true n 24 cs=some x) :
    ∃s:Shp,RL E s.enc cs∧(∀v∈cs,v.oneCell' = true):=by
  obtain⟨xs,m,rfl,rfl,hl,hx,hf⟩:=DataW.trod_struct underlying24 h;rw[c24] at hl;obtain⟨a,b,rfl⟩:=ln2 hl;obtain⟨x0,x1,rfl⟩:=ln2 hx;have h0:DataW.trod enc prog W 0 sp true m 4 ((([a,b]:List Value).drop 0).take (prog.cellsOf 4))=some x0:=hf 0 _ rfl;have h1:DataW.trod enc prog W 0 sp true m 22 ((([a,b]:List Value).drop 1).take (prog.cellsOf 22))=some x1:=hf 1 _ rfl;rw[c4] at h0;rw[c22] at h1;obtain⟨t,r0,o0⟩:=rd_boolE (E:=E) h0;obtain⟨fs,r1,o1⟩:=rd_facsE hw hnl hcom h1;simp only[List.drop_zero,List.drop_succ_cons,List.take_succ_cons,List.take_zero,RL_oneE] at r0 r1 o0 o1;refine⟨⟨t,fs⟩,?_,fun v hv=>?_⟩
  · simp only[Shp.enc,RL];exact⟨r0,r1,trivial⟩
  · simp only[List.mem_cons,List.not_mem_nil,or_false] at hv o0 o1
    rcases hv with rfl | rfl
    · exact o0 _ rfl
    · exact o1 _ rfl
end
end Go.Proofs.Tryd

namespace Go.Proofs.Tryd
open Go.Am Go.ChangeShapes Go.WideShapes Go.ChangeAt Go.RowKit
open Go.Proofs.YtaddgcjnnpejjaaDoor
set_option maxRecDepth 100000
theorem c31:prog.cellsOf 31=8:=by kernel_rfl
theorem elm_nu (e:Elm):HasNU e.enc:=by
  obtain⟨w,h⟩:=e
  match w,h with
  | a::_,_=>exact⟨0,.int .u64 (a.toNat:Nat),rfl,rfl⟩
section
variable {H:Type} {enc:TypeId × Value→H} {W:World} {sp:Nat→Bool} {E:Env} (hw:E.w=W) (hnl:E.nl=E) (hcom:NUCom W E)
theorem rd_elmE {n:Nat} {cs:List Value} {x:DataW H × List MemPlace} (h:DataW.trod enc prog W 0 sp true n 31 cs=some x) :
    ∃e:Elm,RL E e.enc cs∧(∀v∈cs,v.oneCell' = true):=by
  obtain⟨l,q1,r1,o1⟩:=rd_u64s (E:=E) underlying31 underlying29 c29 c31 h;exact⟨⟨l,q1⟩,r1,o1⟩
include hw hnl hcom in
theorem rd_elmsE {n:Nat} {cs:List Value} {x:DataW H × List MemPlace} (h:DataW.trod enc prog W 0 sp true n 26 cs=some x) :
    ∃l:List Elm,RL E [.sl .no 8 (l.map Elm.enc)] cs∧(∀v∈cs,v.oneCell' = true)∧l.length+1≤Rows.uptoBulk x.1:=by
  obtain⟨l,r,o,b⟩:=rd_sliceN (α:=Elm) Elm.enc (fun _=>1) (bulkFn H) underlying26 c31 (by omega) (fun _=>Elm.r_len) hw hnl hcom elm_nu (fun _ _ cs x h=>by
    obtain⟨f,q1,q2⟩:=rd_elmE (E:=E) h;obtain⟨xs,m,rfl,rfl,_⟩:=DataW.trod_array underlying31 h;exact⟨f,q1,q2,by show 1≤Rows.uptoBulk (.agg _);rw[Rows.uptoBulk];omega⟩) h
  refine⟨l,r,o,?_⟩;have:∀l:List Elm,(l.map fun _=>1).sum=l.length:=fun l=>by induction l with | nil=>rfl | cons a l ih=>rw[List.map_cons,List.sum_cons,ih,List.length_cons];omega
  have:=this l;omega
end
end Go.Proofs.Tryd

namespace Go.Proofs.Tryd
open Go.Am Go.ChangeShapes Go.WideShapes Go.ChangeAt Go.RowKit
open Go.Proofs.YtaddgcjnnpejjaaDoor
set_option maxRecDepth 100000
theorem c60:prog.cellsOf 60=10:=by kernel_rfl
theorem ins_nu (i:Ins):HasNU i.enc:=⟨0,.int .i64 i.op,rfl,rfl⟩
section
variable {H:Type} {enc:TypeId × Value→H} {W:World} {sp:Nat→Bool} {E:Env} (hw:E.w=W) (hnl:E.nl=E) (hcom:NUCom W E)
theorem rd_insE {n:Nat} {cs:List Value} {x:DataW H × List MemPlace} (h:DataW.trod enc prog W 0 sp true n 60 cs=some x) :
    ∃i:Ins,RL E i.enc cs∧(∀v∈cs,v.oneCell' = true):=by
  obtain⟨xs,m,rfl,rfl,hl,hx,hf⟩:=DataW.trod_struct underlying60 h;rw[c60] at hl;obtain⟨x0,x1,x2,rfl⟩:=ln3 hx;have h0:DataW.trod enc prog W 0 sp true m 3 ((cs.drop 0).take (prog.cellsOf 3))=some x0:=hf 0 _ rfl;have h1:DataW.trod enc prog W 0 sp true m 3 ((cs.drop 1).take (prog.cellsOf 3))=some x1:=hf 1 _ rfl;have h2:DataW.trod enc prog W 0 sp true m 31 ((cs.drop 2).take (prog.cellsOf 31))=some x2:=hf 2 _ rfl;rw[c3] at h0 h1;rw[c31,List.take_of_length_le (by simp[hl])] at h2;obtain⟨k,r0,o0,_⟩:=rd_intE (E:=E) h0;obtain⟨j,r1,o1,_⟩:=rd_intE (E:=E) h1;obtain⟨e,r2,o2⟩:=rd_elmE (E:=E) h2;obtain⟨a,cs,rfl⟩:∃a t,cs=a::t:=by cases cs with | nil=>simp at hl | cons a t=>exact⟨a,t,rfl⟩
  obtain⟨b,cs,rfl⟩:∃a t,cs=a::t:=by cases cs with | nil=>simp at hl | cons a t=>exact⟨a,t,rfl⟩
  simp only[List.drop_zero,List.drop_succ_cons,List.take_succ_cons,List.take_zero,RL_oneE] at r0 r1 r2 o0 o1 o2;refine⟨⟨k,j,e⟩,?_,fun v hv=>?_⟩
  · simp only[Ins.enc,RL];exact⟨r0,r1,r2⟩
  · simp only[List.mem_cons,List.not_mem_nil,or_false] at hv o0 o1
    rcases hv with rfl | rfl | hv
    · exact o0 _ rfl
    · exact o1 _ rfl
    · exact o2 _ hv
include hw hnl hcom in
theorem rd_inssE {n:Nat} {cs:List Value} {x:DataW H × List MemPlace} (h:DataW.trod enc prog W 0 sp true n 25 cs=some x) :
    ∃l:List Ins,RL E [.sl .no 10 (l.map Ins.enc)] cs∧(∀v∈cs,v.oneCell' = true):=by
  obtain⟨l,r,o,_⟩:=rd_sliceN (α:=Ins) Ins.enc (fun _=>0) (bulkFn H) underlying25 c60 (by omega) (fun _=>Ins.r_len) hw hnl hcom ins_nu (fun _ _ cs x h=>by
    obtain⟨f,q1,q2⟩:=rd_insE (E:=E) h;exact⟨f,q1,q2,Nat.zero_le _⟩) h
  exact⟨l,r,o⟩
end
end Go.Proofs.Tryd

namespace Go.Proofs.Tryd
open Go.Am
set_option maxRecDepth 4000
set_option maxHeartbeats 4000000
def ac11:AC:=.seq (.reg [⟨(some 2),.own .nil [],none⟩])
 (.seq (.reg [⟨(some 3),.own .nil [],none⟩])
 (.seq (.seq (.reg [xm 7 0,xL 8 7,xi 9 0])
 (.block 0 (.loop (.seq (.reg [xb .lss 10 9 8])
 (.seq (.cond (.s 10) (.skip)
 (.exit 0))
 (.seq (.block 1 (.seq (.reg [xA 10 11 7 9,xl 10 12 11,⟨(some 5),.alloc insZ,none⟩,xs 10 5 12])
 (.seq (.seq (.reg [xf 0 13 5,xo 14 13,xB .neq 15 14 1,xm 16 15,xh 16 (xf 1 17 5),xh 16 (xo 18 17),xh 16 (xB .lss 19 18 0),⟨(some 20),.pick (.s 16) (.c (.bool true)) (.s 19),none⟩])
 (.cond (.s 20) (.exit 1)
 (.skip)))
 (.seq (.reg [xi 6 0])
 (.seq (.block 2 (.loop (.seq (.seq (.draw [(xm 21 6,[]),(xm 22 3,[]),(xL 23 22,[]),(xb .lss 24 21 23,[]),(xm 25 24,[]),(xg 25 (xm 26 3),[]),(xg 25 (xm 27 6),[]),(xg 25 (xA 1 28 26 27),[]),(xg 25 (xo 29 28),[]),(xg 25 (xf 1 30 5),[]),(xg 25 (xo 31 30),[]),(xg 25 (xb .lss 32 29 31),[]),(⟨(some 33),.pick (.s 25) (.s 32) (.c (.bool false)),none⟩,[])])
 (.cond (.s 33) (.skip)
 (.exit 2)))
 (.block 3 (.reg [xm 34 6,xB .add 35 34 1,xm 6 35])))))
 (.seq (.seq (.draw [(xm 36 6,[]),(xm 37 3,[]),(xL 38 37,[]),(xb .lss 39 36 38,[]),(xm 40 39,[]),(xg 40 (xm 41 3),[]),(xg 40 (xm 42 6),[]),(xg 40 (xA 1 43 41 42),[]),(xg 40 (xo 44 43),[]),(xg 40 (xf 1 45 5),[]),(xg 40 (xo 46 45),[]),(xg 40 (xb .eql 47 44 46),[]),(⟨(some 48),.pick (.s 40) (.s 47) (.c (.bool false)),none⟩,[])])
 (.cond (.s 48) (.exit 1)
 (.skip)))
 (.seq (.reg [xm 49 3,⟨(some 50),.bslice 1 [(.c (.int .i64 0))],none⟩,⟨(some 51),.own (.app 1) [(.s 49),(.s 50)],none⟩,xm 3 51])
 (.seq (.seq (.draw [(xm 52 3,[]),(xm 53 6,[]),(xB .add 54 53 1,[]),(⟨(some 55),.slc 1 (.s 52) (some (.s 54)) none none,none⟩,[]),(xm 56 3,[]),(xm 57 6,[]),(⟨(some 58),.slc 1 (.s 56) (some (.s 57)) none none,none⟩,[])])
 (.reg [⟨(some 59),.own (.cpy 1) [(.s 55),(.s 58)],none⟩]))
 (.reg [xm 60 3,xm 61 6,xf 1 62 5,xo 63 62,⟨(some 64),.own (.idx 1) [(.s 60),(.s 61)],none⟩,xs 1 64 63])))))))))
 (.reg [xB .add 65 9 1,xm 9 65])))))))
 (.seq (.upd (.reg [xm 66 3,xm 2 66]))
 (.ret))))
theorem fn11:IsFn prog 11 ac11 [.tmp 2] 67:=⟨f11,⟨[2,3,23,28,38,43,51,55,58,64],[14],[11]⟩,func11,by kernel_rfl,by kernel_rfl,by kernel_rfl,by kernel_rfl⟩
theorem iCells_get {l:List Int} {j:Nat} (h:j<l.length):(iCells l)[j]?=some [.int .i64 l[j]]:=by simp[iCells,h]
theorem iCells_one:∀{l:List Int},oneL (iCells l).flatten=true
  | []=>rfl
  | x::l=>by have:=@iCells_one l;simpa [iCells,oneL,V.one] using this
theorem int_ld {cs rest:List V} {n:Int} {j:Nat} (h:cs.drop (j*1)=[.int .i64 n]++rest):ldC false 1 (cs.drop j)=some (.int .i64 n):=by
  rw[Nat.mul_one] at h;rw[h];rfl
def z33_:=And.intro @am <| And.intro @amo <| And.intro @ams @Ins.rec_
def z34_:=And.intro @am <| And.intro @aml <| And.intro @Ins.rec_ @Nat.mul_one
def z35_:=And.intro @am <| And.intro @amo <| And.intro @Ins.rec_ @Nat.mul_one
theorem cvars_calls (l:List Ins) {σ:Store} (hl:l.length≤100000):PCalls prog 11 [.sl .no 10 (l.map Ins.enc)] σ fun v σ' => v = .sl .no 1 (iCells (varsF l))∧σ' = σ:=by
  refine fn11.calls ?_;simp only[slots,ac11,z33_,List.length_map];obtain⟨F,hF⟩:∃F:Nat→V × Store→St,∀i x,F i x=⟨[.any,.any,.any,x.1,.any,.any,.any,.sl .no 10 (l.map Ins.enc),.int .i64 (l.length:Nat),.int .i64 (i:Nat)]++List.replicate 57 .any,[],x.2⟩:=⟨_,fun _ _=>rfl⟩;obtain⟨JF,hJF⟩:∃JF:Nat→V × Store→Prop,∀i x,JF i x=(Own x.2 1 x.1 (iCells (varsF (l.take i)))∧OwnS σ x.2 x.1):=⟨_,fun _ _=>rfl⟩;refine vc_count (l.length) F JF _ hJF ?_ ?_ ?_
  · refine ent ((.raw (.slice none 0 0),σ)) ?_ ?_ ?_ ?_
    · exact Eq.mpr (hJF _ _) (⟨Own.none,OwnS.start⟩)
    all_goals simp[hF,List.replicate,am,lle_self]
  · rintro i ⟨v,σ1⟩ hi ⟨hO,hS⟩;simp only at hO hS;have hlen:=@varsF_len (l.take i);have hlt:(l.take i).length=i:=by simp;omega
    rw[hlt] at hlen;have hvar:=varsF_take hi;generalize varsF (l.take i)=o at hO hlen hvar;simp only[hF,List.replicate,am,dlt hi];refine idxL_intro (by omega) (codes_at hi) ?_;simp only[am,Ins.rec_]
    by_cases hop:l[i].op=1
    case neg =>
      have hv:varsF (l.take (i+1))=o:=by rw[hvar,varI,if_neg (fun h=>hop h.1)]
      simp only[am,aml,reduceCtorEq,decide_eq_false hop,winc hi (by omega)];refine nxtD ((v,σ1)) hi ?_ ?_ ?_ ?_ ?_ ?_
      · exact Eq.mpr (hJF _ _) (⟨by rw[hv];exact hO,hS⟩)
      all_goals simp[hF,List.replicate,am,lle_self,loL,loLL,V.lo,own_lo hO]
    simp only[am,Ins.rec_,decide_eq_true hop]
    by_cases hn:l[i].n<0
    case pos =>
      have hv:varsF (l.take (i+1))=o:=by rw[hvar,varI,if_neg (fun h=>by omega)]
      simp only[am,aml,reduceCtorEq,decide_eq_true hn,winc hi (by omega)];refine nxtD ((v,σ1)) hi ?_ ?_ ?_ ?_ ?_ ?_
      · exact Eq.mpr (hJF _ _) (⟨by rw[hv];exact hO,hS⟩)
      all_goals simp[hF,List.replicate,am,lle_self,loL,loLL,V.lo,own_lo hO]
    simp only[am,decide_eq_false hn];have hvar:varsF (l.take (i+1))=insI l[i].n o:=by rw[hvar,varI,if_pos ⟨hop,by omega⟩]
    obtain⟨k,hk,hlt,hge,hin⟩:∃k,k≤o.length∧(∀j,j<k→∃h:j<o.length,o[j]<l[i].n)∧(∀h:k<o.length,¬o[k]<l[i].n)∧insI l[i].n o=if o[k]?=some l[i].n then o else o.take k++l[i].n::o.drop k :=
      ⟨lessI l[i].n o,lessI_le,fun j hj=>lessI_lt hj,fun h=>lessI_ge h,rfl⟩
    obtain⟨F2,hF2⟩:∃F2:Nat→Unit→St,∀j y,F2 j y=⟨[.any,.any,.any,v,.any,.ptr (.loc 0) 0,.int .i64 (j:Nat),.sl .no 10 (l.map Ins.enc),.int .i64 (l.length:Nat),.int .i64 (i:Nat)]++List.replicate 57 .any,[l[i].enc],σ1⟩:=⟨_,fun _ _=>rfl⟩;obtain⟨JF2,hJF2⟩:∃JF2:Nat→Unit→Prop,∀j y,JF2 j y=(True):=⟨_,fun _ _=>rfl⟩;refine vc_count (k) F2 JF2 _ hJF2 ?_ ?_ ?_
    · refine ent (()) ?_ ?_ ?_ ?_
      · exact Eq.mpr (hJF2 _ _) (trivial)
      all_goals simp[hF2,List.replicate,am,lle_self]
    · rintro j y hj -;obtain⟨hjo,hjx⟩:=hlt j hj;simp only[hF2,List.replicate,am];refine hO.lenL ?_;simp only[am,iCells_len,dlt hjo];refine hO.idxL (iCells_get hjo) fun b cs rest hb hcs hdr=>?_
      have hld:=int_ld hdr;simp only[z34_,hcs,hld,decide_eq_true hjx,winc hj (by omega)];refine nxt (()) hj ?_ ?_ ?_ ?_
      · exact Eq.mpr (hJF2 _ _) (trivial)
      all_goals simp[hF2,List.replicate,am,lle_self]
    · rintro y -;simp only[hF2,List.replicate,am]
      by_cases he:o[k]?=some l[i].n
      · obtain⟨hkl,hex⟩:=List.getElem?_eq_some_iff.1 he;refine hO.lenL ?_;simp only[am,iCells_len,dlt hkl];refine hO.idxL (iCells_get hkl) fun b cs rest hb hcs hdr=>?_
        have hld:=int_ld hdr;simp only[z34_,Nat.reduceEqDiff,reduceCtorEq,hcs,hld,decide_eq_false (hge hkl)];refine hO.lenL ?_;simp only[am,iCells_len,dlt hkl];refine hO.idxL (iCells_get hkl) fun b cs rest hb hcs hdr=>?_
        have hld:=int_ld hdr;simp only[z34_,reduceCtorEq,hcs,hld,decide_eq_true hex,winc hi (by omega)];refine nxtD ((v,σ1)) hi ?_ ?_ ?_ ?_ ?_ ?_
        · exact Eq.mpr (hJF _ _) (⟨by rw[hvar,hin,if_pos he];exact hO,hS⟩)
        all_goals simp[hF,List.replicate,am,lle_self,loL,loLL,V.lo,own_lo hO]
      have hins:insI l[i].n o=o.take (k)++l[i].n::o.drop (k):=by rw[hin,if_neg he]
      refine hO.lenL ?_
      by_cases hkl:k<o.length
      case' pos =>
        simp only[am,iCells_len,dlt hkl];refine hO.idxL (iCells_get hkl) fun b cs rest hb hcs hdr=>?_
        have hld:=int_ld hdr;simp only[z34_,Nat.reduceEqDiff,reduceCtorEq,hcs,hld,decide_eq_false (hge hkl)];refine hO.lenL ?_;simp only[am,iCells_len,dlt hkl];refine hO.idxL (iCells_get hkl) fun b cs rest hb hcs hdr=>?_
        have hld:=int_ld hdr;have hne:¬o[k]=l[i].n:=fun e=>he (by rw[List.getElem?_eq_getElem hkl,e])
        simp only[z35_,hcs,hld,decide_eq_false hne]
      case' neg =>
        simp only[am,Nat.reduceEqDiff,aml,reduceCtorEq,iCells_len,decide_eq_false (show ¬((k:Nat):Int)<(o.length:Nat) by omega)];refine hO.lenL ?_;simp only[am,amo,iCells_len,decide_eq_false (show ¬((k:Nat):Int)<(o.length:Nat) by omega)]
      all_goals
        refine hO.app (m:=[[.int .i64 0]]) (by simp) rfl (by simp[big,iCells];omega) fun v2 σ2 hO2 hF2=>?_
        simp only[am,amc,winc (show k<o.length+1 by omega) (by omega)];refine hO2.slcFrom (m:=k+1) (by simp[iCells];omega) fun v3 c3=>?_
        simp only[am,amc];refine hO2.slcFrom (m:=k) (by simp[iCells];omega) fun v4 c4=>?_
        simp only[am,amo];refine hO2.cpy c3 c4 (by omega) (by simp[iCells];omega) (by rw[List.flatten_append,oneL_app,iCells_one];rfl) fun σ3 hO3 hF3=>?_
        simp only[am,amo,Ins.rec_];rw[hins] at hvar;obtain⟨c,hc⟩:∃c,((iCells o++[[V.int IntKind.i64 0]]).take (k+1)++((iCells o++[[V.int IntKind.i64 0]]).drop k).take ((iCells o++[[V.int IntKind.i64 0]]).length - (k+1)))[k]?=some c:=⟨_,List.getElem?_eq_getElem (by simp[iCells];omega)⟩;have hcl:c.length=1:=by
          obtain⟨_,_,_,_,h2,_⟩:=hO3;exact h2 c (List.mem_of_getElem? hc)
        refine hO3.idx (by omega) (j:=(k:Nat)) (c:=c) (by rw[Int.toNat_natCast];exact hc) fun b cs rest hb hcs hdr=>?_
        rw[Int.toNat_natCast] at hdr ⊢;obtain⟨u,rfl⟩:∃u,c=[u]:=by
          match c,hcl with
          | [u],_=>exact⟨u,rfl⟩
        have hhas:hasN 1 (cs.drop k)=true:=by rw[Nat.mul_one] at hdr;rw[hdr];rfl
        obtain⟨hO4,hF4⟩:=hO3.put (off:=0) (x:=[.int .i64 l[i].n]) hc hb hcs (by simp);rw[show setAt [u] 0 [V.int IntKind.i64 l[i].n]=[V.int IntKind.i64 l[i].n] from rfl,shift_set (by simp[iCells];omega),Nat.mul_one,Nat.add_zero] at hO4;rw[Nat.mul_one,Nat.add_zero] at hF4;simp only[am,aml,Nat.mul_one,hcs,hhas,winc hi (by omega)];refine nxtD ((v2,σ3.set b (setAt cs k [.int .i64 l[i].n]))) hi ?_ ?_ ?_ ?_ ?_ ?_
        · exact Eq.mpr (hJF _ _) (⟨by rw[hvar];simpa [iCells] using hO4,((hS.step hF2).step hF3).step hF4⟩)
        all_goals simp[hF,List.replicate,am,lle_self,loL,loLL,V.lo,own_lo hO2]
  · rintro⟨v,σ1⟩ ⟨hO,hS⟩;simp only[List.take_length] at hO hS;simp only[hF,List.replicate,am,aml,dnl,aml];refine Upd.frz hO iCells_one (t' := [.any,.any,.any,.sl .no 1 (iCells (varsF l))]++List.replicate 63 .any) (by simp[List.replicate,fto]) fun σ' hs=>?_
    simp only[am,List.replicate];exact retK_intro rfl (hs σ hS) ⟨rfl,rfl⟩
end Go.Proofs.Tryd

namespace Go.Proofs.Tryd
open Go.Am
set_option maxRecDepth 4000
set_option maxHeartbeats 4000000
def ac7:AC:=.seq (.reg [⟨(some 3),.box 2 (.s 0),none⟩,⟨(some 6),.alloc elmZ,none⟩,⟨(some 7),.mv (.c (.bool false)),none⟩])
 (.seq (.reg [⟨(some 8),.mv (.c (.sl .full 8 [])),none⟩])
 (.seq (.seq (.reg [xm 13 1,xc 9 14 [.s 13],⟨(some 15),.not (.s 14),none⟩])
 (.cond (.s 15) (.seq (.reg [⟨(some 16),.build elmZ [],none⟩,xs 8 6 16,⟨(some 7),.mv (.c (.bool false)),none⟩])
 (.ret))
 (.skip)))
 (.seq (.seq (.reg [xi 9 0])
 (.block 0 (.loop (.seq (.seq (.reg [xm 17 9,xm 18 1,xL 19 18,xb .lss 20 17 19])
 (.cond (.s 20) (.skip)
 (.exit 0)))
 (.seq (.block 1 (.seq (.reg [xm 23 1,xm 24 9,xA 10 25 23 24,xl 10 26 25,⟨(some 10),.alloc insZ,none⟩,xs 10 10 26])
 (.seq (.reg [xf 0 27 10,xo 28 27,xB .eql 29 28 2])
 (.cond (.s 29) (.reg [xm 30 8,xf 2 31 10,xl 8 32 31,⟨(some 33),.bslice 8 [(.s 32)],none⟩,xa 8 34 30 33,xm 8 34])
 (.seq (.reg [xf 0 35 10,xo 36 35,xB .eql 37 36 1])
 (.cond (.s 37) (.seq (.seq (.reg [xf 1 38 10,xo 39 38,xB .lss 40 39 0,xm 41 40,xh 41 (xf 1 42 10),xh 41 (xo 43 42),xh 41 (xm 44 2),xh 41 (xL 45 44),xh 41 (xb .geq 46 43 45),⟨(some 47),.pick (.s 41) (.c (.bool true)) (.s 46),none⟩])
 (.cond (.s 47) (.seq (.reg [⟨(some 48),.build elmZ [],none⟩,xs 8 6 48,⟨(some 7),.mv (.c (.bool false)),none⟩])
 (.ret))
 (.skip)))
 (.reg [xm 49 8,xm 50 2,xf 1 51 10,xo 52 51,xA 8 53 50 52,xl 8 54 53,⟨(some 55),.bslice 8 [(.s 54)],none⟩,xa 8 56 49 55,xm 8 56]))
 (.seq (.reg [xm 57 8,xm 58 8,xL 59 58,xB .sub 60 59 1,xA 8 61 57 60,xl 8 62 61,⟨(some 11),.alloc elmZ,none⟩,xs 8 11 62])
 (.seq (.seq (.reg [xi 12 2])
 (.block 2 (.loop (.seq (.seq (.reg [xm 63 12,xf 1 64 10,xo 65 64,xb .leq 66 63 65])
 (.cond (.s 66) (.skip)
 (.exit 2)))
 (.seq (.block 3 (.seq (.reg [xf 0 69 10,xo 70 69,xB .eql 71 70 3])
 (.cond (.s 71) (.draw [(xl 2 72 3,[]),(xm 73 8,[]),(xm 74 8,[]),(xL 75 74,[]),(xm 76 12,[]),(xb .sub 77 75 76,[]),(xA 8 78 73 77,[]),(xl 8 79 78,[]),(xl 8 80 11,[]),(xc 15 81 [.s 72,.s 79,.s 80],[]),(xs 8 11 81,[])])
 (.draw [(xm 82 8,[]),(xm 83 8,[]),(xL 84 83,[]),(xm 85 12,[]),(xb .sub 86 84 85,[]),(xA 8 87 82 86,[]),(xl 8 88 87,[]),(xl 8 89 11,[]),(xc 16 90 [.s 88,.s 89],[]),(xs 8 11 90,[])]))))
 (.reg [xm 67 12,xB .add 68 67 1,xm 12 68]))))))
 (.upd (.draw [(⟨(some 91),.bslice 8 [],none⟩,[]),(xm 92 8,[]),(xm 93 8,[]),(xL 94 93,[]),(xf 1 95 10,[]),(xo 96 95,[]),(xb .sub 97 94 96,[]),(⟨(some 98),.slc 8 (.s 92) none (some (.s 97)) none,none⟩,[]),(xa 8 99 91 98,[]),(xl 8 100 11,[0]),(⟨(some 101),.bslice 8 [(.s 100)],none⟩,[]),(xa 8 102 99 101,[]),(xm 8 102,[])]))))))))))
 (.reg [xm 21 9,xB .add 22 21 1,xm 9 22]))))))
 (.seq (.reg [xm 103 8,⟨(some 104),.idxA 8 (.s 103) (.c (.int .i64 0)),none⟩,xl 8 105 104,xs 8 6 105,⟨(some 7),.mv (.c (.bool true)),none⟩])
 (.ret)))))
theorem fn7:IsFn prog 7 ac7 [.cell 6 true 8,.tmp 7] 106:=⟨f7,⟨[],[21],[]⟩,func7,by kernel_rfl,by kernel_rfl,by kernel_rfl,by kernel_rfl⟩
def ac9:AC:=.seq (.reg [⟨(some 2),.mv (.c (.bool false)),none⟩])
 (.seq (.reg [xi 3 0])
 (.seq (.seq (.reg [xi 4 0])
 (.block 0 (.loop (.seq (.seq (.reg [xm 5 4,xm 6 0,xL 7 6,xb .lss 8 5 7])
 (.cond (.s 8) (.skip)
 (.exit 0)))
 (.seq (.block 1 (.seq (.reg [xm 11 0,xm 12 4,xA 10 13 11 12,xf 0 14 13,xo 15 14])
 (.block 2 (.seq (.seq (.reg [xB .eql 17 15 1,xm 16 17])
 (.cond (.s 16) (.skip)
 (.reg [xB .eql 18 15 2,xm 16 18])))
 (.cond (.s 16) (.reg [xm 19 3,xB .add 20 19 1,xm 3 20])
 (.seq (.seq (.reg [xB .eql 22 15 3,xm 21 22])
 (.cond (.s 21) (.skip)
 (.reg [xB .eql 23 15 4,xm 21 23])))
 (.cond (.s 21) (.seq (.seq (.reg [xm 24 0,xm 25 4,xA 10 26 24 25,xf 1 27 26,xo 28 27,xB .lss 29 28 1,xm 30 29,xh 30 (xm 31 0),xh 30 (xm 32 4),xh 30 (xA 10 33 31 32),xh 30 (xf 1 34 33),xh 30 (xo 35 34),xh 30 (xm 36 3),xh 30 (xb .gtr 37 35 36),⟨(some 38),.pick (.s 30) (.c (.bool true)) (.s 37),none⟩])
 (.cond (.s 38) (.seq (.reg [⟨(some 2),.mv (.c (.bool false)),none⟩])
 (.ret))
 (.skip)))
 (.reg [xm 39 3,xm 40 0,xm 41 4,xA 10 42 40 41,xf 1 43 42,xo 44 43,xb .sub 45 39 44,xB .add 46 45 1,xm 3 46]))
 (.seq (.reg [⟨(some 2),.mv (.c (.bool false)),none⟩])
 (.ret)))))))))
 (.reg [xm 9 4,xB .add 10 9 1,xm 4 10]))))))
 (.seq (.reg [xm 47 3,xB .eql 48 47 1,xm 2 48])
 (.ret))))
theorem fn9:IsFn prog 9 ac9 [.tmp 2] 49:=⟨f9,⟨[],[],[]⟩,func9,by kernel_rfl,by kernel_rfl,by kernel_rfl,by kernel_rfl⟩
def ac10:AC:=.seq (.reg [⟨(some 4),.mv (.c (.bool false)),none⟩])
 (.seq (.seq (.reg [xm 6 0,xL 7 6,xm 8 1,xL 9 8,xb .neq 10 7 9])
 (.cond (.s 10) (.seq (.reg [⟨(some 4),.mv (.c (.bool false)),none⟩])
 (.ret))
 (.skip)))
 (.seq (.seq (.reg [xi 5 0])
 (.block 0 (.loop (.seq (.seq (.reg [xm 11 5,xm 12 0,xL 13 12,xb .lss 14 11 13])
 (.cond (.s 14) (.skip)
 (.exit 0)))
 (.seq (.block 1 (.seq (.draw [(xm 17 0,[]),(xm 18 5,[]),(xA 1 19 17 18,[]),(xo 20 19,[]),(xm 21 1,[]),(xm 22 5,[]),(xA 1 23 21 22,[]),(xo 24 23,[]),(xb .neq 25 20 24,[])])
 (.cond (.s 25) (.seq (.reg [⟨(some 4),.mv (.c (.bool false)),none⟩])
 (.ret))
 (.skip))))
 (.reg [xm 15 5,xB .add 16 15 1,xm 5 16]))))))
 (.seq (.reg [⟨(some 4),.mv (.c (.bool true)),none⟩])
 (.ret))))
theorem fn10:IsFn prog 10 ac10 [.tmp 4] 26:=⟨f10,⟨[],[],[]⟩,func10,by kernel_rfl,by kernel_rfl,by kernel_rfl,by kernel_rfl⟩
theorem rcright_calls (l:List Ins) (σ:Store) (hl:l.length≤100000):PCalls prog 9 [.sl .no 10 (l.map Ins.enc)] σ fun v σ' => v = .bool (rightC l)∧σ' = σ:=by
  refine fn9.calls ?_;simp only[slots,ac9,am,ams];obtain⟨F,hF⟩:∃F:Nat→Nat→St,∀i d,F i d=⟨[.sl .no 10 (l.map Ins.enc),.any,.bool false,.int .i64 (d:Nat),.int .i64 (i:Nat)]++List.replicate 44 .any,[],σ⟩:=⟨_,fun _ _=>rfl⟩;obtain⟨JF,hJF⟩:∃JF:Nat→Nat→Prop,∀i d,JF i d=(deepF l 0=deepF (l.drop i) d∧d≤i):=⟨_,fun _ _=>rfl⟩;refine vc_count (l.length) F JF _ hJF ?_ ?_ ?_
  · refine ent (0) ?_ ?_ ?_ ?_
    · exact Eq.mpr (hJF _ _) (⟨rfl,Nat.le_refl _⟩)
    all_goals simp[hF,List.replicate,am,lle_self]
  · rintro i d hi ⟨hJ,hd⟩;rw[List.drop_eq_getElem_cons hi,deepF] at hJ;have no:deepF l 0=none→rightC l=false:=fun h=>by rw[rightC,h];rfl
    simp only[hF,List.replicate,am,dlt hi,List.length_map];refine idxL_intro (by omega) (codes_at hi) ?_;simp only[am,Ins.rec_]
    by_cases h1:l[i].op=1∨l[i].op=2
    · rw[if_pos h1] at hJ;have hsel:(decide (l[i].op=1)=true)∨(decide (l[i].op=1)=false∧decide (l[i].op=2)=true):=by
        by_cases h:l[i].op=1
        · exact .inl (decide_eq_true h)
        · exact .inr ⟨decide_eq_false h,decide_eq_true (by simpa [h] using h1)⟩
      rcases hsel with e1 | ⟨e1,e2⟩
      case' inl=>simp only[am,aml,e1,winc hi (by omega),winc (n:=d+1) (Nat.lt_succ_self d) (by omega)]
      case' inr=>simp only[am,aml,e1,e2,winc hi (by omega),winc (n:=d+1) (Nat.lt_succ_self d) (by omega)]
      all_goals
        refine nxtD (d+1) hi ?_ ?_ ?_ ?_ ?_ ?_
        · exact Eq.mpr (hJF _ _) (⟨hJ,by omega⟩)
        all_goals simp[hF,List.replicate,am,lle_self,loL,loLL,V.lo]
    · rw[if_neg h1] at hJ;have e1:decide (l[i].op=1)=false:=decide_eq_false fun h=>h1 (.inl h)
      have e2:decide (l[i].op=2)=false:=decide_eq_false fun h=>h1 (.inr h)
      by_cases h3:l[i].op=3∨l[i].op=4
      · rw[if_pos h3] at hJ;have hsel:(decide (l[i].op=3)=true)∨(decide (l[i].op=3)=false∧decide (l[i].op=4)=true):=by
          by_cases h:l[i].op=3
          · exact .inl (decide_eq_true h)
          · exact .inr ⟨decide_eq_false h,decide_eq_true (by simpa [h] using h3)⟩
        rcases hsel with e3 | ⟨e3,e4⟩
        case' inl=>simp only[am,e1,e2,e3]
        case' inr=>simp only[am,e1,e2,e3,e4]
        all_goals
          refine idxL_intro (by omega) (codes_at hi) ?_;simp only[am,Ins.rec_]
          by_cases hb:l[i].n<1
          · rw[if_pos (.inl hb)] at hJ;simp only[am,aml,decide_eq_true hb];refine retS ?_;simp[V.erase,no hJ]
          · simp only[am,decide_eq_false hb];refine idxL_intro (by omega) (codes_at hi) ?_;simp only[am,Ins.rec_]
            by_cases hb2:((d:Nat):Int)<l[i].n
            · rw[if_pos (.inr hb2)] at hJ;simp only[am,aml,decide_eq_true hb2];refine retS ?_;simp[V.erase,no hJ]
            · rw[if_neg (by omega)] at hJ;simp only[am,decide_eq_false hb2];refine idxL_intro (by omega) (codes_at hi) ?_;simp only[am,aml,Ins.rec_];rw[wrap_i64 (x:=((d:Nat):Int) - l[i].n) (by omega) (by omega),wrap_i64 (x:=((d:Nat):Int) - l[i].n+1) (by omega) (by omega),show ((d:Nat):Int) - l[i].n+1=((d - (l[i].n.toNat - 1):Nat):Int) by omega];simp only[winc hi (by omega)];refine nxtD (d - (l[i].n.toNat - 1)) hi ?_ ?_ ?_ ?_ ?_ ?_
              · exact Eq.mpr (hJF _ _) (⟨hJ,by omega⟩)
              all_goals simp[hF,List.replicate,am,lle_self,loL,loLL,V.lo]
      · rw[if_neg h3] at hJ;have e3:decide (l[i].op=3)=false:=decide_eq_false fun h=>h3 (.inl h)
        have e4:decide (l[i].op=4)=false:=decide_eq_false fun h=>h3 (.inr h)
        simp only[am,aml,e1,e2,e3,e4];refine retS ?_;simp[V.erase,no hJ]
  · rintro d ⟨hJ,hd⟩;rw[List.drop_length,deepF] at hJ;simp only[hF,List.replicate,am,aml,dnl,aml,List.length_map];refine retS ?_;simp[V.erase,rightC,hJ];omega
theorem ints_calls (a b:List Int) (σ:Store) (ha:a.length≤100000):PCalls prog 10 [.sl .no 1 (iCells a),.sl .no 1 (iCells b)] σ fun v σ' => v = .bool (decide (a=b))∧σ' = σ:=by
  refine fn10.calls ?_;simp only[slots,ac10,am,ams,Nat.reduceAdd,iCells_len]
  by_cases hl:a.length=b.length
  case neg =>
    simp only[am,decide_eq_false (show ¬((a.length:Nat):Int)=(b.length:Nat) by omega)];have:a≠b:=fun e=>hl (by rw[e])
    refine retS ?_;simp[V.erase,this]
  simp only[am,decide_eq_true (show ((a.length:Nat):Int)=(b.length:Nat) by omega)];obtain⟨F,hF⟩:∃F:Nat→Unit→St,∀i x,F i x=⟨[.sl .no 1 (iCells a),.sl .no 1 (iCells b),.any,.any,.any,.int .i64 (i:Nat)]++List.replicate 20 .any,[],σ⟩:=⟨_,fun _ _=>rfl⟩;obtain⟨JF,hJF⟩:∃JF:Nat→Unit→Prop,∀i x,JF i x=(∀m,m<i→a[m]?=b[m]?):=⟨_,fun _ _=>rfl⟩;refine vc_count (a.length) F JF _ hJF ?_ ?_ ?_
  · refine ent (()) ?_ ?_ ?_ ?_
    · exact Eq.mpr (hJF _ _) ((fun m hm=>absurd hm (Nat.not_lt_zero m)))
    all_goals simp[hF,List.replicate,am,lle_self]
  · rintro i x hi hJ;have hb:i<b.length:=by omega
    simp only[hF,List.replicate,am,dlt hi,iCells_len];refine idxL_intro (by omega) (iCells_at hi) ?_;simp only[am];refine idxL_intro (by omega) (iCells_at hb) ?_;simp only[am]
    by_cases h:a[i]=b[i]
    · simp only[am,aml,decide_eq_true h,winc hi (by omega)];refine nxt (()) hi ?_ ?_ ?_ ?_
      · exact Eq.mpr (hJF _ _) (allS hJ (by rw[List.getElem?_eq_getElem hi,List.getElem?_eq_getElem hb,h]))
      all_goals simp[hF,List.replicate,am,lle_self]
    · simp only[am,aml,decide_eq_false h];have:a≠b:=fun e=>h (by simp only[e])
      refine retS ?_;simp[V.erase,this]
  · rintro x hJ;simp only[hF,List.replicate,am,aml,dnl,aml,iCells_len];have:a=b:=by
      refine List.ext_getElem? fun m=>?_
      by_cases hm:m<a.length
      · exact hJ m hm
      · rw[List.getElem?_eq_none (by omega),List.getElem?_eq_none (by omega)]
    refine retS ?_;simp[V.erase,this]
theorem gr_tip {σ0 σ:Store} {τ n k:Nat} (h:σ0.sub σ) (hτ:σ.tip τ=none) (e:n=k):Gr σ0 (σ.setTip τ n) (.tk τ) k:=by
  have h0:σ0.tip τ=none:=by
    cases hq:σ0.tip τ with
    | none=>rfl
    | some m=>rw[h.2 τ m hq] at hτ;simp at hτ
  exact⟨⟨fun b cs hb=>h.1 b cs hb,fun t m hm=>by
    have:=h.2 t m hm;rw[setTip_tip_ne];exact this;rintro rfl;rw[hτ] at this;simp at this⟩,.inr ⟨τ,rfl,by rw[←e];exact setTip_tip_same,h0⟩⟩
theorem reval_calls (s:Shp) (l:List Ins) (v:List Elm) {σ:Store} (hok:s.ok) (hl:l.length≤50000) (hv:v.length≤100000) :
    PCalls prog 7 [.agg s.enc,.sl .no 10 (l.map Ins.enc),.sl .no 8 (v.map Elm.enc)] σ fun r σ' => r=evalT (evalF s l v)∧σ' = σ:=by
  refine fn7.calls ?_;simp only[slots,ac7,z30_,Nat.reduceAdd];have done:∀(e:Elm) (b:Bool) (t:List V) (lo:List (List V)) (σ1:Store),evalT (evalF s l v) = .tup [.agg e.enc,.bool b]→σ.sub σ1→RetK (fun r σ' => r=evalT (evalF s l v)∧σ' = σ) ⟨t,lo,σ1⟩ (.tup [.agg e.enc,.bool b]):=fun e b t lo σ1 he hs=>by
    rw[he];exact retK_intro (by simp[V.nol,nolL,Elm.r_nol]) hs ⟨by simp[V.erase,eraseL,Elm.r_er],rfl⟩
  refine cl (rcright_calls l σ (by omega)) ?_;cases hr:rightC l with
  | false =>
    simp only[am,Elm.rec_];exact done .zero false _ _ _ (by rw[evalF,hr];rfl) (Store.sub_refl _)
  | true =>
    have hd0:deepF l 0=some 1:=by simpa [rightC] using hr
    simp only[am];obtain⟨F,hF⟩:∃F:Nat→List Elm × Tk × Store→St,∀i x,F i x=⟨[.any,.sl .no 10 (l.map Ins.enc),.sl .no 8 (v.map Elm.enc),.ptr (.loc 0) 0,.any,.any,.ptr (.loc 1) 0,.any,.sl x.2.1 8 (x.1.map Elm.enc),.int .i64 (i:Nat)]++List.replicate 96 .any,[s.enc,Elm.zero.enc],x.2.2⟩:=⟨_,fun _ _=>rfl⟩;obtain⟨JF,hJF⟩:∃JF:Nat→List Elm × Tk × Store→Prop,∀i x,JF i x=(runF s v l []=runF s v (l.drop i) x.1∧deepF (l.drop i) x.1.length=some 1∧x.1.length≤i∧Gr σ x.2.2 x.2.1 x.1.length):=⟨_,fun _ _=>rfl⟩;refine vc_count (l.length) F JF _ hJF ?_ ?_ ?_
    · refine ent (([],.full,σ)) ?_ ?_ ?_ ?_
      · exact Eq.mpr (hJF _ _) (⟨rfl,hd0,Nat.le_refl _,Gr.nil⟩)
      all_goals simp[hF,List.replicate,am,lle_self]
    · rintro i ⟨st,tk,σ1⟩ hi ⟨hJ,hD,hL,hG⟩;simp only at hJ hD hL hG;rw[List.drop_eq_getElem_cons hi] at hJ hD;simp only[hF,List.replicate,am,dlt hi,List.length_map];refine idxL_intro (by omega) (codes_at hi) ?_;simp only[am,Nat.reduceAdd,Ins.rec_]
      rcases deep_in (by rw[hD];simp) with ⟨h12,hd2⟩ | ⟨h34,h12,hn1,hn2,hd2⟩
      · rw[hd2] at hD;rw[runF] at hJ
        by_cases h1:l[i].op=1
        · rw[if_pos h1] at hJ;have h2:decide (l[i].op=2)=false:=decide_eq_false (by omega);simp only[am,Ins.rec_,decide_eq_true h1,h2]
          by_cases hb:l[i].n<0
          · rw[if_neg (by omega)] at hJ;simp only[am,aml,Elm.rec_,decide_eq_true hb];exact done .zero false _ _ _ (by rw[evalF,hr,hJ];rfl) hG.sub
          · obtain⟨m,hm⟩:∃m:Nat,l[i].n=m:=⟨l[i].n.toNat,by omega⟩;simp only[am,List.length_map,Ins.rec_,List.length_map,hm,decide_eq_false (show ¬((m:Nat):Int)<0 by omega)]
            by_cases hb2:v.length≤m
            · rw[if_neg (by omega)] at hJ;simp only[am,aml,Elm.rec_,decide_eq_true (show ((v.length:Nat):Int)≤(m:Nat) by omega)];exact done .zero false _ _ _ (by rw[evalF,hr,hJ];rfl) hG.sub
            · rw[if_pos (by omega),hm,Int.toNat_natCast,getD_at (by omega)] at hJ;simp only[am,Ins.rec_,decide_eq_false (show ¬((v.length:Nat):Int)≤(m:Nat) by omega),hm];refine idxL_intro (by omega) (elms_at (by omega)) ?_;simp only[am,Elm.rec_];refine Gr.app (by simpa using hG) (by simp[big];omega) fun tk' σ' hG' _ _=>?_
              simp only[am,aml,winc hi (by omega)];refine nxtD ((st++[v[m]],tk',σ')) hi ?_ ?_ ?_ ?_ ?_ ?_
              · exact Eq.mpr (hJF _ _) (⟨hJ,by simpa using hD,by simp;omega,by simpa using hG'⟩)
              all_goals simp[hF,List.replicate,am,lle_self,loL,loLL,V.lo,Shp.r_lo,Elm.r_lo]
        · have h2:l[i].op=2:=by simpa [h1] using h12
          rw[if_neg h1,if_pos h2] at hJ;simp only[am,Elm.rec_,Ins.rec_,decide_eq_true h2];refine Gr.app (by simpa using hG) (by simp[big];omega) fun tk' σ' hG' _ _=>?_
          simp only[am,aml,winc hi (by omega)];refine nxtD ((st++[l[i].c],tk',σ')) hi ?_ ?_ ?_ ?_ ?_ ?_
          · exact Eq.mpr (hJF _ _) (⟨hJ,by simpa using hD,by simp;omega,by simpa using hG'⟩)
          all_goals simp[hF,List.replicate,am,lle_self,loL,loLL,V.lo,Shp.r_lo,Elm.r_lo]
      · rw[hd2] at hD;have e1:¬l[i].op=1:=fun h=>h12 (.inl h)
        have e2:¬l[i].op=2:=fun h=>h12 (.inr h)
        obtain⟨m,hm⟩:∃m:Nat,l[i].n=m:=⟨l[i].n.toNat,by omega⟩;rw[runF,if_neg e1,if_neg e2,hm,Int.toNat_natCast] at hJ;rw[hm,Int.toNat_natCast] at hD;have hkl:st.length - m≤st.length:=Nat.sub_le _ _;simp only[am,List.length_map,Ins.rec_,List.length_map,decide_eq_false e1,decide_eq_false e2];rw[wrap_i64 (by omega) (by omega),show ((st.length:Nat):Int) - 1=((st.length - 1:Nat):Int) by omega];refine idxL_intro (by omega) (elms_at (by omega)) ?_;simp only[am,Nat.reduceAdd,Elm.rec_];have elast:foldE s l[i].op (st.drop (st.length - 1))=st[st.length - 1]'(by omega):=by
          rw[List.drop_eq_getElem_cons (by omega),List.drop_of_length_le (by omega)];rfl
        obtain⟨F2,hF2⟩:∃F2:Nat→Unit→St,∀j y,F2 j y=⟨[.any,.sl .no 10 (l.map Ins.enc),.sl .no 8 (v.map Elm.enc),.ptr (.loc 0) 0,.any,.any,.ptr (.loc 1) 0,.any,.sl tk 8 (st.map Elm.enc),.int .i64 (i:Nat),.ptr (.loc 2) 0,.ptr (.loc 3) 0,.int .i64 ((j+2:Nat):Int)]++List.replicate 93 .any,[s.enc,Elm.zero.enc,l[i].enc,(foldE s l[i].op (st.drop (st.length - 1 - j))).enc],σ1⟩:=⟨_,fun _ _=>rfl⟩;obtain⟨JF2,hJF2⟩:∃JF2:Nat→Unit→Prop,∀j y,JF2 j y=(True):=⟨_,fun _ _=>rfl⟩;refine vc_count (m - 1) F2 JF2 _ hJF2 ?_ ?_ ?_
        · refine ent (()) ?_ ?_ ?_ ?_
          · exact Eq.mpr (hJF2 _ _) (trivial)
          all_goals simp[hF2,List.replicate,am,lle_self,elast]
        · rintro j y hj -;have hk:st.length - 2 - j<st.length:=by omega
          have hf:=foldE_drop' (s:=s) (op:=l[i].op) (l:=st) (i:=st.length - 2 - j) (j:=st.length - 1 - j) (by omega) (by omega) hk;have hj3:st.length - 1 - (j+1)=st.length - 2 - j:=by omega
          simp only[hF2,List.replicate,am,Ins.rec_,hm,show decide (((j+2:Nat):Int)≤((m:Nat):Int))=true from decide_eq_true (by omega)]
          rcases h34 with h3 | h4
          · rw[stepE,if_pos h3] at hf;simp only[am,List.length_map,Shp.rec_,List.length_map,decide_eq_true h3];rw[wrap_i64 (x:=((st.length:Nat):Int) - ((j+2:Nat):Int)) (by omega) (by omega),show ((st.length:Nat):Int) - ((j+2:Nat):Int)=((st.length - 2 - j:Nat):Int) by omega];refine idxL_intro (by omega) (elms_at hk) ?_;simp only[am,Shp.rec_,Elm.rec_];refine CallD.intro (rjoin_calls7 s st[st.length - 2 - j] (foldE s l[i].op (st.drop (st.length - 1 - j))) σ1 hok) ?_;simp only[am,aml,Elm.rec_,←hf];rw[wrap_i64 (x:=((j+2:Nat):Int)+1) (by omega) (by omega)];refine nxt (()) hj ?_ ?_ ?_ ?_
            · exact Eq.mpr (hJF2 _ _) (trivial)
            all_goals simp[hF2,List.replicate,am,lle_self,hj3]
            all_goals omega
          · have h3:¬l[i].op=3:=by omega
            rw[stepE,if_neg h3] at hf;simp only[am,List.length_map,List.length_map,decide_eq_false h3];rw[wrap_i64 (x:=((st.length:Nat):Int) - ((j+2:Nat):Int)) (by omega) (by omega),show ((st.length:Nat):Int) - ((j+2:Nat):Int)=((st.length - 2 - j:Nat):Int) by omega];refine idxL_intro (by omega) (elms_at hk) ?_;simp only[am,Elm.rec_];refine CallD.intro (rmeet_calls7 st[st.length - 2 - j] (foldE s l[i].op (st.drop (st.length - 1 - j))) σ1) ?_;simp only[am,aml,Elm.rec_,←hf];rw[wrap_i64 (x:=((j+2:Nat):Int)+1) (by omega) (by omega)];refine nxt (()) hj ?_ ?_ ?_ ?_
            · exact Eq.mpr (hJF2 _ _) (trivial)
            all_goals simp[hF2,List.replicate,am,lle_self,hj3]
            all_goals omega
        · rintro y -;simp only[hF2,List.replicate,am,aml,Nat.reduceEqDiff,aml,reduceCtorEq,Ins.rec_,hm,decide_eq_false (show ¬((m - 1+2:Nat):Int)≤((m:Nat):Int) by omega),show st.length - 1 - (m - 1)=st.length - m by omega];refine Upd.newTok fun τ hτ=>?_
          simp only[am,amc,List.length_map,Ins.rec_,List.length_map,hm];rw[wrap_i64 (x:=((st.length:Nat):Int) - ((m:Nat):Int)) (by omega) (by omega),show ((st.length:Nat):Int) - ((m:Nat):Int)=((st.length - m:Nat):Int) by omega];refine slcL_to (b:=st.length - m) (by simp) ?_;rw[←List.map_take];simp only[am];have hlm:(st.take (st.length - m)).length=st.length - m:=by rw[List.length_take,Nat.min_eq_left hkl]
          refine appD_fullT (τ:=τ) (by simp[big];omega) setTip_tip_same ?_;simp only[am,List.length_map,Elm.rec_,List.length_map,setTip_setTip,List.length_nil,List.nil_append,hlm];refine appD_tk (by simp[big];omega) (by rw[setTip_tip_same,List.length_map,hlm]) ?_;simp only[am,List.length_map,aml,Elm.rec_,List.length_map,setTip_setTip,hlm,winc hi (by omega)];have hlen:(st.take (st.length - m)++[foldE s l[i].op (st.drop (st.length - m))]).length=st.length - (m - 1):=by
            rw[List.length_append,hlm,List.length_singleton];omega
          refine nxtD ((st.take (st.length - m)++[foldE s l[i].op (st.drop (st.length - m))],.tk τ,σ1.setTip τ (st.length - m+1))) hi ?_ ?_ ?_ ?_ ?_ ?_
          · exact Eq.mpr (hJF _ _) (⟨hJ,by rw[hlen];exact hD,by rw[hlen];omega,gr_tip hG.sub hτ (by simp[hlm])⟩)
          all_goals simp[hF,List.replicate,am,lle_self,loL,loLL,V.lo,Shp.r_lo,Elm.r_lo]
    · rintro⟨st,tk,σ1⟩ ⟨hJ,hD,hL,hG⟩;simp only at hJ hD hL;rw[List.drop_length] at hJ hD;rw[deepF,Option.some.injEq] at hD;rw[runF] at hJ;simp only[hF,List.replicate,am,aml,dnl,aml,List.length_map];refine idxL_intro (n:=0) (by omega) (elms_at (j:=0) (by omega)) ?_;simp only[am,Elm.rec_];exact done _ true _ _ _ (by rw[evalF,hr,hJ,←getD_at (d:=Elm.zero) (by omega)];rfl) hG.sub
end Go.Proofs.Tryd

namespace Go.Proofs.Tryd
open Go.Am
set_option maxRecDepth 4000
set_option maxHeartbeats 4000000
def ac3:AC:=.seq (.reg [⟨(some 3),.box 2 (.s 0),none⟩,⟨(some 6),.mv (.c (.bool false)),none⟩])
 (.seq (.seq (.reg [xl 2 11 3,xc 4 12 [.s 11],xm 13 12,xh 13 (xm 14 1),xh 13 (xL 15 14),xh 13 (xB .gtr 16 15 200),⟨(some 17),.pick (.s 13) (.c (.bool true)) (.s 16),none⟩,xm 18 17,xh 18 (xm 19 2),xh 18 (xL 20 19),xh 18 (xB .gtr 21 20 100),⟨(some 22),.pick (.s 18) (.c (.bool true)) (.s 21),none⟩])
 (.cond (.s 22) (.seq (.reg [xc 5 23 [],xm 6 23])
 (.ret))
 (.skip)))
 (.seq (.reg [xl 2 25 3,xm 26 1,xm 27 2,xc 6 28 [.s 25,.s 26,.s 27],xm 24 28,xe 29 24 0,xe 30 24 1,⟨(some 7),.alloc elmZ,none⟩,xs 8 7 29,xm 8 30])
 (.seq (.reg [xl 2 32 3,xm 33 1,xm 34 2,xc 7 35 [.s 32,.s 33,.s 34],xm 31 35,xe 36 31 0,xe 37 31 1,⟨(some 9),.alloc elmZ,none⟩,xs 8 9 36,xm 10 37])
 (.seq (.reg [xm 38 1,xc 8 39 [.s 38],xm 40 1,xc 9 41 [.s 40],⟨(some 42),.binB false (.s 39) (.s 41),none⟩,xm 43 42,xg 43 (xm 44 1),xg 43 (xc 11 45 [.s 44]),xg 43 (xm 46 1),xg 43 (xc 12 47 [.s 46]),xg 43 (xc 10 48 [.s 45,.s 47]),⟨(some 49),.pick (.s 43) (.s 48) (.c (.bool false)),none⟩,xm 50 49,xg 50 (xl 8 51 7),xg 50 (xl 8 52 9),⟨(some 53),.eqA false [1,1,1,1,1,1,1,1] (.s 51) (.s 52),(some (50,true))⟩,⟨(some 54),.pick (.s 50) (.s 53) (.c (.bool false)),none⟩,xm 55 54,xg 55 (xm 56 8),xg 55 (xm 57 10),⟨(some 58),.binB false (.s 56) (.s 57),(some (55,true))⟩,⟨(some 59),.pick (.s 55) (.s 58) (.c (.bool false)),none⟩,xm 60 59,xg 60 (xc 5 61 []),⟨(some 62),.pick (.s 60) (.s 61) (.c (.bool false)),none⟩,xm 6 62])
 (.ret)))))
theorem fn3:IsFn prog 3 ac3 [.tmp 6] 63:=⟨f3,⟨[],[],[]⟩,func3,by kernel_rfl,by kernel_rfl,by kernel_rfl,by kernel_rfl⟩
def ac12:AC:=.seq (.reg [⟨(some 2),.mv (.c (.sl .full 1 [])),none⟩])
 (.seq (.reg [⟨(some 3),.mv (.c (.sl .full 1 [])),none⟩])
 (.seq (.block 0 (.loop (.seq (.seq (.reg [xm 7 3,xL 8 7,xm 9 0,xL 10 9,xb .leq 11 8 10])
 (.cond (.s 11) (.skip)
 (.exit 0)))
 (.block 1 (.seq (.reg [xi 4 (-1)])
 (.seq (.seq (.reg [xi 5 0])
 (.block 2 (.loop (.seq (.seq (.reg [xm 12 5,xm 13 0,xL 14 13,xb .lss 15 12 14])
 (.cond (.s 15) (.skip)
 (.exit 2)))
 (.seq (.block 3 (.seq (.reg [xm 18 0,xm 19 5,xA 10 20 18 19,xf 1 21 20,xo 22 21,xm 6 22])
 (.seq (.reg [xm 23 0,xm 24 5,xA 10 25 23 24,xf 0 26 25,xo 27 26,xB .eql 28 27 1,xm 29 28,xg 29 (xm 30 6),xg 29 (xB .geq 31 30 0),⟨(some 32),.pick (.s 29) (.s 31) (.c (.bool false)),none⟩,xm 33 32,xg 33 (xm 34 3),xg 33 (xm 35 6),xg 33 (xc 17 36 [.s 34,.s 35]),⟨(some 37),.not (.s 36),(some (33,true))⟩,⟨(some 38),.pick (.s 33) (.s 37) (.c (.bool false)),none⟩,xm 39 38,xg 39 (xm 40 4),xg 39 (xB .lss 41 40 0),xg 39 (xm 42 41),xh 42 (xm 43 6),xh 42 (xm 44 4),xh 42 (xb .lss 45 43 44),⟨(some 46),.pick (.s 42) (.c (.bool true)) (.s 45),(some (39,true))⟩,⟨(some 47),.pick (.s 39) (.s 46) (.c (.bool false)),none⟩])
 (.cond (.s 47) (.reg [xm 48 6,xm 4 48])
 (.skip)))))
 (.reg [xm 16 5,xB .add 17 16 1,xm 5 17]))))))
 (.seq (.seq (.reg [xm 49 4,xB .lss 50 49 0])
 (.cond (.s 50) (.seq (.reg [xm 51 3,xm 2 51])
 (.ret))
 (.skip)))
 (.reg [xm 52 3,xm 53 4,⟨(some 54),.bslice 1 [(.s 53)],none⟩,xa 1 55 52 54,xm 3 55]))))))))
 (.seq (.reg [xm 56 3,xm 2 56])
 (.ret))))
theorem fn12:IsFn prog 12 ac12 [.tmp 2] 57:=⟨f12,⟨[],[],[]⟩,func12,by kernel_rfl,by kernel_rfl,by kernel_rfl,by kernel_rfl⟩
theorem rvars_calls (l:List Ins) {σ:Store} (hl:l.length≤50000):PCalls prog 12 [.sl .no 10 (l.map Ins.enc)] σ fun v σ' => v = .sl .no 1 (iCells (varsF l))∧σ' = σ:=by
  refine fn12.calls ?_;simp only[slots,ac12,am,ams];have hvl:=@varsF_len l;obtain⟨F,hF⟩:∃F:Nat→Tk × Store→St,∀k x,F k x=⟨[.sl .no 10 (l.map Ins.enc),.any,.any,.sl x.1 1 (iCells ((varsF l).take k))]++List.replicate 53 .any,[],x.2⟩:=⟨_,fun _ _=>rfl⟩;obtain⟨JF,hJF⟩:∃JF:Nat→Tk × Store→Prop,∀k x,JF k x=(k≤(varsF l).length∧Gr σ x.2 x.1 k):=⟨_,fun _ _=>rfl⟩;refine vc_count ((varsF l).length+1) F JF _ hJF ?_ ?_ ?_
  · refine ent ((.full,σ)) ?_ ?_ ?_ ?_
    · exact Eq.mpr (hJF _ _) (⟨Nat.zero_le _,Gr.nil⟩)
    all_goals simp[hF,List.replicate,am,lle_self,iCells]
  · rintro k ⟨tk,σ1⟩ hi ⟨hk,hG⟩;simp only at hG;obtain⟨o,ho⟩:∃o,o=(varsF l).take k:=⟨_,rfl⟩;have hlen:o.length=k:=by rw[ho,List.length_take,Nat.min_eq_left hk]
    simp only[hF];rw[←ho];simp only[am,List.length_map,List.length_map,iCells_len,hlen,List.replicate,show decide (((k:Nat):Int)≤(l.length:Nat))=true from decide_eq_true (by omega)];obtain⟨F2,hF2⟩:∃F2:Nat→Int→St,∀j b,F2 j b=⟨[.sl .no 10 (l.map Ins.enc),.any,.any,.sl tk 1 (iCells o),.int .i64 b,.int .i64 (j:Nat)]++List.replicate 51 .any,[],σ1⟩:=⟨_,fun _ _=>rfl⟩;obtain⟨JF2,hJF2⟩:∃JF2:Nat→Int→Prop,∀j b,JF2 j b=(BestV l o j b):=⟨_,fun _ _=>rfl⟩;refine vc_count (l.length) F2 JF2 _ hJF2 ?_ ?_ ?_
    · refine ent ((-1)) ?_ ?_ ?_ ?_
      · exact Eq.mpr (hJF2 _ _) (best_zero)
      all_goals simp[hF2,List.replicate,am,lle_self]
    · rintro j b hj hB;simp only[hF2,List.replicate,am,dlt hj,List.length_map];refine idxL_intro (by omega) (codes_at hj) ?_;simp only[am,Ins.rec_];refine idxL_intro (by omega) (codes_at hj) ?_;simp only[am,Ins.rec_];have keep:(¬candV o l[j]∨0≤b∧b≤l[j].n)→BestV l o (j+1) b:=best_keep hB hj
      by_cases h1:l[j].op=1
      case neg =>
        simp only[am,aml,decide_eq_false h1,winc hj (by omega)];refine nxt (b) hj ?_ ?_ ?_ ?_
        · exact Eq.mpr (hJF2 _ _) (keep (.inl fun h=>h1 h.1))
        all_goals simp[hF2,List.replicate,am,lle_self]
      simp only[am,decide_eq_true h1]
      by_cases h2:0≤l[j].n
      case neg =>
        simp only[am,aml,decide_eq_false h2,winc hj (by omega)];refine nxt (b) hj ?_ ?_ ?_ ?_
        · exact Eq.mpr (hJF2 _ _) (keep (.inl fun h=>h2 h.2.1))
        all_goals simp[hF2,List.replicate,am,lle_self]
      simp only[am,decide_eq_true h2];refine cl (PCalls.weak (as' := [.sl .no 1 (iCells o),.int .i64 l[j].n]) (in_calls o l[j].n σ1 (by omega)) ⟨VLe.no,VLe.rfl,trivial⟩ OLe.rfl) ?_
      by_cases h3:l[j].n∈o
      case pos =>
        simp only[am,aml,decide_eq_true h3,winc hj (by omega)];refine nxt (b) hj ?_ ?_ ?_ ?_
        · exact Eq.mpr (hJF2 _ _) (keep (.inl fun h=>h.2.2 h3))
        all_goals simp[hF2,List.replicate,am,lle_self]
      simp only[am,decide_eq_false h3];have hc:candV o l[j]:=⟨h1,h2,h3⟩
      by_cases h4:b<0
      case pos =>
        simp only[am,aml,decide_eq_true h4,winc hj (by omega)];refine nxt (l[j].n) hj ?_ ?_ ?_ ?_
        · exact Eq.mpr (hJF2 _ _) (best_take hB hj hc (.inl h4))
        all_goals simp[hF2,List.replicate,am,lle_self]
      simp only[am,decide_eq_false h4]
      by_cases h5:l[j].n<b
      case pos =>
        simp only[am,aml,decide_eq_true h5,winc hj (by omega)];refine nxt (l[j].n) hj ?_ ?_ ?_ ?_
        · exact Eq.mpr (hJF2 _ _) (best_take hB hj hc (.inr h5))
        all_goals simp[hF2,List.replicate,am,lle_self]
      simp only[am,aml,decide_eq_false h5,winc hj (by omega)];refine nxt (b) hj ?_ ?_ ?_ ?_
      · exact Eq.mpr (hJF2 _ _) (keep (.inr ⟨by omega,by omega⟩))
      all_goals simp[hF2,List.replicate,am,lle_self]
    · rintro b hB;simp only[hF2,List.replicate,am,aml,dnl,Nat.reduceEqDiff,aml,reduceCtorEq,List.length_map];rw[ho] at hB
      by_cases hb:b<0
      · have:=best_none hB hb;have e:o=varsF l:=by rw[ho,List.take_of_length_le this]
        simp only[am,aml,decide_eq_true hb];exact retK_intro rfl hG.sub ⟨by rw[e];rfl,rfl⟩
      · obtain⟨hkl,e⟩:=best_some hB hb;have ek:(varsF l).take (k+1)=o++[b]:=by rw[ho,e,List.take_succ_eq_append_getElem hkl]
        simp only[am,decide_eq_false hb];refine Gr.app (by rw[iCells_len,hlen];exact hG) (by simp[iCells_len,big];omega) fun tk' σ' hG' _ _=>?_
        simp only[am,aml];refine nxt ((tk',σ')) hi ?_ ?_ ?_ ?_
        · exact Eq.mpr (hJF _ _) (⟨by omega,by simpa [iCells_len,hlen] using hG'⟩)
        all_goals simp[hF,List.replicate,am,lle_self,ek,iCells]
  · rintro⟨tk,σ1⟩ ⟨hk,_⟩;omega
theorem runs14_calls (s:Shp) (l:List Ins) (v:List Elm) {σ:Store} (hg:TZ σ):PCalls prog 3 [.agg s.enc,.sl .no 10 (l.map Ins.enc),.sl .no 8 (v.map Elm.enc)] σ fun v σ' => v = .bool true∧σ' = σ:=by
  refine fn3.calls ?_;simp only[slots,ac3,z18_,Nat.reduceAdd];refine cl (big7_calls s σ) ?_;cases hb:big7 s with
  | true =>
    simp only[am];refine cl (alive14_calls hg) ?_;simp only[am];refine retS ?_;simp[V.erase]
  | false =>
    have hs:=big7_ok hb;simp only[am,List.length_map,List.length_map]
    by_cases hl:200<l.length
    case pos =>
      simp only[am,decide_eq_true (show (200:Int)<(l.length:Nat) by omega)];refine cl (alive14_calls hg) ?_;simp only[am];refine retS ?_;simp[V.erase]
    simp only[am,List.length_map,List.length_map,decide_eq_false (show ¬(200:Int)<(l.length:Nat) by omega)]
    by_cases hv:100<v.length
    case pos =>
      simp only[am,decide_eq_true (show (100:Int)<(v.length:Nat) by omega)];refine cl (alive14_calls hg) ?_;simp only[am];refine retS ?_;simp[V.erase]
    simp only[am,Shp.rec_,decide_eq_false (show ¬(100:Int)<(v.length:Nat) by omega)];have hvl:=@varsF_len l;refine cl (eval_calls s l v hg hs (by omega) (by omega)) ?_;simp only[am,Shp.rec_,Elm.rec_,evalT];refine cl (reval_calls s l v hs (by omega) (by omega)) ?_;simp only[am,Nat.reduceAdd,Elm.rec_,evalT];refine cl (cright_calls l σ (by omega)) ?_;simp only[am];refine cl (rcright_calls l σ (by omega)) ?_;simp only[am,decide_true];refine cl (cvars_calls l (by omega)) ?_;simp only[am];refine cl (rvars_calls l (by omega)) ?_;simp only[am];refine cl (ints_calls (varsF l) (varsF l) σ (by omega)) ?_;simp only[am,decide_true,Elm.rec_];refine cl (alive14_calls hg) ?_;simp only[am];refine retS ?_;simp[V.erase]
end Go.Proofs.Tryd

namespace Go.Proofs.Tryd
open Go.Am Go.ChangeShapes Go.WideShapes Go.ChangeAt Go.RowKit
open Go.Proofs.YtaddgcjnnpejjaaDoor
set_option maxRecDepth 100000 in
theorem codeRuns_contract (H:Type) (enc:TypeId × Value→H) (W:World) (base:Nat) (args:Array Value) (ds gs:List (DataW H)) (before:List MemPlace)
    (hval:∀(j:Nat) t v,f3.params[j]?=some t→args[j]?=some v→Value.okWide prog W .any base t v)
    (hW:DataW.Whole enc prog f3.params.toList Rows.codeRunsSpec.vars false W args.toList ds gs before) (hk:Rows.uptoSmall H (ds++gs)=true) (hL:laidMetH prog Rows.codeRunsRow.laid W) :
    Calls prog 3 args W fun e W' => ∃v,e = .returned v∧Rows.codeRunsSpec.post enc prog f3 false true false false W args v W' := by
  have hW' := hW;obtain⟨p,q,hA0,hV,rfl,hfz,hnd⟩:=hW;have hA:DataW.TrodAll enc prog W 0 (fun _=>true) true f3.params.toList args.toList ds p:=hA0;rw[params3] at hA hval;obtain⟨v0,vs0,d0,ds0,p0,q0,hargs,rfl,rfl,⟨n0,h0⟩,r0⟩:=trodAll_cons hA;obtain⟨v1,vs1,d1,ds1,p1,q1,rfl,rfl,rfl,⟨n1,h1⟩,r1⟩:=trodAll_cons r0;obtain⟨v2,vs2,d2,ds2,p2,q2,rfl,rfl,rfl,⟨n2,h2⟩,r2⟩:=trodAll_cons r1;obtain⟨rfl,rfl,rfl⟩:=trodAll_nil r2;obtain rfl:args=#[v0,v1,v2]:=by cases args;simp_all
  obtain⟨rfl,rfl⟩:=trodVars_none hV;have hG:=globs_at hL;obtain⟨y0,a0,_⟩:=rd_shpE (E:=mEnv W gB) rfl rfl (mEnv_comN hG gB_u8) h0;obtain⟨y1,a1,_⟩:=rd_inssE (E:=mEnv W gB) rfl rfl (mEnv_comN hG gB_u8) h1;obtain⟨y2,a2,_,b2⟩:=rd_elmsE (E:=mEnv W gB) rfl rfl (mEnv_comN hG gB_u8) h2;have hb:Rows.uptoBulkAll [d0,d1,d2]≤1048576:=by
    have h:=of_decide_eq_true hk;rw[List.append_nil] at h;exact h
  simp only[Rows.uptoBulkAll] at hb;simp only[List.append_nil] at hW';have s0:=val_struct underlying24 (hval 0 24 v0 rfl rfl) a0;have s1:=val_slice underlying25 (hval 1 25 v1 rfl rfl) a1;have s2:=val_slice underlying26 (hval 2 26 v2 rfl rfl) a2;refine law_callsM (runs14_calls y0 y1 y2 gB_glob) hG ?_ laid rowed fulls rfl underlying4 (by rw[params3];decide +kernel) rfl ⟨rfl,rfl,rfl⟩ hW';simp only[RL,and_true];exact⟨s0,s1,s2⟩
set_option maxRecDepth 100000 in
theorem codeRuns_laid_met (os:Os):laidMet prog Rows.codeRunsRow.laid ((laidWorld os).forCall (fun _ _=>0) ⟨#[],#[.agg #[.bool false,.slice none 0 0],.slice none 0 0,.slice none 0 0],[]⟩).memory :=
  laidMet_of_run' 8 (by kernel_rfl) (by kernel_rfl)
theorem codeRuns_reads (os:Os) {H:Type} (enc:TypeId × Value→H):∃places,DataW.whole enc prog ((laidWorld os).forCall (fun _ _=>0) ⟨#[],#[.agg #[.bool false,.slice none 0 0],.slice none 0 0,.slice none 0 0],[]⟩).memory f3.params.toList Rows.codeRunsSpec.vars false (#[.agg #[.bool false,.slice none 0 0],.slice none 0 0,.slice none 0 0]:Array Value).toList 8=some ([.agg [.lit (.bool false),.nil],.nil,.nil],[],places) :=
  ⟨[],by kernel_rfl⟩
set_option maxRecDepth 100000 in
theorem codeRuns_lifted (os:Os) (started:os.Started) (H:Type) (enc:TypeId × Value→H) (F:Stop.Interp) :
    ReturnsInHanded {} checked os 3 .any ((Rows.OpenSpec.upto Rows.codeRunsSpec).preRow enc prog f3 Rows.codeRunsUptoRow.domain false Rows.codeRunsUptoRow.laid) (((Rows.OpenSpec.upto Rows.codeRunsSpec).at F).post enc prog f3 false true false false):=by
  obtain⟨places,hx⟩:=codeRuns_reads os enc;refine returnsInHanded_of_row (C:=checked) (s:=Rows.OpenSpec.upto Rows.codeRunsSpec) own started (by kernel_rfl) func3
    (witness_row_at (enc:=enc) (C:=checked) false (laidWorld os) #[.agg #[.bool false,.slice none 0 0],.slice none 0 0,.slice none 0 0] rfl (by kernel_rfl) (by kernel_rfl) (by kernel_rfl)
      (OpenSpec.preRow_of_cond 8 hx (by kernel_rfl) (fun k hk=>by cases hk;kernel_rfl) (by kernel_rfl) (codeRuns_laid_met os))) ?_
  intro W base args ds gs before hval hW _ hcond _ hL _ _;exact codeRuns_contract H enc W base args ds gs before hval hW (hcond _ rfl) hL
theorem codeRuns_proved:Rows.CodeRunsUptoSaid :=
  OpenClaim.holds_of_cond 3 f3 rfl rfl rfl rfl rfl rfl rfl ⟨rfl,rfl,rfl,rfl,rfl⟩ rfl rfl rfl rfl rfl (by kernel_rfl) func3 (by kernel_rfl)
    (of_decide_eq_true (by kernel_rfl)) (by unfold Func.isWrapper;first | (rw[if_pos (by decide +kernel)];kernel_rfl) | (rw[if_neg (by decide +kernel)];exact⟨rfl,rfl⟩))
    (fun os started H enc _ F=>by rw[OpenClaim.pre_eq_preRow];exact codeRuns_lifted os started H enc F)
theorem codeRuns_plain (f:FuncId) (fn:Func) (hf:YtaddgcjnnpejjaaDoor.Tryd.pinned.checked.prog.funcNamed "clearance/clearancelaw14.CodeRuns" = some f) (hfn:YtaddgcjnnpejjaaDoor.Tryd.pinned.checked.prog.funcs[f]?=some fn) :
    false=YtaddgcjnnpejjaaDoor.Tryd.pinned.checked.prog.looks []∧∀(j:Nat) t,fn.params[j]?=some t→YtaddgcjnnpejjaaDoor.Tryd.pinned.checked.prog.wantsStandIn t=false:=by
  obtain rfl:f=3:=Option.some.inj ((show prog.funcNamed "clearance/clearancelaw14.CodeRuns" = some 3 by kernel_rfl).symm.trans hf) |>.symm;obtain rfl:fn=f3:=(Option.some.inj (func3.symm.trans hfn)).symm;refine⟨by kernel_rfl,fun j t ht=>?_⟩;rw[params3] at ht;have h:t=24∨t=25∨t=26:=by simpa using Array.mem_of_getElem? ht
  rcases h with rfl | rfl | rfl
  · exact(show prog.wantsStandIn 24=false by kernel_rfl)
  · exact(show prog.wantsStandIn 25=false by kernel_rfl)
  · exact(show prog.wantsStandIn 26=false by kernel_rfl)
theorem codeRuns_card:Rows.CodeRunsUptoCardSaid :=
  Claim7.holds_tied_plain_at .later [] _ _ _ _ codeRuns_proved (fun _ h=>by cases h) (by kernel_rfl) (fun _ h=>by cases h) codeRunsUpto_row_tie rfl ⟨rfl,rfl⟩ (by kernel_rfl) rfl codeRuns_plain (by kernel_rfl)
end Go.Proofs.Tryd

namespace Go.Proofs.YtaddgcjnnpejjaaDoor
/-- For every shape, code and values, whether the code runs well, which variables it names and what it comes to are the same by the program and by the document's answer (CodeRuns); on condition that what comes in is of a bulk of at most 1048576 and that the listed variable of math/bits is as its own initialiser lays it. -/
theorem codeRuns_card_holds : Rows.CodeRunsUptoCardSaid := Go.Proofs.Tryd.codeRuns_card
end Go.Proofs.YtaddgcjnnpejjaaDoor
