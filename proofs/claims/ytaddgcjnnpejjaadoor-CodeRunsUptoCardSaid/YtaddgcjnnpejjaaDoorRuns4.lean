/-
  Part 4 of the proof of CodeRunsUptoCardSaid: a logic over the model, the forms of the functions that the law reaches, and what they compute.
-/
import Derived.Test.YtaddgcjnnpejjaaDoorProg
import Derived.Test.YtaddgcjnnpejjaaDoorRuns3
set_option linter.unusedVariables false
set_option linter.unusedSimpArgs false
set_option linter.defProp false
set_option linter.unusedSectionVars false

namespace Go.Proofs.Tryd
open Go.Am
set_option maxRecDepth 4000
set_option maxHeartbeats 4000000
def ac63:AC:=.seq (.reg [⟨(some 4),.mv (.c (.int .u64 0)),none⟩])
 (.seq (.seq (.reg [xm 5 1,xc 80 6 [.s 5],⟨(some 7),.not (.s 6),none⟩])
 (.cond (.s 7) (.seq (.reg [xm 8 0,xm 4 8])
 (.ret))
 (.skip)))
 (.seq (.reg [xm 9 0,xm 10 1,⟨(some 11),.cvI .u64 (.s 10),none⟩,⟨(some 12),.binI .shl (.c (.int .u64 1)) (.s 11),none⟩,xb .or 13 9 12,xm 4 13])
 (.ret)))
theorem fn63:IsFn prog 63 ac63 [.tmp 4] 14:=⟨f63,⟨[],[],[]⟩,func63,by kernel_rfl,by kernel_rfl,by kernel_rfl,by kernel_rfl⟩
def ac67:AC:=.seq (.reg [⟨(some 2),.mv (.c (.sl .full 1 [])),none⟩])
 (.seq (.reg [⟨(some 3),.allocO [(.sl .full 1 [])],none⟩])
 (.seq (.reg [xm 4 0,⟨(some 5),.mkfn (.func 88) [] [(.s 3)],none⟩,xc 87 6 [.s 4,.s 5]])
 (.seq (.reg [xo 7 3,xm 2 7])
 (.ret))))
theorem fn67:IsFn prog 67 ac67 [.tmp 2] 8:=⟨f67,⟨[3],[],[]⟩,func67,by kernel_rfl,by kernel_rfl,by kernel_rfl,by kernel_rfl⟩
def ac68:AC:=.seq (.reg [⟨(some 4),.mv (.c (.bool false)),none⟩])
 (.seq (.reg [xm 5 0,xm 6 1,xb .andNot 7 5 6,⟨(some 8),.binI .eql (.s 7) (.c (.int .u64 0)),none⟩,xm 4 8])
 (.ret))
theorem fn68:IsFn prog 68 ac68 [.tmp 4] 9:=⟨f68,⟨[],[],[]⟩,func68,by kernel_rfl,by kernel_rfl,by kernel_rfl,by kernel_rfl⟩
def ac70:AC:=.seq (.reg [⟨(some 2),.mv (.c (.int .u64 0)),none⟩])
 (.seq (.reg [⟨(some 3),.mv (.c (.int .u64 0)),none⟩])
 (.seq (.seq (.reg [xm 6 0,xL 7 6,xi 8 0])
 (.block 0 (.loop (.seq (.reg [xb .lss 9 8 7])
 (.seq (.cond (.s 9) (.skip)
 (.exit 0))
 (.seq (.block 1 (.seq (.reg [xA 1 10 6 8,xo 11 10,xm 5 11])
 (.reg [xm 12 3,xm 13 5,xc 63 14 [.s 12,.s 13],xm 3 14])))
 (.reg [xB .add 15 8 1,xm 8 15])))))))
 (.seq (.reg [xm 16 3,xm 2 16])
 (.ret))))
theorem fn70:IsFn prog 70 ac70 [.tmp 2] 17:=⟨f70,⟨[],[],[]⟩,func70,by kernel_rfl,by kernel_rfl,by kernel_rfl,by kernel_rfl⟩
def ac80:AC:=.seq (.reg [⟨(some 2),.mv (.c (.bool false)),none⟩])
 (.seq (.reg [xm 3 0,xB .geq 4 3 0,xm 5 4,xg 5 (xm 6 0),xg 5 (xB .lss 7 6 64),⟨(some 8),.pick (.s 5) (.s 7) (.c (.bool false)),none⟩,xm 2 8])
 (.ret))
theorem fn80:IsFn prog 80 ac80 [.tmp 2] 9:=⟨f80,⟨[],[],[]⟩,func80,by kernel_rfl,by kernel_rfl,by kernel_rfl,by kernel_rfl⟩
def ac82:AC:=.seq (.reg [⟨(some 2),.mv (.c (.int .u64 0)),none⟩])
 (.seq (.seq (.reg [xm 3 0,xB .leq 4 3 0])
 (.cond (.s 4) (.seq (.reg [⟨(some 2),.mv (.c (.int .u64 0)),none⟩])
 (.ret))
 (.skip)))
 (.seq (.seq (.reg [xm 5 0,xB .geq 6 5 64])
 (.cond (.s 6) (.seq (.reg [⟨(some 2),.mv (.c (.int .u64 18446744073709551615)),none⟩])
 (.ret))
 (.skip)))
 (.seq (.reg [xm 7 0,⟨(some 8),.cvI .u64 (.s 7),none⟩,⟨(some 9),.binI .shl (.c (.int .u64 1)) (.s 8),none⟩,⟨(some 10),.binI .sub (.s 9) (.c (.int .u64 1)),none⟩,xm 2 10])
 (.ret))))
theorem fn82:IsFn prog 82 ac82 [.tmp 2] 11:=⟨f82,⟨[],[],[]⟩,func82,by kernel_rfl,by kernel_rfl,by kernel_rfl,by kernel_rfl⟩
def ac87:AC:=.block 0 (.loop (.seq (.seq (.reg [xm 4 0,⟨(some 5),.binI .neq (.s 4) (.c (.int .u64 0)),none⟩])
 (.cond (.s 5) (.skip)
 (.exit 0)))
 (.block 1 (.seq (.seq (.reg [xm 6 1,xm 7 0,xc 95 8 [.s 7],⟨(some 9),.callv (.s 6) [(.s 8)],none⟩,⟨(some 10),.not (.s 9),none⟩])
 (.cond (.s 10) (.ret)
 (.skip)))
 (.reg [xm 11 0,xm 12 0,⟨(some 13),.binI .sub (.s 12) (.c (.int .u64 1)),none⟩,xb .and 14 11 13,xm 0 14])))))
theorem fn87:IsFn prog 87 ac87 [] 15:=⟨f87,⟨[],[],[]⟩,func87,by kernel_rfl,by kernel_rfl,by kernel_rfl,by kernel_rfl⟩
def ac88:AC:=.seq (.reg [⟨(some 3),.mv (.c (.bool false)),none⟩])
 (.seq (.reg [xo 4 1,xm 5 0,⟨(some 6),.bslice 1 [(.s 5)],none⟩,xa 1 7 4 6,xs 1 1 7])
 (.seq (.reg [⟨(some 3),.mv (.c (.bool true)),none⟩])
 (.ret)))
theorem fn88:IsFn prog 88 ac88 [.tmp 3] 8:=⟨f88,⟨[],[],[]⟩,func88,by kernel_rfl,by kernel_rfl,by kernel_rfl,by kernel_rfl⟩
def ac95:AC:=.seq (.reg [xi 2 0])
 (.seq (.seq (.reg [xm 3 0,⟨(some 4),.binI .eql (.s 3) (.c (.int .u64 0)),none⟩])
 (.cond (.s 4) (.seq (.reg [xi 2 64])
 (.ret))
 (.skip)))
 (.seq (.reg [xm 5 0,xm 6 0,⟨(some 7),.binI .sub (.c (.int .u64 0)) (.s 6),none⟩,xb .and 8 5 7,⟨(some 9),.binI .mul (.s 8) (.c (.int .u64 285870213051353865)),none⟩,⟨(some 10),.binI .shr (.s 9) (.c (.int .u64 58)),none⟩,⟨(some 11),.idxP 64 1 (.c (.ptr (.out 0) 0)) (.s 10),none⟩,xo 12 11,⟨(some 13),.cvI .i64 (.s 12),none⟩,xm 2 13])
 (.ret)))
theorem fn95:IsFn prog 95 ac95 [.tmp 2] 14:=⟨f95,⟨[],[],[]⟩,func95,by kernel_rfl,by kernel_rfl,by kernel_rfl,by kernel_rfl⟩
def ac96:AC:=.seq (.reg [⟨(some 4),.mv (.c (.bool false)),none⟩])
 (.seq (.reg [xm 5 1,xc 80 6 [.s 5],xm 7 6,xg 7 (xm 8 0),xg 7 (xm 9 1),⟨(some 10),.cvI .u64 (.s 9),(some (7,true))⟩,xg 7 (xb .shr 11 8 10),⟨(some 12),.binI .and (.s 11) (.c (.int .u64 1)),(some (7,true))⟩,⟨(some 13),.binI .eql (.s 12) (.c (.int .u64 1)),(some (7,true))⟩,⟨(some 14),.pick (.s 7) (.s 13) (.c (.bool false)),none⟩,xm 4 14])
 (.ret))
theorem fn96:IsFn prog 96 ac96 [.tmp 4] 15:=⟨f96,⟨[],[],[]⟩,func96,by kernel_rfl,by kernel_rfl,by kernel_rfl,by kernel_rfl⟩
def iCells (l:List Int):List (List V):=l.map fun n=>[.int .i64 n]
theorem iCells_len (l:List Int):(iCells l).length=l.length:=by simp[iCells]
theorem iCells_at {l:List Int} {j:Nat} (h:j<l.length):(iCells l)[((j:Nat):Int).toNat]?=some [.int .i64 l[j]]:=by simp[iCells,h]
theorem iCells_snoc {l:List Int} {n:Int}:iCells (l++[n])=iCells l++[[.int .i64 n]]:=by simp[iCells]
theorem mask_in_calls (n:Int) (σ:Store):PCalls prog 80 [.int .i64 n] σ fun v σ' => v = .bool (decide (0≤n)&&decide (n<64))∧σ' = σ:=by
  refine fn80.calls ?_;simp only[slots,ac80,am,ams]
  by_cases h:0≤n
  · simp only[am,decide_eq_true h];refine retS ?_;simp[V.erase]
  · simp only[am,decide_eq_false h];refine retS ?_;simp[V.erase]
def z0_:=And.intro @am <| And.intro @ams <| And.intro @w_zero @w_one
theorem mask_with_calls (s:B64) (n:Int) (σ:Store):PCalls prog 63 [.int .u64 (s.toNat:Nat),.int .i64 n] σ fun v σ' => v = .int .u64 ((withB s n).toNat:Nat)∧σ' = σ:=by
  refine fn63.calls ?_;simp only[slots,ac63,z0_,Nat.reduceAdd];refine cl (mask_in_calls n _) ?_;simp only[am]
  by_cases h:0≤n∧n<64
  · obtain⟨m,rfl⟩:∃m:Nat,n=m:=⟨n.toNat,by omega⟩;simp only[am,w_or,w_shl,decide_eq_true h.1,decide_eq_true h.2,wrap_u64 h.1 (by omega:(m:Int)<18446744073709551616)];refine retS ?_;simp[V.erase,withB,h,bitB]
  · have:(decide (0≤n)&&decide (n<64))=false:=by simp only[Bool.and_eq_false_iff,decide_eq_false_iff_not];omega
    simp only[am,this];refine retS ?_;simp[V.erase,withB,h]
theorem mask_of_calls (l:List Int) (σ:Store) (hl:l.length≤100000):PCalls prog 70 [.sl .no 1 (iCells l)] σ fun v σ' => v = .int .u64 ((ofB l).toNat:Nat)∧σ' = σ:=by
  refine fn70.calls ?_;simp only[slots,ac70,am,ams,w_zero];obtain⟨F,hF⟩:∃F:Nat→B64→St,∀i x,F i x=⟨[.sl .no 1 (iCells l),.any,.int .u64 ((0#64:B64).toNat:Nat),.int .u64 (x.toNat:Nat),.any,.any,.sl .no 1 (iCells l),.int .i64 (l.length:Nat),.int .i64 (i:Nat)]++List.replicate 8 .any,[],σ⟩:=⟨_,fun _ _=>rfl⟩;obtain⟨JF,hJF⟩:∃JF:Nat→B64→Prop,∀i x,JF i x=(x=ofB (l.take i)):=⟨_,fun _ _=>rfl⟩;refine vc_count (l.length) F JF _ hJF ?_ ?_ ?_
  · refine ent (0#64) ?_ ?_ ?_ ?_
    · exact Eq.mpr (hJF _ _) (rfl)
    all_goals simp[hF,List.replicate,am,lle_self,iCells_len]
  · rintro i x hi rfl;simp only[hF,List.replicate,am,dlt hi];refine idxL_intro (by omega) (iCells_at hi) ?_;simp only[am];refine cl (mask_with_calls _ _ _) ?_;simp only[am,aml,winc hi (by omega)];refine nxt (withB (ofB (l.take i)) l[i]) hi ?_ ?_ ?_ ?_
    · exact Eq.mpr (hJF _ _) (by rw[List.take_succ_eq_append_getElem hi];simp only[ofB,List.foldl_append,List.foldl_cons,List.foldl_nil])
    all_goals simp[hF,List.replicate,am,lle_self]
  · rintro x rfl;simp only[hF,List.replicate,am,aml,dnl,aml,List.take_length];refine retS ?_;simp[V.erase]
theorem shr_bit (s:B64) (m:Nat):decide (s>>>m&&&1#64=1#64)=s.getLsbD m:=by
  have:(s>>>m&&&1#64=1#64)↔s.getLsbD m=true:=by
    constructor
    · intro h;have:=congrArg (fun x:B64=>x.getLsbD 0) h;simpa using this
    · intro h;apply eqB;intro k hk;rw[BitVec.getLsbD_and,BitVec.getLsbD_ushiftRight,BitVec.getLsbD_one]
      by_cases h0:k=0
      · subst h0;simp[h]
      · simp[h0]
  by_cases hc:s.getLsbD m=true
  · rw[hc,decide_eq_true (this.2 hc)]
  · rw[decide_eq_false (fun h=>hc (this.1 h))];simpa using hc
def z1_:=And.intro @am <| And.intro @w_and <| And.intro @w_shr @w_eq
theorem mask_has_calls (s:B64) (n:Int) (σ:Store):PCalls prog 96 [.int .u64 (s.toNat:Nat),.int .i64 n] σ fun v σ' => v = .bool (hasB s n)∧σ' = σ:=by
  refine fn96.calls ?_;simp only[slots,ac96,am,ams,Nat.reduceAdd,w_one];refine cl (mask_in_calls n _) ?_;simp only[am]
  by_cases h:0≤n∧n<64
  · obtain⟨m,rfl⟩:∃m:Nat,n=m:=⟨n.toNat,by omega⟩;simp only[z1_,decide_eq_true h.1,decide_eq_true h.2,wrap_u64 h.1 (by omega:(m:Int)<18446744073709551616),shr_bit];refine retS ?_;simp[V.erase,hasB]
  · have:(decide (0≤n)&&decide (n<64))=false:=by simp only[Bool.and_eq_false_iff,decide_eq_false_iff_not];omega
    simp only[am,this];refine retS ?_;simp[V.erase,hasB];intro h0;exact BitVec.getLsbD_of_ge _ _ (by omega)
def z2_:=And.intro @am <| And.intro @ams <| And.intro @w_zero <| And.intro @w_andNot @w_eq
theorem mask_sub_calls (a b:B64) (σ:Store):PCalls prog 68 [.int .u64 (a.toNat:Nat),.int .u64 (b.toNat:Nat)] σ fun v σ' => v = .bool (subB a b)∧σ' = σ:=by
  refine fn68.calls ?_;simp only[slots,ac68,z2_,Nat.reduceAdd];refine retS ?_;simp[V.erase,subB]
def z3_:=And.intro @am <| And.intro @ams <| And.intro @w_zero <| And.intro @w_one @w_ones
theorem mask_below_calls (n:Int) (σ:Store):PCalls prog 82 [.int .i64 n] σ fun v σ' => v = .int .u64 ((belowB n).toNat:Nat)∧σ' = σ:=by
  refine fn82.calls ?_;simp only[slots,ac82,z3_]
  by_cases h:n≤0
  · simp only[am,decide_eq_true h];refine retS ?_;simp[V.erase,belowB,h]
  · simp only[am,decide_eq_false h]
    by_cases h1:64≤n
    · simp only[am,decide_eq_true h1];refine retS ?_;simp[V.erase,belowB,h,h1]
    · obtain⟨m,rfl⟩:∃m:Nat,n=m:=⟨n.toNat,by omega⟩;simp only[am,w_shl,w_sub,decide_eq_false h1,wrap_u64 (by omega:0≤(m:Int)) (by omega:(m:Int)<18446744073709551616)];have e:belowB (m:Int)=bitB m - 1#64:=by simp only[belowB,h,h1,if_false,Int.toNat_natCast]
      refine retS ?_;simp[V.erase,e,bitB]
abbrev TZ (σ:Store):Prop:=σ.box 0=some tzCells
theorem tz_calls (s:B64) (h:s≠0#64) {σ:Store} (hg:TZ σ):PCalls prog 95 [.int .u64 (s.toNat:Nat)] σ fun v σ' => v = .int .i64 (lowB s:Nat)∧σ' = σ:=by
  refine fn95.calls ?_;simp only[slots,ac95,z2_];obtain⟨h1,h2⟩:=tz_at (lowB s) (lowB_spec h).1;simp only[am,w_and,w_sub,decide_eq_false h,show V.int .u64 285870213051353865 = .int .u64 ((285870213051353865#64:B64).toNat:Nat) from rfl,w_mul];rw[BitVec.zero_sub,neg_low h];generalize hj:((bitB (lowB s)*285870213051353865#64)>>>58).toNat=j at h1 h2;have e58:∀a:B64,intV .u64 (a.toNat:Nat) 58 .shr=some (.int .u64 ((a>>>58).toNat:Nat)):=fun a=>w_shr (m:=58)
  simp only[am,amc,e58,hj];refine idxPL_ptr (by omega) (by omega) ?_;have hd:ldC false 1 (tzCells.drop j)=some (.int .u8 (lowB s:Nat)):=by
    obtain⟨h3,h4⟩:=List.getElem?_eq_some_iff.1 h2;have h5:j<tzCells.length:=by simpa [tzCells] using h3
    rw[List.drop_eq_getElem_cons h5];simp[ldC,tzCells,h4]
  rw[show (((j:Nat):Int).toNat)*1=j by omega];simp only[am,show σ.box 0=some tzCells from hg,hd,wrap_i64 (x:=((lowB s:Nat):Int)) (by omega) (by have:=(lowB_spec h).1;omega)];refine retS ?_;simp[V.erase]
def z4_:=And.intro @am <| And.intro @aml <| And.intro @w_and @w_sub
theorem each_calls (f:FuncId) (cap:List V) (hn:nolL cap=true) (J:List Nat→Store→Prop) (s:B64) (hg:∀l σ,J l σ→TZ σ)
    (h:∀pre k suf σ,listB s=pre++k::suf→J pre σ→PCalls prog f (.int .i64 (k:Nat)::cap) σ fun v σ' => v = .bool true∧J (pre++[k]) σ')
    {σ:Store} (h0:J [] σ):PCalls prog 87 [.int .u64 (s.toNat:Nat),.fn (.func f) [] cap] σ fun v σ' => v = .tup []∧J (listB s) σ' := by
  refine fn87.calls ?_;simp only[slots,ac87,z0_,Nat.reduceAdd];obtain⟨F,hF⟩:∃F:Nat→B64 × Store→St,∀i x,F i x=⟨[.int .u64 (x.1.toNat:Nat),.fn (.func f) [] cap]++List.replicate 13 .any,[],x.2⟩:=⟨_,fun _ _=>rfl⟩;obtain⟨JF,hJF⟩:∃JF:Nat→B64 × Store→Prop,∀i x,JF i x=(listB x.1=(listB s).drop i∧J ((listB s).take i) x.2):=⟨_,fun _ _=>rfl⟩;refine vc_count ((listB s).length) F JF _ hJF ?_ ?_ ?_
  · refine ent ((s,σ)) ?_ ?_ ?_ ?_
    · exact Eq.mpr (hJF _ _) (⟨rfl,h0⟩)
    all_goals simp[hF,List.replicate,am,lle_self]
  · rintro i ⟨x,σ⟩ hi ⟨h1,h2⟩;simp only at h1 h2;have hx:x≠0#64:=listB_ne (by rw[h1];simp;omega);rw[List.drop_eq_getElem_cons hi] at h1;have hl:=listB_cons hx;rw[h1,List.cons.injEq] at hl;obtain⟨hl1,hl2⟩:=hl;simp only[hF,List.replicate,am,w_eq,decide_eq_false hx];refine cl (tz_calls x hx (hg _ _ h2)) ?_;simp only[am];simp only[am,hn];rw[←hl1];refine(h _ _ ((listB s).drop (i+1)) σ (by rw[←List.drop_eq_getElem_cons hi,List.take_append_drop]) h2).mono ?_;rintro v σ' ⟨rfl,h3⟩;simp only[z4_];refine nxt ((x&&&(x - 1#64),σ')) hi ?_ ?_ ?_ ?_
    · exact Eq.mpr (hJF _ _) (⟨hl2.symm,by rw[List.take_succ_eq_append_getElem hi];exact h3⟩)
    all_goals simp[hF,List.replicate,am,lle_self]
  · rintro⟨x,σ⟩ ⟨h1,h2⟩;simp only[List.drop_length,List.take_length] at h1 h2;have hx:=listB_zero h1;subst hx;simp only[hF,List.replicate,am,aml,decide_true,aml];exact retK_intro rfl (Store.sub_refl _) ⟨rfl,h2⟩
def Bx (σ0 σ:Store) (b:Nat) (tk:Tk) (rows:List (List V)):Prop:=σ.box b=some [.sl tk 1 rows]∧Gr σ0 σ tk rows.length∧σ0.box b=none
theorem list1_calls (n:Int) {σ0 σ:Store} {b:Nat} {tk:Tk} {l:List Int} (h:Bx σ0 σ b tk (iCells l)) (hl:l.length≤100000) :
    PCalls prog 88 [.int .i64 n,.ptr (.out b) 0] σ fun v σ' => v = .bool true∧∃tk',Bx σ0 σ' b tk' (iCells (l++[n])):=by
  refine fn88.calls ?_;simp only[slots,ac88,am,ams,Nat.reduceAdd];obtain⟨h1,h2,h3⟩:=h;simp only[am,h1];refine Gr.app h2 (by simp[iCells,big];omega) fun tk' σ' hG hB _=>?_
  simp only[am,show σ'.box b=some [.sl tk 1 (iCells l)] by rw[hB,h1]];refine retK_intro rfl (Store.sub_refl _) ⟨rfl,tk',?_,?_,h3⟩
  · simp[Store.set,iCells]
  · refine⟨⟨fun c cs hc=>?_,hG.sub.2⟩,?_⟩
    · rw[Store.set_other]
      · exact hG.sub.1 c cs hc
      · rintro rfl;rw[h3] at hc;simp at hc
    · simpa [iCells,Store.set] using hG.tk
theorem mask_list_calls (s:B64) {σ:Store} (hg:TZ σ):PCalls prog 67 [.int .u64 (s.toNat:Nat)] σ fun v σ' => v = .sl .no 1 (iCells ((listB s).map Int.ofNat))∧σ' = σ:=by
  refine fn67.calls ?_;simp only[slots,ac67,am,ams];refine kO_intro fun b hb=>?_
  simp only[am];have hl:=listB_len s;refine(each_calls _ _ rfl (fun l σ' => ∃tk,Bx σ σ' b tk (iCells (l.map Int.ofNat))) s ?_ ?_ ⟨.full,?_⟩).mono ?_
  · rintro l σ' ⟨tk,h1,h2,h3⟩;exact h2.sub.1 _ _ hg
  · rintro pre k suf σ' hs ⟨tk,h⟩;have:pre.length≤64:=by rw[hs] at hl;simp at hl;omega
    have:=list1_calls k h (by simp;omega);simpa using this
  · exact⟨set_box,⟨sub_set hb,.inl rfl⟩,hb⟩
  · rintro v σ' ⟨rfl,tk,h1,h2,h3⟩;simp only[am,h1];exact retK_intro rfl h2.sub ⟨rfl,rfl⟩
end Go.Proofs.Tryd

namespace Go.Proofs.Tryd
open Go.Am
set_option maxRecDepth 4000
set_option maxHeartbeats 4000000
def ac54:AC:=.seq (.reg [⟨(some 2),.alloc relZ,none⟩])
 (.seq (.reg [xm 3 0,⟨(some 4),.build relZ [(0,1,(.s 3))],none⟩,xc 66 5 [.s 4],⟨(some 6),.build relZ [(0,1,(.s 5))],none⟩,xs 65 2 6])
 (.ret))
theorem fn54:IsFn prog 54 ac54 [.cell 2 true 65] 7:=⟨f54,⟨[],[],[]⟩,func54,by kernel_rfl,by kernel_rfl,by kernel_rfl,by kernel_rfl⟩
def ac59:AC:=.seq (.reg [⟨(some 2),.box 65 (.s 0),none⟩,⟨(some 3),.box 65 (.s 1),none⟩,⟨(some 4),.mv (.c (.bool false)),none⟩])
 (.seq (.draw [(xl 65 5 2,[]),(xc 74 6 [.s 5],[]),(xl 65 7 3,[0]),(xc 74 8 [.s 7],[]),(⟨(some 9),.eqA false rel1 (.s 6) (.s 8),none⟩,[]),(xm 4 9,[])])
 (.ret))
theorem fn59:IsFn prog 59 ac59 [.tmp 4] 10:=⟨f59,⟨[],[],[]⟩,func59,by kernel_rfl,by kernel_rfl,by kernel_rfl,by kernel_rfl⟩
def ac66:AC:=.seq (.reg [⟨(some 1),.box 65 (.s 0),none⟩,xi 2 0])
 (.seq (.reg [xf 0 3 1,xo 4 3,⟨(some 5),.own .min [(.s 4),(.c (.int .i64 64))],none⟩,⟨(some 6),.own .max [(.c (.int .i64 0)),(.s 5)],none⟩,xm 2 6])
 (.ret))
theorem fn66:IsFn prog 66 ac66 [.tmp 2] 7:=⟨f66,⟨[],[],[]⟩,func66,by kernel_rfl,by kernel_rfl,by kernel_rfl,by kernel_rfl⟩
def ac69:AC:=.seq (.reg [⟨(some 2),.box 65 (.s 0),none⟩,⟨(some 4),.mv (.c (.int .u64 0)),none⟩])
 (.seq (.reg [⟨(some 5),.mv (.c (.int .u64 0)),none⟩])
 (.seq (.seq (.reg [xm 8 1,xl 65 9 2,xc 66 10 [.s 9],xc 82 11 [.s 10],xb .and 12 8 11,xc 67 13 [.s 12],xL 14 13,xi 15 0])
 (.block 0 (.loop (.seq (.reg [xb .lss 16 15 14])
 (.seq (.cond (.s 16) (.skip)
 (.exit 0))
 (.seq (.block 1 (.seq (.reg [xA 1 17 13 15,xo 18 17,xm 7 18])
 (.reg [xm 19 5,xl 65 20 2,xm 21 7,xc 89 22 [.s 20,.s 21],xb .or 23 19 22,xm 5 23])))
 (.reg [xB .add 24 15 1,xm 15 24])))))))
 (.seq (.reg [xm 25 5,xm 4 25])
 (.ret))))
theorem fn69:IsFn prog 69 ac69 [.tmp 4] 26:=⟨f69,⟨[],[],[]⟩,func69,by kernel_rfl,by kernel_rfl,by kernel_rfl,by kernel_rfl⟩
def ac72:AC:=.seq (.reg [⟨(some 2),.box 65 (.s 0),none⟩,⟨(some 4),.mv (.c (.int .u64 0)),none⟩])
 (.seq (.reg [⟨(some 5),.mv (.c (.int .u64 0)),none⟩])
 (.seq (.seq (.reg [xl 65 7 2,xc 66 8 [.s 7],xi 9 0])
 (.block 0 (.loop (.seq (.reg [xb .lss 10 9 8])
 (.seq (.cond (.s 10) (.skip)
 (.exit 0))
 (.seq (.block 1 (.seq (.reg [xm 11 9,xm 6 11])
 (.seq (.reg [xl 65 12 2,xm 13 6,xc 89 14 [.s 12,.s 13],xm 15 1,xb .and 16 14 15,⟨(some 17),.binI .neq (.s 16) (.c (.int .u64 0)),none⟩])
 (.cond (.s 17) (.reg [xm 18 5,xm 19 6,xc 63 20 [.s 18,.s 19],xm 5 20])
 (.skip)))))
 (.reg [xB .add 21 9 1,xm 9 21])))))))
 (.seq (.reg [xm 22 5,xm 4 22])
 (.ret))))
theorem fn72:IsFn prog 72 ac72 [.tmp 4] 23:=⟨f72,⟨[],[],[]⟩,func72,by kernel_rfl,by kernel_rfl,by kernel_rfl,by kernel_rfl⟩
def ac74:AC:=.seq (.reg [⟨(some 1),.box 65 (.s 0),none⟩,⟨(some 2),.alloc relZ,none⟩])
 (.seq (.reg [xl 65 5 1,xc 66 6 [.s 5],⟨(some 7),.build relZ [(0,1,(.s 6))],none⟩,⟨(some 3),.alloc relZ,none⟩,xs 65 3 7])
 (.seq (.seq (.reg [xf 0 8 3,xo 9 8,xi 10 0])
 (.block 0 (.loop (.seq (.reg [xb .lss 11 10 9])
 (.seq (.cond (.s 11) (.skip)
 (.exit 0))
 (.seq (.block 1 (.seq (.reg [xm 12 10,xm 4 12])
 (.reg [xm 13 4,xl 65 14 1,xm 15 4,xc 89 16 [.s 14,.s 15],xf 1 17 3,⟨(some 18),.idxP 64 1 (.s 17) (.s 13),none⟩,xs 1 18 16])))
 (.reg [xB .add 19 10 1,xm 10 19])))))))
 (.seq (.reg [xl 65 20 3,xs 65 2 20])
 (.ret))))
theorem fn74:IsFn prog 74 ac74 [.cell 2 true 65] 21:=⟨f74,⟨[],[],[]⟩,func74,by kernel_rfl,by kernel_rfl,by kernel_rfl,by kernel_rfl⟩
def ac75:AC:=.seq (.reg [⟨(some 1),.box 65 (.s 0),none⟩,⟨(some 2),.mv (.c (.bool false)),none⟩])
 (.seq (.draw [(xl 65 3 1,[]),(xc 74 4 [.s 3],[]),(xl 65 5 1,[0]),(xc 91 6 [.s 5],[]),(⟨(some 7),.eqA false rel1 (.s 4) (.s 6),none⟩,[]),(xm 2 7,[])])
 (.ret))
theorem fn75:IsFn prog 75 ac75 [.tmp 2] 8:=⟨f75,⟨[],[],[]⟩,func75,by kernel_rfl,by kernel_rfl,by kernel_rfl,by kernel_rfl⟩
def ac76:AC:=.seq (.reg [⟨(some 1),.box 65 (.s 0),none⟩,⟨(some 2),.mv (.c (.bool false)),none⟩])
 (.seq (.seq (.reg [xl 65 4 1,xc 75 5 [.s 4],⟨(some 6),.not (.s 5),none⟩])
 (.cond (.s 6) (.seq (.reg [⟨(some 2),.mv (.c (.bool false)),none⟩])
 (.ret))
 (.skip)))
 (.seq (.seq (.reg [xl 65 7 1,xc 66 8 [.s 7],xi 9 0])
 (.block 0 (.loop (.seq (.reg [xb .lss 10 9 8])
 (.seq (.cond (.s 10) (.skip)
 (.exit 0))
 (.seq (.block 1 (.seq (.reg [xm 11 9,xm 3 11])
 (.seq (.reg [xl 65 12 1,xm 13 3,xc 92 14 [.s 12,.s 13],xm 15 3,⟨(some 16),.bslice 1 [(.s 15)],none⟩,xc 70 17 [.s 16],xb .neq 18 14 17])
 (.cond (.s 18) (.seq (.reg [⟨(some 2),.mv (.c (.bool false)),none⟩])
 (.ret))
 (.skip)))))
 (.reg [xB .add 19 9 1,xm 9 19])))))))
 (.seq (.reg [⟨(some 2),.mv (.c (.bool true)),none⟩])
 (.ret))))
theorem fn76:IsFn prog 76 ac76 [.tmp 2] 20:=⟨f76,⟨[],[],[]⟩,func76,by kernel_rfl,by kernel_rfl,by kernel_rfl,by kernel_rfl⟩
def ac89:AC:=.seq (.reg [⟨(some 2),.box 65 (.s 0),none⟩,⟨(some 4),.mv (.c (.int .u64 0)),none⟩])
 (.seq (.draw [(xm 5 1,[]),(xf 1 6 2,[]),(⟨(some 7),.idxP 64 1 (.s 6) (.s 5),none⟩,[]),(xo 8 7,[1,2]),(xl 65 9 2,[]),(xc 66 10 [.s 9],[]),(xc 82 11 [.s 10],[]),(xb .and 12 8 11,[]),(xm 4 12,[])])
 (.ret))
theorem fn89:IsFn prog 89 ac89 [.tmp 4] 13:=⟨f89,⟨[],[],[]⟩,func89,by kernel_rfl,by kernel_rfl,by kernel_rfl,by kernel_rfl⟩
def ac91:AC:=.seq (.reg [⟨(some 1),.box 65 (.s 0),none⟩,⟨(some 2),.alloc relZ,none⟩])
 (.seq (.reg [xl 65 7 1,xc 74 8 [.s 7],⟨(some 3),.alloc relZ,none⟩,xs 65 3 8])
 (.seq (.seq (.reg [xf 0 9 3,xo 10 9,xi 11 0])
 (.block 0 (.loop (.seq (.reg [xb .lss 12 11 10])
 (.seq (.cond (.s 12) (.skip)
 (.exit 0))
 (.seq (.block 1 (.seq (.reg [xm 13 11,xm 4 13])
 (.reg [xm 14 4,xm 15 4,xf 1 16 3,⟨(some 17),.idxP 64 1 (.s 16) (.s 15),none⟩,xo 18 17,xm 19 4,xc 63 20 [.s 18,.s 19],xf 1 21 3,⟨(some 22),.idxP 64 1 (.s 21) (.s 14),none⟩,xs 1 22 20])))
 (.reg [xB .add 23 11 1,xm 11 23])))))))
 (.seq (.seq (.reg [xf 0 24 3,xo 25 24,xi 26 0])
 (.block 2 (.loop (.seq (.reg [xb .lss 27 26 25])
 (.seq (.cond (.s 27) (.skip)
 (.exit 2))
 (.seq (.block 3 (.seq (.reg [xm 28 26,xm 5 28])
 (.seq (.reg [xf 0 29 3,xo 30 29,xi 31 0])
 (.block 4 (.loop (.seq (.reg [xb .lss 32 31 30])
 (.seq (.cond (.s 32) (.skip)
 (.exit 4))
 (.seq (.block 5 (.seq (.reg [xm 33 31,xm 6 33])
 (.seq (.reg [xm 34 6,xf 1 35 3,⟨(some 36),.idxP 64 1 (.s 35) (.s 34),none⟩,xo 37 36,xm 38 5,xc 96 39 [.s 37,.s 38]])
 (.cond (.s 39) (.draw [(xm 40 6,[]),(xf 1 41 3,[]),(⟨(some 42),.idxP 64 1 (.s 41) (.s 40),none⟩,[]),(xo 43 42,[]),(xm 44 5,[]),(xf 1 45 3,[]),(⟨(some 46),.idxP 64 1 (.s 45) (.s 44),none⟩,[]),(xo 47 46,[]),(xb .or 48 43 47,[]),(xf 1 49 3,[]),(⟨(some 50),.idxP 64 1 (.s 49) (.s 40),none⟩,[]),(xs 1 50 48,[])])
 (.skip)))))
 (.reg [xB .add 51 31 1,xm 31 51])))))))))
 (.reg [xB .add 52 26 1,xm 26 52])))))))
 (.seq (.reg [xl 65 53 3,xs 65 2 53])
 (.ret)))))
theorem fn91:IsFn prog 91 ac91 [.cell 2 true 65] 54:=⟨f91,⟨[],[],[]⟩,func91,by kernel_rfl,by kernel_rfl,by kernel_rfl,by kernel_rfl⟩
def ac92:AC:=.seq (.reg [⟨(some 2),.box 65 (.s 0),none⟩,⟨(some 4),.mv (.c (.int .u64 0)),none⟩])
 (.seq (.reg [xm 6 1,⟨(some 7),.bslice 1 [(.s 6)],none⟩,xc 70 8 [.s 7],xm 5 8])
 (.seq (.draw [(xl 65 9 2,[]),(xm 10 5,[]),(xc 69 11 [.s 9,.s 10],[]),(xl 65 12 2,[0]),(xm 13 5,[]),(xc 72 14 [.s 12,.s 13],[]),(xb .and 15 11 14,[]),(xm 4 15,[])])
 (.ret)))
theorem fn92:IsFn prog 92 ac92 [.tmp 4] 16:=⟨f92,⟨[],[],[]⟩,func92,by kernel_rfl,by kernel_rfl,by kernel_rfl,by kernel_rfl⟩
def z5_:=And.intro @am <| And.intro @amo <| And.intro @ams @Rl.rec_
theorem points_calls (r:Rl) (σ:Store):PCalls prog 66 [.agg r.enc] σ fun v σ' => v = .int .i64 (pts r:Nat)∧σ' = σ:=by
  refine fn66.calls ?_;simp only[slots,ac66,z5_];refine min_intro ?_;simp only[am,amo];refine max_intro ?_;simp only[am];refine retS ?_;simp[V.erase];simp only[pts];split<;>split<;>omega
def z6_:=And.intro @am <| And.intro @amc <| And.intro @ams <| And.intro @w_zero @Rl.rec_
def z7_:=And.intro @am <| And.intro @Rl.rec_ <| And.intro @Int.toNat_natCast @Nat.mul_one
theorem row_calls (r:Rl) (i:Nat) (h:i<64) (σ:Store):PCalls prog 89 [.agg r.enc,.int .i64 (i:Nat)] σ fun v σ' => v = .int .u64 ((rowR r i).toNat:Nat)∧σ' = σ:=by
  refine fn89.calls ?_;simp only[slots,ac89,z6_,Nat.reduceAdd];refine idxPL_ptr (by omega) (by omega) ?_;simp only[z7_,Rl.u_ld h];refine CallD.intro (points_calls r σ) ?_;simp only[am];refine CallD.intro (mask_below_calls _ σ) ?_;simp only[am,w_and];refine⟨⟨Rl.u_ld h,Rl.u_ld h⟩,?_⟩;refine retS ?_;simp[V.erase,rowR]
def z8_:=And.intro @am <| And.intro @aml <| And.intro @Int.toNat_natCast @Nat.mul_one
theorem plain_calls (r:Rl) (σ:Store):PCalls prog 74 [.agg r.enc] σ fun v σ' => v = .agg (plainR r).enc∧σ' = σ:=by
  refine fn74.calls ?_;simp only[slots,ac74,am,ams,Rl.rec_];refine cl (points_calls r σ) ?_;simp only[am,Nat.reduceAdd,Rl.rec_];have hp:=@pts_le r;obtain⟨F,hF⟩:∃F:Nat→Unit→St,∀i x,F i x=⟨[.agg r.enc,.ptr (.loc 0) 0,.ptr (.loc 1) 0,.ptr (.loc 2) 0,.any,.any,.any,.any,.any,.int .i64 (pts r:Nat),.int .i64 (i:Nat)]++List.replicate 10 .any,[r.enc,Rl.zero.enc,(Rl.of (pts r:Nat) fun j=>if j<i then rowR r j else 0#64).enc],σ⟩:=⟨_,fun _ _=>rfl⟩;obtain⟨JF,hJF⟩:∃JF:Nat→Unit→Prop,∀i x,JF i x=(True):=⟨_,fun _ _=>rfl⟩;refine vc_count (pts r) F JF _ hJF ?_ ?_ ?_
  · refine ent (()) ?_ ?_ ?_ ?_
    · exact Eq.mpr (hJF _ _) (trivial)
    all_goals simp[hF,List.replicate,am,lle_self,Rl.zero_setn,Rl.of_n]
  · rintro i x hi -;simp only[hF,List.replicate,am,dlt hi,Rl.rec_];refine cl (row_calls r i (by omega) σ) ?_;simp only[am,amc];refine idxPL_ptr (by omega) (by omega) ?_;simp only[z8_,Rl.u_has (show i<64 by omega),Rl.u_st (show i<64 by omega),winc hi (by omega)];refine nxt (()) hi ?_ ?_ ?_ ?_
    · exact Eq.mpr (hJF _ _) (trivial)
    all_goals simp[hF,List.replicate,am,lle_self,Rl.fill]
  · rintro x -;simp only[hF,List.replicate,am,aml,dnl,aml,Rl.rec_];refine retS ?_;simp[V.erase,plainR,Rl.r_er]
theorem new_calls (n:Int) (σ:Store):PCalls prog 54 [.int .i64 n] σ fun v σ' => v = .agg (Rl.of (min n.toNat 64:Nat) fun _=>0#64).enc∧σ' = σ:=by
  refine fn54.calls ?_;simp only[slots,ac54,am,ams,Rl.rec_];refine cl (points_calls _ σ) ?_;simp only[am,Rl.rec_];refine retS ?_;simp only[V.erase,Rl.r_er,Rl.zero_setn];rfl
theorem same_calls (r s:Rl) (σ:Store):PCalls prog 59 [.agg r.enc,.agg s.enc] σ fun v σ' => v = .bool (decide (plainR r=plainR s))∧σ' = σ:=by
  refine fn59.calls ?_;simp only[slots,ac59,am,ams,Nat.reduceAdd,Rl.rec_];refine CallD.intro (plain_calls r σ) ?_;simp only[am,Rl.rec_];refine CallD.intro (plain_calls s σ) ?_;simp only[am,Rl.rec_];refine retS ?_;simp[V.erase]
theorem up_calls (r:Rl) (w:B64) {σ:Store} (hg:TZ σ):PCalls prog 69 [.agg r.enc,.int .u64 (w.toNat:Nat)] σ fun v σ' => v = .int .u64 ((upR r w).toNat:Nat)∧σ' = σ:=by
  refine fn69.calls ?_;simp only[slots,ac69,z6_,Nat.reduceAdd];refine cl (points_calls r σ) ?_;simp only[am];refine cl (mask_below_calls _ σ) ?_;simp only[am,w_and];refine cl (mask_list_calls _ hg) ?_;simp only[am,List.length_map,iCells_len];generalize hl:listB (w&&&belowB ↑(pts r))=l;have hlt:∀k∈l,k<64:=fun k hk=>listB_lt (hl▸hk)
  have hlen:l.length≤64:=hl▸listB_len _;obtain⟨F,hF⟩:∃F:Nat→Unit→St,∀i x,F i x=⟨[.agg r.enc,.any,.ptr (.loc 0) 0,.any,.any,.int .u64 (((l.take i).foldl (fun o i=>o|||rowR r i) 0#64).toNat:Nat),.any,.any,.any,.any,.any,.any,.any,.sl .no 1 (iCells (l.map Int.ofNat)),.int .i64 (l.length:Nat),.int .i64 (i:Nat)]++List.replicate 10 .any,[r.enc],σ⟩:=⟨_,fun _ _=>rfl⟩;obtain⟨JF,hJF⟩:∃JF:Nat→Unit→Prop,∀i x,JF i x=(True):=⟨_,fun _ _=>rfl⟩;refine vc_count (l.length) F JF _ hJF ?_ ?_ ?_
  · refine ent (()) ?_ ?_ ?_ ?_
    · exact Eq.mpr (hJF _ _) (trivial)
    all_goals simp[hF,List.replicate,am,lle_self]
  · rintro i x hi -;simp only[hF,List.replicate,am,dlt hi];refine idxL_intro (by omega) (iCells_at (l:=l.map Int.ofNat) (by simpa using hi)) ?_;simp only[am,Rl.rec_,List.getElem_map,Int.ofNat_eq_natCast];refine cl (row_calls r l[i] (hlt _ (List.getElem_mem hi)) σ) ?_;simp only[am,aml,w_or,winc hi (by omega)];refine nxt (()) hi ?_ ?_ ?_ ?_
    · exact Eq.mpr (hJF _ _) (trivial)
    all_goals simp[hF,List.replicate,am,lle_self,foldl_take hi]
  · rintro x -;simp only[hF,List.replicate,am,aml,dnl,aml,List.take_length];refine retS ?_;simp[V.erase,upR,hl]
theorem down_calls (r:Rl) (w:B64) (σ:Store):PCalls prog 72 [.agg r.enc,.int .u64 (w.toNat:Nat)] σ fun v σ' => v = .int .u64 ((downR r w).toNat:Nat)∧σ' = σ:=by
  refine fn72.calls ?_;simp only[slots,ac72,z6_,Nat.reduceAdd];refine cl (points_calls r σ) ?_;simp only[am];have hp:=@pts_le r;obtain⟨F,hF⟩:∃F:Nat→Unit→St,∀i x,F i x=⟨[.agg r.enc,.int .u64 (w.toNat:Nat),.ptr (.loc 0) 0,.any,.any,.int .u64 (((List.range i).foldl (fun o i=>if rowR r i&&&w=0#64 then o else withB o (i:Nat)) 0#64).toNat:Nat),.any,.any,.int .i64 (pts r:Nat),.int .i64 (i:Nat)]++List.replicate 13 .any,[r.enc],σ⟩:=⟨_,fun _ _=>rfl⟩;obtain⟨JF,hJF⟩:∃JF:Nat→Unit→Prop,∀i x,JF i x=(True):=⟨_,fun _ _=>rfl⟩;refine vc_count (pts r) F JF _ hJF ?_ ?_ ?_
  · refine ent (()) ?_ ?_ ?_ ?_
    · exact Eq.mpr (hJF _ _) (trivial)
    all_goals simp[hF,List.replicate,am,lle_self]
  · rintro i x hi -;simp only[hF,List.replicate,am,dlt hi,Rl.rec_];refine cl (row_calls r i (by omega) σ) ?_;simp only[am,w_and,w_eq]
    by_cases h:rowR r i&&&w=0#64
    · simp only[am,aml,decide_eq_true h,winc hi (by omega)];refine nxt (()) hi ?_ ?_ ?_ ?_
      · exact Eq.mpr (hJF _ _) (trivial)
      all_goals simp[hF,List.replicate,am,lle_self,foldl_range_succ,h]
    · simp only[am,decide_eq_false h];refine cl (mask_with_calls _ _ σ) ?_;simp only[am,aml,winc hi (by omega)];refine nxt (()) hi ?_ ?_ ?_ ?_
      · exact Eq.mpr (hJF _ _) (trivial)
      all_goals simp[hF,List.replicate,am,lle_self,foldl_range_succ,h]
  · rintro x -;simp only[hF,List.replicate,am,aml,dnl,aml];refine retS ?_;simp[V.erase,downR]
theorem clos1_step {r:Rl} {i:Nat} (hi:i<pts r):(Rl.of (pts r:Nat) fun j=>if j<pts r then (if j<i then withB (rowR r j) (j:Nat) else rowR r j) else 0#64).put i (withB (rowR r i) (i:Nat))=Rl.of (pts r:Nat) fun j=>if j<pts r then (if j<i+1 then withB (rowR r j) (j:Nat) else rowR r j) else 0#64:=by
  refine Rl.ext rfl fun k hk=>?_
  rw[Rl.get_put,Rl.get_of hk,Rl.get_of hk]
  by_cases h:i=k
  · subst h;simp[hk,hi]
  · rw[if_neg (by omega)]
    by_cases h2:k<i
    · simp[h2,show k<i+1 by omega]
    · simp[h2,show ¬k<i+1 by omega]
theorem clos1_get {r:Rl} {i:Nat} (hi:i<pts r):(Rl.of (pts r:Nat) fun j=>if j<pts r then (if j<i then withB (rowR r j) (j:Nat) else rowR r j) else 0#64).get i=rowR r i:=by
  rw[Rl.get_of (Nat.lt_of_lt_of_le hi pts_le),if_pos hi,if_neg (Nat.lt_irrefl _)]
theorem clos1_end {r:Rl}:(Rl.of (pts r:Nat) fun j=>if j<pts r then (if j<pts r then withB (rowR r j) (j:Nat) else rowR r j) else 0#64)=clos0 r:=by
  refine Rl.ext rfl fun k hk=>?_
  rw[Rl.get_of hk,clos0,Rl.get_of hk];split<;>rfl
theorem inner_succ {n k:Nat} {o:Rl}:innerR (n+1) k o=stepR k (innerR n k o) n:=foldl_range_succ
theorem inner_zero {k:Nat} {o:Rl}:innerR 0 k o=o:=rfl
theorem outer_zero {r:Rl}:outerR r 0=clos0 r:=rfl
theorem plain_n {r:Rl}:(plainR r).n=(pts r:Nat):=rfl
theorem stepR_t {k i:Nat} {o:Rl} (h:hasB (o.get i) (k:Nat)=true):stepR k o i=o.put i (o.get i|||o.get k):=by rw[stepR,if_pos h]
theorem stepR_f {k i:Nat} {o:Rl} (h:hasB (o.get i) (k:Nat)=false):stepR k o i=o:=by rw[stepR,h];rfl
def z9_:=And.intro @am <| And.intro @amc <| And.intro @Int.toNat_natCast @Nat.mul_one
def z10_:=And.intro @am <| And.intro @amc <| And.intro @w_or <| And.intro @Int.toNat_natCast @Nat.mul_one
theorem closure_calls (r:Rl) (σ:Store):PCalls prog 91 [.agg r.enc] σ fun v σ' => v = .agg (closR r).enc∧σ' = σ:=by
  refine fn91.calls ?_;simp only[slots,ac91,am,ams,Rl.rec_];refine cl (plain_calls r σ) ?_;simp only[am,Nat.reduceAdd,Rl.rec_,plain_n];have hp:=@pts_le r;obtain⟨F,hF⟩:∃F:Nat→Unit→St,∀i x,F i x=⟨[.any,.ptr (.loc 0) 0,.ptr (.loc 1) 0,.ptr (.loc 2) 0,.any,.any,.any,.any,.any,.any,.int .i64 (pts r:Nat),.int .i64 (i:Nat)]++List.replicate 42 .any,[r.enc,Rl.zero.enc,(Rl.of (pts r:Nat) fun j=>if j<pts r then (if j<i then withB (rowR r j) (j:Nat) else rowR r j) else 0#64).enc],σ⟩:=⟨_,fun _ _=>rfl⟩;obtain⟨JF,hJF⟩:∃JF:Nat→Unit→Prop,∀i x,JF i x=(True):=⟨_,fun _ _=>rfl⟩;refine vc_count (pts r) F JF _ hJF ?_ ?_ ?_
  · refine ent (()) ?_ ?_ ?_ ?_
    · exact Eq.mpr (hJF _ _) (trivial)
    all_goals simp[hF,List.replicate,am,lle_self,plainR]
  · rintro i x hi -;simp only[hF,List.replicate,am,amc,dlt hi];have h64:i<64:=by omega
    refine idxPL_ptr (by omega) (by omega) ?_;simp only[am,Int.toNat_natCast,Nat.mul_one,Rl.u_ld h64,clos1_get hi];refine cl (mask_with_calls _ _ σ) ?_;simp only[am,amc];refine idxPL_ptr (by omega) (by omega) ?_;simp only[z8_,Rl.u_has h64,Rl.u_st h64,winc hi (by omega)];refine nxt (()) hi ?_ ?_ ?_ ?_
    · exact Eq.mpr (hJF _ _) (trivial)
    all_goals simp[hF,List.replicate,am,lle_self,clos1_step hi]
  · rintro x -;simp only[hF,List.replicate,am,aml,dnl,aml,Rl.rec_,Rl.of_n];rw[clos1_end];clear hF F;obtain⟨F,hF⟩:∃F:Nat→Unit→St,∀k x,F k x=⟨[.any,.ptr (.loc 0) 0,.ptr (.loc 1) 0,.ptr (.loc 2) 0,.any,.any,.any,.any,.any,.any,.any,.any,.any,.any,.any,.any,.any,.any,.any,.any,.any,.any,.any,.any,.any,.int .i64 (pts r:Nat),.int .i64 (k:Nat)]++List.replicate 27 .any,[r.enc,Rl.zero.enc,(outerR r k).enc],σ⟩:=⟨_,fun _ _=>rfl⟩;obtain⟨JF,hJF⟩:∃JF:Nat→Unit→Prop,∀k x,JF k x=(True):=⟨_,fun _ _=>rfl⟩;refine vc_count (pts r) F JF _ hJF ?_ ?_ ?_
    · refine ent (()) ?_ ?_ ?_ ?_
      · exact Eq.mpr (hJF _ _) (trivial)
      all_goals simp[hF,List.replicate,am,lle_self,outer_zero]
    · rintro k x hi -;simp only[hF,List.replicate,am,dlt hi,Rl.rec_,outer_n];obtain⟨F2,hF2⟩:∃F2:Nat→Unit→St,∀i x,F2 i x=⟨[.any,.ptr (.loc 0) 0,.ptr (.loc 1) 0,.ptr (.loc 2) 0,.any,.int .i64 (k:Nat),.any,.any,.any,.any,.any,.any,.any,.any,.any,.any,.any,.any,.any,.any,.any,.any,.any,.any,.any,.int .i64 (pts r:Nat),.int .i64 (k:Nat),.any,.any,.any,.int .i64 (pts r:Nat),.int .i64 (i:Nat)]++List.replicate 22 .any,[r.enc,Rl.zero.enc,(innerR i k (outerR r k)).enc],σ⟩:=⟨_,fun _ _=>rfl⟩;obtain⟨JF2,hJF2⟩:∃JF2:Nat→Unit→Prop,∀i x,JF2 i x=(True):=⟨_,fun _ _=>rfl⟩;refine vc_count (pts r) F2 JF2 _ hJF2 ?_ ?_ ?_
      · refine ent (()) ?_ ?_ ?_ ?_
        · exact Eq.mpr (hJF2 _ _) (trivial)
        all_goals simp[hF2,List.replicate,am,lle_self,inner_zero]
      · rintro i x hj -;have hi64:i<64:=by omega
        have hk64:k<64:=by omega
        simp only[hF2,List.replicate,am,amc,dlt hj];refine idxPL_ptr (by omega) (by omega) ?_;simp only[am,Int.toNat_natCast,Nat.mul_one,Rl.u_ld hi64];refine cl (mask_has_calls _ _ σ) ?_;simp only[am];refine vcIf_split (fun hb=>?_) (fun hb=>?_)
        · simp only[am,amc];refine idxPL_ptr (by omega) (by omega) ?_;simp only[z9_,Rl.u_ld hi64];refine idxPL_ptr (by omega) (by omega) ?_;simp only[z10_,Rl.u_ld hk64];refine idxPL_ptr (by omega) (by omega) ?_;simp only[z8_,Rl.u_has hi64,Rl.u_st hi64,winc hj (by omega)];refine nxt (()) hj ?_ ?_ ?_ ?_
          · exact Eq.mpr (hJF2 _ _) (trivial)
          all_goals simp[hF2,List.replicate,am,lle_self,inner_succ,stepR_t hb]
        · simp only[am,aml,winc hj (by omega)];refine nxt (()) hj ?_ ?_ ?_ ?_
          · exact Eq.mpr (hJF2 _ _) (trivial)
          all_goals simp[hF2,List.replicate,am,lle_self,inner_succ,stepR_f hb]
      · rintro x -;simp only[hF2,List.replicate,am,aml,dnl,Nat.reduceEqDiff,aml,Rl.rec_,winc hi (by omega)];refine nxt (()) hi ?_ ?_ ?_ ?_
        · exact Eq.mpr (hJF _ _) (trivial)
        all_goals simp[hF,List.replicate,am,lle_self,outer_succ]
    · rintro x -;simp only[hF,List.replicate,am,aml,dnl,aml,Rl.rec_];exact retK_intro (v:=.agg (closR r).enc) Rl.r_nol (Store.sub_refl _) ⟨by simp only[V.erase,Rl.r_er],rfl⟩
theorem closed_calls (r:Rl) (σ:Store):PCalls prog 75 [.agg r.enc] σ fun v σ' => v = .bool (closedR r)∧σ' = σ:=by
  refine fn75.calls ?_;simp only[slots,ac75,am,ams,Rl.rec_];refine CallD.intro (plain_calls r σ) ?_;simp only[am,Rl.rec_];refine CallD.intro (closure_calls r σ) ?_;simp only[am,Rl.rec_];refine retS ?_;simp[V.erase,closedR]
theorem mutual_calls (r:Rl) (i:Nat) {σ:Store} (hg:TZ σ):PCalls prog 92 [.agg r.enc,.int .i64 (i:Nat)] σ fun v σ' => v = .int .u64 ((mutR r i).toNat:Nat)∧σ' = σ:=by
  refine fn92.calls ?_;simp only[slots,ac92,z6_,Nat.reduceAdd];refine PCalls.weak (as' := [.sl .no 1 (iCells [(i:Int)])]) ?_ ⟨VLe.no,trivial⟩ OLe.rfl;refine cl (mask_of_calls [(i:Int)] σ (by simp)) ?_;simp only[am,Rl.rec_];refine CallD.intro (up_calls r _ hg) ?_;simp only[am,Rl.rec_];refine CallD.intro (down_calls r _ σ) ?_;simp only[am,w_and,Rl.rec_];refine retS ?_;simp[V.erase,mutR]
theorem order_calls (r:Rl) {σ:Store} (hg:TZ σ):PCalls prog 76 [.agg r.enc] σ fun v σ' => v = .bool (orderR r)∧σ' = σ:=by
  refine fn76.calls ?_;simp only[slots,ac76,am,ams,Rl.rec_];refine cl (closed_calls r σ) ?_;simp only[am];refine vcIf_split (fun hb=>?_) (fun hb=>?_)
  · have hb:closedR r=false:=by simpa using hb
    simp only[am];refine retS ?_;simp[V.erase,orderR,hb]
  · have hb:closedR r=true:=by simpa using hb
    simp only[am,Rl.rec_];refine cl (points_calls r σ) ?_;simp only[am];have hp:=@pts_le r;obtain⟨F,hF⟩:∃F:Nat→Unit→St,∀i x,F i x=⟨[.any,.ptr (.loc 0) 0,.any,.any,.any,.any,.any,.any,.int .i64 (pts r:Nat),.int .i64 (i:Nat)]++List.replicate 10 .any,[r.enc],σ⟩:=⟨_,fun _ _=>rfl⟩;obtain⟨JF,hJF⟩:∃JF:Nat→Unit→Prop,∀i x,JF i x=(∀k,k<i→mutR r k=ofB [(k:Int)]):=⟨_,fun _ _=>rfl⟩;refine vc_count (pts r) F JF _ hJF ?_ ?_ ?_
    · refine ent (()) ?_ ?_ ?_ ?_
      · exact Eq.mpr (hJF _ _) (by intro k h;omega)
      all_goals simp[hF,List.replicate,am,lle_self]
    · rintro i x hi hJ;simp only[hF,List.replicate,am,dlt hi,Rl.rec_];refine cl (mutual_calls r i hg) ?_;simp only[am];refine PCalls.weak (as' := [.sl .no 1 (iCells [(i:Int)])]) ?_ ⟨VLe.no,trivial⟩ OLe.rfl;refine cl (mask_of_calls [(i:Int)] _ (by simp)) ?_;simp only[am,w_eq]
      by_cases h:mutR r i=ofB [(i:Int)]
      · simp only[am,aml,decide_eq_true h,winc hi (by omega)];refine nxt (()) hi ?_ ?_ ?_ ?_
        · exact Eq.mpr (hJF _ _) (fun k hk=>if e:k=i then e▸h else hJ k (by omega))
        all_goals simp[hF,List.replicate,am,lle_self]
      · have hA:antiR r=false:=by
          cases hq:antiR r with
          | false=>rfl
          | true=>exact absurd ((anti_mut hb).1 hq i hi) h
        simp only[am,aml,decide_eq_false h];refine retS ?_;simp[V.erase,orderR,hA]
    · rintro x hJ;have hA:antiR r=true:=(anti_mut hb).2 hJ;simp only[hF,List.replicate,am,aml,dnl,aml];refine retS ?_;simp[V.erase,orderR,hb,hA]
end Go.Proofs.Tryd

namespace Go.Proofs.Tryd
open Go.Am
set_option maxRecDepth 4000
set_option maxHeartbeats 4000000
def ac60:AC:=.seq (.reg [⟨(some 1),.box 65 (.s 0),none⟩,⟨(some 2),.mv (.c (.bool false)),none⟩])
 (.seq (.reg [xf 0 3 1,xo 4 3,xB .geq 5 4 1,xm 6 5,xg 6 (xf 0 7 1),xg 6 (xo 8 7),xg 6 (xB .leq 9 8 8),⟨(some 10),.pick (.s 6) (.s 9) (.c (.bool false)),none⟩,xm 11 10,xg 11 (xl 65 12 1),xg 11 (xc 75 13 [.s 12]),⟨(some 14),.pick (.s 11) (.s 13) (.c (.bool false)),none⟩,xm 2 14])
 (.ret))
theorem fn60:IsFn prog 60 ac60 [.tmp 2] 15:=⟨f60,⟨[],[],[]⟩,func60,by kernel_rfl,by kernel_rfl,by kernel_rfl,by kernel_rfl⟩
def ac64:AC:=.seq (.reg [⟨(some 3),.box 65 (.s 0),none⟩,⟨(some 4),.boxO 1 (.s 1),none⟩,⟨(some 6),.mv (.c (.int .u64 0)),none⟩])
 (.seq (.seq (.reg [xl 65 8 3,xo 9 4,xc 81 10 [.s 8,.s 9],⟨(some 11),.not (.s 10),none⟩])
 (.cond (.s 11) (.seq (.reg [⟨(some 6),.mv (.c (.int .u64 0)),none⟩])
 (.ret))
 (.skip)))
 (.seq (.drawA [7] [(xf 0 12 3,[]),(xo 13 12,[]),(xc 82 14 [.s 13],[]),(xl 65 15 3,[0]),(xm 16 2,[]),(xc 69 17 [.s 15,.s 16],[]),(xb .andNot 18 14 17,[]),(⟨none,.mv (.c .any),none⟩,[]),(⟨(some 7),.boxS 1 (.s 18),none⟩,[])])
 (.seq (.upd (.draw [(xl 65 19 3,[1]),(xl 65 20 3,[]),(⟨(some 21),.mkfn (.func 85) [] [(.s 4),(.s 7)],none⟩,[]),(xc 84 22 [.s 20,.s 21],[]),(xc 83 23 [.s 19,.s 22],[]),(xm 6 23,[])]))
 (.ret))))
theorem fn64:IsFn prog 64 ac64 [.tmp 6] 24:=⟨f64,⟨[4],[4],[]⟩,func64,by kernel_rfl,by kernel_rfl,by kernel_rfl,by kernel_rfl⟩
def ac65:AC:=.seq (.reg [⟨(some 4),.mv (.c (.int .u64 0)),none⟩,⟨(some 5),.mv (.c (.bool false)),none⟩])
 (.seq (.seq (.reg [xm 6 0,xc 86 7 [.s 6],⟨(some 8),.not (.s 7),none⟩,xm 9 8,xh 9 (xm 10 1),xh 9 (xB .lss 11 10 0),⟨(some 12),.pick (.s 9) (.c (.bool true)) (.s 11),none⟩,xm 13 12,xh 13 (xm 14 1),xh 13 (xm 15 0),xh 13 (xb .geq 16 14 15),⟨(some 17),.pick (.s 13) (.c (.bool true)) (.s 16),none⟩])
 (.cond (.s 17) (.seq (.reg [⟨(some 4),.mv (.c (.int .u64 0)),none⟩,⟨(some 5),.mv (.c (.bool false)),none⟩])
 (.ret))
 (.skip)))
 (.seq (.reg [xm 18 1,xc 82 19 [.s 18],xm 4 19,⟨(some 5),.mv (.c (.bool true)),none⟩])
 (.ret)))
theorem fn65:IsFn prog 65 ac65 [.tmp 4,.tmp 5] 20:=⟨f65,⟨[],[],[]⟩,func65,by kernel_rfl,by kernel_rfl,by kernel_rfl,by kernel_rfl⟩
def ac81:AC:=.seq (.reg [⟨(some 2),.box 65 (.s 0),none⟩,⟨(some 4),.mv (.c (.bool false)),none⟩])
 (.seq (.reg [xl 65 5 2,xc 60 6 [.s 5],xm 7 6,xg 7 (xm 8 1),xg 7 (xB .geq 9 8 0),⟨(some 10),.pick (.s 7) (.s 9) (.c (.bool false)),none⟩,xm 11 10,xg 11 (xm 12 1),xg 11 (xf 0 13 2),xg 11 (xo 14 13),xg 11 (xb .lss 15 12 14),⟨(some 16),.pick (.s 11) (.s 15) (.c (.bool false)),none⟩,xm 4 16])
 (.ret))
theorem fn81:IsFn prog 81 ac81 [.tmp 4] 17:=⟨f81,⟨[],[],[]⟩,func81,by kernel_rfl,by kernel_rfl,by kernel_rfl,by kernel_rfl⟩
def ac83:AC:=.seq (.reg [⟨(some 2),.boxO 65 (.s 0),none⟩,⟨(some 3),.boxO 1 (.s 1),none⟩,⟨(some 4),.mv (.c (.int .u64 0)),none⟩])
 (.seq (.seq (.reg [xl 65 5 2,xc 60 6 [.s 5],⟨(some 7),.not (.s 6),none⟩])
 (.cond (.s 7) (.seq (.reg [⟨(some 4),.mv (.c (.int .u64 0)),none⟩])
 (.ret))
 (.skip)))
 (.seq (.reg [xl 65 8 2,⟨(some 9),.mkfn (.func 93) [] [(.s 2),(.s 3)],none⟩,xc 84 10 [.s 8,.s 9],xm 4 10])
 (.ret)))
theorem fn83:IsFn prog 83 ac83 [.tmp 4] 11:=⟨f83,⟨[2,3],[],[]⟩,func83,by kernel_rfl,by kernel_rfl,by kernel_rfl,by kernel_rfl⟩
def ac84:AC:=.seq (.reg [⟨(some 2),.box 65 (.s 0),none⟩,⟨(some 4),.mv (.c (.int .u64 0)),none⟩])
 (.seq (.reg [⟨(some 5),.mv (.c (.int .u64 0)),none⟩])
 (.seq (.seq (.reg [xf 0 7 2,xo 8 7,xi 9 0])
 (.block 0 (.loop (.seq (.reg [xb .lss 10 9 8])
 (.seq (.cond (.s 10) (.skip)
 (.exit 0))
 (.seq (.block 1 (.seq (.reg [xm 11 9,xm 6 11])
 (.reg [xm 12 5,xm 13 1,xm 14 6,⟨(some 15),.callv (.s 13) [(.s 14)],none⟩,xm 16 6,⟨(some 17),.binI .mul (.c (.int .i64 8)) (.s 16),none⟩,⟨(some 18),.cvI .u64 (.s 17),none⟩,xb .shl 19 15 18,xb .or 20 12 19,xm 5 20])))
 (.reg [xB .add 21 9 1,xm 9 21])))))))
 (.seq (.reg [xm 22 5,xm 4 22])
 (.ret))))
theorem fn84:IsFn prog 84 ac84 [.tmp 4] 23:=⟨f84,⟨[],[],[]⟩,func84,by kernel_rfl,by kernel_rfl,by kernel_rfl,by kernel_rfl⟩
def ac85:AC:=.seq (.reg [⟨(some 4),.mv (.c (.int .u64 0)),none⟩])
 (.seq (.seq (.reg [xm 5 0,xo 6 1,xb .eql 7 5 6])
 (.cond (.s 7) (.seq (.reg [xo 8 2,xm 4 8])
 (.ret))
 (.skip)))
 (.seq (.reg [⟨(some 4),.mv (.c (.int .u64 0)),none⟩])
 (.ret)))
theorem fn85:IsFn prog 85 ac85 [.tmp 4] 9:=⟨f85,⟨[],[],[]⟩,func85,by kernel_rfl,by kernel_rfl,by kernel_rfl,by kernel_rfl⟩
def ac86:AC:=.seq (.reg [⟨(some 2),.mv (.c (.bool false)),none⟩])
 (.seq (.reg [xm 3 0,xB .geq 4 3 1,xm 5 4,xg 5 (xm 6 0),xg 5 (xB .leq 7 6 64),⟨(some 8),.pick (.s 5) (.s 7) (.c (.bool false)),none⟩,xm 2 8])
 (.ret))
theorem fn86:IsFn prog 86 ac86 [.tmp 2] 9:=⟨f86,⟨[],[],[]⟩,func86,by kernel_rfl,by kernel_rfl,by kernel_rfl,by kernel_rfl⟩
def ac93:AC:=.seq (.reg [⟨(some 4),.mv (.c (.int .u64 0)),none⟩])
 (.seq (.reg [⟨(some 5),.mv (.c (.int .u64 0)),none⟩])
 (.seq (.seq (.draw [(xl 65 8 1,[1]),(xm 9 0,[]),(⟨(some 10),.bslice 1 [(.s 9)],none⟩,[]),(xc 70 11 [.s 10],[]),(xc 69 12 [.s 8,.s 11],[]),(xc 67 13 [.s 12],[]),(xL 14 13,[]),(xi 15 0,[])])
 (.block 0 (.loop (.seq (.reg [xb .lss 16 15 14])
 (.seq (.cond (.s 16) (.skip)
 (.exit 0))
 (.seq (.block 1 (.seq (.reg [xA 1 17 13 15,xo 18 17,xm 7 18])
 (.draw [(xm 19 5,[]),(xl 65 20 1,[1]),(xl 65 21 1,[]),(xo 22 2,[]),(xm 23 7,[]),(xc 94 24 [.s 21,.s 22,.s 23],[]),(xc 72 25 [.s 20,.s 24],[]),(xb .or 26 19 25,[]),(xm 5 26,[])])))
 (.reg [xB .add 27 15 1,xm 15 27])))))))
 (.seq (.reg [xm 28 5,xm 4 28])
 (.ret))))
theorem fn93:IsFn prog 93 ac93 [.tmp 4] 29:=⟨f93,⟨[],[],[]⟩,func93,by kernel_rfl,by kernel_rfl,by kernel_rfl,by kernel_rfl⟩
def ac94:AC:=.seq (.reg [⟨(some 3),.box 65 (.s 0),none⟩,⟨(some 6),.mv (.c (.int .u64 0)),none⟩])
 (.seq (.reg [xm 7 1,xm 8 2,⟨(some 9),.binI .mul (.c (.int .i64 8)) (.s 8),none⟩,⟨(some 10),.cvI .u64 (.s 9),none⟩,xb .shr 11 7 10,xf 0 12 3,xo 13 12,xc 82 14 [.s 13],xb .and 15 11 14,xm 6 15])
 (.ret))
theorem fn94:IsFn prog 94 ac94 [.tmp 6] 16:=⟨f94,⟨[],[],[]⟩,func94,by kernel_rfl,by kernel_rfl,by kernel_rfl,by kernel_rfl⟩
theorem chain_calls (n:Int) (σ:Store):PCalls prog 86 [.int .i64 n] σ fun v σ' => v = .bool (decide (1≤n)&&decide (n≤64))∧σ' = σ:=by
  refine fn86.calls ?_;simp only[slots,ac86,am,ams]
  by_cases h:1≤n
  · simp only[am,decide_eq_true h];refine retS ?_;simp[V.erase]
  · simp only[am,decide_eq_false h];refine retS ?_;simp[V.erase]
def wTup (p:B64 × Bool):V:=.tup [.int .u64 (p.1.toNat:Nat),.bool p.2]
theorem rword_calls (n k:Int) (σ:Store):PCalls prog 65 [.int .i64 n,.int .i64 k] σ fun v σ' => v=wTup (rungW n k)∧σ' = σ:=by
  refine fn65.calls ?_;simp only[slots,ac65,am,ams,Nat.reduceAdd,w_zero];refine cl (chain_calls n σ) ?_
  by_cases h:1≤n∧n≤64
  · simp only[am,decide_eq_true h.1,decide_eq_true h.2]
    by_cases h2:k<0
    · simp only[am,decide_eq_true h2];refine retS ?_;simp[V.erase,eraseL,wTup,rungW,show ¬0≤k by omega]
    · simp only[am,decide_eq_false h2]
      by_cases h3:n≤k
      · simp only[am,decide_eq_true h3];refine retS ?_;simp[V.erase,eraseL,wTup,rungW,show ¬k<n by omega]
      · simp only[am,decide_eq_false h3];refine cl (mask_below_calls k σ) ?_;simp only[am];refine retS ?_;simp[V.erase,eraseL,wTup,rungW,h,show 0≤k by omega,show k<n by omega]
  · have e:(decide (1≤n)&&decide (n≤64))=false:=by simp only[Bool.and_eq_false_iff,decide_eq_false_iff_not];omega
    have e2:rungW n k=(0#64,false):=by simp only[rungW];rw[if_neg (by omega)]
    simp only[am,e];refine retS ?_;simp[V.erase,eraseL,wTup,e2]
theorem gright_calls (r:Rl) (σ:Store):PCalls prog 60 [.agg r.enc] σ fun v σ' => v = .bool (gridR r)∧σ' = σ:=by
  refine fn60.calls ?_;simp only[slots,ac60,am,ams,Rl.rec_]
  by_cases h:1≤r.n
  · simp only[am,Rl.rec_,decide_eq_true h]
    by_cases h2:r.n≤8
    · simp only[am,Rl.rec_,decide_eq_true h2];refine cl (closed_calls r σ) ?_;simp only[am];refine retS ?_;simp[V.erase,gridR,h,h2]
    · simp only[am,decide_eq_false h2];refine retS ?_;simp[V.erase,gridR,h2]
  · simp only[am,decide_eq_false h];refine retS ?_;simp[V.erase,gridR,h]
theorem grow_calls (r:Rl) (w:B64) (o:Nat) (ho:o<64) (σ:Store):PCalls prog 94 [.agg r.enc,.int .u64 (w.toNat:Nat),.int .i64 (o:Nat)] σ fun v σ' => v = .int .u64 ((outG r w o).toNat:Nat)∧σ' = σ:=by
  refine fn94.calls ?_;simp only[slots,ac94,z6_,Nat.reduceAdd];rw[wrap_i64 (by omega) (by omega),wrap_u64 (by omega) (by omega),show (8:Int)*(o:Nat)=((8*o:Nat):Int) by omega];simp only[am,w_shr,Rl.rec_];refine cl (mask_below_calls r.n σ) ?_;simp only[am,w_and];refine retS ?_;simp[V.erase,outG]
def z11_:=And.intro @am <| And.intro @aml <| And.intro @w_or @w_shl
theorem grows_calls (r:Rl) (n:Nat) (hn:r.n=n) (h8:n≤8) (f:FuncId) (cap:List V) (hc:nolL cap=true) (g:Nat→B64) (σ:Store)
    (h:∀o,o<n→PCalls prog f (.int .i64 (o:Nat)::cap) σ fun v σ' => v = .int .u64 ((g o).toNat:Nat)∧σ' = σ) :
    PCalls prog 84 [.agg r.enc,.fn (.func f) [] cap] σ fun v σ' => v = .int .u64 ((rowsG n g).toNat:Nat)∧σ' = σ:=by
  refine fn84.calls ?_;simp only[slots,ac84,z6_,Nat.reduceAdd];obtain⟨F,hF⟩:∃F:Nat→Unit→St,∀i x,F i x=⟨[.any,.fn (.func f) [] cap,.any,.any,.any,.int .u64 ((rowsG i g).toNat:Nat),.any,.any,.int .i64 (n:Nat),.int .i64 (i:Nat)]++List.replicate 13 .any,[r.enc],σ⟩:=⟨_,fun _ _=>rfl⟩;obtain⟨JF,hJF⟩:∃JF:Nat→Unit→Prop,∀i x,JF i x=(True):=⟨_,fun _ _=>rfl⟩;refine vc_count (n) F JF _ hJF ?_ ?_ ?_
  · refine ent (()) ?_ ?_ ?_ ?_
    · exact Eq.mpr (hJF _ _) (trivial)
    all_goals simp[hF,List.replicate,am,lle_self,hn,rowsG]
  · rintro i x hi -;simp only[hF,List.replicate,am,dlt hi,hc];refine(h i hi).mono ?_;rintro v σ' ⟨rfl,rfl⟩;simp only[am];rw[wrap_i64 (x:=8*((i:Nat):Int)) (by omega) (by omega),wrap_u64 (x:=8*((i:Nat):Int)) (by omega) (by omega),show (8:Int)*(i:Nat)=((8*i:Nat):Int) by omega];simp only[z11_,winc hi (by omega)];refine nxt (()) hi ?_ ?_ ?_ ?_
    · exact Eq.mpr (hJF _ _) (trivial)
    all_goals simp[hF,List.replicate,am,lle_self,rowsG,foldl_range_succ]
  · rintro x -;simp only[hF,List.replicate,am,aml,dnl,aml];refine retS ?_;simp[V.erase]
def z12_:=And.intro @am <| And.intro @aml <| And.intro @w_or @Rl.rec_
theorem gclose1_calls (r:Rl) (w:B64) (o b1 b2:Nat) {σ:Store} (hg:TZ σ) (ho:o<pts r) (h8:pts r≤8) (h1:σ.box b1=some r.enc) (h2:σ.box b2=some [.int .u64 (w.toNat:Nat)]) :
    PCalls prog 93 [.int .i64 (o:Nat),.ptr (.out b1) 0,.ptr (.out b2) 0] σ fun v σ' => v = .int .u64 ((clG r w o).toNat:Nat)∧σ' = σ:=by
  refine fn93.calls ?_;simp only[slots,ac93,am,ams,Nat.reduceAdd,w_zero];simp only[am,Rl.rec_,h1];refine CallD.intro (PCalls.weak (as' := [.sl .no 1 (iCells [(o:Int)])]) (mask_of_calls [(o:Int)] σ (by simp)) ⟨VLe.no,trivial⟩ OLe.rfl) ?_;simp only[am,Rl.rec_];refine CallD.intro (up_calls r _ hg) ?_;simp only[am];refine CallD.intro (mask_list_calls _ hg) ?_;simp only[am,List.length_map,Rl.rec_,iCells_len,h1];rw[show upR r (ofB [(o:Int)])=aboveH r o from rfl];generalize hl:listB (aboveH r o)=l;have hlt:∀k∈l,k<pts r:=fun k hk=>by
    rw[←hl,mem_listB,aboveH_get] at hk;exact(hsR_lt hk).2
  have hlen:l.length≤64:=hl▸listB_len _;have hp:=@pts_le r;obtain⟨F,hF⟩:∃F:Nat→Unit→St,∀i x,F i x=⟨[.any,.ptr (.out b1) 0,.ptr (.out b2) 0,.any,.any,.int .u64 (((l.take i).foldl (fun s p=>s|||downR r (outG r w p)) 0#64).toNat:Nat),.any,.any,.any,.any,.any,.any,.any,.sl .no 1 (iCells (l.map Int.ofNat)),.int .i64 (l.length:Nat),.int .i64 (i:Nat)]++List.replicate 13 .any,[],σ⟩:=⟨_,fun _ _=>rfl⟩;obtain⟨JF,hJF⟩:∃JF:Nat→Unit→Prop,∀i x,JF i x=(True):=⟨_,fun _ _=>rfl⟩;refine vc_count (l.length) F JF _ hJF ?_ ?_ ?_
  · refine ent (()) ?_ ?_ ?_ ?_
    · exact Eq.mpr (hJF _ _) (trivial)
    all_goals simp[hF,List.replicate,am,lle_self]
  · rintro i x hi -;simp only[hF,List.replicate,am,dlt hi];refine idxL_intro (by omega) (iCells_at (l:=l.map Int.ofNat) (by simpa using hi)) ?_;simp only[am,Rl.rec_,List.getElem_map,Int.ofNat_eq_natCast,h1,h2];have:=hlt _ (List.getElem_mem hi);refine CallD.intro (grow_calls r w l[i] (by omega) σ) ?_;simp only[am,Rl.rec_];refine CallD.intro (down_calls r _ σ) ?_;simp only[z12_,h1,winc hi (by omega)];refine nxt (()) hi ?_ ?_ ?_ ?_
    · exact Eq.mpr (hJF _ _) (trivial)
    all_goals simp[hF,List.replicate,am,lle_self,foldl_take hi]
  · rintro x -;simp only[hF,List.replicate,am,aml,dnl,aml,List.take_length];refine retS ?_;simp[V.erase,clG,hl]
theorem gclose_calls (r:Rl) (w:B64) {σ:Store} (hg:TZ σ):PCalls prog 83 [.agg r.enc,.int .u64 (w.toNat:Nat)] σ fun v σ' => v = .int .u64 ((closeG r w).toNat:Nat)∧σ' = σ:=by
  refine fn83.calls ?_;simp only[slots,ac83,z6_,Nat.reduceAdd];refine kO_intro fun b1 hb1=>?_
  simp only[am];refine kO_intro fun b2 hb2=>?_
  have hne:b1≠b2:=by rintro rfl;rw[set_box] at hb2;simp at hb2
  have hs1:=sub_set (cs:=r.enc) hb1;have hs:=Store.subT hs1 (sub_set (cs:=[.int .u64 (w.toNat:Nat)]) hb2);have e1:((σ.set b1 r.enc).set b2 [.int .u64 (w.toNat:Nat)]).box b1=some r.enc:=by rw[set_box_ne hne,set_box]
  generalize hσ:(σ.set b1 r.enc).set b2 [V.int .u64 (w.toNat:Nat)]=σ1 at hs e1;have e2:σ1.box b2=some [.int .u64 (w.toNat:Nat)]:=by rw[←hσ,set_box]
  simp only[am,Rl.rec_,e1];refine(gright_calls r σ1).mono ?_;rintro v σ1 ⟨rfl,rfl⟩;simp only[am];cases hgr:gridR r with
  | false =>
    simp only[am];exact retK_intro rfl hs ⟨by simp[closeG,hgr,V.erase],rfl⟩
  | true =>
    obtain⟨n,hn,hp,h1,h8⟩:=gridR_n hgr;simp only[am,Rl.rec_,e1];refine(grows_calls r n hn h8 _ _ rfl (clG r w) σ1 fun o ho=>gclose1_calls r w o b1 b2 (hs.1 _ _ hg) (by omega) (by omega) e1 e2).mono ?_;rintro v σ1 ⟨rfl,rfl⟩;simp only[am];exact retK_intro rfl hs ⟨by simp[closeG,hgr,V.erase,hn],rfl⟩
theorem owns_calls (r:Rl) (o:Nat) (σ:Store):PCalls prog 81 [.agg r.enc,.int .i64 (o:Nat)] σ fun v σ' => v = .bool (gridR r&&decide ((o:Int)<r.n))∧σ' = σ:=by
  refine fn81.calls ?_;simp only[slots,ac81,am,ams,Nat.reduceAdd,Rl.rec_];refine cl (gright_calls r σ) ?_;cases h:gridR r with
  | false =>
    simp only[am];refine retS ?_;simp[V.erase]
  | true =>
    simp only[am,Rl.rec_,show decide ((0:Int)≤(o:Nat))=true from decide_eq_true (by omega)];refine retS ?_;simp[V.erase]
theorem grule1_calls (k o b:Nat) (w:B64) {σ:Store} (b2:Nat) (h1:σ.box b=some [.int .i64 (o:Nat)]) (h2:σ.box b2=some [.int .u64 (w.toNat:Nat)]) :
    PCalls prog 85 [.int .i64 (k:Nat),.ptr (.out b) 0,.ptr (.out b2) 0] σ fun v σ' => v = .int .u64 ((if k=o then w else 0#64).toNat:Nat)∧σ' = σ:=by
  refine fn85.calls ?_;simp only[slots,ac85,am,ams,Nat.reduceAdd,w_zero];simp only[am,h1]
  by_cases h:k=o
  · simp only[am,decide_eq_true (show (k:Int)=(o:Nat) by omega),h2];refine retS ?_;simp[V.erase,h]
  · simp only[am,decide_eq_false (show ¬(k:Int)=(o:Nat) by omega)];refine retS ?_;simp[V.erase,h]
theorem grule_calls (r:Rl) (o:Nat) (d:B64) {σ:Store} (hg:TZ σ):PCalls prog 64 [.agg r.enc,.int .i64 (o:Nat),.int .u64 (d.toNat:Nat)] σ fun v σ' => v = .int .u64 ((ruleG r o d).toNat:Nat)∧σ' = σ:=by
  refine fn64.calls ?_;simp only[slots,ac64,z6_,Nat.reduceAdd];refine kO_intro fun b1 hb1=>?_
  simp only[am,Rl.rec_];have hs:=sub_set (cs:=[V.int .i64 (o:Nat)]) hb1;have e1:(σ.set b1 [V.int .i64 (o:Nat)]).box b1=some [V.int .i64 (o:Nat)]:=set_box;generalize hσ:σ.set b1 [V.int .i64 (o:Nat)]=σ1 at hs e1;refine(owns_calls r o σ1).mono ?_;rintro v σ1 ⟨rfl,rfl⟩;simp only[am];cases hgr:gridR r&&decide ((o:Int)<r.n) with
  | false =>
    simp only[am];exact retK_intro rfl hs ⟨by simp[ruleG,hgr,V.erase],rfl⟩
  | true =>
    have hgr' := hgr;rw[Bool.and_eq_true,decide_eq_true_eq] at hgr;obtain⟨n,hn,hp,h1,h8⟩:=gridR_n hgr.1;simp only[am,Nat.reduceAdd,decide_true,Nat.reduceLT,Rl.rec_];refine CallD.intro (mask_below_calls r.n σ1) ?_;simp only[am,Rl.rec_];refine CallD.intro (up_calls r d (hs.1 _ _ hg)) ?_;simp only[am,w_andNot,Rl.rec_];refine Upd.publish (l:=[r.enc]) (cs:=[V.int .u64 ((belowB r.n&&&~~~upR r d).toNat:Nat)]) rfl fun b2 hb2=>?_
    rw[show belowB r.n&&&~~~upR r d=keptG r d from rfl];have hs2:=Store.subT hs (sub_set (cs:=[V.int .u64 ((keptG r d).toNat:Nat)]) hb2);have hne:b1≠b2:=by rintro rfl;rw[e1] at hb2;simp at hb2
    have e2:(σ1.set b2 [V.int .u64 ((keptG r d).toNat:Nat)]).box b1=some [V.int .i64 (o:Nat)]:=by rw[set_box_ne hne,e1]
    have e3:(σ1.set b2 [V.int .u64 ((keptG r d).toNat:Nat)]).box b2=some [V.int .u64 ((keptG r d).toNat:Nat)]:=set_box;generalize σ1.set b2 [V.int .u64 ((keptG r d).toNat:Nat)]=σ2 at hs2 e2 e3;simp only[am,Nat.reduceLT,reduceCtorEq,Rl.rec_,List.map_cons,List.map_nil,amp,pub_map (n:=1) (l:=r.enc) Rl.r_lo Rl.r_nol];refine CallD.intro (grows_calls r n hn h8 _ _ rfl (fun k=>if k=o then keptG r d else 0#64) σ2 fun k hk=>grule1_calls k o b1 (keptG r d) b2 e2 e3) ?_;simp only[am,Rl.rec_];refine CallD.intro (gclose_calls r _ (hs2.1 _ _ hg)) ?_;simp only[am,Rl.rec_];exact retK_intro rfl hs2 ⟨by rw[ruleG,hgr',hn];rfl,rfl⟩
end Go.Proofs.Tryd

namespace Go.Proofs.Tryd
open Go.Am
set_option maxRecDepth 4000
set_option maxHeartbeats 4000000
def ac29:AC:=.seq (.reg [⟨(some 3),.box 65 (.s 0),none⟩,⟨(some 6),.mv (.c (.int .u64 0)),none⟩])
 (.seq (.seq (.reg [xl 65 14 3,xm 15 1,xc 40 16 [.s 14,.s 15],xm 13 16,xe 17 13 0,xe 18 13 1,xm 7 17,xm 8 18])
 (.seq (.reg [xm 19 8])
 (.cond (.s 19) (.seq (.reg [xl 65 21 3,xm 22 2,xc 40 23 [.s 21,.s 22],xm 20 23,xe 24 20 0,xe 25 20 1,xm 9 24,xm 10 25])
 (.seq (.reg [xm 26 10])
 (.cond (.s 26) (.seq (.reg [xl 65 28 3,xm 29 7,xm 30 9,xc 41 31 [.s 28,.s 29,.s 30],xm 27 31,xe 32 27 0,xe 33 27 1,xm 11 32,xm 12 33])
 (.seq (.reg [xm 34 12])
 (.cond (.s 34) (.seq (.reg [xl 65 35 3,xm 36 11,xc 42 37 [.s 35,.s 36],xm 6 37])
 (.ret))
 (.skip))))
 (.skip))))
 (.skip))))
 (.seq (.reg [xm 38 1,xm 39 2,xb .or 40 38 39,xm 6 40])
 (.ret)))
theorem fn29:IsFn prog 29 ac29 [.tmp 6] 41:=⟨f29,⟨[],[],[]⟩,func29,by kernel_rfl,by kernel_rfl,by kernel_rfl,by kernel_rfl⟩
def ac40:AC:=.seq (.reg [⟨(some 2),.box 65 (.s 0),none⟩,xi 4 0,⟨(some 5),.mv (.c (.bool false)),none⟩])
 (.seq (.seq (.reg [xf 0 7 2,xo 8 7,xc 54 9 [.s 8],xw 0 10 9,xi 11 0])
 (.block 0 (.loop (.seq (.reg [xb .lss 12 11 10])
 (.seq (.cond (.s 12) (.skip)
 (.exit 0))
 (.seq (.block 1 (.seq (.reg [xm 13 11,xm 6 13])
 (.seq (.reg [xl 65 14 2,xm 15 6,xc 42 16 [.s 14,.s 15],xm 17 1,xb .eql 18 16 17])
 (.cond (.s 18) (.seq (.reg [xm 19 6,xm 4 19,⟨(some 5),.mv (.c (.bool true)),none⟩])
 (.ret))
 (.skip)))))
 (.reg [xB .add 20 11 1,xm 11 20])))))))
 (.seq (.reg [xi 4 0,⟨(some 5),.mv (.c (.bool false)),none⟩])
 (.ret)))
theorem fn40:IsFn prog 40 ac40 [.tmp 4,.tmp 5] 21:=⟨f40,⟨[],[],[]⟩,func40,by kernel_rfl,by kernel_rfl,by kernel_rfl,by kernel_rfl⟩
def ac41:AC:=.seq (.reg [⟨(some 3),.box 65 (.s 0),none⟩,xi 6 0,⟨(some 7),.mv (.c (.bool false)),none⟩])
 (.seq (.reg [xl 65 8 3,xm 9 1,xm 10 2,xc 55 11 [.s 8,.s 9,.s 10,.c (.fn (.func 56) [] [])],xe 12 11 0,xe 13 11 1,xm 6 12,xm 7 13])
 (.ret))
theorem fn41:IsFn prog 41 ac41 [.tmp 6,.tmp 7] 14:=⟨f41,⟨[],[],[]⟩,func41,by kernel_rfl,by kernel_rfl,by kernel_rfl,by kernel_rfl⟩
def ac42:AC:=.seq (.reg [⟨(some 2),.box 65 (.s 0),none⟩,⟨(some 4),.mv (.c (.int .u64 0)),none⟩])
 (.seq (.reg [xl 65 5 2,xm 6 1,xc 57 7 [.s 5,.s 6],xm 4 7])
 (.ret))
theorem fn42:IsFn prog 42 ac42 [.tmp 4] 8:=⟨f42,⟨[],[],[]⟩,func42,by kernel_rfl,by kernel_rfl,by kernel_rfl,by kernel_rfl⟩
def ac55:AC:=.seq (.reg [⟨(some 4),.box 65 (.s 0),none⟩,xi 8 0,⟨(some 9),.mv (.c (.bool false)),none⟩])
 (.seq (.draw [(xm 13 3,[]),(xl 65 14 4,[]),(xm 15 1,[]),(⟨(some 16),.callv (.s 13) [(.s 14),(.s 15)],none⟩,[]),(xm 17 3,[]),(xl 65 18 4,[0]),(xm 19 2,[]),(⟨(some 20),.callv (.s 17) [(.s 18),(.s 19)],none⟩,[]),(xb .and 21 16 20,[]),(xm 10 21,[])])
 (.seq (.seq (.reg [xm 22 10,xc 67 23 [.s 22],xL 24 23,xi 25 0])
 (.block 0 (.loop (.seq (.reg [xb .lss 26 25 24])
 (.seq (.cond (.s 26) (.skip)
 (.exit 0))
 (.seq (.block 1 (.seq (.reg [xA 1 27 23 25,xo 28 27,xm 12 28])
 (.seq (.reg [xm 29 10,xm 30 3,xl 65 31 4,xm 32 12,⟨(some 33),.callv (.s 30) [(.s 31),(.s 32)],none⟩,xc 68 34 [.s 29,.s 33]])
 (.cond (.s 34) (.seq (.reg [xm 35 12,xm 8 35,⟨(some 9),.mv (.c (.bool true)),none⟩])
 (.ret))
 (.skip)))))
 (.reg [xB .add 36 25 1,xm 25 36])))))))
 (.seq (.reg [xi 8 0,⟨(some 9),.mv (.c (.bool false)),none⟩])
 (.ret))))
theorem fn55:IsFn prog 55 ac55 [.tmp 8,.tmp 9] 37:=⟨f55,⟨[],[],[]⟩,func55,by kernel_rfl,by kernel_rfl,by kernel_rfl,by kernel_rfl⟩
def ac56:AC:=.seq (.reg [⟨(some 2),.box 65 (.s 0),none⟩,⟨(some 4),.mv (.c (.int .u64 0)),none⟩])
 (.seq (.draw [(xl 65 5 2,[1]),(xm 6 1,[]),(⟨(some 7),.bslice 1 [(.s 6)],none⟩,[]),(xc 70 8 [.s 7],[]),(xc 69 9 [.s 5,.s 8],[]),(xm 4 9,[])])
 (.ret))
theorem fn56:IsFn prog 56 ac56 [.tmp 4] 10:=⟨f56,⟨[],[],[]⟩,func56,by kernel_rfl,by kernel_rfl,by kernel_rfl,by kernel_rfl⟩
def ac57:AC:=.seq (.reg [⟨(some 2),.box 65 (.s 0),none⟩,⟨(some 4),.mv (.c (.int .u64 0)),none⟩])
 (.seq (.seq (.reg [xl 65 5 2,xm 6 1,xc 71 7 [.s 5,.s 6],⟨(some 8),.not (.s 7),none⟩])
 (.cond (.s 8) (.seq (.reg [⟨(some 4),.mv (.c (.int .u64 0)),none⟩])
 (.ret))
 (.skip)))
 (.seq (.draw [(xl 65 9 2,[1]),(xm 10 1,[]),(⟨(some 11),.bslice 1 [(.s 10)],none⟩,[]),(xc 70 12 [.s 11],[]),(xc 72 13 [.s 9,.s 12],[]),(xm 4 13,[])])
 (.ret)))
theorem fn57:IsFn prog 57 ac57 [.tmp 4] 14:=⟨f57,⟨[],[],[]⟩,func57,by kernel_rfl,by kernel_rfl,by kernel_rfl,by kernel_rfl⟩
def ac61:AC:=.seq (.reg [⟨(some 1),.box 65 (.s 0),none⟩,⟨(some 2),.mv (.c (.bool false)),none⟩])
 (.seq (.seq (.reg [xf 0 9 1,xo 10 9,xB .lss 11 10 1,xm 12 11,xh 12 (xf 0 13 1),xh 12 (xo 14 13),xh 12 (xB .gtr 15 14 64),⟨(some 16),.pick (.s 12) (.c (.bool true)) (.s 15),none⟩,xm 17 16,xh 17 (xl 65 18 1),xh 17 (xc 76 19 [.s 18]),⟨(some 20),.not (.s 19),(some (17,false))⟩,⟨(some 21),.pick (.s 17) (.c (.bool true)) (.s 20),none⟩])
 (.cond (.s 21) (.seq (.reg [⟨(some 2),.mv (.c (.bool false)),none⟩])
 (.ret))
 (.skip)))
 (.seq (.seq (.reg [xf 0 22 1,xo 23 22,xi 24 0])
 (.block 0 (.loop (.seq (.reg [xb .lss 25 24 23])
 (.seq (.cond (.s 25) (.skip)
 (.exit 0))
 (.seq (.block 1 (.seq (.reg [xm 26 24,xm 3 26])
 (.seq (.reg [xm 27 3,xi 28 0])
 (.block 2 (.loop (.seq (.reg [xb .lss 29 28 27])
 (.seq (.cond (.s 29) (.skip)
 (.exit 2))
 (.seq (.block 3 (.seq (.reg [xm 30 28,xm 4 30])
 (.seq (.reg [xl 65 32 1,xm 33 3,xm 34 4,xc 41 35 [.s 32,.s 33,.s 34],xm 31 35,xe 36 31 0,xe 37 31 1,xm 5 36,xm 6 37])
 (.seq (.reg [xl 65 39 1,xm 40 3,xm 41 4,xc 77 42 [.s 39,.s 40,.s 41],xm 38 42,xe 43 38 0,xe 44 38 1,xm 7 43,xm 8 44])
 (.seq (.reg [xm 45 6,⟨(some 46),.not (.s 45),none⟩,xm 47 46,xh 47 (xm 48 8),⟨(some 49),.not (.s 48),(some (47,false))⟩,⟨(some 50),.pick (.s 47) (.c (.bool true)) (.s 49),none⟩])
 (.cond (.s 50) (.seq (.reg [⟨(some 2),.mv (.c (.bool false)),none⟩])
 (.ret))
 (.skip)))))))
 (.reg [xB .add 51 28 1,xm 28 51])))))))))
 (.reg [xB .add 52 24 1,xm 24 52])))))))
 (.seq (.reg [⟨(some 2),.mv (.c (.bool true)),none⟩])
 (.ret))))
theorem fn61:IsFn prog 61 ac61 [.tmp 2] 53:=⟨f61,⟨[],[],[]⟩,func61,by kernel_rfl,by kernel_rfl,by kernel_rfl,by kernel_rfl⟩
def ac71:AC:=.seq (.reg [⟨(some 2),.box 65 (.s 0),none⟩,⟨(some 4),.mv (.c (.bool false)),none⟩])
 (.seq (.reg [xm 5 1,xB .geq 6 5 0,xm 7 6,xg 7 (xm 8 1),xg 7 (xf 0 9 2),xg 7 (xo 10 9),xg 7 (xc 54 11 [.s 10]),xg 7 (xw 0 12 11),xg 7 (xb .lss 13 8 12),⟨(some 14),.pick (.s 7) (.s 13) (.c (.bool false)),none⟩,xm 4 14])
 (.ret))
theorem fn71:IsFn prog 71 ac71 [.tmp 4] 15:=⟨f71,⟨[],[],[]⟩,func71,by kernel_rfl,by kernel_rfl,by kernel_rfl,by kernel_rfl⟩
def ac77:AC:=.seq (.reg [⟨(some 3),.box 65 (.s 0),none⟩,xi 6 0,⟨(some 7),.mv (.c (.bool false)),none⟩])
 (.seq (.reg [xl 65 8 3,xm 9 1,xm 10 2,xc 55 11 [.s 8,.s 9,.s 10,.c (.fn (.func 57) [] [])],xe 12 11 0,xe 13 11 1,xm 6 12,xm 7 13])
 (.ret))
theorem fn77:IsFn prog 77 ac77 [.tmp 6,.tmp 7] 14:=⟨f77,⟨[],[],[]⟩,func77,by kernel_rfl,by kernel_rfl,by kernel_rfl,by kernel_rfl⟩
def optT (o:Option Nat):V:=.tup [.int .i64 ((o.getD 0:Nat):Int),.bool o.isSome]
theorem nat_ge0 {i:Nat}:decide ((0:Int)≤(i:Nat))=true:=decide_eq_true (by omega)
theorem hin_calls (r:Rl) (i:Nat) (σ:Store):PCalls prog 71 [.agg r.enc,.int .i64 (i:Nat)] σ fun v σ' => v = .bool (decide (i<pts r))∧σ' = σ:=by
  refine fn71.calls ?_;simp only[slots,ac71,am,ams,Nat.reduceAdd,Rl.rec_];simp only[am,Rl.rec_,nat_ge0];refine cl (new_calls r.n σ) ?_;simp only[am,Rl.rec_,Rl.of_n];refine retS ?_;simp[V.erase,pts];rfl
theorem above_calls (r:Rl) (i:Nat) {σ:Store} (hg:TZ σ):PCalls prog 56 [.agg r.enc,.int .i64 (i:Nat)] σ fun v σ' => v = .int .u64 ((aboveH r i).toNat:Nat)∧σ' = σ:=by
  refine fn56.calls ?_;simp only[slots,ac56,z6_,Nat.reduceAdd];refine CallD.intro (PCalls.weak (as' := [.sl .no 1 (iCells [(i:Int)])]) (mask_of_calls [(i:Int)] σ (by simp)) ⟨VLe.no,trivial⟩ OLe.rfl) ?_;simp only[am,Rl.rec_];refine CallD.intro (up_calls r _ hg) ?_;simp only[am,Rl.rec_];refine retS ?_;simp[V.erase,aboveH]
theorem below_calls (r:Rl) (i:Nat) (σ:Store):PCalls prog 57 [.agg r.enc,.int .i64 (i:Nat)] σ fun v σ' => v = .int .u64 ((belowH r i).toNat:Nat)∧σ' = σ:=by
  refine fn57.calls ?_;simp only[slots,ac57,z6_,Nat.reduceAdd];refine cl (hin_calls r i σ) ?_
  by_cases h:i<pts r
  · simp only[am,Rl.rec_,decide_eq_true h];refine CallD.intro (PCalls.weak (as' := [.sl .no 1 (iCells [(i:Int)])]) (mask_of_calls [(i:Int)] σ (by simp)) ⟨VLe.no,trivial⟩ OLe.rfl) ?_;simp only[am,Rl.rec_];refine CallD.intro (down_calls r _ σ) ?_;simp only[am,Rl.rec_];refine retS ?_;simp[V.erase,belowH,h]
  · simp only[am,decide_eq_false h];refine retS ?_;simp[V.erase,belowH,h]
theorem nearest_calls (r:Rl) (i j:Nat) (f:FuncId) (g:Nat→B64) {σ:Store} (hg:TZ σ) (hf:∀k,PCalls prog f [.agg r.enc,.int .i64 (k:Nat)] σ fun v σ' => v = .int .u64 ((g k).toNat:Nat)∧σ' = σ) :
    PCalls prog 55 [.agg r.enc,.int .i64 (i:Nat),.int .i64 (j:Nat),.fn (.func f) [] []] σ fun v σ' => v=optT (nearH g i j)∧σ' = σ:=by
  refine fn55.calls ?_;simp only[slots,ac55,am,ams,Nat.reduceAdd,Rl.rec_];refine CallD.intro (hf i) ?_;simp only[am,Rl.rec_];refine CallD.intro (hf j) ?_;simp only[am,w_and,Rl.rec_];refine cl (mask_list_calls _ hg) ?_;simp only[am,List.length_map,iCells_len];rw[nearH];generalize g i&&&g j=w;have hlen:=listB_len w;obtain⟨F,hF⟩:∃F:Nat→Unit→St,∀m x,F m x=⟨[.agg r.enc,.any,.any,.fn (.func f) [] [],.ptr (.loc 0) 0,.any,.any,.any,.any,.any,.int .u64 (w.toNat:Nat),.any,.any,.any,.any,.any,.any,.any,.any,.any,.any,.any,.any,.sl .no 1 (iCells ((listB w).map Int.ofNat)),.int .i64 ((listB w).length:Nat),.int .i64 (m:Nat)]++List.replicate 11 .any,[r.enc],σ⟩:=⟨_,fun _ _=>rfl⟩;obtain⟨JF,hJF⟩:∃JF:Nat→Unit→Prop,∀m x,JF m x=(∀u∈(listB w).take m,subB w (g u)=false):=⟨_,fun _ _=>rfl⟩;refine vc_count ((listB w).length) F JF _ hJF ?_ ?_ ?_
  · refine ent (()) ?_ ?_ ?_ ?_
    · exact Eq.mpr (hJF _ _) (by simp)
    all_goals simp[hF,List.replicate,am,lle_self]
  · rintro m x hi hJ;simp only[hF,List.replicate,am,dlt hi];refine idxL_intro (by omega) (iCells_at (l:=(listB w).map Int.ofNat) (by simpa using hi)) ?_;simp only[am,Rl.rec_,List.getElem_map,Int.ofNat_eq_natCast];refine(hf _).mono ?_;rintro v σ ⟨rfl,rfl⟩;simp only[am];refine cl (mask_sub_calls _ _ σ) ?_;simp only[am];cases hb:subB w (g (listB w)[m]) with
    | false =>
      simp only[am,aml,winc hi (by omega)];refine nxt (()) hi ?_ ?_ ?_ ?_
      · exact Eq.mpr (hJF _ _) (take_all hJ hi hb)
      all_goals simp[hF,List.replicate,am,lle_self]
    | true =>
      have e:(listB w).find? (fun u=>subB w (g u))=some (listB w)[m]:=by
        rw[List.find?_eq_some_iff_append];exact⟨hb,_,(listB w).drop (m+1),by rw[←List.drop_eq_getElem_cons hi,List.take_append_drop],fun a ha=>by rw[hJ a ha];rfl⟩
      simp only[am,aml];refine retS ?_;simp[V.erase,eraseL,optT,e]
  · rintro x hJ;rw[List.take_length] at hJ;have e:(listB w).find? (fun u=>subB w (g u))=none:=by
      rw[List.find?_eq_none];intro u hu;rw[hJ u hu];simp
    simp only[hF,List.replicate,am,aml,dnl,aml];refine retS ?_;simp[V.erase,eraseL,optT,e]
theorem join_calls (r:Rl) (i j:Nat) {σ:Store} (hg:TZ σ):PCalls prog 41 [.agg r.enc,.int .i64 (i:Nat),.int .i64 (j:Nat)] σ fun v σ' => v=optT (joinH r i j)∧σ' = σ:=by
  refine fn41.calls ?_;simp only[slots,ac41,am,ams,Nat.reduceAdd,Rl.rec_];refine cl (nearest_calls r i j _ (aboveH r) hg fun k=>above_calls r k hg) ?_;simp only[am,optT];refine retS ?_;simp[V.erase,eraseL,joinH]
theorem meet_calls (r:Rl) (i j:Nat) {σ:Store} (hg:TZ σ):PCalls prog 77 [.agg r.enc,.int .i64 (i:Nat),.int .i64 (j:Nat)] σ fun v σ' => v=optT (meetH r i j)∧σ' = σ:=by
  refine fn77.calls ?_;simp only[slots,ac77,am,ams,Nat.reduceAdd,Rl.rec_];refine cl (nearest_calls r i j _ (belowH r) hg fun k=>below_calls r k σ) ?_;simp only[am,optT];refine retS ?_;simp[V.erase,eraseL,meetH]
theorem hword_calls (r:Rl) (i:Nat) (σ:Store):PCalls prog 42 [.agg r.enc,.int .i64 (i:Nat)] σ fun v σ' => v = .int .u64 ((belowH r i).toNat:Nat)∧σ' = σ:=by
  refine fn42.calls ?_;simp only[slots,ac42,z6_,Nat.reduceAdd];refine cl (below_calls r i σ) ?_;simp only[am];refine retS ?_;simp[V.erase]
theorem find_at {p:Nat→Bool} {n m:Nat} (hm:m<n) (h:∀k,k<m→p k=false) (hp:p m=true):(List.range n).find? p=some m:=by
  rw[List.find?_eq_some_iff_append];refine⟨hp,List.range m,List.range' (m+1) (n - (m+1)),?_,fun a ha=>by rw[h a (by simpa using ha)];rfl⟩;rw[List.range_eq_range',List.range_eq_range',←List.range'_succ];have:=List.range'_append (s:=0) (m:=m) (n:=n - m) (step:=1);simp only[Nat.one_mul,Nat.zero_add] at this;rw[show n - (m+1)+1=n - m by omega,this];congr 1;omega
theorem find_no {p:Nat→Bool} {n:Nat} (h:∀k,k<n→p k=false):(List.range n).find? p=none:=by
  rw[List.find?_eq_none];intro u hu;rw[h u (by simpa using hu)];simp
theorem point_calls (r:Rl) (w:B64) (σ:Store):PCalls prog 40 [.agg r.enc,.int .u64 (w.toNat:Nat)] σ fun v σ' => v=optT (pointH r w)∧σ' = σ:=by
  refine fn40.calls ?_;simp only[slots,ac40,am,ams,Nat.reduceAdd,Rl.rec_];refine cl (new_calls r.n σ) ?_;simp only[am,Rl.rec_,Rl.of_n];have hp:=@pts_le r;rw[show min r.n.toNat 64=pts r from rfl];obtain⟨F,hF⟩:∃F:Nat→Unit→St,∀i x,F i x=⟨[.any,.int .u64 (w.toNat:Nat),.ptr (.loc 0) 0,.any,.any,.any,.any,.any,.any,.any,.int .i64 (pts r:Nat),.int .i64 (i:Nat)]++List.replicate 9 .any,[r.enc],σ⟩:=⟨_,fun _ _=>rfl⟩;obtain⟨JF,hJF⟩:∃JF:Nat→Unit→Prop,∀i x,JF i x=(∀k,k<i→decide (belowH r k=w)=false):=⟨_,fun _ _=>rfl⟩;refine vc_count (pts r) F JF _ hJF ?_ ?_ ?_
  · refine ent (()) ?_ ?_ ?_ ?_
    · exact Eq.mpr (hJF _ _) (by intro k h;omega)
    all_goals simp[hF,List.replicate,am,lle_self]
  · rintro i x hi hJ;simp only[hF,List.replicate,am,dlt hi,Rl.rec_];refine cl (hword_calls r i σ) ?_;simp only[am,w_eq]
    by_cases h:belowH r i=w
    · have e:pointH r w=some i:=find_at hi hJ (decide_eq_true h);simp only[am,aml,decide_eq_true h];refine retS ?_;simp[V.erase,eraseL,optT,e]
    · simp only[am,aml,decide_eq_false h,winc hi (by omega)];refine nxt (()) hi ?_ ?_ ?_ ?_
      · exact Eq.mpr (hJF _ _) (allS hJ (decide_eq_false h))
      all_goals simp[hF,List.replicate,am,lle_self]
  · rintro x hJ;have e:pointH r w=none:=find_no hJ;simp only[hF,List.replicate,am,aml,dnl,aml];refine retS ?_;simp[V.erase,eraseL,optT,e]
theorem raise_calls (r:Rl) (a b:B64) {σ:Store} (hg:TZ σ):PCalls prog 29 [.agg r.enc,.int .u64 (a.toNat:Nat),.int .u64 (b.toNat:Nat)] σ fun v σ' => v = .int .u64 ((raiseH r a b).toNat:Nat)∧σ' = σ:=by
  refine fn29.calls ?_;simp only[slots,ac29,z6_,Nat.reduceAdd];refine cl (point_calls r a σ) ?_;cases ha:pointH r a with
  | none =>
    simp only[am,w_or,optT,Option.isSome_none];refine retS ?_;simp[V.erase,raiseH,ha]
  | some i =>
    simp only[am,Rl.rec_,optT,Option.isSome_some,Option.getD_some];refine cl (point_calls r b σ) ?_;cases hb:pointH r b with
    | none =>
      simp only[am,w_or,optT,Option.isSome_none];refine retS ?_;simp[V.erase,raiseH,ha,hb]
    | some j =>
      simp only[am,Rl.rec_,optT,Option.isSome_some,Option.getD_some];refine cl (join_calls r i j hg) ?_;cases hj:joinH r i j with
      | none =>
        simp only[am,w_or,optT,Option.isSome_none];refine retS ?_;simp[V.erase,raiseH,ha,hb,hj]
      | some k =>
        simp only[am,Rl.rec_,optT,Option.isSome_some,Option.getD_some];refine cl (hword_calls r k σ) ?_;simp only[am];refine retS ?_;simp[V.erase,raiseH,ha,hb,hj]
theorem lattice_calls (r:Rl) {σ:Store} (hg:TZ σ):PCalls prog 61 [.agg r.enc] σ fun v σ' => v = .bool (latH r)∧σ' = σ:=by
  refine fn61.calls ?_;simp only[slots,ac61,am,ams,Rl.rec_]
  by_cases h1:r.n<1
  · simp only[am,decide_eq_true h1];refine retS ?_;simp[V.erase,latH];omega
  · simp only[am,Rl.rec_,decide_eq_false h1]
    by_cases h2:64<r.n
    · simp only[am,decide_eq_true h2];refine retS ?_;simp[V.erase,latH];omega
    · simp only[am,Rl.rec_,decide_eq_false h2];refine cl (order_calls r hg) ?_;obtain⟨n,hn⟩:∃n:Nat,r.n=n:=⟨r.n.toNat,by omega⟩;have hp:pts r=n:=by rw[pts,hn];omega
      cases ho:orderR r with
      | false =>
        simp only[am];refine retS ?_;simp[V.erase,latH,ho]
      | true =>
        simp only[am,Rl.rec_,hn];have good:(∀i,i<n→∀j,j<i→((joinH r i j).isSome&&(meetH r i j).isSome)=true)→latH r=true:=fun h=>by
          simp only[latH,ho,hn,Int.toNat_natCast,List.all_eq_true,List.mem_range,Bool.and_eq_true,decide_eq_true_eq,Bool.and_true];exact⟨by omega,fun i hi j hj=>by have:=h i hi j hj;simpa using this⟩
        have bad:∀i j,i<n→j<i→((joinH r i j).isSome&&(meetH r i j).isSome)=false→latH r=false:=fun i j hi hj h=>by
          cases hq:latH r with
          | false=>rfl
          | true =>
            simp only[latH,hn,Int.toNat_natCast,List.all_eq_true,List.mem_range,Bool.and_eq_true] at hq;have:=hq.2 i hi j hj;rw[this.1,this.2] at h;simp at h
        obtain⟨F,hF⟩:∃F:Nat→Unit→St,∀i x,F i x=⟨[.any,.ptr (.loc 0) 0,.any,.any,.any,.any,.any,.any,.any,.any,.any,.any,.any,.any,.any,.any,.any,.any,.any,.any,.any,.any,.any,.int .i64 (n:Nat),.int .i64 (i:Nat)]++List.replicate 28 .any,[r.enc],σ⟩:=⟨_,fun _ _=>rfl⟩;obtain⟨JF,hJF⟩:∃JF:Nat→Unit→Prop,∀i x,JF i x=(∀a,a<i→∀b,b<a→((joinH r a b).isSome&&(meetH r a b).isSome)=true):=⟨_,fun _ _=>rfl⟩;refine vc_count (n) F JF _ hJF ?_ ?_ ?_
        · refine ent (()) ?_ ?_ ?_ ?_
          · exact Eq.mpr (hJF _ _) (by intro k h;omega)
          all_goals simp[hF,List.replicate,am,lle_self]
        · rintro i x hi hJ;simp only[hF,List.replicate,am,dlt hi];obtain⟨F2,hF2⟩:∃F2:Nat→Unit→St,∀j x,F2 j x=⟨[.any,.ptr (.loc 0) 0,.any,.int .i64 (i:Nat),.any,.any,.any,.any,.any,.any,.any,.any,.any,.any,.any,.any,.any,.any,.any,.any,.any,.any,.any,.int .i64 (n:Nat),.int .i64 (i:Nat),.any,.any,.int .i64 (i:Nat),.int .i64 (j:Nat)]++List.replicate 24 .any,[r.enc],σ⟩:=⟨_,fun _ _=>rfl⟩;obtain⟨JF2,hJF2⟩:∃JF2:Nat→Unit→Prop,∀j x,JF2 j x=(∀b,b<j→((joinH r i b).isSome&&(meetH r i b).isSome)=true):=⟨_,fun _ _=>rfl⟩;refine vc_count (i) F2 JF2 _ hJF2 ?_ ?_ ?_
          · refine ent (()) ?_ ?_ ?_ ?_
            · exact Eq.mpr (hJF2 _ _) (by intro k h;omega)
            all_goals simp[hF2,List.replicate,am,lle_self]
          · rintro j x hj hJ2;simp only[hF2,List.replicate,am,dlt hj,Rl.rec_];refine cl (join_calls r i j hg) ?_;simp only[am,Rl.rec_,optT];refine cl (meet_calls r i j hg) ?_;simp only[am,optT];cases ha:(joinH r i j).isSome with
            | false =>
              simp only[am,aml];refine retS ?_;simp[V.erase,bad i j hi hj (by rw[ha];rfl)]
            | true =>
              simp only[am];cases hb:(meetH r i j).isSome with
              | false =>
                simp only[am,aml];refine retS ?_;simp[V.erase,bad i j hi hj (by rw[ha,hb];rfl)]
              | true =>
                simp only[am,aml,winc hj (by omega)];refine nxt (()) hj ?_ ?_ ?_ ?_
                · exact Eq.mpr (hJF2 _ _) (allS hJ2 (by rw[ha,hb];rfl))
                all_goals simp[hF2,List.replicate,am,lle_self]
          · rintro x hJ2;simp only[hF2,List.replicate,am,aml,dnl,Nat.reduceEqDiff,aml,reduceCtorEq,winc hi (by omega)];refine nxt (()) hi ?_ ?_ ?_ ?_
            · exact Eq.mpr (hJF _ _) (allS hJ hJ2)
            all_goals simp[hF,List.replicate,am,lle_self]
        · rintro x hJ;simp only[hF,List.replicate,am,aml,dnl,aml];refine retS ?_;simp[V.erase,good hJ]
end Go.Proofs.Tryd

namespace Go.Proofs.Tryd
open Go.Am
set_option maxRecDepth 4000
set_option maxHeartbeats 4000000
def ac45:AC:=.seq (.reg [⟨(some 2),.mv (.c (.int .u64 0)),none⟩])
 (.seq (.reg [⟨(some 3),.mv (.c (.int .u64 0)),none⟩,⟨(some 4),.mv (.c (.int .u64 1)),none⟩])
 (.seq (.seq (.reg [xi 5 0])
 (.block 0 (.loop (.seq (.seq (.reg [xm 7 5,xB .lss 8 7 64])
 (.cond (.s 8) (.skip)
 (.exit 0)))
 (.seq (.block 1 (.seq (.seq (.reg [xi 6 0])
 (.block 2 (.loop (.seq (.seq (.reg [xm 11 6,xm 12 0,xL 13 12,xb .lss 14 11 13])
 (.cond (.s 14) (.skip)
 (.exit 2)))
 (.seq (.block 3 (.seq (.reg [xm 17 0,xm 18 6,xA 1 19 17 18,xo 20 19,xm 21 5,xb .eql 22 20 21])
 (.cond (.s 22) (.seq (.reg [xm 23 3,xm 24 4,xb .add 25 23 24,xm 3 25])
 (.exit 2))
 (.skip))))
 (.reg [xm 15 6,xB .add 16 15 1,xm 6 16]))))))
 (.reg [xm 26 4,⟨(some 27),.binI .mul (.s 26) (.c (.int .u64 2)),none⟩,xm 4 27])))
 (.reg [xm 9 5,xB .add 10 9 1,xm 5 10]))))))
 (.seq (.reg [xm 28 3,xm 2 28])
 (.ret))))
theorem fn45:IsFn prog 45 ac45 [.tmp 2] 29:=⟨f45,⟨[],[],[]⟩,func45,by kernel_rfl,by kernel_rfl,by kernel_rfl,by kernel_rfl⟩
theorem ref01_of_calls (l:List Int) (σ:Store) (hl:l.length≤100000):PCalls prog 45 [.sl .no 1 (iCells l)] σ fun v σ' => v = .int .u64 ((ofB l).toNat:Nat)∧σ' = σ:=by
  refine fn45.calls ?_;simp only[slots,ac45,z0_];obtain⟨F,hF⟩:∃F:Nat→B64→St,∀i x,F i x=⟨[.sl .no 1 (iCells l),.any,.int .u64 ((0#64:B64).toNat:Nat),.int .u64 (x.toNat:Nat),.int .u64 ((bitB i).toNat:Nat),.int .i64 (i:Nat)]++List.replicate 23 .any,[],σ⟩:=⟨_,fun _ _=>rfl⟩;obtain⟨JF,hJF⟩:∃JF:Nat→B64→Prop,∀i x,JF i x=(x=ofB l&&&belowB (i:Int)):=⟨_,fun _ _=>rfl⟩;refine vc_count (64) F JF _ hJF ?_ ?_ ?_
  · refine ent (0#64) ?_ ?_ ?_ ?_
    · exact Eq.mpr (hJF _ _) ((ofB_none l).symm)
    all_goals simp[hF,List.replicate,am,lle_self,bitB]
  · rintro i x hi rfl;simp only[hF,List.replicate,am,show decide ((i:Int)<64)=true from dlt hi];obtain⟨F2,hF2⟩:∃F2:Nat→Unit→St,∀j y,F2 j y=⟨[.sl .no 1 (iCells l),.any,.int .u64 ((0#64:B64).toNat:Nat),.int .u64 ((ofB l&&&belowB (i:Int)).toNat:Nat),.int .u64 ((bitB i).toNat:Nat),.int .i64 (i:Nat),.int .i64 (j:Nat)]++List.replicate 22 .any,[],σ⟩:=⟨_,fun _ _=>rfl⟩;obtain⟨JF2,hJF2⟩:∃JF2:Nat→Unit→Prop,∀j y,JF2 j y=((i:Int)∉l.take j):=⟨_,fun _ _=>rfl⟩;refine vc_count (l.length) F2 JF2 _ hJF2 ?_ ?_ ?_
    · refine ent (()) ?_ ?_ ?_ ?_
      · exact Eq.mpr (hJF2 _ _) (by simp)
      all_goals simp[hF2,List.replicate,am,lle_self]
    · rintro j y hj hm;simp only[hF2,List.replicate,am,dlt hj,iCells_len];refine idxL_intro (by omega) (iCells_at hj) ?_;simp only[am]
      by_cases he:l[j]=(i:Int)
      · have hmem:(i:Int)∈l:=he▸List.getElem_mem hj;simp only[am,Nat.reduceEqDiff,aml,reduceCtorEq,w_add,w_dbl,decide_eq_true he,winc hi (by omega),bitB_dbl];refine nxt ((ofB l&&&belowB (i:Int))+bitB i) hi ?_ ?_ ?_ ?_
        · exact Eq.mpr (hJF _ _) (by rw[ofB_step l i hi,if_pos hmem])
        all_goals simp[hF,List.replicate,am,lle_self]
      · simp only[am,aml,decide_eq_false he,winc hj (by omega)];refine nxt (()) hj ?_ ?_ ?_ ?_
        · exact Eq.mpr (hJF2 _ _) (by rw[List.take_succ_eq_append_getElem hj,List.mem_append];simp[hm,Ne.symm he])
        all_goals simp[hF2,List.replicate,am,lle_self]
    · rintro y hm;rw[List.take_length] at hm;simp only[hF2,List.replicate,am,aml,dnl,Nat.reduceEqDiff,aml,reduceCtorEq,w_dbl,iCells_len,winc hi (by omega),bitB_dbl];refine nxt (ofB l&&&belowB (i:Int)) hi ?_ ?_ ?_ ?_
      · exact Eq.mpr (hJF _ _) (by rw[ofB_step l i hi,if_neg hm])
      all_goals simp[hF,List.replicate,am,lle_self]
  · rintro x rfl;simp only[hF,List.replicate,am,aml,aml,show decide (((64:Nat):Int)<64)=false from rfl];rw[show ((64:Nat):Int)=64 from rfl,ofB_full];refine retS ?_;simp[V.erase]
end Go.Proofs.Tryd

namespace Go.Proofs.Tryd
open Go.Am
set_option maxRecDepth 4000
set_option maxHeartbeats 4000000
def ac17:AC:=.seq (.reg [⟨(some 4),.mv (.c (.bool false)),none⟩])
 (.seq (.seq (.reg [xi 5 0])
 (.block 0 (.loop (.seq (.seq (.reg [xm 6 5,xm 7 0,xL 8 7,xb .lss 9 6 8])
 (.cond (.s 9) (.skip)
 (.exit 0)))
 (.seq (.block 1 (.seq (.reg [xm 12 0,xm 13 5,xA 1 14 12 13,xo 15 14,xm 16 1,xb .eql 17 15 16])
 (.cond (.s 17) (.seq (.reg [⟨(some 4),.mv (.c (.bool true)),none⟩])
 (.ret))
 (.skip))))
 (.reg [xm 10 5,xB .add 11 10 1,xm 5 11]))))))
 (.seq (.reg [⟨(some 4),.mv (.c (.bool false)),none⟩])
 (.ret)))
theorem fn17:IsFn prog 17 ac17 [.tmp 4] 18:=⟨f17,⟨[],[],[]⟩,func17,by kernel_rfl,by kernel_rfl,by kernel_rfl,by kernel_rfl⟩
def ac43:AC:=.seq (.reg [⟨(some 1),.box 65 (.s 0),none⟩,xi 2 0])
 (.seq (.seq (.reg [xf 0 3 1,xo 4 3,xB .lss 5 4 0])
 (.cond (.s 5) (.seq (.reg [xi 2 0])
 (.ret))
 (.skip)))
 (.seq (.seq (.reg [xf 0 6 1,xo 7 6,xB .gtr 8 7 64])
 (.cond (.s 8) (.seq (.reg [xi 2 64])
 (.ret))
 (.skip)))
 (.seq (.reg [xf 0 9 1,xo 10 9,xm 2 10])
 (.ret))))
theorem fn43:IsFn prog 43 ac43 [.tmp 2] 11:=⟨f43,⟨[],[],[]⟩,func43,by kernel_rfl,by kernel_rfl,by kernel_rfl,by kernel_rfl⟩
def ac44:AC:=.seq (.reg [⟨(some 3),.box 65 (.s 0),none⟩,⟨(some 6),.mv (.c (.bool false)),none⟩])
 (.seq (.reg [xl 65 8 3,xc 43 9 [.s 8],xm 7 9])
 (.seq (.reg [xm 10 1,xB .geq 11 10 0,xm 12 11,xg 12 (xm 13 2),xg 12 (xB .geq 14 13 0),⟨(some 15),.pick (.s 12) (.s 14) (.c (.bool false)),none⟩,xm 16 15,xg 16 (xm 17 1),xg 16 (xm 18 7),xg 16 (xb .lss 19 17 18),⟨(some 20),.pick (.s 16) (.s 19) (.c (.bool false)),none⟩,xm 21 20,xg 21 (xm 22 2),xg 21 (xm 23 7),xg 21 (xb .lss 24 22 23),⟨(some 25),.pick (.s 21) (.s 24) (.c (.bool false)),none⟩,xm 26 25,xg 26 (xm 27 1),xg 26 (xf 1 28 3),⟨(some 29),.idxP 64 1 (.s 28) (.s 27),(some (26,true))⟩,xg 26 (xo 30 29),xg 26 (xm 31 2),⟨(some 32),.cvI .u64 (.s 31),(some (26,true))⟩,xg 26 (xb .shr 33 30 32),⟨(some 34),.binI .rem (.s 33) (.c (.int .u64 2)),(some (26,true))⟩,⟨(some 35),.binI .eql (.s 34) (.c (.int .u64 1)),(some (26,true))⟩,⟨(some 36),.pick (.s 26) (.s 35) (.c (.bool false)),none⟩,xm 6 36])
 (.ret)))
theorem fn44:IsFn prog 44 ac44 [.tmp 6] 37:=⟨f44,⟨[],[],[]⟩,func44,by kernel_rfl,by kernel_rfl,by kernel_rfl,by kernel_rfl⟩
theorem nat_ge {i:Nat}:decide ((0:Int)≤(i:Nat))=true:=decide_eq_true (by omega)
theorem rpoints_calls (r:Rl) (σ:Store):PCalls prog 43 [.agg r.enc] σ fun v σ' => v = .int .i64 (pts r:Nat)∧σ' = σ:=by
  refine fn43.calls ?_;simp only[slots,ac43,am,ams,Rl.rec_]
  by_cases h:r.n<0
  · simp only[am,decide_eq_true h];refine retS ?_;simp[V.erase,pts];omega
  · simp only[am,Rl.rec_,decide_eq_false h]
    by_cases h2:64<r.n
    · simp only[am,decide_eq_true h2];refine retS ?_;simp[V.erase,pts];omega
    · simp only[am,Rl.rec_,decide_eq_false h2];refine retS ?_;simp[V.erase,pts];omega
def z13_:=And.intro @am <| And.intro @ams <| And.intro @w_one @Rl.rec_
def z14_:=And.intro @am <| And.intro @w_shr <| And.intro @Int.toNat_natCast @Nat.mul_one
theorem rhas_calls (r:Rl) (i j:Nat) (σ:Store):PCalls prog 44 [.agg r.enc,.int .i64 (i:Nat),.int .i64 (j:Nat)] σ fun v σ' => v = .bool (hsR r i j)∧σ' = σ:=by
  refine fn44.calls ?_;simp only[slots,ac44,z13_,Nat.reduceAdd];refine cl (rpoints_calls r σ) ?_;simp only[am,nat_ge];have hp:=@pts_le r
  by_cases h1:i<pts r
  · simp only[am,dlt h1]
    by_cases h2:j<pts r
    · simp only[am,amc,dlt h2];refine idxPL_ptr (by omega) (by omega) ?_;simp only[z14_,w_rem2,w_bone,Rl.u_ld (show i<64 by omega),wrap_u64 (x:=((j:Nat):Int)) (by omega) (by omega),BitVec.getLsbD_ushiftRight];refine retS ?_;simp[V.erase,hsR_def,h1,h2]
    · have e:decide ((j:Int)<(pts r:Nat))=false:=decide_eq_false (by omega);simp only[am,e];refine retS ?_;simp[V.erase,hsR_def,h2]
  · have e:decide ((i:Int)<(pts r:Nat))=false:=decide_eq_false (by omega);simp only[am,e];refine retS ?_;simp[V.erase,hsR_def,h1]
theorem in_calls (l:List Int) (n:Int) (σ:Store) (hl:l.length≤100000):PCalls prog 17 [.sl .no 1 (iCells l),.int .i64 n] σ fun v σ' => v = .bool (decide (n∈l))∧σ' = σ:=by
  refine fn17.calls ?_;simp only[slots,ac17,am,ams,Nat.reduceAdd];obtain⟨F,hF⟩:∃F:Nat→Unit→St,∀i x,F i x=⟨[.sl .no 1 (iCells l),.int .i64 n,.any,.any,.bool false,.int .i64 (i:Nat)]++List.replicate 12 .any,[],σ⟩:=⟨_,fun _ _=>rfl⟩;obtain⟨JF,hJF⟩:∃JF:Nat→Unit→Prop,∀i x,JF i x=(∀k∈l.take i,k≠n):=⟨_,fun _ _=>rfl⟩;refine vc_count (l.length) F JF _ hJF ?_ ?_ ?_
  · refine ent (()) ?_ ?_ ?_ ?_
    · exact Eq.mpr (hJF _ _) (by simp)
    all_goals simp[hF,List.replicate,am,lle_self]
  · rintro i x hi hJ;simp only[hF,List.replicate,am,dlt hi,iCells_len];refine idxL_intro (by omega) (iCells_at hi) ?_;simp only[am]
    by_cases h:l[i]=n
    · simp only[am,aml,decide_eq_true h];have hm:n∈l:=h▸List.getElem_mem hi;refine retS ?_;simp[V.erase,hm]
    · simp only[am,aml,decide_eq_false h,winc hi (by omega)];refine nxt (()) hi ?_ ?_ ?_ ?_
      · exact Eq.mpr (hJF _ _) (take_all hJ hi h)
      all_goals simp[hF,List.replicate,am,lle_self]
  · rintro x hJ;rw[List.take_length] at hJ;have hm:n∉l:=fun hm=>hJ n hm rfl
    simp only[hF,List.replicate,am,aml,dnl,aml,iCells_len];refine retS ?_;simp[V.erase,hm]
structure RI (r:Rl) (i0 m:Nat) (l:List Nat):Prop where
  nd:l.Nodup
  rch:∀k∈l,Rch r i0 k
  fst:i0∈l
  suc:∀a v,a<m→l[a]?=some v→∀k,hsR r v k=true→k∈l
theorem RI.len {r:Rl} {i0 m:Nat} {l:List Nat} (h:RI r i0 m l):l.length≤pts r:=nodup_le h.nd fun k hk=>(h.rch k hk).lt.2
theorem RI.all {r:Rl} {i0:Nat} {l:List Nat} (h:RI r i0 l.length l) (j:Nat):j∈l↔Rch r i0 j:=by
  refine⟨h.rch j,fun hr=>?_⟩;induction hr with
  | refl _=>exact h.fst
  | tail _ hs ih =>
    obtain⟨a,ha,hv⟩:=List.mem_iff_getElem.1 ih;exact h.suc a _ ha (by rw[List.getElem?_eq_getElem ha,hv]) _ hs
theorem RI.add {r:Rl} {i0 m j:Nat} {l:List Nat} {v:Nat} (h:RI r i0 m l) (hm:m≤l.length) (hv:v∈l) (hs:hsR r v j=true) (hj:j∉l):RI r i0 m (l++[j]):=by
  refine⟨?_,fun k hk=>?_,by simp[h.fst],fun a w ha hw k hk=>?_⟩
  · rw[List.nodup_append];exact⟨h.nd,by simp,fun a ha b hb=>by simp only[List.mem_singleton] at hb;subst hb;rintro rfl;exact hj ha⟩
  · rcases List.mem_append.1 hk with hk | hk
    · exact h.rch k hk
    · rw[List.mem_singleton.1 hk];exact(h.rch v hv).tail hs
  · rw[List.getElem?_append_left (by omega)] at hw;exact List.mem_append.2 (.inl (h.suc a w ha hw k hk))
end Go.Proofs.Tryd

namespace Go.Proofs.Tryd
open Go.Am
set_option maxRecDepth 4000
set_option maxHeartbeats 4000000
end Go.Proofs.Tryd

namespace Go.Proofs.Tryd
open Go.Am
set_option maxRecDepth 4000
set_option maxHeartbeats 4000000
def ac22:AC:=.seq (.reg [⟨(some 3),.box 65 (.s 0),none⟩,⟨(some 6),.mv (.c (.int .u64 0)),none⟩])
 (.seq (.reg [xl 65 14 3,xm 15 1,xc 30 16 [.s 14,.s 15],xm 13 16,xe 17 13 0,xe 18 13 1,xm 7 17,xm 8 18])
 (.seq (.reg [xl 65 20 3,xm 21 2,xc 30 22 [.s 20,.s 21],xm 19 22,xe 23 19 0,xe 24 19 1,xm 9 23,xm 10 24])
 (.seq (.reg [xl 65 26 3,xm 27 7,xm 28 9,xc 31 29 [.s 26,.s 27,.s 28],xm 25 29,xe 30 25 0,xe 31 25 1,xm 11 30,xm 12 31])
 (.seq (.seq (.reg [xm 32 8,xm 33 32,xg 33 (xm 34 10),⟨(some 35),.pick (.s 33) (.s 34) (.c (.bool false)),none⟩,xm 36 35,xg 36 (xm 37 12),⟨(some 38),.pick (.s 36) (.s 37) (.c (.bool false)),none⟩])
 (.cond (.s 38) (.seq (.reg [xl 65 39 3,xm 40 11,xc 32 41 [.s 39,.s 40],xm 6 41])
 (.ret))
 (.skip)))
 (.seq (.reg [xm 42 1,xm 43 2,xb .or 44 42 43,xm 6 44])
 (.ret))))))
theorem fn22:IsFn prog 22 ac22 [.tmp 6] 45:=⟨f22,⟨[],[],[]⟩,func22,by kernel_rfl,by kernel_rfl,by kernel_rfl,by kernel_rfl⟩
def ac30:AC:=.seq (.reg [⟨(some 2),.box 65 (.s 0),none⟩,xi 4 0,⟨(some 5),.mv (.c (.bool false)),none⟩])
 (.seq (.seq (.reg [xi 6 0])
 (.block 0 (.loop (.seq (.seq (.reg [xm 7 6,xl 65 8 2,xc 43 9 [.s 8],xb .lss 10 7 9])
 (.cond (.s 10) (.skip)
 (.exit 0)))
 (.seq (.block 1 (.seq (.reg [xl 65 13 2,xm 14 6,xc 32 15 [.s 13,.s 14],xm 16 1,xb .eql 17 15 16])
 (.cond (.s 17) (.seq (.reg [xm 18 6,xm 4 18,⟨(some 5),.mv (.c (.bool true)),none⟩])
 (.ret))
 (.skip))))
 (.reg [xm 11 6,xB .add 12 11 1,xm 6 12]))))))
 (.seq (.reg [xi 4 0,⟨(some 5),.mv (.c (.bool false)),none⟩])
 (.ret)))
theorem fn30:IsFn prog 30 ac30 [.tmp 4,.tmp 5] 19:=⟨f30,⟨[],[],[]⟩,func30,by kernel_rfl,by kernel_rfl,by kernel_rfl,by kernel_rfl⟩
def ac31:AC:=.seq (.reg [⟨(some 3),.box 65 (.s 0),none⟩,xi 6 0,⟨(some 7),.mv (.c (.bool false)),none⟩])
 (.seq (.seq (.reg [xi 8 0])
 (.block 0 (.loop (.seq (.seq (.reg [xm 11 8,xl 65 12 3,xc 43 13 [.s 12],xb .lss 14 11 13])
 (.cond (.s 14) (.skip)
 (.exit 0)))
 (.seq (.block 1 (.seq (.reg [xl 65 17 3,xm 18 1,xm 19 8,xc 44 20 [.s 17,.s 18,.s 19],xm 21 20,xg 21 (xl 65 22 3),xg 21 (xm 23 2),xg 21 (xm 24 8),xg 21 (xc 44 25 [.s 22,.s 23,.s 24]),⟨(some 26),.pick (.s 21) (.s 25) (.c (.bool false)),none⟩,xm 9 26])
 (.seq (.seq (.reg [xi 10 0])
 (.block 2 (.loop (.seq (.seq (.reg [xm 27 10,xl 65 28 3,xc 43 29 [.s 28],xb .lss 30 27 29])
 (.cond (.s 30) (.skip)
 (.exit 2)))
 (.seq (.block 3 (.seq (.reg [xl 65 33 3,xm 34 1,xm 35 10,xc 44 36 [.s 33,.s 34,.s 35],xm 37 36,xg 37 (xl 65 38 3),xg 37 (xm 39 2),xg 37 (xm 40 10),xg 37 (xc 44 41 [.s 38,.s 39,.s 40]),⟨(some 42),.pick (.s 37) (.s 41) (.c (.bool false)),none⟩,xm 43 42,xg 43 (xl 65 44 3),xg 43 (xm 45 8),xg 43 (xm 46 10),xg 43 (xc 44 47 [.s 44,.s 45,.s 46]),⟨(some 48),.not (.s 47),(some (43,true))⟩,⟨(some 49),.pick (.s 43) (.s 48) (.c (.bool false)),none⟩])
 (.cond (.s 49) (.reg [⟨(some 9),.mv (.c (.bool false)),none⟩])
 (.skip))))
 (.reg [xm 31 10,xB .add 32 31 1,xm 10 32]))))))
 (.seq (.reg [xm 50 9])
 (.cond (.s 50) (.seq (.reg [xm 51 8,xm 6 51,⟨(some 7),.mv (.c (.bool true)),none⟩])
 (.ret))
 (.skip))))))
 (.reg [xm 15 8,xB .add 16 15 1,xm 8 16]))))))
 (.seq (.reg [xi 6 0,⟨(some 7),.mv (.c (.bool false)),none⟩])
 (.ret)))
theorem fn31:IsFn prog 31 ac31 [.tmp 6,.tmp 7] 52:=⟨f31,⟨[],[],[]⟩,func31,by kernel_rfl,by kernel_rfl,by kernel_rfl,by kernel_rfl⟩
def ac32:AC:=.seq (.reg [⟨(some 2),.box 65 (.s 0),none⟩,⟨(some 4),.mv (.c (.int .u64 0)),none⟩])
 (.seq (.reg [⟨(some 5),.mv (.c (.sl .full 1 [])),none⟩])
 (.seq (.seq (.reg [xi 6 0])
 (.block 0 (.loop (.seq (.seq (.reg [xm 7 6,xl 65 8 2,xc 43 9 [.s 8],xb .lss 10 7 9])
 (.cond (.s 10) (.skip)
 (.exit 0)))
 (.seq (.block 1 (.seq (.reg [xl 65 13 2,xm 14 6,xm 15 1,xc 44 16 [.s 13,.s 14,.s 15]])
 (.cond (.s 16) (.reg [xm 17 5,xm 18 6,⟨(some 19),.bslice 1 [(.s 18)],none⟩,xa 1 20 17 19,xm 5 20])
 (.skip))))
 (.reg [xm 11 6,xB .add 12 11 1,xm 6 12]))))))
 (.seq (.reg [xm 21 5,xc 45 22 [.s 21],xm 4 22])
 (.ret))))
theorem fn32:IsFn prog 32 ac32 [.tmp 4] 23:=⟨f32,⟨[],[],[]⟩,func32,by kernel_rfl,by kernel_rfl,by kernel_rfl,by kernel_rfl⟩
theorem rjoin_calls (r:Rl) (i j:Nat) (σ:Store):PCalls prog 31 [.agg r.enc,.int .i64 (i:Nat),.int .i64 (j:Nat)] σ fun v σ' => v=optT (joinH r i j)∧σ' = σ:=by
  refine fn31.calls ?_;simp only[slots,ac31,am,ams,Nat.reduceAdd,Rl.rec_];rw[joinH_eq];generalize hg:(fun u=>(hsR r i u&&hsR r j u)&&(List.range (pts r)).all fun v=>!(hsR r i v&&hsR r j v&&!hsR r u v))=g;have hg:∀u,((hsR r i u&&hsR r j u)&&(List.range (pts r)).all fun v=>!(hsR r i v&&hsR r j v&&!hsR r u v))=g u:=fun u=>by rw[←hg]
  have hp:=@pts_le r;obtain⟨F,hF⟩:∃F:Nat→Unit→St,∀u x,F u x=⟨[.agg r.enc,.int .i64 (i:Nat),.int .i64 (j:Nat),.ptr (.loc 0) 0,.any,.any,.any,.any,.int .i64 (u:Nat)]++List.replicate 43 .any,[r.enc],σ⟩:=⟨_,fun _ _=>rfl⟩;obtain⟨JF,hJF⟩:∃JF:Nat→Unit→Prop,∀u x,JF u x=(∀k,k<u→g k=false):=⟨_,fun _ _=>rfl⟩;refine vc_count (pts r) F JF _ hJF ?_ ?_ ?_
  · refine ent (()) ?_ ?_ ?_ ?_
    · exact Eq.mpr (hJF _ _) (by intro k h;omega)
    all_goals simp[hF,List.replicate,am,lle_self]
  · rintro u x hi hJ;simp only[hF,List.replicate,am,Rl.rec_];refine cl (rpoints_calls r σ) ?_;simp only[am,Rl.rec_,dlt hi];refine cl (rhas_calls r i u σ) ?_
    rcases Bool.eq_false_or_eq_true (hsR r i u) with hb | hb
    all_goals simp only[am,Rl.rec_,hb]
    case' inl =>
      refine cl (rhas_calls r j u σ) ?_;simp only[am]
    all_goals
      obtain⟨F2,hF2⟩:∃F2:Nat→Unit→St,∀v x,F2 v x=⟨[.agg r.enc,.int .i64 (i:Nat),.int .i64 (j:Nat),.ptr (.loc 0) 0,.any,.any,.any,.any,.int .i64 (u:Nat),.bool ((hsR r i u&&hsR r j u)&&(List.range v).all fun v=>!(hsR r i v&&hsR r j v&&!hsR r u v)),.int .i64 (v:Nat)]++List.replicate 41 .any,[r.enc],σ⟩:=⟨_,fun _ _=>rfl⟩;obtain⟨JF2,hJF2⟩:∃JF2:Nat→Unit→Prop,∀v x,JF2 v x=(True):=⟨_,fun _ _=>rfl⟩;refine vc_count (pts r) F2 JF2 _ hJF2 ?_ ?_ ?_
      · refine ent (()) ?_ ?_ ?_ ?_
        · exact Eq.mpr (hJF2 _ _) (trivial)
        all_goals simp[hF2,List.replicate,am,lle_self,hb]
      · rintro v x hj -;simp only[hF2,List.replicate,am,Rl.rec_];refine cl (rpoints_calls r σ) ?_;simp only[am,Rl.rec_,dlt hj];refine cl (rhas_calls r i v σ) ?_;cases h1:hsR r i v with
        | false =>
          simp only[am,aml,winc hj (by omega)];refine nxt (()) hj ?_ ?_ ?_ ?_
          · exact Eq.mpr (hJF2 _ _) (trivial)
          all_goals simp[hF2,List.replicate,am,lle_self,List.range_succ,h1]
        | true =>
          simp only[am,Rl.rec_];refine cl (rhas_calls r j v σ) ?_;cases h2:hsR r j v with
          | false =>
            simp only[am,aml,winc hj (by omega)];refine nxt (()) hj ?_ ?_ ?_ ?_
            · exact Eq.mpr (hJF2 _ _) (trivial)
            all_goals simp[hF2,List.replicate,am,lle_self,List.range_succ,h2]
          | true =>
            simp only[am,Rl.rec_];refine cl (rhas_calls r u v σ) ?_;cases h3:hsR r u v with
            | false =>
              simp only[am,aml,winc hj (by omega)];refine nxt (()) hj ?_ ?_ ?_ ?_
              · exact Eq.mpr (hJF2 _ _) (trivial)
              all_goals simp[hF2,List.replicate,am,lle_self,List.range_succ,h1,h2,h3]
            | true =>
              simp only[am,aml,winc hj (by omega)];refine nxt (()) hj ?_ ?_ ?_ ?_
              · exact Eq.mpr (hJF2 _ _) (trivial)
              all_goals simp[hF2,List.replicate,am,lle_self,List.range_succ,h1,h2,h3]
      · rintro x -;simp only[hF2,List.replicate,am,Rl.rec_];refine cl (rpoints_calls r σ) ?_;simp only[am,Nat.reduceEqDiff,aml,reduceCtorEq,dnl,hg];cases h:g u with
        | true =>
          have e:(List.range (pts r)).find? g=some u:=find_at hi hJ h;simp only[am,aml];refine retS ?_;simp[V.erase,eraseL,optT,e]
        | false =>
          simp only[am,aml,winc hi (by omega)];refine nxt (()) hi ?_ ?_ ?_ ?_
          · exact Eq.mpr (hJF _ _) (allS hJ h)
          all_goals simp[hF,List.replicate,am,lle_self]
  · rintro x hJ;have e:(List.range (pts r)).find? g=none:=find_no hJ;simp only[hF,List.replicate,am,Rl.rec_];refine cl (rpoints_calls r σ) ?_;simp only[am,aml,dnl];refine retS ?_;simp[V.erase,eraseL,optT,e]
theorem wordH_of {r:Rl} {i:Nat}:ofB (((List.range (pts r)).filter fun k=>hsR r k i).map Int.ofNat)=belowH r i:=by
  apply eqB;intro j hj;rw[Bool.eq_iff_iff,ofB_mem hj,belowH_get];simp only[List.mem_filter,List.mem_range];exact⟨fun h=>h.2,fun h=>⟨(hsR_lt h).1,h⟩⟩
theorem rword6_calls (r:Rl) (i:Nat) (σ:Store):PCalls prog 32 [.agg r.enc,.int .i64 (i:Nat)] σ fun v σ' => v = .int .u64 ((belowH r i).toNat:Nat)∧σ' = σ:=by
  refine fn32.calls ?_;simp only[slots,ac32,z6_,Nat.reduceAdd];have hp:=@pts_le r;obtain⟨F,hF⟩:∃F:Nat→Tk × Store→St,∀k x,F k x=⟨[.agg r.enc,.int .i64 (i:Nat),.ptr (.loc 0) 0,.any,.any,.sl x.1 1 (iCells (((List.range k).filter fun k=>hsR r k i).map Int.ofNat)),.int .i64 (k:Nat)]++List.replicate 16 .any,[r.enc],x.2⟩:=⟨_,fun _ _=>rfl⟩;obtain⟨JF,hJF⟩:∃JF:Nat→Tk × Store→Prop,∀k x,JF k x=(Gr σ x.2 x.1 ((List.range k).filter fun k=>hsR r k i).length):=⟨_,fun _ _=>rfl⟩;refine vc_count (pts r) F JF _ hJF ?_ ?_ ?_
  · refine ent ((.full,σ)) ?_ ?_ ?_ ?_
    · exact Eq.mpr (hJF _ _) (Gr.nil)
    all_goals simp[hF,List.replicate,am,lle_self,iCells]
  · rintro k ⟨tk,σ1⟩ hi hG;simp only at hG;have hlen:((List.range k).filter fun k=>hsR r k i).length≤64:=by have:=List.length_filter_le (fun k=>hsR r k i) (List.range k);simp at this;omega
    simp only[hF,List.replicate,am,Rl.rec_];refine(rpoints_calls r σ1).mono ?_;rintro v σ1 ⟨rfl,rfl⟩;simp only[am,Rl.rec_,dlt hi];refine(rhas_calls r k i σ1).mono ?_;rintro v σ1 ⟨rfl,rfl⟩;cases hb:hsR r k i with
    | false =>
      simp only[am,aml,winc hi (by omega)];refine nxt ((tk,σ1)) hi ?_ ?_ ?_ ?_
      · exact Eq.mpr (hJF _ _) (by simpa [List.range_succ,hb] using hG)
      all_goals simp[hF,List.replicate,am,lle_self,List.range_succ,hb]
    | true =>
      simp only[am];refine Gr.app (by simpa [iCells] using hG) (by simp[iCells,big];omega) fun tk' σ' hG' _ _=>?_
      simp only[am,aml,winc hi (by omega)];refine nxt ((tk',σ')) hi ?_ ?_ ?_ ?_
      · exact Eq.mpr (hJF _ _) (by simpa [iCells,List.range_succ,hb] using hG')
      all_goals simp[hF,List.replicate,am,lle_self,List.range_succ,hb,iCells_snoc]
  · rintro⟨tk,σ1⟩ hG;simp only at hG;have hlen:((List.range (pts r)).filter fun k=>hsR r k i).length≤64:=by have:=List.length_filter_le (fun k=>hsR r k i) (List.range (pts r));simp at this;omega
    simp only[hF,List.replicate,am,Rl.rec_];refine(rpoints_calls r σ1).mono ?_;rintro v σ1 ⟨rfl,rfl⟩;simp only[am,aml,dnl];refine PCalls.weak (as' := [.sl .no 1 (iCells (((List.range (pts r)).filter fun k=>hsR r k i).map Int.ofNat))]) ?_ ⟨VLe.no,trivial⟩ OLe.rfl;refine(ref01_of_calls _ σ1 (by rw[List.length_map];omega)).mono ?_;rintro v σ1 ⟨rfl,rfl⟩;simp only[am,wordH_of];exact retK_intro rfl hG.sub ⟨rfl,rfl⟩
theorem rpoint_calls (r:Rl) (w:B64) (σ:Store):PCalls prog 30 [.agg r.enc,.int .u64 (w.toNat:Nat)] σ fun v σ' => v=optT (pointH r w)∧σ' = σ:=by
  refine fn30.calls ?_;simp only[slots,ac30,am,ams,Nat.reduceAdd,Rl.rec_];have hp:=@pts_le r;obtain⟨F,hF⟩:∃F:Nat→Unit→St,∀i x,F i x=⟨[.agg r.enc,.int .u64 (w.toNat:Nat),.ptr (.loc 0) 0,.any,.any,.any,.int .i64 (i:Nat)]++List.replicate 12 .any,[r.enc],σ⟩:=⟨_,fun _ _=>rfl⟩;obtain⟨JF,hJF⟩:∃JF:Nat→Unit→Prop,∀i x,JF i x=(∀k,k<i→decide (belowH r k=w)=false):=⟨_,fun _ _=>rfl⟩;refine vc_count (pts r) F JF _ hJF ?_ ?_ ?_
  · refine ent (()) ?_ ?_ ?_ ?_
    · exact Eq.mpr (hJF _ _) (by intro k h;omega)
    all_goals simp[hF,List.replicate,am,lle_self]
  · rintro i x hi hJ;simp only[hF,List.replicate,am,Rl.rec_];refine cl (rpoints_calls r σ) ?_;simp only[am,Rl.rec_,dlt hi];refine cl (rword6_calls r i σ) ?_;simp only[am,w_eq]
    by_cases h:belowH r i=w
    · have e:pointH r w=some i:=find_at hi hJ (decide_eq_true h);simp only[am,aml,decide_eq_true h];refine retS ?_;simp[V.erase,eraseL,optT,e]
    · simp only[am,aml,decide_eq_false h,winc hi (by omega)];refine nxt (()) hi ?_ ?_ ?_ ?_
      · exact Eq.mpr (hJF _ _) (allS hJ (decide_eq_false h))
      all_goals simp[hF,List.replicate,am,lle_self]
  · rintro x hJ;have e:pointH r w=none:=find_no hJ;simp only[hF,List.replicate,am,Rl.rec_];refine cl (rpoints_calls r σ) ?_;simp only[am,aml,dnl];refine retS ?_;simp[V.erase,eraseL,optT,e]
theorem rraise_calls (r:Rl) (a b:B64) (σ:Store):PCalls prog 22 [.agg r.enc,.int .u64 (a.toNat:Nat),.int .u64 (b.toNat:Nat)] σ fun v σ' => v = .int .u64 ((raiseH r a b).toNat:Nat)∧σ' = σ:=by
  refine fn22.calls ?_;simp only[slots,ac22,z6_,Nat.reduceAdd];refine cl (rpoint_calls r a σ) ?_;simp only[am,Rl.rec_,optT];refine cl (rpoint_calls r b σ) ?_;simp only[am,Rl.rec_,optT];refine cl (rjoin_calls r ((pointH r a).getD 0) ((pointH r b).getD 0) σ) ?_;simp only[am,optT];cases ha:pointH r a with
  | none =>
    simp only[am,w_or,Option.isSome_none];refine retS ?_;simp[V.erase,raiseH,ha]
  | some i =>
    cases hb:pointH r b with
    | none =>
      simp only[am,w_or,Option.isSome_none,Option.isSome_some];refine retS ?_;simp[V.erase,raiseH,ha,hb]
    | some j =>
      simp only[am,Option.isSome_some,Option.getD_some];cases hj:joinH r i j with
      | none =>
        simp only[am,w_or,Option.isSome_none];refine retS ?_;simp[V.erase,raiseH,ha,hb,hj]
      | some k =>
        simp only[am,Rl.rec_,Option.isSome_some,Option.getD_some];refine cl (rword6_calls r k σ) ?_;simp only[am];refine retS ?_;simp[V.erase,raiseH,ha,hb,hj]
end Go.Proofs.Tryd

namespace Go.Proofs.Tryd
open Go.Am
set_option maxRecDepth 4000
set_option maxHeartbeats 4000000
def ac33:AC:=.seq (.reg [⟨(some 2),.mv (.c (.bool false)),none⟩])
 (.seq (.seq (.reg [xm 4 0,⟨(some 5),.binS .eql (.s 4) (.c (.str [])),none⟩,xm 6 5,xh 6 (xm 7 0),xh 6 (xT 8 7),xh 6 (xB .gtr 9 8 16),⟨(some 10),.pick (.s 6) (.c (.bool true)) (.s 9),none⟩,xm 11 10,xh 11 (xm 12 0),⟨(some 13),.idxS (.s 12) (.c (.int .i64 0)),(some (11,false))⟩,xh 11 (xc 46 14 [.s 13]),⟨(some 15),.not (.s 14),(some (11,false))⟩,⟨(some 16),.pick (.s 11) (.c (.bool true)) (.s 15),none⟩])
 (.cond (.s 16) (.seq (.reg [⟨(some 2),.mv (.c (.bool false)),none⟩])
 (.ret))
 (.skip)))
 (.seq (.seq (.reg [xm 17 0,xT 18 17,xi 19 0])
 (.block 0 (.loop (.seq (.reg [xb .lss 20 19 18])
 (.seq (.cond (.s 20) (.skip)
 (.exit 0))
 (.seq (.block 1 (.seq (.reg [xm 21 19,xm 3 21])
 (.seq (.reg [xm 22 0,xm 23 3,xS 24 22 23,xc 47 25 [.s 24],⟨(some 26),.not (.s 25),none⟩])
 (.cond (.s 26) (.seq (.reg [⟨(some 2),.mv (.c (.bool false)),none⟩])
 (.ret))
 (.skip)))))
 (.reg [xB .add 27 19 1,xm 19 27])))))))
 (.seq (.reg [⟨(some 2),.mv (.c (.bool true)),none⟩])
 (.ret))))
theorem fn33:IsFn prog 33 ac33 [.tmp 2] 28:=⟨f33,⟨[],[],[]⟩,func33,by kernel_rfl,by kernel_rfl,by kernel_rfl,by kernel_rfl⟩
def ac46:AC:=.seq (.reg [⟨(some 2),.mv (.c (.bool false)),none⟩])
 (.seq (.reg [xm 3 0,xu .geq 4 3 97,xm 5 4,xg 5 (xm 6 0),xg 5 (xu .leq 7 6 122),⟨(some 8),.pick (.s 5) (.s 7) (.c (.bool false)),none⟩,xm 2 8])
 (.ret))
theorem fn46:IsFn prog 46 ac46 [.tmp 2] 9:=⟨f46,⟨[],[],[]⟩,func46,by kernel_rfl,by kernel_rfl,by kernel_rfl,by kernel_rfl⟩
def ac47:AC:=.seq (.reg [⟨(some 2),.mv (.c (.bool false)),none⟩])
 (.seq (.reg [xm 3 0,xc 46 4 [.s 3],xm 5 4,xh 5 (xm 6 0),xh 5 (xu .geq 7 6 48),xh 5 (xm 8 7),xg 8 (xm 9 0),xg 8 (xu .leq 10 9 57),⟨(some 11),.pick (.s 8) (.s 10) (.c (.bool false)),(some (5,false))⟩,⟨(some 12),.pick (.s 5) (.c (.bool true)) (.s 11),none⟩,xm 13 12,xh 13 (xm 14 0),xh 13 (xu .eql 15 14 95),⟨(some 16),.pick (.s 13) (.c (.bool true)) (.s 15),none⟩,xm 2 16])
 (.ret))
theorem fn47:IsFn prog 47 ac47 [.tmp 2] 17:=⟨f47,⟨[],[],[]⟩,func47,by kernel_rfl,by kernel_rfl,by kernel_rfl,by kernel_rfl⟩
def z15_:=And.intro @am <| And.intro @amo <| And.intro @amc <| And.intro @encs_length <| And.intro @decide_true <| And.intro @decide_false <| And.intro @Tree.rec_ <| And.intro @Nd.rec_ <| And.intro @Word.rec_ @Got.rec_
theorem letter_calls (c:Int) (σ:Store):PCalls prog 46 [.int .u8 c] σ fun v σ' => v = .bool (letZ c)∧σ' = σ:=by
  refine fn46.calls ?_;simp only[slots,ac46,am,ams]
  repeat' (first
    | (refine gL_split (fun h=>?_) (fun h=>?_)<;>simp only[am,h])
    | (refine vcIf_split (fun h=>?_) (fun h=>?_)<;>simp only[z15_,h,Nat.reduceAdd,Nat.reduceEqDiff,List.length_map])
    | (refine pickL_split (fun h=>?_) (fun h=>?_)<;>simp only[z15_,h,Nat.reduceAdd,Nat.reduceEqDiff,List.length_map])
  )
  all_goals refine retS ?_
  all_goals simp_all [V.erase,letZ]
  all_goals (try omega)
theorem goes_calls (c:Int) (σ:Store):PCalls prog 47 [.int .u8 c] σ fun v σ' => v = .bool (goesZ c)∧σ' = σ:=by
  refine fn47.calls ?_;simp only[slots,ac47,am,ams];refine cl (letter_calls c σ) ?_;simp only[am]
  repeat' (first
    | (refine gL_split (fun h=>?_) (fun h=>?_)<;>simp only[am,h])
    | (refine vcIf_split (fun h=>?_) (fun h=>?_)<;>simp only[z15_,h,Nat.reduceAdd,Nat.reduceEqDiff,List.length_map])
    | (refine pickL_split (fun h=>?_) (fun h=>?_)<;>simp only[z15_,h,Nat.reduceAdd,Nat.reduceEqDiff,List.length_map])
  )
  all_goals refine retS ?_
  all_goals simp_all [V.erase,goesZ]
  all_goals (try omega)
theorem str_at {s:List UInt8} {i:Nat} (h:i<s.length):s[((i:Nat):Int).toNat]?=some s[i]:=by simp[h]
def inv70 (s:List UInt8) (σ:Store) (i:Nat):St :=
  ⟨[.str s]++List.replicate 17 .any++[.int .i64 s.length,.int .i64 (i:Nat)]++List.replicate 8 .any,[],σ⟩
theorem all_take_succ {s:List UInt8} {i:Nat} {f:UInt8→Bool} (h:i<s.length):(s.take (i+1)).all f=((s.take i).all f&&f s[i]):=by
  rw[take_succ_of (List.getElem?_eq_getElem h),List.all_append];simp only[List.all_cons,List.all_nil,Bool.and_true]
theorem nameR_loop {s:List UInt8} (h:s.length≤16) (h1:0<s.length):nameR s=(letB s[0]&&s.all goesB):=by
  cases s with
  | nil=>simp at h1
  | cons c r =>
    simp only[nameR,h,decide_true,Bool.true_and,List.getElem_cons_zero,List.all_cons];cases hc:letB c
    · simp
    · have:goesB c=true:=by simp only[letB] at hc;simp[goesB,goesZ,hc]
      simp[this]
theorem right_calls (s:List UInt8) (σ:Store):PCalls prog 33 [.str s] σ fun v σ' => v = .bool (nameR s)∧σ' = σ:=by
  refine fn33.calls ?_;simp only[slots,ac33,am,ams]
  by_cases h0:s=[]
  · subst h0;simp only[am,decide_true];refine retS ?_;simp[V.erase,nameR]
  · have hpos:0<s.length:=by cases s with | nil=>exact absurd rfl h0 | cons _ _=>simp
    simp only[am,decide_false,h0]
    by_cases h16:s.length≤16
    · have e:decide ((16:Int)<s.length)=false:=by simp;omega
      simp only[am,e];refine idxSL_intro (by omega) (c:=s[0]) (by simp[hpos]) ?_;simp only[am];refine cl (letter_calls s[0].toNat σ) ?_;have hl:nameR s=(letB s[0]&&s.all goesB):=nameR_loop h16 hpos;cases hb:letZ (s[0].toNat:Nat)
      · have hb' : letB s[0]=false:=hb;simp only[am];refine retS ?_;simp[V.erase,hl,hb']
      · have hb' : letB s[0]=true:=hb;simp only[am];refine vc_loop (fun p:{i:Nat // i≤s.length∧(s.take i).all goesB=true}=>inv70 s σ p.1) (fun p=>s.length - p.1) ?_ ?_
        · refine Upd.enter ⟨0,by simp,by simp⟩ ?_ LLLe.rfl OLe.rfl;simp[inv70,List.replicate,am]
        · rintro⟨i,hi,ha⟩;simp only[inv70,List.replicate,am];refine vcIf_split ?_ ?_
          · intro hlt;have hlt:i<s.length:=by simpa using hlt
            simp only[am];refine idxSL_intro (by omega) (str_at hlt) ?_;simp only[am];refine cl (goes_calls s[i].toNat σ) ?_;cases hg:goesZ (s[i].toNat:Nat)
            · have hg' : goesB s[i]=false:=hg;simp only[am];refine retK_intro rfl (Store.sub_refl _) ⟨?_,rfl⟩;have:s.all goesB=false:=by
                rw[List.all_eq_false];exact⟨s[i],List.getElem_mem hlt,by simp[hg']⟩
              simp[V.erase,hl,this]
            · simp only[am];rw[wrap_i64 (by omega) (by omega)];refine Upd.again ⟨i+1,by omega,?_⟩ (by simp;omega) (by simp[am]) LLLe.rfl OLe.rfl;rw[all_take_succ hlt,ha];exact hg
          · intro hlt;have hlt:i=s.length:=by simp at hlt;omega
            subst hlt;rw[List.take_length] at ha;simp only[am];refine retS ?_;simp[V.erase,hl,hb',ha]
    · have e:decide ((16:Int)<s.length)=true:=by simp;omega
      simp only[am,e];refine retS ?_;simp[V.erase,nameR,h16]
end Go.Proofs.Tryd

namespace Go.Proofs.Tryd
open Go.Am
set_option maxRecDepth 4000
set_option maxHeartbeats 4000000
def ac58:AC:=.seq (.reg [⟨(some 2),.mv (.c (.bool false)),none⟩])
 (.seq (.seq (.reg [xm 5 0,xL 6 5,xB .lss 7 6 1,xm 8 7,xh 8 (xm 9 0),xh 8 (xL 10 9),xh 8 (xB .gtr 11 10 64),⟨(some 12),.pick (.s 8) (.c (.bool true)) (.s 11),none⟩,xm 13 12,xh 13 (xm 14 0),xh 13 (xc 73 15 [.s 14]),xh 13 (xB .geq 16 15 0),⟨(some 17),.pick (.s 13) (.c (.bool true)) (.s 16),none⟩])
 (.cond (.s 17) (.seq (.reg [⟨(some 2),.mv (.c (.bool false)),none⟩])
 (.ret))
 (.skip)))
 (.seq (.seq (.reg [xm 18 0,xL 19 18,xi 20 0])
 (.block 0 (.loop (.seq (.reg [xb .lss 21 20 19])
 (.seq (.cond (.s 21) (.skip)
 (.exit 0))
 (.seq (.block 1 (.seq (.reg [xA 1 22 18 20,xo 23 22,xm 4 23])
 (.seq (.reg [xm 24 4,xc 33 25 [.s 24],⟨(some 26),.not (.s 25),none⟩])
 (.cond (.s 26) (.seq (.reg [⟨(some 2),.mv (.c (.bool false)),none⟩])
 (.ret))
 (.skip)))))
 (.reg [xB .add 27 20 1,xm 20 27])))))))
 (.seq (.reg [⟨(some 2),.mv (.c (.bool true)),none⟩])
 (.ret))))
theorem fn58:IsFn prog 58 ac58 [.tmp 2] 28:=⟨f58,⟨[],[],[]⟩,func58,by kernel_rfl,by kernel_rfl,by kernel_rfl,by kernel_rfl⟩
def ac62:AC:=.seq (.reg [⟨(some 2),.boxO 1 (.s 0),none⟩,⟨(some 3),.boxO 1 (.s 1),none⟩,xi 4 0])
 (.seq (.reg [xo 5 2,xL 6 5,⟨(some 7),.mkfn (.func 79) [] [(.s 2),(.s 3)],none⟩,xc 78 8 [.c (.int .i64 0),.s 6,.s 7],xm 4 8])
 (.ret))
theorem fn62:IsFn prog 62 ac62 [.tmp 4] 9:=⟨f62,⟨[2,3],[],[]⟩,func62,by kernel_rfl,by kernel_rfl,by kernel_rfl,by kernel_rfl⟩
def ac73:AC:=.seq (.reg [⟨(some 1),.boxO 1 (.s 0),none⟩,xi 2 0])
 (.seq (.reg [xo 3 1,xL 4 3,⟨(some 5),.mkfn (.func 90) [] [(.s 1)],none⟩,xc 78 6 [.c (.int .i64 0),.s 4,.s 5],xm 2 6])
 (.ret))
theorem fn73:IsFn prog 73 ac73 [.tmp 2] 7:=⟨f73,⟨[1],[],[]⟩,func73,by kernel_rfl,by kernel_rfl,by kernel_rfl,by kernel_rfl⟩
def ac78:AC:=.seq (.reg [xi 6 0])
 (.seq (.seq (.reg [xm 8 0,xm 7 8])
 (.block 0 (.loop (.seq (.seq (.reg [xm 9 7,xm 10 1,xb .lss 11 9 10])
 (.cond (.s 11) (.skip)
 (.exit 0)))
 (.seq (.block 1 (.seq (.reg [xm 14 2,xm 15 7,⟨(some 16),.callv (.s 14) [(.s 15)],none⟩])
 (.cond (.s 16) (.seq (.reg [xm 17 7,xm 6 17])
 (.ret))
 (.skip))))
 (.reg [xm 12 7,xB .add 13 12 1,xm 7 13]))))))
 (.seq (.reg [xi 6 (-1)])
 (.ret)))
theorem fn78:IsFn prog 78 ac78 [.tmp 6] 18:=⟨f78,⟨[],[],[]⟩,func78,by kernel_rfl,by kernel_rfl,by kernel_rfl,by kernel_rfl⟩
def ac79:AC:=.seq (.reg [⟨(some 4),.mv (.c (.bool false)),none⟩])
 (.seq (.draw [(xo 5 1,[]),(xm 6 0,[]),(xA 1 7 5 6,[]),(xo 8 7,[]),(xo 9 2,[]),(⟨(some 10),.binS .eql (.s 8) (.s 9),none⟩,[]),(xm 4 10,[])])
 (.ret))
theorem fn79:IsFn prog 79 ac79 [.tmp 4] 11:=⟨f79,⟨[],[],[]⟩,func79,by kernel_rfl,by kernel_rfl,by kernel_rfl,by kernel_rfl⟩
def ac90:AC:=.seq (.reg [⟨(some 3),.mv (.c (.bool false)),none⟩])
 (.seq (.draw [(xo 4 1,[]),(xm 5 0,[]),(⟨(some 6),.slc 1 (.s 4) none (some (.s 5)) none,none⟩,[]),(xo 7 1,[]),(xm 8 0,[]),(xA 1 9 7 8,[]),(xo 10 9,[]),(xc 62 11 [.s 6,.s 10],[]),(xB .geq 12 11 0,[]),(xm 3 12,[])])
 (.ret))
theorem fn90:IsFn prog 90 ac90 [.tmp 3] 13:=⟨f90,⟨[],[],[]⟩,func90,by kernel_rfl,by kernel_rfl,by kernel_rfl,by kernel_rfl⟩
theorem place_calls (n:Nat) (hn:n≤100000) (f:FuncId) (cap:List V) (hc:nolL cap=true) (p:Nat→Bool) (σ:Store) (h:∀i,i<n→PCalls prog f (.int .i64 (i:Nat)::cap) σ fun v σ' => v = .bool (p i)∧σ' = σ) :
    PCalls prog 78 [.int .i64 0,.int .i64 (n:Nat),.fn (.func f) [] cap] σ fun v σ' => v = .int .i64 (optI ((List.range n).find? p))∧σ' = σ:=by
  refine fn78.calls ?_;simp only[slots,ac78,am,ams,Nat.reduceAdd];obtain⟨F,hF⟩:∃F:Nat→Unit→St,∀i x,F i x=⟨[.any,.int .i64 (n:Nat),.fn (.func f) [] cap,.any,.any,.any,.any,.int .i64 (i:Nat)]++List.replicate 10 .any,[],σ⟩:=⟨_,fun _ _=>rfl⟩;obtain⟨JF,hJF⟩:∃JF:Nat→Unit→Prop,∀i x,JF i x=(∀k,k<i→p k=false):=⟨_,fun _ _=>rfl⟩;refine vc_count (n) F JF _ hJF ?_ ?_ ?_
  · refine ent (()) ?_ ?_ ?_ ?_
    · exact Eq.mpr (hJF _ _) (by intro k h;omega)
    all_goals simp[hF,List.replicate,am,lle_self]
  · rintro i x hi hJ;simp only[hF,List.replicate,am,dlt hi,hc];refine(h i hi).mono ?_;rintro v σ' ⟨rfl,rfl⟩;cases hb:p i with
    | false =>
      simp only[am,aml,winc hi (by omega)];refine nxt (()) hi ?_ ?_ ?_ ?_
      · exact Eq.mpr (hJF _ _) (allS hJ hb)
      all_goals simp[hF,List.replicate,am,lle_self]
    | true =>
      have e:=find_at hi hJ hb;simp only[am,aml];refine retS ?_;simp[V.erase,e,optI]
  · rintro x hJ;have e:=find_no hJ;simp only[hF,List.replicate,am,aml,dnl,aml];refine retS ?_;simp[V.erase,e,optI]
theorem find1_calls (l:List (List UInt8)) (s:List UInt8) (i b1 b2:Nat) {σ:Store} (hi:i<l.length) (h1:σ.box b1=some [.sl .no 1 (sCells l)]) (h2:σ.box b2=some [.str s]) :
    PCalls prog 79 [.int .i64 (i:Nat),.ptr (.out b1) 0,.ptr (.out b2) 0] σ fun v σ' => v = .bool (decide (l.getD i []=s))∧σ' = σ:=by
  refine fn79.calls ?_;simp only[slots,ac79,am,ams,Nat.reduceAdd];simp only[am,h1];refine idxL_intro (by omega) (sCells_at hi) ?_;simp only[am,h2];refine retS ?_;simp[V.erase]
theorem find_calls (l:List (List UInt8)) (s:List UInt8) (σ:Store) (hl:l.length≤100000):PCalls prog 62 [.sl .no 1 (sCells l),.str s] σ fun v σ' => v = .int .i64 (optI (findS l s))∧σ' = σ:=by
  refine fn62.calls ?_;simp only[slots,ac62,am,ams,Nat.reduceAdd];refine kO_intro fun b1 hb1=>?_
  simp only[am];refine kO_intro fun b2 hb2=>?_
  have hne:b1≠b2:=by rintro rfl;rw[set_box] at hb2;simp at hb2
  have hs:=Store.subT (sub_set (cs:=[.sl .no 1 (sCells l)]) hb1) (sub_set (cs:=[.str s]) hb2);have e1:((σ.set b1 [.sl .no 1 (sCells l)]).set b2 [.str s]).box b1=some [.sl .no 1 (sCells l)]:=by rw[set_box_ne hne,set_box]
  generalize hσ:(σ.set b1 [V.sl .no 1 (sCells l)]).set b2 [V.str s]=σ1 at hs e1;have e2:σ1.box b2=some [.str s]:=by rw[←hσ,set_box]
  simp only[am,sCells_len,e1];refine(place_calls l.length hl _ _ rfl (fun i=>decide (l.getD i []=s)) σ1 fun i hi=>find1_calls l s i b1 b2 hi e1 e2).mono ?_;rintro v σ1 ⟨rfl,rfl⟩;simp only[am];exact retK_intro rfl hs ⟨rfl,rfl⟩
theorem twice1_calls (l:List (List UInt8)) (i b1:Nat) {σ:Store} (hl:l.length≤100000) (hi:i<l.length) (h1:σ.box b1=some [.sl .no 1 (sCells l)]) :
    PCalls prog 90 [.int .i64 (i:Nat),.ptr (.out b1) 0] σ fun v σ' => v = .bool (findS (l.take i) (l.getD i [])).isSome∧σ' = σ:=by
  refine fn90.calls ?_;simp only[slots,ac90,am,ams,Nat.reduceAdd];simp only[am,amc,h1];refine slcL_to (b:=i) (by rw[sCells_len];omega) ?_;simp only[am,h1];refine idxL_intro (by omega) (sCells_at hi) ?_;rw[sCells_take];simp only[am];refine CallD.intro (find_calls (l.take i) (l.getD i []) σ (by rw[List.length_take];omega)) ?_;simp only[am,optI_nn];refine retS ?_;simp[V.erase]
theorem twice_calls (l:List (List UInt8)) (σ:Store) (hl:l.length≤100000):PCalls prog 73 [.sl .no 1 (sCells l)] σ fun v σ' => v = .int .i64 (optI (twiceS l))∧σ' = σ:=by
  refine fn73.calls ?_;simp only[slots,ac73,am,ams];refine kO_intro fun b1 hb1=>?_
  simp only[am,sCells_len];refine(place_calls l.length hl _ _ rfl (fun i=>(findS (l.take i) (l.getD i [])).isSome) _ fun i hi=>twice1_calls l i b1 hl hi set_box).mono ?_;rintro v σ1 ⟨rfl,rfl⟩;simp only[am];exact retK_intro rfl (sub_set hb1) ⟨rfl,rfl⟩
theorem named_calls (l:List (List UInt8)) (σ:Store) (hl:l.length≤100000):PCalls prog 58 [.sl .no 1 (sCells l)] σ fun v σ' => v = .bool (namedS l)∧σ' = σ:=by
  refine fn58.calls ?_;simp only[slots,ac58,am,ams,sCells_len]
  by_cases h1:l.length<1
  · simp only[am,decide_eq_true (show (l.length:Int)<1 by omega)];refine retS ?_;simp[V.erase,namedS];omega
  · simp only[am,sCells_len,decide_eq_false (show ¬(l.length:Int)<1 by omega)]
    by_cases h2:64<l.length
    · simp only[am,decide_eq_true (show (64:Int)<l.length by omega)];refine retS ?_;simp[V.erase,namedS];omega
    · simp only[am,decide_eq_false (show ¬(64:Int)<l.length by omega)];refine cl (twice_calls l σ hl) ?_;simp only[am,optI_nn];cases ht:twiceS l with
      | some k =>
        simp only[am,Option.isSome_some];refine retS ?_;simp[V.erase,namedS,ht]
      | none =>
        simp only[am,sCells_len,Option.isSome_none];obtain⟨F,hF⟩:∃F:Nat→Unit→St,∀i x,F i x=⟨[.any,.any,.any,.any,.any,.any,.any,.any,.any,.any,.any,.any,.any,.any,.any,.any,.any,.any,.sl .no 1 (sCells l),.int .i64 (l.length:Nat),.int .i64 (i:Nat)]++List.replicate 7 .any,[],σ⟩:=⟨_,fun _ _=>rfl⟩;obtain⟨JF,hJF⟩:∃JF:Nat→Unit→Prop,∀i x,JF i x=(∀k,k<i→nameR (l.getD k [])=true):=⟨_,fun _ _=>rfl⟩;refine vc_count (l.length) F JF _ hJF ?_ ?_ ?_
        · refine ent (()) ?_ ?_ ?_ ?_
          · exact Eq.mpr (hJF _ _) (by intro k h;omega)
          all_goals simp[hF,List.replicate,am,lle_self]
        · rintro i x hi hJ;simp only[hF,List.replicate,am,dlt hi];refine idxL_intro (by omega) (sCells_at hi) ?_;simp only[am];refine cl (right_calls _ σ) ?_;simp only[am];cases hb:nameR (l.getD i []) with
          | false =>
            have e:namedS l=false:=by
              cases hq:namedS l with
              | false=>rfl
              | true =>
                simp only[namedS,Bool.and_eq_true,List.all_eq_true] at hq;have hm:l.getD i []∈l:=by rw[getD_at hi];exact List.getElem_mem hi
                rw[hq.2 _ hm] at hb;simp at hb
            simp only[am,aml];refine retS ?_;simp[V.erase,e]
          | true =>
            simp only[am,aml,winc hi (by omega)];refine nxt (()) hi ?_ ?_ ?_ ?_
            · exact Eq.mpr (hJF _ _) (allS hJ hb)
            all_goals simp[hF,List.replicate,am,lle_self]
        · rintro x hJ;have e:namedS l=true:=by
            simp only[namedS,ht,Bool.and_eq_true,List.all_eq_true,decide_eq_true_eq,Option.isNone_none,and_true];refine⟨by omega,fun s hs=>?_⟩;obtain⟨k,hk,rfl⟩:=List.mem_iff_getElem.1 hs;have:=hJ k hk
            rwa [getD_at hk] at this
          simp only[hF,List.replicate,am,aml,dnl,aml];refine retS ?_;simp[V.erase,e]
end Go.Proofs.Tryd

namespace Go.Proofs.Tryd
open Go.Am
set_option maxRecDepth 4000
set_option maxHeartbeats 4000000
def ac20:AC:=.seq (.reg [⟨(some 3),.box 2 (.s 0),none⟩,⟨(some 4),.box 8 (.s 1),none⟩,⟨(some 5),.box 8 (.s 2),none⟩,⟨(some 6),.alloc elmZ,none⟩])
 (.seq (.seq (.reg [xi 8 0])
 (.block 0 (.loop (.seq (.reg [xB .lss 9 8 8])
 (.seq (.cond (.s 9) (.skip)
 (.exit 0))
 (.seq (.block 1 (.seq (.reg [xm 10 8,xm 7 10])
 (.seq (.seq (.reg [xm 11 7,xf 1 12 3,xo 13 12,xL 14 13,xb .lss 15 11 14,xm 16 15,xg 16 (xf 1 17 3),xg 16 (xo 18 17),xg 16 (xm 19 7),xg 16 (xA 67 20 18 19),xg 16 (xf 0 21 20),xg 16 (xo 22 21),xg 16 (xB .eql 23 22 4),⟨(some 24),.pick (.s 16) (.s 23) (.c (.bool false)),none⟩])
 (.cond (.s 24) (.seq (.draw [(xm 25 7,[]),(xf 1 26 3,[]),(xo 27 26,[]),(xm 28 7,[]),(xA 67 29 27 28,[]),(xf 2 30 29,[]),(xl 65 31 30,[]),(xm 32 7,[]),(⟨(some 33),.idxP 8 1 (.s 4) (.s 32),none⟩,[]),(xo 34 33,[]),(xm 35 7,[]),(⟨(some 36),.idxP 8 1 (.s 5) (.s 35),none⟩,[]),(xo 37 36,[]),(xc 29 38 [.s 31,.s 34,.s 37],[]),(⟨(some 39),.idxP 8 1 (.s 4) (.s 25),none⟩,[]),(xs 1 39 38,[])])
 (.exit 1))
 (.skip)))
 (.draw [(xm 40 7,[]),(⟨(some 41),.idxP 8 1 (.s 4) (.s 40),none⟩,[]),(xo 42 41,[]),(xm 43 7,[]),(⟨(some 44),.idxP 8 1 (.s 5) (.s 43),none⟩,[]),(xo 45 44,[]),(xb .or 46 42 45,[]),(⟨(some 47),.idxP 8 1 (.s 4) (.s 40),none⟩,[]),(xs 1 47 46,[])]))))
 (.reg [xB .add 48 8 1,xm 8 48])))))))
 (.seq (.reg [xl 8 49 4,xs 8 6 49])
 (.ret)))
theorem fn20:IsFn prog 20 ac20 [.cell 6 true 8] 50:=⟨f20,⟨[],[],[]⟩,func20,by kernel_rfl,by kernel_rfl,by kernel_rfl,by kernel_rfl⟩
def ac21:AC:=.seq (.reg [⟨(some 2),.box 8 (.s 0),none⟩,⟨(some 3),.box 8 (.s 1),none⟩,⟨(some 4),.alloc elmZ,none⟩])
 (.seq (.seq (.reg [xi 6 0])
 (.block 0 (.loop (.seq (.reg [xB .lss 7 6 8])
 (.seq (.cond (.s 7) (.skip)
 (.exit 0))
 (.seq (.block 1 (.seq (.reg [xm 8 6,xm 5 8])
 (.draw [(xm 9 5,[]),(⟨(some 10),.idxP 8 1 (.s 2) (.s 9),none⟩,[]),(xo 11 10,[]),(xm 12 5,[]),(⟨(some 13),.idxP 8 1 (.s 3) (.s 12),none⟩,[]),(xo 14 13,[]),(xb .and 15 11 14,[]),(⟨(some 16),.idxP 8 1 (.s 2) (.s 9),none⟩,[]),(xs 1 16 15,[])])))
 (.reg [xB .add 17 6 1,xm 6 17])))))))
 (.seq (.reg [xl 8 18 2,xs 8 4 18])
 (.ret)))
theorem fn21:IsFn prog 21 ac21 [.cell 4 true 8] 19:=⟨f21,⟨[],[],[]⟩,func21,by kernel_rfl,by kernel_rfl,by kernel_rfl,by kernel_rfl⟩
def ac38:AC:=.seq (.reg [⟨(some 1),.box 2 (.s 0),none⟩,⟨(some 2),.mv (.c (.bool false)),none⟩])
 (.seq (.reg [xf 1 6 1,xo 7 6,xL 8 7,xm 3 8])
 (.seq (.seq (.reg [xm 9 3,xB .lss 10 9 1,xm 11 10,xh 11 (xm 12 3),xh 11 (xB .gtr 13 12 8),⟨(some 14),.pick (.s 11) (.c (.bool true)) (.s 13),none⟩,xm 15 14,xh 15 (xf 0 16 1),xh 15 (xo 17 16),⟨(some 18),.not (.s 17),(some (15,false))⟩,xh 15 (xm 19 18),xg 19 (xm 20 3),xg 19 (xB .neq 21 20 1),⟨(some 22),.pick (.s 19) (.s 21) (.c (.bool false)),(some (15,false))⟩,⟨(some 23),.pick (.s 15) (.c (.bool true)) (.s 22),none⟩])
 (.cond (.s 23) (.seq (.reg [⟨(some 2),.mv (.c (.bool false)),none⟩])
 (.ret))
 (.skip)))
 (.seq (.seq (.reg [xf 1 24 1,xo 25 24,xL 26 25,xi 27 0])
 (.block 0 (.loop (.seq (.reg [xb .lss 28 27 26])
 (.seq (.cond (.s 28) (.skip)
 (.exit 0))
 (.seq (.block 1 (.seq (.reg [xA 67 29 25 27,xl 67 30 29,⟨(some 5),.alloc facZ,none⟩,xs 67 5 30])
 (.seq (.reg [xl 67 31 5,xc 48 32 [.s 31],⟨(some 33),.not (.s 32),none⟩])
 (.cond (.s 33) (.seq (.reg [⟨(some 2),.mv (.c (.bool false)),none⟩])
 (.ret))
 (.skip)))))
 (.reg [xB .add 34 27 1,xm 27 34])))))))
 (.seq (.reg [⟨(some 2),.mv (.c (.bool true)),none⟩])
 (.ret)))))
theorem fn38:IsFn prog 38 ac38 [.tmp 2] 35:=⟨f38,⟨[],[],[]⟩,func38,by kernel_rfl,by kernel_rfl,by kernel_rfl,by kernel_rfl⟩
def ac48:AC:=.seq (.reg [⟨(some 1),.box 67 (.s 0),none⟩,⟨(some 2),.mv (.c (.bool false)),none⟩])
 (.seq (.seq (.reg [xf 1 3 1,xo 4 3,xc 58 5 [.s 4],⟨(some 6),.not (.s 5),none⟩])
 (.cond (.s 6) (.seq (.reg [⟨(some 2),.mv (.c (.bool false)),none⟩])
 (.ret))
 (.skip)))
 (.seq (.seq (.reg [xf 0 7 1,xo 8 7])
 (.block 0 (.seq (.seq (.reg [xB .eql 10 8 1,xm 9 10])
 (.cond (.s 9) (.skip)
 (.reg [xB .eql 11 8 2,xm 9 11])))
 (.cond (.s 9) (.seq (.reg [xf 2 12 1,xl 65 13 12,⟨(some 14),.build relZ [],none⟩,xc 59 15 [.s 13,.s 14],xm 2 15])
 (.ret))
 (.seq (.reg [xB .eql 17 8 3,xm 16 17])
 (.cond (.s 16) (.seq (.reg [xf 2 18 1,xf 0 19 18,xo 20 19,xf 1 21 1,xo 22 21,xL 23 22,xb .eql 24 20 23,xm 25 24,xg 25 (xf 2 26 1),xg 25 (xl 65 27 26),xg 25 (xc 60 28 [.s 27]),⟨(some 29),.pick (.s 25) (.s 28) (.c (.bool false)),none⟩,xm 2 29])
 (.ret))
 (.seq (.reg [xB .eql 31 8 4,xm 30 31])
 (.cond (.s 30) (.seq (.reg [xf 2 32 1,xf 0 33 32,xo 34 33,xf 1 35 1,xo 36 35,xL 37 36,xb .eql 38 34 37,xm 39 38,xg 39 (xf 2 40 1),xg 39 (xl 65 41 40),xg 39 (xc 61 42 [.s 41]),⟨(some 43),.pick (.s 39) (.s 42) (.c (.bool false)),none⟩,xm 2 43])
 (.ret))
 (.skip)))))))))
 (.seq (.reg [⟨(some 2),.mv (.c (.bool false)),none⟩])
 (.ret))))
theorem fn48:IsFn prog 48 ac48 [.tmp 2] 44:=⟨f48,⟨[],[],[]⟩,func48,by kernel_rfl,by kernel_rfl,by kernel_rfl,by kernel_rfl⟩
def z16_:=And.intro @am <| And.intro @ams <| And.intro @Rl.rec_ @Fct.rec_
theorem factor_calls (f:Fct) {σ:Store} (hg:TZ σ) (hl:f.names.length≤100000):PCalls prog 48 [.agg f.enc] σ fun v σ' => v = .bool (facR f)∧σ' = σ:=by
  refine fn48.calls ?_;simp only[slots,ac48,z16_];refine cl (named_calls f.names σ hl) ?_;cases hn:namedS f.names with
  | false =>
    simp only[am];refine retS ?_;simp[V.erase,facR,hn]
  | true =>
    simp only[am,Fct.rec_]
    by_cases h1:f.kind=1
    · simp only[am,Rl.rec_,Fct.rec_,decide_eq_true h1];refine cl (same_calls f.rel Rl.zero σ) ?_;simp only[am,plain_zero];refine retS ?_;simp[V.erase,facR,hn,h1]
    · simp only[am,decide_eq_false h1]
      by_cases h2:f.kind=2
      · simp only[am,Rl.rec_,Fct.rec_,decide_eq_true h2];refine cl (same_calls f.rel Rl.zero σ) ?_;simp only[am,plain_zero];refine retS ?_;simp[V.erase,facR,hn,h2]
      · simp only[am,decide_eq_false h2]
        by_cases h3:f.kind=3
        · simp only[am,Fct.rec_,sCells_len,decide_eq_true h3]
          by_cases h4:f.rel.n=f.names.length
          · simp only[am,Rl.rec_,Fct.rec_,decide_eq_true h4];refine cl (gright_calls f.rel σ) ?_;simp only[am];refine retS ?_;simp[V.erase,facR,hn,h3,h4]
          · simp only[am,decide_eq_false h4];refine retS ?_;simp[V.erase,facR,hn,h3,h4]
        · simp only[am,decide_eq_false h3]
          by_cases h5:f.kind=4
          · simp only[am,Fct.rec_,sCells_len,decide_eq_true h5]
            by_cases h4:f.rel.n=f.names.length
            · simp only[am,Rl.rec_,Fct.rec_,decide_eq_true h4];refine cl (lattice_calls f.rel hg) ?_;simp only[am];refine retS ?_;simp[V.erase,facR,hn,h5,h4]
            · simp only[am,decide_eq_false h4];refine retS ?_;simp[V.erase,facR,hn,h5,h4]
          · simp only[am,decide_eq_false h5];refine retS ?_;simp[V.erase,facR,hn,h1,h2,h3,h5]
theorem facs_at {l:List Fct} {j:Nat} (h:j<l.length):(l.map Fct.enc)[((j:Nat):Int).toNat]?=some l[j].enc:=by simp[h]
theorem shpR_bad {s:Shp} {i:Nat} (hi:i<s.facs.length) (h:facR s.facs[i]=false):shpR s=false:=by
  cases hq:shpR s with
  | false=>rfl
  | true =>
    simp only[shpR,Bool.and_eq_true,List.all_eq_true] at hq;rw[hq.2 _ (List.getElem_mem hi)] at h;simp at h
theorem shpR_ok {s:Shp} (h1:1≤s.facs.length) (h2:s.facs.length≤8) (h3:s.tuple=true∨s.facs.length=1) (h:∀k (hk:k<s.facs.length),facR s.facs[k]=true):shpR s=true:=by
  simp only[shpR,Bool.and_eq_true,List.all_eq_true,decide_eq_true_eq,Bool.or_eq_true];refine⟨⟨⟨h1,h2⟩,h3⟩,fun f hf=>?_⟩;obtain⟨k,hk,rfl⟩:=List.mem_iff_getElem.1 hf;exact h k hk
theorem shright_calls (s:Shp) {σ:Store} (hg:TZ σ) (hok:s.ok):PCalls prog 38 [.agg s.enc] σ fun v σ' => v = .bool (shpR s)∧σ' = σ:=by
  refine fn38.calls ?_;simp only[slots,ac38,am,ams,Shp.rec_,List.length_map]
  by_cases h1:s.facs.length<1
  · simp only[am,decide_eq_true (show (s.facs.length:Int)<1 by omega)];refine retS ?_;simp[V.erase,shpR];omega
  · simp only[am,decide_eq_false (show ¬(s.facs.length:Int)<1 by omega)]
    by_cases h2:8<s.facs.length
    · simp only[am,decide_eq_true (show (8:Int)<s.facs.length by omega)];refine retS ?_;simp[V.erase,shpR];omega
    · simp only[am,Shp.rec_,decide_eq_false (show ¬(8:Int)<s.facs.length by omega)];have h3:(∃t,s.tuple=t∧(t=true∨s.facs.length=1))∨(s.tuple=false∧s.facs.length≠1):=by
        cases ht:s.tuple with
        | true=>exact .inl ⟨true,rfl,.inl rfl⟩
        | false =>
          by_cases hl:s.facs.length=1
          · exact .inl ⟨false,rfl,.inr hl⟩
          · exact .inr ⟨rfl,hl⟩
      rcases h3 with ⟨t,ht,h3⟩ | ⟨ht,h3⟩
      · cases t
        case' false =>
          have h3:s.facs.length=1:=by simpa using h3
          simp only[am,List.length_map,Shp.rec_,List.length_map,ht,decide_eq_true (show (s.facs.length:Int)=1 by omega)]
        case' true=>simp only[am,List.length_map,Shp.rec_,List.length_map,ht]
        all_goals
          obtain⟨F,hF⟩:∃F:Nat→Unit→St,∀i x,F i x=⟨[.any,.ptr (.loc 0) 0,.bool false,.any,.any,.any,.any,.any,.any,.any,.any,.any,.any,.any,.any,.any,.any,.any,.any,.any,.any,.any,.any,.any,.any,.sl .no 67 (s.facs.map Fct.enc),.int .i64 (s.facs.length:Nat),.int .i64 (i:Nat)]++List.replicate 7 .any,[s.enc],σ⟩:=⟨_,fun _ _=>rfl⟩;obtain⟨JF,hJF⟩:∃JF:Nat→Unit→Prop,∀i x,JF i x=(∀k,k<i→∀hk:k<s.facs.length,facR s.facs[k]=true):=⟨_,fun _ _=>rfl⟩;refine vc_count (s.facs.length) F JF _ hJF ?_ ?_ ?_
          · refine ent (()) ?_ ?_ ?_ ?_
            · exact Eq.mpr (hJF _ _) (by intro k h;omega)
            all_goals simp[hF,List.replicate,am,lle_self]
          · rintro i x hi hJ;simp only[hF,List.replicate,am,dlt hi];refine idxL_intro (by omega) (facs_at hi) ?_;simp only[am,Fct.rec_];refine cl (factor_calls s.facs[i] hg (hok.2 _ (List.getElem_mem hi))) ?_;cases hb:facR s.facs[i] with
            | false =>
              simp only[am,aml];refine retS ?_;simp[V.erase,shpR_bad hi hb]
            | true =>
              simp only[am,aml,winc hi (by omega)];refine nxtD (()) hi ?_ ?_ ?_ ?_ ?_ ?_
              · exact Eq.mpr (hJF _ _) (allS hJ (fun _=>hb))
              all_goals simp[hF,List.replicate,am,lle_self,loL,loLL,V.lo,Shp.r_lo]
          · rintro x hJ;have e:=shpR_ok (s:=s) (by omega) (by omega) (by first | exact .inr h3 | exact .inl ht) fun k hk=>hJ k hk hk
            simp only[hF,List.replicate,am,aml,dnl,aml];refine retS ?_;simp[V.erase,e]
      · have e:shpR s=false:=by simp[shpR,ht,h3]
        simp only[am,ht,decide_eq_false (show ¬(s.facs.length:Int)=1 by omega)];refine retS ?_;simp[V.erase,e]
theorem meetE_fill {a b:Elm} {i:Nat} (hi:i<8):(Elm.of fun j=>if j<i then a.get j&&&b.get j else a.get j).put i (a.get i&&&b.get i)=Elm.of fun j=>if j<i+1 then a.get j&&&b.get j else a.get j:=Elm.fill2 (f:=fun j=>a.get j&&&b.get j) (g:=a.get)
theorem fill2_get {i:Nat} {f g:Nat→B64} (hi:i<8):(Elm.of fun j=>if j<i then f j else g j).get i=g i:=by rw[Elm.get_of hi,if_neg (Nat.lt_irrefl _)]
def z17_:=And.intro @am <| And.intro @amc <| And.intro @w_and <| And.intro @Int.toNat_natCast @Nat.mul_one
theorem meet_calls7 (a b:Elm) (σ:Store):PCalls prog 21 [.agg a.enc,.agg b.enc] σ fun v σ' => v = .agg (meetE a b).enc∧σ' = σ:=by
  refine fn21.calls ?_;simp only[slots,ac21,am,ams,Nat.reduceAdd,Elm.rec_];obtain⟨F,hF⟩:∃F:Nat→Unit→St,∀i x,F i x=⟨[.any,.any,.ptr (.loc 0) 0,.ptr (.loc 1) 0,.ptr (.loc 2) 0,.any,.int .i64 (i:Nat)]++List.replicate 12 .any,[(Elm.of fun j=>if j<i then a.get j&&&b.get j else a.get j).enc,b.enc,Elm.zero.enc],σ⟩:=⟨_,fun _ _=>rfl⟩;obtain⟨JF,hJF⟩:∃JF:Nat→Unit→Prop,∀i x,JF i x=(True):=⟨_,fun _ _=>rfl⟩;refine vc_count (8) F JF _ hJF ?_ ?_ ?_
  · refine ent (()) ?_ ?_ ?_ ?_
    · exact Eq.mpr (hJF _ _) (trivial)
    all_goals simp[hF,List.replicate,am,lle_self,Elm.of_get]
  · rintro i x hi -;simp only[hF,List.replicate,am,amc,show decide ((i:Int)<8)=true from dlt hi];refine idxPL_ptr (by omega) (by omega) ?_;simp only[z9_,Elm.u_ld hi,fill2_get hi];refine idxPL_ptr (by omega) (by omega) ?_;simp only[z17_,Elm.u_ld hi];refine idxPL_ptr (by omega) (by omega) ?_;simp only[z8_,Elm.u_has hi,Elm.u_st hi,meetE_fill hi,winc hi (by omega)];refine nxt (()) hi ?_ ?_ ?_ ?_
    · exact Eq.mpr (hJF _ _) (trivial)
    all_goals simp[hF,List.replicate,am,lle_self]
  · rintro x -;simp only[hF,List.replicate,am,aml,aml,Elm.rec_,show decide (((8:Nat):Int)<8)=false from rfl];rw[Elm.full];exact retK_intro (v:=.agg (meetE a b).enc) Elm.r_nol (Store.sub_refl _) ⟨by simp only[V.erase,Elm.r_er],rfl⟩
def z18_:=And.intro @am <| And.intro @ams <| And.intro @Shp.rec_ @Elm.rec_
def z19_:=And.intro @am <| And.intro @aml <| And.intro @Elm.rec_ <| And.intro @Int.toNat_natCast @Nat.mul_one
theorem join_calls7 (s:Shp) (a b:Elm) {σ:Store} (hg:TZ σ) (hok:s.ok):PCalls prog 20 [.agg s.enc,.agg a.enc,.agg b.enc] σ fun v σ' => v = .agg (joinE s a b).enc∧σ' = σ:=by
  refine fn20.calls ?_;simp only[slots,ac20,z18_,Nat.reduceAdd];obtain⟨F,hF⟩:∃F:Nat→Unit→St,∀i x,F i x=⟨[.any,.any,.any,.ptr (.loc 0) 0,.ptr (.loc 1) 0,.ptr (.loc 2) 0,.ptr (.loc 3) 0,.any,.int .i64 (i:Nat)]++List.replicate 41 .any,[s.enc,(Elm.of fun j=>if j<i then joinF s a b j else a.get j).enc,b.enc,Elm.zero.enc],σ⟩:=⟨_,fun _ _=>rfl⟩;obtain⟨JF,hJF⟩:∃JF:Nat→Unit→Prop,∀i x,JF i x=(True):=⟨_,fun _ _=>rfl⟩;refine vc_count (8) F JF _ hJF ?_ ?_ ?_
  · refine ent (()) ?_ ?_ ?_ ?_
    · exact Eq.mpr (hJF _ _) (trivial)
    all_goals simp[hF,List.replicate,am,lle_self,Elm.of_get]
  · rintro i x hi -;simp only[hF,List.replicate,am,Shp.rec_,List.length_map,show decide ((i:Int)<8)=true from dlt hi]
    by_cases hl:i<s.facs.length
    · simp only[am,Shp.rec_,dlt hl];refine idxL_intro (by omega) (facs_at hl) ?_;simp only[am,Fct.rec_];have hf:s.facs[i]?=some s.facs[i]:=List.getElem?_eq_getElem hl
      by_cases hk:s.facs[i].kind=4
      · have e:raiseH s.facs[i].rel (a.get i) (b.get i)=joinF s a b i:=by simp only[joinF,hf,if_pos hk]
        simp only[am,Shp.rec_,decide_eq_true hk];refine idxL_intro (by omega) (facs_at hl) ?_;simp only[am,amc,Fct.rec_];refine idxPL_ptr (by omega) (by omega) ?_;simp only[z9_,Elm.u_ld hi,fill2_get hi];refine idxPL_ptr (by omega) (by omega) ?_;simp only[z7_,Elm.u_ld hi];refine CallD.intro (raise_calls s.facs[i].rel (a.get i) (b.get i) hg) ?_;simp only[am,amc];refine idxPL_ptr (by omega) (by omega) ?_;simp only[z19_,reduceCtorEq,Elm.u_has hi,Elm.u_st hi,e,Elm.fill2,winc hi (by omega)];refine nxt (()) hi ?_ ?_ ?_ ?_
        · exact Eq.mpr (hJF _ _) (trivial)
        all_goals simp[hF,List.replicate,am,lle_self]
      · have e:a.get i|||b.get i=joinF s a b i:=by simp only[joinF,hf,if_neg hk]
        simp only[am,amc,decide_eq_false hk];refine idxPL_ptr (by omega) (by omega) ?_;simp only[z9_,Elm.u_ld hi,fill2_get hi];refine idxPL_ptr (by omega) (by omega) ?_;simp only[z10_,Elm.u_ld hi];refine idxPL_ptr (by omega) (by omega) ?_;simp only[z8_,Elm.u_has hi,Elm.u_st hi,e,Elm.fill2,winc hi (by omega)];refine nxt (()) hi ?_ ?_ ?_ ?_
        · exact Eq.mpr (hJF _ _) (trivial)
        all_goals simp[hF,List.replicate,am,lle_self]
    · have e:a.get i|||b.get i=joinF s a b i:=by simp only[joinF];rw[List.getElem?_eq_none (by omega)]
      simp only[am,amc,decide_eq_false (show ¬(i:Int)<s.facs.length by omega)];refine idxPL_ptr (by omega) (by omega) ?_;simp only[z9_,Elm.u_ld hi,fill2_get hi];refine idxPL_ptr (by omega) (by omega) ?_;simp only[z10_,Elm.u_ld hi];refine idxPL_ptr (by omega) (by omega) ?_;simp only[z8_,Elm.u_has hi,Elm.u_st hi,e,Elm.fill2,winc hi (by omega)];refine nxt (()) hi ?_ ?_ ?_ ?_
      · exact Eq.mpr (hJF _ _) (trivial)
      all_goals simp[hF,List.replicate,am,lle_self]
  · rintro x -;simp only[hF,List.replicate,am,aml,aml,Elm.rec_,show decide (((8:Nat):Int)<8)=false from rfl];rw[Elm.full];exact retK_intro (v:=.agg (joinE s a b).enc) Elm.r_nol (Store.sub_refl _) ⟨by simp only[V.erase,Elm.r_er,joinE],rfl⟩
end Go.Proofs.Tryd

namespace Go.Proofs.Tryd
open Go.Am
set_option maxRecDepth 4000
set_option maxHeartbeats 4000000
def ac15:AC:=.seq (.reg [⟨(some 3),.box 2 (.s 0),none⟩,⟨(some 4),.box 8 (.s 1),none⟩,⟨(some 5),.box 8 (.s 2),none⟩,⟨(some 6),.alloc elmZ,none⟩])
 (.seq (.reg [⟨(some 7),.alloc elmZ,none⟩])
 (.seq (.seq (.reg [xi 8 0])
 (.block 0 (.loop (.seq (.seq (.reg [xm 9 8,xB .lss 10 9 8])
 (.cond (.s 10) (.skip)
 (.exit 0)))
 (.seq (.block 1 (.seq (.draw [(xm 13 8,[]),(xm 14 8,[]),(⟨(some 15),.idxP 8 1 (.s 4) (.s 14),none⟩,[]),(xo 16 15,[]),(xm 17 8,[]),(⟨(some 18),.idxP 8 1 (.s 5) (.s 17),none⟩,[]),(xo 19 18,[]),(xb .or 20 16 19,[]),(⟨(some 21),.idxP 8 1 (.s 7) (.s 13),none⟩,[]),(xs 1 21 20,[])])
 (.seq (.reg [xm 22 8,xf 1 23 3,xo 24 23,xL 25 24,xb .lss 26 22 25,xm 27 26,xg 27 (xf 1 28 3),xg 27 (xo 29 28),xg 27 (xm 30 8),xg 27 (xA 67 31 29 30),xg 27 (xf 0 32 31),xg 27 (xo 33 32),xg 27 (xB .eql 34 33 4),⟨(some 35),.pick (.s 27) (.s 34) (.c (.bool false)),none⟩])
 (.cond (.s 35) (.draw [(xm 36 8,[]),(xf 1 37 3,[]),(xo 38 37,[]),(xm 39 8,[]),(xA 67 40 38 39,[]),(xf 2 41 40,[]),(xl 65 42 41,[]),(xm 43 8,[]),(⟨(some 44),.idxP 8 1 (.s 4) (.s 43),none⟩,[]),(xo 45 44,[]),(xm 46 8,[]),(⟨(some 47),.idxP 8 1 (.s 5) (.s 46),none⟩,[]),(xo 48 47,[]),(xc 22 49 [.s 42,.s 45,.s 48],[]),(⟨(some 50),.idxP 8 1 (.s 7) (.s 36),none⟩,[]),(xs 1 50 49,[])])
 (.skip)))))
 (.reg [xm 11 8,xB .add 12 11 1,xm 8 12]))))))
 (.seq (.reg [xl 8 51 7,xs 8 6 51])
 (.ret))))
theorem fn15:IsFn prog 15 ac15 [.cell 6 true 8] 52:=⟨f15,⟨[],[],[]⟩,func15,by kernel_rfl,by kernel_rfl,by kernel_rfl,by kernel_rfl⟩
def ac16:AC:=.seq (.reg [⟨(some 2),.box 8 (.s 0),none⟩,⟨(some 3),.box 8 (.s 1),none⟩,⟨(some 4),.alloc elmZ,none⟩])
 (.seq (.reg [⟨(some 5),.alloc elmZ,none⟩])
 (.seq (.seq (.reg [xi 6 0])
 (.block 0 (.loop (.seq (.seq (.reg [xm 7 6,xB .lss 8 7 8])
 (.cond (.s 8) (.skip)
 (.exit 0)))
 (.seq (.block 1 (.draw [(xm 11 6,[]),(xm 12 6,[]),(⟨(some 13),.idxP 8 1 (.s 2) (.s 12),none⟩,[]),(xo 14 13,[]),(xm 15 6,[]),(⟨(some 16),.idxP 8 1 (.s 3) (.s 15),none⟩,[]),(xo 17 16,[]),(xb .and 18 14 17,[]),(⟨(some 19),.idxP 8 1 (.s 5) (.s 11),none⟩,[]),(xs 1 19 18,[])]))
 (.reg [xm 9 6,xB .add 10 9 1,xm 6 10]))))))
 (.seq (.reg [xl 8 20 5,xs 8 4 20])
 (.ret))))
theorem fn16:IsFn prog 16 ac16 [.cell 4 true 8] 21:=⟨f16,⟨[],[],[]⟩,func16,by kernel_rfl,by kernel_rfl,by kernel_rfl,by kernel_rfl⟩
theorem rmeet_calls7 (a b:Elm) (σ:Store):PCalls prog 16 [.agg a.enc,.agg b.enc] σ fun v σ' => v = .agg (meetE a b).enc∧σ' = σ:=by
  refine fn16.calls ?_;simp only[slots,ac16,am,ams,Nat.reduceAdd,Elm.rec_];obtain⟨F,hF⟩:∃F:Nat→Unit→St,∀i x,F i x=⟨[.any,.any,.ptr (.loc 0) 0,.ptr (.loc 1) 0,.ptr (.loc 2) 0,.ptr (.loc 3) 0,.int .i64 (i:Nat)]++List.replicate 14 .any,[a.enc,b.enc,Elm.zero.enc,(Elm.of fun j=>if j<i then a.get j&&&b.get j else 0#64).enc],σ⟩:=⟨_,fun _ _=>rfl⟩;obtain⟨JF,hJF⟩:∃JF:Nat→Unit→Prop,∀i x,JF i x=(True):=⟨_,fun _ _=>rfl⟩;refine vc_count (8) F JF _ hJF ?_ ?_ ?_
  · refine ent (()) ?_ ?_ ?_ ?_
    · exact Eq.mpr (hJF _ _) (trivial)
    all_goals simp[hF,List.replicate,am,lle_self,Elm.zero_of]
  · rintro i x hi -;simp only[hF,List.replicate,am,amc,show decide ((i:Int)<8)=true from dlt hi];refine idxPL_ptr (by omega) (by omega) ?_;simp only[z9_,Elm.u_ld hi];refine idxPL_ptr (by omega) (by omega) ?_;simp only[z17_,Elm.u_ld hi];refine idxPL_ptr (by omega) (by omega) ?_;simp only[z8_,Elm.u_has hi,Elm.u_st hi,winc hi (by omega)];refine nxt (()) hi ?_ ?_ ?_ ?_
    · exact Eq.mpr (hJF _ _) (trivial)
    all_goals simp[hF,List.replicate,am,lle_self,Elm.fill (f:=fun j=>a.get j&&&b.get j)]
  · rintro x -;simp only[hF,List.replicate,am,aml,aml,Elm.rec_,show decide (((8:Nat):Int)<8)=false from rfl];rw[Elm.full];exact retK_intro (v:=.agg (meetE a b).enc) Elm.r_nol (Store.sub_refl _) ⟨by simp only[V.erase,Elm.r_er],rfl⟩
theorem put_put {e:Elm} {i:Nat} {u w:B64}:(e.put i u).put i w=e.put i w:=by
  refine Elm.ext fun k hk=>?_
  rw[Elm.get_put,Elm.get_put,Elm.get_put];split<;>rfl
def z20_:=And.intro @am <| And.intro @Shp.rec_ <| And.intro @Int.toNat_natCast @Nat.mul_one
theorem rjoin_calls7 (s:Shp) (a b:Elm) (σ:Store) (hok:s.ok):PCalls prog 15 [.agg s.enc,.agg a.enc,.agg b.enc] σ fun v σ' => v = .agg (joinE s a b).enc∧σ' = σ:=by
  refine fn15.calls ?_;simp only[slots,ac15,z18_,Nat.reduceAdd];obtain⟨F,hF⟩:∃F:Nat→Unit→St,∀i x,F i x=⟨[.any,.any,.any,.ptr (.loc 0) 0,.ptr (.loc 1) 0,.ptr (.loc 2) 0,.ptr (.loc 3) 0,.ptr (.loc 4) 0,.int .i64 (i:Nat)]++List.replicate 43 .any,[s.enc,a.enc,b.enc,Elm.zero.enc,(Elm.of fun j=>if j<i then joinF s a b j else 0#64).enc],σ⟩:=⟨_,fun _ _=>rfl⟩;obtain⟨JF,hJF⟩:∃JF:Nat→Unit→Prop,∀i x,JF i x=(True):=⟨_,fun _ _=>rfl⟩;refine vc_count (8) F JF _ hJF ?_ ?_ ?_
  · refine ent (()) ?_ ?_ ?_ ?_
    · exact Eq.mpr (hJF _ _) (trivial)
    all_goals simp[hF,List.replicate,am,lle_self,Elm.zero_of]
  · rintro i x hi -;simp only[hF,List.replicate,am,amc,show decide ((i:Int)<8)=true from dlt hi];refine idxPL_ptr (by omega) (by omega) ?_;simp only[z9_,Elm.u_ld hi];refine idxPL_ptr (by omega) (by omega) ?_;simp only[z10_,Elm.u_ld hi];refine idxPL_ptr (by omega) (by omega) ?_;simp only[z20_,List.length_map,Elm.u_has hi,Elm.u_st hi]
    by_cases hl:i<s.facs.length
    · simp only[am,Shp.rec_,dlt hl];refine idxL_intro (by omega) (facs_at hl) ?_;simp only[am,Fct.rec_];have hf:s.facs[i]?=some s.facs[i]:=List.getElem?_eq_getElem hl
      by_cases hk:s.facs[i].kind=4
      · have e:raiseH s.facs[i].rel (a.get i) (b.get i)=joinF s a b i:=by simp only[joinF,hf,if_pos hk]
        simp only[am,Shp.rec_,decide_eq_true hk];refine idxL_intro (by omega) (facs_at hl) ?_;simp only[am,amc,Fct.rec_];refine idxPL_ptr (by omega) (by omega) ?_;simp only[z9_,Elm.u_ld hi];refine idxPL_ptr (by omega) (by omega) ?_;simp only[z7_,Elm.u_ld hi];refine CallD.intro (rraise_calls s.facs[i].rel (a.get i) (b.get i) σ) ?_;simp only[am,amc];refine idxPL_ptr (by omega) (by omega) ?_;simp only[z8_,Elm.u_has hi,Elm.u_st hi,e,put_put,winc hi (by omega)];refine nxt (()) hi ?_ ?_ ?_ ?_
        · exact Eq.mpr (hJF _ _) (trivial)
        all_goals simp[hF,List.replicate,am,lle_self,Elm.fill (f:=joinF s a b)]
      · have e:a.get i|||b.get i=joinF s a b i:=by simp only[joinF,hf,if_neg hk]
        simp only[am,aml,decide_eq_false hk,e,winc hi (by omega)];refine nxt (()) hi ?_ ?_ ?_ ?_
        · exact Eq.mpr (hJF _ _) (trivial)
        all_goals simp[hF,List.replicate,am,lle_self,Elm.fill (f:=joinF s a b)]
    · have e:a.get i|||b.get i=joinF s a b i:=by simp only[joinF];rw[List.getElem?_eq_none (by omega)]
      simp only[am,aml,decide_eq_false (show ¬(i:Int)<s.facs.length by omega),e,winc hi (by omega)];refine nxt (()) hi ?_ ?_ ?_ ?_
      · exact Eq.mpr (hJF _ _) (trivial)
      all_goals simp[hF,List.replicate,am,lle_self,Elm.fill (f:=joinF s a b)]
  · rintro x -;simp only[hF,List.replicate,am,aml,aml,Elm.rec_,show decide (((8:Nat):Int)<8)=false from rfl];rw[Elm.full];exact retK_intro (v:=.agg (joinE s a b).enc) Elm.r_nol (Store.sub_refl _) ⟨by simp only[V.erase,Elm.r_er,joinE],rfl⟩
end Go.Proofs.Tryd

namespace Go.Proofs.Tryd
open Go.Am
set_option maxRecDepth 4000
set_option maxHeartbeats 4000000
end Go.Proofs.Tryd

namespace Go.Proofs.Tryd
open Go.Am
set_option maxRecDepth 4000
set_option maxHeartbeats 4000000
theorem Tok.wd {t:Tok}:t.enc.length=3:=rfl
end Go.Proofs.Tryd

namespace Go.Proofs.Tryd
open Go.Am
set_option maxRecDepth 4000
set_option maxHeartbeats 4000000
end Go.Proofs.Tryd

namespace Go.Proofs.Tryd
open Go.Am
set_option maxRecDepth 4000
set_option maxHeartbeats 4000000
end Go.Proofs.Tryd

namespace Go.Proofs.Tryd
open Go.Am
set_option maxRecDepth 4000
set_option maxHeartbeats 4000000
end Go.Proofs.Tryd

namespace Go.Proofs.Tryd
open Go.Am
set_option maxRecDepth 4000
set_option maxHeartbeats 4000000
def ac18:AC:=.seq (.reg [⟨(some 1),.box 5 (.s 0),none⟩,⟨(some 2),.mv (.c (.bool false)),none⟩])
 (.seq (.seq (.reg [xf 0 3 1,xo 4 3])
 (.block 0 (.seq (.reg [xB .eql 6 4 1,xm 5 6])
 (.cond (.s 5) (.seq (.reg [xl 5 7 1,xc 23 8 [.s 7],xm 2 8])
 (.ret))
 (.seq (.reg [xB .eql 10 4 7,xm 9 10])
 (.cond (.s 9) (.seq (.reg [xl 5 11 1,xc 24 12 [.s 11],xm 13 12,xg 13 (xf 4 14 1),xg 13 (xo 15 14),xg 13 (xL 16 15),xg 13 (xB .eql 17 16 1),⟨(some 18),.pick (.s 13) (.s 17) (.c (.bool false)),none⟩,xm 19 18,xg 19 (xf 4 20 1),xg 19 (xo 21 20),⟨(some 22),.idxA 5 (.s 21) (.c (.int .i64 0)),(some (19,true))⟩,xg 19 (xl 5 23 22),xg 19 (xc 25 24 [.s 23]),⟨(some 25),.pick (.s 19) (.s 24) (.c (.bool false)),none⟩,xm 2 25])
 (.ret))
 (.seq (.seq (.reg [xB .eql 27 4 8,xm 26 27])
 (.cond (.s 26) (.skip)
 (.reg [xB .eql 28 4 9,xm 26 28])))
 (.cond (.s 26) (.seq (.reg [xl 5 29 1,xc 24 30 [.s 29],xm 31 30,xg 31 (xf 4 32 1),xg 31 (xo 33 32),xg 31 (xL 34 33),xg 31 (xB .gtr 35 34 0),⟨(some 36),.pick (.s 31) (.s 35) (.c (.bool false)),none⟩,xm 37 36,xg 37 (xf 4 38 1),xg 37 (xo 39 38),xg 37 (xc 26 40 [.s 39,.c (.fn (.func 18) [] [])]),⟨(some 41),.pick (.s 37) (.s 40) (.c (.bool false)),none⟩,xm 2 41])
 (.ret))
 (.skip)))))))))
 (.seq (.reg [⟨(some 2),.mv (.c (.bool false)),none⟩])
 (.ret)))
theorem fn18:IsFn prog 18 ac18 [.tmp 2] 42:=⟨f18,⟨[],[],[]⟩,func18,by kernel_rfl,by kernel_rfl,by kernel_rfl,by kernel_rfl⟩
def ac23:AC:=.seq (.reg [⟨(some 1),.box 5 (.s 0),none⟩,⟨(some 2),.mv (.c (.bool false)),none⟩])
 (.seq (.reg [xf 2 3 1,xo 4 3,xc 33 5 [.s 4],xm 6 5,xg 6 (xf 3 7 1),xg 6 (xo 8 7),xg 6 (xL 9 8),xg 6 (xf 4 10 1),xg 6 (xo 11 10),xg 6 (xL 12 11),xg 6 (xb .add 13 9 12),xg 6 (xB .eql 14 13 0),⟨(some 15),.pick (.s 6) (.s 14) (.c (.bool false)),none⟩,xm 2 15])
 (.ret))
theorem fn23:IsFn prog 23 ac23 [.tmp 2] 16:=⟨f23,⟨[],[],[]⟩,func23,by kernel_rfl,by kernel_rfl,by kernel_rfl,by kernel_rfl⟩
def ac24:AC:=.seq (.reg [⟨(some 1),.box 5 (.s 0),none⟩,⟨(some 2),.mv (.c (.bool false)),none⟩])
 (.seq (.reg [xf 2 3 1,xo 4 3,⟨(some 5),.binS .eql (.s 4) (.c (.str [])),none⟩,xm 6 5,xg 6 (xf 3 7 1),xg 6 (xo 8 7),xg 6 (xL 9 8),xg 6 (xB .eql 10 9 0),⟨(some 11),.pick (.s 6) (.s 10) (.c (.bool false)),none⟩,xm 2 11])
 (.ret))
theorem fn24:IsFn prog 24 ac24 [.tmp 2] 12:=⟨f24,⟨[],[],[]⟩,func24,by kernel_rfl,by kernel_rfl,by kernel_rfl,by kernel_rfl⟩
def ac25:AC:=.seq (.reg [⟨(some 1),.box 5 (.s 0),none⟩,⟨(some 2),.mv (.c (.bool false)),none⟩])
 (.seq (.seq (.reg [xf 0 3 1,xo 4 3])
 (.block 0 (.seq (.reg [xB .eql 6 4 2,xm 5 6])
 (.cond (.s 5) (.seq (.reg [xl 5 7 1,xc 23 8 [.s 7],xm 2 8])
 (.ret))
 (.seq (.reg [xB .eql 10 4 3,xm 9 10])
 (.cond (.s 9) (.seq (.reg [xf 2 11 1,xo 12 11,⟨(some 13),.binS .eql (.s 12) (.c (.str [])),none⟩,xm 14 13,xg 14 (xf 3 15 1),xg 14 (xo 16 15),xg 14 (xc 34 17 [.s 16]),⟨(some 18),.pick (.s 14) (.s 17) (.c (.bool false)),none⟩,xm 19 18,xg 19 (xf 4 20 1),xg 19 (xo 21 20),xg 19 (xL 22 21),xg 19 (xB .eql 23 22 0),⟨(some 24),.pick (.s 19) (.s 23) (.c (.bool false)),none⟩,xm 2 24])
 (.ret))
 (.seq (.reg [xB .eql 26 4 4,xm 25 26])
 (.cond (.s 25) (.seq (.reg [xl 5 27 1,xc 24 28 [.s 27],xm 29 28,xg 29 (xf 4 30 1),xg 29 (xo 31 30),xg 29 (xL 32 31),xg 29 (xB .gtr 33 32 0),⟨(some 34),.pick (.s 29) (.s 33) (.c (.bool false)),none⟩,xm 35 34,xg 35 (xf 4 36 1),xg 35 (xo 37 36),xg 35 (xc 26 38 [.s 37,.c (.fn (.func 25) [] [])]),⟨(some 39),.pick (.s 35) (.s 38) (.c (.bool false)),none⟩,xm 2 39])
 (.ret))
 (.seq (.reg [xB .eql 41 4 5,xm 40 41])
 (.cond (.s 40) (.seq (.reg [xl 5 42 1,xc 24 43 [.s 42],xm 44 43,xg 44 (xf 4 45 1),xg 44 (xo 46 45),xg 44 (xc 26 47 [.s 46,.c (.fn (.func 35) [] [])]),⟨(some 48),.pick (.s 44) (.s 47) (.c (.bool false)),none⟩,xm 2 48])
 (.ret))
 (.skip)))))))))))
 (.seq (.reg [⟨(some 2),.mv (.c (.bool false)),none⟩])
 (.ret)))
theorem fn25:IsFn prog 25 ac25 [.tmp 2] 49:=⟨f25,⟨[],[],[]⟩,func25,by kernel_rfl,by kernel_rfl,by kernel_rfl,by kernel_rfl⟩
def ac26:AC:=.seq (.reg [⟨(some 4),.mv (.c (.bool false)),none⟩])
 (.seq (.seq (.reg [xm 7 0,xL 8 7,xi 9 0])
 (.block 0 (.loop (.seq (.reg [xb .lss 10 9 8])
 (.seq (.cond (.s 10) (.skip)
 (.exit 0))
 (.seq (.block 1 (.seq (.reg [xA 5 11 7 9,xl 5 12 11,⟨(some 6),.alloc [(.int .i64 0),(.int .i64 0),(.str []),(.sl .full 2 []),(.sl .full 5 [])],none⟩,xs 5 6 12])
 (.seq (.reg [xm 13 1,xl 5 14 6,⟨(some 15),.callv (.s 13) [(.s 14)],none⟩,⟨(some 16),.not (.s 15),none⟩])
 (.cond (.s 16) (.seq (.reg [⟨(some 4),.mv (.c (.bool false)),none⟩])
 (.ret))
 (.skip)))))
 (.reg [xB .add 17 9 1,xm 9 17])))))))
 (.seq (.reg [⟨(some 4),.mv (.c (.bool true)),none⟩])
 (.ret)))
theorem fn26:IsFn prog 26 ac26 [.tmp 4] 18:=⟨f26,⟨[],[],[]⟩,func26,by kernel_rfl,by kernel_rfl,by kernel_rfl,by kernel_rfl⟩
def ac34:AC:=.seq (.reg [⟨(some 2),.mv (.c (.bool false)),none⟩])
 (.seq (.seq (.reg [xm 5 0,xL 6 5,xi 7 0])
 (.block 0 (.loop (.seq (.reg [xb .lss 8 7 6])
 (.seq (.cond (.s 8) (.skip)
 (.exit 0))
 (.seq (.block 1 (.seq (.reg [xA 2 9 5 7,xl 2 10 9,⟨(some 4),.alloc [(.str []),(.int .i64 0)],none⟩,xs 2 4 10])
 (.seq (.reg [xf 0 11 4,xo 12 11,xc 33 13 [.s 12],⟨(some 14),.not (.s 13),none⟩])
 (.cond (.s 14) (.seq (.reg [⟨(some 2),.mv (.c (.bool false)),none⟩])
 (.ret))
 (.skip)))))
 (.reg [xB .add 15 7 1,xm 7 15])))))))
 (.seq (.reg [⟨(some 2),.mv (.c (.bool true)),none⟩])
 (.ret)))
theorem fn34:IsFn prog 34 ac34 [.tmp 2] 16:=⟨f34,⟨[],[],[]⟩,func34,by kernel_rfl,by kernel_rfl,by kernel_rfl,by kernel_rfl⟩
def ac35:AC:=.seq (.reg [⟨(some 1),.box 5 (.s 0),none⟩,⟨(some 2),.mv (.c (.bool false)),none⟩])
 (.seq (.reg [xf 0 3 1,xo 4 3,xB .eql 5 4 6,xm 6 5,xg 6 (xf 2 7 1),xg 6 (xo 8 7),xg 6 (xc 33 9 [.s 8]),⟨(some 10),.pick (.s 6) (.s 9) (.c (.bool false)),none⟩,xm 11 10,xg 11 (xf 3 12 1),xg 11 (xo 13 12),xg 11 (xc 34 14 [.s 13]),⟨(some 15),.pick (.s 11) (.s 14) (.c (.bool false)),none⟩,xm 16 15,xg 16 (xf 4 17 1),xg 16 (xo 18 17),xg 16 (xL 19 18),xg 16 (xB .eql 20 19 0),⟨(some 21),.pick (.s 16) (.s 20) (.c (.bool false)),none⟩,xm 2 21])
 (.ret))
theorem fn35:IsFn prog 35 ac35 [.tmp 2] 22:=⟨f35,⟨[],[],[]⟩,func35,by kernel_rfl,by kernel_rfl,by kernel_rfl,by kernel_rfl⟩
theorem all_take {α:Type} {l:List α} {i:Nat} {f:α→Bool} (h:i<l.length):(l.take (i+1)).all f=((l.take i).all f&&f l[i]):=by
  rw[take_succ_of (List.getElem?_eq_getElem h),List.all_append];simp only[List.all_cons,List.all_nil,Bool.and_true]
theorem all_no {α:Type} {l:List α} {i:Nat} {f:α→Bool} (h:i<l.length) (hf:f l[i]=false):l.all f=false:=by
  rw[List.all_eq_false];exact⟨l[i],List.getElem_mem h,by simp[hf]⟩
def inv40 (l:List Word) (σ:Store) (i:Nat):St :=
  ⟨[.sl .no 2 (l.map Word.enc)]++List.replicate 4 .any++[.sl .no 2 (l.map Word.enc),.int .i64 l.length,.int .i64 (i:Nat)]++List.replicate 8 .any,[],σ⟩
theorem rightW_calls (l:List Word) (σ:Store) (hb:l.length≤big):PCalls prog 34 [.sl .no 2 (l.map Word.enc)] σ fun v σ' => v = .bool (rightW l)∧σ' = σ:=by
  simp only[big] at hb;refine fn34.calls ?_;simp only[slots,ac34,am,ams];refine vc_loop (fun p:{i:Nat // i≤l.length∧(l.take i).all (fun w=>nameR w.text)=true}=>inv40 l σ p.1) (fun p=>l.length - p.1) ?_ ?_
  · refine Upd.enter ⟨0,by simp,by simp⟩ ?_ LLLe.rfl OLe.rfl;simp[inv40,List.replicate,am]
  · rintro⟨i,hi,ha⟩;simp only[inv40,List.replicate,am];refine vcIf_split ?_ ?_
    · intro hlt;have hlt:i<l.length:=by simpa using hlt
      simp only[am];refine idxL_intro (by omega) (wencs_at (List.getElem?_eq_getElem hlt)) ?_;simp only[am,Nat.reduceAdd,Word.enc];refine cl (right_calls l[i].text σ) ?_;cases hg:nameR l[i].text
      · simp only[am];refine retK_intro rfl (Store.sub_refl _) ⟨?_,rfl⟩;rw[show rightW l=false from all_no (f:=fun (w:Word)=>nameR w.text) hlt hg];rfl
      · simp only[am];rw[wrap_i64 (by omega) (by omega)];exact Upd.againD ⟨i+1,hlt,by rw[all_take hlt,ha,hg];rfl⟩ (by simp;omega) (by simp[am]) (by simp[am]) OLe.rfl rfl rfl
    · intro hlt;have hlt:i=l.length:=by simp at hlt;omega
      subst hlt;rw[List.take_length] at ha;simp only[am];refine retS ?_;simp[V.erase,rightW,ha]
def inv42 (g:FuncId) (l:List Nd) (σ:Store) (i:Nat):St :=
  ⟨[.sl .no 5 (l.map Nd.enc),.fn (.func g) [] []]++List.replicate 5 .any++[.sl .no 5 (l.map Nd.enc),.int .i64 l.length,.int .i64 (i:Nat)]++List.replicate 8 .any,[],σ⟩
theorem all_calls {g:FuncId} {f:Nd→Bool} (l:List Nd) (σ:Store) (hb:l.length≤big) (h:∀n∈l,PCalls prog g [.agg n.enc] σ fun v σ' => v = .bool (f n)∧σ' = σ):PCalls prog 26 [.sl .no 5 (l.map Nd.enc),.fn (.func g) [] []] σ fun v σ' => v = .bool (l.all f)∧σ' = σ:=by
  simp only[big] at hb;refine fn26.calls ?_;simp only[slots,ac26,am,ams,Nat.reduceAdd];refine vc_loop (fun p:{i:Nat // i≤l.length∧(l.take i).all f=true}=>inv42 g l σ p.1) (fun p=>l.length - p.1) ?_ ?_
  · refine Upd.enter ⟨0,by simp,by simp⟩ ?_ LLLe.rfl OLe.rfl;simp[inv42,List.replicate,am]
  · rintro⟨i,hi,ha⟩;simp only[inv42,List.replicate,am];refine vcIf_split ?_ ?_
    · intro hlt;have hlt:i<l.length:=by simpa using hlt
      simp only[am];refine idxL_intro (by omega) (nencs_at (List.getElem?_eq_getElem hlt)) ?_;simp only[am,Nd.rec_];refine cl (h l[i] (List.getElem_mem hlt)) ?_;cases hg:f l[i]
      · simp only[am];refine retS ?_;simp[V.erase,all_no hlt hg]
      · simp only[am];rw[wrap_i64 (by omega) (by omega)];exact Upd.againD ⟨i+1,hlt,by rw[all_take hlt,ha,hg];rfl⟩ (by simp;omega) (by simp[am]) (by simp[am]) OLe.rfl rfl rfl
    · intro hlt;have hlt:i=l.length:=by simp at hlt;omega
      subst hlt;rw[List.take_length] at ha;simp only[am];refine retS ?_;simp[V.erase,ha]
def z21_:=And.intro @am <| And.intro @ams <| And.intro @Nd.rec_ @Nd.fl
def z22_:=And.intro @am <| And.intro @amo <| And.intro @amc <| And.intro @encs_length <| And.intro @decide_true <| And.intro @decide_false <| And.intro @Tree.rec_ <| And.intro @Nd.rec_ <| And.intro @Word.rec_ <| And.intro @Got.rec_ @Nd.fl
theorem leaf_calls (n:Nd) (σ:Store) (hb:n.names.length+n.kids.length≤big):PCalls prog 23 [.agg n.enc] σ fun v σ' => v = .bool n.leafQ∧σ' = σ:=by
  simp only[big] at hb;refine fn23.calls ?_;simp only[slots,ac23,z21_];refine cl (right_calls n.text σ) ?_;simp only[am]
  repeat' (first
    | (refine gL_split (fun h=>?_) (fun h=>?_)<;>simp only[am,h,List.length_map,Nd.fl,wrap_i64 (x:=(n.names.length:Int)+n.kids.length) (by omega) (by omega)])
    | (refine vcIf_split (fun h=>?_) (fun h=>?_)<;>simp only[z22_,h,Nat.reduceAdd,Nat.reduceEqDiff,List.length_map,wrap_i64 (x:=(n.names.length:Int)+n.kids.length) (by omega) (by omega)])
    | (refine pickL_split (fun h=>?_) (fun h=>?_)<;>simp only[z22_,h,Nat.reduceAdd,Nat.reduceEqDiff,List.length_map,wrap_i64 (x:=(n.names.length:Int)+n.kids.length) (by omega) (by omega)])
  )
  all_goals refine retS ?_
  all_goals simp_all [V.erase,Nd.leafQ]
  all_goals (try omega)
theorem bare_calls (n:Nd) (σ:Store):PCalls prog 24 [.agg n.enc] σ fun v σ' => v = .bool n.bareQ∧σ' = σ:=by
  refine fn24.calls ?_;simp only[slots,ac24,z21_]
  repeat' (first
    | (refine gL_split (fun h=>?_) (fun h=>?_)<;>simp only[am,h,List.length_map,Nd.fl])
    | (refine vcIf_split (fun h=>?_) (fun h=>?_)<;>simp only[z22_,h,Nat.reduceAdd,Nat.reduceEqDiff,List.length_map])
    | (refine pickL_split (fun h=>?_) (fun h=>?_)<;>simp only[z22_,h,Nat.reduceAdd,Nat.reduceEqDiff,List.length_map])
  )
  all_goals refine retS ?_
  all_goals simp_all [V.erase,Nd.bareQ]
  all_goals (try omega)
theorem wt_names (n:Nd):n.names.length+n.kids.length+4≤n.wt:=by
  have h2:n.names.length≤wsum n.names:=by
    unfold wsum;generalize n.names=l;induction l with
    | nil=>simp
    | cons w ws ih=>simp only[List.map_cons,List.sum_cons,List.length_cons];omega
  have h3:n.kids.length≤wts n.kids:=by
    rw[wts_map];generalize n.kids=l;induction l with
    | nil=>simp
    | cons w ws ih=>simp only[List.map_cons,List.sum_cons,List.length_cons];omega
  have h1:wts n.kids+wsum n.names+4≤n.wt:=by cases n;simp only[Nd.wt,Nd.kids,Nd.names];omega
  omega
theorem rule_is_calls (n:Nd) (σ:Store) (hw:n.wt≤big):PCalls prog 35 [.agg n.enc] σ fun v σ' => v = .bool n.ruleQ∧σ' = σ:=by
  have hn:=wt_names n;refine fn35.calls ?_;simp only[slots,ac35,z21_]
  repeat' (first
    | (refine gL_split (fun h=>?_) (fun h=>?_)<;>simp only[am,h,List.length_map,Nd.fl])
    | (refine vcIf_split (fun h=>?_) (fun h=>?_)<;>simp only[z22_,h,Nat.reduceAdd,Nat.reduceEqDiff,List.length_map])
    | (refine pickL_split (fun h=>?_) (fun h=>?_)<;>simp only[z22_,h,Nat.reduceAdd,Nat.reduceEqDiff,List.length_map])
    | (refine(right_calls n.text σ).mono ?_;rintro v _ ⟨rfl,rfl⟩;simp only[am])
    | (refine(rightW_calls n.names _ (by omega)).mono ?_;rintro v _ ⟨rfl,rfl⟩;simp only[am])
  )
  all_goals refine retS ?_
  all_goals simp_all [V.erase,Nd.ruleQ]
  all_goals (try omega)
theorem const_is_calls:∀(k:Nat) (n:Nd) (σ:Store),n.wt≤k→n.wt≤big→PCalls prog 25 [.agg n.enc] σ fun v σ' => v = .bool n.constQ∧σ' = σ:=by
  intro k;induction k with
  | zero=>intro n σ h _;cases n;simp only[Nd.wt] at h;omega
  | succ k ihk =>
    intro n σ hk hw;have hn:=wt_names n;have hkid:∀m∈n.kids,m.wt+5≤n.wt:=fun m hm=>by
      have h1:=wt_mem hm;have h2:wts n.kids+4≤n.wt:=by cases n;simp only[Nd.wt,Nd.kids];omega
      omega
    have hall:PCalls prog 26 [.sl .no 5 (n.kids.map Nd.enc),.fn (.func 25) [] []] σ fun v σ' => v = .bool (n.kids.all Nd.constQ)∧σ' = σ :=
      all_calls n.kids σ (by omega) fun m hm=>ihk m σ (by have:=hkid m hm;omega) (by have:=hkid m hm;omega)
    have hrule:PCalls prog 26 [.sl .no 5 (n.kids.map Nd.enc),.fn (.func 35) [] []] σ fun v σ' => v = .bool (n.kids.all Nd.ruleQ)∧σ' = σ :=
      all_calls n.kids σ (by omega) fun m hm=>rule_is_calls m σ (by have:=hkid m hm;omega)
    rw[Nd.constQ_eq];refine fn25.calls ?_;simp only[slots,ac25,z21_]
    by_cases k2:n.kind=2
    · simp only[am,Nd.rec_,decide_eq_true k2];refine cl (leaf_calls n σ (by omega)) ?_;simp only[am];refine retS ?_;simp[V.erase,k2]
    simp only[am,decide_eq_false k2]
    by_cases k3:n.kind=3
    · simp only[am,Nd.fl,decide_eq_true k3]
      repeat' (first
        | (refine gL_split (fun h=>?_) (fun h=>?_)<;>simp only[am,h,List.length_map,Nd.fl])
        | (refine vcIf_split (fun h=>?_) (fun h=>?_)<;>simp only[z22_,h,Nat.reduceAdd,Nat.reduceEqDiff,List.length_map])
        | (refine pickL_split (fun h=>?_) (fun h=>?_)<;>simp only[z22_,h,Nat.reduceAdd,Nat.reduceEqDiff,List.length_map])
        | (refine(rightW_calls n.names _ (by omega)).mono ?_;rintro v _ ⟨rfl,rfl⟩;simp only[am])
      )
      all_goals refine retS ?_
      all_goals simp_all [V.erase]
      all_goals (try omega)
    simp only[am,decide_eq_false k3]
    by_cases k4:n.kind=4
    · simp only[am,Nd.rec_,decide_eq_true k4];refine cl (bare_calls n σ) ?_;simp only[am]
      repeat' (first
        | (refine gL_split (fun h=>?_) (fun h=>?_)<;>simp only[am,h,List.length_map,Nd.fl])
        | (refine vcIf_split (fun h=>?_) (fun h=>?_)<;>simp only[z22_,h,Nat.reduceAdd,Nat.reduceEqDiff,List.length_map])
        | (refine pickL_split (fun h=>?_) (fun h=>?_)<;>simp only[z22_,h,Nat.reduceAdd,Nat.reduceEqDiff,List.length_map])
        | (refine hall.mono ?_;rintro v _ ⟨rfl,rfl⟩;simp only[am])
      )
      all_goals refine retS ?_
      all_goals simp_all [V.erase]
      all_goals (try omega)
    simp only[am,decide_eq_false k4]
    by_cases k5:n.kind=5
    · simp only[am,Nd.rec_,decide_eq_true k5];refine cl (bare_calls n σ) ?_;simp only[am]
      repeat' (first
        | (refine gL_split (fun h=>?_) (fun h=>?_)<;>simp only[am,h,Nd.fl])
        | (refine vcIf_split (fun h=>?_) (fun h=>?_)<;>simp only[z22_,h,Nat.reduceAdd,Nat.reduceEqDiff,List.length_map])
        | (refine pickL_split (fun h=>?_) (fun h=>?_)<;>simp only[z22_,h,Nat.reduceAdd,Nat.reduceEqDiff,List.length_map])
        | (refine hrule.mono ?_;rintro v _ ⟨rfl,rfl⟩;simp only[am])
      )
      all_goals refine retS ?_
      all_goals simp_all [V.erase]
      all_goals (try omega)
    simp only[am,decide_eq_false k5];refine retS ?_;simp[V.erase,k2,k3,k4,k5]
theorem kid_wt {n m:Nd} (hm:m∈n.kids):m.wt+5≤n.wt:=by
  have h1:=wt_mem hm;have h2:wts n.kids+4≤n.wt:=by cases n;simp only[Nd.wt,Nd.kids];omega
  omega
theorem label_is_calls:∀(k:Nat) (n:Nd) (σ:Store),n.wt≤k→n.wt≤big→PCalls prog 18 [.agg n.enc] σ fun v σ' => v = .bool n.labelQ∧σ' = σ:=by
  intro k;induction k with
  | zero=>intro n σ h _;cases n;simp only[Nd.wt] at h;omega
  | succ k ihk =>
    intro n σ hk hw;have hn:=wt_names n;have hall:PCalls prog 26 [.sl .no 5 (n.kids.map Nd.enc),.fn (.func 18) [] []] σ fun v σ' => v = .bool (n.kids.all Nd.labelQ)∧σ' = σ :=
      all_calls n.kids σ (by omega) fun m hm=>ihk m σ (by have:=kid_wt hm;omega) (by have:=kid_wt hm;omega)
    rw[Nd.labelQ_eq];refine fn18.calls ?_;simp only[slots,ac18,z21_]
    by_cases k1:n.kind=1
    · simp only[am,Nd.rec_,decide_eq_true k1];refine cl (leaf_calls n σ (by omega)) ?_;simp only[am];refine retS ?_;simp[V.erase,k1]
    simp only[am,decide_eq_false k1]
    by_cases k7:n.kind=7
    · simp only[am,Nd.rec_,decide_eq_true k7];refine cl (bare_calls n σ) ?_;simp only[am];cases hks:n.kids with
      | nil =>
        simp only[am,List.length_nil,Int.natCast_zero,show decide ((0:Int)=1)=false from rfl]
        repeat' (first
          | (refine gL_split (fun h=>?_) (fun h=>?_)<;>simp only[am,h,Nd.fl,hks,List.map_nil,List.length_nil,Int.natCast_zero,show decide ((0:Int)=1)=false from rfl])
          | (refine vcIf_split (fun h=>?_) (fun h=>?_)<;>simp only[z22_,h,Nat.reduceAdd,Nat.reduceEqDiff,List.length_map,hks,List.map_nil,List.length_nil,Int.natCast_zero,show decide ((0:Int)=1)=false from rfl])
          | (refine pickL_split (fun h=>?_) (fun h=>?_)<;>simp only[z22_,h,Nat.reduceAdd,Nat.reduceEqDiff,List.length_map,hks,List.map_nil,List.length_nil,Int.natCast_zero,show decide ((0:Int)=1)=false from rfl])
        )
        all_goals refine retS ?_
        all_goals simp_all [V.erase]
        all_goals (try omega)
      | cons m ms =>
        have hc:PCalls prog 25 [.agg m.enc] σ fun v σ' => v = .bool m.constQ∧σ' = σ:=const_is_calls _ m σ (Nat.le_refl _) (by have:=kid_wt (n:=n) (m:=m) (by rw[hks];simp);omega)
        repeat' (first
          | (refine gL_split (fun h=>?_) (fun h=>?_)<;>simp only[am,h,List.length_map,Nd.fl,hks])
          | (refine vcIf_split (fun h=>?_) (fun h=>?_)<;>simp only[z22_,h,Nat.reduceAdd,Nat.reduceEqDiff,List.length_map,hks])
          | (refine pickL_split (fun h=>?_) (fun h=>?_)<;>simp only[z22_,h,Nat.reduceAdd,Nat.reduceEqDiff,List.length_map,hks])
          | (refine idxL_intro (by omega) (c:=m.enc) (by simp) ?_;simp only[am,Nd.rec_])
          | (refine hc.mono ?_;rintro v _ ⟨rfl,rfl⟩;simp only[am])
        )
        all_goals refine retS ?_
        all_goals simp_all [V.erase,headQ]
        all_goals (try omega)
    simp only[am,decide_eq_false k7]
    by_cases k8:n.kind=8
    case' pos =>
      simp only[am,Nd.rec_,decide_eq_true k8]
    case' neg =>
      simp only[am,decide_eq_false k8]
      by_cases k9:n.kind=9
      case' pos =>
        simp only[am,Nd.rec_,decide_eq_true k9]
      case' neg =>
        simp only[am,decide_eq_false k9];refine retS ?_;simp[V.erase,k1,k7,k8,k9]
    all_goals
      refine cl (bare_calls n σ) ?_;simp only[am]
      repeat' (first
        | (refine gL_split (fun h=>?_) (fun h=>?_)<;>simp only[am,h,List.length_map,Nd.fl])
        | (refine vcIf_split (fun h=>?_) (fun h=>?_)<;>simp only[z22_,h,Nat.reduceAdd,Nat.reduceEqDiff,List.length_map])
        | (refine pickL_split (fun h=>?_) (fun h=>?_)<;>simp only[z22_,h,Nat.reduceAdd,Nat.reduceEqDiff,List.length_map])
        | (refine hall.mono ?_;rintro v _ ⟨rfl,rfl⟩;simp only[am])
      )
      all_goals refine retS ?_
      all_goals simp_all [V.erase]
      all_goals (try omega)
end Go.Proofs.Tryd

namespace Go.Proofs.Tryd
open Go.Am
set_option maxRecDepth 4000
set_option maxHeartbeats 4000000
def ac28:AC:=.seq (.reg [⟨(some 2),.box 2 (.s 0),none⟩,⟨(some 3),.box 5 (.s 1),none⟩,⟨(some 4),.alloc elmZ,none⟩,⟨(some 5),.alloc [(.int .i64 0),(.int .i64 0)],none⟩])
 (.seq (.reg [⟨(some 6),.alloc elmZ,none⟩])
 (.seq (.reg [xl 2 13 2,xl 5 14 3,xc 37 15 [.s 13,.s 14],xm 12 15,xe 16 12 0,xe 17 12 1,xm 7 16,xm 8 17])
 (.seq (.seq (.reg [xm 18 8,⟨(some 19),.not (.s 18),none⟩,xm 20 19,xh 20 (xl 2 21 2),xh 20 (xc 38 22 [.s 21]),⟨(some 23),.not (.s 22),(some (20,false))⟩,⟨(some 24),.pick (.s 20) (.c (.bool true)) (.s 23),none⟩,xm 25 24,xh 25 (xl 5 26 3),xh 25 (xc 25 27 [.s 26]),⟨(some 28),.not (.s 27),(some (25,false))⟩,⟨(some 29),.pick (.s 25) (.c (.bool true)) (.s 28),none⟩])
 (.cond (.s 29) (.seq (.draw [(xl 8 30 6,[]),(xf 1 31 3,[]),(xo 32 31,[1]),(⟨(some 33),.build [(.int .i64 0),(.int .i64 0)] [(0,1,(.c (.int .i64 4))),(1,1,(.s 32))],none⟩,[]),(xs 8 4 30,[]),(xs 2 5 33,[])])
 (.ret))
 (.skip)))
 (.seq (.reg [⟨(some 34),.build [(.bool false),(.int .i64 0)] [],none⟩,⟨(some 35),.boxO 2 (.s 34),none⟩,xm 9 35])
 (.seq (.seq (.reg [xf 1 36 2,xo 37 36,xL 38 37,xi 39 0])
 (.block 0 (.loop (.seq (.reg [xb .lss 40 39 38])
 (.seq (.cond (.s 40) (.skip)
 (.exit 0))
 (.seq (.block 1 (.seq (.reg [xm 41 39,xA 67 42 37 39,xl 67 43 42,⟨(some 11),.alloc facZ,none⟩,xm 10 41,xs 67 11 43])
 (.draw [(xm 44 10,[]),(xm 45 9,[]),(xl 67 46 11,[]),(xm 47 7,[]),(xm 48 10,[]),(xA 5 49 47 48,[]),(xl 5 50 49,[]),(xc 39 51 [.s 45,.s 46,.s 50],[]),(⟨(some 52),.idxP 8 1 (.s 6) (.s 44),none⟩,[]),(xs 1 52 51,[])])))
 (.reg [xB .add 53 39 1,xm 39 53])))))))
 (.seq (.seq (.reg [xm 54 9,xk 55 54,xf 0 56 55,xo 57 56])
 (.cond (.s 57) (.seq (.draw [(⟨(some 58),.build elmZ [],none⟩,[]),(xm 59 9,[]),(xk 60 59,[]),(xf 1 61 60,[]),(xo 62 61,[1]),(⟨(some 63),.build [(.int .i64 0),(.int .i64 0)] [(0,1,(.c (.int .i64 4))),(1,1,(.s 62))],none⟩,[]),(xs 8 4 58,[]),(xs 2 5 63,[])])
 (.ret))
 (.skip)))
 (.seq (.reg [xl 8 64 6,⟨(some 65),.build [(.int .i64 0),(.int .i64 0)] [],none⟩,xs 8 4 64,xs 2 5 65])
 (.ret))))))))
theorem fn28:IsFn prog 28 ac28 [.cell 4 true 8,.cell 5 true 2] 66:=⟨f28,⟨[35],[],[]⟩,func28,by kernel_rfl,by kernel_rfl,by kernel_rfl,by kernel_rfl⟩
def ac37:AC:=.seq (.reg [⟨(some 2),.box 2 (.s 0),none⟩,⟨(some 3),.box 5 (.s 1),none⟩,⟨(some 4),.mv (.c (.sl .full 5 [])),none⟩,⟨(some 5),.mv (.c (.bool false)),none⟩])
 (.seq (.seq (.reg [xf 0 6 2,xo 7 6,⟨(some 8),.not (.s 7),none⟩])
 (.cond (.s 8) (.seq (.reg [xl 5 9 3,⟨(some 10),.bslice 5 [(.s 9)],none⟩,xm 4 10,⟨(some 5),.mv (.c (.bool true)),none⟩])
 (.ret))
 (.skip)))
 (.seq (.draw [(xf 4 11 3,[]),(xo 12 11,[]),(xf 0 13 3,[]),(xo 14 13,[]),(xB .eql 15 14 4,[]),(xm 16 15,[]),(xg 16 (xf 4 17 3),[]),(xg 16 (xo 18 17),[]),(xg 16 (xL 19 18),[]),(xg 16 (xf 1 20 2),[]),(xg 16 (xo 21 20),[]),(xg 16 (xL 22 21),[]),(xg 16 (xb .eql 23 19 22),[]),(⟨(some 24),.pick (.s 16) (.s 23) (.c (.bool false)),none⟩,[]),(xm 4 12,[]),(xm 5 24,[])])
 (.ret)))
theorem fn37:IsFn prog 37 ac37 [.tmp 4,.tmp 5] 25:=⟨f37,⟨[],[],[]⟩,func37,by kernel_rfl,by kernel_rfl,by kernel_rfl,by kernel_rfl⟩
def ac39:AC:=.seq (.reg [⟨(some 4),.box 67 (.s 1),none⟩,⟨(some 5),.box 5 (.s 2),none⟩,⟨(some 6),.mv (.c (.int .u64 0)),none⟩])
 (.seq (.seq (.draw [(xf 0 7 5,[]),(xo 8 7,[1]),(xl 67 9 4,[]),(xc 49 10 [.s 9],[]),(xb .neq 11 8 10,[])])
 (.cond (.s 11) (.seq (.reg [xm 12 0,xf 1 13 5,xo 14 13,xc 50 15 [.s 12,.s 14],xm 6 15])
 (.ret))
 (.skip)))
 (.seq (.seq (.reg [xf 0 16 4,xo 17 16])
 (.block 0 (.seq (.reg [xB .eql 19 17 2,xm 18 19])
 (.cond (.s 18) (.seq (.reg [xm 20 0,xf 1 21 4,xo 22 21,xf 3 23 5,xo 24 23,xc 51 25 [.s 20,.s 22,.s 24],xm 6 25])
 (.ret))
 (.seq (.reg [xB .eql 27 17 3,xm 26 27])
 (.cond (.s 26) (.seq (.reg [xm 28 0,xl 67 29 4,xl 5 30 5,xc 52 31 [.s 28,.s 29,.s 30],xm 6 31])
 (.ret))
 (.skip)))))))
 (.seq (.reg [xm 32 0,xl 67 33 4,xl 5 34 5,xc 53 35 [.s 32,.s 33,.s 34],xm 6 35])
 (.ret))))
theorem fn39:IsFn prog 39 ac39 [.tmp 6] 36:=⟨f39,⟨[],[],[]⟩,func39,by kernel_rfl,by kernel_rfl,by kernel_rfl,by kernel_rfl⟩
def ac49:AC:=.seq (.reg [⟨(some 1),.box 67 (.s 0),none⟩,xi 2 0])
 (.seq (.seq (.reg [xf 0 3 1,xo 4 3])
 (.block 0 (.seq (.reg [xB .eql 6 4 2,xm 5 6])
 (.cond (.s 5) (.seq (.reg [xi 2 3])
 (.ret))
 (.seq (.reg [xB .eql 8 4 3,xm 7 8])
 (.cond (.s 7) (.seq (.reg [xi 2 5])
 (.ret))
 (.skip)))))))
 (.seq (.reg [xi 2 2])
 (.ret)))
theorem fn49:IsFn prog 49 ac49 [.tmp 2] 9:=⟨f49,⟨[],[],[]⟩,func49,by kernel_rfl,by kernel_rfl,by kernel_rfl,by kernel_rfl⟩
def ac50:AC:=.seq (.reg [⟨(some 4),.mv (.c (.int .u64 0)),none⟩])
 (.seq (.seq (.reg [xm 5 0,xk 6 5,xf 0 7 6,xo 8 7,⟨(some 9),.not (.s 8),none⟩])
 (.cond (.s 9) (.reg [xm 10 0,xm 11 0,xm 12 1,xk 13 10,xf 0 14 13,⟨none,.store 1 (.s 14) (.c (.bool true)),none⟩,xk 15 11,xf 1 16 15,xs 1 16 12])
 (.skip)))
 (.seq (.reg [⟨(some 4),.mv (.c (.int .u64 0)),none⟩])
 (.ret)))
theorem fn50:IsFn prog 50 ac50 [.tmp 4] 17:=⟨f50,⟨[],[],[]⟩,func50,by kernel_rfl,by kernel_rfl,by kernel_rfl,by kernel_rfl⟩
def ac51:AC:=.seq (.reg [⟨(some 6),.mv (.c (.int .u64 0)),none⟩])
 (.seq (.reg [⟨(some 7),.mv (.c (.int .u64 0)),none⟩])
 (.seq (.seq (.reg [xm 11 2,xL 12 11,xi 13 0])
 (.block 0 (.loop (.seq (.reg [xb .lss 14 13 12])
 (.seq (.cond (.s 14) (.skip)
 (.exit 0))
 (.seq (.block 1 (.seq (.reg [xA 2 15 11 13,xl 2 16 15,⟨(some 9),.alloc [(.str []),(.int .i64 0)],none⟩,xs 2 9 16])
 (.seq (.reg [xm 17 1,xf 0 18 9,xo 19 18,xc 62 20 [.s 17,.s 19],xm 10 20])
 (.seq (.seq (.reg [xm 21 10,xB .lss 22 21 0])
 (.cond (.s 22) (.seq (.reg [xm 23 0,xf 1 24 9,xo 25 24,xc 50 26 [.s 23,.s 25],xm 6 26])
 (.ret))
 (.skip)))
 (.reg [xm 27 7,xm 28 10,xc 63 29 [.s 27,.s 28],xm 7 29])))))
 (.reg [xB .add 30 13 1,xm 13 30])))))))
 (.seq (.reg [xm 31 7,xm 6 31])
 (.ret))))
theorem fn51:IsFn prog 51 ac51 [.tmp 6] 32:=⟨f51,⟨[],[],[]⟩,func51,by kernel_rfl,by kernel_rfl,by kernel_rfl,by kernel_rfl⟩
def ac52:AC:=.seq (.reg [⟨(some 4),.box 67 (.s 1),none⟩,⟨(some 5),.box 5 (.s 2),none⟩,⟨(some 6),.mv (.c (.int .u64 0)),none⟩])
 (.seq (.reg [⟨(some 7),.mv (.c (.int .u64 0)),none⟩])
 (.seq (.seq (.reg [xf 4 11 5,xo 12 11,xL 13 12,xi 14 0])
 (.block 0 (.loop (.seq (.reg [xb .lss 15 14 13])
 (.seq (.cond (.s 15) (.skip)
 (.exit 0))
 (.seq (.block 1 (.seq (.reg [xA 5 16 12 14,xl 5 17 16,⟨(some 9),.alloc [(.int .i64 0),(.int .i64 0),(.str []),(.sl .full 2 []),(.sl .full 5 [])],none⟩,xs 5 9 17])
 (.seq (.reg [xf 1 18 4,xo 19 18,xf 2 20 9,xo 21 20,xc 62 22 [.s 19,.s 21],xm 10 22])
 (.seq (.seq (.reg [xm 23 10,xB .lss 24 23 0])
 (.cond (.s 24) (.seq (.reg [xm 25 0,xf 1 26 9,xo 27 26,xc 50 28 [.s 25,.s 27],xm 6 28])
 (.ret))
 (.skip)))
 (.draw [(xm 29 7,[]),(xf 2 30 4,[]),(xl 65 31 30,[1]),(xm 32 10,[]),(xm 33 0,[]),(xf 1 34 4,[]),(xo 35 34,[]),(xf 3 36 9,[]),(xo 37 36,[]),(xc 51 38 [.s 33,.s 35,.s 37],[]),(xc 64 39 [.s 31,.s 32,.s 38],[]),(xb .or 40 29 39,[]),(xm 7 40,[])])))))
 (.reg [xB .add 41 14 1,xm 14 41])))))))
 (.seq (.reg [xm 42 7,xm 6 42])
 (.ret))))
theorem fn52:IsFn prog 52 ac52 [.tmp 6] 43:=⟨f52,⟨[],[],[]⟩,func52,by kernel_rfl,by kernel_rfl,by kernel_rfl,by kernel_rfl⟩
def ac53:AC:=.seq (.reg [⟨(some 4),.box 67 (.s 1),none⟩,⟨(some 5),.box 5 (.s 2),none⟩,⟨(some 6),.mv (.c (.int .u64 0)),none⟩])
 (.seq (.reg [xf 1 10 4,xo 11 10,xf 2 12 5,xo 13 12,xc 62 14 [.s 11,.s 13],xm 7 14])
 (.seq (.seq (.reg [xm 15 7,xB .lss 16 15 0])
 (.cond (.s 16) (.seq (.reg [xm 17 0,xf 1 18 5,xo 19 18,xc 50 20 [.s 17,.s 19],xm 6 20])
 (.ret))
 (.skip)))
 (.seq (.seq (.reg [xf 0 21 4,xo 22 21,xB .eql 23 22 4])
 (.cond (.s 23) (.seq (.reg [xf 2 24 4,xl 65 25 24,xm 26 7,xc 42 27 [.s 25,.s 26],xm 6 27])
 (.ret))
 (.skip)))
 (.seq (.reg [xf 1 29 4,xo 30 29,xL 31 30,xm 32 7,xc 65 33 [.s 31,.s 32],xm 28 33,xe 34 28 0,xe 35 28 1,xm 8 34,xm 9 35])
 (.seq (.reg [xm 36 8,xm 6 36])
 (.ret))))))
theorem fn53:IsFn prog 53 ac53 [.tmp 6] 37:=⟨f53,⟨[],[],[]⟩,func53,by kernel_rfl,by kernel_rfl,by kernel_rfl,by kernel_rfl⟩
abbrev BB (σ:Store) (b:Nat) (o:Option Int):Prop:=σ.box b=some (badV o)
theorem tz_set {σ:Store} {b:Nat} {o:Option Int} {c:List V} (hg:TZ σ) (h:BB σ b o):TZ (σ.set b c):=by
  have hne:0≠b:=by
    rintro rfl;have hg:σ.box _=_:=hg;rw[h] at hg;have:=congrArg (fun x:Option (List V)=>(x.getD []).length) hg;simp[badV,tzCells,tzTab] at this
  show (σ.set b c).box _=_;rw[set_box_ne hne];exact hg
theorem spfail_calls (b:Nat) (o:Option Int) (p:Int) {σ:Store} (h:BB σ b o):PCalls prog 50 [.ptr (.out b) 0,.int .i64 p] σ fun v σ' => v = .int .u64 ((0#64:B64).toNat:Nat)∧σ' = σ.set b (badV (o.or (some p))):=by
  refine fn50.calls ?_;simp only[slots,ac50,am,ams,Nat.reduceAdd,w_zero];cases o with
  | none =>
    simp only[am,show σ.box b=some [.bool false,.int .i64 0] from h];exact retK_intro rfl (Store.sub_refl _) ⟨rfl,rfl⟩
  | some q =>
    have e:σ.set b (badV ((some q).or (some p)))=σ:=Store.set_id h;simp only[am,show σ.box b=some [.bool true,.int .i64 q] from h];rw[e];exact retK_intro rfl (Store.sub_refl _) ⟨rfl,rfl⟩
theorem plcF_step {l:List (List UInt8)} {w:Word} {ws:List Word} {s:B64} {k:Nat} (h:findS l w.text=some k):plcF l s (w::ws)=plcF l (withB s (k:Nat)) ws:=by simp only[plcF,h]
theorem plcF_fail {l:List (List UInt8)} {w:Word} {ws:List Word} {s:B64} (h:findS l w.text=none):plcF l s (w::ws)=(0#64,some w.pos):=by simp only[plcF,h]
theorem spplaces_calls (b:Nat) (o:Option Int) (l:List (List UInt8)) (ws:List Word) {σ:Store} (h:BB σ b o) (hl:l.length≤100000) (hw:ws.length≤1000000000) :
    PCalls prog 51 [.ptr (.out b) 0,.sl .no 1 (sCells l),.sl .no 2 (ws.map Word.enc)] σ fun v σ' => v = .int .u64 ((plcF l 0#64 ws).1.toNat:Nat)∧σ' = σ.set b (badV (o.or (plcF l 0#64 ws).2)):=by
  refine fn51.calls ?_;simp only[slots,ac51,am,ams,Nat.reduceAdd,w_zero,List.length_map];obtain⟨F,hF⟩:∃F:Nat→B64→St,∀i x,F i x=⟨[.ptr (.out b) 0,.sl .no 1 (sCells l),.any,.any,.any,.any,.any,.int .u64 (x.toNat:Nat),.any,.any,.any,.sl .no 2 (ws.map Word.enc),.int .i64 (ws.length:Nat),.int .i64 (i:Nat)]++List.replicate 18 .any,[],σ⟩:=⟨_,fun _ _=>rfl⟩;obtain⟨JF,hJF⟩:∃JF:Nat→B64→Prop,∀i x,JF i x=(plcF l 0#64 ws=plcF l x (ws.drop i)):=⟨_,fun _ _=>rfl⟩;refine vc_count (ws.length) F JF _ hJF ?_ ?_ ?_
  · refine ent (0#64) ?_ ?_ ?_ ?_
    · exact Eq.mpr (hJF _ _) (rfl)
    all_goals simp[hF,List.replicate,am,lle_self]
  · rintro i x hi hJ;rw[List.drop_eq_getElem_cons hi] at hJ;simp only[hF,List.replicate,am,dlt hi];refine idxL_intro (by omega) (wencs_at (List.getElem?_eq_getElem hi)) ?_;simp only[am,Nat.reduceAdd,Word.enc];refine cl (find_calls l ws[i].text σ hl) ?_;simp only[am,optI_neg];cases hf:findS l ws[i].text with
    | none =>
      rw[plcF_fail hf] at hJ;simp only[am,Option.isNone_none];refine(spfail_calls b o ws[i].pos h).mono ?_;rintro v σ' ⟨rfl,rfl⟩;simp only[am,aml];exact retK_intro rfl (Store.sub_refl _) ⟨by rw[hJ];rfl,by rw[hJ]⟩
    | some k =>
      rw[plcF_step hf] at hJ;simp only[am,Option.isNone_some,optI];refine cl (mask_with_calls x (k:Nat) σ) ?_;simp only[am,aml,winc hi (by omega)];refine nxtD (withB x (k:Nat)) hi ?_ ?_ ?_ ?_ ?_ ?_
      · exact Eq.mpr (hJF _ _) (hJ)
      all_goals simp[hF,List.replicate,am,lle_self,loL,loLL,V.lo]
  · rintro x hJ;rw[List.drop_length] at hJ;have e:σ.set b (badV (o.or (plcF l 0#64 ws).2))=σ:=by rw[hJ];simp only[plcF,Option.or_none];exact Store.set_id h
    simp only[hF,List.replicate,am,aml,dnl,aml];rw[e,hJ];refine retS ?_;simp[V.erase,plcF]
def z23_:=And.intro @am <| And.intro @ams <| And.intro @w_zero <| And.intro @Fct.rec_ <| And.intro @Nd.rec_ @Nd.fl
def z24_:=And.intro @am <| And.intro @aml <| And.intro @w_or @Fct.rec_
theorem rules_calls (b:Nat) (o:Option Int) (f:Fct) (n:Nd) {σ:Store} (h:BB σ b o) (hg:TZ σ) (hl:f.names.length≤100000) (hk:n.kids.length≤1000000000) (hw:∀k∈n.kids,k.names.length≤1000000000) :
    PCalls prog 52 [.ptr (.out b) 0,.agg f.enc,.agg n.enc] σ fun v σ' => v = .int .u64 ((rulP f 0#64 o n.kids).1.toNat:Nat)∧σ' = σ.set b (badV (rulP f 0#64 o n.kids).2):=by
  refine fn52.calls ?_;simp only[slots,ac52,z23_,Nat.reduceAdd,List.length_map];have hid:σ.set b (badV o)=σ:=Store.set_id h;obtain⟨F,hF⟩:∃F:Nat→B64 × Option Int→St,∀i x,F i x=⟨[.ptr (.out b) 0,.any,.any,.any,.ptr (.loc 0) 0,.ptr (.loc 1) 0,.any,.int .u64 (x.1.toNat:Nat),.any,.any,.any,.any,.sl .no 5 (n.kids.map Nd.enc),.int .i64 (n.kids.length:Nat),.int .i64 (i:Nat)]++List.replicate 28 .any,[f.enc,n.enc],σ.set b (badV x.2)⟩:=⟨_,fun _ _=>rfl⟩;obtain⟨JF,hJF⟩:∃JF:Nat→B64 × Option Int→Prop,∀i x,JF i x=(rulP f 0#64 o n.kids=rulP f x.1 x.2 (n.kids.drop i)):=⟨_,fun _ _=>rfl⟩;refine vc_count (n.kids.length) F JF _ hJF ?_ ?_ ?_
  · refine ent ((0#64,o)) ?_ ?_ ?_ ?_
    · exact Eq.mpr (hJF _ _) (rfl)
    all_goals simp[hF,List.replicate,am,lle_self,hid]
  · rintro i ⟨x,o'⟩ hi hJ;rw[List.drop_eq_getElem_cons hi] at hJ;simp only at hJ;have h1:BB (σ.set b (badV o')) b o' := set_box;simp only[hF,List.replicate,am,dlt hi];refine idxL_intro (by omega) (nencs_at (List.getElem?_eq_getElem hi)) ?_;simp only[z23_,Nat.reduceAdd];refine(find_calls f.names n.kids[i].text _ hl).mono ?_;rintro v σ1 ⟨rfl,rfl⟩;simp only[am,optI_neg];cases hf:findS f.names n.kids[i].text with
    | none =>
      simp only[rulP,hf] at hJ;simp only[am,Nd.fl,Option.isNone_none];refine(spfail_calls b o' n.kids[i].pos h1).mono ?_;rintro v σ' ⟨rfl,rfl⟩;simp only[am,aml];exact retK_intro rfl (Store.sub_refl _) ⟨by rw[hJ];rfl,by rw[hJ]⟩
    | some k =>
      simp only[rulP,hf] at hJ;simp only[am,Fct.rec_,Nd.fl,Option.isNone_some,optI];refine CallD.intro (spplaces_calls b o' f.names n.kids[i].names h1 hl (hw _ (List.getElem_mem hi))) ?_;simp only[am,Rl.rec_];refine CallD.intro (grule_calls f.rel k (plcF f.names 0#64 n.kids[i].names).1 (tz_set hg h)) ?_;simp only[z24_,winc hi (by omega)];refine nxtD ((x|||ruleG f.rel k (plcF f.names 0#64 n.kids[i].names).1,o'.or (plcF f.names 0#64 n.kids[i].names).2)) hi ?_ ?_ ?_ ?_ ?_ ?_
      · exact Eq.mpr (hJF _ _) (hJ)
      all_goals simp[hF,List.replicate,am,lle_self,loL,loLL,V.lo,Fct.r_lo,Nd.r_lo]
  · rintro⟨x,o'⟩ hJ;rw[List.drop_length] at hJ;simp only[hF,List.replicate,am,aml,dnl,aml];rw[hJ];refine retS ?_;simp[V.erase,rulP]
theorem point_calls11 (b:Nat) (o:Option Int) (f:Fct) (n:Nd) {σ:Store} (h:BB σ b o) (hl:f.names.length≤100000) :
    PCalls prog 53 [.ptr (.out b) 0,.agg f.enc,.agg n.enc] σ fun v σ' => v = .int .u64 ((ptF f n).1.toNat:Nat)∧σ' = σ.set b (badV (o.or (ptF f n).2)):=by
  refine fn53.calls ?_;simp only[slots,ac53,z23_,Nat.reduceAdd];refine cl (find_calls f.names n.text _ hl) ?_;simp only[am,optI_neg];cases hf:findS f.names n.text with
  | none =>
    simp only[am,Nd.fl,Option.isNone_none];refine(spfail_calls b o n.pos h).mono ?_;rintro v σ' ⟨rfl,rfl⟩;simp only[am];exact retK_intro rfl (Store.sub_refl _) ⟨by simp only[ptF,hf];rfl,by simp only[ptF,hf]⟩
  | some k =>
    have e:σ.set b (badV (o.or (ptF f n).2))=σ:=by simp only[ptF,hf,Option.or_none];exact Store.set_id h
    rw[e];simp only[am,Fct.rec_,Option.isNone_some,optI]
    by_cases h4:f.kind=4
    · simp only[am,Rl.rec_,Fct.rec_,decide_eq_true h4];refine cl (hword_calls f.rel k σ) ?_;simp only[am];refine retS ?_;simp[V.erase,ptF,hf,h4]
    · simp only[am,Fct.rec_,sCells_len,decide_eq_false h4];refine cl (rword_calls f.names.length k σ) ?_;simp only[am,wTup];refine retS ?_;simp[V.erase,ptF,hf,h4]
theorem kind_calls (f:Fct) (σ:Store):PCalls prog 49 [.agg f.enc] σ fun v σ' => v = .int .i64 (kindF f)∧σ' = σ:=by
  refine fn49.calls ?_;simp only[slots,ac49,am,ams,Fct.rec_]
  by_cases h2:f.kind=2
  · simp only[am,decide_eq_true h2];refine retS ?_;simp[V.erase,kindF,h2]
  · simp only[am,decide_eq_false h2]
    by_cases h3:f.kind=3
    · simp only[am,decide_eq_true h3];refine retS ?_;simp[V.erase,kindF,h3]
    · simp only[am,decide_eq_false h3];refine retS ?_;simp[V.erase,kindF,h2,h3]
theorem word_calls11 (b:Nat) (o:Option Int) (f:Fct) (n:Nd) {σ:Store} (h:BB σ b o) (hg:TZ σ) (hl:f.names.length≤100000) (hk:n.names.length≤1000000000∧n.kids.length≤1000000000) (hw:∀k∈n.kids,k.names.length≤1000000000) :
    PCalls prog 39 [.ptr (.out b) 0,.agg f.enc,.agg n.enc] σ fun v σ' => v = .int .u64 ((wrdP f n o).1.toNat:Nat)∧σ' = σ.set b (badV (wrdP f n o).2):=by
  refine fn39.calls ?_;simp only[slots,ac39,z23_,Nat.reduceAdd];refine CallD.intro (kind_calls f σ) ?_;simp only[am,Nd.fl]
  by_cases hq:n.kind=kindF f
  · simp only[am,Fct.rec_,decide_eq_true hq]
    by_cases h2:f.kind=2
    · have e:wrdP f n o=((plcF f.names 0#64 n.names).1,o.or (plcF f.names 0#64 n.names).2):=by rw[wrdP,if_pos hq,if_pos h2]
      simp only[am,Fct.rec_,Nd.fl,decide_eq_true h2];refine(spplaces_calls b o f.names n.names h hl hk.1).mono ?_;rintro v σ' ⟨rfl,rfl⟩;simp only[am];exact retK_intro rfl (Store.sub_refl _) ⟨by rw[e];rfl,by rw[e]⟩
    · simp only[am,decide_eq_false h2]
      by_cases h3:f.kind=3
      · have e:wrdP f n o=rulP f 0#64 o n.kids:=by rw[wrdP,if_pos hq,if_neg h2,if_pos h3]
        simp only[am,Fct.rec_,Nd.rec_,decide_eq_true h3];refine(rules_calls b o f n h hg hl hk.2 hw).mono ?_;rintro v σ' ⟨rfl,rfl⟩;simp only[am];exact retK_intro rfl (Store.sub_refl _) ⟨by rw[e];rfl,by rw[e]⟩
      · have e:wrdP f n o=((ptF f n).1,o.or (ptF f n).2):=by rw[wrdP,if_pos hq,if_neg h2,if_neg h3]
        simp only[am,Fct.rec_,Nd.rec_,decide_eq_false h3];refine(point_calls11 b o f n h hl).mono ?_;rintro v σ' ⟨rfl,rfl⟩;simp only[am];exact retK_intro rfl (Store.sub_refl _) ⟨by rw[e];rfl,by rw[e]⟩
  · have e:wrdP f n o=(0#64,o.or (some n.pos)):=by rw[wrdP,if_neg hq]
    simp only[am,Nd.fl,decide_eq_false hq];refine(spfail_calls b o n.pos h).mono ?_;rintro v σ' ⟨rfl,rfl⟩;simp only[am];exact retK_intro rfl (Store.sub_refl _) ⟨by rw[e];rfl,by rw[e]⟩
def z25_:=And.intro @am <| And.intro @ams <| And.intro @Shp.rec_ @Nd.rec_
theorem parts_calls (s:Shp) (n:Nd) (σ:Store):PCalls prog 37 [.agg s.enc,.agg n.enc] σ fun v σ' => v = .tup [.sl .no 5 ((partsF s n).map Nd.enc),.bool (partsQ s n)]∧σ' = σ:=by
  refine fn37.calls ?_;simp only[slots,ac37,z25_,Nat.reduceAdd];cases ht:s.tuple with
  | false =>
    simp only[am,Nd.rec_];refine retS ?_;simp[V.erase,eraseL,partsF,partsQ,ht]
  | true =>
    simp only[am,Nd.fl]
    by_cases h4:n.kind=4
    · simp only[am,List.length_map,Shp.rec_,Nd.fl,List.length_map,decide_eq_true h4]
      by_cases hl:n.kids.length=s.facs.length
      · simp only[decide_eq_true (show (n.kids.length:Int)=s.facs.length by omega)];refine retS ?_;simp[V.erase,eraseL,partsF,partsQ,ht,h4,hl]
      · simp only[decide_eq_false (show ¬(n.kids.length:Int)=s.facs.length by omega)];refine retS ?_;simp[V.erase,eraseL,partsF,partsQ,ht,h4,hl]
    · simp only[am,decide_eq_false h4];refine retS ?_;simp[V.erase,eraseL,partsF,partsQ,ht,h4]
def Nd.ok (n:Nd):Prop:=n.names.length≤1000000000∧n.kids.length≤1000000000∧∀k∈n.kids,k.names.length≤1000000000
theorem elemF_no {s:Shp} {n:Nd} (h:(partsQ s n&&shpR s&&n.constQ)=false):elemF s n=(.zero,some n.pos):=by rw[elemF,h];rfl
theorem elemF_go {s:Shp} {n:Nd} (h1:partsQ s n=true) (h2:shpR s=true) (h3:n.constQ=true):elemF s n=elmGo s (partsF s n):=by rw[elemF,h1,h2,h3];rfl
theorem shpR_len {s:Shp} (h:shpR s=true):1≤s.facs.length∧s.facs.length≤8∧(s.tuple=false→s.facs.length=1):=by
  simp only[shpR,Bool.and_eq_true,decide_eq_true_eq,Bool.or_eq_true] at h;refine⟨h.1.1.1,h.1.1.2,fun ht=>?_⟩
  rcases h.1.2 with h | h
  · rw[ht] at h;simp at h
  · exact h
theorem parts_len {s:Shp} {n:Nd} (h1:partsQ s n=true) (h2:shpR s=true):(partsF s n).length=s.facs.length:=by
  have hl:=(shpR_len h2).2.2;unfold partsF;unfold partsQ at h1;cases ht:s.tuple with
  | false=>simp[hl ht]
  | true=>rw[ht] at h1;simpa using And.right (by simpa using h1)
def z26_:=And.intro @am <| And.intro @ams <| And.intro @Shp.rec_ <| And.intro @Elm.rec_ @Nd.rec_
theorem elem_calls (s:Shp) (n:Nd) {σ:Store} (hg:TZ σ) (hok:s.ok) (hn:∀k∈partsF s n,Nd.ok k) (hwt:n.wt≤big) :
    PCalls prog 28 [.agg s.enc,.agg n.enc] σ fun v σ' => v = .tup [.agg (elemF s n).1.enc,.agg (fltV (elemF s n).2)]∧σ' = σ:=by
  refine fn28.calls ?_;simp only[slots,ac28,z26_,Nat.reduceAdd];refine cl (parts_calls s n σ) ?_;simp only[am];have done:∀(e:Elm × Option Int) (t:List V) (l:List (List V)) (σ1:Store),e=elemF s n→σ.sub σ1→RetK (fun v σ' => v=V.tup [.agg (elemF s n).1.enc,.agg (fltV (elemF s n).2)]∧σ' = σ) ⟨t,l,σ1⟩ (.tup [.agg e.1.enc,.agg (fltV e.2)]):=fun e t l σ1 he hs=>by
    subst he;exact retK_intro (by simp[V.nol,nolL,Elm.r_nol,fltV]) hs ⟨by simp[V.erase,eraseL,Elm.r_er,fltV],rfl⟩
  cases hp:partsQ s n with
  | false =>
    simp only[am,Nat.reduceAdd,Elm.rec_,Nd.fl];exact done (.zero,some n.pos) _ _ _ (elemF_no (by rw[hp];rfl)).symm (Store.sub_refl _)
  | true =>
    simp only[am,Shp.rec_];refine cl (shright_calls s hg hok) ?_;cases hr:shpR s with
    | false =>
      simp only[am,Nat.reduceAdd,Elm.rec_,Nd.fl];exact done (.zero,some n.pos) _ _ _ (elemF_no (by rw[hp,hr];rfl)).symm (Store.sub_refl _)
    | true =>
      simp only[am,Nd.rec_];refine cl (const_is_calls _ n σ (Nat.le_refl _) hwt) ?_;cases hc:n.constQ with
      | false =>
        simp only[am,Nat.reduceAdd,Elm.rec_,Nd.fl];exact done (.zero,some n.pos) _ _ _ (elemF_no (by rw[hp,hr,hc];rfl)).symm (Store.sub_refl _)
      | true =>
        have hgo:=elemF_go hp hr hc;obtain⟨hl1,hl8,_⟩:=shpR_len hr;have hpl:=parts_len hp hr;simp only[am,Nat.reduceAdd];refine kO_intro fun b hb=>?_
        have hs:∀c,σ.sub (σ.set b c):=fun c=>sub_set hb
        have hgb:∀c,TZ (σ.set b c):=fun c=>(hs c).1 _ _ hg
        simp only[am,List.length_map,Shp.rec_,List.length_map];obtain⟨F,hF⟩:∃F:Nat→Elm × Option Int→St,∀i x,F i x=⟨[.any,.any,.any,.any,.ptr (.loc 2) 0,.ptr (.loc 3) 0,.ptr (.loc 4) 0,.sl .no 5 ((partsF s n).map Nd.enc),.any,.ptr (.out b) 0,.any,.any,.any,.any,.any,.any,.any,.any,.any,.any,.any,.any,.any,.any,.any,.any,.any,.any,.any,.any,.any,.any,.any,.any,.any,.any,.any,.sl .no 67 (s.facs.map Fct.enc),.int .i64 (s.facs.length:Nat),.int .i64 (i:Nat)]++List.replicate 26 .any,[s.enc,n.enc,Elm.zero.enc,[.int .i64 0,.int .i64 0],x.1.enc],σ.set b (badV x.2)⟩:=⟨_,fun _ _=>rfl⟩;obtain⟨JF,hJF⟩:∃JF:Nat→Elm × Option Int→Prop,∀i x,JF i x=(goI s (partsF s n) i x):=⟨_,fun _ _=>rfl⟩;refine vc_count (s.facs.length) F JF _ hJF ?_ ?_ ?_
        · refine ent ((.zero,none)) ?_ ?_ ?_ ?_
          · exact Eq.mpr (hJF _ _) (goI_zero)
          all_goals simp[hF,List.replicate,am,lle_self,badV]
        · rintro i ⟨e,o⟩ hi hJ;have hip:i<(partsF s n).length:=by omega
          have h8:i<8:=by omega
          have hst:=goI_step hJ;rw[getD_at hi,getD_at hip] at hst;have hnd:=hn _ (List.getElem_mem hip);simp only[hF,List.replicate,am,dlt hi];refine idxL_intro (by omega) (facs_at hi) ?_;simp only[am,Nat.reduceAdd,Fct.rec_];refine idxL_intro (by omega) (nencs_at (List.getElem?_eq_getElem hip)) ?_;simp only[am,Fct.rec_,Nd.rec_];refine CallD.intro (word_calls11 b o s.facs[i] (partsF s n)[i] set_box (hgb _) (hok.2 _ (List.getElem_mem hi)) ⟨hnd.1,hnd.2.1⟩ hnd.2.2) ?_;simp only[am,amc];refine idxPL_ptr (by omega) (by omega) ?_;simp only[z8_,Elm.u_has h8,Elm.u_st h8,winc hi (by omega)];refine nxtD ((e.put i (wrdP s.facs[i] (partsF s n)[i] o).1,(wrdP s.facs[i] (partsF s n)[i] o).2)) hi ?_ ?_ ?_ ?_ ?_ ?_
          · exact Eq.mpr (hJF _ _) (hst)
          all_goals simp[hF,List.replicate,am,lle_self,loL,loLL,V.lo,Nd.r_lo,Shp.r_lo,Elm.r_lo]
        · rintro⟨e,o⟩ hJ;have hend:=goI_end hJ;rw[←hgo] at hend;simp only[hF,List.replicate,am,aml,dnl,aml,badV];cases o with
          | some p =>
            simp only[am,Nat.reduceAdd,Elm.rec_,Option.isSome_some,Option.getD_some];exact done (.zero,some p) _ _ _ (by rw[hend];rfl) (hs _)
          | none =>
            simp only[am,Nat.reduceAdd,Elm.rec_,Option.isSome_none];exact done (e,none) _ _ _ (by rw[hend];rfl) (hs _)
end Go.Proofs.Tryd

namespace Go.Proofs.Tryd
open Go.Am
set_option maxRecDepth 4000
set_option maxHeartbeats 4000000
end Go.Proofs.Tryd

namespace Go.Proofs.Tryd
open Go.Am
set_option maxRecDepth 4000
set_option maxHeartbeats 4000000
end Go.Proofs.Tryd

namespace Go.Proofs.Tryd
open Go.Am
set_option maxRecDepth 4000
set_option maxHeartbeats 4000000
end Go.Proofs.Tryd

namespace Go.Proofs.Tryd
open Go.Am
set_option maxRecDepth 4000
set_option maxHeartbeats 4000000
def s1:List UInt8:=[43,40,120,44,35,123,97,44,98,125,41]
def s2:List UInt8:=[43,40,41]
def s3:List UInt8:=[91,102,61,120,44,103,61,35,104,105,124,114,93]
end Go.Proofs.Tryd

namespace Go.Proofs.Tryd
open Go.Am
set_option maxRecDepth 4000
set_option maxHeartbeats 4000000
end Go.Proofs.Tryd

namespace Go.Proofs.Tryd
open Go.Am
set_option maxRecDepth 4000
set_option maxHeartbeats 4000000
end Go.Proofs.Tryd

namespace Go.Proofs.Tryd
open Go.Am
set_option maxRecDepth 4000
set_option maxHeartbeats 4000000
def ac19:AC:=.seq (.reg [⟨(some 3),.box 2 (.s 0),none⟩,⟨(some 5),.box 5 (.s 2),none⟩,⟨(some 6),.alloc insZ,none⟩,⟨(some 7),.mv (.c (.bool false)),none⟩])
 (.seq (.seq (.reg [xf 0 10 5,xo 11 10,xB .eql 12 11 1])
 (.cond (.s 12) (.seq (.reg [xl 2 13 3,xm 14 1,xf 2 15 5,xo 16 15,xc 27 17 [.s 13,.s 14,.s 16],xe 18 17 0,xe 19 17 1,xs 10 6 18,xm 7 19])
 (.ret))
 (.skip)))
 (.seq (.drawA [8,9] [(xf 0 21 3,[]),(xo 22 21,[]),(xm 23 1,[]),(xA 3 24 22 23,[]),(xf 1 25 24,[]),(xl 2 26 25,[]),(xf 4 27 5,[]),(xo 28 27,[]),(⟨(some 29),.idxA 5 (.s 28) (.c (.int .i64 0)),none⟩,[]),(xl 5 30 29,[]),(xc 28 31 [.s 26,.s 30],[]),(xm 20 31,[]),(xe 32 20 0,[]),(xe 33 20 1,[]),(⟨none,.mv (.c .any),none⟩,[]),(⟨none,.mv (.c .any),none⟩,[]),(⟨(some 8),.boxS 8 (.s 32),none⟩,[]),(⟨(some 9),.boxS 2 (.s 33),none⟩,[])])
 (.seq (.draw [(xl 8 34 8,[]),(⟨(some 35),.build insZ [(0,1,(.c (.int .i64 2))),(2,8,(.s 34))],none⟩,[]),(xf 0 36 9,[]),(xo 37 36,[1]),(xB .eql 38 37 0,[]),(xs 10 6 35,[]),(xm 7 38,[])])
 (.ret))))
theorem fn19:IsFn prog 19 ac19 [.cell 6 true 10,.tmp 7] 39:=⟨f19,⟨[],[],[]⟩,func19,by kernel_rfl,by kernel_rfl,by kernel_rfl,by kernel_rfl⟩
def ac27:AC:=.seq (.reg [⟨(some 3),.box 2 (.s 0),none⟩,⟨(some 6),.alloc insZ,none⟩,⟨(some 7),.mv (.c (.bool false)),none⟩])
 (.seq (.reg [xl 2 11 3,xm 12 2,xc 36 13 [.s 11,.s 12],xm 10 13,xe 14 10 0,xe 15 10 1,xm 8 14,xm 9 15])
 (.seq (.seq (.reg [xm 16 9,xB .lss 17 16 0,xm 18 17,xh 18 (xf 1 19 3),xh 18 (xo 20 19),xh 18 (xm 21 9),xh 18 (xA 3 22 20 21),xh 18 (xf 1 23 22),xh 18 (xo 24 23),xh 18 (xB .neq 25 24 1),⟨(some 26),.pick (.s 18) (.c (.bool true)) (.s 25),none⟩,xm 27 26,xh 27 (xf 1 28 3),xh 27 (xo 29 28),xh 27 (xm 30 9),xh 27 (xA 3 31 29 30),xh 27 (xf 2 32 31),xh 27 (xo 33 32),xh 27 (xm 34 1),xh 27 (xb .neq 35 33 34),⟨(some 36),.pick (.s 27) (.c (.bool true)) (.s 35),none⟩])
 (.cond (.s 36) (.seq (.reg [⟨(some 37),.build insZ [],none⟩,xs 10 6 37,⟨(some 7),.mv (.c (.bool false)),none⟩])
 (.ret))
 (.skip)))
 (.seq (.reg [xm 38 9,⟨(some 39),.build insZ [(0,1,(.c (.int .i64 1))),(1,1,(.s 38))],none⟩,xs 10 6 39,⟨(some 7),.mv (.c (.bool true)),none⟩])
 (.ret))))
theorem fn27:IsFn prog 27 ac27 [.cell 6 true 10,.tmp 7] 40:=⟨f27,⟨[],[],[]⟩,func27,by kernel_rfl,by kernel_rfl,by kernel_rfl,by kernel_rfl⟩
def ac36:AC:=.seq (.reg [⟨(some 2),.box 2 (.s 0),none⟩,xi 4 0,xi 5 0])
 (.seq (.reg [xi 6 (-1),xi 7 (-1)])
 (.seq (.seq (.reg [xf 0 10 2,xo 11 10,xL 12 11,xi 13 0])
 (.block 0 (.loop (.seq (.reg [xb .lss 14 13 12])
 (.seq (.cond (.s 14) (.skip)
 (.exit 0))
 (.seq (.block 1 (.seq (.reg [xm 15 13,xm 8 15])
 (.seq (.reg [xm 16 6,xB .lss 17 16 0,xm 18 17,xg 18 (xf 0 19 2),xg 18 (xo 20 19),xg 18 (xm 21 8),xg 18 (xA 3 22 20 21),xg 18 (xf 0 23 22),xg 18 (xo 24 23),xg 18 (xm 25 1),⟨(some 26),.binS .eql (.s 24) (.s 25),(some (18,true))⟩,⟨(some 27),.pick (.s 18) (.s 26) (.c (.bool false)),none⟩])
 (.cond (.s 27) (.reg [xm 28 8,xm 6 28])
 (.skip)))))
 (.reg [xB .add 29 13 1,xm 13 29])))))))
 (.seq (.seq (.reg [xf 1 30 2,xo 31 30,xL 32 31,xi 33 0])
 (.block 2 (.loop (.seq (.reg [xb .lss 34 33 32])
 (.seq (.cond (.s 34) (.skip)
 (.exit 2))
 (.seq (.block 3 (.seq (.reg [xm 35 33,xm 9 35])
 (.seq (.reg [xm 36 7,xB .lss 37 36 0,xm 38 37,xg 38 (xf 1 39 2),xg 38 (xo 40 39),xg 38 (xm 41 9),xg 38 (xA 3 42 40 41),xg 38 (xf 0 43 42),xg 38 (xo 44 43),xg 38 (xm 45 1),⟨(some 46),.binS .eql (.s 44) (.s 45),(some (38,true))⟩,⟨(some 47),.pick (.s 38) (.s 46) (.c (.bool false)),none⟩])
 (.cond (.s 47) (.reg [xm 48 9,xm 7 48])
 (.skip)))))
 (.reg [xB .add 49 33 1,xm 33 49])))))))
 (.seq (.reg [xm 50 6,xm 51 7,xm 4 50,xm 5 51])
 (.ret)))))
theorem fn36:IsFn prog 36 ac36 [.tmp 4,.tmp 5] 52:=⟨f36,⟨[],[],[]⟩,func36,by kernel_rfl,by kernel_rfl,by kernel_rfl,by kernel_rfl⟩
theorem lats_at {l:List Ltc} {j:Nat} (h:j<l.length):(l.map Ltc.enc)[((j:Nat):Int).toNat]?=some l[j].enc:=by simp[h]
theorem vars_at {l:List Vrb} {j:Nat} (h:j<l.length):(l.map Vrb.enc)[((j:Nat):Int).toNat]?=some l[j].enc:=by simp[h]
theorem scfind_calls (s:Scp) (t:List UInt8) (σ:Store) (h1:s.lats.length≤100000) (h2:s.vars.length≤100000) :
    PCalls prog 36 [.agg s.enc,.str t] σ fun v σ' => v = .tup [.int .i64 (optI (findL s.lats t)),.int .i64 (optI (findV s.vars t))]∧σ' = σ:=by
  refine fn36.calls ?_;simp only[slots,ac36,am,ams,Nat.reduceAdd,Scp.rec_,List.length_map];rw[findL,findV];generalize hpL:nameL s.lats t=pL;generalize hpV:nameV s.vars t=pV;have eL:∀i (hi:i<s.lats.length),pL i=decide (s.lats[i].name=t):=fun i hi=>by rw[←hpL];simp only[nameL,List.getElem?_eq_getElem hi]
  have eV:∀i (hi:i<s.vars.length),pV i=decide (s.vars[i].name=t):=fun i hi=>by rw[←hpV];simp only[nameV,List.getElem?_eq_getElem hi]
  obtain⟨F,hF⟩:∃F:Nat→Unit→St,∀i x,F i x=⟨[.any,.str t,.ptr (.loc 0) 0,.any,.any,.any,.int .i64 (optI ((List.range i).find? pL)),.int .i64 (-1),.any,.any,.any,.sl .no 3 (s.lats.map Ltc.enc),.int .i64 (s.lats.length:Nat),.int .i64 (i:Nat)]++List.replicate 38 .any,[s.enc],σ⟩:=⟨_,fun _ _=>rfl⟩;obtain⟨JF,hJF⟩:∃JF:Nat→Unit→Prop,∀i x,JF i x=(True):=⟨_,fun _ _=>rfl⟩;refine vc_count (s.lats.length) F JF _ hJF ?_ ?_ ?_
  · refine ent (()) ?_ ?_ ?_ ?_
    · exact Eq.mpr (hJF _ _) (trivial)
    all_goals simp[hF,List.replicate,am,lle_self,optI]
  · rintro i x hi -;simp only[hF,List.replicate,am,dlt hi,optI_neg];cases hf:(List.range i).find? pL with
    | some k =>
      simp only[am,aml,Option.isNone_some,winc hi (by omega)];refine nxt (()) hi ?_ ?_ ?_ ?_
      · exact Eq.mpr (hJF _ _) (trivial)
      all_goals simp[hF,List.replicate,am,lle_self,List.range_succ,List.find?_append,hf]
    | none =>
      simp only[am,Scp.rec_,Option.isNone_none];refine idxL_intro (by omega) (lats_at hi) ?_;simp only[am,Scp.rec_];rw[←eL i hi];cases hb:pL i with
      | false =>
        simp only[am,aml,winc hi (by omega)];refine nxt (()) hi ?_ ?_ ?_ ?_
        · exact Eq.mpr (hJF _ _) (trivial)
        all_goals simp[hF,List.replicate,am,lle_self,List.range_succ,List.find?_append,hf,hb]
      | true =>
        simp only[am,aml,winc hi (by omega)];refine nxt (()) hi ?_ ?_ ?_ ?_
        · exact Eq.mpr (hJF _ _) (trivial)
        all_goals simp[hF,List.replicate,am,lle_self,List.range_succ,List.find?_append,hf,hb,optI]
  · rintro x -;simp only[hF,List.replicate,am,aml,dnl,aml,Scp.rec_,List.length_map];clear hF hJF F JF;obtain⟨F,hF⟩:∃F:Nat→Unit→St,∀i x,F i x=⟨[.any,.str t,.ptr (.loc 0) 0,.any,.any,.any,.int .i64 (optI ((List.range s.lats.length).find? pL)),.int .i64 (optI ((List.range i).find? pV)),.any,.any,.any,.any,.any,.any,.any,.any,.any,.any,.any,.any,.any,.any,.any,.any,.any,.any,.any,.any,.any,.any,.any,.sl .no 3 (s.vars.map Vrb.enc),.int .i64 (s.vars.length:Nat),.int .i64 (i:Nat)]++List.replicate 18 .any,[s.enc],σ⟩:=⟨_,fun _ _=>rfl⟩;obtain⟨JF,hJF⟩:∃JF:Nat→Unit→Prop,∀i x,JF i x=(True):=⟨_,fun _ _=>rfl⟩;refine vc_count (s.vars.length) F JF _ hJF ?_ ?_ ?_
    · refine ent (()) ?_ ?_ ?_ ?_
      · exact Eq.mpr (hJF _ _) (trivial)
      all_goals simp[hF,List.replicate,am,lle_self,optI]
    · rintro i x hi -;simp only[hF,List.replicate,am,dlt hi,optI_neg];cases hf:(List.range i).find? pV with
      | some k =>
        simp only[am,aml,Option.isNone_some,winc hi (by omega)];refine nxt (()) hi ?_ ?_ ?_ ?_
        · exact Eq.mpr (hJF _ _) (trivial)
        all_goals simp[hF,List.replicate,am,lle_self,List.range_succ,List.find?_append,hf]
      | none =>
        simp only[am,Scp.rec_,Option.isNone_none];refine idxL_intro (by omega) (vars_at hi) ?_;simp only[am,Scp.rec_];rw[←eV i hi];cases hb:pV i with
        | false =>
          simp only[am,aml,winc hi (by omega)];refine nxt (()) hi ?_ ?_ ?_ ?_
          · exact Eq.mpr (hJF _ _) (trivial)
          all_goals simp[hF,List.replicate,am,lle_self,List.range_succ,List.find?_append,hf,hb]
        | true =>
          simp only[am,aml,winc hi (by omega)];refine nxt (()) hi ?_ ?_ ?_ ?_
          · exact Eq.mpr (hJF _ _) (trivial)
          all_goals simp[hF,List.replicate,am,lle_self,List.range_succ,List.find?_append,hf,hb,optI]
    · rintro x -;simp only[hF,List.replicate,am,aml,dnl,aml];refine retS ?_;simp[V.erase,eraseL]
theorem findV_at {l:List Vrb} {t:List UInt8} {k:Nat} (h:findV l t=some k):k<l.length:=(find_lt h).1
def insT (o:Option Ins):V:=.tup [.agg (match o with | some i=>i | none=>Ins.zero).enc,.bool o.isSome]
def z27_:=And.intro @am <| And.intro @ams <| And.intro @Scp.rec_ @Ins.rec_
theorem variable_calls (s:Scp) (lat:Nat) (t:List UInt8) (σ:Store) (h1:s.lats.length≤100000) (h2:s.vars.length≤100000) :
    PCalls prog 27 [.agg s.enc,.int .i64 (lat:Nat),.str t] σ fun v σ' => v=insT (varF s lat t)∧σ' = σ:=by
  refine fn27.calls ?_;simp only[slots,ac27,z27_,Nat.reduceAdd];have no:∀(u:List V) (l:List (List V)),varF s lat t=none→RetK (fun v σ' => v=insT (varF s lat t)∧σ' = σ) ⟨u,l,σ⟩ (.tup [.agg Ins.zero.enc,.bool false]):=fun u l h=>by
    rw[h];exact retK_intro (by simp[V.nol,nolL,Ins.r_nol]) (Store.sub_refl _) ⟨by simp[insT,V.erase,eraseL,Ins.r_er],rfl⟩
  refine cl (scfind_calls s t σ h1 h2) ?_;simp only[am,optI_neg];cases hf:findV s.vars t with
  | none =>
    simp only[am,Ins.rec_,Option.isNone_none];exact no _ _ (by simp only[varF,hf])
  | some k =>
    have hk:=findV_at hf;have hv:s.vars[k]?=some s.vars[k]:=List.getElem?_eq_getElem hk;simp only[am,Scp.rec_,Option.isNone_some,optI];refine idxL_intro (by omega) (vars_at hk) ?_;simp only[am,Scp.rec_]
    by_cases e1:s.vars[k].kind=1
    · simp only[am,Scp.rec_,decide_eq_true e1];refine idxL_intro (by omega) (vars_at hk) ?_;simp only[am,Scp.rec_]
      by_cases e2:s.vars[k].lat=(lat:Nat)
      · have e:varF s lat t=some ⟨1,k,.zero⟩:=by simp only[varF,hf,hv];rw[if_pos ⟨e1,e2⟩]
        simp only[am,Ins.rec_,decide_eq_true e2];exact retK_intro (by simp[V.nol,nolL,Ins.r_nol]) (Store.sub_refl _) ⟨by simp[e,insT,V.erase,eraseL,Ins.r_er,Ins.zero],rfl⟩
      · simp only[am,Ins.rec_,decide_eq_false e2];exact no _ _ (by simp only[varF,hf,hv];rw[if_neg (fun h=>e2 h.2)])
    · simp only[am,Ins.rec_,decide_eq_false e1];exact no _ _ (by simp only[varF,hf,hv];rw[if_neg (fun h=>e1 h.1)])
theorem shapeF_at {s:Scp} {lat:Nat} (h:lat<s.lats.length):shapeF s lat=s.lats[lat].shape:=by simp only[shapeF,List.getElem?_eq_getElem h]
theorem leafF_ok {s:Scp} {lat:Nat} {n:Nd} (h1:n.kind≠1) {e:Elm} (he:elemF (shapeF s lat) (n.kids.getD 0 nd0)=(e,none)):leafF s lat n=some ⟨2,0,e⟩:=by rw[leafF,if_neg h1,he]
theorem leafF_bad {s:Scp} {lat:Nat} {n:Nd} (h1:n.kind≠1) {e:Elm} {p:Int} (he:elemF (shapeF s lat) (n.kids.getD 0 nd0)=(e,some p)):leafF s lat n=none:=by rw[leafF,if_neg h1,he]
theorem parts_ok {s:Shp} {n:Nd} (hc:n.cnt≤100000):∀k∈partsF s n,k.names.length≤100000∧k.kids.length≤100000∧∀m∈k.kids,m.names.length≤100000:=by
  intro k hk;have hkc:k.cnt≤n.cnt:=by
    unfold partsF at hk;split at hk
    · exact Nat.le_of_lt (cnt_kid hk)
    · rw[List.mem_singleton.1 hk];exact Nat.le_refl _
  have h1:=cnt_names k;have h2:=cnt_kids k;refine⟨by omega,by omega,fun m hm=>?_⟩;have:=cnt_kid hm;have:=cnt_names m;omega
theorem parts_Ok {s:Shp} {n:Nd} (hc:n.cnt≤100000):∀k∈partsF s n,Nd.ok k:=fun k hk=>by
  obtain⟨h1,h2,h3⟩:=parts_ok hc k hk;exact⟨by omega,by omega,fun m hm=>by have:=h3 m hm;omega⟩
def z28_:=And.intro @am <| And.intro @ams <| And.intro @Nd.rec_ <| And.intro @Nd.fl <| And.intro @Scp.rec_ @Ins.rec_
theorem leaf_calls14 (s:Scp) (lat:Nat) (n:Nd) {σ:Store} (hg:TZ σ) (hs:s.ok) (hlat:lat<s.lats.length) (hc:n.cnt≤100000) (hw:n.wt≤big) (hl:n.labelQ=true) (hk:n.kind=1∨n.kind=7) :
    PCalls prog 19 [.agg s.enc,.int .i64 (lat:Nat),.agg n.enc] σ fun v σ' => (∃i:Ins,v = .tup [.agg i.enc,.bool (leafF s lat n).isSome]∧∀j,leafF s lat n=some j→i=j)∧σ' = σ:=by
  refine fn19.calls ?_;simp only[slots,ac19,z28_,Nat.reduceAdd]
  by_cases h1:n.kind=1
  · simp only[am,Nd.fl,Scp.rec_,decide_eq_true h1];refine cl (variable_calls s lat n.text σ hs.1 hs.2.1) ?_;simp only[am,Ins.rec_,insT];refine retK_intro (by simp[V.nol,nolL,Ins.r_nol]) (Store.sub_refl _) ⟨⟨_,by rw[leafF,if_pos h1];simp[V.erase,eraseL,Ins.r_er];rfl,fun j hj=>?_⟩,rfl⟩;rw[leafF,if_pos h1] at hj;rw[hj]
  · have h7:n.kind=7:=by simpa [h1] using hk
    have hkl:=label_const hl h7;have hm:n.kids[0]∈n.kids:=List.getElem_mem _;have hmc:=cnt_kid hm;have hmw:=kid_wt hm;simp only[am,Nat.reduceAdd,decide_true,Nat.reduceLT,Scp.rec_,decide_eq_false h1];refine idxL_intro (by omega) (lats_at hlat) ?_;simp only[am,Nd.fl,Scp.rec_];refine idxL_intro (n:=0) (by omega) (nencs_at (j:=0) (List.getElem?_eq_getElem (by omega))) ?_;simp only[am,Shp.rec_,Nd.rec_];refine CallD.intro (elem_calls s.lats[lat].shape n.kids[0] hg (hs.2.2 _ (List.getElem_mem hlat)) (parts_Ok (by omega)) (by omega)) ?_;obtain⟨e,he⟩:∃e,elemF s.lats[lat].shape n.kids[0]=e:=⟨_,rfl⟩;rw[he];have he' : elemF (shapeF s lat) (n.kids.getD 0 nd0)=e:=by rw[shapeF_at hlat,getD_at (by omega)];exact he
    simp only[am,Nat.reduceAdd,Elm.rec_,Ins.rec_,fltV];obtain⟨e,o⟩:=e;cases o with
    | none =>
      have hlf:=leafF_ok h1 he';simp only[am,decide_true,Option.isSome_none];exact retK_intro (by simp[V.nol,nolL,Ins.r_nol]) (Store.sub_refl _) ⟨⟨⟨2,0,e⟩,by rw[hlf];simp[V.erase,eraseL,Ins.r_er];rfl,fun j hj=>by rw[hlf] at hj;cases hj;rfl⟩,rfl⟩
    | some p =>
      have hlf:=leafF_bad h1 he';simp only[am,decide_false,Int.reduceEq,Option.isSome_some];exact retK_intro (by simp[V.nol,nolL,Ins.r_nol]) (Store.sub_refl _) ⟨⟨⟨2,0,e⟩,by rw[hlf];simp[V.erase,eraseL,Ins.r_er];rfl,fun j hj=>by rw[hlf] at hj;simp at hj⟩,rfl⟩
theorem codes_at {l:List Ins} {j:Nat} (h:j<l.length):(l.map Ins.enc)[((j:Nat):Int).toNat]?=some l[j].enc:=by simp[h]
end Go.Proofs.Tryd

namespace Go.Proofs.Tryd
open Go.Am
set_option maxRecDepth 4000
set_option maxHeartbeats 4000000
def codeT (o:Option (List Ins)):V:=.tup [.sl .no 10 ((o.getD []).map Ins.enc),.bool o.isSome]
theorem compR_in {s:Scp} {lat:Nat} {n:Nd} (h1:lat<s.lats.length) (h2:n.labelQ=true):compR s (lat:Nat) n=compF s lat n:=by
  rw[compR,if_pos ⟨by omega,by omega,h2⟩];rfl
end Go.Proofs.Tryd

namespace Go.Proofs.Tryd
open Go.Am
set_option maxRecDepth 4000
set_option maxHeartbeats 4000000
def ac13:AC:=.seq (.reg [⟨(some 3),.box 2 (.s 0),none⟩,⟨(some 5),.box 5 (.s 2),none⟩,⟨(some 6),.mv (.c (.sl .full 10 [])),none⟩,⟨(some 7),.mv (.c (.bool false)),none⟩])
 (.scope (.seq (.seq (.reg [xm 15 1,xB .lss 16 15 0,xm 17 16,xh 17 (xm 18 1),xh 17 (xf 0 19 3),xh 17 (xo 20 19),xh 17 (xL 21 20),xh 17 (xb .geq 22 18 21),⟨(some 23),.pick (.s 17) (.c (.bool true)) (.s 22),none⟩,xm 24 23,xh 24 (xl 5 25 5),xh 24 (xc 18 26 [.s 25]),⟨(some 27),.not (.s 26),(some (24,false))⟩,⟨(some 28),.pick (.s 24) (.c (.bool true)) (.s 27),none⟩])
 (.cond (.s 28) (.seq (.reg [⟨(some 6),.mv (.c (.sl .full 10 [])),none⟩,⟨(some 7),.mv (.c (.bool false)),none⟩])
 (.ret))
 (.skip)))
 (.seq (.reg [⟨(some 8),.mv (.c (.sl .full 10 [])),none⟩])
 (.seq (.reg [xl 5 29 5,⟨(some 30),.build [(.int .i64 0),(.int .i64 0),(.str []),(.sl .full 2 []),(.sl .full 5 []),(.int .i64 0)] [(0,5,(.s 29))],none⟩,⟨(some 31),.own (.new 6) [(.s 30)],none⟩,xm 9 31])
 (.seq (.skip)
 (.seq (.block 0 (.loop (.seq (.seq (.reg [xm 32 9,⟨(some 33),.own .len [(.s 32)],none⟩,xB .gtr 34 33 0])
 (.cond (.s 34) (.skip)
 (.exit 0)))
 (.block 1 (.seq (.reg [xm 35 9,⟨(some 36),.own .len [(.s 35)],none⟩,xB .sub 37 36 1,xm 10 37])
 (.seq (.reg [xm 38 9,xm 39 10,⟨(some 40),.own (.idx 6) [(.s 38),(.s 39)],none⟩,xl 6 41 40,⟨(some 11),.alloc [(.int .i64 0),(.int .i64 0),(.str []),(.sl .full 2 []),(.sl .full 5 []),(.int .i64 0)],none⟩,xs 6 11 41])
 (.seq (.reg [xi 12 3])
 (.seq (.seq (.reg [xf 0 42 11,xf 0 43 42,xo 44 43])
 (.block 2 (.seq (.seq (.reg [xB .eql 46 44 1,xm 45 46])
 (.cond (.s 45) (.skip)
 (.reg [xB .eql 47 44 7,xm 45 47])))
 (.cond (.s 45) (.seq (.reg [xl 2 49 3,xm 50 1,xf 0 51 11,xl 5 52 51,xc 19 53 [.s 49,.s 50,.s 52],xm 48 53,xe 54 48 0,xe 55 48 1,⟨(some 13),.alloc insZ,none⟩,xs 10 13 54,xm 14 55])
 (.seq (.seq (.reg [xm 56 14,⟨(some 57),.not (.s 56),none⟩])
 (.cond (.s 57) (.seq (.reg [⟨(some 6),.mv (.c (.sl .full 10 [])),none⟩,⟨(some 7),.mv (.c (.bool false)),none⟩])
 (.ret))
 (.skip)))
 (.seq (.reg [xm 58 8,xl 10 59 13,⟨(some 60),.bslice 10 [(.s 59)],none⟩,xa 10 61 58 60,xm 8 61])
 (.seq (.reg [xm 62 9,xm 63 10,⟨(some 64),.own (.slc 6 false true false) [(.s 62),(.s 63)],none⟩,xm 9 64])
 (.exit 1)))))
 (.seq (.reg [xB .eql 66 44 9,xm 65 66])
 (.cond (.s 65) (.reg [xi 12 4])
 (.skip)))))))
 (.seq (.seq (.reg [xf 5 67 11,xo 68 67,xf 0 69 11,xf 4 70 69,xo 71 70,xL 72 71,xb .lss 73 68 72])
 (.cond (.s 73) (.seq (.reg [xm 74 9,xm 75 10,⟨(some 76),.own (.idx 6) [(.s 74),(.s 75)],none⟩,xf 5 77 76,xo 78 77,xB .add 79 78 1,⟨(some 80),.own (.idx 6) [(.s 74),(.s 75)],none⟩,xf 5 81 80,xs 1 81 79])
 (.seq (.reg [xm 82 9,xf 0 83 11,xf 4 84 83,xo 85 84,xf 5 86 11,xo 87 86,xA 5 88 85 87,xl 5 89 88,⟨(some 90),.build [(.int .i64 0),(.int .i64 0),(.str []),(.sl .full 2 []),(.sl .full 5 []),(.int .i64 0)] [(0,5,(.s 89))],none⟩,⟨(some 91),.bslice 6 [(.s 90)],none⟩,⟨(some 92),.own (.app 6) [(.s 82),(.s 91)],none⟩,xm 9 92])
 (.exit 1)))
 (.skip)))
 (.seq (.reg [xm 93 8,xm 94 12,xf 0 95 11,xf 4 96 95,xo 97 96,xL 98 97,⟨(some 99),.build insZ [(0,1,(.s 94)),(1,1,(.s 98))],none⟩,⟨(some 100),.bslice 10 [(.s 99)],none⟩,xa 10 101 93 100,xm 8 101])
 (.reg [xm 102 9,xm 103 10,⟨(some 104),.own (.slc 6 false true false) [(.s 102),(.s 103)],none⟩,xm 9 104])))))))))))
 (.seq (.reg [xm 105 8,xm 6 105,⟨(some 7),.mv (.c (.bool true)),none⟩])
 (.ret))))))))
theorem fn13:IsFn prog 13 ac13 [.tmp 6,.tmp 7] 106:=⟨f13,⟨[33,36,40,64,76,80,92,104,100031],[],[]⟩,func13,by kernel_rfl,by kernel_rfl,by kernel_rfl,by kernel_rfl⟩
def frE (f:Nd × Nat):List V:=f.1.enc++[.int .i64 (f.2:Nat)]
section
variable {m:Nd} {d k:Nat} {x0 x1 x2 x3 x4 x5:V}
theorem fr_ex:frE (m,d)=[.int .i64 m.kind,.int .i64 m.pos,.str m.text,.sl .no 2 (m.names.map Word.enc),.sl .no 5 (m.kids.map Nd.enc),.int .i64 (d:Nat)]:=by rw[frE,Nd.enc_eq];rfl
theorem fr_len:(frE (m,d)).length=6:=by rw[fr_ex];rfl
theorem fr_one:oneL (frE (m,d))=true:=by rw[fr_ex];rfl
theorem fr_nol:nolL (frE (m,d))=true:=by rw[fr_ex];rfl
theorem fr_er:eraseL (frE (m,d))=frE (m,d):=by rw[fr_ex];rfl
theorem fr_lo:loL k (frE (m,d))=true:=by rw[fr_ex];rfl
theorem fr_ov:over [x0,x1,x2,x3,x4,x5] (frE (m,d))=frE (m,d):=by rw[fr_ex];rfl
theorem fr_k:ldC false 1 (frE (m,d))=some (.int .i64 m.kind):=by rw[fr_ex];rfl
theorem fr_ks:ldC false 1 ((frE (m,d)).drop 4)=some (.sl .no 5 (m.kids.map Nd.enc)):=by rw[fr_ex];rfl
theorem fr_d:ldC false 1 ((frE (m,d)).drop 5)=some (.int .i64 (d:Nat)):=by rw[fr_ex];rfl
theorem fr_n:takeN 5 (frE (m,d))=some m.enc:=takeN_app Nd.r_len
theorem fr_bld:over [x0,x1,x2,x3,x4,.int .i64 0] m.enc=frE (m,0):=by rw[fr_ex,Nd.enc_eq];rfl
theorem fr_has5:hasN 5 [x0,x1,x2,x3,x4,x5]=true:=rfl
theorem fr_st:setAt (frE (m,d)) 5 [.int .i64 (k:Nat)]=frE (m,k):=by rw[fr_ex,fr_ex];rfl
def fr_rec:=And.intro @fr_len <| And.intro @fr_one <| And.intro @fr_nol <| And.intro @fr_er <| And.intro @fr_lo <| And.intro @fr_ov <| And.intro @fr_k <| And.intro @fr_ks <| And.intro @fr_d <| And.intro @fr_n <| And.intro @fr_bld @fr_has5
end
structure CF (s:Scp) (lat:Nat) (n:Nd) (σ:Store) where
  fs:List (Nd × Nat)
  out:List Ins
  v:V
  tk:Tk
  st:Store
  fin:finF s lat fs out=compF s lat n
  all:∀f∈fs,f.1.labelQ=true∧f.1.wt≤n.wt∧f.1.cnt≤n.cnt
  mes:out.length+mesF fs≤2*n.cnt+1
  own:Own st 6 v (fs.reverse.map frE)
  sub:OwnS σ st v
  gr:Gr σ st tk out.length
def invCF (s:Scp) (lat:Nat) (n:Nd) (out:List Ins) (v:V) (tk:Tk) (σ:Store):St :=
  ⟨[.any,.int .i64 (lat:Nat),.any,.ptr (.loc 0) 0,.any,.ptr (.loc 1) 0,.any,.any,.sl tk 10 (out.map Ins.enc),v]++List.replicate 96 .any,[s.enc,n.enc],σ⟩
theorem own_lo {σ:Store} {k n:Nat} {v:V} {rows:List (List V)} (h:Own σ k v rows):v.lo n=true:=by obtain⟨a,cap,rfl,_⟩:=h;rfl
theorem own_boxes {σ σ' : Store} {k:Nat} {v:V} {rows:List (List V)} (h:Own σ k v rows) (e:σ'.box=σ.box):Own σ' k v rows:=h.frame fun b cs _ hc=>by rw[e];exact hc
theorem gr_tips {σ0 σ σ' : Store} {tk:Tk} {n:Nat} (h:Gr σ0 σ tk n) (hs:σ0.sub σ') (e:σ'.tip=σ.tip):Gr σ0 σ' tk n:=⟨hs,h.tk.imp id fun⟨τ,a,b,c⟩=>⟨τ,a,by rw[e];exact b,c⟩⟩
theorem mes_len:∀(fs:List (Nd × Nat)),fs.length≤mesF fs
  | []=>Nat.le_refl _
  | f::fs=>by have:=mes_len fs;simp only[mesF,List.length_cons];omega
def z29_:=And.intro @am <| And.intro @amc <| And.intro @ams <| And.intro @Nd.rec_ <| And.intro @Scp.rec_ @Ins.rec_
theorem ccompile_calls (s:Scp) (lat:Int) (n:Nd) {σ:Store} (hg:TZ σ) (hs:s.ok) (hw:n.wt≤big) (hc:n.cnt≤100000) :
    PCalls prog 13 [.agg s.enc,.int .i64 lat,.agg n.enc] σ fun v σ' => v=codeT (compR s lat n)∧σ' = σ:=by
  refine fn13.calls ?_;simp only[slots,ac13,z29_,Nat.reduceAdd];have no:∀(u:List V) (l:List (List V)) (σ1:Store),compR s lat n=none→σ.sub σ1→RetK (fun v σ' => v=codeT (compR s lat n)∧σ' = σ) ⟨u,l,σ1⟩ (.tup [.sl .full 10 [],.bool false]):=fun u l σ1 h h' => by
    rw[h];exact retK_intro rfl h' ⟨rfl,rfl⟩
  by_cases hn:lat<0
  · simp only[am,amc,decide_eq_true hn];exact no _ _ _ (by rw[compR,if_neg (by omega)]) (Store.sub_refl _)
  · obtain⟨lat,rfl⟩:∃m:Nat,lat=m:=⟨lat.toNat,by omega⟩;simp only[am,List.length_map,Scp.rec_,List.length_map,decide_eq_false hn]
    by_cases hlat:s.lats.length≤lat
    · simp only[am,amc,decide_eq_true (show (s.lats.length:Int)≤(lat:Nat) by omega)];exact no _ _ _ (by rw[compR,if_neg (by omega)]) (Store.sub_refl _)
    · have hlt:lat<s.lats.length:=by omega
      simp only[am,Nd.rec_,decide_eq_false (show ¬(s.lats.length:Int)≤(lat:Nat) by omega)];refine cl (label_is_calls _ n σ (Nat.le_refl _) hw) ?_;cases hl:n.labelQ with
      | false =>
        simp only[am,amc];exact no _ _ _ (by rw[compR,hl,if_neg (by simp)]) (Store.sub_refl _)
      | true =>
        have hR:=compR_in hlt hl;simp only[am,amo,Nd.rec_,fr_rec];refine Own.mk1 (c:=frE (n,0)) (by simp[keepV,V.cells,fr_len,fr_nol,fr_one,V.wd]) fr_len fr_nol fun v σ1 hO hS=>?_
        simp only[am];obtain⟨I,hI⟩:∃I:CF s lat n σ→St,∀p,I p=invCF s lat n p.out p.v p.tk p.st:=⟨_,fun _=>rfl⟩;refine vc_loop I (fun p=>mesF p.fs) ?_ ?_
        · refine Upd.enter (I:=I) ⟨[(n,0)],[],v,.full,σ1,by simp only[finF,restF_zero];cases compF s lat n<;>rfl,by simp[hl],?_,by simpa using hO,hS,⟨hS.sub,.inl rfl⟩⟩ ?_ ?_ ?_
          · have:=Nd.cnt_pos n;simp only[mesF,List.drop_zero,List.length_nil];omega
          all_goals simp[hI,invCF,List.replicate,am,lle_self]
        · rintro⟨fs,out,v,tk,σ1,hfin,hall,hmes,hO,hS,hG⟩;simp only[hI,invCF,List.replicate,am,amo];have hml:=mes_len fs;refine hO.len ?_;cases fs with
          | nil =>
            have e:compF s lat n=some out:=by rw[←hfin];rfl
            simp only[am,amc,List.reverse_nil,List.map_nil,List.length_nil,show decide ((0:Int)<((0:Nat):Int))=false from rfl];exact retK_intro rfl hG.sub ⟨by rw[hR,e];rfl,rfl⟩
          | cons f fs =>
            obtain⟨m,d⟩:=f;obtain⟨hml1,hmw,hmc⟩:=hall (m,d) (by simp);simp only at hml1 hmw hmc;have hrl:(List.map frE ((m,d)::fs).reverse).length=fs.length+1:=by simp
            have hat:(List.map frE ((m,d)::fs).reverse)[fs.length]?=some (frE (m,d)):=by simp
            have htake:(List.map frE ((m,d)::fs).reverse).take fs.length=List.map frE fs.reverse:=by simp
            have hlb:fs.length+1≤2*n.cnt+1:=by simp only[List.length_cons] at hml;omega
            have hgs:TZ σ1:=hG.sub.1 _ _ hg;simp only[am,amo,hrl,show decide ((0:Int)<((fs.length+1:Nat):Int))=true from decide_eq_true (by omega)];refine hO.len ?_;simp only[am,amo,hrl];rw[wrap_i64 (by omega) (by omega),show ((fs.length+1:Nat):Int) - 1=(fs.length:Nat) by omega];refine hO.idx (by omega) (j:=(fs.length:Nat)) (c:=frE (m,d)) (by rw[Int.toNat_natCast];exact hat) fun b cs rest hb hcs hdr=>?_
            rw[Int.toNat_natCast] at hdr ⊢;have hld:takeN 6 (cs.drop (fs.length*6))=some (frE (m,d)):=by rw[hdr];exact takeN_app fr_len
            simp only[am,Nat.reduceAdd,hcs,hld,fr_rec]
            by_cases hk:m.kind=1∨m.kind=7
            · have hsel:(decide (m.kind=1)=true)∨(decide (m.kind=1)=false∧decide (m.kind=7)=true):=by
                by_cases h1:m.kind=1
                · exact .inl (decide_eq_true h1)
                · exact .inr ⟨decide_eq_false h1,decide_eq_true (by simpa [h1] using hk)⟩
              have hlf:=restF_leaf (s:=s) (lat:=lat) (d:=d) (fs:=fs) (out:=out) hk;rw[hlf] at hfin
              rcases hsel with e1 | ⟨e1,e2⟩
              case' inl=>simp only[am,Nd.rec_,Scp.rec_,e1,fr_rec]
              case' inr=>simp only[am,Nd.rec_,Scp.rec_,e1,e2,fr_rec]
              all_goals
                refine(leaf_calls14 s lat m hgs hs hlt (by omega) (by omega) hml1 hk).mono ?_;rintro v' σ' ⟨⟨i,rfl,hi⟩,rfl⟩;simp only[am,Nat.reduceAdd,Ins.rec_];cases hleaf:leafF s lat m with
                | none =>
                  rw[hleaf] at hfin;simp only[am,amc,Option.isSome_none];exact no _ _ _ (by rw[hR,←hfin]) hG.sub
                | some j =>
                  obtain rfl:=hi j hleaf;rw[hleaf] at hfin;simp only[am,Ins.rec_,Option.isSome_some];refine Gr.app (by simpa using hG) (by simp only[mesF] at hmes;simp[big];omega) fun tk' σ2 hG' hB _=>?_
                  simp only[am,amo];refine(own_boxes hO hB).take (m:=fs.length) (by omega) (Int.toNat_natCast _) (by rw[hrl];omega) fun v2 hO2 hb2=>?_
                  rw[htake] at hO2;simp only[am,amc,Nat.reduceEqDiff,reduceCtorEq];refine Upd.againD (I:=I) ⟨fs,out++[i],v2,tk',σ2,hfin,fun f hf=>hall f (List.mem_cons_of_mem _ hf),by simp only[mesF] at hmes;rw[List.length_append,List.length_singleton];omega,hO2,⟨hG'.sub,fun b hb=>hS.new b (by rw[←hb2];exact hb)⟩,by simpa using hG'⟩ (by simp only[mesF];omega) ?_ ?_ ?_ ?_ ?_
                  all_goals simp[hI,invCF,List.replicate,am,lle_self,loL,loLL,V.lo,Scp.r_lo,Nd.r_lo,own_lo hO2]
            · have e1:decide (m.kind=1)=false:=decide_eq_false fun h=>hk (.inl h)
              have e7:decide (m.kind=7)=false:=decide_eq_false fun h=>hk (.inr h)
              simp only[am,e1,e7];have hkids:=label_kids hml1 hk;have hkc:=cnt_kids m
              by_cases h9:m.kind=9
              case' pos =>
                have eo:opF m=⟨4,m.kids.length,.zero⟩:=by rw[opF,if_pos h9]
                simp only[am,List.length_map,List.length_map,decide_eq_true h9,fr_rec]
              case' neg =>
                have eo:opF m=⟨3,m.kids.length,.zero⟩:=by rw[opF,if_neg h9]
                simp only[am,List.length_map,List.length_map,decide_eq_false h9,fr_rec]
              all_goals
                by_cases hd:d<m.kids.length
                · have hdr5:cs.drop (fs.length*6+5)=(frE (m,d)).drop 5++rest:=by
                    rw[←List.drop_drop,hdr,List.drop_append_of_le_length (by rw[fr_len];omega)]
                  have h5:(frE (m,d)).drop 5=[.int .i64 (d:Nat)]:=by rw[fr_ex];rfl
                  have hld5:ldC false 1 (cs.drop (fs.length*6+5))=some (.int .i64 (d:Nat)):=by rw[hdr5,h5];rfl
                  have hhas5:hasN 1 (cs.drop (fs.length*6+5))=true:=by rw[hdr5,h5];rfl
                  obtain⟨hO2,hF2⟩:=hO.put (off:=5) (x:=[.int .i64 ((d+1:Nat):Int)]) hat hb hcs (by simp);have hset:(List.map frE ((m,d)::fs).reverse).set fs.length (setAt (frE (m,d)) 5 [.int .i64 ((d+1:Nat):Int)])=List.map frE ((m,d+1)::fs).reverse:=by
                    rw[fr_st];simp
                  rw[hset] at hO2;have hmm:m.kids[d]∈m.kids:=List.getElem_mem hd;have hkw:=kid_wt hmm;have hkc2:=cnt_kid hmm;simp only[am,amo,dlt hd];refine hO.idx (by omega) (j:=(fs.length:Nat)) (c:=frE (m,d)) (by rw[Int.toNat_natCast];exact hat) fun b2 cs2 rest2 hb2 hcs2 _=>?_
                  obtain rfl:b=b2:=by rw[hb] at hb2;exact Option.some.inj hb2
                  rw[Int.toNat_natCast];simp only[am,amo,hcs,hld5,winc hd (by omega)];refine hO.idx (by omega) (j:=(fs.length:Nat)) (c:=frE (m,d)) (by rw[Int.toNat_natCast];exact hat) fun b2 cs2 rest2 hb2 hcs2 _=>?_
                  obtain rfl:b=b2:=by rw[hb] at hb2;exact Option.some.inj hb2
                  rw[Int.toNat_natCast];simp only[am,hcs,hhas5,fr_rec];refine idxL_intro (by omega) (nencs_at (List.getElem?_eq_getElem hd)) ?_;simp only[am,amo,Nd.rec_,fr_rec];refine hO2.app (m:=[frE (m.kids[d],0)]) (by simp[fr_len]) (by simp[fr_nol]) (by simp[big];omega) fun v3 σ3 hO3 hF3=>?_
                  have hS3:=(hS.step hF2).step hF3;have hG3:=gr_tips hG hS3.sub (hF3.tip.trans hF2.tip);simp only[am,amc,reduceCtorEq];refine Upd.againD (I:=I) ⟨(m.kids[d],0)::(m,d+1)::fs,out,v3,tk,σ3,by rw[←restF_kid hk hd];exact hfin,?_,?_,by simpa using hO3,hS3,hG3⟩ (mes_kid hd) ?_ ?_ ?_ ?_ ?_
                  · intro f hf
                    rcases List.mem_cons.1 hf with rfl | hf
                    · exact⟨hkids _ hmm,by simp only;omega,by simp only;omega⟩
                    · rcases List.mem_cons.1 hf with rfl | hf
                      · exact⟨hml1,hmw,hmc⟩
                      · exact hall f (List.mem_cons_of_mem _ hf)
                  · have:=mes_kid (fs:=fs) hd;omega
                  all_goals simp[hI,invCF,List.replicate,am,lle_self,loL,loLL,V.lo,Scp.r_lo,Nd.r_lo,own_lo hO3]
                · simp only[am,List.length_map,Ins.rec_,List.length_map,decide_eq_false (show ¬(d:Int)<(m.kids.length:Nat) by omega),fr_rec];refine Gr.app (by simpa using hG) (by simp only[mesF] at hmes;simp[big];omega) fun tk' σ2 hG' hB _=>?_
                  simp only[am,amo];refine(own_boxes hO hB).take (m:=fs.length) (by omega) (Int.toNat_natCast _) (by rw[hrl];omega) fun v2 hO2 hb2=>?_
                  rw[htake] at hO2;simp only[am];refine Upd.againD (I:=I) ⟨fs,out++[opF m],v2,tk',σ2,by rw[←restF_end hk (Nat.le_of_not_lt hd)];exact hfin,fun f hf=>hall f (List.mem_cons_of_mem _ hf),by simp only[mesF] at hmes;rw[List.length_append,List.length_singleton];omega,hO2,⟨hG'.sub,fun b hb=>hS.new b (by rw[←hb2];exact hb)⟩,by simpa using hG'⟩ (by simp only[mesF];omega) ?_ ?_ ?_ ?_ ?_
                  all_goals simp[hI,invCF,List.replicate,am,lle_self,loL,loLL,V.lo,Scp.r_lo,Nd.r_lo,eo,Ins.zero,own_lo hO2]
end Go.Proofs.Tryd

namespace Go.Proofs.Tryd
open Go.Am
set_option maxRecDepth 4000
set_option maxHeartbeats 4000000
def ac6:AC:=.seq (.reg [⟨(some 3),.box 2 (.s 0),none⟩,⟨(some 6),.alloc elmZ,none⟩,⟨(some 7),.mv (.c (.bool false)),none⟩])
 (.seq (.seq (.reg [xm 12 1,xc 8 13 [.s 12],⟨(some 14),.not (.s 13),none⟩])
 (.cond (.s 14) (.seq (.reg [⟨(some 15),.build elmZ [],none⟩,xs 8 6 15,⟨(some 7),.mv (.c (.bool false)),none⟩])
 (.ret))
 (.skip)))
 (.seq (.reg [⟨(some 8),.mv (.c (.sl .full 8 [])),none⟩])
 (.seq (.seq (.reg [xm 16 1,xL 17 16,xi 18 0])
 (.block 0 (.loop (.seq (.reg [xb .lss 19 18 17])
 (.seq (.cond (.s 19) (.skip)
 (.exit 0))
 (.seq (.block 1 (.seq (.reg [xA 10 20 16 18,xl 10 21 20,⟨(some 10),.alloc insZ,none⟩,xs 10 10 21])
 (.seq (.reg [xf 0 22 10,xo 23 22])
 (.block 2 (.seq (.reg [xB .eql 43 23 1,xm 42 43])
 (.cond (.s 42) (.seq (.seq (.reg [xf 1 44 10,xo 45 44,xB .lss 46 45 0,xm 47 46,xh 47 (xf 1 48 10),xh 47 (xo 49 48),xh 47 (xm 50 2),xh 47 (xL 51 50),xh 47 (xb .geq 52 49 51),⟨(some 53),.pick (.s 47) (.c (.bool true)) (.s 52),none⟩])
 (.cond (.s 53) (.seq (.reg [⟨(some 54),.build elmZ [],none⟩,xs 8 6 54,⟨(some 7),.mv (.c (.bool false)),none⟩])
 (.ret))
 (.skip)))
 (.reg [xm 55 8,xm 56 2,xf 1 57 10,xo 58 57,xA 8 59 56 58,xl 8 60 59,⟨(some 61),.bslice 8 [(.s 60)],none⟩,xa 8 62 55 61,xm 8 62]))
 (.seq (.reg [xB .eql 64 23 2,xm 63 64])
 (.cond (.s 63) (.reg [xm 65 8,xf 2 66 10,xl 8 67 66,⟨(some 68),.bslice 8 [(.s 67)],none⟩,xa 8 69 65 68,xm 8 69])
 (.seq (.reg [xm 24 8,xL 25 24,xf 1 26 10,xo 27 26,xb .sub 28 25 27,xm 11 28])
 (.seq (.draw [(xm 29 8,[]),(xm 30 11,[]),(xm 31 11,[]),(⟨(some 32),.slc 8 (.s 29) none (some (.s 30)) (some (.s 31)),none⟩,[]),(xl 2 33 3,[]),(xf 0 34 10,[]),(xo 35 34,[]),(xm 36 8,[]),(xm 37 11,[]),(⟨(some 38),.slc 8 (.s 36) (some (.s 37)) none none,none⟩,[]),(xc 14 39 [.s 33,.s 35,.s 38],[]),(⟨(some 40),.bslice 8 [(.s 39)],none⟩,[])])
 (.reg [xa 8 41 32 40,xm 8 41])))))))))))
 (.reg [xB .add 70 18 1,xm 18 70])))))))
 (.seq (.reg [xm 71 8,⟨(some 72),.idxA 8 (.s 71) (.c (.int .i64 0)),none⟩,xl 8 73 72,xs 8 6 73,⟨(some 7),.mv (.c (.bool true)),none⟩])
 (.ret)))))
theorem fn6:IsFn prog 6 ac6 [.cell 6 true 8,.tmp 7] 74:=⟨f6,⟨[],[],[9]⟩,func6,by kernel_rfl,by kernel_rfl,by kernel_rfl,by kernel_rfl⟩
def ac8:AC:=.seq (.reg [⟨(some 2),.mv (.c (.bool false)),none⟩])
 (.seq (.reg [xi 3 0])
 (.seq (.seq (.reg [xm 6 0,xL 7 6,xi 8 0])
 (.block 0 (.loop (.seq (.reg [xb .lss 9 8 7])
 (.seq (.cond (.s 9) (.skip)
 (.exit 0))
 (.seq (.block 1 (.seq (.reg [xA 10 10 6 8,xl 10 11 10,⟨(some 5),.alloc insZ,none⟩,xs 10 5 11])
 (.seq (.reg [xf 0 12 5,xo 13 12])
 (.block 2 (.seq (.seq (.reg [xB .eql 15 13 1,xm 14 15])
 (.cond (.s 14) (.skip)
 (.reg [xB .eql 16 13 2,xm 14 16])))
 (.cond (.s 14) (.reg [xm 17 3,xB .add 18 17 1,xm 3 18])
 (.seq (.seq (.reg [xB .eql 20 13 3,xm 19 20])
 (.cond (.s 19) (.skip)
 (.reg [xB .eql 21 13 4,xm 19 21])))
 (.cond (.s 19) (.seq (.seq (.reg [xf 1 22 5,xo 23 22,xB .lss 24 23 1,xm 25 24,xh 25 (xf 1 26 5),xh 25 (xo 27 26),xh 25 (xm 28 3),xh 25 (xb .gtr 29 27 28),⟨(some 30),.pick (.s 25) (.c (.bool true)) (.s 29),none⟩])
 (.cond (.s 30) (.seq (.reg [⟨(some 2),.mv (.c (.bool false)),none⟩])
 (.ret))
 (.skip)))
 (.reg [xm 31 3,xf 1 32 5,xo 33 32,xB .sub 34 33 1,xb .sub 35 31 34,xm 3 35]))
 (.seq (.reg [⟨(some 2),.mv (.c (.bool false)),none⟩])
 (.ret))))))))))
 (.reg [xB .add 36 8 1,xm 8 36])))))))
 (.seq (.reg [xm 37 3,xB .eql 38 37 1,xm 2 38])
 (.ret))))
theorem fn8:IsFn prog 8 ac8 [.tmp 2] 39:=⟨f8,⟨[],[],[]⟩,func8,by kernel_rfl,by kernel_rfl,by kernel_rfl,by kernel_rfl⟩
def ac14:AC:=.seq (.reg [⟨(some 3),.box 2 (.s 0),none⟩,⟨(some 6),.alloc elmZ,none⟩])
 (.seq (.reg [xm 9 2,xm 10 2,xL 11 10,xB .sub 12 11 1,xA 8 13 9 12,xl 8 14 13,⟨(some 7),.alloc elmZ,none⟩,xs 8 7 14])
 (.seq (.seq (.reg [xm 15 2,xL 16 15,xB .sub 17 16 2,xm 8 17])
 (.block 0 (.loop (.seq (.seq (.reg [xm 18 8,xB .geq 19 18 0])
 (.cond (.s 19) (.skip)
 (.exit 0)))
 (.seq (.block 1 (.seq (.seq (.reg [xm 22 1,xB .eql 23 22 3])
 (.cond (.s 23) (.seq (.draw [(xl 2 24 3,[]),(xm 25 2,[]),(xm 26 8,[]),(xA 8 27 25 26,[]),(xl 8 28 27,[]),(xl 8 29 7,[]),(xc 20 30 [.s 24,.s 28,.s 29],[]),(xs 8 7 30,[])])
 (.exit 1))
 (.skip)))
 (.draw [(xm 31 2,[]),(xm 32 8,[]),(xA 8 33 31 32,[]),(xl 8 34 33,[]),(xl 8 35 7,[]),(xc 21 36 [.s 34,.s 35],[]),(xs 8 7 36,[])])))
 (.reg [xm 20 8,xB .sub 21 20 1,xm 8 21]))))))
 (.seq (.reg [xl 8 37 7,xs 8 6 37])
 (.ret))))
theorem fn14:IsFn prog 14 ac14 [.cell 6 true 8] 38:=⟨f14,⟨[],[],[]⟩,func14,by kernel_rfl,by kernel_rfl,by kernel_rfl,by kernel_rfl⟩
theorem cright_calls (l:List Ins) (σ:Store) (hl:l.length≤100000):PCalls prog 8 [.sl .no 10 (l.map Ins.enc)] σ fun v σ' => v = .bool (rightC l)∧σ' = σ:=by
  refine fn8.calls ?_;simp only[slots,ac8,am,ams,Ins.rec_,List.length_map];obtain⟨F,hF⟩:∃F:Nat→Nat→St,∀i d,F i d=⟨[.any,.any,.bool false,.int .i64 (d:Nat),.any,.any,.sl .no 10 (l.map Ins.enc),.int .i64 (l.length:Nat),.int .i64 (i:Nat)]++List.replicate 30 .any,[],σ⟩:=⟨_,fun _ _=>rfl⟩;obtain⟨JF,hJF⟩:∃JF:Nat→Nat→Prop,∀i d,JF i d=(deepF l 0=deepF (l.drop i) d∧d≤i):=⟨_,fun _ _=>rfl⟩;refine vc_count (l.length) F JF _ hJF ?_ ?_ ?_
  · refine ent (0) ?_ ?_ ?_ ?_
    · exact Eq.mpr (hJF _ _) (⟨rfl,Nat.le_refl _⟩)
    all_goals simp[hF,List.replicate,am,lle_self]
  · rintro i d hi ⟨hJ,hd⟩;rw[List.drop_eq_getElem_cons hi,deepF] at hJ;have no:deepF l 0=none→rightC l=false:=fun h=>by rw[rightC,h];rfl
    simp only[hF,List.replicate,am,dlt hi];refine idxL_intro (by omega) (codes_at hi) ?_;simp only[am,Ins.rec_]
    by_cases h1:l[i].op=1∨l[i].op=2
    · rw[if_pos h1] at hJ;have hsel:(decide (l[i].op=1)=true)∨(decide (l[i].op=1)=false∧decide (l[i].op=2)=true):=by
        by_cases h:l[i].op=1
        · exact .inl (decide_eq_true h)
        · exact .inr ⟨decide_eq_false h,decide_eq_true (by simpa [h] using h1)⟩
      rcases hsel with e1 | ⟨e1,e2⟩
      case' inl=>simp only[am,aml,e1,winc hi (by omega),winc (n:=d+1) (Nat.lt_succ_self d) (by omega)]
      case' inr=>simp only[am,aml,e1,e2,winc hi (by omega),winc (n:=d+1) (Nat.lt_succ_self d) (by omega)]
      all_goals
        refine nxtD (d+1) hi ?_ ?_ ?_ ?_ ?_ ?_
        · exact Eq.mpr (hJF _ _) (⟨hJ,by omega⟩)
        all_goals simp[hF,List.replicate,am,lle_self,loL,loLL,V.lo]
    · rw[if_neg h1] at hJ;have e1:decide (l[i].op=1)=false:=decide_eq_false fun h=>h1 (.inl h)
      have e2:decide (l[i].op=2)=false:=decide_eq_false fun h=>h1 (.inr h)
      by_cases h3:l[i].op=3∨l[i].op=4
      · rw[if_pos h3] at hJ;have hsel:(decide (l[i].op=3)=true)∨(decide (l[i].op=3)=false∧decide (l[i].op=4)=true):=by
          by_cases h:l[i].op=3
          · exact .inl (decide_eq_true h)
          · exact .inr ⟨decide_eq_false h,decide_eq_true (by simpa [h] using h3)⟩
        rcases hsel with e3 | ⟨e3,e4⟩
        case' inl=>simp only[am,Ins.rec_,e1,e2,e3]
        case' inr=>simp only[am,Ins.rec_,e1,e2,e3,e4]
        all_goals
          by_cases hb:l[i].n<1
          · rw[if_pos (.inl hb)] at hJ;simp only[am,aml,decide_eq_true hb];refine retS ?_;simp[V.erase,no hJ]
          · simp only[am,Ins.rec_,decide_eq_false hb]
            by_cases hb2:((d:Nat):Int)<l[i].n
            · rw[if_pos (.inr hb2)] at hJ;simp only[am,aml,decide_eq_true hb2];refine retS ?_;simp[V.erase,no hJ]
            · rw[if_neg (by omega)] at hJ;simp only[am,aml,Ins.rec_,decide_eq_false hb2];rw[wrap_i64 (x:=l[i].n - 1) (by omega) (by omega),wrap_i64 (x:=((d:Nat):Int) - (l[i].n - 1)) (by omega) (by omega),show ((d:Nat):Int) - (l[i].n - 1)=((d - (l[i].n.toNat - 1):Nat):Int) by omega];simp only[winc hi (by omega)];refine nxtD (d - (l[i].n.toNat - 1)) hi ?_ ?_ ?_ ?_ ?_ ?_
              · exact Eq.mpr (hJF _ _) (⟨hJ,by omega⟩)
              all_goals simp[hF,List.replicate,am,lle_self,loL,loLL,V.lo]
      · rw[if_neg h3] at hJ;have e3:decide (l[i].op=3)=false:=decide_eq_false fun h=>h3 (.inl h)
        have e4:decide (l[i].op=4)=false:=decide_eq_false fun h=>h3 (.inr h)
        simp only[am,aml,e1,e2,e3,e4];refine retS ?_;simp[V.erase,no hJ]
  · rintro d ⟨hJ,hd⟩;rw[List.drop_length,deepF] at hJ;simp only[hF,List.replicate,am,aml,dnl,aml];refine retS ?_;simp[V.erase,rightC,hJ];omega
theorem slcL_fullq {k:Nat} {τ:Tk} {m:List (List V)} {j j' : IntKind} {b:Nat} {H:V→Prop} (h2:b≤m.length) (h:H (.sl .full k (m.take b))):slcL k (.sl τ k m) none (some (.int j b)) (some (.int j' b)) H:=.inl ⟨τ,m,0,b,rfl,Nat.zero_le _,h2,rfl,⟨j,rfl⟩,⟨j',rfl⟩,h⟩
theorem elms_at {l:List Elm} {j:Nat} (h:j<l.length):(l.map Elm.enc)[((j:Nat):Int).toNat]?=some l[j].enc:=by simp[h]
theorem fold_calls (s:Shp) (op:Int) (l:List Elm) {σ:Store} (hg:TZ σ) (hok:s.ok) (h0:1≤l.length) (hl:l.length≤100000) :
    PCalls prog 14 [.agg s.enc,.int .i64 op,.sl .no 8 (l.map Elm.enc)] σ fun v σ' => v = .agg (foldE s op l).enc∧σ' = σ:=by
  refine fn14.calls ?_;simp only[slots,ac14,z18_,Nat.reduceAdd,List.length_map];rw[wrap_i64 (by omega) (by omega),show ((l.length:Nat):Int) - 1=((l.length - 1:Nat):Int) by omega];refine idxL_intro (by omega) (elms_at (by omega)) ?_;simp only[am,Nat.reduceAdd,List.length_map,Elm.rec_,List.length_map];rw[wrap_i64 (by omega) (by omega)];obtain⟨F,hF⟩:∃F:Nat→Unit→St,∀k x,F k x=⟨[.any,.int .i64 op,.sl .no 8 (l.map Elm.enc),.ptr (.loc 0) 0,.any,.any,.ptr (.loc 1) 0,.ptr (.loc 2) 0,.int .i64 (((l.length:Nat):Int) - 2 - (k:Nat))]++List.replicate 29 .any,[s.enc,Elm.zero.enc,(foldE s op (l.drop (l.length - 1 - k))).enc],σ⟩:=⟨_,fun _ _=>rfl⟩;obtain⟨JF,hJF⟩:∃JF:Nat→Unit→Prop,∀k x,JF k x=(True):=⟨_,fun _ _=>rfl⟩;refine vc_count (l.length - 1) F JF _ hJF ?_ ?_ ?_
  · have e:l.drop (l.length - 1)=[l[l.length - 1]]:=by rw[List.drop_eq_getElem_cons (by omega),List.drop_of_length_le (by omega)]
    refine ent (()) ?_ ?_ ?_ ?_
    · exact Eq.mpr (hJF _ _) (trivial)
    all_goals simp[hF,List.replicate,am,lle_self,e,foldE]
  · rintro k x hi -;have hk:l.length - 2 - k<l.length:=by omega
    have hf:=foldE_drop' (s:=s) (op:=op) (l:=l) (i:=l.length - 2 - k) (j:=l.length - 1 - k) (by omega) (by omega) hk;have hj:((l.length:Nat):Int) - 2 - (k:Nat)=((l.length - 2 - k:Nat):Int):=by omega
    have hj2:((l.length:Nat):Int) - 2 - ((k+1:Nat):Int)=((l.length - 2 - k:Nat):Int) - 1:=by omega
    have hj4:((l.length:Nat):Int) - 2 - (((k:Nat):Int)+1)=((l.length - 2 - k:Nat):Int) - 1:=by omega
    have hj3:l.length - 1 - (k+1)=l.length - 2 - k:=by omega
    simp only[hF,List.replicate,am,hj,show decide ((0:Int)≤((l.length - 2 - k:Nat):Int))=true from decide_eq_true (by omega)]
    by_cases h3:op=3
    · rw[stepE,if_pos h3] at hf;simp only[am,Shp.rec_,decide_eq_true h3];refine idxL_intro (by omega) (elms_at hk) ?_;simp only[am,Shp.rec_,Elm.rec_];refine CallD.intro (join_calls7 s l[l.length - 2 - k] (foldE s op (l.drop (l.length - 1 - k))) hg hok) ?_;simp only[am,aml,reduceCtorEq,Elm.rec_,←hf];rw[wrap_i64 (by omega) (by omega)];refine nxt (()) hi ?_ ?_ ?_ ?_
      · exact Eq.mpr (hJF _ _) (trivial)
      all_goals simp[hF,List.replicate,am,lle_self,hj3,hj4]
    · rw[stepE,if_neg h3] at hf;simp only[am,decide_eq_false h3];refine idxL_intro (by omega) (elms_at hk) ?_;simp only[am,Elm.rec_];refine CallD.intro (meet_calls7 l[l.length - 2 - k] (foldE s op (l.drop (l.length - 1 - k))) σ) ?_;simp only[am,aml,Elm.rec_,←hf];rw[wrap_i64 (by omega) (by omega)];refine nxt (()) hi ?_ ?_ ?_ ?_
      · exact Eq.mpr (hJF _ _) (trivial)
      all_goals simp[hF,List.replicate,am,lle_self,hj3,hj4]
  · rintro x -;simp only[hF,List.replicate,am,aml,aml,Elm.rec_,decide_eq_false (show ¬(0:Int)≤((l.length:Nat):Int) - 2 - ((l.length - 1:Nat):Int) by omega),Nat.sub_self,List.drop_zero];exact retK_intro (v:=.agg (foldE s op l).enc) Elm.r_nol (Store.sub_refl _) ⟨by simp only[V.erase,Elm.r_er],rfl⟩
def z30_:=And.intro @am <| And.intro @ams <| And.intro @Shp.rec_ <| And.intro @Elm.rec_ @Ins.rec_
def z31_:=And.intro @am <| And.intro @amc <| And.intro @Shp.rec_ @Ins.rec_
theorem eval_calls (s:Shp) (l:List Ins) (v:List Elm) {σ:Store} (hg:TZ σ) (hok:s.ok) (hl:l.length≤50000) (hv:v.length≤100000) :
    PCalls prog 6 [.agg s.enc,.sl .no 10 (l.map Ins.enc),.sl .no 8 (v.map Elm.enc)] σ fun r σ' => r=evalT (evalF s l v)∧σ' = σ:=by
  refine fn6.calls ?_;simp only[slots,ac6,z30_,Nat.reduceAdd];have done:∀(e:Elm) (b:Bool) (t:List V) (lo:List (List V)) (σ1:Store),evalT (evalF s l v) = .tup [.agg e.enc,.bool b]→σ.sub σ1→RetK (fun r σ' => r=evalT (evalF s l v)∧σ' = σ) ⟨t,lo,σ1⟩ (.tup [.agg e.enc,.bool b]):=fun e b t lo σ1 he hs=>by
    rw[he];exact retK_intro (by simp[V.nol,nolL,Elm.r_nol]) hs ⟨by simp[V.erase,eraseL,Elm.r_er],rfl⟩
  refine cl (cright_calls l σ (by omega)) ?_;cases hr:rightC l with
  | false =>
    simp only[am,Elm.rec_];exact done .zero false _ _ _ (by rw[evalF,hr];rfl) (Store.sub_refl _)
  | true =>
    have hd0:deepF l 0=some 1:=by simpa [rightC] using hr
    simp only[am,List.length_map,List.length_map];obtain⟨F,hF⟩:∃F:Nat→List Elm × Tk × Store→St,∀i x,F i x=⟨[.any,.any,.sl .no 8 (v.map Elm.enc),.ptr (.loc 0) 0,.any,.any,.ptr (.loc 1) 0,.any,.sl x.2.1 8 (x.1.map Elm.enc),.any,.any,.any,.any,.any,.any,.any,.sl .no 10 (l.map Ins.enc),.int .i64 (l.length:Nat),.int .i64 (i:Nat)]++List.replicate 55 .any,[s.enc,Elm.zero.enc],x.2.2⟩:=⟨_,fun _ _=>rfl⟩;obtain⟨JF,hJF⟩:∃JF:Nat→List Elm × Tk × Store→Prop,∀i x,JF i x=(runF s v l []=runF s v (l.drop i) x.1∧deepF (l.drop i) x.1.length=some 1∧x.1.length≤i∧Gr σ x.2.2 x.2.1 x.1.length):=⟨_,fun _ _=>rfl⟩;refine vc_count (l.length) F JF _ hJF ?_ ?_ ?_
    · refine ent (([],.full,σ)) ?_ ?_ ?_ ?_
      · exact Eq.mpr (hJF _ _) (⟨rfl,hd0,Nat.le_refl _,Gr.nil⟩)
      all_goals simp[hF,List.replicate,am,lle_self]
    · rintro i ⟨st,tk,σ1⟩ hi ⟨hJ,hD,hL,hG⟩;simp only at hJ hD hL hG;rw[List.drop_eq_getElem_cons hi] at hJ hD;have hgs:TZ σ1:=hG.sub.1 _ _ hg;simp only[hF,List.replicate,am,dlt hi];refine idxL_intro (by omega) (codes_at hi) ?_;simp only[am,Nat.reduceAdd,Ins.rec_]
      rcases deep_in (by rw[hD];simp) with ⟨h12,hd2⟩ | ⟨h34,h12,hn1,hn2,hd2⟩
      · rw[hd2] at hD;rw[runF] at hJ
        by_cases h1:l[i].op=1
        · rw[if_pos h1] at hJ;simp only[am,Ins.rec_,decide_eq_true h1]
          by_cases hb:l[i].n<0
          · rw[if_neg (by omega)] at hJ;simp only[am,aml,Elm.rec_,decide_eq_true hb];exact done .zero false _ _ _ (by rw[evalF,hr,hJ];rfl) hG.sub
          · obtain⟨m,hm⟩:∃m:Nat,l[i].n=m:=⟨l[i].n.toNat,by omega⟩;simp only[am,List.length_map,Ins.rec_,List.length_map,hm,decide_eq_false (show ¬((m:Nat):Int)<0 by omega)]
            by_cases hb2:v.length≤m
            · rw[if_neg (by omega)] at hJ;simp only[am,aml,Elm.rec_,decide_eq_true (show ((v.length:Nat):Int)≤(m:Nat) by omega)];exact done .zero false _ _ _ (by rw[evalF,hr,hJ];rfl) hG.sub
            · rw[if_pos (by omega),hm,Int.toNat_natCast,getD_at (by omega)] at hJ;simp only[am,Ins.rec_,decide_eq_false (show ¬((v.length:Nat):Int)≤(m:Nat) by omega),hm];refine idxL_intro (by omega) (elms_at (by omega)) ?_;simp only[am,Elm.rec_];refine Gr.app (by simpa using hG) (by simp[big];omega) fun tk' σ' hG' _ _=>?_
              simp only[am,aml,winc hi (by omega)];refine nxtD ((st++[v[m]],tk',σ')) hi ?_ ?_ ?_ ?_ ?_ ?_
              · exact Eq.mpr (hJF _ _) (⟨hJ,by simpa using hD,by simp;omega,by simpa using hG'⟩)
              all_goals simp[hF,List.replicate,am,lle_self,loL,loLL,V.lo,Shp.r_lo,Elm.r_lo]
        · have h2:l[i].op=2:=by simpa [h1] using h12
          rw[if_neg h1,if_pos h2] at hJ;simp only[am,Elm.rec_,Ins.rec_,decide_eq_false h1,decide_eq_true h2];refine Gr.app (by simpa using hG) (by simp[big];omega) fun tk' σ' hG' _ _=>?_
          simp only[am,aml,winc hi (by omega)];refine nxtD ((st++[l[i].c],tk',σ')) hi ?_ ?_ ?_ ?_ ?_ ?_
          · exact Eq.mpr (hJF _ _) (⟨hJ,by simpa using hD,by simp;omega,by simpa using hG'⟩)
          all_goals simp[hF,List.replicate,am,lle_self,loL,loLL,V.lo,Shp.r_lo,Elm.r_lo]
      · rw[hd2] at hD;have e1:¬l[i].op=1:=fun h=>h12 (.inl h)
        have e2:¬l[i].op=2:=fun h=>h12 (.inr h)
        obtain⟨m,hm⟩:∃m:Nat,l[i].n=m:=⟨l[i].n.toNat,by omega⟩;rw[runF,if_neg e1,if_neg e2,hm,Int.toNat_natCast] at hJ;rw[hm,Int.toNat_natCast] at hD;have hkl:st.length - m≤st.length:=Nat.sub_le _ _;simp only[am,amc,List.length_map,Ins.rec_,List.length_map,decide_eq_false e1,decide_eq_false e2,hm];rw[wrap_i64 (by omega) (by omega),show ((st.length:Nat):Int) - ((m:Nat):Int)=((st.length - m:Nat):Int) by omega];refine slcL_fullq (b:=st.length - m) (by simp) ?_;simp only[z31_];refine slcL_from (a:=st.length - m) (by simp) ?_;rw[←List.map_drop,←List.map_take];simp only[am,Shp.rec_];refine CallD.intro (fold_calls s l[i].op (st.drop (st.length - m)) hgs hok (by rw[List.length_drop];omega) (by rw[List.length_drop];omega)) ?_;simp only[am,Elm.rec_];have hlen:(st.take (st.length - m)++[foldE s l[i].op (st.drop (st.length - m))]).length=st.length - (m - 1):=by
          rw[List.length_append,List.length_take,Nat.min_eq_left hkl,List.length_singleton];omega
        refine Gr.app (k:=8) (show Gr σ σ1 .full ((st.take (st.length - m)).map Elm.enc).length from⟨hG.sub,.inl rfl⟩) (by simp[big];omega) fun tk' σ' hG' _ _=>?_
        simp only[am,aml,winc hi (by omega)];refine nxtD ((st.take (st.length - m)++[foldE s l[i].op (st.drop (st.length - m))],tk',σ')) hi ?_ ?_ ?_ ?_ ?_ ?_
        · exact Eq.mpr (hJF _ _) (⟨hJ,by rw[hlen];exact hD,by rw[hlen];omega,by simpa using hG'⟩)
        all_goals simp[hF,List.replicate,am,lle_self,loL,loLL,V.lo,Shp.r_lo,Elm.r_lo]
    · rintro⟨st,tk,σ1⟩ ⟨hJ,hD,hL,hG⟩;simp only at hJ hD hL;rw[List.drop_length] at hJ hD;rw[deepF,Option.some.injEq] at hD;rw[runF] at hJ;simp only[hF,List.replicate,am,aml,dnl,aml];refine idxL_intro (n:=0) (by omega) (elms_at (j:=0) (by omega)) ?_;simp only[am,Elm.rec_];exact done _ true _ _ _ (by rw[evalF,hr,hJ,←getD_at (d:=Elm.zero) (by omega)];rfl) hG.sub
end Go.Proofs.Tryd

namespace Go.Proofs.Tryd
open Go.Am
set_option maxRecDepth 4000
set_option maxHeartbeats 4000000
def ac4:AC:=.seq (.reg [⟨(some 1),.box 2 (.s 0),none⟩,⟨(some 2),.mv (.c (.bool false)),none⟩])
 (.seq (.seq (.reg [xf 1 6 1,xo 7 6,xL 8 7,xB .gtr 9 8 12])
 (.cond (.s 9) (.seq (.reg [⟨(some 2),.mv (.c (.bool true)),none⟩])
 (.ret))
 (.skip)))
 (.seq (.seq (.reg [xi 3 0])
 (.block 0 (.loop (.seq (.seq (.reg [xm 10 3,xf 1 11 1,xo 12 11,xL 13 12,xb .lss 14 10 13])
 (.cond (.s 14) (.skip)
 (.exit 0)))
 (.seq (.block 1 (.seq (.reg [xf 1 17 1,xo 18 17,xm 19 3,xA 67 20 18 19,xl 67 21 20,⟨(some 4),.alloc facZ,none⟩,xs 67 4 21])
 (.seq (.seq (.reg [xf 1 22 4,xo 23 22,xL 24 23,xB .gtr 25 24 70])
 (.cond (.s 25) (.seq (.reg [⟨(some 2),.mv (.c (.bool true)),none⟩])
 (.ret))
 (.skip)))
 (.seq (.reg [xi 5 0])
 (.block 2 (.loop (.seq (.seq (.reg [xm 26 5,xf 1 27 4,xo 28 27,xL 29 28,xb .lss 30 26 29])
 (.cond (.s 30) (.skip)
 (.exit 2)))
 (.seq (.block 3 (.seq (.reg [xf 1 33 4,xo 34 33,xm 35 5,xA 1 36 34 35,xo 37 36,xT 38 37,xB .gtr 39 38 40])
 (.cond (.s 39) (.seq (.reg [⟨(some 2),.mv (.c (.bool true)),none⟩])
 (.ret))
 (.skip))))
 (.reg [xm 31 5,xB .add 32 31 1,xm 5 32])))))))))
 (.reg [xm 15 3,xB .add 16 15 1,xm 3 16]))))))
 (.seq (.reg [⟨(some 2),.mv (.c (.bool false)),none⟩])
 (.ret))))
theorem fn4:IsFn prog 4 ac4 [.tmp 2] 40:=⟨f4,⟨[],[],[]⟩,func4,by kernel_rfl,by kernel_rfl,by kernel_rfl,by kernel_rfl⟩
def facBig (f:Fct):Bool:=decide (70<f.names.length)||f.names.any fun t=>decide (40<t.length)
theorem big7_eq (s:Shp):big7 s=(decide (12<s.facs.length)||s.facs.any facBig):=rfl
theorem any_at {α:Type} {l:List α} {p:α→Bool} {i:Nat} (hi:i<l.length) (h:p l[i]=true):l.any p=true:=List.any_eq_true.2 ⟨_,List.getElem_mem hi,h⟩
theorem any_no {α:Type} {l:List α} {p:α→Bool} (h:∀k∈l,p k=false):l.any p=false:=by
  rw[List.any_eq_false];exact fun k hk=>by rw[h k hk];simp
def z32_:=And.intro @am <| And.intro @aml <| And.intro @Fct.rec_ @sCells_len
theorem big7_calls (s:Shp) (σ:Store):PCalls prog 4 [.agg s.enc] σ fun v σ' => v = .bool (big7 s)∧σ' = σ:=by
  refine fn4.calls ?_;simp only[slots,ac4,am,ams,Shp.rec_,List.length_map];rw[big7_eq]
  by_cases h1:12<s.facs.length
  · simp only[am,decide_eq_true (show (12:Int)<s.facs.length by omega)];refine retS ?_;simp[V.erase,h1]
  · simp only[am,decide_eq_false (show ¬(12:Int)<s.facs.length by omega)];rw[decide_eq_false h1,Bool.false_or];obtain⟨F,hF⟩:∃F:Nat→Unit→St,∀i x,F i x=⟨[.any,.ptr (.loc 0) 0,.any,.int .i64 (i:Nat)]++List.replicate 36 .any,[s.enc],σ⟩:=⟨_,fun _ _=>rfl⟩;obtain⟨JF,hJF⟩:∃JF:Nat→Unit→Prop,∀i x,JF i x=(∀f∈s.facs.take i,facBig f=false):=⟨_,fun _ _=>rfl⟩;refine vc_count (s.facs.length) F JF _ hJF ?_ ?_ ?_
    · refine ent (()) ?_ ?_ ?_ ?_
      · exact Eq.mpr (hJF _ _) (by simp)
      all_goals simp[hF,List.replicate,am,lle_self]
    · rintro i x hi hJ;simp only[hF,List.replicate,am,dlt hi,Shp.rec_,List.length_map];refine idxL_intro (by omega) (facs_at hi) ?_;simp only[am,Fct.rec_,sCells_len]
      by_cases h2:70<s.facs[i].names.length
      · simp only[am,aml,decide_eq_true (show (70:Int)<s.facs[i].names.length by omega)];refine retS ?_;simp[V.erase,any_at hi (show facBig s.facs[i]=true by rw[facBig,decide_eq_true h2];rfl)]
      · simp only[am,decide_eq_false (show ¬(70:Int)<s.facs[i].names.length by omega)];obtain⟨F2,hF2⟩:∃F2:Nat→Unit→St,∀j y,F2 j y=⟨[.any,.ptr (.loc 0) 0,.any,.int .i64 (i:Nat),.ptr (.loc 1) 0,.int .i64 (j:Nat)]++List.replicate 34 .any,[s.enc,s.facs[i].enc],σ⟩:=⟨_,fun _ _=>rfl⟩;obtain⟨JF2,hJF2⟩:∃JF2:Nat→Unit→Prop,∀j y,JF2 j y=(∀t∈s.facs[i].names.take j,decide (40<t.length)=false):=⟨_,fun _ _=>rfl⟩;refine vc_count (s.facs[i].names.length) F2 JF2 _ hJF2 ?_ ?_ ?_
        · refine ent (()) ?_ ?_ ?_ ?_
          · exact Eq.mpr (hJF2 _ _) (by simp)
          all_goals simp[hF2,List.replicate,am,lle_self]
        · rintro j y hj hJ2;simp only[hF2,List.replicate,am,dlt hj,Fct.rec_,sCells_len];refine idxL_intro (by omega) (sCells_at hj) ?_;simp only[am,getD_at hj]
          by_cases h3:40<s.facs[i].names[j].length
          · simp only[am,aml,decide_eq_true (show (40:Int)<s.facs[i].names[j].length by omega)];refine retS ?_;simp[V.erase,any_at hi (show facBig s.facs[i]=true by rw[facBig,any_at hj (decide_eq_true h3)];simp)]
          · simp only[am,aml,decide_eq_false (show ¬(40:Int)<s.facs[i].names[j].length by omega),winc hj (by omega)];refine nxt (()) hj ?_ ?_ ?_ ?_
            · exact Eq.mpr (hJF2 _ _) (take_all hJ2 hj (decide_eq_false h3))
            all_goals simp[hF2,List.replicate,am,lle_self]
        · rintro y hJ2;rw[List.take_length] at hJ2;simp only[hF2,List.replicate,z32_,dnl,Nat.reduceEqDiff,reduceCtorEq];simp only[winc hi (by omega)];refine nxtD (()) hi ?_ ?_ ?_ ?_ ?_ ?_
          · exact Eq.mpr (hJF _ _) (take_all hJ hi (show facBig s.facs[i]=false by rw[facBig,decide_eq_false h2,any_no hJ2];rfl))
          all_goals simp[hF,List.replicate,am,lle_self,loL,loLL,V.lo,Shp.r_lo]
    · rintro x hJ;rw[List.take_length] at hJ;simp only[hF,List.replicate,am,aml,dnl,aml,Shp.rec_,List.length_map];refine retS ?_;simp[V.erase,any_no hJ]
section
variable {l:Ltc} {v:Vrb} {a b c:V} {m:Nat}
end
end Go.Proofs.Tryd
