/-
  Part 5 of the proof of JudgeRoomUptoCardSaid: a logic over the model, the forms of the functions that the law reaches, and what they compute.
-/
import Derived.Test.YtkeidlpchmepkaaGreatDoorProg
import Derived.Test.YtkeidlpchmepkaaGreatDoorRoom4
set_option linter.unusedVariables false
set_option linter.unusedSimpArgs false
set_option linter.defProp false
set_option linter.unusedSectionVars false

namespace Go.Proofs.Tryz
open Go.Am
set_option maxRecDepth 4000
set_option maxHeartbeats 4000000
def ac215:AC:=.seq (.reg [⟨(some 2),.mv (.c (.int .u64 0)),none⟩])
 (.seq (.reg [⟨(some 3),.mv (.c (.int .u64 0)),none⟩])
 (.seq (.seq (.reg [xm 6 0,xL 7 6,xi 8 0])
 (.block 0 (.loop (.seq (.reg [xb .lss 9 8 7])
 (.seq (.cond (.s 9) (.skip)
 (.exit 0))
 (.seq (.block 1 (.seq (.reg [xA 1 10 6 8,xo 11 10,xm 5 11])
 (.reg [xm 12 3,xm 13 5,xc 220 14 [.s 12,.s 13],xm 3 14])))
 (.reg [xB .add 15 8 1,xm 8 15])))))))
 (.seq (.reg [xm 16 3,xm 2 16])
 (.ret))))
theorem fn215:IsFn prog 215 ac215 [.tmp 2] 17:=⟨f215,⟨[],[],[]⟩,func215,by kernel_rfl,by kernel_rfl,by kernel_rfl,by kernel_rfl⟩
def ac220:AC:=.seq (.reg [⟨(some 4),.mv (.c (.int .u64 0)),none⟩])
 (.seq (.seq (.reg [xm 5 1,xc 253 6 [.s 5],⟨(some 7),.not (.s 6),none⟩])
 (.cond (.s 7) (.seq (.reg [xm 8 0,xm 4 8])
 (.ret))
 (.skip)))
 (.seq (.reg [xm 9 0,xm 10 1,⟨(some 11),.cvI .u64 (.s 10),none⟩,⟨(some 12),.binI .shl (.c (.int .u64 1)) (.s 11),none⟩,xb .or 13 9 12,xm 4 13])
 (.ret)))
theorem fn220:IsFn prog 220 ac220 [.tmp 4] 14:=⟨f220,⟨[],[],[]⟩,func220,by kernel_rfl,by kernel_rfl,by kernel_rfl,by kernel_rfl⟩
def ac221:AC:=.seq (.reg [⟨(some 4),.mv (.c (.bool false)),none⟩])
 (.seq (.reg [xm 5 1,xc 253 6 [.s 5],xm 7 6,xg 7 (xm 8 0),xg 7 (xm 9 1),⟨(some 10),.cvI .u64 (.s 9),(some (7,true))⟩,xg 7 (xb .shr 11 8 10),⟨(some 12),.binI .and (.s 11) (.c (.int .u64 1)),(some (7,true))⟩,⟨(some 13),.binI .eql (.s 12) (.c (.int .u64 1)),(some (7,true))⟩,⟨(some 14),.pick (.s 7) (.s 13) (.c (.bool false)),none⟩,xm 4 14])
 (.ret))
theorem fn221:IsFn prog 221 ac221 [.tmp 4] 15:=⟨f221,⟨[],[],[]⟩,func221,by kernel_rfl,by kernel_rfl,by kernel_rfl,by kernel_rfl⟩
def ac249:AC:=.seq (.reg [⟨(some 2),.mv (.c (.sl .full 1 [])),none⟩])
 (.seq (.reg [⟨(some 3),.allocO [(.sl .full 1 [])],none⟩])
 (.seq (.reg [xm 4 0,⟨(some 5),.mkfn (.func 269) [] [(.s 3)],none⟩,xc 268 6 [.s 4,.s 5]])
 (.seq (.reg [xo 7 3,xm 2 7])
 (.ret))))
theorem fn249:IsFn prog 249 ac249 [.tmp 2] 8:=⟨f249,⟨[3],[],[]⟩,func249,by kernel_rfl,by kernel_rfl,by kernel_rfl,by kernel_rfl⟩
def ac250:AC:=.seq (.reg [⟨(some 4),.mv (.c (.bool false)),none⟩])
 (.seq (.reg [xm 5 0,xm 6 1,xb .andNot 7 5 6,⟨(some 8),.binI .eql (.s 7) (.c (.int .u64 0)),none⟩,xm 4 8])
 (.ret))
theorem fn250:IsFn prog 250 ac250 [.tmp 4] 9:=⟨f250,⟨[],[],[]⟩,func250,by kernel_rfl,by kernel_rfl,by kernel_rfl,by kernel_rfl⟩
def ac253:AC:=.seq (.reg [⟨(some 2),.mv (.c (.bool false)),none⟩])
 (.seq (.reg [xm 3 0,xB .geq 4 3 0,xm 5 4,xg 5 (xm 6 0),xg 5 (xB .lss 7 6 64),⟨(some 8),.pick (.s 5) (.s 7) (.c (.bool false)),none⟩,xm 2 8])
 (.ret))
theorem fn253:IsFn prog 253 ac253 [.tmp 2] 9:=⟨f253,⟨[],[],[]⟩,func253,by kernel_rfl,by kernel_rfl,by kernel_rfl,by kernel_rfl⟩
def ac267:AC:=.seq (.reg [⟨(some 2),.mv (.c (.int .u64 0)),none⟩])
 (.seq (.seq (.reg [xm 3 0,xB .leq 4 3 0])
 (.cond (.s 4) (.seq (.reg [⟨(some 2),.mv (.c (.int .u64 0)),none⟩])
 (.ret))
 (.skip)))
 (.seq (.seq (.reg [xm 5 0,xB .geq 6 5 64])
 (.cond (.s 6) (.seq (.reg [⟨(some 2),.mv (.c (.int .u64 18446744073709551615)),none⟩])
 (.ret))
 (.skip)))
 (.seq (.reg [xm 7 0,⟨(some 8),.cvI .u64 (.s 7),none⟩,⟨(some 9),.binI .shl (.c (.int .u64 1)) (.s 8),none⟩,⟨(some 10),.binI .sub (.s 9) (.c (.int .u64 1)),none⟩,xm 2 10])
 (.ret))))
theorem fn267:IsFn prog 267 ac267 [.tmp 2] 11:=⟨f267,⟨[],[],[]⟩,func267,by kernel_rfl,by kernel_rfl,by kernel_rfl,by kernel_rfl⟩
def ac268:AC:=.block 0 (.loop (.seq (.seq (.reg [xm 4 0,⟨(some 5),.binI .neq (.s 4) (.c (.int .u64 0)),none⟩])
 (.cond (.s 5) (.skip)
 (.exit 0)))
 (.block 1 (.seq (.seq (.reg [xm 6 1,xm 7 0,xc 278 8 [.s 7],⟨(some 9),.callv (.s 6) [(.s 8)],none⟩,⟨(some 10),.not (.s 9),none⟩])
 (.cond (.s 10) (.ret)
 (.skip)))
 (.reg [xm 11 0,xm 12 0,⟨(some 13),.binI .sub (.s 12) (.c (.int .u64 1)),none⟩,xb .and 14 11 13,xm 0 14])))))
theorem fn268:IsFn prog 268 ac268 [] 15:=⟨f268,⟨[],[],[]⟩,func268,by kernel_rfl,by kernel_rfl,by kernel_rfl,by kernel_rfl⟩
def ac269:AC:=.seq (.reg [⟨(some 3),.mv (.c (.bool false)),none⟩])
 (.seq (.reg [xo 4 1,xm 5 0,⟨(some 6),.bslice 1 [(.s 5)],none⟩,xa 1 7 4 6,xs 1 1 7])
 (.seq (.reg [⟨(some 3),.mv (.c (.bool true)),none⟩])
 (.ret)))
theorem fn269:IsFn prog 269 ac269 [.tmp 3] 8:=⟨f269,⟨[],[],[]⟩,func269,by kernel_rfl,by kernel_rfl,by kernel_rfl,by kernel_rfl⟩
def ac278:AC:=.seq (.reg [xi 2 0])
 (.seq (.seq (.reg [xm 3 0,⟨(some 4),.binI .eql (.s 3) (.c (.int .u64 0)),none⟩])
 (.cond (.s 4) (.seq (.reg [xi 2 64])
 (.ret))
 (.skip)))
 (.seq (.reg [xm 5 0,xm 6 0,⟨(some 7),.binI .sub (.c (.int .u64 0)) (.s 6),none⟩,xb .and 8 5 7,⟨(some 9),.binI .mul (.s 8) (.c (.int .u64 285870213051353865)),none⟩,⟨(some 10),.binI .shr (.s 9) (.c (.int .u64 58)),none⟩,⟨(some 11),.idxP 64 1 (.c (.ptr (.glo 1) 0)) (.s 10),none⟩,xo 12 11,⟨(some 13),.cvI .i64 (.s 12),none⟩,xm 2 13])
 (.ret)))
theorem fn278:IsFn prog 278 ac278 [.tmp 2] 14:=⟨f278,⟨[],[],[]⟩,func278,by kernel_rfl,by kernel_rfl,by kernel_rfl,by kernel_rfl⟩
def iCells (l:List Int):List (List V):=l.map fun n=>[.int .i64 n]
theorem iCells_len (l:List Int):(iCells l).length=l.length:=by simp[iCells]
theorem iCells_at {l:List Int} {j:Nat} (h:j<l.length):(iCells l)[((j:Nat):Int).toNat]?=some [.int .i64 l[j]]:=by simp[iCells,h]
theorem mask_in_calls (n:Int) (σ:Store):PCalls prog 253 [.int .i64 n] σ fun v σ' => v = .bool (decide (0≤n)&&decide (n<64))∧σ' = σ:=by
  refine fn253.calls ?_;simp only[slots,ac253,am,ams]
  by_cases h:0≤n
  · simp only[am,decide_eq_true h];refine retS ?_;simp[V.erase]
  · simp only[am,decide_eq_false h];refine retS ?_;simp[V.erase]
def z0_:=And.intro @am <| And.intro @ams <| And.intro @w_zero @w_one
theorem mask_with_calls (s:B64) (n:Int) (σ:Store):PCalls prog 220 [.int .u64 (s.toNat:Nat),.int .i64 n] σ fun v σ' => v = .int .u64 ((withB s n).toNat:Nat)∧σ' = σ:=by
  refine fn220.calls ?_;simp only[slots,ac220,z0_,Nat.reduceAdd];refine cl (mask_in_calls n _) ?_;simp only[am]
  by_cases h:0≤n∧n<64
  · obtain⟨m,rfl⟩:∃m:Nat,n=m:=⟨n.toNat,by omega⟩;simp only[am,w_or,w_shl,decide_eq_true h.1,decide_eq_true h.2,wrap_u64 h.1 (by omega:(m:Int)<18446744073709551616)];refine retS ?_;simp[V.erase,withB,h,bitB]
  · have:(decide (0≤n)&&decide (n<64))=false:=by simp only[Bool.and_eq_false_iff,decide_eq_false_iff_not];omega
    simp only[am,this];refine retS ?_;simp[V.erase,withB,h]
theorem mask_of_calls (l:List Int) (σ:Store) (hl:l.length≤100000):PCalls prog 215 [.sl .no 1 (iCells l)] σ fun v σ' => v = .int .u64 ((ofB l).toNat:Nat)∧σ' = σ:=by
  refine fn215.calls ?_;simp only[slots,ac215,am,ams,w_zero];obtain⟨F,hF⟩:∃F:Nat→B64→St,∀i x,F i x=⟨[.sl .no 1 (iCells l),.any,.int .u64 ((0#64:B64).toNat:Nat),.int .u64 (x.toNat:Nat),.any,.any,.sl .no 1 (iCells l),.int .i64 (l.length:Nat),.int .i64 (i:Nat)]++List.replicate 8 .any,[],σ⟩:=⟨_,fun _ _=>rfl⟩;obtain⟨JF,hJF⟩:∃JF:Nat→B64→Prop,∀i x,JF i x=(x=ofB (l.take i)):=⟨_,fun _ _=>rfl⟩;refine vc_count (l.length) F JF _ hJF ?_ ?_ ?_
  · refine ent (0#64) ?_ ?_ ?_ ?_
    · exact Eq.mpr (hJF _ _) (rfl)
    all_goals simp[hF,List.replicate,am,lle_self,iCells_len]
  · rintro i x hi rfl;simp only[hF,List.replicate,am,dlt hi];refine idxL_intro (by omega) (iCells_at hi) ?_;simp only[am];refine cl (mask_with_calls _ _ _) ?_;simp only[am,aml,winc hi (by omega)];refine nxt (withB (ofB (l.take i)) l[i]) hi ?_ ?_ ?_ ?_
    · exact Eq.mpr (hJF _ _) (by rw[List.take_succ_eq_append_getElem hi];simp only[ofB,List.foldl_append,List.foldl_cons,List.foldl_nil])
    all_goals simp[hF,List.replicate,am,lle_self]
  · rintro x rfl;simp only[hF,List.replicate,am,aml,dnl,aml,List.take_length];refine retS ?_;simp[V.erase]
theorem shr_bit (s:B64) (m:Nat):decide (s>>>m&&&1#64=1#64)=s.getLsbD m:=by
  have:(s>>>m&&&1#64=1#64)↔s.getLsbD m=true:=by
    constructor
    · intro h
      have:=congrArg (fun x:B64=>x.getLsbD 0) h
      simpa using this
    · intro h;apply eqB;intro k hk;rw[BitVec.getLsbD_and,BitVec.getLsbD_ushiftRight,BitVec.getLsbD_one]
      by_cases h0:k=0
      · subst h0;simp[h]
      · simp[h0]
  by_cases hc:s.getLsbD m=true
  · rw[hc,decide_eq_true (this.2 hc)]
  · rw[decide_eq_false (fun h=>hc (this.1 h))];simpa using hc
def z1_:=And.intro @am <| And.intro @w_and <| And.intro @w_shr @w_eq
theorem mask_has_calls (s:B64) (n:Int) (σ:Store):PCalls prog 221 [.int .u64 (s.toNat:Nat),.int .i64 n] σ fun v σ' => v = .bool (hasB s n)∧σ' = σ:=by
  refine fn221.calls ?_;simp only[slots,ac221,am,ams,Nat.reduceAdd,w_one];refine cl (mask_in_calls n _) ?_;simp only[am]
  by_cases h:0≤n∧n<64
  · obtain⟨m,rfl⟩:∃m:Nat,n=m:=⟨n.toNat,by omega⟩;simp only[z1_,decide_eq_true h.1,decide_eq_true h.2,wrap_u64 h.1 (by omega:(m:Int)<18446744073709551616),shr_bit];refine retS ?_;simp[V.erase,hasB]
  · have:(decide (0≤n)&&decide (n<64))=false:=by simp only[Bool.and_eq_false_iff,decide_eq_false_iff_not];omega
    simp only[am,this];refine retS ?_;simp[V.erase,hasB];intro h0;exact BitVec.getLsbD_of_ge _ _ (by omega)
def z2_:=And.intro @am <| And.intro @ams <| And.intro @w_zero <| And.intro @w_andNot @w_eq
theorem mask_sub_calls (a b:B64) (σ:Store):PCalls prog 250 [.int .u64 (a.toNat:Nat),.int .u64 (b.toNat:Nat)] σ fun v σ' => v = .bool (subB a b)∧σ' = σ:=by
  refine fn250.calls ?_;simp only[slots,ac250,z2_,Nat.reduceAdd];refine retS ?_;simp[V.erase,subB]
def z3_:=And.intro @am <| And.intro @ams <| And.intro @w_zero <| And.intro @w_one @w_ones
theorem mask_below_calls (n:Int) (σ:Store):PCalls prog 267 [.int .i64 n] σ fun v σ' => v = .int .u64 ((belowB n).toNat:Nat)∧σ' = σ:=by
  refine fn267.calls ?_;simp only[slots,ac267,z3_]
  by_cases h:n≤0
  · simp only[am,decide_eq_true h];refine retS ?_;simp[V.erase,belowB,h]
  · simp only[am,decide_eq_false h]
    by_cases h1:64≤n
    · simp only[am,decide_eq_true h1];refine retS ?_;simp[V.erase,belowB,h,h1]
    · obtain⟨m,rfl⟩:∃m:Nat,n=m:=⟨n.toNat,by omega⟩;simp only[am,w_shl,w_sub,decide_eq_false h1,wrap_u64 (by omega:0≤(m:Int)) (by omega:(m:Int)<18446744073709551616)];have e:belowB (m:Int)=bitB m - 1#64:=by simp only[belowB,h,h1,if_false,Int.toNat_natCast]
      refine retS ?_;simp[V.erase,e,bitB]
abbrev TZ (σ:Store):Prop:=σ.con 1=some tzCells
theorem tz_calls (s:B64) (h:s≠0#64) {σ:Store} (hg:TZ σ):PCalls prog 278 [.int .u64 (s.toNat:Nat)] σ fun v σ' => v = .int .i64 (lowB s:Nat)∧σ' = σ:=by
  refine fn278.calls ?_;simp only[slots,ac278,z2_];obtain⟨h1,h2⟩:=tz_at (lowB s) (lowB_spec h).1;simp only[am,w_and,w_sub,decide_eq_false h,show V.int .u64 285870213051353865 = .int .u64 ((285870213051353865#64:B64).toNat:Nat) from rfl,w_mul];rw[BitVec.zero_sub,neg_low h];generalize hj:((bitB (lowB s)*285870213051353865#64)>>>58).toNat=j at h1 h2;have e58:∀a:B64,intV .u64 (a.toNat:Nat) 58 .shr=some (.int .u64 ((a>>>58).toNat:Nat)):=fun a=>w_shr (m:=58)
  simp only[am,amc,e58,hj];refine idxPL_ptr (by omega) (by omega) ?_;have hd:ldC false 1 (tzCells.drop j)=some (.int .u8 (lowB s:Nat)):=by
    obtain⟨h3,h4⟩:=List.getElem?_eq_some_iff.1 h2;have h5:j<tzCells.length:=by simpa [tzCells] using h3
    rw[List.drop_eq_getElem_cons h5];simp[ldC,tzCells,h4]
  rw[show (((j:Nat):Int).toNat)*1=j by omega];simp only[am,show σ.con 1=some tzCells from hg,hd,wrap_i64 (x:=((lowB s:Nat):Int)) (by omega) (by have:=(lowB_spec h).1;omega)];refine retS ?_;simp[V.erase]
def z4_:=And.intro @am <| And.intro @aml <| And.intro @w_and @w_sub
theorem each_calls (f:FuncId) (cap:List V) (hn:nolL cap=true) (J:List Nat→Store→Prop) (s:B64) (hg:∀l σ,J l σ→TZ σ)
    (h:∀pre k suf σ,listB s=pre++k::suf→J pre σ→PCalls prog f (.int .i64 (k:Nat)::cap) σ fun v σ' => v = .bool true∧J (pre++[k]) σ')
    {σ:Store} (h0:J [] σ):PCalls prog 268 [.int .u64 (s.toNat:Nat),.fn (.func f) [] cap] σ fun v σ' => v = .tup []∧J (listB s) σ' := by
  refine fn268.calls ?_;simp only[slots,ac268,z0_,Nat.reduceAdd];obtain⟨F,hF⟩:∃F:Nat→B64 × Store→St,∀i x,F i x=⟨[.int .u64 (x.1.toNat:Nat),.fn (.func f) [] cap]++List.replicate 13 .any,[],x.2⟩:=⟨_,fun _ _=>rfl⟩;obtain⟨JF,hJF⟩:∃JF:Nat→B64 × Store→Prop,∀i x,JF i x=(listB x.1=(listB s).drop i∧J ((listB s).take i) x.2):=⟨_,fun _ _=>rfl⟩;refine vc_count ((listB s).length) F JF _ hJF ?_ ?_ ?_
  · refine ent ((s,σ)) ?_ ?_ ?_ ?_
    · exact Eq.mpr (hJF _ _) (⟨rfl,h0⟩)
    all_goals simp[hF,List.replicate,am,lle_self]
  · rintro i ⟨x,σ⟩ hi ⟨h1,h2⟩;simp only at h1 h2;have hx:x≠0#64:=listB_ne (by rw[h1];simp;omega);rw[List.drop_eq_getElem_cons hi] at h1;have hl:=listB_cons hx;rw[h1,List.cons.injEq] at hl;obtain⟨hl1,hl2⟩:=hl;simp only[hF,List.replicate,am,w_eq,decide_eq_false hx];refine cl (tz_calls x hx (hg _ _ h2)) ?_;simp only[am];simp only[am,hn];rw[←hl1];refine(h _ _ ((listB s).drop (i+1)) σ (by rw[←List.drop_eq_getElem_cons hi,List.take_append_drop]) h2).mono ?_;rintro v σ' ⟨rfl,h3⟩;simp only[z4_];refine nxt ((x&&&(x - 1#64),σ')) hi ?_ ?_ ?_ ?_
    · exact Eq.mpr (hJF _ _) (⟨hl2.symm,by rw[List.take_succ_eq_append_getElem hi];exact h3⟩)
    all_goals simp[hF,List.replicate,am,lle_self]
  · rintro⟨x,σ⟩ ⟨h1,h2⟩;simp only[List.drop_length,List.take_length] at h1 h2;have hx:=listB_zero h1;subst hx;simp only[hF,List.replicate,am,aml,decide_true,aml];exact retK_intro rfl (Store.sub_refl _) ⟨rfl,h2⟩
def Bx (σ0 σ:Store) (b:Nat) (tk:Tk) (rows:List (List V)):Prop:=σ.box b=some [.sl tk 1 rows]∧Gr σ0 σ tk rows.length∧σ0.box b=none
theorem list1_calls (n:Int) {σ0 σ:Store} {b:Nat} {tk:Tk} {l:List Int} (h:Bx σ0 σ b tk (iCells l)) (hl:l.length≤100000) :
    PCalls prog 269 [.int .i64 n,.ptr (.out b) 0] σ fun v σ' => v = .bool true∧∃tk',Bx σ0 σ' b tk' (iCells (l++[n])):=by
  refine fn269.calls ?_;simp only[slots,ac269,am,ams,Nat.reduceAdd];obtain⟨h1,h2,h3⟩:=h;simp only[am,h1];refine Gr.app h2 (by simp[iCells,big];omega) fun tk' σ' hG hB _=>?_
  simp only[am,show σ'.box b=some [.sl tk 1 (iCells l)] by rw[hB,h1]];refine retK_intro rfl (Store.sub_refl _) ⟨rfl,tk',?_,?_,h3⟩
  · simp[Store.set,iCells]
  · refine⟨⟨fun c cs hc=>?_,hG.sub.2⟩,?_⟩
    · rw[Store.set_other]
      · exact hG.sub.1 c cs hc
      · rintro rfl;rw[h3] at hc;simp at hc
    · simpa [iCells,Store.set] using hG.tk
theorem mask_list_calls (s:B64) {σ:Store} (hg:TZ σ):PCalls prog 249 [.int .u64 (s.toNat:Nat)] σ fun v σ' => v = .sl .no 1 (iCells ((listB s).map Int.ofNat))∧σ' = σ:=by
  refine fn249.calls ?_;simp only[slots,ac249,am,ams];refine kO_intro fun b hb=>?_
  simp only[am];have hl:=listB_len s;refine(each_calls _ _ rfl (fun l σ' => ∃tk,Bx σ σ' b tk (iCells (l.map Int.ofNat))) s ?_ ?_ ⟨.full,?_⟩).mono ?_
  · rintro l σ' ⟨tk,h1,h2,h3⟩;exact h2.sub.2.2 _ _ hg
  · rintro pre k suf σ' hs ⟨tk,h⟩
    have:pre.length≤64:=by rw[hs] at hl;simp at hl;omega
    have:=list1_calls k h (by simp;omega)
    simpa using this
  · exact⟨set_box,⟨sub_set hb,.inl rfl⟩,hb⟩
  · rintro v σ' ⟨rfl,tk,h1,h2,h3⟩;simp only[am,h1];exact retK_intro rfl h2.sub ⟨rfl,rfl⟩
end Go.Proofs.Tryz

namespace Go.Proofs.Tryz
open Go.Am
set_option maxRecDepth 4000
set_option maxHeartbeats 4000000
def ac161:AC:=.seq (.reg [⟨(some 1),.box 65 (.s 0),none⟩,⟨(some 2),.mv (.c (.bool false)),none⟩])
 (.seq (.seq (.reg [xl 65 4 1,xc 212 5 [.s 4],⟨(some 6),.not (.s 5),none⟩])
 (.cond (.s 6) (.seq (.reg [⟨(some 2),.mv (.c (.bool false)),none⟩])
 (.ret))
 (.skip)))
 (.seq (.seq (.reg [xl 65 7 1,xc 213 8 [.s 7],xi 9 0])
 (.block 0 (.loop (.seq (.reg [xb .lss 10 9 8])
 (.seq (.cond (.s 10) (.skip)
 (.exit 0))
 (.seq (.block 1 (.seq (.reg [xm 11 9,xm 3 11])
 (.seq (.reg [xl 65 12 1,xm 13 3,xc 214 14 [.s 12,.s 13],xm 15 3,⟨(some 16),.bslice 1 [(.s 15)],none⟩,xc 215 17 [.s 16],xb .neq 18 14 17])
 (.cond (.s 18) (.seq (.reg [⟨(some 2),.mv (.c (.bool false)),none⟩])
 (.ret))
 (.skip)))))
 (.reg [xB .add 19 9 1,xm 9 19])))))))
 (.seq (.reg [⟨(some 2),.mv (.c (.bool true)),none⟩])
 (.ret))))
theorem fn161:IsFn prog 161 ac161 [.tmp 2] 20:=⟨f161,⟨[],[],[]⟩,func161,by kernel_rfl,by kernel_rfl,by kernel_rfl,by kernel_rfl⟩
def ac164:AC:=.seq (.reg [⟨(some 1),.box 65 (.s 0),none⟩,⟨(some 2),.alloc relZ,none⟩])
 (.seq (.reg [xl 65 7 1,xc 219 8 [.s 7],⟨(some 3),.alloc relZ,none⟩,xs 65 3 8])
 (.seq (.seq (.reg [xf 0 9 3,xo 10 9,xi 11 0])
 (.block 0 (.loop (.seq (.reg [xb .lss 12 11 10])
 (.seq (.cond (.s 12) (.skip)
 (.exit 0))
 (.seq (.block 1 (.seq (.reg [xm 13 11,xm 4 13])
 (.reg [xm 14 4,xm 15 4,xf 1 16 3,⟨(some 17),.idxP 64 1 (.s 16) (.s 15),none⟩,xo 18 17,xm 19 4,xc 220 20 [.s 18,.s 19],xf 1 21 3,⟨(some 22),.idxP 64 1 (.s 21) (.s 14),none⟩,xs 1 22 20])))
 (.reg [xB .add 23 11 1,xm 11 23])))))))
 (.seq (.seq (.reg [xf 0 24 3,xo 25 24,xi 26 0])
 (.block 2 (.loop (.seq (.reg [xb .lss 27 26 25])
 (.seq (.cond (.s 27) (.skip)
 (.exit 2))
 (.seq (.block 3 (.seq (.reg [xm 28 26,xm 5 28])
 (.seq (.reg [xf 0 29 3,xo 30 29,xi 31 0])
 (.block 4 (.loop (.seq (.reg [xb .lss 32 31 30])
 (.seq (.cond (.s 32) (.skip)
 (.exit 4))
 (.seq (.block 5 (.seq (.reg [xm 33 31,xm 6 33])
 (.seq (.reg [xm 34 6,xf 1 35 3,⟨(some 36),.idxP 64 1 (.s 35) (.s 34),none⟩,xo 37 36,xm 38 5,xc 221 39 [.s 37,.s 38]])
 (.cond (.s 39) (.draw [(xm 40 6,[]),(xf 1 41 3,[]),(⟨(some 42),.idxP 64 1 (.s 41) (.s 40),none⟩,[]),(xo 43 42,[]),(xm 44 5,[]),(xf 1 45 3,[]),(⟨(some 46),.idxP 64 1 (.s 45) (.s 44),none⟩,[]),(xo 47 46,[]),(xb .or 48 43 47,[]),(xf 1 49 3,[]),(⟨(some 50),.idxP 64 1 (.s 49) (.s 40),none⟩,[]),(xs 1 50 48,[])])
 (.skip)))))
 (.reg [xB .add 51 31 1,xm 31 51])))))))))
 (.reg [xB .add 52 26 1,xm 26 52])))))))
 (.seq (.reg [xl 65 53 3,xs 65 2 53])
 (.ret)))))
theorem fn164:IsFn prog 164 ac164 [.cell 2 true 65] 54:=⟨f164,⟨[],[],[]⟩,func164,by kernel_rfl,by kernel_rfl,by kernel_rfl,by kernel_rfl⟩
def ac212:AC:=.seq (.reg [⟨(some 1),.box 65 (.s 0),none⟩,⟨(some 2),.mv (.c (.bool false)),none⟩])
 (.seq (.draw [(xl 65 3 1,[]),(xc 219 4 [.s 3],[]),(xl 65 5 1,[0]),(xc 164 6 [.s 5],[]),(⟨(some 7),.eqA false rel1 (.s 4) (.s 6),none⟩,[]),(xm 2 7,[])])
 (.ret))
theorem fn212:IsFn prog 212 ac212 [.tmp 2] 8:=⟨f212,⟨[],[],[]⟩,func212,by kernel_rfl,by kernel_rfl,by kernel_rfl,by kernel_rfl⟩
def ac213:AC:=.seq (.reg [⟨(some 1),.box 65 (.s 0),none⟩,xi 2 0])
 (.seq (.reg [xf 0 3 1,xo 4 3,⟨(some 5),.own .min [(.s 4),(.c (.int .i64 64))],none⟩,⟨(some 6),.own .max [(.c (.int .i64 0)),(.s 5)],none⟩,xm 2 6])
 (.ret))
theorem fn213:IsFn prog 213 ac213 [.tmp 2] 7:=⟨f213,⟨[],[],[]⟩,func213,by kernel_rfl,by kernel_rfl,by kernel_rfl,by kernel_rfl⟩
def ac214:AC:=.seq (.reg [⟨(some 2),.box 65 (.s 0),none⟩,⟨(some 4),.mv (.c (.int .u64 0)),none⟩])
 (.seq (.reg [xm 6 1,⟨(some 7),.bslice 1 [(.s 6)],none⟩,xc 215 8 [.s 7],xm 5 8])
 (.seq (.draw [(xl 65 9 2,[]),(xm 10 5,[]),(xc 247 11 [.s 9,.s 10],[]),(xl 65 12 2,[0]),(xm 13 5,[]),(xc 248 14 [.s 12,.s 13],[]),(xb .and 15 11 14,[]),(xm 4 15,[])])
 (.ret)))
theorem fn214:IsFn prog 214 ac214 [.tmp 4] 16:=⟨f214,⟨[],[],[]⟩,func214,by kernel_rfl,by kernel_rfl,by kernel_rfl,by kernel_rfl⟩
def ac219:AC:=.seq (.reg [⟨(some 1),.box 65 (.s 0),none⟩,⟨(some 2),.alloc relZ,none⟩])
 (.seq (.reg [xl 65 5 1,xc 213 6 [.s 5],⟨(some 7),.build relZ [(0,1,(.s 6))],none⟩,⟨(some 3),.alloc relZ,none⟩,xs 65 3 7])
 (.seq (.seq (.reg [xf 0 8 3,xo 9 8,xi 10 0])
 (.block 0 (.loop (.seq (.reg [xb .lss 11 10 9])
 (.seq (.cond (.s 11) (.skip)
 (.exit 0))
 (.seq (.block 1 (.seq (.reg [xm 12 10,xm 4 12])
 (.reg [xm 13 4,xl 65 14 1,xm 15 4,xc 252 16 [.s 14,.s 15],xf 1 17 3,⟨(some 18),.idxP 64 1 (.s 17) (.s 13),none⟩,xs 1 18 16])))
 (.reg [xB .add 19 10 1,xm 10 19])))))))
 (.seq (.reg [xl 65 20 3,xs 65 2 20])
 (.ret))))
theorem fn219:IsFn prog 219 ac219 [.cell 2 true 65] 21:=⟨f219,⟨[],[],[]⟩,func219,by kernel_rfl,by kernel_rfl,by kernel_rfl,by kernel_rfl⟩
def ac222:AC:=.seq (.reg [⟨(some 2),.alloc relZ,none⟩])
 (.seq (.reg [xm 3 0,⟨(some 4),.build relZ [(0,1,(.s 3))],none⟩,xc 213 5 [.s 4],⟨(some 6),.build relZ [(0,1,(.s 5))],none⟩,xs 65 2 6])
 (.ret))
theorem fn222:IsFn prog 222 ac222 [.cell 2 true 65] 7:=⟨f222,⟨[],[],[]⟩,func222,by kernel_rfl,by kernel_rfl,by kernel_rfl,by kernel_rfl⟩
def ac247:AC:=.seq (.reg [⟨(some 2),.box 65 (.s 0),none⟩,⟨(some 4),.mv (.c (.int .u64 0)),none⟩])
 (.seq (.reg [⟨(some 5),.mv (.c (.int .u64 0)),none⟩])
 (.seq (.seq (.reg [xm 8 1,xl 65 9 2,xc 213 10 [.s 9],xc 267 11 [.s 10],xb .and 12 8 11,xc 249 13 [.s 12],xL 14 13,xi 15 0])
 (.block 0 (.loop (.seq (.reg [xb .lss 16 15 14])
 (.seq (.cond (.s 16) (.skip)
 (.exit 0))
 (.seq (.block 1 (.seq (.reg [xA 1 17 13 15,xo 18 17,xm 7 18])
 (.reg [xm 19 5,xl 65 20 2,xm 21 7,xc 252 22 [.s 20,.s 21],xb .or 23 19 22,xm 5 23])))
 (.reg [xB .add 24 15 1,xm 15 24])))))))
 (.seq (.reg [xm 25 5,xm 4 25])
 (.ret))))
theorem fn247:IsFn prog 247 ac247 [.tmp 4] 26:=⟨f247,⟨[],[],[]⟩,func247,by kernel_rfl,by kernel_rfl,by kernel_rfl,by kernel_rfl⟩
def ac248:AC:=.seq (.reg [⟨(some 2),.box 65 (.s 0),none⟩,⟨(some 4),.mv (.c (.int .u64 0)),none⟩])
 (.seq (.reg [⟨(some 5),.mv (.c (.int .u64 0)),none⟩])
 (.seq (.seq (.reg [xl 65 7 2,xc 213 8 [.s 7],xi 9 0])
 (.block 0 (.loop (.seq (.reg [xb .lss 10 9 8])
 (.seq (.cond (.s 10) (.skip)
 (.exit 0))
 (.seq (.block 1 (.seq (.reg [xm 11 9,xm 6 11])
 (.seq (.reg [xl 65 12 2,xm 13 6,xc 252 14 [.s 12,.s 13],xm 15 1,xb .and 16 14 15,⟨(some 17),.binI .neq (.s 16) (.c (.int .u64 0)),none⟩])
 (.cond (.s 17) (.reg [xm 18 5,xm 19 6,xc 220 20 [.s 18,.s 19],xm 5 20])
 (.skip)))))
 (.reg [xB .add 21 9 1,xm 9 21])))))))
 (.seq (.reg [xm 22 5,xm 4 22])
 (.ret))))
theorem fn248:IsFn prog 248 ac248 [.tmp 4] 23:=⟨f248,⟨[],[],[]⟩,func248,by kernel_rfl,by kernel_rfl,by kernel_rfl,by kernel_rfl⟩
def ac252:AC:=.seq (.reg [⟨(some 2),.box 65 (.s 0),none⟩,⟨(some 4),.mv (.c (.int .u64 0)),none⟩])
 (.seq (.draw [(xm 5 1,[]),(xf 1 6 2,[]),(⟨(some 7),.idxP 64 1 (.s 6) (.s 5),none⟩,[]),(xo 8 7,[1,2]),(xl 65 9 2,[]),(xc 213 10 [.s 9],[]),(xc 267 11 [.s 10],[]),(xb .and 12 8 11,[]),(xm 4 12,[])])
 (.ret))
theorem fn252:IsFn prog 252 ac252 [.tmp 4] 13:=⟨f252,⟨[],[],[]⟩,func252,by kernel_rfl,by kernel_rfl,by kernel_rfl,by kernel_rfl⟩
def ac256:AC:=.seq (.reg [⟨(some 2),.box 65 (.s 0),none⟩,⟨(some 3),.box 65 (.s 1),none⟩,⟨(some 4),.mv (.c (.bool false)),none⟩])
 (.seq (.draw [(xl 65 5 2,[]),(xc 219 6 [.s 5],[]),(xl 65 7 3,[0]),(xc 219 8 [.s 7],[]),(⟨(some 9),.eqA false rel1 (.s 6) (.s 8),none⟩,[]),(xm 4 9,[])])
 (.ret))
theorem fn256:IsFn prog 256 ac256 [.tmp 4] 10:=⟨f256,⟨[],[],[]⟩,func256,by kernel_rfl,by kernel_rfl,by kernel_rfl,by kernel_rfl⟩
def z5_:=And.intro @am <| And.intro @amo <| And.intro @ams @Rl.rec_
theorem points_calls (r:Rl) (σ:Store):PCalls prog 213 [.agg r.enc] σ fun v σ' => v = .int .i64 (pts r:Nat)∧σ' = σ:=by
  refine fn213.calls ?_;simp only[slots,ac213,z5_];refine min_intro ?_;simp only[am,amo];refine max_intro ?_;simp only[am];refine retS ?_;simp[V.erase];simp only[pts];split<;>split<;>omega
def z6_:=And.intro @am <| And.intro @amc <| And.intro @ams <| And.intro @w_zero @Rl.rec_
def z7_:=And.intro @am <| And.intro @Rl.rec_ <| And.intro @Int.toNat_natCast @Nat.mul_one
theorem row_calls (r:Rl) (i:Nat) (h:i<64) (σ:Store):PCalls prog 252 [.agg r.enc,.int .i64 (i:Nat)] σ fun v σ' => v = .int .u64 ((rowR r i).toNat:Nat)∧σ' = σ:=by
  refine fn252.calls ?_;simp only[slots,ac252,z6_,Nat.reduceAdd];refine idxPL_ptr (by omega) (by omega) ?_;simp only[z7_,Rl.u_ld h];refine CallD.intro (points_calls r σ) ?_;simp only[am];refine CallD.intro (mask_below_calls _ σ) ?_;simp only[am,w_and];refine⟨⟨Rl.u_ld h,Rl.u_ld h⟩,?_⟩;refine retS ?_;simp[V.erase,rowR]
def z8_:=And.intro @am <| And.intro @aml <| And.intro @Int.toNat_natCast @Nat.mul_one
theorem plain_calls (r:Rl) (σ:Store):PCalls prog 219 [.agg r.enc] σ fun v σ' => v = .agg (plainR r).enc∧σ' = σ:=by
  refine fn219.calls ?_;simp only[slots,ac219,am,ams,Rl.rec_];refine cl (points_calls r σ) ?_;simp only[am,Nat.reduceAdd,Rl.rec_];have hp:=@pts_le r;obtain⟨F,hF⟩:∃F:Nat→Unit→St,∀i x,F i x=⟨[.agg r.enc,.ptr (.loc 0) 0,.ptr (.loc 1) 0,.ptr (.loc 2) 0,.any,.any,.any,.any,.any,.int .i64 (pts r:Nat),.int .i64 (i:Nat)]++List.replicate 10 .any,[r.enc,Rl.zero.enc,(Rl.of (pts r:Nat) fun j=>if j<i then rowR r j else 0#64).enc],σ⟩:=⟨_,fun _ _=>rfl⟩;obtain⟨JF,hJF⟩:∃JF:Nat→Unit→Prop,∀i x,JF i x=(True):=⟨_,fun _ _=>rfl⟩;refine vc_count (pts r) F JF _ hJF ?_ ?_ ?_
  · refine ent (()) ?_ ?_ ?_ ?_
    · exact Eq.mpr (hJF _ _) (trivial)
    all_goals simp[hF,List.replicate,am,lle_self,Rl.zero_setn,Rl.of_n]
  · rintro i x hi -;simp only[hF,List.replicate,am,dlt hi,Rl.rec_];refine cl (row_calls r i (by omega) σ) ?_;simp only[am,amc];refine idxPL_ptr (by omega) (by omega) ?_;simp only[z8_,Rl.u_has (show i<64 by omega),Rl.u_st (show i<64 by omega),winc hi (by omega)];refine nxt (()) hi ?_ ?_ ?_ ?_
    · exact Eq.mpr (hJF _ _) (trivial)
    all_goals simp[hF,List.replicate,am,lle_self,Rl.fill]
  · rintro x -;simp only[hF,List.replicate,am,aml,dnl,aml,Rl.rec_];refine retS ?_;simp[V.erase,plainR,Rl.r_er]
theorem new_calls (n:Int) (σ:Store):PCalls prog 222 [.int .i64 n] σ fun v σ' => v = .agg (Rl.of (min n.toNat 64:Nat) fun _=>0#64).enc∧σ' = σ:=by
  refine fn222.calls ?_;simp only[slots,ac222,am,ams,Rl.rec_];refine cl (points_calls _ σ) ?_;simp only[am,Rl.rec_];refine retS ?_;simp only[V.erase,Rl.r_er,Rl.zero_setn];rfl
theorem same_calls (r s:Rl) (σ:Store):PCalls prog 256 [.agg r.enc,.agg s.enc] σ fun v σ' => v = .bool (decide (plainR r=plainR s))∧σ' = σ:=by
  refine fn256.calls ?_;simp only[slots,ac256,am,ams,Nat.reduceAdd,Rl.rec_];refine CallD.intro (plain_calls r σ) ?_;simp only[am,Rl.rec_];refine CallD.intro (plain_calls s σ) ?_;simp only[am,Rl.rec_];refine retS ?_;simp[V.erase]
theorem up_calls (r:Rl) (w:B64) {σ:Store} (hg:TZ σ):PCalls prog 247 [.agg r.enc,.int .u64 (w.toNat:Nat)] σ fun v σ' => v = .int .u64 ((upR r w).toNat:Nat)∧σ' = σ:=by
  refine fn247.calls ?_;simp only[slots,ac247,z6_,Nat.reduceAdd];refine cl (points_calls r σ) ?_;simp only[am];refine cl (mask_below_calls _ σ) ?_;simp only[am,w_and];refine cl (mask_list_calls _ hg) ?_;simp only[am,List.length_map,iCells_len];generalize hl:listB (w&&&belowB ↑(pts r))=l;have hlt:∀k∈l,k<64:=fun k hk=>listB_lt (hl▸hk)
  have hlen:l.length≤64:=hl▸listB_len _;obtain⟨F,hF⟩:∃F:Nat→Unit→St,∀i x,F i x=⟨[.agg r.enc,.any,.ptr (.loc 0) 0,.any,.any,.int .u64 (((l.take i).foldl (fun o i=>o|||rowR r i) 0#64).toNat:Nat),.any,.any,.any,.any,.any,.any,.any,.sl .no 1 (iCells (l.map Int.ofNat)),.int .i64 (l.length:Nat),.int .i64 (i:Nat)]++List.replicate 10 .any,[r.enc],σ⟩:=⟨_,fun _ _=>rfl⟩;obtain⟨JF,hJF⟩:∃JF:Nat→Unit→Prop,∀i x,JF i x=(True):=⟨_,fun _ _=>rfl⟩;refine vc_count (l.length) F JF _ hJF ?_ ?_ ?_
  · refine ent (()) ?_ ?_ ?_ ?_
    · exact Eq.mpr (hJF _ _) (trivial)
    all_goals simp[hF,List.replicate,am,lle_self]
  · rintro i x hi -;simp only[hF,List.replicate,am,dlt hi];refine idxL_intro (by omega) (iCells_at (l:=l.map Int.ofNat) (by simpa using hi)) ?_;simp only[am,Rl.rec_,List.getElem_map,Int.ofNat_eq_natCast];refine cl (row_calls r l[i] (hlt _ (List.getElem_mem hi)) σ) ?_;simp only[am,aml,w_or,winc hi (by omega)];refine nxt (()) hi ?_ ?_ ?_ ?_
    · exact Eq.mpr (hJF _ _) (trivial)
    all_goals simp[hF,List.replicate,am,lle_self,foldl_take hi]
  · rintro x -;simp only[hF,List.replicate,am,aml,dnl,aml,List.take_length];refine retS ?_;simp[V.erase,upR,hl]
theorem down_calls (r:Rl) (w:B64) (σ:Store):PCalls prog 248 [.agg r.enc,.int .u64 (w.toNat:Nat)] σ fun v σ' => v = .int .u64 ((downR r w).toNat:Nat)∧σ' = σ:=by
  refine fn248.calls ?_;simp only[slots,ac248,z6_,Nat.reduceAdd];refine cl (points_calls r σ) ?_;simp only[am];have hp:=@pts_le r;obtain⟨F,hF⟩:∃F:Nat→Unit→St,∀i x,F i x=⟨[.agg r.enc,.int .u64 (w.toNat:Nat),.ptr (.loc 0) 0,.any,.any,.int .u64 (((List.range i).foldl (fun o i=>if rowR r i&&&w=0#64 then o else withB o (i:Nat)) 0#64).toNat:Nat),.any,.any,.int .i64 (pts r:Nat),.int .i64 (i:Nat)]++List.replicate 13 .any,[r.enc],σ⟩:=⟨_,fun _ _=>rfl⟩;obtain⟨JF,hJF⟩:∃JF:Nat→Unit→Prop,∀i x,JF i x=(True):=⟨_,fun _ _=>rfl⟩;refine vc_count (pts r) F JF _ hJF ?_ ?_ ?_
  · refine ent (()) ?_ ?_ ?_ ?_
    · exact Eq.mpr (hJF _ _) (trivial)
    all_goals simp[hF,List.replicate,am,lle_self]
  · rintro i x hi -;simp only[hF,List.replicate,am,dlt hi,Rl.rec_];refine cl (row_calls r i (by omega) σ) ?_;simp only[am,w_and,w_eq]
    by_cases h:rowR r i&&&w=0#64
    · simp only[am,aml,decide_eq_true h,winc hi (by omega)];refine nxt (()) hi ?_ ?_ ?_ ?_
      · exact Eq.mpr (hJF _ _) (trivial)
      all_goals simp[hF,List.replicate,am,lle_self,foldl_range_succ,h]
    · simp only[am,decide_eq_false h];refine cl (mask_with_calls _ _ σ) ?_;simp only[am,aml,winc hi (by omega)];refine nxt (()) hi ?_ ?_ ?_ ?_
      · exact Eq.mpr (hJF _ _) (trivial)
      all_goals simp[hF,List.replicate,am,lle_self,foldl_range_succ,h]
  · rintro x -;simp only[hF,List.replicate,am,aml,dnl,aml];refine retS ?_;simp[V.erase,downR]
theorem clos1_step {r:Rl} {i:Nat} (hi:i<pts r):(Rl.of (pts r:Nat) fun j=>if j<pts r then (if j<i then withB (rowR r j) (j:Nat) else rowR r j) else 0#64).put i (withB (rowR r i) (i:Nat))=Rl.of (pts r:Nat) fun j=>if j<pts r then (if j<i+1 then withB (rowR r j) (j:Nat) else rowR r j) else 0#64:=by
  refine Rl.ext rfl fun k hk=>?_
  rw[Rl.get_put,Rl.get_of hk,Rl.get_of hk]
  by_cases h:i=k
  · subst h;simp[hk,hi]
  · rw[if_neg (by omega)]
    by_cases h2:k<i
    · simp[h2,show k<i+1 by omega]
    · simp[h2,show ¬k<i+1 by omega]
theorem clos1_get {r:Rl} {i:Nat} (hi:i<pts r):(Rl.of (pts r:Nat) fun j=>if j<pts r then (if j<i then withB (rowR r j) (j:Nat) else rowR r j) else 0#64).get i=rowR r i:=by
  rw[Rl.get_of (Nat.lt_of_lt_of_le hi pts_le),if_pos hi,if_neg (Nat.lt_irrefl _)]
theorem clos1_end {r:Rl}:(Rl.of (pts r:Nat) fun j=>if j<pts r then (if j<pts r then withB (rowR r j) (j:Nat) else rowR r j) else 0#64)=clos0 r:=by
  refine Rl.ext rfl fun k hk=>?_
  rw[Rl.get_of hk,clos0,Rl.get_of hk];split<;>rfl
theorem inner_succ {n k:Nat} {o:Rl}:innerR (n+1) k o=stepR k (innerR n k o) n:=foldl_range_succ
theorem inner_zero {k:Nat} {o:Rl}:innerR 0 k o=o:=rfl
theorem outer_zero {r:Rl}:outerR r 0=clos0 r:=rfl
theorem plain_n {r:Rl}:(plainR r).n=(pts r:Nat):=rfl
theorem stepR_t {k i:Nat} {o:Rl} (h:hasB (o.get i) (k:Nat)=true):stepR k o i=o.put i (o.get i|||o.get k):=by rw[stepR,if_pos h]
theorem stepR_f {k i:Nat} {o:Rl} (h:hasB (o.get i) (k:Nat)=false):stepR k o i=o:=by rw[stepR,h];rfl
def z9_:=And.intro @am <| And.intro @amc <| And.intro @Int.toNat_natCast @Nat.mul_one
def z10_:=And.intro @am <| And.intro @amc <| And.intro @w_or <| And.intro @Int.toNat_natCast @Nat.mul_one
theorem closure_calls (r:Rl) (σ:Store):PCalls prog 164 [.agg r.enc] σ fun v σ' => v = .agg (closR r).enc∧σ' = σ:=by
  refine fn164.calls ?_;simp only[slots,ac164,am,ams,Rl.rec_];refine cl (plain_calls r σ) ?_;simp only[am,Nat.reduceAdd,Rl.rec_,plain_n];have hp:=@pts_le r;obtain⟨F,hF⟩:∃F:Nat→Unit→St,∀i x,F i x=⟨[.any,.ptr (.loc 0) 0,.ptr (.loc 1) 0,.ptr (.loc 2) 0,.any,.any,.any,.any,.any,.any,.int .i64 (pts r:Nat),.int .i64 (i:Nat)]++List.replicate 42 .any,[r.enc,Rl.zero.enc,(Rl.of (pts r:Nat) fun j=>if j<pts r then (if j<i then withB (rowR r j) (j:Nat) else rowR r j) else 0#64).enc],σ⟩:=⟨_,fun _ _=>rfl⟩;obtain⟨JF,hJF⟩:∃JF:Nat→Unit→Prop,∀i x,JF i x=(True):=⟨_,fun _ _=>rfl⟩;refine vc_count (pts r) F JF _ hJF ?_ ?_ ?_
  · refine ent (()) ?_ ?_ ?_ ?_
    · exact Eq.mpr (hJF _ _) (trivial)
    all_goals simp[hF,List.replicate,am,lle_self,plainR]
  · rintro i x hi -;simp only[hF,List.replicate,am,amc,dlt hi];have h64:i<64:=by omega
    refine idxPL_ptr (by omega) (by omega) ?_;simp only[am,Int.toNat_natCast,Nat.mul_one,Rl.u_ld h64,clos1_get hi];refine cl (mask_with_calls _ _ σ) ?_;simp only[am,amc];refine idxPL_ptr (by omega) (by omega) ?_;simp only[z8_,Rl.u_has h64,Rl.u_st h64,winc hi (by omega)];refine nxt (()) hi ?_ ?_ ?_ ?_
    · exact Eq.mpr (hJF _ _) (trivial)
    all_goals simp[hF,List.replicate,am,lle_self,clos1_step hi]
  · rintro x -;simp only[hF,List.replicate,am,aml,dnl,aml,Rl.rec_,Rl.of_n];rw[clos1_end];clear hF F;obtain⟨F,hF⟩:∃F:Nat→Unit→St,∀k x,F k x=⟨[.any,.ptr (.loc 0) 0,.ptr (.loc 1) 0,.ptr (.loc 2) 0,.any,.any,.any,.any,.any,.any,.any,.any,.any,.any,.any,.any,.any,.any,.any,.any,.any,.any,.any,.any,.any,.int .i64 (pts r:Nat),.int .i64 (k:Nat)]++List.replicate 27 .any,[r.enc,Rl.zero.enc,(outerR r k).enc],σ⟩:=⟨_,fun _ _=>rfl⟩;obtain⟨JF,hJF⟩:∃JF:Nat→Unit→Prop,∀k x,JF k x=(True):=⟨_,fun _ _=>rfl⟩;refine vc_count (pts r) F JF _ hJF ?_ ?_ ?_
    · refine ent (()) ?_ ?_ ?_ ?_
      · exact Eq.mpr (hJF _ _) (trivial)
      all_goals simp[hF,List.replicate,am,lle_self,outer_zero]
    · rintro k x hi -;simp only[hF,List.replicate,am,dlt hi,Rl.rec_,outer_n];obtain⟨F2,hF2⟩:∃F2:Nat→Unit→St,∀i x,F2 i x=⟨[.any,.ptr (.loc 0) 0,.ptr (.loc 1) 0,.ptr (.loc 2) 0,.any,.int .i64 (k:Nat),.any,.any,.any,.any,.any,.any,.any,.any,.any,.any,.any,.any,.any,.any,.any,.any,.any,.any,.any,.int .i64 (pts r:Nat),.int .i64 (k:Nat),.any,.any,.any,.int .i64 (pts r:Nat),.int .i64 (i:Nat)]++List.replicate 22 .any,[r.enc,Rl.zero.enc,(innerR i k (outerR r k)).enc],σ⟩:=⟨_,fun _ _=>rfl⟩;obtain⟨JF2,hJF2⟩:∃JF2:Nat→Unit→Prop,∀i x,JF2 i x=(True):=⟨_,fun _ _=>rfl⟩;refine vc_count (pts r) F2 JF2 _ hJF2 ?_ ?_ ?_
      · refine ent (()) ?_ ?_ ?_ ?_
        · exact Eq.mpr (hJF2 _ _) (trivial)
        all_goals simp[hF2,List.replicate,am,lle_self,inner_zero]
      · rintro i x hj -;have hi64:i<64:=by omega
        have hk64:k<64:=by omega
        simp only[hF2,List.replicate,am,amc,dlt hj];refine idxPL_ptr (by omega) (by omega) ?_;simp only[am,Int.toNat_natCast,Nat.mul_one,Rl.u_ld hi64];refine cl (mask_has_calls _ _ σ) ?_;simp only[am];refine vcIf_split (fun hb=>?_) (fun hb=>?_)
        · simp only[am,amc];refine idxPL_ptr (by omega) (by omega) ?_;simp only[z9_,Rl.u_ld hi64];refine idxPL_ptr (by omega) (by omega) ?_;simp only[z10_,Rl.u_ld hk64];refine idxPL_ptr (by omega) (by omega) ?_;simp only[z8_,Rl.u_has hi64,Rl.u_st hi64,winc hj (by omega)];refine nxt (()) hj ?_ ?_ ?_ ?_
          · exact Eq.mpr (hJF2 _ _) (trivial)
          all_goals simp[hF2,List.replicate,am,lle_self,inner_succ,stepR_t hb]
        · simp only[am,aml,winc hj (by omega)];refine nxt (()) hj ?_ ?_ ?_ ?_
          · exact Eq.mpr (hJF2 _ _) (trivial)
          all_goals simp[hF2,List.replicate,am,lle_self,inner_succ,stepR_f hb]
      · rintro x -;simp only[hF2,List.replicate,am,aml,dnl,Nat.reduceEqDiff,aml,Rl.rec_,winc hi (by omega)];refine nxt (()) hi ?_ ?_ ?_ ?_
        · exact Eq.mpr (hJF _ _) (trivial)
        all_goals simp[hF,List.replicate,am,lle_self,outer_succ]
    · rintro x -;simp only[hF,List.replicate,am,aml,dnl,aml,Rl.rec_];exact retK_intro (v:=.agg (closR r).enc) Rl.r_nol (Store.sub_refl _) ⟨by simp only[V.erase,Rl.r_er],rfl⟩
theorem closed_calls (r:Rl) (σ:Store):PCalls prog 212 [.agg r.enc] σ fun v σ' => v = .bool (closedR r)∧σ' = σ:=by
  refine fn212.calls ?_;simp only[slots,ac212,am,ams,Rl.rec_];refine CallD.intro (plain_calls r σ) ?_;simp only[am,Rl.rec_];refine CallD.intro (closure_calls r σ) ?_;simp only[am,Rl.rec_];refine retS ?_;simp[V.erase,closedR]
theorem mutual_calls (r:Rl) (i:Nat) {σ:Store} (hg:TZ σ):PCalls prog 214 [.agg r.enc,.int .i64 (i:Nat)] σ fun v σ' => v = .int .u64 ((mutR r i).toNat:Nat)∧σ' = σ:=by
  refine fn214.calls ?_;simp only[slots,ac214,z6_,Nat.reduceAdd];refine PCalls.weak (as' := [.sl .no 1 (iCells [(i:Int)])]) ?_ ⟨VLe.no,trivial⟩ OLe.rfl;refine cl (mask_of_calls [(i:Int)] σ (by simp)) ?_;simp only[am,Rl.rec_];refine CallD.intro (up_calls r _ hg) ?_;simp only[am,Rl.rec_];refine CallD.intro (down_calls r _ σ) ?_;simp only[am,w_and,Rl.rec_];refine retS ?_;simp[V.erase,mutR]
theorem order_calls (r:Rl) {σ:Store} (hg:TZ σ):PCalls prog 161 [.agg r.enc] σ fun v σ' => v = .bool (orderR r)∧σ' = σ:=by
  refine fn161.calls ?_;simp only[slots,ac161,am,ams,Rl.rec_];refine cl (closed_calls r σ) ?_;simp only[am];refine vcIf_split (fun hb=>?_) (fun hb=>?_)
  · have hb:closedR r=false:=by simpa using hb
    simp only[am];refine retS ?_;simp[V.erase,orderR,hb]
  · have hb:closedR r=true:=by simpa using hb
    simp only[am,Rl.rec_];refine cl (points_calls r σ) ?_;simp only[am];have hp:=@pts_le r;obtain⟨F,hF⟩:∃F:Nat→Unit→St,∀i x,F i x=⟨[.any,.ptr (.loc 0) 0,.any,.any,.any,.any,.any,.any,.int .i64 (pts r:Nat),.int .i64 (i:Nat)]++List.replicate 10 .any,[r.enc],σ⟩:=⟨_,fun _ _=>rfl⟩;obtain⟨JF,hJF⟩:∃JF:Nat→Unit→Prop,∀i x,JF i x=(∀k,k<i→mutR r k=ofB [(k:Int)]):=⟨_,fun _ _=>rfl⟩;refine vc_count (pts r) F JF _ hJF ?_ ?_ ?_
    · refine ent (()) ?_ ?_ ?_ ?_
      · exact Eq.mpr (hJF _ _) (by intro k h;omega)
      all_goals simp[hF,List.replicate,am,lle_self]
    · rintro i x hi hJ;simp only[hF,List.replicate,am,dlt hi,Rl.rec_];refine cl (mutual_calls r i hg) ?_;simp only[am];refine PCalls.weak (as' := [.sl .no 1 (iCells [(i:Int)])]) ?_ ⟨VLe.no,trivial⟩ OLe.rfl;refine cl (mask_of_calls [(i:Int)] _ (by simp)) ?_;simp only[am,w_eq]
      by_cases h:mutR r i=ofB [(i:Int)]
      · simp only[am,aml,decide_eq_true h,winc hi (by omega)];refine nxt (()) hi ?_ ?_ ?_ ?_
        · exact Eq.mpr (hJF _ _) (fun k hk=>if e:k=i then e▸h else hJ k (by omega))
        all_goals simp[hF,List.replicate,am,lle_self]
      · have hA:antiR r=false:=by
          cases hq:antiR r with
          | false=>rfl
          | true=>exact absurd ((anti_mut hb).1 hq i hi) h
        simp only[am,aml,decide_eq_false h];refine retS ?_;simp[V.erase,orderR,hA]
    · rintro x hJ;have hA:antiR r=true:=(anti_mut hb).2 hJ;simp only[hF,List.replicate,am,aml,dnl,aml];refine retS ?_;simp[V.erase,orderR,hb,hA]
end Go.Proofs.Tryz

namespace Go.Proofs.Tryz
open Go.Am
set_option maxRecDepth 4000
set_option maxHeartbeats 4000000
def ac257:AC:=.seq (.reg [⟨(some 1),.box 65 (.s 0),none⟩,⟨(some 2),.mv (.c (.bool false)),none⟩])
 (.seq (.reg [xf 0 3 1,xo 4 3,xB .geq 5 4 1,xm 6 5,xg 6 (xf 0 7 1),xg 6 (xo 8 7),xg 6 (xB .leq 9 8 8),⟨(some 10),.pick (.s 6) (.s 9) (.c (.bool false)),none⟩,xm 11 10,xg 11 (xl 65 12 1),xg 11 (xc 212 13 [.s 12]),⟨(some 14),.pick (.s 11) (.s 13) (.c (.bool false)),none⟩,xm 2 14])
 (.ret))
theorem fn257:IsFn prog 257 ac257 [.tmp 2] 15:=⟨f257,⟨[],[],[]⟩,func257,by kernel_rfl,by kernel_rfl,by kernel_rfl,by kernel_rfl⟩
def ac258:AC:=.seq (.reg [⟨(some 3),.box 65 (.s 0),none⟩,⟨(some 4),.boxO 1 (.s 1),none⟩,⟨(some 6),.mv (.c (.int .u64 0)),none⟩])
 (.seq (.seq (.reg [xl 65 8 3,xo 9 4,xc 271 10 [.s 8,.s 9],⟨(some 11),.not (.s 10),none⟩])
 (.cond (.s 11) (.seq (.reg [⟨(some 6),.mv (.c (.int .u64 0)),none⟩])
 (.ret))
 (.skip)))
 (.seq (.drawA [7] [(xf 0 12 3,[]),(xo 13 12,[]),(xc 267 14 [.s 13],[]),(xl 65 15 3,[0]),(xm 16 2,[]),(xc 247 17 [.s 15,.s 16],[]),(xb .andNot 18 14 17,[]),(⟨none,.mv (.c .any),none⟩,[]),(⟨(some 7),.boxS 1 (.s 18),none⟩,[])])
 (.seq (.upd (.draw [(xl 65 19 3,[1]),(xl 65 20 3,[]),(⟨(some 21),.mkfn (.func 274) [] [(.s 4),(.s 7)],none⟩,[]),(xc 273 22 [.s 20,.s 21],[]),(xc 272 23 [.s 19,.s 22],[]),(xm 6 23,[])]))
 (.ret))))
theorem fn258:IsFn prog 258 ac258 [.tmp 6] 24:=⟨f258,⟨[4],[4],[]⟩,func258,by kernel_rfl,by kernel_rfl,by kernel_rfl,by kernel_rfl⟩
def ac260:AC:=.seq (.reg [⟨(some 4),.mv (.c (.int .u64 0)),none⟩,⟨(some 5),.mv (.c (.bool false)),none⟩])
 (.seq (.seq (.reg [xm 6 0,xc 275 7 [.s 6],⟨(some 8),.not (.s 7),none⟩,xm 9 8,xh 9 (xm 10 1),xh 9 (xB .lss 11 10 0),⟨(some 12),.pick (.s 9) (.c (.bool true)) (.s 11),none⟩,xm 13 12,xh 13 (xm 14 1),xh 13 (xm 15 0),xh 13 (xb .geq 16 14 15),⟨(some 17),.pick (.s 13) (.c (.bool true)) (.s 16),none⟩])
 (.cond (.s 17) (.seq (.reg [⟨(some 4),.mv (.c (.int .u64 0)),none⟩,⟨(some 5),.mv (.c (.bool false)),none⟩])
 (.ret))
 (.skip)))
 (.seq (.reg [xm 18 1,xc 267 19 [.s 18],xm 4 19,⟨(some 5),.mv (.c (.bool true)),none⟩])
 (.ret)))
theorem fn260:IsFn prog 260 ac260 [.tmp 4,.tmp 5] 20:=⟨f260,⟨[],[],[]⟩,func260,by kernel_rfl,by kernel_rfl,by kernel_rfl,by kernel_rfl⟩
def ac271:AC:=.seq (.reg [⟨(some 2),.box 65 (.s 0),none⟩,⟨(some 4),.mv (.c (.bool false)),none⟩])
 (.seq (.reg [xl 65 5 2,xc 257 6 [.s 5],xm 7 6,xg 7 (xm 8 1),xg 7 (xB .geq 9 8 0),⟨(some 10),.pick (.s 7) (.s 9) (.c (.bool false)),none⟩,xm 11 10,xg 11 (xm 12 1),xg 11 (xf 0 13 2),xg 11 (xo 14 13),xg 11 (xb .lss 15 12 14),⟨(some 16),.pick (.s 11) (.s 15) (.c (.bool false)),none⟩,xm 4 16])
 (.ret))
theorem fn271:IsFn prog 271 ac271 [.tmp 4] 17:=⟨f271,⟨[],[],[]⟩,func271,by kernel_rfl,by kernel_rfl,by kernel_rfl,by kernel_rfl⟩
def ac272:AC:=.seq (.reg [⟨(some 2),.boxO 65 (.s 0),none⟩,⟨(some 3),.boxO 1 (.s 1),none⟩,⟨(some 4),.mv (.c (.int .u64 0)),none⟩])
 (.seq (.seq (.reg [xl 65 5 2,xc 257 6 [.s 5],⟨(some 7),.not (.s 6),none⟩])
 (.cond (.s 7) (.seq (.reg [⟨(some 4),.mv (.c (.int .u64 0)),none⟩])
 (.ret))
 (.skip)))
 (.seq (.reg [xl 65 8 2,⟨(some 9),.mkfn (.func 280) [] [(.s 2),(.s 3)],none⟩,xc 273 10 [.s 8,.s 9],xm 4 10])
 (.ret)))
theorem fn272:IsFn prog 272 ac272 [.tmp 4] 11:=⟨f272,⟨[2,3],[],[]⟩,func272,by kernel_rfl,by kernel_rfl,by kernel_rfl,by kernel_rfl⟩
def ac273:AC:=.seq (.reg [⟨(some 2),.box 65 (.s 0),none⟩,⟨(some 4),.mv (.c (.int .u64 0)),none⟩])
 (.seq (.reg [⟨(some 5),.mv (.c (.int .u64 0)),none⟩])
 (.seq (.seq (.reg [xf 0 7 2,xo 8 7,xi 9 0])
 (.block 0 (.loop (.seq (.reg [xb .lss 10 9 8])
 (.seq (.cond (.s 10) (.skip)
 (.exit 0))
 (.seq (.block 1 (.seq (.reg [xm 11 9,xm 6 11])
 (.reg [xm 12 5,xm 13 1,xm 14 6,⟨(some 15),.callv (.s 13) [(.s 14)],none⟩,xm 16 6,⟨(some 17),.binI .mul (.c (.int .i64 8)) (.s 16),none⟩,⟨(some 18),.cvI .u64 (.s 17),none⟩,xb .shl 19 15 18,xb .or 20 12 19,xm 5 20])))
 (.reg [xB .add 21 9 1,xm 9 21])))))))
 (.seq (.reg [xm 22 5,xm 4 22])
 (.ret))))
theorem fn273:IsFn prog 273 ac273 [.tmp 4] 23:=⟨f273,⟨[],[],[]⟩,func273,by kernel_rfl,by kernel_rfl,by kernel_rfl,by kernel_rfl⟩
def ac274:AC:=.seq (.reg [⟨(some 4),.mv (.c (.int .u64 0)),none⟩])
 (.seq (.seq (.reg [xm 5 0,xo 6 1,xb .eql 7 5 6])
 (.cond (.s 7) (.seq (.reg [xo 8 2,xm 4 8])
 (.ret))
 (.skip)))
 (.seq (.reg [⟨(some 4),.mv (.c (.int .u64 0)),none⟩])
 (.ret)))
theorem fn274:IsFn prog 274 ac274 [.tmp 4] 9:=⟨f274,⟨[],[],[]⟩,func274,by kernel_rfl,by kernel_rfl,by kernel_rfl,by kernel_rfl⟩
def ac275:AC:=.seq (.reg [⟨(some 2),.mv (.c (.bool false)),none⟩])
 (.seq (.reg [xm 3 0,xB .geq 4 3 1,xm 5 4,xg 5 (xm 6 0),xg 5 (xB .leq 7 6 64),⟨(some 8),.pick (.s 5) (.s 7) (.c (.bool false)),none⟩,xm 2 8])
 (.ret))
theorem fn275:IsFn prog 275 ac275 [.tmp 2] 9:=⟨f275,⟨[],[],[]⟩,func275,by kernel_rfl,by kernel_rfl,by kernel_rfl,by kernel_rfl⟩
def ac280:AC:=.seq (.reg [⟨(some 4),.mv (.c (.int .u64 0)),none⟩])
 (.seq (.reg [⟨(some 5),.mv (.c (.int .u64 0)),none⟩])
 (.seq (.seq (.draw [(xl 65 8 1,[1]),(xm 9 0,[]),(⟨(some 10),.bslice 1 [(.s 9)],none⟩,[]),(xc 215 11 [.s 10],[]),(xc 247 12 [.s 8,.s 11],[]),(xc 249 13 [.s 12],[]),(xL 14 13,[]),(xi 15 0,[])])
 (.block 0 (.loop (.seq (.reg [xb .lss 16 15 14])
 (.seq (.cond (.s 16) (.skip)
 (.exit 0))
 (.seq (.block 1 (.seq (.reg [xA 1 17 13 15,xo 18 17,xm 7 18])
 (.draw [(xm 19 5,[]),(xl 65 20 1,[1]),(xl 65 21 1,[]),(xo 22 2,[]),(xm 23 7,[]),(xc 281 24 [.s 21,.s 22,.s 23],[]),(xc 248 25 [.s 20,.s 24],[]),(xb .or 26 19 25,[]),(xm 5 26,[])])))
 (.reg [xB .add 27 15 1,xm 15 27])))))))
 (.seq (.reg [xm 28 5,xm 4 28])
 (.ret))))
theorem fn280:IsFn prog 280 ac280 [.tmp 4] 29:=⟨f280,⟨[],[],[]⟩,func280,by kernel_rfl,by kernel_rfl,by kernel_rfl,by kernel_rfl⟩
def ac281:AC:=.seq (.reg [⟨(some 3),.box 65 (.s 0),none⟩,⟨(some 6),.mv (.c (.int .u64 0)),none⟩])
 (.seq (.reg [xm 7 1,xm 8 2,⟨(some 9),.binI .mul (.c (.int .i64 8)) (.s 8),none⟩,⟨(some 10),.cvI .u64 (.s 9),none⟩,xb .shr 11 7 10,xf 0 12 3,xo 13 12,xc 267 14 [.s 13],xb .and 15 11 14,xm 6 15])
 (.ret))
theorem fn281:IsFn prog 281 ac281 [.tmp 6] 16:=⟨f281,⟨[],[],[]⟩,func281,by kernel_rfl,by kernel_rfl,by kernel_rfl,by kernel_rfl⟩
theorem chain_calls (n:Int) (σ:Store):PCalls prog 275 [.int .i64 n] σ fun v σ' => v = .bool (decide (1≤n)&&decide (n≤64))∧σ' = σ:=by
  refine fn275.calls ?_;simp only[slots,ac275,am,ams]
  by_cases h:1≤n
  · simp only[am,decide_eq_true h];refine retS ?_;simp[V.erase]
  · simp only[am,decide_eq_false h];refine retS ?_;simp[V.erase]
def wTup (p:B64 × Bool):V:=.tup [.int .u64 (p.1.toNat:Nat),.bool p.2]
theorem rword_calls (n k:Int) (σ:Store):PCalls prog 260 [.int .i64 n,.int .i64 k] σ fun v σ' => v=wTup (rungW n k)∧σ' = σ:=by
  refine fn260.calls ?_;simp only[slots,ac260,am,ams,Nat.reduceAdd,w_zero];refine cl (chain_calls n σ) ?_
  by_cases h:1≤n∧n≤64
  · simp only[am,decide_eq_true h.1,decide_eq_true h.2]
    by_cases h2:k<0
    · simp only[am,decide_eq_true h2];refine retS ?_;simp[V.erase,eraseL,wTup,rungW,show ¬0≤k by omega]
    · simp only[am,decide_eq_false h2]
      by_cases h3:n≤k
      · simp only[am,decide_eq_true h3];refine retS ?_;simp[V.erase,eraseL,wTup,rungW,show ¬k<n by omega]
      · simp only[am,decide_eq_false h3];refine cl (mask_below_calls k σ) ?_;simp only[am];refine retS ?_;simp[V.erase,eraseL,wTup,rungW,h,show 0≤k by omega,show k<n by omega]
  · have e:(decide (1≤n)&&decide (n≤64))=false:=by simp only[Bool.and_eq_false_iff,decide_eq_false_iff_not];omega
    have e2:rungW n k=(0#64,false):=by simp only[rungW];rw[if_neg (by omega)]
    simp only[am,e];refine retS ?_;simp[V.erase,eraseL,wTup,e2]
theorem gright_calls (r:Rl) (σ:Store):PCalls prog 257 [.agg r.enc] σ fun v σ' => v = .bool (gridR r)∧σ' = σ:=by
  refine fn257.calls ?_;simp only[slots,ac257,am,ams,Rl.rec_]
  by_cases h:1≤r.n
  · simp only[am,Rl.rec_,decide_eq_true h]
    by_cases h2:r.n≤8
    · simp only[am,Rl.rec_,decide_eq_true h2];refine cl (closed_calls r σ) ?_;simp only[am];refine retS ?_;simp[V.erase,gridR,h,h2]
    · simp only[am,decide_eq_false h2];refine retS ?_;simp[V.erase,gridR,h2]
  · simp only[am,decide_eq_false h];refine retS ?_;simp[V.erase,gridR,h]
theorem grow_calls (r:Rl) (w:B64) (o:Nat) (ho:o<64) (σ:Store):PCalls prog 281 [.agg r.enc,.int .u64 (w.toNat:Nat),.int .i64 (o:Nat)] σ fun v σ' => v = .int .u64 ((outG r w o).toNat:Nat)∧σ' = σ:=by
  refine fn281.calls ?_;simp only[slots,ac281,z6_,Nat.reduceAdd];rw[wrap_i64 (by omega) (by omega),wrap_u64 (by omega) (by omega),show (8:Int)*(o:Nat)=((8*o:Nat):Int) by omega];simp only[am,w_shr,Rl.rec_];refine cl (mask_below_calls r.n σ) ?_;simp only[am,w_and];refine retS ?_;simp[V.erase,outG]
def z11_:=And.intro @am <| And.intro @aml <| And.intro @w_or @w_shl
theorem grows_calls (r:Rl) (n:Nat) (hn:r.n=n) (h8:n≤8) (f:FuncId) (cap:List V) (hc:nolL cap=true) (g:Nat→B64) (σ:Store)
    (h:∀o,o<n→PCalls prog f (.int .i64 (o:Nat)::cap) σ fun v σ' => v = .int .u64 ((g o).toNat:Nat)∧σ' = σ) :
    PCalls prog 273 [.agg r.enc,.fn (.func f) [] cap] σ fun v σ' => v = .int .u64 ((rowsG n g).toNat:Nat)∧σ' = σ:=by
  refine fn273.calls ?_;simp only[slots,ac273,z6_,Nat.reduceAdd];obtain⟨F,hF⟩:∃F:Nat→Unit→St,∀i x,F i x=⟨[.any,.fn (.func f) [] cap,.any,.any,.any,.int .u64 ((rowsG i g).toNat:Nat),.any,.any,.int .i64 (n:Nat),.int .i64 (i:Nat)]++List.replicate 13 .any,[r.enc],σ⟩:=⟨_,fun _ _=>rfl⟩;obtain⟨JF,hJF⟩:∃JF:Nat→Unit→Prop,∀i x,JF i x=(True):=⟨_,fun _ _=>rfl⟩;refine vc_count (n) F JF _ hJF ?_ ?_ ?_
  · refine ent (()) ?_ ?_ ?_ ?_
    · exact Eq.mpr (hJF _ _) (trivial)
    all_goals simp[hF,List.replicate,am,lle_self,hn,rowsG]
  · rintro i x hi -;simp only[hF,List.replicate,am,dlt hi,hc];refine(h i hi).mono ?_;rintro v σ' ⟨rfl,rfl⟩;simp only[am];rw[wrap_i64 (x:=8*((i:Nat):Int)) (by omega) (by omega),wrap_u64 (x:=8*((i:Nat):Int)) (by omega) (by omega),show (8:Int)*(i:Nat)=((8*i:Nat):Int) by omega];simp only[z11_,winc hi (by omega)];refine nxt (()) hi ?_ ?_ ?_ ?_
    · exact Eq.mpr (hJF _ _) (trivial)
    all_goals simp[hF,List.replicate,am,lle_self,rowsG,foldl_range_succ]
  · rintro x -;simp only[hF,List.replicate,am,aml,dnl,aml];refine retS ?_;simp[V.erase]
def z12_:=And.intro @am <| And.intro @aml <| And.intro @w_or @Rl.rec_
theorem gclose1_calls (r:Rl) (w:B64) (o b1 b2:Nat) {σ:Store} (hg:TZ σ) (ho:o<pts r) (h8:pts r≤8) (h1:σ.box b1=some r.enc) (h2:σ.box b2=some [.int .u64 (w.toNat:Nat)]) :
    PCalls prog 280 [.int .i64 (o:Nat),.ptr (.out b1) 0,.ptr (.out b2) 0] σ fun v σ' => v = .int .u64 ((clG r w o).toNat:Nat)∧σ' = σ:=by
  refine fn280.calls ?_;simp only[slots,ac280,am,ams,Nat.reduceAdd,w_zero];simp only[am,Rl.rec_,h1];refine CallD.intro (PCalls.weak (as' := [.sl .no 1 (iCells [(o:Int)])]) (mask_of_calls [(o:Int)] σ (by simp)) ⟨VLe.no,trivial⟩ OLe.rfl) ?_;simp only[am,Rl.rec_];refine CallD.intro (up_calls r _ hg) ?_;simp only[am];refine CallD.intro (mask_list_calls _ hg) ?_;simp only[am,List.length_map,Rl.rec_,iCells_len,h1];rw[show upR r (ofB [(o:Int)])=aboveH r o from rfl];generalize hl:listB (aboveH r o)=l;have hlt:∀k∈l,k<pts r:=fun k hk=>by
    rw[←hl,mem_listB,aboveH_get] at hk;exact(hsR_lt hk).2
  have hlen:l.length≤64:=hl▸listB_len _;have hp:=@pts_le r;obtain⟨F,hF⟩:∃F:Nat→Unit→St,∀i x,F i x=⟨[.any,.ptr (.out b1) 0,.ptr (.out b2) 0,.any,.any,.int .u64 (((l.take i).foldl (fun s p=>s|||downR r (outG r w p)) 0#64).toNat:Nat),.any,.any,.any,.any,.any,.any,.any,.sl .no 1 (iCells (l.map Int.ofNat)),.int .i64 (l.length:Nat),.int .i64 (i:Nat)]++List.replicate 13 .any,[],σ⟩:=⟨_,fun _ _=>rfl⟩;obtain⟨JF,hJF⟩:∃JF:Nat→Unit→Prop,∀i x,JF i x=(True):=⟨_,fun _ _=>rfl⟩;refine vc_count (l.length) F JF _ hJF ?_ ?_ ?_
  · refine ent (()) ?_ ?_ ?_ ?_
    · exact Eq.mpr (hJF _ _) (trivial)
    all_goals simp[hF,List.replicate,am,lle_self]
  · rintro i x hi -;simp only[hF,List.replicate,am,dlt hi];refine idxL_intro (by omega) (iCells_at (l:=l.map Int.ofNat) (by simpa using hi)) ?_;simp only[am,Rl.rec_,List.getElem_map,Int.ofNat_eq_natCast,h1,h2]
    have:=hlt _ (List.getElem_mem hi)
    refine CallD.intro (grow_calls r w l[i] (by omega) σ) ?_;simp only[am,Rl.rec_];refine CallD.intro (down_calls r _ σ) ?_;simp only[z12_,h1,winc hi (by omega)];refine nxt (()) hi ?_ ?_ ?_ ?_
    · exact Eq.mpr (hJF _ _) (trivial)
    all_goals simp[hF,List.replicate,am,lle_self,foldl_take hi]
  · rintro x -;simp only[hF,List.replicate,am,aml,dnl,aml,List.take_length];refine retS ?_;simp[V.erase,clG,hl]
theorem gclose_calls (r:Rl) (w:B64) {σ:Store} (hg:TZ σ):PCalls prog 272 [.agg r.enc,.int .u64 (w.toNat:Nat)] σ fun v σ' => v = .int .u64 ((closeG r w).toNat:Nat)∧σ' = σ:=by
  refine fn272.calls ?_;simp only[slots,ac272,z6_,Nat.reduceAdd];refine kO_intro fun b1 hb1=>?_
  simp only[am];refine kO_intro fun b2 hb2=>?_
  have hne:b1≠b2:=by rintro rfl;rw[set_box] at hb2;simp at hb2
  have hs1:=sub_set (cs:=r.enc) hb1;have hs:=Store.subT hs1 (sub_set (cs:=[.int .u64 (w.toNat:Nat)]) hb2);have e1:((σ.set b1 r.enc).set b2 [.int .u64 (w.toNat:Nat)]).box b1=some r.enc:=by rw[set_box_ne hne,set_box]
  generalize hσ:(σ.set b1 r.enc).set b2 [V.int .u64 (w.toNat:Nat)]=σ1 at hs e1;have e2:σ1.box b2=some [.int .u64 (w.toNat:Nat)]:=by rw[←hσ,set_box]
  simp only[am,Rl.rec_,e1];refine(gright_calls r σ1).mono ?_;rintro v σ1 ⟨rfl,rfl⟩;simp only[am];cases hgr:gridR r with
  | false =>
    simp only[am];exact retK_intro rfl hs ⟨by simp[closeG,hgr,V.erase],rfl⟩
  | true =>
    obtain⟨n,hn,hp,h1,h8⟩:=gridR_n hgr;simp only[am,Rl.rec_,e1];refine(grows_calls r n hn h8 _ _ rfl (clG r w) σ1 fun o ho=>gclose1_calls r w o b1 b2 (hs.2.2 _ _ hg) (by omega) (by omega) e1 e2).mono ?_;rintro v σ1 ⟨rfl,rfl⟩;simp only[am];exact retK_intro rfl hs ⟨by simp[closeG,hgr,V.erase,hn],rfl⟩
theorem owns_calls (r:Rl) (o:Nat) (σ:Store):PCalls prog 271 [.agg r.enc,.int .i64 (o:Nat)] σ fun v σ' => v = .bool (gridR r&&decide ((o:Int)<r.n))∧σ' = σ:=by
  refine fn271.calls ?_;simp only[slots,ac271,am,ams,Nat.reduceAdd,Rl.rec_];refine cl (gright_calls r σ) ?_;cases h:gridR r with
  | false =>
    simp only[am];refine retS ?_;simp[V.erase]
  | true =>
    simp only[am,Rl.rec_,show decide ((0:Int)≤(o:Nat))=true from decide_eq_true (by omega)];refine retS ?_;simp[V.erase]
theorem grule1_calls (k o b:Nat) (w:B64) {σ:Store} (b2:Nat) (h1:σ.box b=some [.int .i64 (o:Nat)]) (h2:σ.box b2=some [.int .u64 (w.toNat:Nat)]) :
    PCalls prog 274 [.int .i64 (k:Nat),.ptr (.out b) 0,.ptr (.out b2) 0] σ fun v σ' => v = .int .u64 ((if k=o then w else 0#64).toNat:Nat)∧σ' = σ:=by
  refine fn274.calls ?_;simp only[slots,ac274,am,ams,Nat.reduceAdd,w_zero];simp only[am,h1]
  by_cases h:k=o
  · simp only[am,decide_eq_true (show (k:Int)=(o:Nat) by omega),h2];refine retS ?_;simp[V.erase,h]
  · simp only[am,decide_eq_false (show ¬(k:Int)=(o:Nat) by omega)];refine retS ?_;simp[V.erase,h]
theorem grule_calls (r:Rl) (o:Nat) (d:B64) {σ:Store} (hg:TZ σ):PCalls prog 258 [.agg r.enc,.int .i64 (o:Nat),.int .u64 (d.toNat:Nat)] σ fun v σ' => v = .int .u64 ((ruleG r o d).toNat:Nat)∧σ' = σ:=by
  refine fn258.calls ?_;simp only[slots,ac258,z6_,Nat.reduceAdd];refine kO_intro fun b1 hb1=>?_
  simp only[am,Rl.rec_];have hs:=sub_set (cs:=[V.int .i64 (o:Nat)]) hb1;have e1:(σ.set b1 [V.int .i64 (o:Nat)]).box b1=some [V.int .i64 (o:Nat)]:=set_box;generalize hσ:σ.set b1 [V.int .i64 (o:Nat)]=σ1 at hs e1;refine(owns_calls r o σ1).mono ?_;rintro v σ1 ⟨rfl,rfl⟩;simp only[am];cases hgr:gridR r&&decide ((o:Int)<r.n) with
  | false =>
    simp only[am];exact retK_intro rfl hs ⟨by simp[ruleG,hgr,V.erase],rfl⟩
  | true =>
    have hgr' := hgr;rw[Bool.and_eq_true,decide_eq_true_eq] at hgr;obtain⟨n,hn,hp,h1,h8⟩:=gridR_n hgr.1;simp only[am,Nat.reduceAdd,decide_true,Nat.reduceLT,Rl.rec_];refine CallD.intro (mask_below_calls r.n σ1) ?_;simp only[am,Rl.rec_];refine CallD.intro (up_calls r d (hs.2.2 _ _ hg)) ?_;simp only[am,w_andNot,Rl.rec_];refine Upd.publish (l:=[r.enc]) (cs:=[V.int .u64 ((belowB r.n&&&~~~upR r d).toNat:Nat)]) rfl fun b2 hb2=>?_
    rw[show belowB r.n&&&~~~upR r d=keptG r d from rfl];have hs2:=Store.subT hs (sub_set (cs:=[V.int .u64 ((keptG r d).toNat:Nat)]) hb2);have hne:b1≠b2:=by rintro rfl;rw[e1] at hb2;simp at hb2
    have e2:(σ1.set b2 [V.int .u64 ((keptG r d).toNat:Nat)]).box b1=some [V.int .i64 (o:Nat)]:=by rw[set_box_ne hne,e1]
    have e3:(σ1.set b2 [V.int .u64 ((keptG r d).toNat:Nat)]).box b2=some [V.int .u64 ((keptG r d).toNat:Nat)]:=set_box;generalize σ1.set b2 [V.int .u64 ((keptG r d).toNat:Nat)]=σ2 at hs2 e2 e3;simp only[am,Nat.reduceLT,reduceCtorEq,Rl.rec_,List.map_cons,List.map_nil,amp,pub_map (n:=1) (l:=r.enc) Rl.r_lo Rl.r_nol];refine CallD.intro (grows_calls r n hn h8 _ _ rfl (fun k=>if k=o then keptG r d else 0#64) σ2 fun k hk=>grule1_calls k o b1 (keptG r d) b2 e2 e3) ?_;simp only[am,Rl.rec_];refine CallD.intro (gclose_calls r _ (hs2.2.2 _ _ hg)) ?_;simp only[am,Rl.rec_];exact retK_intro rfl hs2 ⟨by rw[ruleG,hgr',hn];rfl,rfl⟩
end Go.Proofs.Tryz

namespace Go.Proofs.Tryz
open Go.Am
set_option maxRecDepth 4000
set_option maxHeartbeats 4000000
def ac114:AC:=.seq (.reg [⟨(some 1),.box 65 (.s 0),none⟩,⟨(some 2),.mv (.c (.bool false)),none⟩])
 (.seq (.seq (.reg [xf 0 9 1,xo 10 9,xB .lss 11 10 1,xm 12 11,xh 12 (xf 0 13 1),xh 12 (xo 14 13),xh 12 (xB .gtr 15 14 64),⟨(some 16),.pick (.s 12) (.c (.bool true)) (.s 15),none⟩,xm 17 16,xh 17 (xl 65 18 1),xh 17 (xc 161 19 [.s 18]),⟨(some 20),.not (.s 19),(some (17,false))⟩,⟨(some 21),.pick (.s 17) (.c (.bool true)) (.s 20),none⟩])
 (.cond (.s 21) (.seq (.reg [⟨(some 2),.mv (.c (.bool false)),none⟩])
 (.ret))
 (.skip)))
 (.seq (.seq (.reg [xf 0 22 1,xo 23 22,xi 24 0])
 (.block 0 (.loop (.seq (.reg [xb .lss 25 24 23])
 (.seq (.cond (.s 25) (.skip)
 (.exit 0))
 (.seq (.block 1 (.seq (.reg [xm 26 24,xm 3 26])
 (.seq (.reg [xm 27 3,xi 28 0])
 (.block 2 (.loop (.seq (.reg [xb .lss 29 28 27])
 (.seq (.cond (.s 29) (.skip)
 (.exit 2))
 (.seq (.block 3 (.seq (.reg [xm 30 28,xm 4 30])
 (.seq (.reg [xl 65 32 1,xm 33 3,xm 34 4,xc 162 35 [.s 32,.s 33,.s 34],xm 31 35,xe 36 31 0,xe 37 31 1,xm 5 36,xm 6 37])
 (.seq (.reg [xl 65 39 1,xm 40 3,xm 41 4,xc 163 42 [.s 39,.s 40,.s 41],xm 38 42,xe 43 38 0,xe 44 38 1,xm 7 43,xm 8 44])
 (.seq (.reg [xm 45 6,⟨(some 46),.not (.s 45),none⟩,xm 47 46,xh 47 (xm 48 8),⟨(some 49),.not (.s 48),(some (47,false))⟩,⟨(some 50),.pick (.s 47) (.c (.bool true)) (.s 49),none⟩])
 (.cond (.s 50) (.seq (.reg [⟨(some 2),.mv (.c (.bool false)),none⟩])
 (.ret))
 (.skip)))))))
 (.reg [xB .add 51 28 1,xm 28 51])))))))))
 (.reg [xB .add 52 24 1,xm 24 52])))))))
 (.seq (.reg [⟨(some 2),.mv (.c (.bool true)),none⟩])
 (.ret))))
theorem fn114:IsFn prog 114 ac114 [.tmp 2] 53:=⟨f114,⟨[],[],[]⟩,func114,by kernel_rfl,by kernel_rfl,by kernel_rfl,by kernel_rfl⟩
def ac162:AC:=.seq (.reg [⟨(some 3),.box 65 (.s 0),none⟩,xi 6 0,⟨(some 7),.mv (.c (.bool false)),none⟩])
 (.seq (.reg [xl 65 8 3,xm 9 1,xm 10 2,xc 216 11 [.s 8,.s 9,.s 10,.c (.fn (.func 217) [] [])],xe 12 11 0,xe 13 11 1,xm 6 12,xm 7 13])
 (.ret))
theorem fn162:IsFn prog 162 ac162 [.tmp 6,.tmp 7] 14:=⟨f162,⟨[],[],[]⟩,func162,by kernel_rfl,by kernel_rfl,by kernel_rfl,by kernel_rfl⟩
def ac163:AC:=.seq (.reg [⟨(some 3),.box 65 (.s 0),none⟩,xi 6 0,⟨(some 7),.mv (.c (.bool false)),none⟩])
 (.seq (.reg [xl 65 8 3,xm 9 1,xm 10 2,xc 216 11 [.s 8,.s 9,.s 10,.c (.fn (.func 218) [] [])],xe 12 11 0,xe 13 11 1,xm 6 12,xm 7 13])
 (.ret))
theorem fn163:IsFn prog 163 ac163 [.tmp 6,.tmp 7] 14:=⟨f163,⟨[],[],[]⟩,func163,by kernel_rfl,by kernel_rfl,by kernel_rfl,by kernel_rfl⟩
def ac216:AC:=.seq (.reg [⟨(some 4),.box 65 (.s 0),none⟩,xi 8 0,⟨(some 9),.mv (.c (.bool false)),none⟩])
 (.seq (.draw [(xm 13 3,[]),(xl 65 14 4,[]),(xm 15 1,[]),(⟨(some 16),.callv (.s 13) [(.s 14),(.s 15)],none⟩,[]),(xm 17 3,[]),(xl 65 18 4,[0]),(xm 19 2,[]),(⟨(some 20),.callv (.s 17) [(.s 18),(.s 19)],none⟩,[]),(xb .and 21 16 20,[]),(xm 10 21,[])])
 (.seq (.seq (.reg [xm 22 10,xc 249 23 [.s 22],xL 24 23,xi 25 0])
 (.block 0 (.loop (.seq (.reg [xb .lss 26 25 24])
 (.seq (.cond (.s 26) (.skip)
 (.exit 0))
 (.seq (.block 1 (.seq (.reg [xA 1 27 23 25,xo 28 27,xm 12 28])
 (.seq (.reg [xm 29 10,xm 30 3,xl 65 31 4,xm 32 12,⟨(some 33),.callv (.s 30) [(.s 31),(.s 32)],none⟩,xc 250 34 [.s 29,.s 33]])
 (.cond (.s 34) (.seq (.reg [xm 35 12,xm 8 35,⟨(some 9),.mv (.c (.bool true)),none⟩])
 (.ret))
 (.skip)))))
 (.reg [xB .add 36 25 1,xm 25 36])))))))
 (.seq (.reg [xi 8 0,⟨(some 9),.mv (.c (.bool false)),none⟩])
 (.ret))))
theorem fn216:IsFn prog 216 ac216 [.tmp 8,.tmp 9] 37:=⟨f216,⟨[],[],[]⟩,func216,by kernel_rfl,by kernel_rfl,by kernel_rfl,by kernel_rfl⟩
def ac217:AC:=.seq (.reg [⟨(some 2),.box 65 (.s 0),none⟩,⟨(some 4),.mv (.c (.int .u64 0)),none⟩])
 (.seq (.draw [(xl 65 5 2,[1]),(xm 6 1,[]),(⟨(some 7),.bslice 1 [(.s 6)],none⟩,[]),(xc 215 8 [.s 7],[]),(xc 247 9 [.s 5,.s 8],[]),(xm 4 9,[])])
 (.ret))
theorem fn217:IsFn prog 217 ac217 [.tmp 4] 10:=⟨f217,⟨[],[],[]⟩,func217,by kernel_rfl,by kernel_rfl,by kernel_rfl,by kernel_rfl⟩
def ac218:AC:=.seq (.reg [⟨(some 2),.box 65 (.s 0),none⟩,⟨(some 4),.mv (.c (.int .u64 0)),none⟩])
 (.seq (.seq (.reg [xl 65 5 2,xm 6 1,xc 251 7 [.s 5,.s 6],⟨(some 8),.not (.s 7),none⟩])
 (.cond (.s 8) (.seq (.reg [⟨(some 4),.mv (.c (.int .u64 0)),none⟩])
 (.ret))
 (.skip)))
 (.seq (.draw [(xl 65 9 2,[1]),(xm 10 1,[]),(⟨(some 11),.bslice 1 [(.s 10)],none⟩,[]),(xc 215 12 [.s 11],[]),(xc 248 13 [.s 9,.s 12],[]),(xm 4 13,[])])
 (.ret)))
theorem fn218:IsFn prog 218 ac218 [.tmp 4] 14:=⟨f218,⟨[],[],[]⟩,func218,by kernel_rfl,by kernel_rfl,by kernel_rfl,by kernel_rfl⟩
def ac251:AC:=.seq (.reg [⟨(some 2),.box 65 (.s 0),none⟩,⟨(some 4),.mv (.c (.bool false)),none⟩])
 (.seq (.reg [xm 5 1,xB .geq 6 5 0,xm 7 6,xg 7 (xm 8 1),xg 7 (xf 0 9 2),xg 7 (xo 10 9),xg 7 (xc 222 11 [.s 10]),xg 7 (xw 0 12 11),xg 7 (xb .lss 13 8 12),⟨(some 14),.pick (.s 7) (.s 13) (.c (.bool false)),none⟩,xm 4 14])
 (.ret))
theorem fn251:IsFn prog 251 ac251 [.tmp 4] 15:=⟨f251,⟨[],[],[]⟩,func251,by kernel_rfl,by kernel_rfl,by kernel_rfl,by kernel_rfl⟩
def ac259:AC:=.seq (.reg [⟨(some 2),.box 65 (.s 0),none⟩,⟨(some 4),.mv (.c (.int .u64 0)),none⟩])
 (.seq (.reg [xl 65 5 2,xm 6 1,xc 218 7 [.s 5,.s 6],xm 4 7])
 (.ret))
theorem fn259:IsFn prog 259 ac259 [.tmp 4] 8:=⟨f259,⟨[],[],[]⟩,func259,by kernel_rfl,by kernel_rfl,by kernel_rfl,by kernel_rfl⟩
def optT (o:Option Nat):V:=.tup [.int .i64 ((o.getD 0:Nat):Int),.bool o.isSome]
theorem nat_ge0 {i:Nat}:decide ((0:Int)≤(i:Nat))=true:=decide_eq_true (by omega)
theorem hin_calls (r:Rl) (i:Nat) (σ:Store):PCalls prog 251 [.agg r.enc,.int .i64 (i:Nat)] σ fun v σ' => v = .bool (decide (i<pts r))∧σ' = σ:=by
  refine fn251.calls ?_;simp only[slots,ac251,am,ams,Nat.reduceAdd,Rl.rec_];simp only[am,Rl.rec_,nat_ge0];refine cl (new_calls r.n σ) ?_;simp only[am,Rl.rec_,Rl.of_n];refine retS ?_;simp[V.erase,pts];rfl
theorem above_calls (r:Rl) (i:Nat) {σ:Store} (hg:TZ σ):PCalls prog 217 [.agg r.enc,.int .i64 (i:Nat)] σ fun v σ' => v = .int .u64 ((aboveH r i).toNat:Nat)∧σ' = σ:=by
  refine fn217.calls ?_;simp only[slots,ac217,z6_,Nat.reduceAdd];refine CallD.intro (PCalls.weak (as' := [.sl .no 1 (iCells [(i:Int)])]) (mask_of_calls [(i:Int)] σ (by simp)) ⟨VLe.no,trivial⟩ OLe.rfl) ?_;simp only[am,Rl.rec_];refine CallD.intro (up_calls r _ hg) ?_;simp only[am,Rl.rec_];refine retS ?_;simp[V.erase,aboveH]
theorem below_calls (r:Rl) (i:Nat) (σ:Store):PCalls prog 218 [.agg r.enc,.int .i64 (i:Nat)] σ fun v σ' => v = .int .u64 ((belowH r i).toNat:Nat)∧σ' = σ:=by
  refine fn218.calls ?_;simp only[slots,ac218,z6_,Nat.reduceAdd];refine cl (hin_calls r i σ) ?_
  by_cases h:i<pts r
  · simp only[am,Rl.rec_,decide_eq_true h];refine CallD.intro (PCalls.weak (as' := [.sl .no 1 (iCells [(i:Int)])]) (mask_of_calls [(i:Int)] σ (by simp)) ⟨VLe.no,trivial⟩ OLe.rfl) ?_;simp only[am,Rl.rec_];refine CallD.intro (down_calls r _ σ) ?_;simp only[am,Rl.rec_];refine retS ?_;simp[V.erase,belowH,h]
  · simp only[am,decide_eq_false h];refine retS ?_;simp[V.erase,belowH,h]
theorem nearest_calls (r:Rl) (i j:Nat) (f:FuncId) (g:Nat→B64) {σ:Store} (hg:TZ σ) (hf:∀k,PCalls prog f [.agg r.enc,.int .i64 (k:Nat)] σ fun v σ' => v = .int .u64 ((g k).toNat:Nat)∧σ' = σ) :
    PCalls prog 216 [.agg r.enc,.int .i64 (i:Nat),.int .i64 (j:Nat),.fn (.func f) [] []] σ fun v σ' => v=optT (nearH g i j)∧σ' = σ:=by
  refine fn216.calls ?_;simp only[slots,ac216,am,ams,Nat.reduceAdd,Rl.rec_];refine CallD.intro (hf i) ?_;simp only[am,Rl.rec_];refine CallD.intro (hf j) ?_;simp only[am,w_and,Rl.rec_];refine cl (mask_list_calls _ hg) ?_;simp only[am,List.length_map,iCells_len];rw[nearH];generalize g i&&&g j=w;have hlen:=listB_len w;obtain⟨F,hF⟩:∃F:Nat→Unit→St,∀m x,F m x=⟨[.agg r.enc,.any,.any,.fn (.func f) [] [],.ptr (.loc 0) 0,.any,.any,.any,.any,.any,.int .u64 (w.toNat:Nat),.any,.any,.any,.any,.any,.any,.any,.any,.any,.any,.any,.any,.sl .no 1 (iCells ((listB w).map Int.ofNat)),.int .i64 ((listB w).length:Nat),.int .i64 (m:Nat)]++List.replicate 11 .any,[r.enc],σ⟩:=⟨_,fun _ _=>rfl⟩;obtain⟨JF,hJF⟩:∃JF:Nat→Unit→Prop,∀m x,JF m x=(∀u∈(listB w).take m,subB w (g u)=false):=⟨_,fun _ _=>rfl⟩;refine vc_count ((listB w).length) F JF _ hJF ?_ ?_ ?_
  · refine ent (()) ?_ ?_ ?_ ?_
    · exact Eq.mpr (hJF _ _) (by simp)
    all_goals simp[hF,List.replicate,am,lle_self]
  · rintro m x hi hJ;simp only[hF,List.replicate,am,dlt hi];refine idxL_intro (by omega) (iCells_at (l:=(listB w).map Int.ofNat) (by simpa using hi)) ?_;simp only[am,Rl.rec_,List.getElem_map,Int.ofNat_eq_natCast];refine(hf _).mono ?_;rintro v σ ⟨rfl,rfl⟩;simp only[am];refine cl (mask_sub_calls _ _ σ) ?_;simp only[am];cases hb:subB w (g (listB w)[m]) with
    | false =>
      simp only[am,aml,winc hi (by omega)];refine nxt (()) hi ?_ ?_ ?_ ?_
      · exact Eq.mpr (hJF _ _) (take_all hJ hi hb)
      all_goals simp[hF,List.replicate,am,lle_self]
    | true =>
      have e:(listB w).find? (fun u=>subB w (g u))=some (listB w)[m]:=by
        rw[List.find?_eq_some_iff_append];exact⟨hb,_,(listB w).drop (m+1),by rw[←List.drop_eq_getElem_cons hi,List.take_append_drop],fun a ha=>by rw[hJ a ha];rfl⟩
      simp only[am,aml];refine retS ?_;simp[V.erase,eraseL,optT,e]
  · rintro x hJ;rw[List.take_length] at hJ;have e:(listB w).find? (fun u=>subB w (g u))=none:=by
      rw[List.find?_eq_none];intro u hu;rw[hJ u hu];simp
    simp only[hF,List.replicate,am,aml,dnl,aml];refine retS ?_;simp[V.erase,eraseL,optT,e]
theorem join_calls (r:Rl) (i j:Nat) {σ:Store} (hg:TZ σ):PCalls prog 162 [.agg r.enc,.int .i64 (i:Nat),.int .i64 (j:Nat)] σ fun v σ' => v=optT (joinH r i j)∧σ' = σ:=by
  refine fn162.calls ?_;simp only[slots,ac162,am,ams,Nat.reduceAdd,Rl.rec_];refine cl (nearest_calls r i j _ (aboveH r) hg fun k=>above_calls r k hg) ?_;simp only[am,optT];refine retS ?_;simp[V.erase,eraseL,joinH]
theorem meet_calls (r:Rl) (i j:Nat) {σ:Store} (hg:TZ σ):PCalls prog 163 [.agg r.enc,.int .i64 (i:Nat),.int .i64 (j:Nat)] σ fun v σ' => v=optT (meetH r i j)∧σ' = σ:=by
  refine fn163.calls ?_;simp only[slots,ac163,am,ams,Nat.reduceAdd,Rl.rec_];refine cl (nearest_calls r i j _ (belowH r) hg fun k=>below_calls r k σ) ?_;simp only[am,optT];refine retS ?_;simp[V.erase,eraseL,meetH]
theorem hword_calls (r:Rl) (i:Nat) (σ:Store):PCalls prog 259 [.agg r.enc,.int .i64 (i:Nat)] σ fun v σ' => v = .int .u64 ((belowH r i).toNat:Nat)∧σ' = σ:=by
  refine fn259.calls ?_;simp only[slots,ac259,z6_,Nat.reduceAdd];refine cl (below_calls r i σ) ?_;simp only[am];refine retS ?_;simp[V.erase]
theorem find_at {p:Nat→Bool} {n m:Nat} (hm:m<n) (h:∀k,k<m→p k=false) (hp:p m=true):(List.range n).find? p=some m:=by
  rw[List.find?_eq_some_iff_append];refine⟨hp,List.range m,List.range' (m+1) (n - (m+1)),?_,fun a ha=>by rw[h a (by simpa using ha)];rfl⟩;rw[List.range_eq_range',List.range_eq_range',←List.range'_succ]
  have:=List.range'_append (s:=0) (m:=m) (n:=n - m) (step:=1)
  simp only[Nat.one_mul,Nat.zero_add] at this;rw[show n - (m+1)+1=n - m by omega,this];congr 1;omega
theorem find_no {p:Nat→Bool} {n:Nat} (h:∀k,k<n→p k=false):(List.range n).find? p=none:=by
  rw[List.find?_eq_none];intro u hu;rw[h u (by simpa using hu)];simp
theorem lattice_calls (r:Rl) {σ:Store} (hg:TZ σ):PCalls prog 114 [.agg r.enc] σ fun v σ' => v = .bool (latH r)∧σ' = σ:=by
  refine fn114.calls ?_;simp only[slots,ac114,am,ams,Rl.rec_]
  by_cases h1:r.n<1
  · simp only[am,decide_eq_true h1];refine retS ?_;simp[V.erase,latH];omega
  · simp only[am,Rl.rec_,decide_eq_false h1]
    by_cases h2:64<r.n
    · simp only[am,decide_eq_true h2];refine retS ?_;simp[V.erase,latH];omega
    · simp only[am,Rl.rec_,decide_eq_false h2];refine cl (order_calls r hg) ?_;obtain⟨n,hn⟩:∃n:Nat,r.n=n:=⟨r.n.toNat,by omega⟩;have hp:pts r=n:=by rw[pts,hn];omega
      cases ho:orderR r with
      | false =>
        simp only[am];refine retS ?_;simp[V.erase,latH,ho]
      | true =>
        simp only[am,Rl.rec_,hn];have good:(∀i,i<n→∀j,j<i→((joinH r i j).isSome&&(meetH r i j).isSome)=true)→latH r=true:=fun h=>by
          simp only[latH,ho,hn,Int.toNat_natCast,List.all_eq_true,List.mem_range,Bool.and_eq_true,decide_eq_true_eq,Bool.and_true];exact⟨by omega,fun i hi j hj=>by have:=h i hi j hj;simpa using this⟩
        have bad:∀i j,i<n→j<i→((joinH r i j).isSome&&(meetH r i j).isSome)=false→latH r=false:=fun i j hi hj h=>by
          cases hq:latH r with
          | false=>rfl
          | true =>
            simp only[latH,hn,Int.toNat_natCast,List.all_eq_true,List.mem_range,Bool.and_eq_true] at hq
            have:=hq.2 i hi j hj
            rw[this.1,this.2] at h;simp at h
        obtain⟨F,hF⟩:∃F:Nat→Unit→St,∀i x,F i x=⟨[.any,.ptr (.loc 0) 0,.any,.any,.any,.any,.any,.any,.any,.any,.any,.any,.any,.any,.any,.any,.any,.any,.any,.any,.any,.any,.any,.int .i64 (n:Nat),.int .i64 (i:Nat)]++List.replicate 28 .any,[r.enc],σ⟩:=⟨_,fun _ _=>rfl⟩;obtain⟨JF,hJF⟩:∃JF:Nat→Unit→Prop,∀i x,JF i x=(∀a,a<i→∀b,b<a→((joinH r a b).isSome&&(meetH r a b).isSome)=true):=⟨_,fun _ _=>rfl⟩;refine vc_count (n) F JF _ hJF ?_ ?_ ?_
        · refine ent (()) ?_ ?_ ?_ ?_
          · exact Eq.mpr (hJF _ _) (by intro k h;omega)
          all_goals simp[hF,List.replicate,am,lle_self]
        · rintro i x hi hJ;simp only[hF,List.replicate,am,dlt hi];obtain⟨F2,hF2⟩:∃F2:Nat→Unit→St,∀j x,F2 j x=⟨[.any,.ptr (.loc 0) 0,.any,.int .i64 (i:Nat),.any,.any,.any,.any,.any,.any,.any,.any,.any,.any,.any,.any,.any,.any,.any,.any,.any,.any,.any,.int .i64 (n:Nat),.int .i64 (i:Nat),.any,.any,.int .i64 (i:Nat),.int .i64 (j:Nat)]++List.replicate 24 .any,[r.enc],σ⟩:=⟨_,fun _ _=>rfl⟩;obtain⟨JF2,hJF2⟩:∃JF2:Nat→Unit→Prop,∀j x,JF2 j x=(∀b,b<j→((joinH r i b).isSome&&(meetH r i b).isSome)=true):=⟨_,fun _ _=>rfl⟩;refine vc_count (i) F2 JF2 _ hJF2 ?_ ?_ ?_
          · refine ent (()) ?_ ?_ ?_ ?_
            · exact Eq.mpr (hJF2 _ _) (by intro k h;omega)
            all_goals simp[hF2,List.replicate,am,lle_self]
          · rintro j x hj hJ2;simp only[hF2,List.replicate,am,dlt hj,Rl.rec_];refine cl (join_calls r i j hg) ?_;simp only[am,Rl.rec_,optT];refine cl (meet_calls r i j hg) ?_;simp only[am,optT];cases ha:(joinH r i j).isSome with
            | false =>
              simp only[am,aml];refine retS ?_;simp[V.erase,bad i j hi hj (by rw[ha];rfl)]
            | true =>
              simp only[am];cases hb:(meetH r i j).isSome with
              | false =>
                simp only[am,aml];refine retS ?_;simp[V.erase,bad i j hi hj (by rw[ha,hb];rfl)]
              | true =>
                simp only[am,aml,winc hj (by omega)];refine nxt (()) hj ?_ ?_ ?_ ?_
                · exact Eq.mpr (hJF2 _ _) (allS hJ2 (by rw[ha,hb];rfl))
                all_goals simp[hF2,List.replicate,am,lle_self]
          · rintro x hJ2;simp only[hF2,List.replicate,am,aml,dnl,Nat.reduceEqDiff,aml,reduceCtorEq,winc hi (by omega)];refine nxt (()) hi ?_ ?_ ?_ ?_
            · exact Eq.mpr (hJF _ _) (allS hJ hJ2)
            all_goals simp[hF,List.replicate,am,lle_self]
        · rintro x hJ;simp only[hF,List.replicate,am,aml,dnl,aml];refine retS ?_;simp[V.erase,good hJ]
end Go.Proofs.Tryz

namespace Go.Proofs.Tryz
open Go.Am
set_option maxRecDepth 4000
set_option maxHeartbeats 4000000
end Go.Proofs.Tryz

namespace Go.Proofs.Tryz
open Go.Am
set_option maxRecDepth 4000
set_option maxHeartbeats 4000000
structure RI (r:Rl) (i0 m:Nat) (l:List Nat):Prop where
  nd:l.Nodup
  rch:∀k∈l,Rch r i0 k
  fst:i0∈l
  suc:∀a v,a<m→l[a]?=some v→∀k,hsR r v k=true→k∈l
theorem RI.len {r:Rl} {i0 m:Nat} {l:List Nat} (h:RI r i0 m l):l.length≤pts r:=nodup_le h.nd fun k hk=>(h.rch k hk).lt.2
theorem RI.all {r:Rl} {i0:Nat} {l:List Nat} (h:RI r i0 l.length l) (j:Nat):j∈l↔Rch r i0 j:=by
  refine⟨h.rch j,fun hr=>?_⟩;induction hr with
  | refl _=>exact h.fst
  | tail _ hs ih =>
    obtain⟨a,ha,hv⟩:=List.mem_iff_getElem.1 ih;exact h.suc a _ ha (by rw[List.getElem?_eq_getElem ha,hv]) _ hs
theorem RI.add {r:Rl} {i0 m j:Nat} {l:List Nat} {v:Nat} (h:RI r i0 m l) (hm:m≤l.length) (hv:v∈l) (hs:hsR r v j=true) (hj:j∉l):RI r i0 m (l++[j]):=by
  refine⟨?_,fun k hk=>?_,by simp[h.fst],fun a w ha hw k hk=>?_⟩
  · rw[List.nodup_append];exact⟨h.nd,by simp,fun a ha b hb=>by simp only[List.mem_singleton] at hb;subst hb;rintro rfl;exact hj ha⟩
  · rcases List.mem_append.1 hk with hk | hk
    · exact h.rch k hk
    · rw[List.mem_singleton.1 hk];exact(h.rch v hv).tail hs
  · rw[List.getElem?_append_left (by omega)] at hw;exact List.mem_append.2 (.inl (h.suc a w ha hw k hk))
end Go.Proofs.Tryz

namespace Go.Proofs.Tryz
open Go.Am
set_option maxRecDepth 4000
set_option maxHeartbeats 4000000
end Go.Proofs.Tryz

namespace Go.Proofs.Tryz
open Go.Am
set_option maxRecDepth 4000
set_option maxHeartbeats 4000000
end Go.Proofs.Tryz

namespace Go.Proofs.Tryz
open Go.Am
def ac156:AC:=.seq (.reg [⟨(some 2),.mv (.c (.bool false)),none⟩])
 (.seq (.reg [xm 3 0,xk 4 3,xf 3 5 4,xl 2 6 5,⟨(some 7),.build [(.int .i64 0),(.int .i64 0)] [],none⟩,⟨(some 8),.eqA false [1,1] (.s 6) (.s 7),none⟩,xm 2 8])
 (.ret))
theorem fn156:IsFn prog 156 ac156 [.tmp 2] 9:=⟨f156,⟨[],[],[]⟩,func156,by kernel_rfl,by kernel_rfl,by kernel_rfl,by kernel_rfl⟩
def ac204:AC:=.seq (.reg [⟨(some 2),.alloc [(.str []),(.int .i64 0)],none⟩])
 (.seq (.reg [xm 4 0,xc 206 5 [.s 4,.c (.int .u8 97)],⟨(some 3),.alloc [(.int .u8 0),(.str []),(.int .i64 0),(.sl .full 5 []),(.int .i64 0)],none⟩,xs 5 3 5])
 (.seq (.reg [xf 0 6 3,xf 1 7 6,xo 8 7,xf 0 9 3,xf 2 10 9,xo 11 10,⟨(some 12),.build [(.str []),(.int .i64 0)] [(0,1,(.s 8)),(1,1,(.s 11))],none⟩,xs 2 2 12])
 (.ret)))
theorem fn204:IsFn prog 204 ac204 [.cell 2 true 2] 13:=⟨f204,⟨[],[],[]⟩,func204,by kernel_rfl,by kernel_rfl,by kernel_rfl,by kernel_rfl⟩
def ac205:AC:=.seq (.reg [⟨(some 4),.mv (.c (.bool false)),none⟩])
 (.seq (.draw [(xm 5 0,[]),(xc 156 6 [.s 5],[]),(xm 7 6,[]),(xg 7 (xm 8 0),[]),(xg 7 (xk 9 8),[]),(xg 7 (xf 1 10 9),[]),(xg 7 (xo 11 10),[]),(xg 7 (xB .geq 12 11 0),[]),(⟨(some 13),.pick (.s 7) (.s 12) (.c (.bool false)),none⟩,[]),(xm 14 13,[]),(xg 14 (xm 15 0),[]),(xg 14 (xk 16 15),[]),(xg 14 (xf 1 17 16),[]),(xg 14 (xo 18 17),[]),(xg 14 (xm 19 0),[]),(xg 14 (xk 20 19),[]),(xg 14 (xf 0 21 20),[]),(xg 14 (xo 22 21),[]),(xg 14 (xL 23 22),[]),(xg 14 (xb .lss 24 18 23),[]),(⟨(some 25),.pick (.s 14) (.s 24) (.c (.bool false)),none⟩,[]),(xm 26 25,[]),(xg 26 (xm 27 0),[]),(xg 26 (xk 28 27),[]),(xg 26 (xf 0 29 28),[]),(xg 26 (xo 30 29),[]),(xg 26 (xm 31 0),[]),(xg 26 (xk 32 31),[]),(xg 26 (xf 1 33 32),[]),(xg 26 (xo 34 33),[]),(xg 26 (xA 5 35 30 34),[]),(xg 26 (xf 0 36 35),[]),(xg 26 (xf 0 37 36),[]),(xg 26 (xo 38 37),[]),(xg 26 (xm 39 1),[]),(xg 26 (xb .eql 40 38 39),[]),(⟨(some 41),.pick (.s 26) (.s 40) (.c (.bool false)),none⟩,[]),(xm 4 41,[])])
 (.ret))
theorem fn205:IsFn prog 205 ac205 [.tmp 4] 42:=⟨f205,⟨[],[],[]⟩,func205,by kernel_rfl,by kernel_rfl,by kernel_rfl,by kernel_rfl⟩
def ac206:AC:=.seq (.reg [⟨(some 4),.alloc [(.int .u8 0),(.str []),(.int .i64 0),(.sl .full 5 []),(.int .i64 0)],none⟩])
 (.seq (.seq (.reg [xm 5 0,xm 6 1,xc 205 7 [.s 5,.s 6],⟨(some 8),.not (.s 7),none⟩])
 (.cond (.s 8) (.seq (.reg [xm 9 0,xc 243 10 [.s 9]])
 (.seq (.reg [⟨(some 11),.build [(.int .u8 0),(.str []),(.int .i64 0),(.sl .full 5 []),(.int .i64 0)] [],none⟩,xs 5 4 11])
 (.ret)))
 (.skip)))
 (.seq (.reg [xm 12 0,xk 13 12,xf 1 14 13,xo 15 14,xB .add 16 15 1,xk 17 12,xf 1 18 17,xs 1 18 16])
 (.seq (.draw [(xm 19 0,[]),(xk 20 19,[]),(xf 0 21 20,[]),(xo 22 21,[]),(xm 23 0,[]),(xk 24 23,[]),(xf 1 25 24,[]),(xo 26 25,[]),(xB .sub 27 26 1,[]),(xA 5 28 22 27,[]),(xl 5 29 28,[]),(xs 5 4 29,[])])
 (.ret))))
theorem fn206:IsFn prog 206 ac206 [.cell 4 true 5] 30:=⟨f206,⟨[],[],[]⟩,func206,by kernel_rfl,by kernel_rfl,by kernel_rfl,by kernel_rfl⟩
def ac243:AC:=.seq (.seq (.reg [xm 2 0,xc 156 3 [.s 2],⟨(some 4),.not (.s 3),none⟩])
 (.cond (.s 4) (.ret)
 (.skip)))
 (.seq (.reg [xm 5 0,xm 6 0,xk 7 6,xf 2 8 7,xo 9 8,⟨(some 10),.build [(.int .i64 0),(.int .i64 0)] [(0,1,(.c (.int .i64 2))),(1,1,(.s 9))],none⟩,xk 11 5,xf 3 12 11,xs 2 12 10])
 (.seq (.draw [(xm 13 0,[]),(xk 14 13,[]),(xf 1 15 14,[]),(xo 16 15,[]),(xB .geq 17 16 0,[]),(xm 18 17,[]),(xg 18 (xm 19 0),[]),(xg 18 (xk 20 19),[]),(xg 18 (xf 1 21 20),[]),(xg 18 (xo 22 21),[]),(xg 18 (xm 23 0),[]),(xg 18 (xk 24 23),[]),(xg 18 (xf 0 25 24),[]),(xg 18 (xo 26 25),[]),(xg 18 (xL 27 26),[]),(xg 18 (xb .lss 28 22 27),[]),(⟨(some 29),.pick (.s 18) (.s 28) (.c (.bool false)),none⟩,[])])
 (.cond (.s 29) (.draw [(xm 30 0,[]),(xm 31 0,[]),(xk 32 31,[]),(xf 0 33 32,[]),(xo 34 33,[]),(xm 35 0,[]),(xk 36 35,[]),(xf 1 37 36,[]),(xo 38 37,[]),(xA 5 39 34 38,[]),(xf 0 40 39,[]),(xf 2 41 40,[]),(xo 42 41,[]),(xk 43 30,[]),(xf 3 44 43,[]),(xf 1 45 44,[]),(xs 1 45 42,[])])
 (.skip))))
theorem fn243:IsFn prog 243 ac243 [] 46:=⟨f243,⟨[],[],[]⟩,func243,by kernel_rfl,by kernel_rfl,by kernel_rfl,by kernel_rfl⟩
set_option maxRecDepth 4000
theorem ok_calls {r:Nat} {rd:Rdr} {σ:Store} (h:σ.box r=some rd.enc):PCalls prog 156 [.ptr (.out r) 0] σ fun v σ' => v = .bool rd.ok∧σ' = σ:=by
  refine fn156.calls ?_;simp only[slots,ac156,ams,am,h,Rdr.enc];refine retK_intro rfl (Store.sub_refl _) ⟨?_,rfl⟩;cases hb:rd.bad<;>simp[Rdr.ok,V.erase,hb,badC,badA]
theorem sees_calls {r:Nat} {rd:Rdr} {k:Int} {σ:Store} (h:σ.box r=some rd.enc):PCalls prog 205 [.ptr (.out r) 0,.int .u8 k] σ fun v σ' => v = .bool (rd.sees k)∧σ' = σ:=by
  refine fn205.calls ?_;simp only[slots,ac205,ams,am];refine CallD.intro (ok_calls h) ?_;simp only[am];cases hok:rd.ok
  · simp only[am];refine retK_intro rfl (Store.sub_refl _) ⟨?_,rfl⟩;simp[Rdr.sees,hok,V.erase]
  · simp only[am,h,Rdr.enc]
    by_cases h0:0≤rd.at_
    · simp only[am,h0,decide_true,h,Rdr.enc,encs_length]
      by_cases h1:rd.at_<rd.l.length
      · obtain⟨j,hj⟩:=Int.eq_ofNat_of_zero_le h0;have hj' : j<rd.l.length:=by omega
        simp only[am,h1,decide_true,h,Rdr.enc];refine idxL_intro h0 (c:=rd.l[j].enc) (by simp[encs_map,hj,hj']) ?_;simp only[am,enc_eq];refine retK_intro rfl (Store.sub_refl _) ⟨?_,rfl⟩;simp[Rdr.sees,isK,V.erase,hok,hj,hj']
      · simp only[am,h1,decide_false];refine retK_intro rfl (Store.sub_refl _) ⟨?_,rfl⟩
        have:rd.l[rd.at_.toNat]?=none:=List.getElem?_eq_none (by omega)
        simp[Rdr.sees,isK,V.erase,this]
    · simp only[am,h0,decide_false];refine retK_intro rfl (Store.sub_refl _) ⟨?_,rfl⟩;simp[Rdr.sees,isK,V.erase,h0]
theorem fail_calls {r:Nat} {rd:Rdr} {σ:Store} (h:σ.box r=some rd.enc):PCalls prog 243 [.ptr (.out r) 0] σ fun v σ' => v = .tup []∧σ' = σ.set r rd.fail.enc:=by
  refine fn243.calls ?_;simp only[slots,ac243,ams,am];refine(ok_calls h).mono ?_;rintro v σ' ⟨rfl,rfl⟩;cases hb:rd.bad with
  | some b =>
    simp only[am,Rdr.ok,hb,Option.isNone];refine retK_intro rfl (Store.sub_refl _) ⟨rfl,?_⟩;rw[Rdr.fail,hb];exact(Store.set_id h).symm
  | none =>
    simp only[am,Rdr.ok,hb,Option.isNone,h,Rdr.enc,Nat.reduceAdd]
    by_cases h0:0≤rd.at_
    · simp only[am,h0,decide_true,encs_length]
      by_cases h1:rd.at_<rd.l.length
      · obtain⟨j,hj⟩:=Int.eq_ofNat_of_zero_le h0;have hj' : j<rd.l.length:=by omega
        simp only[am,h1,decide_true];refine idxL_intro h0 (c:=rd.l[j].enc) (by simp[encs_map,hj,hj']) ?_;simp only[am,enc_eq,Nat.reduceAdd];refine retK_intro rfl (Store.sub_refl _) ⟨rfl,?_⟩;simp[Rdr.fail,Rdr.spot,hb,hj,hj',badC,badA]
      · simp only[am,h1,decide_false];refine retK_intro rfl (Store.sub_refl _) ⟨rfl,?_⟩
        have:rd.l[rd.at_.toNat]?=none:=List.getElem?_eq_none (by omega)
        simp[Rdr.fail,Rdr.spot,hb,this,badC,badA]
    · simp only[am,h0,decide_false];refine retK_intro rfl (Store.sub_refl _) ⟨rfl,?_⟩;simp[Rdr.fail,Rdr.spot,hb,h0,badC,badA]
theorem take_calls {r:Nat} {rd:Rdr} {k:Int} {σ:Store} (h:σ.box r=some rd.enc) (hb:rd.l.length≤big):PCalls prog 206 [.ptr (.out r) 0,.int .u8 k] σ fun v σ' => v = .agg (rd.take k).1.enc∧σ' = σ.set r (rd.take k).2.enc:=by
  refine fn206.calls ?_;simp only[slots,ac206,ams,am];refine(sees_calls h).mono ?_;rintro v σ' ⟨rfl,rfl⟩;cases hs:rd.sees k
  · simp only[am];refine(fail_calls h).mono ?_;rintro v σ' ⟨rfl,rfl⟩;simp only[am];refine retK_intro rfl (Store.sub_refl _) ⟨?_,?_⟩
    · simp[Rdr.take,hs,V.erase,eraseL,Tree.zero,Tree.enc,encs]
    · simp[Rdr.take,hs]
  · have hs' := hs;simp only[Rdr.sees,isK,Bool.and_eq_true,decide_eq_true_eq] at hs';obtain⟨_,h0,hk⟩:=hs';have h1:rd.at_.toNat<rd.l.length:=by
      cases hq:rd.l[rd.at_.toNat]? with
      | none=>rw[hq] at hk;simp at hk
      | some t=>exact(List.getElem?_eq_some_iff.1 hq).1
    simp only[big] at hb;simp only[am,h,Rdr.enc];rw[wrap_i64 (x:=rd.at_+1) (by omega) (by omega),wrap_i64 (x:=rd.at_+1 - 1) (by omega) (by omega)];refine idxL_intro (by omega) (c:=rd.l[rd.at_.toNat].enc) (by rw[show (rd.at_+1 - 1).toNat=rd.at_.toNat by omega];simp[encs_map,h1]) ?_;simp only[am,enc_eq];refine retK_intro rfl (Store.sub_refl _) ⟨?_,?_⟩
    · simp[Rdr.take,hs,V.erase,eraseL,h1,List.getD]
    · simp[Rdr.take,hs]
theorem word_calls {r:Nat} {rd:Rdr} {σ:Store} (h:σ.box r=some rd.enc) (hb:rd.l.length≤big):PCalls prog 204 [.ptr (.out r) 0] σ fun v σ' => v = .agg rd.word.1.enc∧σ' = σ.set r rd.word.2.enc:=by
  refine fn204.calls ?_;simp only[slots,ac204,ams,am];refine(take_calls h hb).mono ?_;rintro v σ' ⟨rfl,rfl⟩;simp only[am,enc_eq,Nat.reduceAdd];refine retK_intro rfl (Store.sub_refl _) ⟨?_,?_⟩
  · simp[Rdr.word,V.erase,eraseL,Word.enc]
  · simp[Rdr.word]
end Go.Proofs.Tryz

namespace Go.Proofs.Tryz
open Go.Am
def ac202:AC:=.seq (.reg [xm 4 1,⟨(some 5),.callv (.s 4) [],none⟩])
 (.block 0 (.loop (.seq (.seq (.reg [xm 6 0,xc 205 7 [.s 6,.c (.int .u8 44)]])
 (.cond (.s 7) (.skip)
 (.exit 0)))
 (.block 1 (.seq (.reg [xm 8 0,xc 206 9 [.s 8,.c (.int .u8 44)]])
 (.reg [xm 10 1,⟨(some 11),.callv (.s 10) [],none⟩]))))))
theorem fn202:IsFn prog 202 ac202 [] 12:=⟨f202,⟨[],[],[]⟩,func202,by kernel_rfl,by kernel_rfl,by kernel_rfl,by kernel_rfl⟩
set_option maxRecDepth 4000
structure Sys (α:Type) where
  F:α→Store
  rd:α→Rdr
  set:α→Rdr→α
  step:α→α
def Sys.go {α:Type} (S:Sys α):Nat→α→α
  | 0,a=>a
  | n+1,a=>if (S.rd a).sees 44 then S.go n (S.step (S.set a ((S.rd a).take 44).2)) else a
theorem sees_spec {rd:Rdr} {k:Int} (h:rd.sees k=true):rd.bad=none∧0≤rd.at_∧rd.at_<rd.l.length:=by
  simp only[Rdr.sees,Rdr.ok,isK,Bool.and_eq_true,decide_eq_true_eq,Option.isNone_iff_eq_none] at h;obtain⟨h1,h0,hk⟩:=h;refine⟨h1,h0,?_⟩;cases hq:rd.l[rd.at_.toNat]? with
  | none=>rw[hq] at hk;simp at hk
  | some t=>have:=(List.getElem?_eq_some_iff.1 hq).1;omega
theorem some_calls {α:Type} (S:Sys α) (Inv:α→Prop) {g:FuncId} {cap:List V} {r:Nat} (hnol:nolL cap=true)
    (hbox:∀a,Inv a→(S.F a).box r=some (S.rd a).enc) (hlen:∀a,Inv a→(S.rd a).l.length≤big)
    (hset:∀a,Inv a→(S.rd a).sees 44=true→(S.F a).set r ((S.rd a).take 44).2.enc=S.F (S.set a ((S.rd a).take 44).2))
    (hstep:∀a,Inv a→(S.rd a).sees 44=true→PCalls prog g cap (S.F (S.set a ((S.rd a).take 44).2)) (fun v σ' => v = .tup []∧σ' = S.F (S.step (S.set a ((S.rd a).take 44).2))) ∧
      Inv (S.step (S.set a ((S.rd a).take 44).2))∧(S.rd (S.step (S.set a ((S.rd a).take 44).2))).l=(S.rd a).l∧(S.rd a).at_+1≤(S.rd (S.step (S.set a ((S.rd a).take 44).2))).at_)
    {a:α} (h0:PCalls prog g cap (S.F a) (fun v σ' => v = .tup []∧σ' = S.F (S.step a))) (hI:Inv (S.step a)) {n:Nat} (hn:(S.rd (S.step a)).l.length≤n) :
    PCalls prog 202 [.ptr (.out r) 0,.fn (.func g) [] cap] (S.F a) fun v σ' => v = .tup []∧σ' = S.F (S.go n (S.step a)):=by
  refine fn202.calls ?_;simp only[slots,ac202,ams,am,hnol];refine h0.mono ?_;rintro v σ' ⟨rfl,rfl⟩;simp only[am]
  let I:{p:α × Nat // Inv p.1∧((S.rd p.1).l.length:Int)≤max (S.rd p.1).at_ 0+p.2∧S.go p.2 p.1=S.go n (S.step a)}→St:=fun p =>
    ⟨[.ptr (.out r) 0,.fn (.func g) [] cap]++List.replicate 10 .any,[],S.F p.1.1⟩
  refine vc_loop I (fun p=>p.1.2) ?_ ?_
  · refine Upd.enter ⟨(S.step a,n),hI,by simp only;omega,rfl⟩ ?_ LLLe.rfl OLe.rfl;simp[I,List.replicate,am]
  · rintro⟨⟨b,m⟩,hb,hm,hgo⟩;simp only[I,List.replicate,am];simp only at hb hm hgo;refine(sees_calls (hbox b hb)).mono ?_;rintro v σ' ⟨rfl,rfl⟩;cases hs:(S.rd b).sees 44
    · simp only[am];refine retK_intro rfl (Store.sub_refl _) ⟨rfl,?_⟩;rw[←hgo];cases m<;>simp[Sys.go,hs]
    · obtain⟨_,h1,h2⟩:=sees_spec hs;simp only[am];refine(take_calls (hbox b hb) (hlen b hb)).mono ?_;rintro v σ' ⟨rfl,rfl⟩;simp only[am,hnol];obtain⟨k1,k2,k3,k4⟩:=hstep b hb hs;rw[hset b hb hs];refine k1.mono ?_;rintro v σ' ⟨rfl,rfl⟩;simp only[am];cases m with
      | zero=>omega
      | succ m =>
        refine Upd.again ⟨(S.step (S.set b ((S.rd b).take 44).2),m),k2,?_,?_⟩ (by simp) ?_ LLLe.rfl OLe.rfl
        · rw[k3];simp only;omega
        · rw[←hgo];simp[Sys.go,hs]
        · simp[am]
end Go.Proofs.Tryz

namespace Go.Proofs.Tryz
open Go.Am
def ac200:AC:=.seq (.reg [xi 8 0])
 (.seq (.reg [xm 11 0,xm 12 1,xc 206 13 [.s 11,.s 12],⟨(some 9),.alloc [(.int .u8 0),(.str []),(.int .i64 0),(.sl .full 5 []),(.int .i64 0)],none⟩,xs 5 9 13])
 (.seq (.seq (.reg [xm 14 0,xc 156 15 [.s 14],⟨(some 16),.not (.s 15),none⟩])
 (.cond (.s 16) (.seq (.reg [xi 8 0])
 (.ret))
 (.skip)))
 (.seq (.reg [xf 3 17 9,xo 18 17,xf 4 19 9,xo 20 19,⟨(some 21),.build [(.sl .full 5 []),(.int .i64 0),(.int .i64 0),(.int .i64 0),(.int .i64 0)] [(0,1,(.s 18)),(2,1,(.s 20))],none⟩,⟨(some 22),.boxO 5 (.s 21),none⟩,xm 10 22])
 (.seq (.seq (.reg [xm 23 2,⟨(some 24),.not (.s 23),none⟩,xm 25 24,xh 25 (xf 3 26 9),xh 25 (xo 27 26),xh 25 (xL 28 27),xh 25 (xB .gtr 29 28 0),⟨(some 30),.pick (.s 25) (.c (.bool true)) (.s 29),none⟩])
 (.cond (.s 30) (.reg [xm 31 3,xm 32 10,⟨(some 33),.callv (.s 31) [(.s 32)],none⟩])
 (.skip)))
 (.seq (.seq (.draw [(xm 34 10,[]),(xc 156 35 [.s 34],[]),(xm 36 35,[]),(xg 36 (xm 37 10),[]),(xg 36 (xk 38 37),[]),(xg 36 (xf 1 39 38),[]),(xg 36 (xo 40 39),[]),(xg 36 (xm 41 10),[]),(xg 36 (xk 42 41),[]),(xg 36 (xf 0 43 42),[]),(xg 36 (xo 44 43),[]),(xg 36 (xL 45 44),[]),(xg 36 (xb .lss 46 40 45),[]),(⟨(some 47),.pick (.s 36) (.s 46) (.c (.bool false)),none⟩,[])])
 (.cond (.s 47) (.reg [xm 48 10,xc 243 49 [.s 48]])
 (.skip)))
 (.seq (.seq (.reg [xm 50 10,xc 156 51 [.s 50],⟨(some 52),.not (.s 51),none⟩])
 (.cond (.s 52) (.reg [xm 53 0,xm 54 10,xk 55 54,xf 3 56 55,xl 2 57 56,xk 58 53,xf 3 59 58,xs 2 59 57])
 (.skip)))
 (.seq (.reg [xf 0 60 9,xf 2 61 60,xo 62 61,xm 8 62])
 (.ret))))))))
theorem fn200:IsFn prog 200 ac200 [.tmp 8] 63:=⟨f200,⟨[22],[],[]⟩,func200,by kernel_rfl,by kernel_rfl,by kernel_rfl,by kernel_rfl⟩
set_option maxRecDepth 4000
set_option maxHeartbeats 4000000
theorem within_calls {r:Nat} {rd:Rdr} {kind:Int} {empty:Bool} {g:FuncId} {cap:List V} {σ:Store} (hnol:nolL cap=true) (h:σ.box r=some rd.enc) (hlen:rd.l.length≤big) (hkids:(rd.take kind).1.kids.length≤big)
    (i1:Rdr) (σe:Store) (hcb:(rd.take kind).2.ok=true→(empty=false∨(rd.take kind).1.kids.length≠0)→∀q,σ.box q=none →
      PCalls prog g (.ptr (.out q) 0::cap) ((σ.set r (rd.take kind).2.enc).set q (rd.take kind).1.inner.enc) fun v σ' => v = .tup []∧σ' = (σe.set r (rd.take kind).2.enc).set q i1.enc)
    (hno:empty=true→(rd.take kind).1.kids.length=0→i1=(rd.take kind).1.inner∧σe=σ) (hq:∀q,σ.box q=none→σe.box q=none) (hl:i1.l=(rd.take kind).1.kids) :
    PCalls prog 200 [.ptr (.out r) 0,.int .u8 kind,.bool empty,.fn (.func g) [] cap] σ fun v σ' =>
      if (rd.take kind).2.ok=true then v = .int .i64 (rd.take kind).1.tok.pos∧σ' = σe.set r ((rd.take kind).2.under i1).enc else v = .int .i64 0∧σ' = σ.set r (rd.take kind).2.enc:=by
  refine fn200.calls ?_;simp only[slots,ac200,ams,am];refine(take_calls h hlen).mono ?_;rintro v σ' ⟨rfl,rfl⟩;generalize ht:(rd.take kind).1=t at *;generalize hr1:(rd.take kind).2=rd1 at *;simp only[am,enc_eq,Nat.reduceAdd];refine(ok_calls (Store.set_same _ _ _)).mono ?_;rintro v σ' ⟨rfl,rfl⟩;cases hok:rd1.ok
  · simp only[am];refine retK_intro rfl (Store.sub_refl _) ?_;simp[V.erase]
  · have hbad:rd1.bad=none:=by simpa [Rdr.ok] using hok
    simp only[am,Nat.reduceAdd];refine kO_intro fun q hqn=>?_
    have hqr:q≠r:=by rintro rfl;rw[Store.set_same] at hqn;simp at hqn
    have hqn' : σ.box q=none:=by rw[Store.set_other _ _ hqr] at hqn;exact hqn
    have hin:[V.sl .no 5 (encs t.kids),.int .i64 0,.int .i64 t.fin,.int .i64 0,.int .i64 0]=t.inner.enc:=rfl;simp only[am,hin];have hcl:∀i:Rdr,i.l=t.kids→((σe.set r rd1.enc).set q i.enc).box q=some i.enc:=fun i _=>Store.set_same _ _ _
    have hsub:∀(A B:List V),(σe.set r A).sub ((σe.set r A).set q B):=fun A B=>by
      refine⟨fun b cs hb=>?_,fun _ _ h=>h,fun _ _ h=>h⟩
      by_cases hbq:b=q
      · subst hbq;rw[Store.set_other _ _ hqr,hq b hqn'] at hb;simp at hb
      · rw[Store.set_other _ _ hbq];exact hb
    have hsw:∀(A B C:List V),((σe.set r A).set q B).set r C=(σe.set r C).set q B:=fun A B C=>by rw[Store.set_comm hqr,Store.set_set]
    have hci:((σe.set r rd1.enc).set q i1.enc).box q=some i1.enc:=Store.set_same _ _ _
    by_cases hc:empty=false∨t.kids.length≠0
    case' neg =>
      have hE:empty=true:=by cases empty<;>simp at hc ⊢
      have hk:t.kids.length=0:=by
        rcases Nat.eq_zero_or_pos t.kids.length with h | h
        · exact h
        · exact absurd (.inr (by omega)) hc
      obtain⟨e1,e2⟩:=hno hE hk;simp only[am,hE,encs_length,hk,Int.natCast_zero,Int.lt_irrefl,decide_false];rw[←e1,←e2]
    case' pos =>
      have hgo:=hcb hok hc q hqn';cases hE:empty
      case' true =>
        have hk:0<t.kids.length:=by
          rcases hc with h | h
          · rw[hE] at h;simp at h
          · omega
        simp only[am,encs_length,Int.natCast_pos,hk,decide_true]
      all_goals
        simp only[am,hnol];refine hgo.mono ?_;rintro v σ' ⟨rfl,rfl⟩;simp only[am]
    all_goals
      refine CallD.intro (ok_calls hci) ?_;have hbox1:∀(i:Rdr),((σe.set r rd1.enc).set q i.enc).box r=some rd1.enc:=fun i=>by rw[Store.set_other _ _ (Ne.symm hqr),Store.set_same]
      have fin:∀(i:Rdr) (x:List V),x=(rd1.under i1).enc→(σe.set r (rd1.under i1).enc).sub (((σe.set r rd1.enc).set q i.enc).set r x):=fun i x hx=>by
        rw[hx,hsw];exact hsub _ _
      cases hio:i1.ok
      · have hcl:i1.close=i1:=by simp[Rdr.close,hio]
        simp only[am];refine(ok_calls hci).mono ?_;rintro v σ' ⟨rfl,rfl⟩;simp only[am,hio,hbox1,Rdr.ex,Nat.reduceAdd];exact retK_intro rfl (fin i1 _ (by rw[Rdr.under,hcl];rfl)) ⟨rfl,rfl⟩
      · simp only[am,Rdr.ex,hl,encs_length]
        by_cases hlt:i1.at_<t.kids.length
        · have hcl:i1.close=i1.fail:=by simp[Rdr.close,hio,hl,hlt]
          simp only[am,hlt,decide_true];refine(fail_calls hci).mono ?_;rintro v σ' ⟨rfl,rfl⟩;simp only[am];refine(ok_calls (Store.set_same _ _ _)).mono ?_;rintro v σ' ⟨rfl,rfl⟩;have hf:i1.fail.ok=false:=by
            have:i1.bad=none:=by simpa [Rdr.ok] using hio
            simp[Rdr.fail,this,Rdr.ok]
          simp only[am,hf,hbox1,Rdr.ex,Nat.reduceAdd];exact retK_intro rfl (fin i1.fail _ (by rw[Rdr.under,hcl];rfl)) ⟨rfl,rfl⟩
        · have hcl:i1.close=i1:=by simp[Rdr.close,hl,hlt]
          have hu:rd1.under i1=rd1:=by
            have:i1.bad=none:=by simpa [Rdr.ok] using hio
            rw[Rdr.under,hcl,this,←hbad]
          simp only[am,hlt,decide_false];refine(ok_calls hci).mono ?_;rintro v σ' ⟨rfl,rfl⟩;simp only[am,hio];refine retK_intro rfl ?_ ⟨rfl,rfl⟩;rw[hu];exact hsub _ _
end Go.Proofs.Tryz

namespace Go.Proofs.Tryz
open Go.Am
def ac155:AC:=.seq (.reg [⟨(some 4),.mv (.c (.sl .full 2 [])),none⟩,xi 5 0])
 (.seq (.reg [⟨(some 6),.allocO [(.sl .full 2 [])],none⟩])
 (.seq (.upd (.reg [xm 8 0,xm 9 1,⟨(some 10),.mkfn (.func 201) [] [(.s 6)],none⟩,xc 200 11 [.s 8,.c (.int .u8 123),.s 9,.s 10],xm 7 11]))
 (.seq (.reg [xo 12 6,xm 13 7,xm 4 12,xm 5 13])
 (.ret))))
theorem fn155:IsFn prog 155 ac155 [.tmp 4,.tmp 5] 14:=⟨f155,⟨[6],[2],[]⟩,func155,by kernel_rfl,by kernel_rfl,by kernel_rfl,by kernel_rfl⟩
def ac201:AC:=.seq (.reg [⟨(some 2),.boxO 1 (.s 0),none⟩])
 (.reg [xo 3 2,⟨(some 4),.mkfn (.func 203) [] [(.s 1),(.s 2)],none⟩,xc 202 5 [.s 3,.s 4]])
theorem fn201:IsFn prog 201 ac201 [] 6:=⟨f201,⟨[2],[],[]⟩,func201,by kernel_rfl,by kernel_rfl,by kernel_rfl,by kernel_rfl⟩
def ac203:AC:=.draw [(xo 2 0,[1]),(xo 3 1,[]),(xc 204 4 [.s 3],[]),(⟨(some 5),.bslice 2 [(.s 4)],none⟩,[]),(xa 2 6 2 5,[]),(xs 1 0 6,[])]
theorem fn203:IsFn prog 203 ac203 [] 7:=⟨f203,⟨[],[],[]⟩,func203,by kernel_rfl,by kernel_rfl,by kernel_rfl,by kernel_rfl⟩
set_option maxRecDepth 4000
set_option maxHeartbeats 4000000
theorem words11_calls {o p r τ:Nat} {rows:List (List V)} {rd:Rdr} {σ:Store} (ho:σ.box o=some [.sl (.tk τ) 2 rows]) (hp:σ.box p=some [.ptr (.out r) 0]) (hr:σ.box r=some rd.enc) (hor:o≠r)
    (ht:σ.tip τ=some rows.length) (hb:rows.length+1≤big) (hlen:rd.l.length≤big) :
    PCalls prog 203 [.ptr (.out o) 0,.ptr (.out p) 0] σ fun v σ' => v = .tup []∧σ' = ((σ.set r rd.word.2.enc).set o [.sl (.tk τ) 2 (rows++[rd.word.1.enc])]).setTip τ (rows.length+1):=by
  refine fn203.calls ?_;simp only[slots,ac203,ams,am,ho,hp];refine CallD.intro (word_calls hr hlen) ?_;simp only[am,Word.enc];refine appD_tk (by simpa using hb) ht ?_;have h1:(σ.set r rd.word.2.enc).box o=some [.sl (.tk τ) 2 rows]:=by rw[Store.set_other _ _ hor];exact ho
  simp only[am,h1];exact retK_intro rfl (Store.sub_refl _) ⟨rfl,rfl⟩
def gStore (σ:Store) (q o τ k:Nat) (rd:Rdr) (rows:List (List V)):Store:=((σ.set q rd.enc).set o [.sl (.tk τ) k rows]).setTip τ rows.length
def wSys (σ:Store) (q o τ:Nat):Sys (Rdr × List Word):=⟨fun a=>gStore σ q o τ 2 a.1 (a.2.map Word.enc),fun a=>a.1,fun a r=>(r,a.2),wStep⟩
theorem go_goG {β:Type} (F:Rdr × List β→Store) (step:Rdr × List β→Rdr × List β):∀(n:Nat) (a:Rdr × List β),Sys.go ⟨F,fun a=>a.1,fun a r=>(r,a.2),step⟩ n a=goG step n a
  | 0,_=>rfl
  | n+1,a=>by simp only[Sys.go,goG,go_goG F step n]
theorem gStore_q {σ:Store} {q o τ k:Nat} {rd:Rdr} {rows:List (List V)} (h:q≠o):(gStore σ q o τ k rd rows).box q=some rd.enc:=by
  simp[gStore,Store.setTip,Store.set,h]
theorem gStore_o {σ:Store} {q o τ k:Nat} {rd:Rdr} {rows:List (List V)}:(gStore σ q o τ k rd rows).box o=some [.sl (.tk τ) k rows]:=by
  simp[gStore,Store.setTip,Store.set]
theorem gStore_p {σ:Store} {q o τ k p:Nat} {rd:Rdr} {rows:List (List V)} (h:p≠q) (h' : p≠o):(gStore σ q o τ k rd rows).box p=σ.box p:=by
  simp[gStore,Store.setTip,Store.set,h,h']
theorem gStore_other {σ:Store} {q o τ k p:Nat} {rd:Rdr} {rows:List (List V)} {cs:List V} (h:p≠q) (h' : p≠o):(gStore σ q o τ k rd rows).set p cs=gStore (σ.set p cs) q o τ k rd rows:=by
  have:((σ.set q rd.enc).set o [.sl (.tk τ) k rows]).set p cs=((σ.set p cs).set q rd.enc).set o [.sl (.tk τ) k rows]:=by
    rw[Store.set_comm (Ne.symm h'),Store.set_comm (b:=q) (Ne.symm h)]
  show (((σ.set q rd.enc).set o [.sl (.tk τ) k rows]).set p cs).setTip τ rows.length=_;rw[this];rfl
theorem sub_set {σ:Store} {p:Nat} {cs:List V} (h:σ.box p=none):σ.sub (σ.set p cs):=by
  refine⟨fun b ds hb=>?_,fun _ _ h=>h,fun _ _ h=>h⟩
  have:b≠p:=by rintro rfl;rw[h] at hb;simp at hb
  rw[Store.set_other _ _ this];exact hb
theorem gStore_tip {σ:Store} {q o τ k:Nat} {rd:Rdr} {rows:List (List V)}:(gStore σ q o τ k rd rows).tip τ=some rows.length:=by
  simp[gStore,Store.setTip]
theorem gStore_set {σ:Store} {q o τ k:Nat} {rd rd' : Rdr} {rows:List (List V)} (h:q≠o):(gStore σ q o τ k rd rows).set q rd'.enc=gStore σ q o τ k rd' rows:=by
  have:((σ.set q rd.enc).set o [.sl (.tk τ) k rows]).set q rd'.enc=(σ.set q rd'.enc).set o [.sl (.tk τ) k rows]:=by rw[Store.set_comm (Ne.symm h),Store.set_set]
  show (((σ.set q rd.enc).set o [.sl (.tk τ) k rows]).set q rd'.enc).setTip τ rows.length=_;rw[this];rfl
theorem gStore_put {σ:Store} {q o τ k:Nat} {rd rd' : Rdr} {rows:List (List V)} {c:List V} (h:q≠o):(((gStore σ q o τ k rd rows).set q rd'.enc).set o [.sl (.tk τ) k (rows++[c])]).setTip τ (rows.length+1)=gStore σ q o τ k rd' (rows++[c]):=by
  rw[gStore_set h];unfold gStore;rw[List.length_append,List.length_cons,List.length_nil];show ((((σ.set q rd'.enc).set o [.sl (.tk τ) k rows]).set o [.sl (.tk τ) k (rows++[c])]).setTip τ rows.length).setTip τ (rows.length+1)=_;rw[Store.set_set,setTip_setTip]
def Pace {β:Type} (l:List Tree) (a:Rdr × List β):Prop:=a.1.l=l∧0≤a.1.at_∧a.1.at_≤l.length∧(a.1.bad=none→(a.2.length:Int)≤a.1.at_)
theorem pace_word {l:List Tree} {a:Rdr × List Word} (h:Pace l a) (hb:a.1.bad=none):Pace l (wStep a)∧a.1.at_≤(wStep a).1.at_:=by
  obtain⟨h1,h2,h3,h4⟩:=h;have h4:=h4 hb
  rcases a.1.take_at 97 with ⟨_,k1,k2,k3,k4⟩ | ⟨_,k1,k2⟩
  · refine⟨⟨?_,?_,?_,fun _=>?_⟩,?_⟩<;>simp only[wStep,Rdr.word,Rdr.take_l,k1,List.length_append,List.length_cons,List.length_nil]
    · exact h1
    · omega
    · rw[h1] at k4;omega
    · omega
    · omega
  · refine⟨⟨?_,?_,?_,fun hq=>absurd hq k2⟩,?_⟩<;>simp only[wStep,Rdr.word,Rdr.take_l,k1]
    · exact h1
    · exact h2
    · exact h3
    · omega
theorem pace_take {β:Type} {l:List Tree} {a:Rdr × List β} (h:Pace l a) (hs:a.1.sees 44=true):Pace l ((a.1.take 44).2,a.2)∧(a.1.take 44).2.bad=none∧(a.1.take 44).2.at_=a.1.at_+1:=by
  obtain⟨h1,h2,h3,h4⟩:=h
  rcases a.1.take_at 44 with ⟨_,k1,k2,k3,k4⟩ | ⟨k0,_⟩
  · have hb:a.1.bad=none:=by
      simp only[Rdr.sees,Rdr.ok,Bool.and_eq_true,Option.isNone_iff_eq_none] at hs;exact hs.1
    have:=h4 hb
    rw[h1] at k4;exact⟨⟨by simp only[Rdr.take_l];exact h1,by simp only[k1];omega,by simp only[k1];omega,fun _=>by simp only[k1];omega⟩,k2,k1⟩
  · rw[hs] at k0;simp at k0
theorem words1_calls {o q τ:Nat} {rd:Rdr} {σ:Store} (hqo:q≠o) (hat:rd.at_=0) (hbad:rd.bad=none) (hlen:rd.l.length+1≤big) :
    PCalls prog 201 [.ptr (.out q) 0,.ptr (.out o) 0] (gStore σ q o τ 2 rd []) fun v σ' => v = .tup []∧σ' = gStore σ q o τ 2 (someG wStep rd).1 ((someG wStep rd).2.map Word.enc):=by
  refine fn201.calls ?_;simp only[slots,ac201,ams,am];refine kO_intro fun p hp=>?_
  have hpq:p≠q:=by rintro rfl;rw[gStore_q hqo] at hp;simp at hp
  have hpo:p≠o:=by rintro rfl;rw[gStore_o] at hp;simp at hp
  rw[gStore_other hpq hpo];simp only[am,gStore_p hpq hpo];have hstep:∀a:Rdr × List Word,Pace rd.l a→a.1.bad=none→PCalls prog 203 [.ptr (.out o) 0,.ptr (.out p) 0] (gStore (σ.set p [.ptr (.out q) 0]) q o τ 2 a.1 (a.2.map Word.enc)) fun v σ' =>
      v = .tup []∧σ' = gStore (σ.set p [.ptr (.out q) 0]) q o τ 2 (wStep a).1 ((wStep a).2.map Word.enc):=fun a hp' hb=>by
    have hl:=hp'.2.2.2 hb;have hl2:=hp'.2.2.1;refine(words11_calls gStore_o (by rw[gStore_p hpq hpo,Store.set_same]) (gStore_q hqo) (Ne.symm hqo) gStore_tip (by rw[List.length_map];omega) (by rw[hp'.1];omega)).mono ?_;rintro v σ' ⟨rfl,rfl⟩;refine⟨rfl,?_⟩;rw[gStore_put hqo];simp[wStep]
  have h0:Pace rd.l (rd,([]:List Word)):=⟨rfl,by simp[hat],by simp[hat],fun _=>by simp[hat]⟩;obtain⟨p1,_⟩:=pace_word h0 hbad;refine(some_calls (wSys (σ.set p [.ptr (.out q) 0]) q o τ) (Pace rd.l) (a:=(rd,[])) (n:=rd.l.length) (by simp[am]) (fun a h=>gStore_q hqo) (fun a h=>?_) (fun a h hs=>gStore_set hqo) (fun a h hs=>?_) (hstep _ h0 hbad) p1 ?_).mono ?_
  · show a.1.l.length≤big;rw[h.1];omega
  · obtain⟨k1,k2,k3⟩:=pace_take h hs;obtain⟨k4,k5⟩:=pace_word k1 k2;refine⟨hstep _ k1 k2,k4,?_,?_⟩
    · exact k4.1.trans h.1.symm
    · show a.1.at_+1≤_;simp only at k5;rw[k3] at k5;exact k5
  · show (wStep (rd,[])).1.l.length≤rd.l.length;rw[p1.1];omega
  rintro v σ' ⟨rfl,rfl⟩;simp only[am];refine retK_intro rfl (σ' := gStore σ q o τ 2 (someG wStep rd).1 ((someG wStep rd).2.map Word.enc)) ?_ ⟨rfl,rfl⟩;have e:(wSys (σ.set p [.ptr (.out q) 0]) q o τ).F ((wSys (σ.set p [.ptr (.out q) 0]) q o τ).go rd.l.length ((wSys (σ.set p [.ptr (.out q) 0]) q o τ).step (rd,[])))=gStore (σ.set p [.ptr (.out q) 0]) q o τ 2 (someG wStep rd).1 ((someG wStep rd).2.map Word.enc):=by
    unfold wSys;rw[go_goG];rfl
  rw[e,←gStore_other hpq hpo];exact sub_set (by rw[gStore_p hpq hpo];rw[gStore_p hpq hpo] at hp;exact hp)
theorem go_l {β:Type} {l:List Tree} {step:Rdr × List β→Rdr × List β} (hs:∀a,a.1.l=l→(step a).1.l=l):∀(n:Nat) (a:Rdr × List β),a.1.l=l→(goG step n a).1.l=l
  | 0,_,h=>h
  | n + 1, a, h => by
    simp only[goG];split
    · exact go_l hs n _ (hs _ (by rw[Rdr.take_l];exact h))
    · exact h
theorem inside_l {β:Type} {step:Rdr × List β→Rdr × List β} (hs:∀l a,a.1.l=l→(step a).1.l=l) (empty:Bool) (t:Tree):(Rdr.inside step empty t).1.l=t.kids:=by
  unfold Rdr.inside;split
  · rfl
  · exact go_l (hs _) _ _ (hs _ _ rfl)
theorem wStep_l (l:List Tree) (a:Rdr × List Word) (h:a.1.l=l):(wStep a).1.l=l:=by simp[wStep,Rdr.word,Rdr.take_l,h]
theorem wwords_calls {r:Nat} {empty:Bool} {rd:Rdr} {σ:Store} (h:σ.box r=some rd.enc) (hlen:rd.l.length≤big) (hkids:(rd.take 123).1.kids.length+1≤big) :
    PCalls prog 155 [.ptr (.out r) 0,.bool empty] σ fun v σ' => v = .tup [.sl .no 2 ((rd.words empty).1.1.map Word.enc),.int .i64 (rd.words empty).1.2]∧σ' = σ.set r (rd.words empty).2.enc:=by
  refine fn155.calls ?_;simp only[slots,ac155,ams,am];refine kO_intro fun o ho=>?_
  have hor:o≠r:=by rintro rfl;rw[h] at ho;simp at ho
  simp only[am];refine Upd.tok 0 fun τ hτ=>⟨_,_,_,LTo.rfl,rfl,fun i c hc=>⟨c,hc,LTo.rfl⟩,OTo.set (cs:=[.sl .full 2 []]) (cs' := [.sl (.tk τ) 2 []]) (Store.set_same _ _ _) ⟨VTo.tok rfl,trivial⟩,?_⟩
  simp only[am];have h1:((σ.set o [.sl (.tk τ) 2 []]).setTip τ 0).box r=some rd.enc:=by
    show (σ.set o _).box r=_;rw[Store.set_other _ _ (Ne.symm hor)];exact h
  have hne:∀q,((σ.set o [V.sl (.tk τ) 2 []]).setTip τ 0).box q=none→q≠o∧q≠r∧σ.box q=none:=fun q hq=>by
    have hqo:q≠o:=by rintro rfl;rw[show ((σ.set q [V.sl (.tk τ) 2 []]).setTip τ 0).box q=_ from Store.set_same _ _ _] at hq;simp at hq
    have hq' : σ.box q=none:=by rw[←Store.set_other σ [V.sl (.tk τ) 2 []] hqo];exact hq
    exact⟨hqo,by rintro rfl;rw[h] at hq';simp at hq',hq'⟩
  generalize hin:Rdr.inside wStep empty (rd.take 123).1=ins;have hinl:ins.1.l=(rd.take 123).1.kids:=by rw[←hin];exact inside_l wStep_l _ _
  refine(within_calls (kind:=123) (by simp[am]) h1 hlen (by omega) ins.1 ((σ.set o [.sl (.tk τ) 2 (ins.2.map Word.enc)]).setTip τ (ins.2.map Word.enc).length) ?_ ?_ ?_ hinl).mono ?_
  · intro hok hc q hq;obtain⟨hqo,hqr,_⟩:=hne q hq;have e1:(((σ.set o [V.sl (.tk τ) 2 []]).setTip τ 0).set r (rd.take 123).2.enc).set q (rd.take 123).1.inner.enc=gStore (σ.set r (rd.take 123).2.enc) q o τ 2 (rd.take 123).1.inner []:=by
      unfold gStore;rw[Store.set_comm (b:=q) hqo,Store.set_comm (b:=r) (Ne.symm hor)];rfl
    have e2:(((σ.set o [V.sl (.tk τ) 2 (ins.2.map Word.enc)]).setTip τ (ins.2.map Word.enc).length).set r (rd.take 123).2.enc).set q ins.1.enc=gStore (σ.set r (rd.take 123).2.enc) q o τ 2 ins.1 (ins.2.map Word.enc):=by
      unfold gStore;rw[Store.set_comm (b:=q) hqo,Store.set_comm (b:=r) (Ne.symm hor)];rfl
    have e3:ins=someG wStep (rd.take 123).1.inner:=by
      rw[←hin,Rdr.inside,if_neg];rintro⟨q1,q2⟩
      rcases hc with hc | hc
      · rw[q1] at hc;simp at hc
      · exact hc q2
    rw[e1,e2,e3];exact words1_calls hqo rfl rfl hkids
  · intro q1 q2
    have:ins=((rd.take 123).1.inner,[]):=by rw[←hin,Rdr.inside,if_pos ⟨q1,q2⟩]
    rw[this];exact⟨rfl,rfl⟩
  · intro q hq;obtain⟨hqo,_,hq'⟩:=hne q hq;show (σ.set o _).box q=none;rw[Store.set_other _ _ hqo];exact hq'
  rintro v σ' hv;have hdrop:∀(A B:List V) (n:Nat),(σ.set r A).sub (((σ.set o B).setTip τ n).set r A):=fun A B n=>by
    refine⟨fun b cs hb=>?_,fun υ m hm=>?_,fun _ _ h=>h⟩
    · have hbo:b≠o:=by rintro rfl;rw[Store.set_other _ _ hor,ho] at hb;simp at hb
      by_cases hbr:b=r
      · subst hbr;rw[Store.set_same] at hb ⊢;exact hb
      · rw[Store.set_other _ _ hbr] at hb ⊢;show (σ.set o B).box b=_;rw[Store.set_other _ _ hbo];exact hb
    · have hm' : σ.tip υ=some m:=hm;have hne' : υ≠τ:=by rintro rfl;rw[show (σ.set o [V.sl .full 2 []]).tip υ=σ.tip υ from rfl] at hτ;rw[hτ] at hm';simp at hm'
      show ((σ.set o B).setTip τ n).tip υ=some m;rw[setTip_tip_ne hne'];exact hm'
  split at hv
  · rename_i hok;obtain⟨rfl,rfl⟩:=hv;have hb:(((σ.set o [V.sl (.tk τ) 2 (ins.2.map Word.enc)]).setTip τ (ins.2.map Word.enc).length).set r ((rd.take 123).2.under ins.1).enc).box o=some [V.sl (.tk τ) 2 (ins.2.map Word.enc)]:=by
      rw[Store.set_other _ _ hor];exact Store.set_same _ _ _
    simp only[am,hb];refine retK_intro rfl (hdrop _ _ _) ⟨?_,?_⟩
    · simp[Rdr.words,Rdr.bracket,hok,hin,V.erase,eraseL]
    · simp[Rdr.words,Rdr.bracket,hok,hin]
  · rename_i hok;obtain⟨rfl,rfl⟩:=hv;have hb:(((σ.set o [V.sl (.tk τ) 2 []]).setTip τ 0).set r (rd.take 123).2.enc).box o=some [V.sl (.tk τ) 2 []]:=by
      rw[Store.set_other _ _ hor];exact Store.set_same _ _ _
    simp only[am,hb];refine retK_intro rfl (hdrop _ _ _) ⟨?_,?_⟩
    · simp[Rdr.words,Rdr.bracket,hok,V.erase,eraseL]
    · simp[Rdr.words,Rdr.bracket,hok]
end Go.Proofs.Tryz

namespace Go.Proofs.Tryz
open Go.Am
def ac244:AC:=.seq (.reg [⟨(some 3),.boxO 1 (.s 0),none⟩])
 (.reg [xo 4 3,⟨(some 5),.mkfn (.func 245) [] [(.s 1),(.s 2),(.s 3)],none⟩,xc 202 6 [.s 4,.s 5]])
theorem fn244:IsFn prog 244 ac244 [] 7:=⟨f244,⟨[3],[],[]⟩,func244,by kernel_rfl,by kernel_rfl,by kernel_rfl,by kernel_rfl⟩
def ac245:AC:=.hole [(xo 3 0,[1]),(xo 4 1,[]),(xo 5 2,[]),(⟨(some 6),.callv (.s 4) [(.s 5)],none⟩,[]),(xL 7 3,[]),(⟨(some 8),.bslice 5 [(.c (.agg [(.int .i64 0),(.int .i64 0),(.str []),(.sl .full 2 []),(.sl .full 5 [])]))],none⟩,[]),(⟨(some 9),.mv (.c .any),none⟩,[]),(⟨(some 10),.mv (.c .any),none⟩,[]),(⟨none,.mv (.c .any),none⟩,[]),(⟨none,.mv (.c .any),none⟩,[])] ⟨5,(.s 3),(.s 8),(.s 7),(.s 6),(.s 0),none,9,10,20⟩
theorem fn245:IsFn prog 245 ac245 [] 11:=⟨f245,⟨[],[],[]⟩,func245,by kernel_rfl,by kernel_rfl,by kernel_rfl,by kernel_rfl⟩
set_option maxRecDepth 4000
set_option maxHeartbeats 4000000
theorem Nd.wd {n:Nd}:(V.agg n.enc).wd=some 5:=by rw[Nd.enc_eq];rfl
theorem Nd.one {n:Nd}:oneL n.enc=true:=by rw[Nd.enc_eq];rfl
theorem Nd.nol {n:Nd}:nolL n.enc=true:=by rw[Nd.enc_eq];rfl
theorem Nd.er {n:Nd}:eraseL n.enc=n.enc:=by rw[Nd.enc_eq];rfl
theorem kids11_calls {o f p q τ:Nat} {g:FuncId} {rows:List (List V)} {rd' : Rdr} {n:Nd} {σ:Store} (ho:σ.box o=some [.sl (.tk τ) 5 rows]) (hf:σ.box f=some [.fn (.func g) [] []]) (hp:σ.box p=some [.ptr (.out q) 0])
    (hoq:o≠q) (ht:σ.tip τ=some rows.length) (hb:rows.length+1≤big) (hone:PCalls prog g [.ptr (.out q) 0] σ fun v σ' => v = .agg n.enc∧σ' = σ.set q rd'.enc) :
    PCalls prog 245 [.ptr (.out o) 0,.ptr (.out f) 0,.ptr (.out p) 0] σ fun v σ' => v = .tup []∧σ' = ((σ.set q rd'.enc).set o [.sl (.tk τ) 5 (rows++[n.enc])]).setTip τ (rows.length+1):=by
  refine fn245.calls ?_;simp only[slots,ac245,ams,am,ho,hp,hf];refine CallD.intro hone ?_;have h1:(σ.set q rd'.enc).box o=some [.sl (.tk τ) 5 rows]:=by rw[Store.set_other _ _ hoq];exact ho
  simp only[am,h1];refine hole_intro (τ:=τ) (m:=rows) (cs:=n.enc) (p:=.ptr (.out o) 0) rfl rfl rfl hb ht ⟨Nd.wd,Nd.one,Nd.nol⟩ Nd.er (by simp) rfl (by simp only[am,h1];rfl) ?_;simp only[am];exact retK_intro rfl (Store.sub_refl _) ⟨rfl,rfl⟩
theorem pace_one {β:Type} {one:Rdr→β × Rdr} (ho:Reads one) {l:List Tree} {a:Rdr × List β} (h:Pace l a) (hb:a.1.bad=none):Pace l (oStep one a)∧a.1.at_≤(oStep one a).1.at_:=by
  obtain⟨h1,h2,h3,h4⟩:=h;have h4:=h4 hb;obtain⟨k1,k2,k3⟩:=ho.go a.1 h2 (by rw[h1];exact h3);refine⟨⟨by simp only[oStep,ho.l];exact h1,by simp only[oStep];omega,by simp only[oStep];rw[h1] at k2;exact k2,fun hq=>?_⟩,k1⟩
  have:=k3 hq
  simp only[oStep,List.length_append,List.length_cons,List.length_nil];omega
def kSys (one:Rdr→Nd × Rdr) (σ:Store) (q o τ:Nat):Sys (Rdr × List Nd):=⟨fun a=>gStore σ q o τ 5 a.1 (a.2.map Nd.enc),fun a=>a.1,fun a r=>(r,a.2),oStep one⟩
theorem kids1_calls {o f q τ:Nat} {g:FuncId} {one:Rdr→Nd × Rdr} (hr:Reads one) {rd:Rdr} {σ:Store} (hqo:q≠o) (hfq:f≠q) (hfo:f≠o) (hf:σ.box f=some [.fn (.func g) [] []]) (hat:rd.at_=0) (hbad:rd.bad=none) (hlen:rd.l.length+1≤big)
    (hone:∀(r:Rdr) (σ:Store),r.l=rd.l→0≤r.at_→r.at_≤rd.l.length→σ.box q=some r.enc→PCalls prog g [.ptr (.out q) 0] σ fun v σ' => v = .agg (one r).1.enc∧σ' = σ.set q (one r).2.enc) :
    PCalls prog 244 [.ptr (.out q) 0,.ptr (.out o) 0,.ptr (.out f) 0] (gStore σ q o τ 5 rd []) fun v σ' => v = .tup []∧σ' = gStore σ q o τ 5 (someG (oStep one) rd).1 ((someG (oStep one) rd).2.map Nd.enc):=by
  refine fn244.calls ?_;simp only[slots,ac244,ams,am];refine kO_intro fun p hp=>?_
  have hpq:p≠q:=by rintro rfl;rw[gStore_q hqo] at hp;simp at hp
  have hpo:p≠o:=by rintro rfl;rw[gStore_o] at hp;simp at hp
  have hpf:f≠p:=by rintro rfl;rw[gStore_p hpq hpo,hf] at hp;simp at hp
  rw[gStore_other hpq hpo];simp only[am,gStore_p hpq hpo];have hstep:∀a:Rdr × List Nd,Pace rd.l a→a.1.bad=none→PCalls prog 245 [.ptr (.out o) 0,.ptr (.out f) 0,.ptr (.out p) 0] (gStore (σ.set p [.ptr (.out q) 0]) q o τ 5 a.1 (a.2.map Nd.enc)) fun v σ' =>
      v = .tup []∧σ' = gStore (σ.set p [.ptr (.out q) 0]) q o τ 5 (oStep one a).1 ((oStep one a).2.map Nd.enc):=fun a hp' hb=>by
    have hl:=hp'.2.2.2 hb;have hl2:=hp'.2.2.1;refine(kids11_calls gStore_o (by rw[gStore_p hfq hfo,Store.set_other _ _ hpf];exact hf) (by rw[gStore_p hpq hpo,Store.set_same]) (Ne.symm hqo) gStore_tip (by rw[List.length_map];omega) (hone a.1 _ hp'.1 hp'.2.1 hl2 (gStore_q hqo))).mono ?_;rintro v σ' ⟨rfl,rfl⟩;refine⟨rfl,?_⟩;rw[gStore_put hqo];simp[oStep]
  have h0:Pace rd.l (rd,([]:List Nd)):=⟨rfl,by simp[hat],by simp[hat],fun _=>by simp[hat]⟩;obtain⟨p1,_⟩:=pace_one hr h0 hbad;refine(some_calls (kSys one (σ.set p [.ptr (.out q) 0]) q o τ) (Pace rd.l) (a:=(rd,[])) (n:=rd.l.length) (by simp[am]) (fun a h=>gStore_q hqo) (fun a h=>?_) (fun a h hs=>gStore_set hqo) (fun a h hs=>?_) (hstep _ h0 hbad) p1 ?_).mono ?_
  · show a.1.l.length≤big;rw[h.1];omega
  · obtain⟨k1,k2,k3⟩:=pace_take h hs;obtain⟨k4,k5⟩:=pace_one hr k1 k2;refine⟨hstep _ k1 k2,k4,?_,?_⟩
    · exact k4.1.trans h.1.symm
    · show a.1.at_+1≤_;simp only at k5;rw[k3] at k5;exact k5
  · show (oStep one (rd,[])).1.l.length≤rd.l.length;rw[p1.1];omega
  rintro v σ' ⟨rfl,rfl⟩;simp only[am];refine retK_intro rfl (σ' := gStore σ q o τ 5 (someG (oStep one) rd).1 ((someG (oStep one) rd).2.map Nd.enc)) ?_ ⟨rfl,rfl⟩;have e:(kSys one (σ.set p [.ptr (.out q) 0]) q o τ).F ((kSys one (σ.set p [.ptr (.out q) 0]) q o τ).go rd.l.length ((kSys one (σ.set p [.ptr (.out q) 0]) q o τ).step (rd,[])))=gStore (σ.set p [.ptr (.out q) 0]) q o τ 5 (someG (oStep one) rd).1 ((someG (oStep one) rd).2.map Nd.enc):=by
    unfold kSys;rw[go_goG];rfl
  rw[e,←gStore_other hpq hpo];exact sub_set (by rw[gStore_p hpq hpo];rw[gStore_p hpq hpo] at hp;exact hp)
end Go.Proofs.Tryz

namespace Go.Proofs.Tryz
open Go.Am
def ac207:AC:=.seq (.reg [⟨(some 7),.boxO 1 (.s 3),none⟩,⟨(some 8),.mv (.c (.sl .full 5 [])),none⟩,xi 9 0])
 (.seq (.reg [⟨(some 10),.allocO [(.sl .full 5 [])],none⟩])
 (.seq (.upd (.reg [xm 12 0,xm 13 1,xm 14 2,⟨(some 15),.mkfn (.func 244) [] [(.s 10),(.s 7)],none⟩,xc 200 16 [.s 12,.s 13,.s 14,.s 15],xm 11 16]))
 (.seq (.reg [xo 17 10,xm 18 11,xm 8 17,xm 9 18])
 (.ret))))
theorem fn207:IsFn prog 207 ac207 [.tmp 8,.tmp 9] 19:=⟨f207,⟨[7,10],[2],[]⟩,func207,by kernel_rfl,by kernel_rfl,by kernel_rfl,by kernel_rfl⟩
set_option maxRecDepth 4000
set_option maxHeartbeats 4000000
theorem Store.sub_trans {a b c:Store} (h:a.sub b) (k:b.sub c):a.sub c:=⟨fun x cs hx=>k.1 x cs (h.1 x cs hx),fun x n hx=>k.2.1 x n (h.2.1 x n hx),fun x n hx=>k.2.2 x n (h.2.2 x n hx)⟩
theorem sub_both {a b:Store} {r:Nat} {A:List V} (h:a.sub b):(a.set r A).sub (b.set r A):=by
  refine⟨fun x cs hx=>?_,h.2⟩
  by_cases hr:x=r
  · subst hr;rw[Store.set_same] at hx ⊢;exact hx
  · rw[Store.set_other _ _ hr] at hx ⊢;exact h.1 x cs hx
theorem oStep_l {β:Type} {one:Rdr→β × Rdr} (h:Reads one) (l:List Tree) (a:Rdr × List β) (ha:a.1.l=l):(oStep one a).1.l=l:=by simp[oStep,h.l,ha]
theorem kids_calls {r:Nat} {empty:Bool} {kind:Int} {g:FuncId} {one:Rdr→Nd × Rdr} (hone:Reads one) {rd:Rdr} {σ:Store} (h:σ.box r=some rd.enc) (hlen:rd.l.length≤big) (hkids:(rd.take kind).1.kids.length+1≤big)
    (hcalls:∀(q:Nat) (i:Rdr) (σ:Store),i.l=(rd.take kind).1.kids→0≤i.at_→i.at_≤i.l.length→σ.box q=some i.enc→PCalls prog g [.ptr (.out q) 0] σ fun v σ' => v = .agg (one i).1.enc∧σ' = σ.set q (one i).2.enc) :
    PCalls prog 207 [.ptr (.out r) 0,.int .u8 kind,.bool empty,.fn (.func g) [] []] σ fun v σ' => v = .tup [.sl .no 5 ((rd.nodes one kind empty).1.1.map Nd.enc),.int .i64 (rd.nodes one kind empty).1.2]∧σ' = σ.set r (rd.nodes one kind empty).2.enc:=by
  refine fn207.calls ?_;simp only[slots,ac207,ams,am];refine kO_intro fun f hf=>?_
  have hfr:f≠r:=by rintro rfl;rw[h] at hf;simp at hf
  simp only[am];refine kO_intro fun o ho=>?_
  have hfo:f≠o:=by rintro rfl;rw[Store.set_same] at ho;simp at ho
  have hor:o≠r:=by rintro rfl;rw[Store.set_other _ _ (Ne.symm hfr),h] at ho;simp at ho
  generalize hσ:σ.set f [.fn (.func g) [] []]=σf at ho ⊢;have hff:σf.box f=some [.fn (.func g) [] []]:=by rw[←hσ];exact Store.set_same _ _ _
  have hfσ:σ.sub σf:=by rw[←hσ];exact sub_set hf
  have h:σf.box r=some rd.enc:=by rw[←hσ,Store.set_other _ _ (Ne.symm hfr)];exact h
  simp only[am];refine Upd.tok 0 fun τ hτ=>⟨_,_,_,LTo.rfl,rfl,fun i c hc=>⟨c,hc,LTo.rfl⟩,OTo.set (cs:=[.sl .full 5 []]) (cs' := [.sl (.tk τ) 5 []]) (Store.set_same _ _ _) ⟨VTo.tok rfl,trivial⟩,?_⟩
  simp only[am];have h1:((σf.set o [.sl (.tk τ) 5 []]).setTip τ 0).box r=some rd.enc:=by
    show (σf.set o _).box r=_;rw[Store.set_other _ _ (Ne.symm hor)];exact h
  have hne:∀q,((σf.set o [V.sl (.tk τ) 5 []]).setTip τ 0).box q=none→q≠o∧q≠r∧σf.box q=none:=fun q hq=>by
    have hqo:q≠o:=by rintro rfl;rw[show ((σf.set q [V.sl (.tk τ) 5 []]).setTip τ 0).box q=_ from Store.set_same _ _ _] at hq;simp at hq
    have hq' : σf.box q=none:=by rw[←Store.set_other σf [V.sl (.tk τ) 5 []] hqo];exact hq
    exact⟨hqo,by rintro rfl;rw[h] at hq';simp at hq',hq'⟩
  generalize hin:Rdr.inside (oStep one) empty (rd.take kind).1=ins;have hinl:ins.1.l=(rd.take kind).1.kids:=by rw[←hin];exact inside_l (oStep_l hone) _ _
  refine(within_calls (kind:=kind) (by simp[am]) h1 hlen (by omega) ins.1 ((σf.set o [.sl (.tk τ) 5 (ins.2.map Nd.enc)]).setTip τ (ins.2.map Nd.enc).length) ?_ ?_ ?_ hinl).mono ?_
  · intro hok hc q hq;obtain⟨hqo,hqr,_⟩:=hne q hq;have e1:(((σf.set o [V.sl (.tk τ) 5 []]).setTip τ 0).set r (rd.take kind).2.enc).set q (rd.take kind).1.inner.enc=gStore (σf.set r (rd.take kind).2.enc) q o τ 5 (rd.take kind).1.inner []:=by
      unfold gStore;rw[Store.set_comm (b:=q) hqo,Store.set_comm (b:=r) (Ne.symm hor)];rfl
    have e2:(((σf.set o [V.sl (.tk τ) 5 (ins.2.map Nd.enc)]).setTip τ (ins.2.map Nd.enc).length).set r (rd.take kind).2.enc).set q ins.1.enc=gStore (σf.set r (rd.take kind).2.enc) q o τ 5 ins.1 (ins.2.map Nd.enc):=by
      unfold gStore;rw[Store.set_comm (b:=q) hqo,Store.set_comm (b:=r) (Ne.symm hor)];rfl
    have e3:ins=someG (oStep one) (rd.take kind).1.inner:=by
      rw[←hin,Rdr.inside,if_neg];rintro⟨q1,q2⟩
      rcases hc with hc | hc
      · rw[q1] at hc;simp at hc
      · exact hc q2
    rw[e1,e2,e3];refine kids1_calls hone hqo ?_ hfo (by rw[Store.set_other _ _ hfr];exact hff) rfl rfl hkids (fun i σ' h1 h2 h3 h4=>hcalls q i σ' h1 h2 (by rw[h1];exact h3) h4);rintro rfl;rw[show ((σf.set o [V.sl (.tk τ) 5 []]).setTip τ 0).box f=(σf.set o [V.sl (.tk τ) 5 []]).box f from rfl,Store.set_other _ _ hfo,hff] at hq;simp at hq
  · intro q1 q2
    have:ins=((rd.take kind).1.inner,[]):=by rw[←hin,Rdr.inside,if_pos ⟨q1,q2⟩]
    rw[this];exact⟨rfl,rfl⟩
  · intro q hq;obtain⟨hqo,_,hq'⟩:=hne q hq;show (σf.set o _).box q=none;rw[Store.set_other _ _ hqo];exact hq'
  rintro v σ' hv;have hdrop:∀(A B:List V) (n:Nat),(σ.set r A).sub (((σf.set o B).setTip τ n).set r A):=fun A B n=>by
    refine Store.sub_trans (sub_both hfσ) ?_;refine⟨fun b cs hb=>?_,fun υ m hm=>?_,fun _ _ h=>h⟩
    · have hbo:b≠o:=by rintro rfl;rw[Store.set_other _ _ hor,ho] at hb;simp at hb
      by_cases hbr:b=r
      · subst hbr;rw[Store.set_same] at hb ⊢;exact hb
      · rw[Store.set_other _ _ hbr] at hb ⊢;show (σf.set o B).box b=_;rw[Store.set_other _ _ hbo];exact hb
    · have hm' : σf.tip υ=some m:=hm;have hne' : υ≠τ:=by rintro rfl;rw[show (σf.set o [V.sl .full 5 []]).tip υ=σf.tip υ from rfl] at hτ;rw[hτ] at hm';simp at hm'
      show ((σf.set o B).setTip τ n).tip υ=some m;rw[setTip_tip_ne hne'];exact hm'
  split at hv
  · rename_i hok;obtain⟨rfl,rfl⟩:=hv;have hb:(((σf.set o [V.sl (.tk τ) 5 (ins.2.map Nd.enc)]).setTip τ (ins.2.map Nd.enc).length).set r ((rd.take kind).2.under ins.1).enc).box o=some [V.sl (.tk τ) 5 (ins.2.map Nd.enc)]:=by
      rw[Store.set_other _ _ hor];exact Store.set_same _ _ _
    simp only[am,hb];refine retK_intro rfl (hdrop _ _ _) ⟨?_,?_⟩
    · simp[Rdr.nodes,Rdr.bracket,hok,hin,V.erase,eraseL]
    · simp[Rdr.nodes,Rdr.bracket,hok,hin]
  · rename_i hok;obtain⟨rfl,rfl⟩:=hv;have hb:(((σf.set o [V.sl (.tk τ) 5 []]).setTip τ 0).set r (rd.take kind).2.enc).box o=some [V.sl (.tk τ) 5 []]:=by
      rw[Store.set_other _ _ hor];exact Store.set_same _ _ _
    simp only[am,hb];refine retK_intro rfl (hdrop _ _ _) ⟨?_,?_⟩
    · simp[Rdr.nodes,Rdr.bracket,hok,V.erase,eraseL]
    · simp[Rdr.nodes,Rdr.bracket,hok]
end Go.Proofs.Tryz

namespace Go.Proofs.Tryz
open Go.Am
def ac266:AC:=.seq (.reg [⟨(some 2),.alloc [(.int .i64 0),(.int .i64 0),(.str []),(.sl .full 2 []),(.sl .full 5 [])],none⟩])
 (.seq (.reg [xm 6 0,xc 204 7 [.s 6],⟨(some 3),.alloc [(.str []),(.int .i64 0)],none⟩,xs 2 3 7])
 (.seq (.reg [xm 8 0,xc 206 9 [.s 8,.c (.int .u8 58)]])
 (.seq (.reg [xm 11 0,xc 155 12 [.s 11,.c (.bool true)],xm 10 12,xe 13 10 0,xe 14 10 1,xm 4 13,xm 5 14])
 (.seq (.reg [xf 1 15 3,xo 16 15,xf 0 17 3,xo 18 17,xm 19 4,⟨(some 20),.build [(.int .i64 0),(.int .i64 0),(.str []),(.sl .full 2 []),(.sl .full 5 [])] [(0,1,(.c (.int .i64 6))),(1,1,(.s 16)),(2,1,(.s 18)),(3,1,(.s 19))],none⟩,xs 5 2 20])
 (.ret)))))
theorem fn266:IsFn prog 266 ac266 [.cell 2 true 5] 21:=⟨f266,⟨[],[],[]⟩,func266,by kernel_rfl,by kernel_rfl,by kernel_rfl,by kernel_rfl⟩
set_option maxRecDepth 4000
set_option maxHeartbeats 4000000
theorem rule_calls {r:Nat} {rd:Rdr} {σ:Store} (h:σ.box r=some rd.enc) (hlen:rd.l.length≤big) (hk:∀(x:Rdr) (k:Int),x.l=rd.l→(x.take k).1.kids.length+1≤big) :
    PCalls prog 266 [.ptr (.out r) 0] σ fun v σ' => v = .agg rd.rule.1.enc∧σ' = σ.set r rd.rule.2.enc:=by
  refine fn266.calls ?_;simp only[slots,ac266,ams,am];refine(word_calls h hlen).mono ?_;rintro v σ' ⟨rfl,rfl⟩;simp only[am,Word.enc];refine(take_calls (Store.set_same _ _ _) (by simp[Rdr.word,Rdr.take_l,hlen])).mono ?_;rintro v σ' ⟨rfl,rfl⟩;simp only[am];refine(wwords_calls (Store.set_same _ _ _) (by simp[Rdr.word,Rdr.take_l,hlen]) (hk _ _ (by simp[Rdr.word,Rdr.take_l]))).mono ?_;rintro v σ' ⟨rfl,rfl⟩;simp only[am,Nat.reduceAdd];refine retK_intro rfl (Store.sub_refl _) ⟨?_,rfl⟩;simp[Rdr.rule,V.erase,eraseL,Nd.enc,nencs]
end Go.Proofs.Tryz

namespace Go.Proofs.Tryz
open Go.Am
def ac246:AC:=.seq (.reg [⟨(some 2),.alloc [(.int .i64 0),(.int .i64 0),(.str []),(.sl .full 2 []),(.sl .full 5 [])],none⟩])
 (.seq (.reg [⟨(some 5),.build [(.int .i64 0),(.int .i64 0),(.str []),(.sl .full 2 []),(.sl .full 5 [])] [],none⟩,⟨(some 3),.alloc [(.int .i64 0),(.int .i64 0),(.str []),(.sl .full 2 []),(.sl .full 5 [])],none⟩,xs 5 3 5])
 (.seq (.block 0 (.seq (.reg [xm 14 0,xc 205 15 [.s 14,.c (.int .u8 123)],xm 13 15])
 (.cond (.s 13) (.seq (.reg [xf 0 16 3,⟨none,.store 1 (.s 16) (.c (.int .i64 3)),none⟩])
 (.reg [xm 18 0,xc 155 19 [.s 18,.c (.bool true)],xm 17 19,xe 20 17 0,xe 21 17 1,xf 3 22 3,xs 1 22 20,xf 1 23 3,xs 1 23 21]))
 (.seq (.reg [xm 25 0,xc 205 26 [.s 25,.c (.int .u8 40)],xm 24 26])
 (.cond (.s 24) (.seq (.reg [xf 0 27 3,⟨none,.store 1 (.s 27) (.c (.int .i64 4)),none⟩])
 (.reg [xm 29 0,xc 207 30 [.s 29,.c (.int .u8 40),.c (.bool false),.c (.fn (.func 246) [] [])],xm 28 30,xe 31 28 0,xe 32 28 1,xf 4 33 3,xs 1 33 31,xf 1 34 3,xs 1 34 32]))
 (.seq (.reg [xm 36 0,xc 205 37 [.s 36,.c (.int .u8 91)],xm 35 37])
 (.cond (.s 35) (.seq (.reg [xf 0 38 3,⟨none,.store 1 (.s 38) (.c (.int .i64 5)),none⟩])
 (.reg [xm 40 0,xc 207 41 [.s 40,.c (.int .u8 91),.c (.bool true),.c (.fn (.func 266) [] [])],xm 39 41,xe 42 39 0,xe 43 39 1,xf 4 44 3,xs 1 44 42,xf 1 45 3,xs 1 45 43]))
 (.seq (.reg [xm 6 0,xc 204 7 [.s 6],⟨(some 4),.alloc [(.str []),(.int .i64 0)],none⟩,xs 2 4 7])
 (.reg [xf 1 8 4,xo 9 8,xf 0 10 4,xo 11 10,⟨(some 12),.build [(.int .i64 0),(.int .i64 0),(.str []),(.sl .full 2 []),(.sl .full 5 [])] [(0,1,(.c (.int .i64 2))),(1,1,(.s 9)),(2,1,(.s 11))],none⟩,xs 5 3 12])))))))))
 (.seq (.reg [xl 5 46 3,xs 5 2 46])
 (.ret))))
theorem fn246:IsFn prog 246 ac246 [.cell 2 true 5] 47:=⟨f246,⟨[],[],[]⟩,func246,by kernel_rfl,by kernel_rfl,by kernel_rfl,by kernel_rfl⟩
set_option maxRecDepth 4000
set_option maxHeartbeats 4000000
theorem sees_nil {r:Rdr} {k:Int} (h:manys r.l=0):r.sees k=false:=by
  have:r.l=[]:=List.eq_nil_of_length_eq_zero (by have:=manys_ge r.l;omega)
  simp[Rdr.sees,isK,this]
theorem kids_big {l:List Tree} {x:Rdr} {k:Int} (hm:manys l+1≤big) (h:x.l=l):(x.take k).1.kids.length+1≤big:=by
  have h1:=(x.take_many k).1;have h2:=manys_ge (x.take k).1.kids;rw[h] at h1;omega
theorem constant_calls:∀(n:Nat) {r:Nat} {rd:Rdr} {σ:Store} (_:σ.box r=some rd.enc) (_:manys rd.l≤n) (_:manys rd.l+1≤big),
    PCalls prog 246 [.ptr (.out r) 0] σ fun v σ' => v = .agg (Rdr.constant n rd).1.enc∧σ' = σ.set r (Rdr.constant n rd).2.enc:=by
  intro n;induction n with
  | zero =>
    intro r rd σ h hn hm;have hlen:=manys_ge rd.l;refine fn246.calls ?_;simp only[slots,ac246,ams,am];refine(sees_calls h).mono ?_;rintro v σ' ⟨rfl,rfl⟩;simp only[am,sees_nil (Nat.le_zero.1 hn)];refine(sees_calls h).mono ?_;rintro v σ' ⟨rfl,rfl⟩;simp only[am,sees_nil (Nat.le_zero.1 hn)];refine(sees_calls h).mono ?_;rintro v σ' ⟨rfl,rfl⟩;simp only[am,sees_nil (Nat.le_zero.1 hn)];refine(word_calls h (by omega)).mono ?_;rintro v σ' ⟨rfl,rfl⟩;simp only[am,Word.enc,Nat.reduceAdd];refine retK_intro rfl (Store.sub_refl _) ⟨?_,rfl⟩;simp[Rdr.constant,Rdr.leaf,V.erase,eraseL,Nd.enc,nencs]
  | succ n ih =>
    intro r rd σ h hn hm;have hlen:=manys_ge rd.l;refine fn246.calls ?_;simp only[slots,ac246,ams,am];refine(sees_calls h).mono ?_;rintro v σ' ⟨rfl,rfl⟩;cases h1:rd.sees 123
    case' true =>
      simp only[am];refine(wwords_calls h (by omega) (kids_big hm rfl)).mono ?_;rintro v σ' ⟨rfl,rfl⟩;simp only[am,Nat.reduceAdd];refine retK_intro rfl (Store.sub_refl _) ⟨?_,by simp[Rdr.constant,h1]⟩;simp[Rdr.constant,h1,V.erase,eraseL,Nd.enc,nencs]
    case' false =>
      simp only[am];refine(sees_calls h).mono ?_;rintro v σ' ⟨rfl,rfl⟩;cases h2:rd.sees 40
    case' false.true =>
      have hk:manys (rd.take 40).1.kids+1≤manys rd.l:=(rd.take_many 40).2 (by
        rcases rd.take_at 40 with ⟨_,_,e,_,_⟩ | ⟨e,_,_⟩
        · exact e
        · rw[h2] at e;simp at e)
      simp only[am];refine(kids_calls (reads_of (goes_constant n)) h (by omega) (kids_big hm rfl) (fun q i σ' e1 _ _ e4=>ih e4 (by rw[e1];omega) (by rw[e1];omega))).mono ?_;rintro v σ' ⟨rfl,rfl⟩;simp only[am,Nat.reduceAdd];refine retK_intro rfl (Store.sub_refl _) ⟨?_,by simp[Rdr.constant,h1,h2]⟩;simp[Rdr.constant,h1,h2,V.erase,eraseL,Nd.enc,nencs_map]
    case' false.false =>
      simp only[am];refine(sees_calls h).mono ?_;rintro v σ' ⟨rfl,rfl⟩;cases h3:rd.sees 91
    case' false.false.true =>
      simp only[am];refine(kids_calls (reads_of goes_rule) h (by omega) (kids_big hm rfl) (fun q i σ' e1 _ _ e4=>rule_calls e4 (by have g1:=manys_ge i.l;have g2:=(rd.take_many 91).1;rw[←e1] at g2;omega) (fun x k ex=>kids_big (by have g2:=(rd.take_many 91).1;rw[←e1] at g2;omega) ex))).mono ?_;rintro v σ' ⟨rfl,rfl⟩;simp only[am,Nat.reduceAdd];refine retK_intro rfl (Store.sub_refl _) ⟨?_,by simp[Rdr.constant,h1,h2,h3]⟩;simp[Rdr.constant,h1,h2,h3,V.erase,eraseL,Nd.enc,nencs_map]
    case' false.false.false =>
      simp only[am];refine(word_calls h (by omega)).mono ?_;rintro v σ' ⟨rfl,rfl⟩;simp only[am,Word.enc,Nat.reduceAdd];refine retK_intro rfl (Store.sub_refl _) ⟨?_,by simp[Rdr.constant,Rdr.leaf,h1,h2,h3]⟩;simp[Rdr.constant,Rdr.leaf,h1,h2,h3,V.erase,eraseL,Nd.enc,nencs]
end Go.Proofs.Tryz

namespace Go.Proofs.Tryz
open Go.Am
def ac208:AC:=.seq (.reg [⟨(some 2),.alloc [(.int .i64 0),(.int .i64 0),(.str []),(.sl .full 2 []),(.sl .full 5 [])],none⟩])
 (.seq (.seq (.reg [xm 5 0,xc 205 6 [.s 5,.c (.int .u8 35)]])
 (.cond (.s 6) (.seq (.reg [xm 7 0,xc 206 8 [.s 7,.c (.int .u8 35)],⟨(some 3),.alloc [(.int .u8 0),(.str []),(.int .i64 0),(.sl .full 5 []),(.int .i64 0)],none⟩,xs 5 3 8])
 (.seq (.draw [(xf 0 9 3,[]),(xf 2 10 9,[]),(xo 11 10,[1]),(xm 12 0,[]),(xc 246 13 [.s 12],[]),(⟨(some 14),.bslice 5 [(.s 13)],none⟩,[]),(⟨(some 15),.build [(.int .i64 0),(.int .i64 0),(.str []),(.sl .full 2 []),(.sl .full 5 [])] [(0,1,(.c (.int .i64 7))),(1,1,(.s 11)),(4,1,(.s 14))],none⟩,[]),(xs 5 2 15,[])])
 (.ret)))
 (.skip)))
 (.seq (.reg [xm 16 0,xc 204 17 [.s 16],⟨(some 4),.alloc [(.str []),(.int .i64 0)],none⟩,xs 2 4 17])
 (.seq (.reg [xf 1 18 4,xo 19 18,xf 0 20 4,xo 21 20,⟨(some 22),.build [(.int .i64 0),(.int .i64 0),(.str []),(.sl .full 2 []),(.sl .full 5 [])] [(0,1,(.c (.int .i64 1))),(1,1,(.s 19)),(2,1,(.s 21))],none⟩,xs 5 2 22])
 (.ret))))
theorem fn208:IsFn prog 208 ac208 [.cell 2 true 5] 23:=⟨f208,⟨[],[],[]⟩,func208,by kernel_rfl,by kernel_rfl,by kernel_rfl,by kernel_rfl⟩
def ac211:AC:=.seq (.reg [⟨(some 2),.alloc [(.int .i64 0),(.int .i64 0),(.str []),(.sl .full 2 []),(.sl .full 5 [])],none⟩])
 (.seq (.reg [xm 4 0,xc 204 5 [.s 4],⟨(some 3),.alloc [(.str []),(.int .i64 0)],none⟩,xs 2 3 5])
 (.seq (.reg [xm 6 0,xc 206 7 [.s 6,.c (.int .u8 61)]])
 (.seq (.draw [(xf 1 8 3,[]),(xo 9 8,[1]),(xf 0 10 3,[]),(xo 11 10,[1]),(xm 12 0,[]),(xc 208 13 [.s 12],[]),(⟨(some 14),.bslice 5 [(.s 13)],none⟩,[]),(⟨(some 15),.build [(.int .i64 0),(.int .i64 0),(.str []),(.sl .full 2 []),(.sl .full 5 [])] [(0,1,(.c (.int .i64 11))),(1,1,(.s 9)),(2,1,(.s 11)),(4,1,(.s 14))],none⟩,[]),(xs 5 2 15,[])])
 (.ret))))
theorem fn211:IsFn prog 211 ac211 [.cell 2 true 5] 16:=⟨f211,⟨[],[],[]⟩,func211,by kernel_rfl,by kernel_rfl,by kernel_rfl,by kernel_rfl⟩
set_option maxRecDepth 4000
set_option maxHeartbeats 4000000
theorem Nd.len {n:Nd}:n.enc.length=5:=by rw[Nd.enc_eq];rfl
theorem Tree.ld {t:Tree}:∀{n:Nat},t.enc.drop n=[V.int .u8 t.tok.kind,.str t.tok.text,.int .i64 t.tok.pos,.sl .no 5 (encs t.kids),.int .i64 t.fin].drop n:=fun {n}=>by rw[enc_eq]
theorem atom_calls {n r:Nat} {rd:Rdr} {σ:Store} (h:σ.box r=some rd.enc) (hn:manys rd.l≤n) (hm:manys rd.l+1≤big) :
    PCalls prog 208 [.ptr (.out r) 0] σ fun v σ' => v = .agg (rd.atom n).1.enc∧σ' = σ.set r (rd.atom n).2.enc:=by
  have hlen:=manys_ge rd.l;refine fn208.calls ?_;simp only[slots,ac208,ams,am];refine(sees_calls h).mono ?_;rintro v σ' ⟨rfl,rfl⟩;cases h1:rd.sees 35
  case' true =>
    simp only[am];refine(take_calls h (by omega)).mono ?_;rintro v σ' ⟨rfl,rfl⟩;simp only[am,enc_eq,Nat.reduceAdd];refine CallD.intro (constant_calls n (Store.set_same _ _ _) (by rw[Rdr.take_l];exact hn) (by rw[Rdr.take_l];exact hm)) ?_;simp only[am,Nd.len,Nd.one,Nd.nol,Nd.er,Nat.reduceAdd];refine retK_intro rfl (Store.sub_refl _) ⟨?_,by simp[Rdr.atom,h1]⟩;simp[Rdr.atom,h1,V.erase,eraseL,Nd.enc,nencs]
  case' false =>
    simp only[am];refine(word_calls h (by omega)).mono ?_;rintro v σ' ⟨rfl,rfl⟩;simp only[am,Word.enc,Nat.reduceAdd];refine retK_intro rfl (Store.sub_refl _) ⟨?_,by simp[Rdr.atom,Rdr.leaf,h1]⟩;simp[Rdr.atom,Rdr.leaf,h1,V.erase,eraseL,Nd.enc,nencs]
theorem field_calls {n r:Nat} {rd:Rdr} {σ:Store} (h:σ.box r=some rd.enc) (hn:manys rd.l≤n) (hm:manys rd.l+1≤big) :
    PCalls prog 211 [.ptr (.out r) 0] σ fun v σ' => v = .agg (rd.field n).1.enc∧σ' = σ.set r (rd.field n).2.enc:=by
  have hlen:=manys_ge rd.l;refine fn211.calls ?_;simp only[slots,ac211,ams,am];refine(word_calls h (by omega)).mono ?_;rintro v σ' ⟨rfl,rfl⟩;simp only[am,Word.enc,Nat.reduceAdd];have e1:rd.word.2.l=rd.l:=by simp[Rdr.word,Rdr.take_l]
  refine(take_calls (Store.set_same _ _ _) (by rw[e1];omega)).mono ?_;rintro v σ' ⟨rfl,rfl⟩;simp only[am];refine CallD.intro (atom_calls (n:=n) (Store.set_same _ _ _) (by rw[Rdr.take_l,e1];exact hn) (by rw[Rdr.take_l,e1];exact hm)) ?_;simp only[am,Nd.len,Nd.one,Nd.nol,Nd.er,Nat.reduceAdd];refine retK_intro rfl (Store.sub_refl _) ⟨?_,by simp[Rdr.field]⟩;simp[Rdr.field,V.erase,eraseL,Nd.enc,nencs]
end Go.Proofs.Tryz

namespace Go.Proofs.Tryz
open Go.Am
def ac158:AC:=.seq (.reg [⟨(some 2),.alloc [(.int .i64 0),(.int .i64 0),(.str []),(.sl .full 2 []),(.sl .full 5 [])],none⟩])
 (.seq (.seq (.reg [⟨(some 9),.bslice 1 [(.c (.int .u8 43)),(.c (.int .u8 38))],none⟩,xL 10 9,xi 11 0])
 (.block 0 (.loop (.seq (.reg [xb .lss 12 11 10])
 (.seq (.cond (.s 12) (.skip)
 (.exit 0))
 (.seq (.block 1 (.seq (.reg [xA 1 13 9 11,xo 14 13,xm 4 14])
 (.seq (.seq (.reg [xm 15 0,xm 16 4,xc 205 17 [.s 15,.s 16],⟨(some 18),.not (.s 17),none⟩])
 (.cond (.s 18) (.exit 1)
 (.skip)))
 (.seq (.reg [xm 19 0,xm 20 4,xc 206 21 [.s 19,.s 20],⟨(some 5),.alloc [(.int .u8 0),(.str []),(.int .i64 0),(.sl .full 5 []),(.int .i64 0)],none⟩,xs 5 5 21])
 (.seq (.reg [xi 6 8])
 (.seq (.seq (.reg [xm 22 4,xu .eql 23 22 38])
 (.cond (.s 23) (.reg [xi 6 9])
 (.skip)))
 (.seq (.reg [xm 25 0,xc 207 26 [.s 25,.c (.int .u8 40),.c (.bool false),.c (.fn (.func 158) [] [])],xm 24 26,xe 27 24 0,xe 28 24 1,xm 7 27,xm 8 28])
 (.seq (.reg [xm 29 6,xf 0 30 5,xf 2 31 30,xo 32 31,xm 33 7,⟨(some 34),.build [(.int .i64 0),(.int .i64 0),(.str []),(.sl .full 2 []),(.sl .full 5 [])] [(0,1,(.s 29)),(1,1,(.s 32)),(4,1,(.s 33))],none⟩,xs 5 2 34])
 (.ret)))))))))
 (.reg [xB .add 35 11 1,xm 11 35])))))))
 (.seq (.reg [xm 36 0,xc 208 37 [.s 36],xs 5 2 37])
 (.ret)))
theorem fn158:IsFn prog 158 ac158 [.cell 2 true 5] 38:=⟨f158,⟨[],[],[]⟩,func158,by kernel_rfl,by kernel_rfl,by kernel_rfl,by kernel_rfl⟩
set_option maxRecDepth 4000
set_option maxHeartbeats 4000000
def inv44 (r:Nat) (rd:Rdr) (σ:Store) (i:{i:Nat // i≤2∧(1≤i→rd.sees 43=false)∧(2≤i→rd.sees 38=false)}):St :=
  ⟨[.ptr (.out r) 0,.any,.ptr (.loc 0) 0,.any,.any,.any,.any,.any,.any,.sl .full 1 [[.int .u8 43],[.int .u8 38]],.int .i64 2,.int .i64 (i.1:Nat)]++List.replicate 26 .any,
    [[.int .i64 0,.int .i64 0,.str [],.sl .full 2 [],.sl .full 5 []]],σ⟩
theorem Nd.ovr {n:Nd} {a b c d e:V}:over [a,b,c,d,e] n.enc=n.enc:=by rw[Nd.enc_eq];rfl
theorem Nd.tk {n:Nd}:takeN 5 n.enc=some n.enc:=by rw[Nd.enc_eq];rfl
theorem take_less (r:Rdr) (k:Int):manys (r.take k).1.kids+1≤manys r.l∨manys (r.take k).1.kids=0:=by
  rcases r.take_at k with ⟨_,_,e,_,_⟩ | ⟨e,_,_⟩
  · exact .inl ((r.take_many k).2 e)
  · right;simp[Rdr.take,e,Tree.zero,Tree.kids,manys]
theorem label_leaf {n:Nat} {rd:Rdr} (h1:rd.sees 43=false) (h2:rd.sees 38=false) (hn:manys rd.l≤n):Rdr.label n rd=rd.atom n:=by
  cases n with
  | zero=>simp[Rdr.label,Rdr.atom,sees_nil (Nat.le_zero.1 hn)]
  | succ n=>simp[Rdr.label,h1,h2]
theorem label_step {n:Nat} (ih:∀m,n=m+1→∀{r:Nat} {rd:Rdr} {σ:Store} (_:σ.box r=some rd.enc) (_:manys rd.l≤m) (_:manys rd.l+1≤big),
    PCalls prog 158 [.ptr (.out r) 0] σ fun v σ' => v = .agg (Rdr.label m rd).1.enc∧σ' = σ.set r (Rdr.label m rd).2.enc) {r:Nat} {rd:Rdr} {σ:Store} (h:σ.box r=some rd.enc) (hn:manys rd.l≤n) (hm:manys rd.l+1≤big) :
    PCalls prog 158 [.ptr (.out r) 0] σ fun v σ' => v = .agg (Rdr.label n rd).1.enc∧σ' = σ.set r (Rdr.label n rd).2.enc:=by
  have hlen:=manys_ge rd.l;have hpos:∀k,rd.sees k=true→∃m,n=m+1:=fun k hk=>by
    cases n with
    | zero=>rw[sees_nil (Nat.le_zero.1 hn)] at hk;simp at hk
    | succ m=>exact⟨m,rfl⟩
  have kids:∀(m:Nat) (k:Int),n=m+1→∀(q:Nat) (i:Rdr) (σ:Store),i.l=((rd.take k).2.take 40).1.kids→0≤i.at_→i.at_≤i.l.length→σ.box q=some i.enc→PCalls prog 158 [.ptr (.out q) 0] σ fun v σ' => v = .agg (Rdr.label m i).1.enc∧σ' = σ.set q (Rdr.label m i).2.enc:=fun m k e q i σ e1 _ _ e4=>by
    have g1:=((rd.take k).2.take_many 40).1;have g2:=take_less (rd.take k).2 40;rw[Rdr.take_l,←e1] at g1 g2;exact ih m e e4 (by omega) (by omega)
  refine fn158.calls ?_;simp only[slots,ac158,ams,am];refine vc_loop (fun i=>inv44 r rd σ i) (fun i=>2 - i.1) ?_ ?_
  · refine Upd.enter ⟨0,by omega,by omega,by omega⟩ ?_ ?_ OLe.rfl
    · simp[inv44,List.replicate,am]
    · simp[inv44,am]
  · rintro⟨i,hi,hi1,hi2⟩;simp only[inv44,List.replicate,am];have hcase:i=0∨i=1∨i=2:=by omega
    rcases hcase with rfl | rfl | rfl
    · simp only[am,show (((0:Nat):Int)<2)=True by simp,decide_true];refine idxL_intro (by omega) (c:=[.int .u8 43]) rfl ?_;simp only[am];refine(sees_calls h).mono ?_;rintro v σ' ⟨rfl,rfl⟩;cases h1:rd.sees 43
      · simp only[am];rw[wrap_i64 (by omega) (by omega)];exact Upd.again ⟨1,by omega,fun _=>rfl,by omega⟩ (by simp) (by simp[am]) LLLe.rfl OLe.rfl
      · have eqD:decide ((43:Int)=38)=false:=by simp
        obtain⟨m,rfl⟩:=hpos _ h1;simp only[am];refine(take_calls h (by omega)).mono ?_;rintro v σ' ⟨rfl,rfl⟩;simp only[am,enc_eq,Nat.reduceAdd,eqD];refine(kids_calls (reads_of (goes_label m)) (Store.set_same _ _ _) (by rw[Rdr.take_l];omega) (kids_big hm (Rdr.take_l _ _)) (kids m 43 rfl)).mono ?_;rintro v σ' ⟨rfl,rfl⟩;simp only[am,Nat.reduceAdd];refine retK_intro rfl (Store.sub_refl _) ⟨?_,by simp[Rdr.label,h1]⟩;simp[Rdr.label,h1,V.erase,eraseL,Nd.enc,nencs_map]
    · have hs1:=hi1 (by omega);simp only[am,show (((1:Nat):Int)<2)=True by simp,decide_true];refine idxL_intro (by omega) (c:=[.int .u8 38]) rfl ?_;simp only[am];refine(sees_calls h).mono ?_;rintro v σ' ⟨rfl,rfl⟩;cases h1:rd.sees 38
      · simp only[am];rw[wrap_i64 (by omega) (by omega)];exact Upd.again ⟨2,by omega,fun _=>hs1,fun _=>rfl⟩ (by simp) (by simp[am]) LLLe.rfl OLe.rfl
      · have eqD:decide ((38:Int)=38)=true:=by simp
        obtain⟨m,rfl⟩:=hpos _ h1;simp only[am];refine(take_calls h (by omega)).mono ?_;rintro v σ' ⟨rfl,rfl⟩;simp only[am,enc_eq,Nat.reduceAdd,decide_true];refine(kids_calls (reads_of (goes_label m)) (Store.set_same _ _ _) (by rw[Rdr.take_l];omega) (kids_big hm (Rdr.take_l _ _)) (kids m 38 rfl)).mono ?_;rintro v σ' ⟨rfl,rfl⟩;simp only[am,Nat.reduceAdd];refine retK_intro rfl (Store.sub_refl _) ⟨?_,by simp[Rdr.label,hs1,h1]⟩;simp[Rdr.label,hs1,h1,V.erase,eraseL,Nd.enc,nencs_map]
    · have hs1:=hi1 (by omega);have hs2:=hi2 (by omega);simp only[am,show (((2:Nat):Int)<2)=False by simp,decide_false];refine(atom_calls h hn hm).mono ?_;rintro v σ' ⟨rfl,rfl⟩;simp only[am,Nd.len,Nd.one,Nd.ovr,Nd.tk];rw[label_leaf hs1 hs2 hn];refine retK_intro (by simp only[am,Nd.nol]) (Store.sub_refl _) ⟨?_,rfl⟩;simp only[am,Nd.er]
theorem label_calls:∀(n:Nat) {r:Nat} {rd:Rdr} {σ:Store} (_:σ.box r=some rd.enc) (_:manys rd.l≤n) (_:manys rd.l+1≤big),
    PCalls prog 158 [.ptr (.out r) 0] σ fun v σ' => v = .agg (Rdr.label n rd).1.enc∧σ' = σ.set r (Rdr.label n rd).2.enc:=by
  intro n;induction n with
  | zero=>exact fun h hn hm=>label_step (fun m e=>by omega) h hn hm
  | succ n ih => exact fun h hn hm => label_step (fun m e => by obtain rfl : n = m := by omega
                                                                exact ih) h hn hm
end Go.Proofs.Tryz

namespace Go.Proofs.Tryz
open Go.Am
def ac210:AC:=.hole [(xf 4 2 0,[]),(xo 3 2,[1]),(xo 4 1,[]),(xc 211 5 [.s 4],[]),(xL 6 3,[]),(⟨(some 7),.bslice 5 [(.c (.agg [(.int .i64 0),(.int .i64 0),(.str []),(.sl .full 2 []),(.sl .full 5 [])]))],none⟩,[]),(⟨(some 8),.mv (.c .any),none⟩,[]),(⟨(some 9),.mv (.c .any),none⟩,[]),(⟨none,.mv (.c .any),none⟩,[]),(⟨(some 10),.mv (.c .any),none⟩,[]),(⟨none,.mv (.c .any),none⟩,[])] ⟨5,(.s 3),(.s 7),(.s 6),(.s 5),(.s 0),(some 4),8,9,10⟩
theorem fn210:IsFn prog 210 ac210 [] 11:=⟨f210,⟨[],[],[]⟩,func210,by kernel_rfl,by kernel_rfl,by kernel_rfl,by kernel_rfl⟩
set_option maxRecDepth 4000
set_option maxHeartbeats 4000000
def rCells (τ:Nat) (names rows:List (List V)):List V:=[.int .i64 10,.int .i64 0,.str [],.sl .full 2 names,.sl (.tk τ) 5 rows]
theorem row11_calls {n o p q τ:Nat} {names rows:List (List V)} {rd:Rdr} {σ:Store} (ho:σ.box o=some (rCells τ names rows)) (hp:σ.box p=some [.ptr (.out q) 0]) (hq:σ.box q=some rd.enc)
    (hoq:o≠q) (ht:σ.tip τ=some rows.length) (hb:rows.length+1≤big) (hn:manys rd.l≤n) (hm:manys rd.l+1≤big) :
    PCalls prog 210 [.ptr (.out o) 0,.ptr (.out p) 0] σ fun v σ' => v = .tup []∧σ' = ((σ.set q (rd.field n).2.enc).set o (rCells τ names (rows++[(rd.field n).1.enc]))).setTip τ (rows.length+1):=by
  unfold rCells at ho ⊢;refine fn210.calls ?_;simp only[slots,ac210,ams,am,ho,hp];refine CallD.intro (field_calls (n:=n) hq hn hm) ?_;have h1:(σ.set q (rd.field n).2.enc).box o=some [.int .i64 10,.int .i64 0,.str [],.sl .full 2 names,.sl (.tk τ) 5 rows]:=by rw[Store.set_other _ _ hoq];exact ho
  simp only[am,h1];refine hole_intro (τ:=τ) (m:=rows) (cs:=(rd.field n).1.enc) (p:=.ptr (.out o) 4) rfl rfl rfl hb ht ⟨Nd.wd,Nd.one,Nd.nol⟩ Nd.er (by simp) rfl (by simp only[am,h1];rfl) ?_;simp only[am];exact retK_intro rfl (Store.sub_refl _) ⟨rfl,rfl⟩
end Go.Proofs.Tryz

namespace Go.Proofs.Tryz
open Go.Am
def ac209:AC:=.seq (.reg [⟨(some 2),.boxO 1 (.s 0),none⟩])
 (.seq (.seq (.reg [xo 3 2,xc 205 4 [.s 3,.c (.int .u8 124)],⟨(some 5),.not (.s 4),none⟩])
 (.cond (.s 5) (.reg [xo 6 2,⟨(some 7),.mkfn (.func 210) [] [(.s 1),(.s 2)],none⟩,xc 202 8 [.s 6,.s 7]])
 (.skip)))
 (.seq (.reg [xo 9 2,xc 205 10 [.s 9,.c (.int .u8 124)]])
 (.cond (.s 10) (.seq (.reg [xo 11 2,xc 206 12 [.s 11,.c (.int .u8 124)]])
 (.reg [xo 13 2,xc 204 14 [.s 13],⟨(some 15),.bslice 2 [(.s 14)],none⟩,xf 3 16 1,xs 1 16 15]))
 (.skip))))
theorem fn209:IsFn prog 209 ac209 [] 17:=⟨f209,⟨[2],[],[]⟩,func209,by kernel_rfl,by kernel_rfl,by kernel_rfl,by kernel_rfl⟩
set_option maxRecDepth 4000
set_option maxHeartbeats 4000000
def gRow (σ:Store) (q o τ:Nat) (rd:Rdr) (names rows:List (List V)):Store:=((σ.set q rd.enc).set o (rCells τ names rows)).setTip τ rows.length
theorem gRow_q {σ:Store} {q o τ:Nat} {rd:Rdr} {names rows:List (List V)} (h:q≠o):(gRow σ q o τ rd names rows).box q=some rd.enc:=by
  simp[gRow,Store.setTip,Store.set,h]
theorem gRow_o {σ:Store} {q o τ:Nat} {rd:Rdr} {names rows:List (List V)}:(gRow σ q o τ rd names rows).box o=some (rCells τ names rows):=by
  simp[gRow,Store.setTip,Store.set]
theorem gRow_p {σ:Store} {q o τ p:Nat} {rd:Rdr} {names rows:List (List V)} (h:p≠q) (h' : p≠o):(gRow σ q o τ rd names rows).box p=σ.box p:=by
  simp[gRow,Store.setTip,Store.set,h,h']
theorem gRow_other {σ:Store} {q o τ p:Nat} {rd:Rdr} {names rows:List (List V)} {cs:List V} (h:p≠q) (h' : p≠o):(gRow σ q o τ rd names rows).set p cs=gRow (σ.set p cs) q o τ rd names rows:=by
  have:((σ.set q rd.enc).set o (rCells τ names rows)).set p cs=((σ.set p cs).set q rd.enc).set o (rCells τ names rows):=by
    rw[Store.set_comm (Ne.symm h'),Store.set_comm (b:=q) (Ne.symm h)]
  show (((σ.set q rd.enc).set o (rCells τ names rows)).set p cs).setTip τ rows.length=_;rw[this];rfl
theorem gRow_tip {σ:Store} {q o τ:Nat} {rd:Rdr} {names rows:List (List V)}:(gRow σ q o τ rd names rows).tip τ=some rows.length:=by
  simp[gRow,Store.setTip]
theorem gRow_set {σ:Store} {q o τ:Nat} {rd rd' : Rdr} {names rows:List (List V)} (h:q≠o):(gRow σ q o τ rd names rows).set q rd'.enc=gRow σ q o τ rd' names rows:=by
  have:((σ.set q rd.enc).set o (rCells τ names rows)).set q rd'.enc=(σ.set q rd'.enc).set o (rCells τ names rows):=by rw[Store.set_comm (Ne.symm h),Store.set_set]
  show (((σ.set q rd.enc).set o (rCells τ names rows)).set q rd'.enc).setTip τ rows.length=_;rw[this];rfl
theorem gRow_names {σ:Store} {q o τ:Nat} {rd:Rdr} {names names' rows:List (List V)}:(gRow σ q o τ rd names rows).set o (rCells τ names' rows)=gRow σ q o τ rd names' rows:=by
  show (((σ.set q rd.enc).set o (rCells τ names rows)).set o (rCells τ names' rows)).setTip τ rows.length=_;rw[Store.set_set];rfl
theorem gRow_put {σ:Store} {q o τ:Nat} {rd rd' : Rdr} {names rows:List (List V)} {c:List V} (h:q≠o):(((gRow σ q o τ rd names rows).set q rd'.enc).set o (rCells τ names (rows++[c]))).setTip τ (rows.length+1)=gRow σ q o τ rd' names (rows++[c]):=by
  rw[gRow_set h];unfold gRow;rw[List.length_append,List.length_cons,List.length_nil];show ((((σ.set q rd'.enc).set o (rCells τ names rows)).set o (rCells τ names (rows++[c]))).setTip τ rows.length).setTip τ (rows.length+1)=_;rw[Store.set_set,setTip_setTip]
def rSys (one:Rdr→Nd × Rdr) (σ:Store) (q o τ:Nat):Sys (Rdr × List Nd):=⟨fun a=>gRow σ q o τ a.1 [] (a.2.map Nd.enc),fun a=>a.1,fun a r=>(r,a.2),oStep one⟩
theorem someG_l {one:Rdr→Nd × Rdr} (h:Reads one) (r:Rdr):(someG (oStep one) r).1.l=r.l:=go_l (oStep_l h _) _ _ (oStep_l h _ _ rfl)
theorem row1_calls {n o q τ:Nat} {rd:Rdr} {σ:Store} (hqo:q≠o) (hat:rd.at_=0) (hbad:rd.bad=none) (hn:manys rd.l≤n) (hm:manys rd.l+1≤big) :
    PCalls prog 209 [.ptr (.out q) 0,.ptr (.out o) 0] (gRow σ q o τ rd [] []) fun v σ' => v = .tup []∧σ' = gRow σ q o τ (rd.rowIn n).1.1 ((rd.rowIn n).2.map Word.enc) ((rd.rowIn n).1.2.map Nd.enc):=by
  have hlen:=manys_ge rd.l;have hfield:Reads (Rdr.field n):=reads_of (goes_field n);refine fn209.calls ?_;simp only[slots,ac209,ams,am];refine kO_intro fun p hp=>?_
  have hpq:p≠q:=by rintro rfl;rw[gRow_q hqo] at hp;simp at hp
  have hpo:p≠o:=by rintro rfl;rw[gRow_o] at hp;simp at hp
  rw[gRow_p hpq hpo] at hp;rw[gRow_other hpq hpo];have hsp:∀a b c,(gRow (σ.set p [.ptr (.out q) 0]) q o τ a b c).box p=some [.ptr (.out q) 0]:=fun a b c=>by rw[gRow_p hpq hpo,Store.set_same]
  have hfin:∀a b c,(gRow σ q o τ a b c).sub (gRow (σ.set p [.ptr (.out q) 0]) q o τ a b c):=fun a b c=>by
    rw[←gRow_other hpq hpo];exact sub_set (by rw[gRow_p hpq hpo];exact hp)
  simp only[am,hsp];refine(sees_calls (gRow_q hqo)).mono ?_;rintro v σ' ⟨rfl,rfl⟩;cases h1:rd.sees 124
  all_goals simp only[am,hsp]
  case' false =>
    have hstep:∀a:Rdr × List Nd,Pace rd.l a→a.1.bad=none→PCalls prog 210 [.ptr (.out o) 0,.ptr (.out p) 0] (gRow (σ.set p [.ptr (.out q) 0]) q o τ a.1 [] (a.2.map Nd.enc)) fun v σ' =>
        v = .tup []∧σ' = gRow (σ.set p [.ptr (.out q) 0]) q o τ (oStep (Rdr.field n) a).1 [] ((oStep (Rdr.field n) a).2.map Nd.enc):=fun a hp' hb=>by
      have hl:=hp'.2.2.2 hb;have hl2:=hp'.2.2.1;refine(row11_calls (n:=n) gRow_o (hsp _ _ _) (gRow_q hqo) (Ne.symm hqo) gRow_tip (by rw[List.length_map];omega) (by rw[hp'.1];exact hn) (by rw[hp'.1];exact hm)).mono ?_;rintro v σ' ⟨rfl,rfl⟩;refine⟨rfl,?_⟩;rw[gRow_put hqo];simp[oStep]
    have h0:Pace rd.l (rd,([]:List Nd)):=⟨rfl,by simp[hat],by simp[hat],fun _=>by simp[hat]⟩;obtain⟨p1,_⟩:=pace_one hfield h0 hbad;refine(some_calls (rSys (Rdr.field n) (σ.set p [.ptr (.out q) 0]) q o τ) (Pace rd.l) (a:=(rd,[])) (n:=rd.l.length) (by simp[am]) (fun a h=>gRow_q hqo) (fun a h=>?_) (fun a h hs=>gRow_set hqo) (fun a h hs=>?_) (hstep _ h0 hbad) p1 ?_).mono ?_
    · show a.1.l.length≤big;rw[h.1];omega
    · obtain⟨k1,k2,k3⟩:=pace_take h hs;obtain⟨k4,k5⟩:=pace_one hfield k1 k2;refine⟨hstep _ k1 k2,k4,?_,?_⟩
      · exact k4.1.trans h.1.symm
      · show a.1.at_+1≤_;simp only at k5;rw[k3] at k5;exact k5
    · show (oStep (Rdr.field n) (rd,[])).1.l.length≤rd.l.length;rw[p1.1];omega
    rintro v σ' ⟨rfl,rfl⟩;have e:(rSys (Rdr.field n) (σ.set p [.ptr (.out q) 0]) q o τ).F ((rSys (Rdr.field n) (σ.set p [.ptr (.out q) 0]) q o τ).go rd.l.length ((rSys (Rdr.field n) (σ.set p [.ptr (.out q) 0]) q o τ).step (rd,[])))=gRow (σ.set p [.ptr (.out q) 0]) q o τ (someG (oStep (Rdr.field n)) rd).1 [] ((someG (oStep (Rdr.field n)) rd).2.map Nd.enc):=by
      unfold rSys;rw[go_goG];rfl
    rw[e];have hl:=someG_l hfield rd;have hres:rd.rowIn n=if (someG (oStep (Rdr.field n)) rd).1.sees 124=true then ((((someG (oStep (Rdr.field n)) rd).1.take 124).2.word.2,(someG (oStep (Rdr.field n)) rd).2),[((someG (oStep (Rdr.field n)) rd).1.take 124).2.word.1]) else (someG (oStep (Rdr.field n)) rd,[]):=by
      simp only[Rdr.rowIn,h1,Bool.false_eq_true,if_false]
    generalize someG (oStep (Rdr.field n)) rd=a at hl hres ⊢;simp only[am,hsp]
  case' true =>
    have hres:rd.rowIn n=if rd.sees 124=true then (((rd.take 124).2.word.2,[]),[(rd.take 124).2.word.1]) else ((rd,[]),[]):=by
      simp only[Rdr.rowIn,h1,if_true]
    have hl:rd.l=rd.l:=rfl;rw[show gRow (σ.set p [.ptr (.out q) 0]) q o τ rd [] []=gRow (σ.set p [.ptr (.out q) 0]) q o τ (rd,([]:List Nd)).1 [] ((rd,([]:List Nd)).2.map Nd.enc) from rfl];have hres:rd.rowIn n=if (rd,([]:List Nd)).1.sees 124=true then ((((rd,([]:List Nd)).1.take 124).2.word.2,(rd,([]:List Nd)).2),[((rd,([]:List Nd)).1.take 124).2.word.1]) else ((rd,([]:List Nd)),[]):=hres
    have hl:(rd,([]:List Nd)).1.l=rd.l:=rfl;generalize (rd,([]:List Nd))=a at hl hres ⊢
  all_goals
    refine(sees_calls (gRow_q hqo)).mono ?_;rintro v σ' ⟨rfl,rfl⟩;cases h2:a.1.sees 124
    · simp only[am,hres,h2];exact retK_intro rfl (hfin _ _ _) ⟨rfl,rfl⟩
    · simp only[am,hsp];refine(take_calls (gRow_q hqo) (by rw[hl];omega)).mono ?_;rintro v σ' ⟨rfl,rfl⟩;rw[gRow_set hqo];simp only[am,hsp];refine(word_calls (gRow_q hqo) (by rw[Rdr.take_l,hl];omega)).mono ?_;rintro v σ' ⟨rfl,rfl⟩;rw[gRow_set hqo];simp only[am,Word.enc,gRow_o,rCells,Nat.reduceAdd];rw[show [V.int .i64 10,.int .i64 0,.str [],.sl .full 2 [[.str (a.1.take 124).2.word.1.text,.int .i64 (a.1.take 124).2.word.1.pos]],.sl (.tk τ) 5 (a.2.map Nd.enc)]=rCells τ ([(a.1.take 124).2.word.1].map Word.enc) (a.2.map Nd.enc) from rfl,gRow_names];exact retK_intro rfl (hfin _ _ _) ⟨rfl,by rw[hres,if_pos h2]⟩
end Go.Proofs.Tryz

namespace Go.Proofs.Tryz
open Go.Am
def ac159:AC:=.seq (.reg [⟨(some 2),.alloc [(.int .i64 0),(.int .i64 0),(.str []),(.sl .full 2 []),(.sl .full 5 [])],none⟩])
 (.seq (.seq (.reg [xm 5 0,xc 205 6 [.s 5,.c (.int .u8 91)],⟨(some 7),.not (.s 6),none⟩])
 (.cond (.s 7) (.seq (.reg [xm 8 0,xc 204 9 [.s 8],⟨(some 3),.alloc [(.str []),(.int .i64 0)],none⟩,xs 2 3 9])
 (.seq (.reg [xf 1 10 3,xo 11 10,xf 0 12 3,xo 13 12,⟨(some 14),.build [(.int .i64 0),(.int .i64 0),(.str []),(.sl .full 2 []),(.sl .full 5 [])] [(0,1,(.c (.int .i64 1))),(1,1,(.s 11)),(2,1,(.s 13))],none⟩,xs 5 2 14])
 (.ret)))
 (.skip)))
 (.seq (.reg [⟨(some 15),.build [(.int .i64 0),(.int .i64 0),(.str []),(.sl .full 2 []),(.sl .full 5 [])] [(0,1,(.c (.int .i64 10)))],none⟩,⟨(some 4),.allocO [(.int .i64 0),(.int .i64 0),(.str []),(.sl .full 2 []),(.sl .full 5 [])],none⟩,xs 5 4 15])
 (.seq (.upd (.reg [xm 16 0,⟨(some 17),.mkfn (.func 209) [] [(.s 4)],none⟩,xc 200 18 [.s 16,.c (.int .u8 91),.c (.bool true),.s 17],xf 1 19 4,xs 1 19 18]))
 (.seq (.reg [xl 5 20 4,xs 5 2 20])
 (.ret)))))
theorem fn159:IsFn prog 159 ac159 [.cell 2 true 5] 21:=⟨f159,⟨[4],[5],[]⟩,func159,by kernel_rfl,by kernel_rfl,by kernel_rfl,by kernel_rfl⟩
set_option maxRecDepth 4000
set_option maxHeartbeats 4000000
theorem sub_skip {a b:Store} {o:Nat} {C:List V} (h:a.sub b) (k:a.box o=none):a.sub (b.set o C):=by
  refine⟨fun x cs hx=>?_,h.2⟩
  have:x≠o:=by rintro rfl;rw[k] at hx;simp at hx
  rw[Store.set_other _ _ this];exact h.1 x cs hx
theorem rowIn_l {n:Nat} (i:Rdr):(i.rowIn n).1.1.l=i.l:=by
  have hfield:Reads (Rdr.field n):=reads_of (goes_field n);cases h1:i.sees 124
  · cases h2:(someG (oStep (Rdr.field n)) i).1.sees 124<;>simp[Rdr.rowIn,h1,h2,Rdr.word,Rdr.take_l,someG_l hfield]
  · simp[Rdr.rowIn,h1,Rdr.word,Rdr.take_l]
theorem rowOf_l {n:Nat} (t:Tree):(Rdr.rowOf n t).1.1.l=t.kids:=by
  unfold Rdr.rowOf;split
  · rfl
  · rw[rowIn_l];rfl
theorem wrow_calls {n r:Nat} {rd:Rdr} {σ:Store} (h:σ.box r=some rd.enc) (hn:manys rd.l≤n) (hm:manys rd.l+1≤big) :
    PCalls prog 159 [.ptr (.out r) 0] σ fun v σ' => v = .agg (rd.row n).1.enc∧σ' = σ.set r (rd.row n).2.enc:=by
  have hlen:=manys_ge rd.l;refine fn159.calls ?_;simp only[slots,ac159,ams,am];refine(sees_calls h).mono ?_;rintro v σ ⟨rfl,rfl⟩;cases h1:rd.sees 91
  · simp only[am];refine(word_calls h (by omega)).mono ?_;rintro v σ' ⟨rfl,rfl⟩;simp only[am,Word.enc,Nat.reduceAdd];refine retK_intro rfl (Store.sub_refl _) ⟨?_,by simp[Rdr.row,Rdr.leaf,h1]⟩;simp[Rdr.row,Rdr.leaf,h1,V.erase,eraseL,Nd.enc,nencs]
  · simp only[am];refine kO_intro fun o ho=>?_
    have hor:o≠r:=by rintro rfl;rw[h] at ho;simp at ho
    simp only[am];refine Upd.tok 0 fun τ hτ=>⟨_,_,_,LTo.rfl,rfl,fun i c hc=>⟨c,hc,LTo.rfl⟩,OTo.set (cs:=[.int .i64 10,.int .i64 0,.str [],.sl .full 2 [],.sl .full 5 []]) (cs' := rCells τ [] []) (Store.set_same _ _ _) ⟨VTo.same,VTo.same,VTo.same,VTo.same,VTo.tok rfl,trivial⟩,?_⟩
    simp only[am];have h1' : ((σ.set o (rCells τ [] [])).setTip τ 0).box r=some rd.enc:=by
      show (σ.set o _).box r=_;rw[Store.set_other _ _ (Ne.symm hor)];exact h
    have hne:∀q,((σ.set o (rCells τ [] [])).setTip τ 0).box q=none→q≠o∧q≠r∧σ.box q=none:=fun q hq=>by
      have hqo:q≠o:=by rintro rfl;rw[show ((σ.set q (rCells τ [] [])).setTip τ 0).box q=_ from Store.set_same _ _ _] at hq;simp at hq
      have hq' : σ.box q=none:=by rw[←Store.set_other σ (rCells τ [] []) hqo];exact hq
      exact⟨hqo,by rintro rfl;rw[h] at hq';simp at hq',hq'⟩
    have hkids:manys (rd.take 91).1.kids≤manys rd.l:=(rd.take_many 91).1;have hklen:=manys_ge (rd.take 91).1.kids;generalize hin:Rdr.rowOf n (rd.take 91).1=ins;have hinl:ins.1.1.l=(rd.take 91).1.kids:=by rw[←hin];exact rowOf_l _
    refine(within_calls (kind:=91) (by simp[am]) h1' (by omega) (by omega) ins.1.1 ((σ.set o (rCells τ (ins.2.map Word.enc) (ins.1.2.map Nd.enc))).setTip τ (ins.1.2.map Nd.enc).length) ?_ ?_ ?_ hinl).mono ?_
    · intro hok hc q hq;obtain⟨hqo,hqr,_⟩:=hne q hq;have e1:(((σ.set o (rCells τ [] [])).setTip τ 0).set r (rd.take 91).2.enc).set q (rd.take 91).1.inner.enc=gRow (σ.set r (rd.take 91).2.enc) q o τ (rd.take 91).1.inner [] []:=by
        unfold gRow;rw[Store.set_comm (b:=q) hqo,Store.set_comm (b:=r) (Ne.symm hor)];rfl
      have e2:(((σ.set o (rCells τ (ins.2.map Word.enc) (ins.1.2.map Nd.enc))).setTip τ (ins.1.2.map Nd.enc).length).set r (rd.take 91).2.enc).set q ins.1.1.enc=gRow (σ.set r (rd.take 91).2.enc) q o τ ins.1.1 (ins.2.map Word.enc) (ins.1.2.map Nd.enc):=by
        unfold gRow;rw[Store.set_comm (b:=q) hqo,Store.set_comm (b:=r) (Ne.symm hor)];rfl
      have e3:ins=(rd.take 91).1.inner.rowIn n:=by
        rw[←hin,Rdr.rowOf,if_neg]
        rcases hc with hc | hc
        · simp at hc
        · exact hc
      rw[e1,e2,e3];exact row1_calls hqo rfl rfl (by show manys (rd.take 91).1.kids≤n;omega) (by show manys (rd.take 91).1.kids+1≤big;omega)
    · intro q1 q2
      have:ins=(((rd.take 91).1.inner,[]),[]):=by rw[←hin,Rdr.rowOf,if_pos q2]
      rw[this];exact⟨rfl,rfl⟩
    · intro q hq;obtain⟨hqo,_,hq'⟩:=hne q hq;show (σ.set o _).box q=none;rw[Store.set_other _ _ hqo];exact hq'
    rintro v σ' hv;have hdrop:∀(A B:List V) (n:Nat),(σ.set r A).sub (((σ.set o B).setTip τ n).set r A):=fun A B n=>by
      refine⟨fun b cs hb=>?_,fun υ m hm=>?_,fun _ _ h=>h⟩
      · have hbo:b≠o:=by rintro rfl;rw[Store.set_other _ _ hor,ho] at hb;simp at hb
        by_cases hbr:b=r
        · subst hbr;rw[Store.set_same] at hb ⊢;exact hb
        · rw[Store.set_other _ _ hbr] at hb ⊢;show (σ.set o B).box b=_;rw[Store.set_other _ _ hbo];exact hb
      · have hm' : σ.tip υ=some m:=hm;have hne' : υ≠τ:=by rintro rfl;rw[show (σ.set o [V.int .i64 10,.int .i64 0,.str [],.sl .full 2 [],.sl .full 5 []]).tip υ=σ.tip υ from rfl] at hτ;rw[hτ] at hm';simp at hm'
        show ((σ.set o B).setTip τ n).tip υ=some m;rw[setTip_tip_ne hne'];exact hm'
    have hok:(rd.take 91).2.ok=true:=by
      rcases rd.take_at 91 with ⟨_,_,e,_,_⟩ | ⟨e,_,_⟩
      · simp[Rdr.ok,e]
      · rw[h1] at e;simp at e
    rw[if_pos hok] at hv;obtain⟨rfl,rfl⟩:=hv;have hb:(((σ.set o (rCells τ (ins.2.map Word.enc) (ins.1.2.map Nd.enc))).setTip τ (ins.1.2.map Nd.enc).length).set r ((rd.take 91).2.under ins.1.1).enc).box o=some (rCells τ (ins.2.map Word.enc) (ins.1.2.map Nd.enc)):=by
      rw[Store.set_other _ _ hor];exact Store.set_same _ _ _
    simp only[rCells] at hb hdrop ⊢;simp only[am,hb,Nat.reduceAdd];refine retK_intro rfl (sub_skip (hdrop _ _ _) (by rw[Store.set_other _ _ hor];exact ho)) ⟨?_,by simp[Rdr.row,h1,hin]⟩;simp[Rdr.row,h1,hin,V.erase,eraseL,Nd.enc,nencs_map]
end Go.Proofs.Tryz

namespace Go.Proofs.Tryz
open Go.Am
def ac104:AC:=.seq (.reg [⟨(some 6),.mv (.c (.sl .full 2 [])),none⟩,⟨(some 7),.alloc [(.int .i64 0),(.int .i64 0)],none⟩])
 (.seq (.reg [xm 11 0,xm 12 1,xm 13 2,⟨(some 14),.build [(.sl .full 5 []),(.int .i64 0),(.int .i64 0),(.int .i64 0),(.int .i64 0)] [(0,1,(.s 11)),(1,1,(.s 12)),(2,1,(.s 13))],none⟩,⟨(some 15),.boxO 5 (.s 14),none⟩,xm 8 15])
 (.seq (.reg [xm 17 8,xc 155 18 [.s 17,.c (.bool false)],xm 16 18,xe 19 16 0,xe 20 16 1,xm 9 19,xm 10 20])
 (.seq (.seq (.reg [xm 21 8,xc 156 22 [.s 21],⟨(some 23),.not (.s 22),none⟩])
 (.cond (.s 23) (.seq (.draw [(xm 24 8,[]),(xk 25 24,[]),(xf 3 26 25,[]),(xl 2 27 26,[]),(⟨(some 6),.mv (.c (.sl .full 2 [])),none⟩,[]),(xs 2 7 27,[])])
 (.ret))
 (.skip)))
 (.seq (.reg [xm 28 9,⟨(some 29),.build [(.int .i64 0),(.int .i64 0)] [],none⟩,xm 6 28,xs 2 7 29])
 (.ret)))))
theorem fn104:IsFn prog 104 ac104 [.tmp 6,.cell 7 true 2] 30:=⟨f104,⟨[15],[],[]⟩,func104,by kernel_rfl,by kernel_rfl,by kernel_rfl,by kernel_rfl⟩
def ac107:AC:=.seq (.reg [⟨(some 6),.alloc [(.int .i64 0),(.int .i64 0),(.str []),(.sl .full 2 []),(.sl .full 5 [])],none⟩,xi 7 0,⟨(some 8),.alloc [(.int .i64 0),(.int .i64 0)],none⟩])
 (.seq (.reg [xm 9 0,xm 10 1,xm 11 2,xc 157 12 [.s 9,.s 10,.s 11,.c (.fn (.func 158) [] [])],xe 13 12 0,xe 14 12 1,xe 15 12 2,xs 5 6 13,xm 7 14,xs 2 8 15])
 (.ret))
theorem fn107:IsFn prog 107 ac107 [.cell 6 true 5,.tmp 7,.cell 8 true 2] 16:=⟨f107,⟨[],[],[]⟩,func107,by kernel_rfl,by kernel_rfl,by kernel_rfl,by kernel_rfl⟩
def ac108:AC:=.seq (.reg [⟨(some 6),.alloc [(.int .i64 0),(.int .i64 0),(.str []),(.sl .full 2 []),(.sl .full 5 [])],none⟩,xi 7 0,⟨(some 8),.alloc [(.int .i64 0),(.int .i64 0)],none⟩])
 (.seq (.reg [xm 9 0,xm 10 1,xm 11 2,xc 157 12 [.s 9,.s 10,.s 11,.c (.fn (.func 159) [] [])],xe 13 12 0,xe 14 12 1,xe 15 12 2,xs 5 6 13,xm 7 14,xs 2 8 15])
 (.ret))
theorem fn108:IsFn prog 108 ac108 [.cell 6 true 5,.tmp 7,.cell 8 true 2] 16:=⟨f108,⟨[],[],[]⟩,func108,by kernel_rfl,by kernel_rfl,by kernel_rfl,by kernel_rfl⟩
def ac157:AC:=.seq (.reg [⟨(some 8),.alloc [(.int .i64 0),(.int .i64 0),(.str []),(.sl .full 2 []),(.sl .full 5 [])],none⟩,xi 9 0,⟨(some 10),.alloc [(.int .i64 0),(.int .i64 0)],none⟩])
 (.seq (.reg [xm 13 0,xm 14 1,xm 15 2,⟨(some 16),.build [(.sl .full 5 []),(.int .i64 0),(.int .i64 0),(.int .i64 0),(.int .i64 0)] [(0,1,(.s 13)),(1,1,(.s 14)),(2,1,(.s 15))],none⟩,⟨(some 17),.boxO 5 (.s 16),none⟩,xm 11 17])
 (.seq (.reg [xm 18 3,xm 19 11,⟨(some 20),.callv (.s 18) [(.s 19)],none⟩,⟨(some 12),.alloc [(.int .i64 0),(.int .i64 0),(.str []),(.sl .full 2 []),(.sl .full 5 [])],none⟩,xs 5 12 20])
 (.seq (.seq (.reg [xm 21 11,xc 156 22 [.s 21],⟨(some 23),.not (.s 22),none⟩])
 (.cond (.s 23) (.seq (.draw [(⟨(some 24),.build [(.int .i64 0),(.int .i64 0),(.str []),(.sl .full 2 []),(.sl .full 5 [])] [],none⟩,[]),(xm 25 11,[]),(xk 26 25,[]),(xf 3 27 26,[]),(xl 2 28 27,[1]),(xs 5 8 24,[]),(xi 9 0,[]),(xs 2 10 28,[])])
 (.ret))
 (.skip)))
 (.seq (.draw [(xl 5 29 12,[]),(xm 30 11,[]),(xk 31 30,[]),(xf 1 32 31,[]),(xo 33 32,[1]),(⟨(some 34),.build [(.int .i64 0),(.int .i64 0)] [],none⟩,[]),(xs 5 8 29,[]),(xm 9 33,[]),(xs 2 10 34,[])])
 (.ret)))))
theorem fn157:IsFn prog 157 ac157 [.cell 8 true 5,.tmp 9,.cell 10 true 2] 35:=⟨f157,⟨[17],[],[]⟩,func157,by kernel_rfl,by kernel_rfl,by kernel_rfl,by kernel_rfl⟩
set_option maxRecDepth 4000
set_option maxHeartbeats 4000000
def fenc (b:Option Int):V:=.agg [.int .i64 (badC b),.int .i64 (badA b)]
theorem wread_calls {g:FuncId} {one:Rdr→Nd × Rdr} {l:List Tree} {at_ fin:Int} {σ:Store}
    (hone:∀q (σ:Store),σ.box q=some (⟨l,at_,fin,none⟩:Rdr).enc→PCalls prog g [.ptr (.out q) 0] σ fun v σ' => v = .agg (one ⟨l,at_,fin,none⟩).1.enc∧σ' = σ.set q (one ⟨l,at_,fin,none⟩).2.enc) :
    PCalls prog 157 [.sl .no 5 (encs l),.int .i64 at_,.int .i64 fin,.fn (.func g) [] []] σ fun v σ' => v = .tup [.agg (readAt one l at_ fin).1.enc,.int .i64 (readAt one l at_ fin).2.1,fenc (readAt one l at_ fin).2.2]∧σ' = σ:=by
  refine fn157.calls ?_;simp only[slots,ac157,ams,am];refine kO_intro fun q hq=>?_
  rw[show [V.sl .no 5 (encs l),.int .i64 at_,.int .i64 fin,.int .i64 0,.int .i64 0]=(⟨l,at_,fin,none⟩:Rdr).enc from rfl];simp only[am];refine(hone q _ (Store.set_same _ _ _)).mono ?_;rintro v σ' ⟨rfl,rfl⟩;have hb:=Store.set_same σ q (one ⟨l,at_,fin,none⟩).2.enc;have hres:readAt one l at_ fin=match (one ⟨l,at_,fin,none⟩).2.bad with | some b=>(.zero,0,some b) | none=>((one ⟨l,at_,fin,none⟩).1,(one ⟨l,at_,fin,none⟩).2.at_,none):=rfl
  generalize one ⟨l,at_,fin,none⟩=o at hb hres ⊢;simp only[am,Nd.len,Nd.one,Nd.ovr];refine(ok_calls (Store.set_same _ _ _)).mono ?_;rintro v σ' ⟨rfl,rfl⟩;cases h:o.2.bad with
  | some b =>
    simp only[am,Rdr.ok,h,Option.isNone,Rdr.ex,Nat.reduceAdd];rw[h] at hres;refine retK_intro rfl (sub_set hq) ⟨?_,rfl⟩;simp[hres,V.erase,eraseL,Nd.zero,Nd.enc,nencs,fenc]
  | none =>
    simp only[am,Rdr.ok,h,Option.isNone,Rdr.ex,Nat.reduceAdd,Nd.len,Nd.one,Nd.ovr,Nd.tk];rw[h] at hres;refine retK_intro (by simp only[am,Nd.nol]) (sub_set hq) ⟨?_,rfl⟩;simp[hres,V.erase,eraseL,fenc,Nd.er,badC,badA]
theorem Label_calls {n:Nat} {l:List Tree} {at_ fin:Int} {σ:Store} (hn:manys l≤n) (hm:manys l+1≤big) :
    PCalls prog 107 [.sl .no 5 (encs l),.int .i64 at_,.int .i64 fin] σ fun v σ' => v = .tup [.agg (readAt (Rdr.label n) l at_ fin).1.enc,.int .i64 (readAt (Rdr.label n) l at_ fin).2.1,fenc (readAt (Rdr.label n) l at_ fin).2.2]∧σ' = σ:=by
  refine fn107.calls ?_;simp only[slots,ac107,ams,am];refine(wread_calls (one:=Rdr.label n) (fun q σ h=>label_calls n h hn hm)).mono ?_;rintro v σ ⟨rfl,rfl⟩;generalize readAt (Rdr.label n) l at_ fin=o;simp only[am,fenc,Nd.len,Nd.ovr,Nd.tk,Nd.one];refine retK_intro (by simp only[am,Nd.nol]) (Store.sub_refl _) ⟨?_,rfl⟩;simp[V.erase,eraseL,Nd.er]
theorem Row_calls {n:Nat} {l:List Tree} {at_ fin:Int} {σ:Store} (hn:manys l≤n) (hm:manys l+1≤big) :
    PCalls prog 108 [.sl .no 5 (encs l),.int .i64 at_,.int .i64 fin] σ fun v σ' => v = .tup [.agg (readAt (Rdr.row n) l at_ fin).1.enc,.int .i64 (readAt (Rdr.row n) l at_ fin).2.1,fenc (readAt (Rdr.row n) l at_ fin).2.2]∧σ' = σ:=by
  refine fn108.calls ?_;simp only[slots,ac108,ams,am];refine(wread_calls (one:=Rdr.row n) (fun q σ h=>wrow_calls (n:=n) h hn hm)).mono ?_;rintro v σ ⟨rfl,rfl⟩;generalize readAt (Rdr.row n) l at_ fin=o;simp only[am,fenc,Nd.len,Nd.ovr,Nd.tk,Nd.one];refine retK_intro (by simp only[am,Nd.nol]) (Store.sub_refl _) ⟨?_,rfl⟩;simp[V.erase,eraseL,Nd.er]
theorem Words_calls {l:List Tree} {at_ fin:Int} {σ:Store} (hm:manys l+1≤big) :
    PCalls prog 104 [.sl .no 5 (encs l),.int .i64 at_,.int .i64 fin] σ fun v σ' => v = .tup [.sl .no 2 ((wordsAt l at_ fin).1.map Word.enc),fenc (wordsAt l at_ fin).2]∧σ' = σ:=by
  have hlen:=manys_ge l;refine fn104.calls ?_;simp only[slots,ac104,ams,am];refine kO_intro fun q hq=>?_
  rw[show [V.sl .no 5 (encs l),.int .i64 at_,.int .i64 fin,.int .i64 0,.int .i64 0]=(⟨l,at_,fin,none⟩:Rdr).enc from rfl];simp only[am];refine(wwords_calls (Store.set_same _ _ _) (by simp only;omega) (kids_big hm rfl)).mono ?_;rintro v σ' ⟨rfl,rfl⟩;have hb:=Store.set_same σ q ((⟨l,at_,fin,none⟩:Rdr).words false).2.enc;have hres:wordsAt l at_ fin=match ((⟨l,at_,fin,none⟩:Rdr).words false).2.bad with | some b=>([],some b) | none=>(((⟨l,at_,fin,none⟩:Rdr).words false).1.1,none):=rfl
  generalize (⟨l,at_,fin,none⟩:Rdr).words false=o at hb hres ⊢;simp only[am];refine(ok_calls (Store.set_same _ _ _)).mono ?_;rintro v σ' ⟨rfl,rfl⟩;cases h:o.2.bad with
  | some b =>
    simp only[am,Rdr.ok,h,Option.isNone,Rdr.ex,Nat.reduceAdd];rw[h] at hres;refine retK_intro rfl (sub_set hq) ⟨?_,rfl⟩;simp[hres,V.erase,eraseL,fenc]
  | none =>
    simp only[am,Rdr.ok,h,Option.isNone];rw[h] at hres;refine retK_intro rfl (sub_set hq) ⟨?_,rfl⟩;simp[hres,V.erase,eraseL,fenc,badC,badA]
end Go.Proofs.Tryz

namespace Go.Proofs.Tryz
open Go.Am
set_option maxRecDepth 4000
set_option maxHeartbeats 4000000
end Go.Proofs.Tryz

namespace Go.Proofs.Tryz
open Go.Am
set_option maxRecDepth 4000
set_option maxHeartbeats 4000000
end Go.Proofs.Tryz

namespace Go.Proofs.Tryz
open Go.Am
set_option maxRecDepth 4000
set_option maxHeartbeats 4000000
def ac99:AC:=.seq (.reg [⟨(some 2),.mv (.c (.bool false)),none⟩])
 (.seq (.seq (.reg [xm 4 0,⟨(some 5),.binS .eql (.s 4) (.c (.str [])),none⟩,xm 6 5,xh 6 (xm 7 0),xh 6 (xT 8 7),xh 6 (xB .gtr 9 8 16),⟨(some 10),.pick (.s 6) (.c (.bool true)) (.s 9),none⟩,xm 11 10,xh 11 (xm 12 0),⟨(some 13),.idxS (.s 12) (.c (.int .i64 0)),(some (11,false))⟩,xh 11 (xc 153 14 [.s 13]),⟨(some 15),.not (.s 14),(some (11,false))⟩,⟨(some 16),.pick (.s 11) (.c (.bool true)) (.s 15),none⟩])
 (.cond (.s 16) (.seq (.reg [⟨(some 2),.mv (.c (.bool false)),none⟩])
 (.ret))
 (.skip)))
 (.seq (.seq (.reg [xm 17 0,xT 18 17,xi 19 0])
 (.block 0 (.loop (.seq (.reg [xb .lss 20 19 18])
 (.seq (.cond (.s 20) (.skip)
 (.exit 0))
 (.seq (.block 1 (.seq (.reg [xm 21 19,xm 3 21])
 (.seq (.reg [xm 22 0,xm 23 3,xS 24 22 23,xc 154 25 [.s 24],⟨(some 26),.not (.s 25),none⟩])
 (.cond (.s 26) (.seq (.reg [⟨(some 2),.mv (.c (.bool false)),none⟩])
 (.ret))
 (.skip)))))
 (.reg [xB .add 27 19 1,xm 19 27])))))))
 (.seq (.reg [⟨(some 2),.mv (.c (.bool true)),none⟩])
 (.ret))))
theorem fn99:IsFn prog 99 ac99 [.tmp 2] 28:=⟨f99,⟨[],[],[]⟩,func99,by kernel_rfl,by kernel_rfl,by kernel_rfl,by kernel_rfl⟩
def ac153:AC:=.seq (.reg [⟨(some 2),.mv (.c (.bool false)),none⟩])
 (.seq (.reg [xm 3 0,xu .geq 4 3 97,xm 5 4,xg 5 (xm 6 0),xg 5 (xu .leq 7 6 122),⟨(some 8),.pick (.s 5) (.s 7) (.c (.bool false)),none⟩,xm 2 8])
 (.ret))
theorem fn153:IsFn prog 153 ac153 [.tmp 2] 9:=⟨f153,⟨[],[],[]⟩,func153,by kernel_rfl,by kernel_rfl,by kernel_rfl,by kernel_rfl⟩
def ac154:AC:=.seq (.reg [⟨(some 2),.mv (.c (.bool false)),none⟩])
 (.seq (.reg [xm 3 0,xc 153 4 [.s 3],xm 5 4,xh 5 (xm 6 0),xh 5 (xu .geq 7 6 48),xh 5 (xm 8 7),xg 8 (xm 9 0),xg 8 (xu .leq 10 9 57),⟨(some 11),.pick (.s 8) (.s 10) (.c (.bool false)),(some (5,false))⟩,⟨(some 12),.pick (.s 5) (.c (.bool true)) (.s 11),none⟩,xm 13 12,xh 13 (xm 14 0),xh 13 (xu .eql 15 14 95),⟨(some 16),.pick (.s 13) (.c (.bool true)) (.s 15),none⟩,xm 2 16])
 (.ret))
theorem fn154:IsFn prog 154 ac154 [.tmp 2] 17:=⟨f154,⟨[],[],[]⟩,func154,by kernel_rfl,by kernel_rfl,by kernel_rfl,by kernel_rfl⟩
def z13_:=And.intro @am <| And.intro @amo <| And.intro @amc <| And.intro @encs_length <| And.intro @decide_true <| And.intro @decide_false <| And.intro @Tree.rec_ <| And.intro @Nd.rec_ <| And.intro @Word.rec_ @Got.rec_
theorem letter_calls (c:Int) (σ:Store):PCalls prog 153 [.int .u8 c] σ fun v σ' => v = .bool (letZ c)∧σ' = σ:=by
  refine fn153.calls ?_;simp only[slots,ac153,am,ams]
  repeat' (first
    | (refine gL_split (fun h=>?_) (fun h=>?_)<;>simp only[am,h])
    | (refine vcIf_split (fun h=>?_) (fun h=>?_)<;>simp only[z13_,h,Nat.reduceAdd,Nat.reduceEqDiff,List.length_map])
    | (refine pickL_split (fun h=>?_) (fun h=>?_)<;>simp only[z13_,h,Nat.reduceAdd,Nat.reduceEqDiff,List.length_map])
  )
  all_goals refine retS ?_
  all_goals simp_all [V.erase,letZ]
  all_goals (try omega)
theorem goes_calls (c:Int) (σ:Store):PCalls prog 154 [.int .u8 c] σ fun v σ' => v = .bool (goesZ c)∧σ' = σ:=by
  refine fn154.calls ?_;simp only[slots,ac154,am,ams];refine cl (letter_calls c σ) ?_;simp only[am]
  repeat' (first
    | (refine gL_split (fun h=>?_) (fun h=>?_)<;>simp only[am,h])
    | (refine vcIf_split (fun h=>?_) (fun h=>?_)<;>simp only[z13_,h,Nat.reduceAdd,Nat.reduceEqDiff,List.length_map])
    | (refine pickL_split (fun h=>?_) (fun h=>?_)<;>simp only[z13_,h,Nat.reduceAdd,Nat.reduceEqDiff,List.length_map])
  )
  all_goals refine retS ?_
  all_goals simp_all [V.erase,goesZ]
  all_goals (try omega)
theorem str_at {s:List UInt8} {i:Nat} (h:i<s.length):s[((i:Nat):Int).toNat]?=some s[i]:=by simp[h]
def inv70 (s:List UInt8) (σ:Store) (i:Nat):St :=
  ⟨[.str s]++List.replicate 17 .any++[.int .i64 s.length,.int .i64 (i:Nat)]++List.replicate 8 .any,[],σ⟩
theorem all_take_succ {s:List UInt8} {i:Nat} {f:UInt8→Bool} (h:i<s.length):(s.take (i+1)).all f=((s.take i).all f&&f s[i]):=by
  rw[take_succ_of (List.getElem?_eq_getElem h),List.all_append];simp only[List.all_cons,List.all_nil,Bool.and_true]
theorem nameR_loop {s:List UInt8} (h:s.length≤16) (h1:0<s.length):nameR s=(letB s[0]&&s.all goesB):=by
  cases s with
  | nil=>simp at h1
  | cons c r =>
    simp only[nameR,h,decide_true,Bool.true_and,List.getElem_cons_zero,List.all_cons];cases hc:letB c
    · simp
    · have:goesB c=true:=by simp only[letB] at hc;simp[goesB,goesZ,hc]
      simp[this]
theorem nright_calls (s:List UInt8) (σ:Store):PCalls prog 99 [.str s] σ fun v σ' => v = .bool (nameR s)∧σ' = σ:=by
  refine fn99.calls ?_;simp only[slots,ac99,am,ams]
  by_cases h0:s=[]
  · subst h0;simp only[am,decide_true];refine retS ?_;simp[V.erase,nameR]
  · have hpos:0<s.length:=by cases s with | nil=>exact absurd rfl h0 | cons _ _=>simp
    simp only[am,decide_false,h0]
    by_cases h16:s.length≤16
    · have e:decide ((16:Int)<s.length)=false:=by simp;omega
      simp only[am,e];refine idxSL_intro (by omega) (c:=s[0]) (by simp[hpos]) ?_;simp only[am];refine cl (letter_calls s[0].toNat σ) ?_;have hl:nameR s=(letB s[0]&&s.all goesB):=nameR_loop h16 hpos;cases hb:letZ (s[0].toNat:Nat)
      · have hb' : letB s[0]=false:=hb;simp only[am];refine retS ?_;simp[V.erase,hl,hb']
      · have hb' : letB s[0]=true:=hb;simp only[am];refine vc_loop (fun p:{i:Nat // i≤s.length∧(s.take i).all goesB=true}=>inv70 s σ p.1) (fun p=>s.length - p.1) ?_ ?_
        · refine Upd.enter ⟨0,by simp,by simp⟩ ?_ LLLe.rfl OLe.rfl;simp[inv70,List.replicate,am]
        · rintro⟨i,hi,ha⟩;simp only[inv70,List.replicate,am];refine vcIf_split ?_ ?_
          · intro hlt;have hlt:i<s.length:=by simpa using hlt
            simp only[am];refine idxSL_intro (by omega) (str_at hlt) ?_;simp only[am];refine cl (goes_calls s[i].toNat σ) ?_;cases hg:goesZ (s[i].toNat:Nat)
            · have hg' : goesB s[i]=false:=hg;simp only[am];refine retK_intro rfl (Store.sub_refl _) ⟨?_,rfl⟩
              have:s.all goesB=false:=by
                rw[List.all_eq_false];exact⟨s[i],List.getElem_mem hlt,by simp[hg']⟩
              simp[V.erase,hl,this]
            · simp only[am];rw[wrap_i64 (by omega) (by omega)];refine Upd.again ⟨i+1,by omega,?_⟩ (by simp;omega) (by simp[am]) LLLe.rfl OLe.rfl;rw[all_take_succ hlt,ha];exact hg
          · intro hlt;have hlt:i=s.length:=by simp at hlt;omega
            subst hlt;rw[List.take_length] at ha;simp only[am];refine retS ?_;simp[V.erase,hl,hb',ha]
    · have e:decide ((16:Int)<s.length)=true:=by simp;omega
      simp only[am,e];refine retS ?_;simp[V.erase,nameR,h16]
end Go.Proofs.Tryz

namespace Go.Proofs.Tryz
open Go.Am
set_option maxRecDepth 4000
set_option maxHeartbeats 4000000
def ac93:AC:=.seq (.reg [xi 6 0])
 (.seq (.seq (.reg [xm 8 0,xm 7 8])
 (.block 0 (.loop (.seq (.seq (.reg [xm 9 7,xm 10 1,xb .lss 11 9 10])
 (.cond (.s 11) (.skip)
 (.exit 0)))
 (.seq (.block 1 (.seq (.reg [xm 14 2,xm 15 7,⟨(some 16),.callv (.s 14) [(.s 15)],none⟩])
 (.cond (.s 16) (.seq (.reg [xm 17 7,xm 6 17])
 (.ret))
 (.skip))))
 (.reg [xm 12 7,xB .add 13 12 1,xm 7 13]))))))
 (.seq (.reg [xi 6 (-1)])
 (.ret)))
theorem fn93:IsFn prog 93 ac93 [.tmp 6] 18:=⟨f93,⟨[],[],[]⟩,func93,by kernel_rfl,by kernel_rfl,by kernel_rfl,by kernel_rfl⟩
def ac112:AC:=.seq (.reg [⟨(some 2),.boxO 1 (.s 0),none⟩,⟨(some 3),.boxO 1 (.s 1),none⟩,xi 4 0])
 (.seq (.reg [xo 5 2,xL 6 5,⟨(some 7),.mkfn (.func 160) [] [(.s 2),(.s 3)],none⟩,xc 93 8 [.c (.int .i64 0),.s 6,.s 7],xm 4 8])
 (.ret))
theorem fn112:IsFn prog 112 ac112 [.tmp 4] 9:=⟨f112,⟨[2,3],[],[]⟩,func112,by kernel_rfl,by kernel_rfl,by kernel_rfl,by kernel_rfl⟩
def ac160:AC:=.seq (.reg [⟨(some 4),.mv (.c (.bool false)),none⟩])
 (.seq (.draw [(xo 5 1,[]),(xm 6 0,[]),(xA 1 7 5 6,[]),(xo 8 7,[]),(xo 9 2,[]),(⟨(some 10),.binS .eql (.s 8) (.s 9),none⟩,[]),(xm 4 10,[])])
 (.ret))
theorem fn160:IsFn prog 160 ac160 [.tmp 4] 11:=⟨f160,⟨[],[],[]⟩,func160,by kernel_rfl,by kernel_rfl,by kernel_rfl,by kernel_rfl⟩
def ac255:AC:=.seq (.reg [⟨(some 2),.mv (.c (.bool false)),none⟩])
 (.seq (.seq (.reg [xm 5 0,xL 6 5,xB .lss 7 6 1,xm 8 7,xh 8 (xm 9 0),xh 8 (xL 10 9),xh 8 (xB .gtr 11 10 64),⟨(some 12),.pick (.s 8) (.c (.bool true)) (.s 11),none⟩,xm 13 12,xh 13 (xm 14 0),xh 13 (xc 270 15 [.s 14]),xh 13 (xB .geq 16 15 0),⟨(some 17),.pick (.s 13) (.c (.bool true)) (.s 16),none⟩])
 (.cond (.s 17) (.seq (.reg [⟨(some 2),.mv (.c (.bool false)),none⟩])
 (.ret))
 (.skip)))
 (.seq (.seq (.reg [xm 18 0,xL 19 18,xi 20 0])
 (.block 0 (.loop (.seq (.reg [xb .lss 21 20 19])
 (.seq (.cond (.s 21) (.skip)
 (.exit 0))
 (.seq (.block 1 (.seq (.reg [xA 1 22 18 20,xo 23 22,xm 4 23])
 (.seq (.reg [xm 24 4,xc 99 25 [.s 24],⟨(some 26),.not (.s 25),none⟩])
 (.cond (.s 26) (.seq (.reg [⟨(some 2),.mv (.c (.bool false)),none⟩])
 (.ret))
 (.skip)))))
 (.reg [xB .add 27 20 1,xm 20 27])))))))
 (.seq (.reg [⟨(some 2),.mv (.c (.bool true)),none⟩])
 (.ret))))
theorem fn255:IsFn prog 255 ac255 [.tmp 2] 28:=⟨f255,⟨[],[],[]⟩,func255,by kernel_rfl,by kernel_rfl,by kernel_rfl,by kernel_rfl⟩
def ac270:AC:=.seq (.reg [⟨(some 1),.boxO 1 (.s 0),none⟩,xi 2 0])
 (.seq (.reg [xo 3 1,xL 4 3,⟨(some 5),.mkfn (.func 279) [] [(.s 1)],none⟩,xc 93 6 [.c (.int .i64 0),.s 4,.s 5],xm 2 6])
 (.ret))
theorem fn270:IsFn prog 270 ac270 [.tmp 2] 7:=⟨f270,⟨[1],[],[]⟩,func270,by kernel_rfl,by kernel_rfl,by kernel_rfl,by kernel_rfl⟩
def ac279:AC:=.seq (.reg [⟨(some 3),.mv (.c (.bool false)),none⟩])
 (.seq (.draw [(xo 4 1,[]),(xm 5 0,[]),(⟨(some 6),.slc 1 (.s 4) none (some (.s 5)) none,none⟩,[]),(xo 7 1,[]),(xm 8 0,[]),(xA 1 9 7 8,[]),(xo 10 9,[]),(xc 112 11 [.s 6,.s 10],[]),(xB .geq 12 11 0,[]),(xm 3 12,[])])
 (.ret))
theorem fn279:IsFn prog 279 ac279 [.tmp 3] 13:=⟨f279,⟨[],[],[]⟩,func279,by kernel_rfl,by kernel_rfl,by kernel_rfl,by kernel_rfl⟩
theorem place_calls (n:Nat) (hn:n≤100000) (f:FuncId) (cap:List V) (hc:nolL cap=true) (p:Nat→Bool) (σ:Store) (h:∀i,i<n→PCalls prog f (.int .i64 (i:Nat)::cap) σ fun v σ' => v = .bool (p i)∧σ' = σ) :
    PCalls prog 93 [.int .i64 0,.int .i64 (n:Nat),.fn (.func f) [] cap] σ fun v σ' => v = .int .i64 (optI ((List.range n).find? p))∧σ' = σ:=by
  refine fn93.calls ?_;simp only[slots,ac93,am,ams,Nat.reduceAdd];obtain⟨F,hF⟩:∃F:Nat→Unit→St,∀i x,F i x=⟨[.any,.int .i64 (n:Nat),.fn (.func f) [] cap,.any,.any,.any,.any,.int .i64 (i:Nat)]++List.replicate 10 .any,[],σ⟩:=⟨_,fun _ _=>rfl⟩;obtain⟨JF,hJF⟩:∃JF:Nat→Unit→Prop,∀i x,JF i x=(∀k,k<i→p k=false):=⟨_,fun _ _=>rfl⟩;refine vc_count (n) F JF _ hJF ?_ ?_ ?_
  · refine ent (()) ?_ ?_ ?_ ?_
    · exact Eq.mpr (hJF _ _) (by intro k h;omega)
    all_goals simp[hF,List.replicate,am,lle_self]
  · rintro i x hi hJ;simp only[hF,List.replicate,am,dlt hi,hc];refine(h i hi).mono ?_;rintro v σ' ⟨rfl,rfl⟩;cases hb:p i with
    | false =>
      simp only[am,aml,winc hi (by omega)];refine nxt (()) hi ?_ ?_ ?_ ?_
      · exact Eq.mpr (hJF _ _) (allS hJ hb)
      all_goals simp[hF,List.replicate,am,lle_self]
    | true =>
      have e:=find_at hi hJ hb;simp only[am,aml];refine retS ?_;simp[V.erase,e,optI]
  · rintro x hJ;have e:=find_no hJ;simp only[hF,List.replicate,am,aml,dnl,aml];refine retS ?_;simp[V.erase,e,optI]
theorem find1_calls (l:List (List UInt8)) (s:List UInt8) (i b1 b2:Nat) {σ:Store} (hi:i<l.length) (h1:σ.box b1=some [.sl .no 1 (sCells l)]) (h2:σ.box b2=some [.str s]) :
    PCalls prog 160 [.int .i64 (i:Nat),.ptr (.out b1) 0,.ptr (.out b2) 0] σ fun v σ' => v = .bool (decide (l.getD i []=s))∧σ' = σ:=by
  refine fn160.calls ?_;simp only[slots,ac160,am,ams,Nat.reduceAdd];simp only[am,h1];refine idxL_intro (by omega) (sCells_at hi) ?_;simp only[am,h2];refine retS ?_;simp[V.erase]
theorem find_calls (l:List (List UInt8)) (s:List UInt8) (σ:Store) (hl:l.length≤100000):PCalls prog 112 [.sl .no 1 (sCells l),.str s] σ fun v σ' => v = .int .i64 (optI (findS l s))∧σ' = σ:=by
  refine fn112.calls ?_;simp only[slots,ac112,am,ams,Nat.reduceAdd];refine kO_intro fun b1 hb1=>?_
  simp only[am];refine kO_intro fun b2 hb2=>?_
  have hne:b1≠b2:=by rintro rfl;rw[set_box] at hb2;simp at hb2
  have hs:=Store.subT (sub_set (cs:=[.sl .no 1 (sCells l)]) hb1) (sub_set (cs:=[.str s]) hb2);have e1:((σ.set b1 [.sl .no 1 (sCells l)]).set b2 [.str s]).box b1=some [.sl .no 1 (sCells l)]:=by rw[set_box_ne hne,set_box]
  generalize hσ:(σ.set b1 [V.sl .no 1 (sCells l)]).set b2 [V.str s]=σ1 at hs e1;have e2:σ1.box b2=some [.str s]:=by rw[←hσ,set_box]
  simp only[am,sCells_len,e1];refine(place_calls l.length hl _ _ rfl (fun i=>decide (l.getD i []=s)) σ1 fun i hi=>find1_calls l s i b1 b2 hi e1 e2).mono ?_;rintro v σ1 ⟨rfl,rfl⟩;simp only[am];exact retK_intro rfl hs ⟨rfl,rfl⟩
theorem twice1_calls (l:List (List UInt8)) (i b1:Nat) {σ:Store} (hl:l.length≤100000) (hi:i<l.length) (h1:σ.box b1=some [.sl .no 1 (sCells l)]) :
    PCalls prog 279 [.int .i64 (i:Nat),.ptr (.out b1) 0] σ fun v σ' => v = .bool (findS (l.take i) (l.getD i [])).isSome∧σ' = σ:=by
  refine fn279.calls ?_;simp only[slots,ac279,am,ams,Nat.reduceAdd];simp only[am,amc,h1];refine slcL_to (b:=i) (by rw[sCells_len];omega) ?_;simp only[am,h1];refine idxL_intro (by omega) (sCells_at hi) ?_;rw[sCells_take];simp only[am];refine CallD.intro (find_calls (l.take i) (l.getD i []) σ (by rw[List.length_take];omega)) ?_;simp only[am,optI_nn];refine retS ?_;simp[V.erase]
theorem twice_calls (l:List (List UInt8)) (σ:Store) (hl:l.length≤100000):PCalls prog 270 [.sl .no 1 (sCells l)] σ fun v σ' => v = .int .i64 (optI (twiceS l))∧σ' = σ:=by
  refine fn270.calls ?_;simp only[slots,ac270,am,ams];refine kO_intro fun b1 hb1=>?_
  simp only[am,sCells_len];refine(place_calls l.length hl _ _ rfl (fun i=>(findS (l.take i) (l.getD i [])).isSome) _ fun i hi=>twice1_calls l i b1 hl hi set_box).mono ?_;rintro v σ1 ⟨rfl,rfl⟩;simp only[am];exact retK_intro rfl (sub_set hb1) ⟨rfl,rfl⟩
theorem named_calls (l:List (List UInt8)) (σ:Store) (hl:l.length≤100000):PCalls prog 255 [.sl .no 1 (sCells l)] σ fun v σ' => v = .bool (namedS l)∧σ' = σ:=by
  refine fn255.calls ?_;simp only[slots,ac255,am,ams,sCells_len]
  by_cases h1:l.length<1
  · simp only[am,decide_eq_true (show (l.length:Int)<1 by omega)];refine retS ?_;simp[V.erase,namedS];omega
  · simp only[am,sCells_len,decide_eq_false (show ¬(l.length:Int)<1 by omega)]
    by_cases h2:64<l.length
    · simp only[am,decide_eq_true (show (64:Int)<l.length by omega)];refine retS ?_;simp[V.erase,namedS];omega
    · simp only[am,decide_eq_false (show ¬(64:Int)<l.length by omega)];refine cl (twice_calls l σ hl) ?_;simp only[am,optI_nn];cases ht:twiceS l with
      | some k =>
        simp only[am,Option.isSome_some];refine retS ?_;simp[V.erase,namedS,ht]
      | none =>
        simp only[am,sCells_len,Option.isSome_none];obtain⟨F,hF⟩:∃F:Nat→Unit→St,∀i x,F i x=⟨[.any,.any,.any,.any,.any,.any,.any,.any,.any,.any,.any,.any,.any,.any,.any,.any,.any,.any,.sl .no 1 (sCells l),.int .i64 (l.length:Nat),.int .i64 (i:Nat)]++List.replicate 7 .any,[],σ⟩:=⟨_,fun _ _=>rfl⟩;obtain⟨JF,hJF⟩:∃JF:Nat→Unit→Prop,∀i x,JF i x=(∀k,k<i→nameR (l.getD k [])=true):=⟨_,fun _ _=>rfl⟩;refine vc_count (l.length) F JF _ hJF ?_ ?_ ?_
        · refine ent (()) ?_ ?_ ?_ ?_
          · exact Eq.mpr (hJF _ _) (by intro k h;omega)
          all_goals simp[hF,List.replicate,am,lle_self]
        · rintro i x hi hJ;simp only[hF,List.replicate,am,dlt hi];refine idxL_intro (by omega) (sCells_at hi) ?_;simp only[am];refine cl (nright_calls _ σ) ?_;simp only[am];cases hb:nameR (l.getD i []) with
          | false =>
            have e:namedS l=false:=by
              cases hq:namedS l with
              | false=>rfl
              | true =>
                simp only[namedS,Bool.and_eq_true,List.all_eq_true] at hq;have hm:l.getD i []∈l:=by rw[getD_at hi];exact List.getElem_mem hi
                rw[hq.2 _ hm] at hb;simp at hb
            simp only[am,aml];refine retS ?_;simp[V.erase,e]
          | true =>
            simp only[am,aml,winc hi (by omega)];refine nxt (()) hi ?_ ?_ ?_ ?_
            · exact Eq.mpr (hJF _ _) (allS hJ hb)
            all_goals simp[hF,List.replicate,am,lle_self]
        · rintro x hJ;have e:namedS l=true:=by
            simp only[namedS,ht,Bool.and_eq_true,List.all_eq_true,decide_eq_true_eq,Option.isNone_none,and_true];refine⟨by omega,fun s hs=>?_⟩;obtain⟨k,hk,rfl⟩:=List.mem_iff_getElem.1 hs
            have:=hJ k hk
            rwa [getD_at hk] at this
          simp only[hF,List.replicate,am,aml,dnl,aml];refine retS ?_;simp[V.erase,e]
end Go.Proofs.Tryz

namespace Go.Proofs.Tryz
open Go.Am
set_option maxRecDepth 4000
set_option maxHeartbeats 4000000
def ac176:AC:=.seq (.reg [⟨(some 1),.box 2 (.s 0),none⟩,⟨(some 2),.mv (.c (.bool false)),none⟩])
 (.seq (.reg [xf 1 6 1,xo 7 6,xL 8 7,xm 3 8])
 (.seq (.seq (.reg [xm 9 3,xB .lss 10 9 1,xm 11 10,xh 11 (xm 12 3),xh 11 (xB .gtr 13 12 8),⟨(some 14),.pick (.s 11) (.c (.bool true)) (.s 13),none⟩,xm 15 14,xh 15 (xf 0 16 1),xh 15 (xo 17 16),⟨(some 18),.not (.s 17),(some (15,false))⟩,xh 15 (xm 19 18),xg 19 (xm 20 3),xg 19 (xB .neq 21 20 1),⟨(some 22),.pick (.s 19) (.s 21) (.c (.bool false)),(some (15,false))⟩,⟨(some 23),.pick (.s 15) (.c (.bool true)) (.s 22),none⟩])
 (.cond (.s 23) (.seq (.reg [⟨(some 2),.mv (.c (.bool false)),none⟩])
 (.ret))
 (.skip)))
 (.seq (.seq (.reg [xf 1 24 1,xo 25 24,xL 26 25,xi 27 0])
 (.block 0 (.loop (.seq (.reg [xb .lss 28 27 26])
 (.seq (.cond (.s 28) (.skip)
 (.exit 0))
 (.seq (.block 1 (.seq (.reg [xA 67 29 25 27,xl 67 30 29,⟨(some 5),.alloc facZ,none⟩,xs 67 5 30])
 (.seq (.reg [xl 67 31 5,xc 228 32 [.s 31],⟨(some 33),.not (.s 32),none⟩])
 (.cond (.s 33) (.seq (.reg [⟨(some 2),.mv (.c (.bool false)),none⟩])
 (.ret))
 (.skip)))))
 (.reg [xB .add 34 27 1,xm 27 34])))))))
 (.seq (.reg [⟨(some 2),.mv (.c (.bool true)),none⟩])
 (.ret)))))
theorem fn176:IsFn prog 176 ac176 [.tmp 2] 35:=⟨f176,⟨[],[],[]⟩,func176,by kernel_rfl,by kernel_rfl,by kernel_rfl,by kernel_rfl⟩
def ac228:AC:=.seq (.reg [⟨(some 1),.box 67 (.s 0),none⟩,⟨(some 2),.mv (.c (.bool false)),none⟩])
 (.seq (.seq (.reg [xf 1 3 1,xo 4 3,xc 255 5 [.s 4],⟨(some 6),.not (.s 5),none⟩])
 (.cond (.s 6) (.seq (.reg [⟨(some 2),.mv (.c (.bool false)),none⟩])
 (.ret))
 (.skip)))
 (.seq (.seq (.reg [xf 0 7 1,xo 8 7])
 (.block 0 (.seq (.seq (.reg [xB .eql 10 8 1,xm 9 10])
 (.cond (.s 9) (.skip)
 (.reg [xB .eql 11 8 2,xm 9 11])))
 (.cond (.s 9) (.seq (.reg [xf 2 12 1,xl 65 13 12,⟨(some 14),.build relZ [],none⟩,xc 256 15 [.s 13,.s 14],xm 2 15])
 (.ret))
 (.seq (.reg [xB .eql 17 8 3,xm 16 17])
 (.cond (.s 16) (.seq (.reg [xf 2 18 1,xf 0 19 18,xo 20 19,xf 1 21 1,xo 22 21,xL 23 22,xb .eql 24 20 23,xm 25 24,xg 25 (xf 2 26 1),xg 25 (xl 65 27 26),xg 25 (xc 257 28 [.s 27]),⟨(some 29),.pick (.s 25) (.s 28) (.c (.bool false)),none⟩,xm 2 29])
 (.ret))
 (.seq (.reg [xB .eql 31 8 4,xm 30 31])
 (.cond (.s 30) (.seq (.reg [xf 2 32 1,xf 0 33 32,xo 34 33,xf 1 35 1,xo 36 35,xL 37 36,xb .eql 38 34 37,xm 39 38,xg 39 (xf 2 40 1),xg 39 (xl 65 41 40),xg 39 (xc 114 42 [.s 41]),⟨(some 43),.pick (.s 39) (.s 42) (.c (.bool false)),none⟩,xm 2 43])
 (.ret))
 (.skip)))))))))
 (.seq (.reg [⟨(some 2),.mv (.c (.bool false)),none⟩])
 (.ret))))
theorem fn228:IsFn prog 228 ac228 [.tmp 2] 44:=⟨f228,⟨[],[],[]⟩,func228,by kernel_rfl,by kernel_rfl,by kernel_rfl,by kernel_rfl⟩
def z14_:=And.intro @am <| And.intro @ams <| And.intro @Rl.rec_ @Fct.rec_
theorem factor_calls (f:Fct) {σ:Store} (hg:TZ σ) (hl:f.names.length≤100000):PCalls prog 228 [.agg f.enc] σ fun v σ' => v = .bool (facR f)∧σ' = σ:=by
  refine fn228.calls ?_;simp only[slots,ac228,z14_];refine cl (named_calls f.names σ hl) ?_;cases hn:namedS f.names with
  | false =>
    simp only[am];refine retS ?_;simp[V.erase,facR,hn]
  | true =>
    simp only[am,Fct.rec_]
    by_cases h1:f.kind=1
    · simp only[am,Rl.rec_,Fct.rec_,decide_eq_true h1];refine cl (same_calls f.rel Rl.zero σ) ?_;simp only[am,plain_zero];refine retS ?_;simp[V.erase,facR,hn,h1]
    · simp only[am,decide_eq_false h1]
      by_cases h2:f.kind=2
      · simp only[am,Rl.rec_,Fct.rec_,decide_eq_true h2];refine cl (same_calls f.rel Rl.zero σ) ?_;simp only[am,plain_zero];refine retS ?_;simp[V.erase,facR,hn,h2]
      · simp only[am,decide_eq_false h2]
        by_cases h3:f.kind=3
        · simp only[am,Fct.rec_,sCells_len,decide_eq_true h3]
          by_cases h4:f.rel.n=f.names.length
          · simp only[am,Rl.rec_,Fct.rec_,decide_eq_true h4];refine cl (gright_calls f.rel σ) ?_;simp only[am];refine retS ?_;simp[V.erase,facR,hn,h3,h4]
          · simp only[am,decide_eq_false h4];refine retS ?_;simp[V.erase,facR,hn,h3,h4]
        · simp only[am,decide_eq_false h3]
          by_cases h5:f.kind=4
          · simp only[am,Fct.rec_,sCells_len,decide_eq_true h5]
            by_cases h4:f.rel.n=f.names.length
            · simp only[am,Rl.rec_,Fct.rec_,decide_eq_true h4];refine cl (lattice_calls f.rel hg) ?_;simp only[am];refine retS ?_;simp[V.erase,facR,hn,h5,h4]
            · simp only[am,decide_eq_false h4];refine retS ?_;simp[V.erase,facR,hn,h5,h4]
          · simp only[am,decide_eq_false h5];refine retS ?_;simp[V.erase,facR,hn,h1,h2,h3,h5]
theorem facs_at {l:List Fct} {j:Nat} (h:j<l.length):(l.map Fct.enc)[((j:Nat):Int).toNat]?=some l[j].enc:=by simp[h]
theorem shpR_bad {s:Shp} {i:Nat} (hi:i<s.facs.length) (h:facR s.facs[i]=false):shpR s=false:=by
  cases hq:shpR s with
  | false=>rfl
  | true =>
    simp only[shpR,Bool.and_eq_true,List.all_eq_true] at hq;rw[hq.2 _ (List.getElem_mem hi)] at h;simp at h
theorem shpR_ok {s:Shp} (h1:1≤s.facs.length) (h2:s.facs.length≤8) (h3:s.tuple=true∨s.facs.length=1) (h:∀k (hk:k<s.facs.length),facR s.facs[k]=true):shpR s=true:=by
  simp only[shpR,Bool.and_eq_true,List.all_eq_true,decide_eq_true_eq,Bool.or_eq_true];refine⟨⟨⟨h1,h2⟩,h3⟩,fun f hf=>?_⟩;obtain⟨k,hk,rfl⟩:=List.mem_iff_getElem.1 hf;exact h k hk
theorem shright_calls (s:Shp) {σ:Store} (hg:TZ σ) (hok:s.ok):PCalls prog 176 [.agg s.enc] σ fun v σ' => v = .bool (shpR s)∧σ' = σ:=by
  refine fn176.calls ?_;simp only[slots,ac176,am,ams,Shp.rec_,List.length_map]
  by_cases h1:s.facs.length<1
  · simp only[am,decide_eq_true (show (s.facs.length:Int)<1 by omega)];refine retS ?_;simp[V.erase,shpR];omega
  · simp only[am,decide_eq_false (show ¬(s.facs.length:Int)<1 by omega)]
    by_cases h2:8<s.facs.length
    · simp only[am,decide_eq_true (show (8:Int)<s.facs.length by omega)];refine retS ?_;simp[V.erase,shpR];omega
    · simp only[am,Shp.rec_,decide_eq_false (show ¬(8:Int)<s.facs.length by omega)];have h3:(∃t,s.tuple=t∧(t=true∨s.facs.length=1))∨(s.tuple=false∧s.facs.length≠1):=by
        cases ht:s.tuple with
        | true=>exact .inl ⟨true,rfl,.inl rfl⟩
        | false =>
          by_cases hl:s.facs.length=1
          · exact .inl ⟨false,rfl,.inr hl⟩
          · exact .inr ⟨rfl,hl⟩
      rcases h3 with ⟨t,ht,h3⟩ | ⟨ht,h3⟩
      · cases t
        case' false =>
          have h3:s.facs.length=1:=by simpa using h3
          simp only[am,List.length_map,Shp.rec_,List.length_map,ht,decide_eq_true (show (s.facs.length:Int)=1 by omega)]
        case' true=>simp only[am,List.length_map,Shp.rec_,List.length_map,ht]
        all_goals
          obtain⟨F,hF⟩:∃F:Nat→Unit→St,∀i x,F i x=⟨[.any,.ptr (.loc 0) 0,.bool false,.any,.any,.any,.any,.any,.any,.any,.any,.any,.any,.any,.any,.any,.any,.any,.any,.any,.any,.any,.any,.any,.any,.sl .no 67 (s.facs.map Fct.enc),.int .i64 (s.facs.length:Nat),.int .i64 (i:Nat)]++List.replicate 7 .any,[s.enc],σ⟩:=⟨_,fun _ _=>rfl⟩;obtain⟨JF,hJF⟩:∃JF:Nat→Unit→Prop,∀i x,JF i x=(∀k,k<i→∀hk:k<s.facs.length,facR s.facs[k]=true):=⟨_,fun _ _=>rfl⟩;refine vc_count (s.facs.length) F JF _ hJF ?_ ?_ ?_
          · refine ent (()) ?_ ?_ ?_ ?_
            · exact Eq.mpr (hJF _ _) (by intro k h;omega)
            all_goals simp[hF,List.replicate,am,lle_self]
          · rintro i x hi hJ;simp only[hF,List.replicate,am,dlt hi];refine idxL_intro (by omega) (facs_at hi) ?_;simp only[am,Fct.rec_];refine cl (factor_calls s.facs[i] hg (hok.2 _ (List.getElem_mem hi))) ?_;cases hb:facR s.facs[i] with
            | false =>
              simp only[am,aml];refine retS ?_;simp[V.erase,shpR_bad hi hb]
            | true =>
              simp only[am,aml,winc hi (by omega)];refine nxtD (()) hi ?_ ?_ ?_ ?_ ?_ ?_
              · exact Eq.mpr (hJF _ _) (allS hJ (fun _=>hb))
              all_goals simp[hF,List.replicate,am,lle_self,loL,loLL,V.lo,Shp.r_lo]
          · rintro x hJ;have e:=shpR_ok (s:=s) (by omega) (by omega) (by first | exact .inr h3 | exact .inl ht) fun k hk=>hJ k hk hk
            simp only[hF,List.replicate,am,aml,dnl,aml];refine retS ?_;simp[V.erase,e]
      · have e:shpR s=false:=by simp[shpR,ht,h3]
        simp only[am,ht,decide_eq_false (show ¬(s.facs.length:Int)=1 by omega)];refine retS ?_;simp[V.erase,e]
end Go.Proofs.Tryz

namespace Go.Proofs.Tryz
open Go.Am
set_option maxRecDepth 4000
set_option maxHeartbeats 4000000
end Go.Proofs.Tryz

namespace Go.Proofs.Tryz
open Go.Am
set_option maxRecDepth 4000
set_option maxHeartbeats 4000000
theorem runR_at {s:List UInt8} {a n:Nat} (h:((s.drop a).take n).all goesB=true) (hn:a+n≤s.length) (he:∀hl:a+n<s.length,goesB s[a+n]=false):(runR (s.drop a)).length=n:=by
  have key:∀(r:List UInt8) (n:Nat),(r.take n).all goesB=true→n≤r.length→(∀hl:n<r.length,goesB r[n]=false)→(runR r).length=n:=by
    intro r;induction r with
    | nil=>intro n _ h2 _;simp at h2;subst h2;rfl
    | cons c r ih =>
      intro n h1 h2 h3;cases n with
      | zero=>have:=h3 (by simp);simp at this;simp[runR,this]
      | succ n =>
        simp only[List.take_succ_cons,List.all_cons,Bool.and_eq_true] at h1
        have:=ih n h1.2 (by simpa using h2) (fun hl=>h3 (Nat.succ_lt_succ hl))
        simp only[runR] at this;simp[runR,h1.1,this]
  refine key _ _ h (by simp;omega) fun hl=>?_
  have hl' : a+n<s.length:=by simp at hl;omega
  have:=he hl'
  simpa using this
end Go.Proofs.Tryz

namespace Go.Proofs.Tryz
open Go.Am
set_option maxRecDepth 4000
set_option maxHeartbeats 4000000
theorem Tok.wd {t:Tok}:t.enc.length=3:=rfl
theorem drop_cons {s:List UInt8} {a:Nat} (h:a<s.length):s.drop a=s[a]::s.drop (a+1):=List.drop_eq_getElem_cons h
end Go.Proofs.Tryz

namespace Go.Proofs.Tryz
open Go.Am
set_option maxRecDepth 4000
set_option maxHeartbeats 4000000
theorem tencs_at {l:List Tok} {j:Nat} (h:j<l.length):(l.map Tok.enc)[((j:Nat):Int).toNat]?=some (tokN l j).enc:=by simp[tokN,h]
end Go.Proofs.Tryz

namespace Go.Proofs.Tryz
open Go.Am
set_option maxRecDepth 4000
set_option maxHeartbeats 4000000
end Go.Proofs.Tryz

namespace Go.Proofs.Tryz
open Go.Am
set_option maxRecDepth 4000
set_option maxHeartbeats 4000000
def ac40:AC:=.seq (.reg [⟨(some 1),.box 5 (.s 0),none⟩,⟨(some 2),.mv (.c (.str [])),none⟩])
 (.seq (.seq (.reg [xf 0 3 1,xo 4 3])
 (.block 0 (.seq (.seq (.reg [xB .eql 6 4 1,xm 5 6])
 (.cond (.s 5) (.skip)
 (.reg [xB .eql 7 4 2,xm 5 7])))
 (.cond (.s 5) (.seq (.reg [xf 2 8 1,xo 9 8,xm 2 9])
 (.ret))
 (.seq (.reg [xB .eql 11 4 3,xm 10 11])
 (.cond (.s 10) (.seq (.reg [xl 5 12 1,xc 89 13 [.s 12],⟨(some 14),.cat (.c (.str [123])) (.s 13),none⟩,⟨(some 15),.cat (.s 14) (.c (.str [125])),none⟩,xm 2 15])
 (.ret))
 (.seq (.reg [xB .eql 17 4 4,xm 16 17])
 (.cond (.s 16) (.seq (.reg [xl 5 18 1,xc 90 19 [.s 18],⟨(some 20),.cat (.c (.str [40])) (.s 19),none⟩,⟨(some 21),.cat (.s 20) (.c (.str [41])),none⟩,xm 2 21])
 (.ret))
 (.seq (.reg [xB .eql 23 4 5,xm 22 23])
 (.cond (.s 22) (.seq (.reg [xl 5 24 1,xc 90 25 [.s 24],⟨(some 26),.cat (.c (.str [91])) (.s 25),none⟩,⟨(some 27),.cat (.s 26) (.c (.str [93])),none⟩,xm 2 27])
 (.ret))
 (.seq (.reg [xB .eql 29 4 6,xm 28 29])
 (.cond (.s 28) (.seq (.draw [(xf 2 30 1,[]),(xo 31 30,[1]),(⟨(some 32),.cat (.s 31) (.c (.str [58,123])),none⟩,[]),(xl 5 33 1,[]),(xc 89 34 [.s 33],[]),(⟨(some 35),.cat (.s 32) (.s 34),none⟩,[]),(⟨(some 36),.cat (.s 35) (.c (.str [125])),none⟩,[]),(xm 2 36,[])])
 (.ret))
 (.seq (.reg [xB .eql 38 4 7,xm 37 38])
 (.cond (.s 37) (.seq (.reg [xl 5 39 1,xc 91 40 [.s 39],⟨(some 41),.cat (.c (.str [35])) (.s 40),none⟩,xm 2 41])
 (.ret))
 (.seq (.reg [xB .eql 43 4 8,xm 42 43])
 (.cond (.s 42) (.seq (.reg [xl 5 44 1,xc 90 45 [.s 44],⟨(some 46),.cat (.c (.str [43,40])) (.s 45),none⟩,⟨(some 47),.cat (.s 46) (.c (.str [41])),none⟩,xm 2 47])
 (.ret))
 (.seq (.reg [xB .eql 49 4 9,xm 48 49])
 (.cond (.s 48) (.seq (.reg [xl 5 50 1,xc 90 51 [.s 50],⟨(some 52),.cat (.c (.str [38,40])) (.s 51),none⟩,⟨(some 53),.cat (.s 52) (.c (.str [41])),none⟩,xm 2 53])
 (.ret))
 (.seq (.reg [xB .eql 55 4 10,xm 54 55])
 (.cond (.s 54) (.seq (.reg [xl 5 56 1,xc 92 57 [.s 56],xm 2 57])
 (.ret))
 (.seq (.reg [xB .eql 59 4 11,xm 58 59])
 (.cond (.s 58) (.seq (.draw [(xf 2 60 1,[]),(xo 61 60,[1]),(⟨(some 62),.cat (.s 61) (.c (.str [61])),none⟩,[]),(xl 5 63 1,[]),(xc 91 64 [.s 63],[]),(⟨(some 65),.cat (.s 62) (.s 64),none⟩,[]),(xm 2 65,[])])
 (.ret))
 (.skip)))))))))))))))))))))))
 (.seq (.reg [⟨(some 2),.mv (.c (.str [])),none⟩])
 (.ret)))
theorem fn40:IsFn prog 40 ac40 [.tmp 2] 66:=⟨f40,⟨[],[],[]⟩,func40,by kernel_rfl,by kernel_rfl,by kernel_rfl,by kernel_rfl⟩
def ac89:AC:=.seq (.reg [⟨(some 1),.boxO 5 (.s 0),none⟩,⟨(some 2),.mv (.c (.str [])),none⟩])
 (.seq (.reg [xf 3 3 1,xo 4 3,xL 5 4,⟨(some 6),.mkfn (.func 151) [] [(.s 1)],none⟩,xc 150 7 [.s 5,.s 6],xm 2 7])
 (.ret))
theorem fn89:IsFn prog 89 ac89 [.tmp 2] 8:=⟨f89,⟨[1],[],[]⟩,func89,by kernel_rfl,by kernel_rfl,by kernel_rfl,by kernel_rfl⟩
def ac90:AC:=.seq (.reg [⟨(some 1),.boxO 5 (.s 0),none⟩,⟨(some 2),.mv (.c (.str [])),none⟩])
 (.seq (.reg [xf 4 3 1,xo 4 3,xL 5 4,⟨(some 6),.mkfn (.func 152) [] [(.s 1)],none⟩,xc 150 7 [.s 5,.s 6],xm 2 7])
 (.ret))
theorem fn90:IsFn prog 90 ac90 [.tmp 2] 8:=⟨f90,⟨[1],[],[]⟩,func90,by kernel_rfl,by kernel_rfl,by kernel_rfl,by kernel_rfl⟩
def ac91:AC:=.seq (.reg [⟨(some 1),.box 5 (.s 0),none⟩,⟨(some 2),.mv (.c (.str [])),none⟩])
 (.seq (.seq (.reg [xf 4 3 1,xo 4 3,xL 5 4,xB .eql 6 5 0])
 (.cond (.s 6) (.seq (.reg [⟨(some 2),.mv (.c (.str [])),none⟩])
 (.ret))
 (.skip)))
 (.seq (.reg [xf 4 7 1,xo 8 7,⟨(some 9),.idxA 5 (.s 8) (.c (.int .i64 0)),none⟩,xl 5 10 9,xc 40 11 [.s 10],xm 2 11])
 (.ret)))
theorem fn91:IsFn prog 91 ac91 [.tmp 2] 12:=⟨f91,⟨[],[],[]⟩,func91,by kernel_rfl,by kernel_rfl,by kernel_rfl,by kernel_rfl⟩
def ac92:AC:=.seq (.reg [⟨(some 1),.box 5 (.s 0),none⟩,⟨(some 2),.mv (.c (.str [])),none⟩])
 (.seq (.reg [xl 5 4 1,xc 90 5 [.s 4],⟨(some 6),.cat (.c (.str [91])) (.s 5),none⟩,xm 3 6])
 (.seq (.seq (.reg [xf 3 7 1,xo 8 7,xL 9 8,xB .gtr 10 9 0])
 (.cond (.s 10) (.reg [xm 11 3,xl 5 12 1,xc 89 13 [.s 12],⟨(some 14),.cat (.c (.str [124])) (.s 13),none⟩,⟨(some 15),.cat (.s 11) (.s 14),none⟩,xm 3 15])
 (.skip)))
 (.seq (.reg [xm 16 3,⟨(some 17),.cat (.s 16) (.c (.str [93])),none⟩,xm 2 17])
 (.ret))))
theorem fn92:IsFn prog 92 ac92 [.tmp 2] 18:=⟨f92,⟨[],[],[]⟩,func92,by kernel_rfl,by kernel_rfl,by kernel_rfl,by kernel_rfl⟩
def ac150:AC:=.seq (.reg [⟨(some 4),.mv (.c (.str [])),none⟩])
 (.seq (.reg [⟨(some 5),.mv (.c (.sl .full 1 [])),none⟩])
 (.seq (.seq (.reg [xm 7 0,xi 8 0])
 (.block 0 (.loop (.seq (.reg [xb .lss 9 8 7])
 (.seq (.cond (.s 9) (.skip)
 (.exit 0))
 (.seq (.block 1 (.seq (.reg [xm 10 8,xm 6 10])
 (.seq (.seq (.reg [xm 11 6,xB .gtr 12 11 0])
 (.cond (.s 12) (.reg [xm 13 5,⟨(some 14),.bslice 1 [(.c (.int .u8 44))],none⟩,xa 1 15 13 14,xm 5 15])
 (.skip)))
 (.reg [xm 16 5,xm 17 1,xm 18 6,⟨(some 19),.callv (.s 17) [(.s 18)],none⟩,⟨(some 20),.appS (.s 16) (.s 19),none⟩,xm 5 20]))))
 (.reg [xB .add 21 8 1,xm 8 21])))))))
 (.seq (.reg [xm 22 5,⟨(some 23),.cvBS (.s 22),none⟩,xm 4 23])
 (.ret))))
theorem fn150:IsFn prog 150 ac150 [.tmp 4] 24:=⟨f150,⟨[],[],[]⟩,func150,by kernel_rfl,by kernel_rfl,by kernel_rfl,by kernel_rfl⟩
def ac151:AC:=.seq (.reg [⟨(some 3),.mv (.c (.str [])),none⟩])
 (.seq (.reg [xf 3 4 1,xo 5 4,xm 6 0,xA 2 7 5 6,xf 0 8 7,xo 9 8,xm 3 9])
 (.ret))
theorem fn151:IsFn prog 151 ac151 [.tmp 3] 10:=⟨f151,⟨[],[],[]⟩,func151,by kernel_rfl,by kernel_rfl,by kernel_rfl,by kernel_rfl⟩
def ac152:AC:=.seq (.reg [⟨(some 3),.mv (.c (.str [])),none⟩])
 (.seq (.reg [xf 4 4 1,xo 5 4,xm 6 0,xA 5 7 5 6,xl 5 8 7,xc 40 9 [.s 8],xm 3 9])
 (.ret))
theorem fn152:IsFn prog 152 ac152 [.tmp 3] 10:=⟨f152,⟨[],[],[]⟩,func152,by kernel_rfl,by kernel_rfl,by kernel_rfl,by kernel_rfl⟩
def inv77 (n:Nat) (g:FuncId) (cap:List V) (f:Nat→List UInt8) (σ:Store) (i τ:Nat):St :=
  ⟨[.int .i64 (n:Nat),.fn (.func g) [] cap,.any,.any,.any,.sl (.tk τ) 1 (encB (joinC ((List.range i).map f))),.any,.int .i64 (n:Nat),.int .i64 (i:Nat)]++List.replicate 15 .any,[],σ.setTip τ (joinC ((List.range i).map f)).length⟩
theorem range_snoc (f:Nat→List UInt8) (i:Nat):joinC ((List.range (i+1)).map f)=joinC ((List.range i).map f)++(if 0<i then [44] else [])++f i:=by
  rw[List.range_succ,List.map_append,List.map_singleton,joinC_snoc];simp
theorem range_mono (f:Nat→List UInt8) {i n:Nat} (h:i≤n):(joinC ((List.range i).map f)).length≤(joinC ((List.range n).map f)).length:=by
  induction n with
  | zero => have : i = 0 := by omega
            rw[this];exact Nat.le_refl _
  | succ n ih =>
    by_cases hi:i=n+1
    · rw[hi];exact Nat.le_refl _
    · have:=ih (by omega)
      rw[range_snoc];simp only[List.length_append];omega
theorem commas_calls {n:Nat} {g:FuncId} {cap:List V} {f:Nat→List UInt8} {σ:Store} (hnol:nolL cap=true) (hn:n≤big) (hb:(joinC ((List.range n).map f)).length≤big)
    (h:∀i,i<n→∀σ1:Store,σ1.box=σ.box→PCalls prog g (.int .i64 (i:Nat)::cap) σ1 fun v σ' => v = .str (f i)∧σ' = σ1) :
    PCalls prog 150 [.int .i64 (n:Nat),.fn (.func g) [] cap] σ fun v σ' => v = .str (joinC ((List.range n).map f))∧σ' = σ:=by
  refine fn150.calls ?_;simp only[slots,ac150,am,ams,Nat.reduceAdd];refine vc_loop (fun p:{p:Nat × Nat // σ.tip p.2=none∧p.1≤n}=>inv77 n g cap f σ p.1.1 p.1.2) (fun p=>n - p.1.1) ?_ ?_
  · refine Upd.tokEnter 0 fun τ hτ=>⟨⟨(0,τ),hτ,by simp⟩,?_,rfl,rfl⟩
    simp[inv77,List.replicate,lto,joinC,encB]
  · rintro⟨⟨i,τ⟩,hτ,hi⟩;simp only at hτ hi;simp only[inv77,List.replicate,am];refine vcIf_split ?_ ?_
    · intro hlt;have hlt:i<n:=by simpa using hlt
      have hs:=range_snoc f i;have hm:=range_mono f (i:=i+1) (n:=n) (by omega);simp only[big] at hn hb;rw[hs] at hm;simp only[List.length_append] at hm;have wi:IntKind.i64.wrap ((i:Int)+1)=(i:Int)+1:=wrap_i64 (by omega) (by omega);simp only[am]
      by_cases h0:0<i
      case' pos =>
        rw[if_pos h0] at hs hm;simp only[am,decide_eq_true (show (0:Int)<i by omega)];refine app_tk (by simp[encB_length,big];simp at hm;omega) (by rw[encB_length,setTip_tip_same]) ?_;simp only[am,setTip_setTip];rw[show encB (joinC ((List.range i).map f))++[[.int .u8 44]]=encB (joinC ((List.range i).map f)++[44]) by simp[encB],show (encB (joinC ((List.range i).map f))).length+1=(joinC ((List.range i).map f)++[44]).length by simp[encB]]
      case' neg =>
        rw[if_neg h0,List.append_nil] at hs;rw[if_neg h0] at hm;simp only[am,decide_eq_false (show ¬(0:Int)<i by omega)]
      all_goals
        refine⟨hnol,?_⟩;refine(h i hlt (σ.setTip τ _) rfl).mono ?_;rintro v σ' ⟨rfl,rfl⟩;simp only[am,amc];refine⟨_,rfl,?_⟩;refine app_tk (by simp[encB_length,big];simp at hm;omega) (by rw[encB_length,setTip_tip_same]) ?_;simp only[am,setTip_setTip,wi];rw[←encB_append,encB_length,encB_length,←List.length_append,←hs];exact Upd.again ⟨(i+1,τ),hτ,hlt⟩ (by simp;omega) (by simp[am]) LLLe.rfl OLe.rfl
    · intro hlt;have hlt:i=n:=by simp at hlt;omega
      subst hlt;simp only[am,amc];refine⟨_,_,rfl,?_⟩;refine retK_intro rfl (sub_tip hτ) ⟨?_,rfl⟩;simp[V.erase]
theorem names1_text {n:Nd} {i q:Nat} {σ:Store} (hi:i<n.names.length) (hq:σ.box q=some n.enc):PCalls prog 151 [.int .i64 (i:Nat),.ptr (.out q) 0] σ fun v σ' => v = .str (n.names[i].text)∧σ' = σ:=by
  refine fn151.calls ?_;simp only[slots,ac151,am,ams,Nat.reduceAdd];simp only[am,hq,Nd.fl];refine idxL_intro (by omega) (wencs_at (show n.names[i]?=some n.names[i] by simp[hi])) ?_;simp only[am,Word.enc];refine retS ?_;simp[V.erase]
theorem kids1_text {n:Nd} {i q:Nat} {σ:Store} (hi:i<n.kids.length) (hq:σ.box q=some n.enc) (ih:∀m∈n.kids,∀σ,PCalls prog 40 [.agg m.enc] σ fun v σ' => v = .str m.txt∧σ' = σ) :
    PCalls prog 152 [.int .i64 (i:Nat),.ptr (.out q) 0] σ fun v σ' => v = .str (n.kids[i].txt)∧σ' = σ:=by
  refine fn152.calls ?_;simp only[slots,ac152,am,ams,Nat.reduceAdd];simp only[am,hq,Nd.fl];refine idxL_intro (by omega) (nencs_at (show n.kids[i]?=some n.kids[i] by simp[hi])) ?_;simp only[am,Nd.rec_];refine cl (ih n.kids[i] (List.getElem_mem hi) σ) ?_;simp only[am];refine retS ?_;simp[V.erase]
theorem range_map {α:Type} (l:List α) (f:α→List UInt8) (d:List UInt8):(List.range l.length).map (fun i=>if h:i<l.length then f l[i] else d)=l.map f:=by
  apply List.ext_getElem?;intro i
  by_cases h:i<l.length<;>simp[h]
theorem names_text {n:Nd} {σ:Store} (hw:n.wt≤big):PCalls prog 89 [.agg n.enc] σ fun v σ' => v = .str (wtext n.names)∧σ' = σ:=by
  have h1:=wtext_len n.names;have h2:n.names.length≤wsum n.names:=by
    unfold wsum;generalize n.names=l;induction l with
    | nil=>simp
    | cons w ws ih=>simp only[List.map_cons,List.sum_cons,List.length_cons];omega
  have h3:wsum n.names≤n.wt:=by cases n;simp only[Nd.wt,Nd.names];omega
  have e:joinC ((List.range n.names.length).map (fun i=>if h:i<n.names.length then n.names[i].text else []))=wtext n.names:=by
    rw[range_map n.names (fun w=>w.text) []];rfl
  refine fn89.calls ?_;simp only[slots,ac89,am,ams,Nd.rec_];refine kO_intro fun q hq=>?_
  simp only[am,List.length_map,Nd.fl];refine(commas_calls (f:=fun i=>if h:i<n.names.length then n.names[i].text else []) rfl (by omega) (by rw[e];omega) (fun i hi σ1 h1=>?_)).mono ?_
  · rw[dif_pos hi];exact names1_text hi (by rw[h1];exact Store.set_same _ _ _)
  rintro v σ' ⟨rfl,rfl⟩;simp only[am];refine retK_intro rfl (sub_set hq) ⟨?_,rfl⟩;rw[e];simp[V.erase]
theorem kids_text {n:Nd} {σ:Store} (hw:n.wt≤big) (ih:∀m∈n.kids,∀σ,PCalls prog 40 [.agg m.enc] σ fun v σ' => v = .str m.txt∧σ' = σ):PCalls prog 90 [.agg n.enc] σ fun v σ' => v = .str (joinC (txts n.kids))∧σ' = σ:=by
  have h1:=ktext_len n.kids (txt_lens n.kids);have h2:n.kids.length≤wts n.kids:=by
    rw[wts_map];generalize n.kids=l;induction l with
    | nil=>simp
    | cons w ws ih=>simp only[List.map_cons,List.sum_cons,List.length_cons];omega
  have h3:wts n.kids≤n.wt:=by cases n;simp only[Nd.wt,Nd.kids];omega
  have e:joinC ((List.range n.kids.length).map (fun i=>if h:i<n.kids.length then n.kids[i].txt else []))=joinC (txts n.kids):=by
    rw[range_map n.kids (fun w=>w.txt) [],txts_map]
  refine fn90.calls ?_;simp only[slots,ac90,am,ams,Nd.rec_];refine kO_intro fun q hq=>?_
  simp only[am,List.length_map,Nd.fl];refine(commas_calls (f:=fun i=>if h:i<n.kids.length then n.kids[i].txt else []) rfl (by omega) (by rw[e];omega) (fun i hi σ1 h1=>?_)).mono ?_
  · rw[dif_pos hi];exact kids1_text hi (by rw[h1];exact Store.set_same _ _ _) ih
  rintro v σ' ⟨rfl,rfl⟩;simp only[am];refine retK_intro rfl (sub_set hq) ⟨?_,rfl⟩;rw[e];simp[V.erase]
theorem first_text {n:Nd} {σ:Store} (ih:∀m∈n.kids,∀σ,PCalls prog 40 [.agg m.enc] σ fun v σ' => v = .str m.txt∧σ' = σ):PCalls prog 91 [.agg n.enc] σ fun v σ' => v = .str (headT (txts n.kids))∧σ' = σ:=by
  refine fn91.calls ?_;simp only[slots,ac91,am,ams,Nd.rec_];simp only[am,List.length_map,Nd.fl];cases hk:n.kids with
  | nil =>
    simp only[am,decide_true,List.map_nil,List.length_nil,Int.natCast_zero];refine retS ?_;simp[V.erase,headT,txts]
  | cons m ms =>
    simp only[am,decide_eq_false (show ¬(((m::ms).length:Nat):Int)=0 by simp;omega),Nd.fl,hk];refine idxL_intro (by omega) (c:=m.enc) (by simp) ?_;simp only[am,Nd.rec_];refine cl (ih m (by rw[hk];simp) σ) ?_;simp only[am];refine retS ?_;simp[V.erase,headT,txts]
theorem row_text {n:Nd} {σ:Store} (hw:n.wt≤big) (ih:∀m∈n.kids,∀σ,PCalls prog 40 [.agg m.enc] σ fun v σ' => v = .str m.txt∧σ' = σ) :
    PCalls prog 92 [.agg n.enc] σ fun v σ' => v = .str (([91]++joinC (txts n.kids))++(if 0<n.names.length then [124]++wtext n.names else [])++[93])∧σ' = σ:=by
  have h1:=ktext_len n.kids (txt_lens n.kids);have h2:=wtext_len n.names;have h3:wts n.kids+wsum n.names+4≤n.wt:=by cases n;simp only[Nd.wt,Nd.kids,Nd.names];omega
  refine fn92.calls ?_;simp only[slots,ac92,am,ams,Nd.rec_];refine cl (kids_text hw ih) ?_;simp only[am];refine⟨by simp;omega,?_⟩;simp only[am,List.length_map,Nd.fl]
  by_cases h0:0<n.names.length
  · simp only[am,Nd.rec_,decide_eq_true (show (0:Int)<n.names.length by omega)];refine cl (names_text hw) ?_;simp only[am];refine⟨by simp;omega,by simp;omega,by simp;omega,?_⟩;refine retS ?_;simp[V.erase,h0]
  · simp only[am,decide_eq_false (show ¬(0:Int)<n.names.length by omega)];refine⟨by simp;omega,?_⟩;refine retS ?_;simp[V.erase,h0]
theorem text_calls:∀(k:Nat) (n:Nd) (σ:Store),n.wt≤k→n.wt≤big→PCalls prog 40 [.agg n.enc] σ fun v σ' => v = .str n.txt∧σ' = σ:=by
  intro k;induction k with
  | zero=>intro n σ h _;cases n;simp only[Nd.wt] at h;omega
  | succ k ihk =>
    intro n σ hk hw;have ih:∀m∈n.kids,∀σ,PCalls prog 40 [.agg m.enc] σ fun v σ' => v = .str m.txt∧σ' = σ:=fun m hm σ=>by
      have h1:=wt_mem hm;have h2:wts n.kids+4≤n.wt:=by cases n;simp only[Nd.wt,Nd.kids];omega
      exact ihk m σ (by omega) (by omega)
    have h1:=ktext_len n.kids (txt_lens n.kids);have h2:=wtext_len n.names;have h3:n.text.length+wts n.kids+wsum n.names+4≤n.wt:=by cases n;simp only[Nd.wt,Nd.kids,Nd.names,Nd.text];omega
    have h4:=head_len n.kids (txt_lens n.kids);have e:n.txt=if n.kind=1∨n.kind=2 then n.text else if n.kind=3 then [123]++wtext n.names++[125] else if n.kind=4 then [40]++joinC (txts n.kids)++[41] else if n.kind=5 then [91]++joinC (txts n.kids)++[93]
        else if n.kind=6 then n.text++[58,123]++wtext n.names++[125] else if n.kind=7 then [35]++headT (txts n.kids) else if n.kind=8 then [43,40]++joinC (txts n.kids)++[41] else if n.kind=9 then [38,40]++joinC (txts n.kids)++[41]
        else if n.kind=10 then ([91]++joinC (txts n.kids))++(if 0<n.names.length then [124]++wtext n.names else [])++[93] else if n.kind=11 then n.text++[61]++headT (txts n.kids) else []:=by cases n;rw[Nd.txt];rfl
    rw[e];refine fn40.calls ?_;simp only[slots,ac40,am,ams,Nd.rec_];simp only[am,Nd.fl]
    by_cases k1:n.kind=1
    · simp only[am,decide_eq_true k1,Nd.fl];refine retS ?_;simp[V.erase,k1]
    simp only[am,decide_eq_false k1]
    by_cases k2:n.kind=2
    · simp only[am,decide_eq_true k2,Nd.fl];refine retS ?_;simp[V.erase,k2]
    simp only[am,decide_eq_false k2]
    by_cases k3:n.kind=3
    · simp only[am,Nd.rec_,decide_eq_true k3];refine cl (names_text hw) ?_;simp only[am];refine⟨by simp;omega,by simp;omega,?_⟩;refine retS ?_;simp[V.erase,k3]
    simp only[am,decide_eq_false k3]
    by_cases k4:n.kind=4
    · simp only[am,Nd.rec_,decide_eq_true k4];refine cl (kids_text hw ih) ?_;simp only[am];refine⟨by simp;omega,by simp;omega,?_⟩;refine retS ?_;simp[V.erase,k4]
    simp only[am,decide_eq_false k4]
    by_cases k5:n.kind=5
    · simp only[am,Nd.rec_,decide_eq_true k5];refine cl (kids_text hw ih) ?_;simp only[am];refine⟨by simp;omega,by simp;omega,?_⟩;refine retS ?_;simp[V.erase,k5]
    simp only[am,decide_eq_false k5]
    by_cases k6:n.kind=6
    · simp only[am,Nd.rec_,decide_eq_true k6,Nd.fl];refine⟨by simp;omega,?_⟩;refine CallD.intro (names_text hw) ?_;simp only[am,Nd.fl];refine⟨by simp;omega,by simp;omega,?_⟩;refine retS ?_;simp[V.erase,k6]
    simp only[am,decide_eq_false k6]
    by_cases k7:n.kind=7
    · simp only[am,Nd.rec_,decide_eq_true k7];refine cl (first_text ih) ?_;simp only[am];refine⟨by simp;omega,?_⟩;refine retS ?_;simp[V.erase,k7]
    simp only[am,decide_eq_false k7]
    by_cases k8:n.kind=8
    · simp only[am,Nd.rec_,decide_eq_true k8];refine cl (kids_text hw ih) ?_;simp only[am];refine⟨by simp;omega,by simp;omega,?_⟩;refine retS ?_;simp[V.erase,k8]
    simp only[am,decide_eq_false k8]
    by_cases k9:n.kind=9
    · simp only[am,Nd.rec_,decide_eq_true k9];refine cl (kids_text hw ih) ?_;simp only[am];refine⟨by simp;omega,by simp;omega,?_⟩;refine retS ?_;simp[V.erase,k9]
    simp only[am,decide_eq_false k9]
    by_cases k10:n.kind=10
    · simp only[am,Nd.rec_,decide_eq_true k10];refine cl (row_text hw ih) ?_;simp only[am];refine retS ?_;simp[V.erase,k10]
    simp only[am,decide_eq_false k10]
    by_cases k11:n.kind=11
    · simp only[am,Nd.rec_,decide_eq_true k11,Nd.fl];refine⟨by simp;omega,?_⟩;refine CallD.intro (first_text ih) ?_;simp only[am,Nd.fl];refine⟨by simp;omega,?_⟩;refine retS ?_;simp[V.erase,k11]
    simp only[am,decide_eq_false k11];refine retS ?_;simp[V.erase,k1,k2,k3,k4,k5,k6,k7,k8,k9,k10,k11]
end Go.Proofs.Tryz

namespace Go.Proofs.Tryz
open Go.Am
set_option maxRecDepth 4000
set_option maxHeartbeats 4000000
def ac123:AC:=.seq (.reg [⟨(some 1),.box 5 (.s 0),none⟩,⟨(some 2),.mv (.c (.bool false)),none⟩])
 (.seq (.seq (.reg [xf 0 3 1,xo 4 3])
 (.block 0 (.seq (.reg [xB .eql 6 4 1,xm 5 6])
 (.cond (.s 5) (.seq (.reg [xl 5 7 1,xc 170 8 [.s 7],xm 2 8])
 (.ret))
 (.seq (.reg [xB .eql 10 4 7,xm 9 10])
 (.cond (.s 9) (.seq (.reg [xl 5 11 1,xc 171 12 [.s 11],xm 13 12,xg 13 (xf 4 14 1),xg 13 (xo 15 14),xg 13 (xL 16 15),xg 13 (xB .eql 17 16 1),⟨(some 18),.pick (.s 13) (.s 17) (.c (.bool false)),none⟩,xm 19 18,xg 19 (xf 4 20 1),xg 19 (xo 21 20),⟨(some 22),.idxA 5 (.s 21) (.c (.int .i64 0)),(some (19,true))⟩,xg 19 (xl 5 23 22),xg 19 (xc 172 24 [.s 23]),⟨(some 25),.pick (.s 19) (.s 24) (.c (.bool false)),none⟩,xm 2 25])
 (.ret))
 (.seq (.seq (.reg [xB .eql 27 4 8,xm 26 27])
 (.cond (.s 26) (.skip)
 (.reg [xB .eql 28 4 9,xm 26 28])))
 (.cond (.s 26) (.seq (.reg [xl 5 29 1,xc 171 30 [.s 29],xm 31 30,xg 31 (xf 4 32 1),xg 31 (xo 33 32),xg 31 (xL 34 33),xg 31 (xB .gtr 35 34 0),⟨(some 36),.pick (.s 31) (.s 35) (.c (.bool false)),none⟩,xm 37 36,xg 37 (xf 4 38 1),xg 37 (xo 39 38),xg 37 (xc 173 40 [.s 39,.c (.fn (.func 123) [] [])]),⟨(some 41),.pick (.s 37) (.s 40) (.c (.bool false)),none⟩,xm 2 41])
 (.ret))
 (.skip)))))))))
 (.seq (.reg [⟨(some 2),.mv (.c (.bool false)),none⟩])
 (.ret)))
theorem fn123:IsFn prog 123 ac123 [.tmp 2] 42:=⟨f123,⟨[],[],[]⟩,func123,by kernel_rfl,by kernel_rfl,by kernel_rfl,by kernel_rfl⟩
def ac169:AC:=.seq (.reg [⟨(some 1),.box 5 (.s 0),none⟩,⟨(some 2),.mv (.c (.bool false)),none⟩])
 (.seq (.seq (.reg [xf 0 3 1,xo 4 3,xB .eql 5 4 10])
 (.cond (.s 5) (.seq (.reg [xf 2 6 1,xo 7 6,⟨(some 8),.binS .eql (.s 7) (.c (.str [])),none⟩,xm 9 8,xg 9 (xf 3 10 1),xg 9 (xo 11 10),xg 9 (xL 12 11),xg 9 (xB .leq 13 12 1),⟨(some 14),.pick (.s 9) (.s 13) (.c (.bool false)),none⟩,xm 15 14,xg 15 (xf 3 16 1),xg 15 (xo 17 16),xg 15 (xc 225 18 [.s 17]),⟨(some 19),.pick (.s 15) (.s 18) (.c (.bool false)),none⟩,xm 20 19,xg 20 (xf 4 21 1),xg 20 (xo 22 21),xg 20 (xc 173 23 [.s 22,.c (.fn (.func 226) [] [])]),⟨(some 24),.pick (.s 20) (.s 23) (.c (.bool false)),none⟩,xm 2 24])
 (.ret))
 (.skip)))
 (.seq (.reg [xf 0 25 1,xo 26 25,xB .eql 27 26 1,xm 28 27,xg 28 (xl 5 29 1),xg 28 (xc 123 30 [.s 29]),⟨(some 31),.pick (.s 28) (.s 30) (.c (.bool false)),none⟩,xm 2 31])
 (.ret)))
theorem fn169:IsFn prog 169 ac169 [.tmp 2] 32:=⟨f169,⟨[],[],[]⟩,func169,by kernel_rfl,by kernel_rfl,by kernel_rfl,by kernel_rfl⟩
def ac170:AC:=.seq (.reg [⟨(some 1),.box 5 (.s 0),none⟩,⟨(some 2),.mv (.c (.bool false)),none⟩])
 (.seq (.reg [xf 2 3 1,xo 4 3,xc 99 5 [.s 4],xm 6 5,xg 6 (xf 3 7 1),xg 6 (xo 8 7),xg 6 (xL 9 8),xg 6 (xf 4 10 1),xg 6 (xo 11 10),xg 6 (xL 12 11),xg 6 (xb .add 13 9 12),xg 6 (xB .eql 14 13 0),⟨(some 15),.pick (.s 6) (.s 14) (.c (.bool false)),none⟩,xm 2 15])
 (.ret))
theorem fn170:IsFn prog 170 ac170 [.tmp 2] 16:=⟨f170,⟨[],[],[]⟩,func170,by kernel_rfl,by kernel_rfl,by kernel_rfl,by kernel_rfl⟩
def ac171:AC:=.seq (.reg [⟨(some 1),.box 5 (.s 0),none⟩,⟨(some 2),.mv (.c (.bool false)),none⟩])
 (.seq (.reg [xf 2 3 1,xo 4 3,⟨(some 5),.binS .eql (.s 4) (.c (.str [])),none⟩,xm 6 5,xg 6 (xf 3 7 1),xg 6 (xo 8 7),xg 6 (xL 9 8),xg 6 (xB .eql 10 9 0),⟨(some 11),.pick (.s 6) (.s 10) (.c (.bool false)),none⟩,xm 2 11])
 (.ret))
theorem fn171:IsFn prog 171 ac171 [.tmp 2] 12:=⟨f171,⟨[],[],[]⟩,func171,by kernel_rfl,by kernel_rfl,by kernel_rfl,by kernel_rfl⟩
def ac172:AC:=.seq (.reg [⟨(some 1),.box 5 (.s 0),none⟩,⟨(some 2),.mv (.c (.bool false)),none⟩])
 (.seq (.seq (.reg [xf 0 3 1,xo 4 3])
 (.block 0 (.seq (.reg [xB .eql 6 4 2,xm 5 6])
 (.cond (.s 5) (.seq (.reg [xl 5 7 1,xc 170 8 [.s 7],xm 2 8])
 (.ret))
 (.seq (.reg [xB .eql 10 4 3,xm 9 10])
 (.cond (.s 9) (.seq (.reg [xf 2 11 1,xo 12 11,⟨(some 13),.binS .eql (.s 12) (.c (.str [])),none⟩,xm 14 13,xg 14 (xf 3 15 1),xg 14 (xo 16 15),xg 14 (xc 225 17 [.s 16]),⟨(some 18),.pick (.s 14) (.s 17) (.c (.bool false)),none⟩,xm 19 18,xg 19 (xf 4 20 1),xg 19 (xo 21 20),xg 19 (xL 22 21),xg 19 (xB .eql 23 22 0),⟨(some 24),.pick (.s 19) (.s 23) (.c (.bool false)),none⟩,xm 2 24])
 (.ret))
 (.seq (.reg [xB .eql 26 4 4,xm 25 26])
 (.cond (.s 25) (.seq (.reg [xl 5 27 1,xc 171 28 [.s 27],xm 29 28,xg 29 (xf 4 30 1),xg 29 (xo 31 30),xg 29 (xL 32 31),xg 29 (xB .gtr 33 32 0),⟨(some 34),.pick (.s 29) (.s 33) (.c (.bool false)),none⟩,xm 35 34,xg 35 (xf 4 36 1),xg 35 (xo 37 36),xg 35 (xc 173 38 [.s 37,.c (.fn (.func 172) [] [])]),⟨(some 39),.pick (.s 35) (.s 38) (.c (.bool false)),none⟩,xm 2 39])
 (.ret))
 (.seq (.reg [xB .eql 41 4 5,xm 40 41])
 (.cond (.s 40) (.seq (.reg [xl 5 42 1,xc 171 43 [.s 42],xm 44 43,xg 44 (xf 4 45 1),xg 44 (xo 46 45),xg 44 (xc 173 47 [.s 46,.c (.fn (.func 227) [] [])]),⟨(some 48),.pick (.s 44) (.s 47) (.c (.bool false)),none⟩,xm 2 48])
 (.ret))
 (.skip)))))))))))
 (.seq (.reg [⟨(some 2),.mv (.c (.bool false)),none⟩])
 (.ret)))
theorem fn172:IsFn prog 172 ac172 [.tmp 2] 49:=⟨f172,⟨[],[],[]⟩,func172,by kernel_rfl,by kernel_rfl,by kernel_rfl,by kernel_rfl⟩
def ac173:AC:=.seq (.reg [⟨(some 4),.mv (.c (.bool false)),none⟩])
 (.seq (.seq (.reg [xm 7 0,xL 8 7,xi 9 0])
 (.block 0 (.loop (.seq (.reg [xb .lss 10 9 8])
 (.seq (.cond (.s 10) (.skip)
 (.exit 0))
 (.seq (.block 1 (.seq (.reg [xA 5 11 7 9,xl 5 12 11,⟨(some 6),.alloc [(.int .i64 0),(.int .i64 0),(.str []),(.sl .full 2 []),(.sl .full 5 [])],none⟩,xs 5 6 12])
 (.seq (.reg [xm 13 1,xl 5 14 6,⟨(some 15),.callv (.s 13) [(.s 14)],none⟩,⟨(some 16),.not (.s 15),none⟩])
 (.cond (.s 16) (.seq (.reg [⟨(some 4),.mv (.c (.bool false)),none⟩])
 (.ret))
 (.skip)))))
 (.reg [xB .add 17 9 1,xm 9 17])))))))
 (.seq (.reg [⟨(some 4),.mv (.c (.bool true)),none⟩])
 (.ret)))
theorem fn173:IsFn prog 173 ac173 [.tmp 4] 18:=⟨f173,⟨[],[],[]⟩,func173,by kernel_rfl,by kernel_rfl,by kernel_rfl,by kernel_rfl⟩
def ac225:AC:=.seq (.reg [⟨(some 2),.mv (.c (.bool false)),none⟩])
 (.seq (.seq (.reg [xm 5 0,xL 6 5,xi 7 0])
 (.block 0 (.loop (.seq (.reg [xb .lss 8 7 6])
 (.seq (.cond (.s 8) (.skip)
 (.exit 0))
 (.seq (.block 1 (.seq (.reg [xA 2 9 5 7,xl 2 10 9,⟨(some 4),.alloc [(.str []),(.int .i64 0)],none⟩,xs 2 4 10])
 (.seq (.reg [xf 0 11 4,xo 12 11,xc 99 13 [.s 12],⟨(some 14),.not (.s 13),none⟩])
 (.cond (.s 14) (.seq (.reg [⟨(some 2),.mv (.c (.bool false)),none⟩])
 (.ret))
 (.skip)))))
 (.reg [xB .add 15 7 1,xm 7 15])))))))
 (.seq (.reg [⟨(some 2),.mv (.c (.bool true)),none⟩])
 (.ret)))
theorem fn225:IsFn prog 225 ac225 [.tmp 2] 16:=⟨f225,⟨[],[],[]⟩,func225,by kernel_rfl,by kernel_rfl,by kernel_rfl,by kernel_rfl⟩
def ac226:AC:=.seq (.reg [⟨(some 1),.box 5 (.s 0),none⟩,⟨(some 2),.mv (.c (.bool false)),none⟩])
 (.seq (.reg [xf 0 3 1,xo 4 3,xB .eql 5 4 11,xm 6 5,xg 6 (xf 2 7 1),xg 6 (xo 8 7),xg 6 (xc 99 9 [.s 8]),⟨(some 10),.pick (.s 6) (.s 9) (.c (.bool false)),none⟩,xm 11 10,xg 11 (xf 3 12 1),xg 11 (xo 13 12),xg 11 (xL 14 13),xg 11 (xB .eql 15 14 0),⟨(some 16),.pick (.s 11) (.s 15) (.c (.bool false)),none⟩,xm 17 16,xg 17 (xf 4 18 1),xg 17 (xo 19 18),xg 17 (xL 20 19),xg 17 (xB .eql 21 20 1),⟨(some 22),.pick (.s 17) (.s 21) (.c (.bool false)),none⟩,xm 23 22,xg 23 (xf 4 24 1),xg 23 (xo 25 24),⟨(some 26),.idxA 5 (.s 25) (.c (.int .i64 0)),(some (23,true))⟩,xg 23 (xl 5 27 26),xg 23 (xc 254 28 [.s 27]),⟨(some 29),.pick (.s 23) (.s 28) (.c (.bool false)),none⟩,xm 2 29])
 (.ret))
theorem fn226:IsFn prog 226 ac226 [.tmp 2] 30:=⟨f226,⟨[],[],[]⟩,func226,by kernel_rfl,by kernel_rfl,by kernel_rfl,by kernel_rfl⟩
def ac227:AC:=.seq (.reg [⟨(some 1),.box 5 (.s 0),none⟩,⟨(some 2),.mv (.c (.bool false)),none⟩])
 (.seq (.reg [xf 0 3 1,xo 4 3,xB .eql 5 4 6,xm 6 5,xg 6 (xf 2 7 1),xg 6 (xo 8 7),xg 6 (xc 99 9 [.s 8]),⟨(some 10),.pick (.s 6) (.s 9) (.c (.bool false)),none⟩,xm 11 10,xg 11 (xf 3 12 1),xg 11 (xo 13 12),xg 11 (xc 225 14 [.s 13]),⟨(some 15),.pick (.s 11) (.s 14) (.c (.bool false)),none⟩,xm 16 15,xg 16 (xf 4 17 1),xg 16 (xo 18 17),xg 16 (xL 19 18),xg 16 (xB .eql 20 19 0),⟨(some 21),.pick (.s 16) (.s 20) (.c (.bool false)),none⟩,xm 2 21])
 (.ret))
theorem fn227:IsFn prog 227 ac227 [.tmp 2] 22:=⟨f227,⟨[],[],[]⟩,func227,by kernel_rfl,by kernel_rfl,by kernel_rfl,by kernel_rfl⟩
def ac254:AC:=.seq (.reg [⟨(some 1),.box 5 (.s 0),none⟩,⟨(some 2),.mv (.c (.bool false)),none⟩])
 (.seq (.reg [xf 0 3 1,xo 4 3,xB .eql 5 4 1,xm 6 5,xh 6 (xf 0 7 1),xh 6 (xo 8 7),xh 6 (xB .eql 9 8 7),⟨(some 10),.pick (.s 6) (.c (.bool true)) (.s 9),none⟩,xm 11 10,xg 11 (xl 5 12 1),xg 11 (xc 123 13 [.s 12]),⟨(some 14),.pick (.s 11) (.s 13) (.c (.bool false)),none⟩,xm 2 14])
 (.ret))
theorem fn254:IsFn prog 254 ac254 [.tmp 2] 15:=⟨f254,⟨[],[],[]⟩,func254,by kernel_rfl,by kernel_rfl,by kernel_rfl,by kernel_rfl⟩
theorem xall_take {α:Type} {l:List α} {i:Nat} {f:α→Bool} (h:i<l.length):(l.take (i+1)).all f=((l.take i).all f&&f l[i]):=by
  rw[take_succ_of (List.getElem?_eq_getElem h),List.all_append];simp only[List.all_cons,List.all_nil,Bool.and_true]
theorem all_no {α:Type} {l:List α} {i:Nat} {f:α→Bool} (h:i<l.length) (hf:f l[i]=false):l.all f=false:=by
  rw[List.all_eq_false];exact⟨l[i],List.getElem_mem h,by simp[hf]⟩
def inv40 (l:List Word) (σ:Store) (i:Nat):St :=
  ⟨[.sl .no 2 (l.map Word.enc)]++List.replicate 4 .any++[.sl .no 2 (l.map Word.enc),.int .i64 l.length,.int .i64 (i:Nat)]++List.replicate 8 .any,[],σ⟩
theorem rightW_calls (l:List Word) (σ:Store) (hb:l.length≤big):PCalls prog 225 [.sl .no 2 (l.map Word.enc)] σ fun v σ' => v = .bool (rightW l)∧σ' = σ:=by
  simp only[big] at hb;refine fn225.calls ?_;simp only[slots,ac225,am,ams];refine vc_loop (fun p:{i:Nat // i≤l.length∧(l.take i).all (fun w=>nameR w.text)=true}=>inv40 l σ p.1) (fun p=>l.length - p.1) ?_ ?_
  · refine Upd.enter ⟨0,by simp,by simp⟩ ?_ LLLe.rfl OLe.rfl;simp[inv40,List.replicate,am]
  · rintro⟨i,hi,ha⟩;simp only[inv40,List.replicate,am];refine vcIf_split ?_ ?_
    · intro hlt;have hlt:i<l.length:=by simpa using hlt
      simp only[am];refine idxL_intro (by omega) (wencs_at (List.getElem?_eq_getElem hlt)) ?_;simp only[am,Nat.reduceAdd,Word.enc];refine cl (nright_calls l[i].text σ) ?_;cases hg:nameR l[i].text
      · simp only[am];refine retK_intro rfl (Store.sub_refl _) ⟨?_,rfl⟩;rw[show rightW l=false from all_no (f:=fun (w:Word)=>nameR w.text) hlt hg];rfl
      · simp only[am];rw[wrap_i64 (by omega) (by omega)];exact Upd.againD ⟨i+1,hlt,by rw[xall_take hlt,ha,hg];rfl⟩ (by simp;omega) (by simp[am]) (by simp[am]) OLe.rfl rfl rfl
    · intro hlt;have hlt:i=l.length:=by simp at hlt;omega
      subst hlt;rw[List.take_length] at ha;simp only[am];refine retS ?_;simp[V.erase,rightW,ha]
def inv42 (g:FuncId) (l:List Nd) (σ:Store) (i:Nat):St :=
  ⟨[.sl .no 5 (l.map Nd.enc),.fn (.func g) [] []]++List.replicate 5 .any++[.sl .no 5 (l.map Nd.enc),.int .i64 l.length,.int .i64 (i:Nat)]++List.replicate 8 .any,[],σ⟩
theorem all_calls {g:FuncId} {f:Nd→Bool} (l:List Nd) (σ:Store) (hb:l.length≤big) (h:∀n∈l,PCalls prog g [.agg n.enc] σ fun v σ' => v = .bool (f n)∧σ' = σ):PCalls prog 173 [.sl .no 5 (l.map Nd.enc),.fn (.func g) [] []] σ fun v σ' => v = .bool (l.all f)∧σ' = σ:=by
  simp only[big] at hb;refine fn173.calls ?_;simp only[slots,ac173,am,ams,Nat.reduceAdd];refine vc_loop (fun p:{i:Nat // i≤l.length∧(l.take i).all f=true}=>inv42 g l σ p.1) (fun p=>l.length - p.1) ?_ ?_
  · refine Upd.enter ⟨0,by simp,by simp⟩ ?_ LLLe.rfl OLe.rfl;simp[inv42,List.replicate,am]
  · rintro⟨i,hi,ha⟩;simp only[inv42,List.replicate,am];refine vcIf_split ?_ ?_
    · intro hlt;have hlt:i<l.length:=by simpa using hlt
      simp only[am];refine idxL_intro (by omega) (nencs_at (List.getElem?_eq_getElem hlt)) ?_;simp only[am,Nd.rec_];refine cl (h l[i] (List.getElem_mem hlt)) ?_;cases hg:f l[i]
      · simp only[am];refine retS ?_;simp[V.erase,all_no hlt hg]
      · simp only[am];rw[wrap_i64 (by omega) (by omega)];exact Upd.againD ⟨i+1,hlt,by rw[xall_take hlt,ha,hg];rfl⟩ (by simp;omega) (by simp[am]) (by simp[am]) OLe.rfl rfl rfl
    · intro hlt;have hlt:i=l.length:=by simp at hlt;omega
      subst hlt;rw[List.take_length] at ha;simp only[am];refine retS ?_;simp[V.erase,ha]
def z15_:=And.intro @am <| And.intro @ams <| And.intro @Nd.rec_ @Nd.fl
def z16_:=And.intro @am <| And.intro @amo <| And.intro @amc <| And.intro @encs_length <| And.intro @decide_true <| And.intro @decide_false <| And.intro @Tree.rec_ <| And.intro @Nd.rec_ <| And.intro @Word.rec_ <| And.intro @Got.rec_ @Nd.fl
theorem leaf_calls (n:Nd) (σ:Store) (hb:n.names.length+n.kids.length≤big):PCalls prog 170 [.agg n.enc] σ fun v σ' => v = .bool n.leafQ∧σ' = σ:=by
  simp only[big] at hb;refine fn170.calls ?_;simp only[slots,ac170,z15_];refine cl (nright_calls n.text σ) ?_;simp only[am]
  repeat' (first
    | (refine gL_split (fun h=>?_) (fun h=>?_)<;>simp only[am,h,List.length_map,Nd.fl,wrap_i64 (x:=(n.names.length:Int)+n.kids.length) (by omega) (by omega)])
    | (refine vcIf_split (fun h=>?_) (fun h=>?_)<;>simp only[z16_,h,Nat.reduceAdd,Nat.reduceEqDiff,List.length_map,wrap_i64 (x:=(n.names.length:Int)+n.kids.length) (by omega) (by omega)])
    | (refine pickL_split (fun h=>?_) (fun h=>?_)<;>simp only[z16_,h,Nat.reduceAdd,Nat.reduceEqDiff,List.length_map,wrap_i64 (x:=(n.names.length:Int)+n.kids.length) (by omega) (by omega)])
  )
  all_goals refine retS ?_
  all_goals simp_all [V.erase,Nd.leafQ]
  all_goals (try omega)
theorem bare_calls (n:Nd) (σ:Store):PCalls prog 171 [.agg n.enc] σ fun v σ' => v = .bool n.bareQ∧σ' = σ:=by
  refine fn171.calls ?_;simp only[slots,ac171,z15_]
  repeat' (first
    | (refine gL_split (fun h=>?_) (fun h=>?_)<;>simp only[am,h,List.length_map,Nd.fl])
    | (refine vcIf_split (fun h=>?_) (fun h=>?_)<;>simp only[z16_,h,Nat.reduceAdd,Nat.reduceEqDiff,List.length_map])
    | (refine pickL_split (fun h=>?_) (fun h=>?_)<;>simp only[z16_,h,Nat.reduceAdd,Nat.reduceEqDiff,List.length_map])
  )
  all_goals refine retS ?_
  all_goals simp_all [V.erase,Nd.bareQ]
  all_goals (try omega)
theorem wt_names (n:Nd):n.names.length+n.kids.length+4≤n.wt:=by
  have h2:n.names.length≤wsum n.names:=by
    unfold wsum;generalize n.names=l;induction l with
    | nil=>simp
    | cons w ws ih=>simp only[List.map_cons,List.sum_cons,List.length_cons];omega
  have h3:n.kids.length≤wts n.kids:=by
    rw[wts_map];generalize n.kids=l;induction l with
    | nil=>simp
    | cons w ws ih=>simp only[List.map_cons,List.sum_cons,List.length_cons];omega
  have h1:wts n.kids+wsum n.names+4≤n.wt:=by cases n;simp only[Nd.wt,Nd.kids,Nd.names];omega
  omega
theorem rule_is_calls (n:Nd) (σ:Store) (hw:n.wt≤big):PCalls prog 227 [.agg n.enc] σ fun v σ' => v = .bool n.ruleQ∧σ' = σ:=by
  have hn:=wt_names n;refine fn227.calls ?_;simp only[slots,ac227,z15_]
  repeat' (first
    | (refine gL_split (fun h=>?_) (fun h=>?_)<;>simp only[am,h,List.length_map,Nd.fl])
    | (refine vcIf_split (fun h=>?_) (fun h=>?_)<;>simp only[z16_,h,Nat.reduceAdd,Nat.reduceEqDiff,List.length_map])
    | (refine pickL_split (fun h=>?_) (fun h=>?_)<;>simp only[z16_,h,Nat.reduceAdd,Nat.reduceEqDiff,List.length_map])
    | (refine(nright_calls n.text σ).mono ?_;rintro v _ ⟨rfl,rfl⟩;simp only[am])
    | (refine(rightW_calls n.names _ (by omega)).mono ?_;rintro v _ ⟨rfl,rfl⟩;simp only[am])
  )
  all_goals refine retS ?_
  all_goals simp_all [V.erase,Nd.ruleQ]
  all_goals (try omega)
theorem const_is_calls:∀(k:Nat) (n:Nd) (σ:Store),n.wt≤k→n.wt≤big→PCalls prog 172 [.agg n.enc] σ fun v σ' => v = .bool n.constQ∧σ' = σ:=by
  intro k;induction k with
  | zero=>intro n σ h _;cases n;simp only[Nd.wt] at h;omega
  | succ k ihk =>
    intro n σ hk hw;have hn:=wt_names n;have hkid:∀m∈n.kids,m.wt+5≤n.wt:=fun m hm=>by
      have h1:=wt_mem hm;have h2:wts n.kids+4≤n.wt:=by cases n;simp only[Nd.wt,Nd.kids];omega
      omega
    have hall:PCalls prog 173 [.sl .no 5 (n.kids.map Nd.enc),.fn (.func 172) [] []] σ fun v σ' => v = .bool (n.kids.all Nd.constQ)∧σ' = σ :=
      all_calls n.kids σ (by omega) fun m hm=>ihk m σ (by have:=hkid m hm;omega) (by have:=hkid m hm;omega)
    have hrule:PCalls prog 173 [.sl .no 5 (n.kids.map Nd.enc),.fn (.func 227) [] []] σ fun v σ' => v = .bool (n.kids.all Nd.ruleQ)∧σ' = σ :=
      all_calls n.kids σ (by omega) fun m hm=>rule_is_calls m σ (by have:=hkid m hm;omega)
    rw[Nd.constQ_eq];refine fn172.calls ?_;simp only[slots,ac172,z15_]
    by_cases k2:n.kind=2
    · simp only[am,Nd.rec_,decide_eq_true k2];refine cl (leaf_calls n σ (by omega)) ?_;simp only[am];refine retS ?_;simp[V.erase,k2]
    simp only[am,decide_eq_false k2]
    by_cases k3:n.kind=3
    · simp only[am,Nd.fl,decide_eq_true k3]
      repeat' (first
        | (refine gL_split (fun h=>?_) (fun h=>?_)<;>simp only[am,h,List.length_map,Nd.fl])
        | (refine vcIf_split (fun h=>?_) (fun h=>?_)<;>simp only[z16_,h,Nat.reduceAdd,Nat.reduceEqDiff,List.length_map])
        | (refine pickL_split (fun h=>?_) (fun h=>?_)<;>simp only[z16_,h,Nat.reduceAdd,Nat.reduceEqDiff,List.length_map])
        | (refine(rightW_calls n.names _ (by omega)).mono ?_;rintro v _ ⟨rfl,rfl⟩;simp only[am])
      )
      all_goals refine retS ?_
      all_goals simp_all [V.erase]
      all_goals (try omega)
    simp only[am,decide_eq_false k3]
    by_cases k4:n.kind=4
    · simp only[am,Nd.rec_,decide_eq_true k4];refine cl (bare_calls n σ) ?_;simp only[am]
      repeat' (first
        | (refine gL_split (fun h=>?_) (fun h=>?_)<;>simp only[am,h,List.length_map,Nd.fl])
        | (refine vcIf_split (fun h=>?_) (fun h=>?_)<;>simp only[z16_,h,Nat.reduceAdd,Nat.reduceEqDiff,List.length_map])
        | (refine pickL_split (fun h=>?_) (fun h=>?_)<;>simp only[z16_,h,Nat.reduceAdd,Nat.reduceEqDiff,List.length_map])
        | (refine hall.mono ?_;rintro v _ ⟨rfl,rfl⟩;simp only[am])
      )
      all_goals refine retS ?_
      all_goals simp_all [V.erase]
      all_goals (try omega)
    simp only[am,decide_eq_false k4]
    by_cases k5:n.kind=5
    · simp only[am,Nd.rec_,decide_eq_true k5];refine cl (bare_calls n σ) ?_;simp only[am]
      repeat' (first
        | (refine gL_split (fun h=>?_) (fun h=>?_)<;>simp only[am,h,Nd.fl])
        | (refine vcIf_split (fun h=>?_) (fun h=>?_)<;>simp only[z16_,h,Nat.reduceAdd,Nat.reduceEqDiff,List.length_map])
        | (refine pickL_split (fun h=>?_) (fun h=>?_)<;>simp only[z16_,h,Nat.reduceAdd,Nat.reduceEqDiff,List.length_map])
        | (refine hrule.mono ?_;rintro v _ ⟨rfl,rfl⟩;simp only[am])
      )
      all_goals refine retS ?_
      all_goals simp_all [V.erase]
      all_goals (try omega)
    simp only[am,decide_eq_false k5];refine retS ?_;simp[V.erase,k2,k3,k4,k5]
theorem kid_wt {n m:Nd} (hm:m∈n.kids):m.wt+5≤n.wt:=by
  have h1:=wt_mem hm;have h2:wts n.kids+4≤n.wt:=by cases n;simp only[Nd.wt,Nd.kids];omega
  omega
theorem label_is_calls:∀(k:Nat) (n:Nd) (σ:Store),n.wt≤k→n.wt≤big→PCalls prog 123 [.agg n.enc] σ fun v σ' => v = .bool n.labelQ∧σ' = σ:=by
  intro k;induction k with
  | zero=>intro n σ h _;cases n;simp only[Nd.wt] at h;omega
  | succ k ihk =>
    intro n σ hk hw;have hn:=wt_names n;have hall:PCalls prog 173 [.sl .no 5 (n.kids.map Nd.enc),.fn (.func 123) [] []] σ fun v σ' => v = .bool (n.kids.all Nd.labelQ)∧σ' = σ :=
      all_calls n.kids σ (by omega) fun m hm=>ihk m σ (by have:=kid_wt hm;omega) (by have:=kid_wt hm;omega)
    rw[Nd.labelQ_eq];refine fn123.calls ?_;simp only[slots,ac123,z15_]
    by_cases k1:n.kind=1
    · simp only[am,Nd.rec_,decide_eq_true k1];refine cl (leaf_calls n σ (by omega)) ?_;simp only[am];refine retS ?_;simp[V.erase,k1]
    simp only[am,decide_eq_false k1]
    by_cases k7:n.kind=7
    · simp only[am,Nd.rec_,decide_eq_true k7];refine cl (bare_calls n σ) ?_;simp only[am];cases hks:n.kids with
      | nil =>
        simp only[am,List.length_nil,Int.natCast_zero,show decide ((0:Int)=1)=false from rfl]
        repeat' (first
          | (refine gL_split (fun h=>?_) (fun h=>?_)<;>simp only[am,h,Nd.fl,hks,List.map_nil,List.length_nil,Int.natCast_zero,show decide ((0:Int)=1)=false from rfl])
          | (refine vcIf_split (fun h=>?_) (fun h=>?_)<;>simp only[z16_,h,Nat.reduceAdd,Nat.reduceEqDiff,List.length_map,hks,List.map_nil,List.length_nil,Int.natCast_zero,show decide ((0:Int)=1)=false from rfl])
          | (refine pickL_split (fun h=>?_) (fun h=>?_)<;>simp only[z16_,h,Nat.reduceAdd,Nat.reduceEqDiff,List.length_map,hks,List.map_nil,List.length_nil,Int.natCast_zero,show decide ((0:Int)=1)=false from rfl])
        )
        all_goals refine retS ?_
        all_goals simp_all [V.erase]
        all_goals (try omega)
      | cons m ms =>
        have hc:PCalls prog 172 [.agg m.enc] σ fun v σ' => v = .bool m.constQ∧σ' = σ:=const_is_calls _ m σ (Nat.le_refl _) (by have:=kid_wt (n:=n) (m:=m) (by rw[hks];simp);omega)
        repeat' (first
          | (refine gL_split (fun h=>?_) (fun h=>?_)<;>simp only[am,h,List.length_map,Nd.fl,hks])
          | (refine vcIf_split (fun h=>?_) (fun h=>?_)<;>simp only[z16_,h,Nat.reduceAdd,Nat.reduceEqDiff,List.length_map,hks])
          | (refine pickL_split (fun h=>?_) (fun h=>?_)<;>simp only[z16_,h,Nat.reduceAdd,Nat.reduceEqDiff,List.length_map,hks])
          | (refine idxL_intro (by omega) (c:=m.enc) (by simp) ?_;simp only[am,Nd.rec_])
          | (refine hc.mono ?_;rintro v _ ⟨rfl,rfl⟩;simp only[am])
        )
        all_goals refine retS ?_
        all_goals simp_all [V.erase,headQ]
        all_goals (try omega)
    simp only[am,decide_eq_false k7]
    by_cases k8:n.kind=8
    case' pos =>
      simp only[am,Nd.rec_,decide_eq_true k8]
    case' neg =>
      simp only[am,decide_eq_false k8]
      by_cases k9:n.kind=9
      case' pos =>
        simp only[am,Nd.rec_,decide_eq_true k9]
      case' neg =>
        simp only[am,decide_eq_false k9];refine retS ?_;simp[V.erase,k1,k7,k8,k9]
    all_goals
      refine cl (bare_calls n σ) ?_;simp only[am]
      repeat' (first
        | (refine gL_split (fun h=>?_) (fun h=>?_)<;>simp only[am,h,List.length_map,Nd.fl])
        | (refine vcIf_split (fun h=>?_) (fun h=>?_)<;>simp only[z16_,h,Nat.reduceAdd,Nat.reduceEqDiff,List.length_map])
        | (refine pickL_split (fun h=>?_) (fun h=>?_)<;>simp only[z16_,h,Nat.reduceAdd,Nat.reduceEqDiff,List.length_map])
        | (refine hall.mono ?_;rintro v _ ⟨rfl,rfl⟩;simp only[am])
      )
      all_goals refine retS ?_
      all_goals simp_all [V.erase]
      all_goals (try omega)
theorem atom_is_calls (n:Nd) (σ:Store) (hw:n.wt≤big):PCalls prog 254 [.agg n.enc] σ fun v σ' => v = .bool n.atomQ∧σ' = σ:=by
  refine fn254.calls ?_;simp only[slots,ac254,z15_]
  repeat' (first
    | (refine gL_split (fun h=>?_) (fun h=>?_)<;>simp only[am,h,Nd.rec_,Nd.fl])
    | (refine vcIf_split (fun h=>?_) (fun h=>?_)<;>simp only[z16_,h,Nat.reduceAdd,Nat.reduceEqDiff,List.length_map])
    | (refine pickL_split (fun h=>?_) (fun h=>?_)<;>simp only[z16_,h,Nat.reduceAdd,Nat.reduceEqDiff,List.length_map])
    | (refine(label_is_calls _ n _ (Nat.le_refl _) hw).mono ?_;rintro v _ ⟨rfl,rfl⟩;simp only[am])
  )
  all_goals refine retS ?_
  all_goals simp_all [V.erase,Nd.atomQ]
  all_goals (try omega)
theorem field_is_calls (n:Nd) (σ:Store) (hw:n.wt≤big):PCalls prog 226 [.agg n.enc] σ fun v σ' => v = .bool n.fieldQ∧σ' = σ:=by
  refine fn226.calls ?_;simp only[slots,ac226,z15_];cases hks:n.kids with
  | nil =>
    repeat' (first
      | (refine gL_split (fun h=>?_) (fun h=>?_)<;>simp only[am,h,List.length_map,Nd.fl,hks,List.map_nil,List.length_nil,Int.natCast_zero,show decide ((0:Int)=1)=false from rfl])
      | (refine vcIf_split (fun h=>?_) (fun h=>?_)<;>simp only[z16_,h,Nat.reduceAdd,Nat.reduceEqDiff,List.length_map,hks,List.map_nil,List.length_nil,Int.natCast_zero,show decide ((0:Int)=1)=false from rfl])
      | (refine pickL_split (fun h=>?_) (fun h=>?_)<;>simp only[z16_,h,Nat.reduceAdd,Nat.reduceEqDiff,List.length_map,hks,List.map_nil,List.length_nil,Int.natCast_zero,show decide ((0:Int)=1)=false from rfl])
      | (refine(nright_calls n.text _).mono ?_;rintro v _ ⟨rfl,rfl⟩;simp only[am])
    )
    all_goals refine retS ?_
    all_goals simp_all [V.erase,Nd.fieldQ,headQ]
    all_goals (try omega)
  | cons m ms =>
    have hc:PCalls prog 254 [.agg m.enc] σ fun v σ' => v = .bool m.atomQ∧σ' = σ:=atom_is_calls m σ (by have:=kid_wt (n:=n) (m:=m) (by rw[hks];simp);omega)
    repeat' (first
      | (refine gL_split (fun h=>?_) (fun h=>?_)<;>simp only[am,h,List.length_map,Nd.fl,hks])
      | (refine vcIf_split (fun h=>?_) (fun h=>?_)<;>simp only[z16_,h,Nat.reduceAdd,Nat.reduceEqDiff,List.length_map,hks])
      | (refine pickL_split (fun h=>?_) (fun h=>?_)<;>simp only[z16_,h,Nat.reduceAdd,Nat.reduceEqDiff,List.length_map,hks])
      | (refine(nright_calls n.text _).mono ?_;rintro v _ ⟨rfl,rfl⟩;simp only[am])
      | (refine idxL_intro (by omega) (c:=m.enc) (by simp) ?_;simp only[am,Nd.rec_])
      | (refine hc.mono ?_;rintro v _ ⟨rfl,rfl⟩;simp only[am])
    )
    all_goals refine retS ?_
    all_goals simp_all [V.erase,Nd.fieldQ,headQ]
    all_goals (try omega)
theorem row_is_calls (n:Nd) (σ:Store) (hw:n.wt≤big):PCalls prog 169 [.agg n.enc] σ fun v σ' => v = .bool n.rowQ∧σ' = σ:=by
  have hn:=wt_names n;have hall:PCalls prog 173 [.sl .no 5 (n.kids.map Nd.enc),.fn (.func 226) [] []] σ fun v σ' => v = .bool (n.kids.all Nd.fieldQ)∧σ' = σ :=
    all_calls n.kids σ (by omega) fun m hm=>field_is_calls m σ (by have:=kid_wt hm;omega)
  refine fn169.calls ?_;simp only[slots,ac169,z15_]
  by_cases k10:n.kind=10
  · simp only[am,Nd.fl,decide_eq_true k10]
    repeat' (first
      | (refine gL_split (fun h=>?_) (fun h=>?_)<;>simp only[am,h,List.length_map,Nd.fl])
      | (refine vcIf_split (fun h=>?_) (fun h=>?_)<;>simp only[z16_,h,Nat.reduceAdd,Nat.reduceEqDiff,List.length_map])
      | (refine pickL_split (fun h=>?_) (fun h=>?_)<;>simp only[z16_,h,Nat.reduceAdd,Nat.reduceEqDiff,List.length_map])
      | (refine(rightW_calls n.names _ (by omega)).mono ?_;rintro v _ ⟨rfl,rfl⟩;simp only[am])
      | (refine hall.mono ?_;rintro v _ ⟨rfl,rfl⟩;simp only[am])
    )
    all_goals refine retS ?_
    all_goals simp_all [V.erase,Nd.rowQ]
    all_goals (try omega)
  · simp only[am,Nd.fl,decide_eq_false k10]
    repeat' (first
      | (refine gL_split (fun h=>?_) (fun h=>?_)<;>simp only[am,h,Nd.rec_])
      | (refine vcIf_split (fun h=>?_) (fun h=>?_)<;>simp only[z16_,h,Nat.reduceAdd,Nat.reduceEqDiff,List.length_map])
      | (refine pickL_split (fun h=>?_) (fun h=>?_)<;>simp only[z16_,h,Nat.reduceAdd,Nat.reduceEqDiff,List.length_map])
      | (refine(label_is_calls _ n _ (Nat.le_refl _) hw).mono ?_;rintro v _ ⟨rfl,rfl⟩;simp only[am])
    )
    all_goals refine retS ?_
    all_goals simp_all [V.erase,Nd.rowQ]
    all_goals (try omega)
end Go.Proofs.Tryz
