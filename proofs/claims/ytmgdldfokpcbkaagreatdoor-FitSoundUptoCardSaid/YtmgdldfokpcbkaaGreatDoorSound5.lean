/-
  Part 5 of the proof of FitSoundUptoCardSaid: a logic over the model, the forms of the functions that the law reaches, and what they compute.
-/
import Derived.Test.YtmgdldfokpcbkaaGreatDoorProg
import Derived.Test.YtmgdldfokpcbkaaGreatDoorSound4
set_option linter.unusedVariables false
set_option linter.unusedSimpArgs false
set_option linter.defProp false
set_option linter.unusedSectionVars false

namespace Go.Proofs.Tryz
open Go.Am
set_option maxRecDepth 4000
set_option maxHeartbeats 4000000
def ac128:AC:=.seq (.reg [⟨(some 4),.mv (.c (.bool false)),none⟩])
 (.seq (.reg [xm 5 0,xm 6 1,xb .andNot 7 5 6,⟨(some 8),.binI .eql (.s 7) (.c (.int .u64 0)),none⟩,xm 4 8])
 (.ret))
theorem fn128:IsFn prog 128 ac128 [.tmp 4] 9:=⟨f128,⟨[],[],[]⟩,func128,by kernel_rfl,by kernel_rfl,by kernel_rfl,by kernel_rfl⟩
def ac129:AC:=.seq (.reg [⟨(some 2),.mv (.c (.int .u64 0)),none⟩])
 (.seq (.seq (.reg [xm 3 0,xB .leq 4 3 0])
 (.cond (.s 4) (.seq (.reg [⟨(some 2),.mv (.c (.int .u64 0)),none⟩])
 (.ret))
 (.skip)))
 (.seq (.seq (.reg [xm 5 0,xB .geq 6 5 64])
 (.cond (.s 6) (.seq (.reg [⟨(some 2),.mv (.c (.int .u64 18446744073709551615)),none⟩])
 (.ret))
 (.skip)))
 (.seq (.reg [xm 7 0,⟨(some 8),.cvI .u64 (.s 7),none⟩,⟨(some 9),.binI .shl (.c (.int .u64 1)) (.s 8),none⟩,⟨(some 10),.binI .sub (.s 9) (.c (.int .u64 1)),none⟩,xm 2 10])
 (.ret))))
theorem fn129:IsFn prog 129 ac129 [.tmp 2] 11:=⟨f129,⟨[],[],[]⟩,func129,by kernel_rfl,by kernel_rfl,by kernel_rfl,by kernel_rfl⟩
def ac145:AC:=.seq (.reg [⟨(some 4),.mv (.c (.int .u64 0)),none⟩])
 (.seq (.seq (.reg [xm 5 1,xc 162 6 [.s 5],⟨(some 7),.not (.s 6),none⟩])
 (.cond (.s 7) (.seq (.reg [xm 8 0,xm 4 8])
 (.ret))
 (.skip)))
 (.seq (.reg [xm 9 0,xm 10 1,⟨(some 11),.cvI .u64 (.s 10),none⟩,⟨(some 12),.binI .shl (.c (.int .u64 1)) (.s 11),none⟩,xb .or 13 9 12,xm 4 13])
 (.ret)))
theorem fn145:IsFn prog 145 ac145 [.tmp 4] 14:=⟨f145,⟨[],[],[]⟩,func145,by kernel_rfl,by kernel_rfl,by kernel_rfl,by kernel_rfl⟩
def ac162:AC:=.seq (.reg [⟨(some 2),.mv (.c (.bool false)),none⟩])
 (.seq (.reg [xm 3 0,xB .geq 4 3 0,xm 5 4,xg 5 (xm 6 0),xg 5 (xB .lss 7 6 64),⟨(some 8),.pick (.s 5) (.s 7) (.c (.bool false)),none⟩,xm 2 8])
 (.ret))
theorem fn162:IsFn prog 162 ac162 [.tmp 2] 9:=⟨f162,⟨[],[],[]⟩,func162,by kernel_rfl,by kernel_rfl,by kernel_rfl,by kernel_rfl⟩
def ac170:AC:=.seq (.reg [⟨(some 2),.mv (.c (.sl .full 1 [])),none⟩])
 (.seq (.reg [⟨(some 3),.allocO [(.sl .full 1 [])],none⟩])
 (.seq (.reg [xm 4 0,⟨(some 5),.mkfn (.func 184) [] [(.s 3)],none⟩,xc 183 6 [.s 4,.s 5]])
 (.seq (.reg [xo 7 3,xm 2 7])
 (.ret))))
theorem fn170:IsFn prog 170 ac170 [.tmp 2] 8:=⟨f170,⟨[3],[],[]⟩,func170,by kernel_rfl,by kernel_rfl,by kernel_rfl,by kernel_rfl⟩
def ac171:AC:=.seq (.reg [⟨(some 2),.mv (.c (.int .u64 0)),none⟩])
 (.seq (.reg [⟨(some 3),.mv (.c (.int .u64 0)),none⟩])
 (.seq (.seq (.reg [xm 6 0,xL 7 6,xi 8 0])
 (.block 0 (.loop (.seq (.reg [xb .lss 9 8 7])
 (.seq (.cond (.s 9) (.skip)
 (.exit 0))
 (.seq (.block 1 (.seq (.reg [xA 1 10 6 8,xo 11 10,xm 5 11])
 (.reg [xm 12 3,xm 13 5,xc 145 14 [.s 12,.s 13],xm 3 14])))
 (.reg [xB .add 15 8 1,xm 8 15])))))))
 (.seq (.reg [xm 16 3,xm 2 16])
 (.ret))))
theorem fn171:IsFn prog 171 ac171 [.tmp 2] 17:=⟨f171,⟨[],[],[]⟩,func171,by kernel_rfl,by kernel_rfl,by kernel_rfl,by kernel_rfl⟩
def ac183:AC:=.block 0 (.loop (.seq (.seq (.reg [xm 4 0,⟨(some 5),.binI .neq (.s 4) (.c (.int .u64 0)),none⟩])
 (.cond (.s 5) (.skip)
 (.exit 0)))
 (.block 1 (.seq (.seq (.reg [xm 6 1,xm 7 0,xc 187 8 [.s 7],⟨(some 9),.callv (.s 6) [(.s 8)],none⟩,⟨(some 10),.not (.s 9),none⟩])
 (.cond (.s 10) (.ret)
 (.skip)))
 (.reg [xm 11 0,xm 12 0,⟨(some 13),.binI .sub (.s 12) (.c (.int .u64 1)),none⟩,xb .and 14 11 13,xm 0 14])))))
theorem fn183:IsFn prog 183 ac183 [] 15:=⟨f183,⟨[],[],[]⟩,func183,by kernel_rfl,by kernel_rfl,by kernel_rfl,by kernel_rfl⟩
def ac184:AC:=.seq (.reg [⟨(some 3),.mv (.c (.bool false)),none⟩])
 (.seq (.reg [xo 4 1,xm 5 0,⟨(some 6),.bslice 1 [(.s 5)],none⟩,xa 1 7 4 6,xs 1 1 7])
 (.seq (.reg [⟨(some 3),.mv (.c (.bool true)),none⟩])
 (.ret)))
theorem fn184:IsFn prog 184 ac184 [.tmp 3] 8:=⟨f184,⟨[],[],[]⟩,func184,by kernel_rfl,by kernel_rfl,by kernel_rfl,by kernel_rfl⟩
def ac186:AC:=.seq (.reg [⟨(some 4),.mv (.c (.bool false)),none⟩])
 (.seq (.reg [xm 5 1,xc 162 6 [.s 5],xm 7 6,xg 7 (xm 8 0),xg 7 (xm 9 1),⟨(some 10),.cvI .u64 (.s 9),(some (7,true))⟩,xg 7 (xb .shr 11 8 10),⟨(some 12),.binI .and (.s 11) (.c (.int .u64 1)),(some (7,true))⟩,⟨(some 13),.binI .eql (.s 12) (.c (.int .u64 1)),(some (7,true))⟩,⟨(some 14),.pick (.s 7) (.s 13) (.c (.bool false)),none⟩,xm 4 14])
 (.ret))
theorem fn186:IsFn prog 186 ac186 [.tmp 4] 15:=⟨f186,⟨[],[],[]⟩,func186,by kernel_rfl,by kernel_rfl,by kernel_rfl,by kernel_rfl⟩
def ac187:AC:=.seq (.reg [xi 2 0])
 (.seq (.seq (.reg [xm 3 0,⟨(some 4),.binI .eql (.s 3) (.c (.int .u64 0)),none⟩])
 (.cond (.s 4) (.seq (.reg [xi 2 64])
 (.ret))
 (.skip)))
 (.seq (.reg [xm 5 0,xm 6 0,⟨(some 7),.binI .sub (.c (.int .u64 0)) (.s 6),none⟩,xb .and 8 5 7,⟨(some 9),.binI .mul (.s 8) (.c (.int .u64 285870213051353865)),none⟩,⟨(some 10),.binI .shr (.s 9) (.c (.int .u64 58)),none⟩,⟨(some 11),.idxP 64 1 (.c (.ptr (.glo 1) 0)) (.s 10),none⟩,xo 12 11,⟨(some 13),.cvI .i64 (.s 12),none⟩,xm 2 13])
 (.ret)))
theorem fn187:IsFn prog 187 ac187 [.tmp 2] 14:=⟨f187,⟨[],[],[]⟩,func187,by kernel_rfl,by kernel_rfl,by kernel_rfl,by kernel_rfl⟩
def iCells (l:List Int):List (List V):=l.map fun n=>[.int .i64 n]
theorem iCells_len (l:List Int):(iCells l).length=l.length:=by simp[iCells]
theorem iCells_at {l:List Int} {j:Nat} (h:j<l.length):(iCells l)[((j:Nat):Int).toNat]?=some [.int .i64 l[j]]:=by simp[iCells,h]
theorem iCells_snoc {l:List Int} {n:Int}:iCells (l++[n])=iCells l++[[.int .i64 n]]:=by simp[iCells]
theorem mask_in_calls (n:Int) (σ:Store):PCalls prog 162 [.int .i64 n] σ fun v σ' => v = .bool (decide (0≤n)&&decide (n<64))∧σ' = σ:=by
  refine fn162.calls ?_;simp only[slots,ac162,am,ams]
  by_cases h:0≤n
  · simp only[am,decide_eq_true h];refine retS ?_;simp[V.erase]
  · simp only[am,decide_eq_false h];refine retS ?_;simp[V.erase]
def z0_:=And.intro @am <| And.intro @ams <| And.intro @w_zero @w_one
theorem mask_with_calls (s:B64) (n:Int) (σ:Store):PCalls prog 145 [.int .u64 (s.toNat:Nat),.int .i64 n] σ fun v σ' => v = .int .u64 ((withB s n).toNat:Nat)∧σ' = σ:=by
  refine fn145.calls ?_;simp only[slots,ac145,z0_,Nat.reduceAdd];refine cl (mask_in_calls n _) ?_;simp only[am]
  by_cases h:0≤n∧n<64
  · obtain⟨m,rfl⟩:∃m:Nat,n=m:=⟨n.toNat,by omega⟩;simp only[am,w_or,w_shl,decide_eq_true h.1,decide_eq_true h.2,wrap_u64 h.1 (by omega:(m:Int)<18446744073709551616)];refine retS ?_;simp[V.erase,withB,h,bitB]
  · have:(decide (0≤n)&&decide (n<64))=false:=by simp only[Bool.and_eq_false_iff,decide_eq_false_iff_not];omega
    simp only[am,this];refine retS ?_;simp[V.erase,withB,h]
theorem mask_of_calls (l:List Int) (σ:Store) (hl:l.length≤100000):PCalls prog 171 [.sl .no 1 (iCells l)] σ fun v σ' => v = .int .u64 ((ofB l).toNat:Nat)∧σ' = σ:=by
  refine fn171.calls ?_;simp only[slots,ac171,am,ams,w_zero];obtain⟨F,hF⟩:∃F:Nat→B64→St,∀i x,F i x=⟨[.sl .no 1 (iCells l),.any,.int .u64 ((0#64:B64).toNat:Nat),.int .u64 (x.toNat:Nat),.any,.any,.sl .no 1 (iCells l),.int .i64 (l.length:Nat),.int .i64 (i:Nat)]++List.replicate 8 .any,[],σ⟩:=⟨_,fun _ _=>rfl⟩;obtain⟨JF,hJF⟩:∃JF:Nat→B64→Prop,∀i x,JF i x=(x=ofB (l.take i)):=⟨_,fun _ _=>rfl⟩;refine vc_count (l.length) F JF _ hJF ?_ ?_ ?_
  · refine ent (0#64) ?_ ?_ ?_ ?_
    · exact Eq.mpr (hJF _ _) (rfl)
    all_goals simp[hF,List.replicate,am,lle_self,iCells_len]
  · rintro i x hi rfl;simp only[hF,List.replicate,am,dlt hi];refine idxL_intro (by omega) (iCells_at hi) ?_;simp only[am];refine cl (mask_with_calls _ _ _) ?_;simp only[am,aml,winc hi (by omega)];refine nxt (withB (ofB (l.take i)) l[i]) hi ?_ ?_ ?_ ?_
    · exact Eq.mpr (hJF _ _) (by rw[List.take_succ_eq_append_getElem hi];simp only[ofB,List.foldl_append,List.foldl_cons,List.foldl_nil])
    all_goals simp[hF,List.replicate,am,lle_self]
  · rintro x rfl;simp only[hF,List.replicate,am,aml,dnl,aml,List.take_length];refine retS ?_;simp[V.erase]
theorem shr_bit (s:B64) (m:Nat):decide (s>>>m&&&1#64=1#64)=s.getLsbD m:=by
  have:(s>>>m&&&1#64=1#64)↔s.getLsbD m=true:=by
    constructor
    · intro h
      have:=congrArg (fun x:B64=>x.getLsbD 0) h
      simpa using this
    · intro h;apply eqB;intro k hk;rw[BitVec.getLsbD_and,BitVec.getLsbD_ushiftRight,BitVec.getLsbD_one]
      by_cases h0:k=0
      · subst h0;simp[h]
      · simp[h0]
  by_cases hc:s.getLsbD m=true
  · rw[hc,decide_eq_true (this.2 hc)]
  · rw[decide_eq_false (fun h=>hc (this.1 h))];simpa using hc
def z1_:=And.intro @am <| And.intro @w_and <| And.intro @w_shr @w_eq
theorem mask_has_calls (s:B64) (n:Int) (σ:Store):PCalls prog 186 [.int .u64 (s.toNat:Nat),.int .i64 n] σ fun v σ' => v = .bool (hasB s n)∧σ' = σ:=by
  refine fn186.calls ?_;simp only[slots,ac186,am,ams,Nat.reduceAdd,w_one];refine cl (mask_in_calls n _) ?_;simp only[am]
  by_cases h:0≤n∧n<64
  · obtain⟨m,rfl⟩:∃m:Nat,n=m:=⟨n.toNat,by omega⟩;simp only[z1_,decide_eq_true h.1,decide_eq_true h.2,wrap_u64 h.1 (by omega:(m:Int)<18446744073709551616),shr_bit];refine retS ?_;simp[V.erase,hasB]
  · have:(decide (0≤n)&&decide (n<64))=false:=by simp only[Bool.and_eq_false_iff,decide_eq_false_iff_not];omega
    simp only[am,this];refine retS ?_;simp[V.erase,hasB];intro h0;exact BitVec.getLsbD_of_ge _ _ (by omega)
def z2_:=And.intro @am <| And.intro @ams <| And.intro @w_zero <| And.intro @w_andNot @w_eq
theorem mask_sub_calls (a b:B64) (σ:Store):PCalls prog 128 [.int .u64 (a.toNat:Nat),.int .u64 (b.toNat:Nat)] σ fun v σ' => v = .bool (subB a b)∧σ' = σ:=by
  refine fn128.calls ?_;simp only[slots,ac128,z2_,Nat.reduceAdd];refine retS ?_;simp[V.erase,subB]
def z3_:=And.intro @am <| And.intro @ams <| And.intro @w_zero <| And.intro @w_one @w_ones
theorem mask_below_calls (n:Int) (σ:Store):PCalls prog 129 [.int .i64 n] σ fun v σ' => v = .int .u64 ((belowB n).toNat:Nat)∧σ' = σ:=by
  refine fn129.calls ?_;simp only[slots,ac129,z3_]
  by_cases h:n≤0
  · simp only[am,decide_eq_true h];refine retS ?_;simp[V.erase,belowB,h]
  · simp only[am,decide_eq_false h]
    by_cases h1:64≤n
    · simp only[am,decide_eq_true h1];refine retS ?_;simp[V.erase,belowB,h,h1]
    · obtain⟨m,rfl⟩:∃m:Nat,n=m:=⟨n.toNat,by omega⟩;simp only[am,w_shl,w_sub,decide_eq_false h1,wrap_u64 (by omega:0≤(m:Int)) (by omega:(m:Int)<18446744073709551616)];have e:belowB (m:Int)=bitB m - 1#64:=by simp only[belowB,h,h1,if_false,Int.toNat_natCast]
      refine retS ?_;simp[V.erase,e,bitB]
abbrev TZ (σ:Store):Prop:=σ.con 1=some tzCells
theorem tz_calls (s:B64) (h:s≠0#64) {σ:Store} (hg:TZ σ):PCalls prog 187 [.int .u64 (s.toNat:Nat)] σ fun v σ' => v = .int .i64 (lowB s:Nat)∧σ' = σ:=by
  refine fn187.calls ?_;simp only[slots,ac187,z2_];obtain⟨h1,h2⟩:=tz_at (lowB s) (lowB_spec h).1;simp only[am,w_and,w_sub,decide_eq_false h,show V.int .u64 285870213051353865 = .int .u64 ((285870213051353865#64:B64).toNat:Nat) from rfl,w_mul];rw[BitVec.zero_sub,neg_low h];generalize hj:((bitB (lowB s)*285870213051353865#64)>>>58).toNat=j at h1 h2;have e58:∀a:B64,intV .u64 (a.toNat:Nat) 58 .shr=some (.int .u64 ((a>>>58).toNat:Nat)):=fun a=>w_shr (m:=58)
  simp only[am,amc,e58,hj];refine idxPL_ptr (by omega) (by omega) ?_;have hd:ldC false 1 (tzCells.drop j)=some (.int .u8 (lowB s:Nat)):=by
    obtain⟨h3,h4⟩:=List.getElem?_eq_some_iff.1 h2;have h5:j<tzCells.length:=by simpa [tzCells] using h3
    rw[List.drop_eq_getElem_cons h5];simp[ldC,tzCells,h4]
  rw[show (((j:Nat):Int).toNat)*1=j by omega];simp only[am,show σ.con 1=some tzCells from hg,hd,wrap_i64 (x:=((lowB s:Nat):Int)) (by omega) (by have:=(lowB_spec h).1;omega)];refine retS ?_;simp[V.erase]
def z4_:=And.intro @am <| And.intro @aml <| And.intro @w_and @w_sub
theorem each_calls (f:FuncId) (cap:List V) (hn:nolL cap=true) (J:List Nat→Store→Prop) (s:B64) (hg:∀l σ,J l σ→TZ σ)
    (h:∀pre k suf σ,listB s=pre++k::suf→J pre σ→PCalls prog f (.int .i64 (k:Nat)::cap) σ fun v σ' => v = .bool true∧J (pre++[k]) σ')
    {σ:Store} (h0:J [] σ):PCalls prog 183 [.int .u64 (s.toNat:Nat),.fn (.func f) [] cap] σ fun v σ' => v = .tup []∧J (listB s) σ' := by
  refine fn183.calls ?_;simp only[slots,ac183,z0_,Nat.reduceAdd];obtain⟨F,hF⟩:∃F:Nat→B64 × Store→St,∀i x,F i x=⟨[.int .u64 (x.1.toNat:Nat),.fn (.func f) [] cap]++List.replicate 13 .any,[],x.2⟩:=⟨_,fun _ _=>rfl⟩;obtain⟨JF,hJF⟩:∃JF:Nat→B64 × Store→Prop,∀i x,JF i x=(listB x.1=(listB s).drop i∧J ((listB s).take i) x.2):=⟨_,fun _ _=>rfl⟩;refine vc_count ((listB s).length) F JF _ hJF ?_ ?_ ?_
  · refine ent ((s,σ)) ?_ ?_ ?_ ?_
    · exact Eq.mpr (hJF _ _) (⟨rfl,h0⟩)
    all_goals simp[hF,List.replicate,am,lle_self]
  · rintro i ⟨x,σ⟩ hi ⟨h1,h2⟩;simp only at h1 h2;have hx:x≠0#64:=listB_ne (by rw[h1];simp;omega);rw[List.drop_eq_getElem_cons hi] at h1;have hl:=listB_cons hx;rw[h1,List.cons.injEq] at hl;obtain⟨hl1,hl2⟩:=hl;simp only[hF,List.replicate,am,w_eq,decide_eq_false hx];refine cl (tz_calls x hx (hg _ _ h2)) ?_;simp only[am];simp only[am,hn];rw[←hl1];refine(h _ _ ((listB s).drop (i+1)) σ (by rw[←List.drop_eq_getElem_cons hi,List.take_append_drop]) h2).mono ?_;rintro v σ' ⟨rfl,h3⟩;simp only[z4_];refine nxt ((x&&&(x - 1#64),σ')) hi ?_ ?_ ?_ ?_
    · exact Eq.mpr (hJF _ _) (⟨hl2.symm,by rw[List.take_succ_eq_append_getElem hi];exact h3⟩)
    all_goals simp[hF,List.replicate,am,lle_self]
  · rintro⟨x,σ⟩ ⟨h1,h2⟩;simp only[List.drop_length,List.take_length] at h1 h2;have hx:=listB_zero h1;subst hx;simp only[hF,List.replicate,am,aml,decide_true,aml];exact retK_intro rfl (Store.sub_refl _) ⟨rfl,h2⟩
def Bx (σ0 σ:Store) (b:Nat) (tk:Tk) (rows:List (List V)):Prop:=σ.box b=some [.sl tk 1 rows]∧Gr σ0 σ tk rows.length∧σ0.box b=none
theorem list1_calls (n:Int) {σ0 σ:Store} {b:Nat} {tk:Tk} {l:List Int} (h:Bx σ0 σ b tk (iCells l)) (hl:l.length≤100000) :
    PCalls prog 184 [.int .i64 n,.ptr (.out b) 0] σ fun v σ' => v = .bool true∧∃tk',Bx σ0 σ' b tk' (iCells (l++[n])):=by
  refine fn184.calls ?_;simp only[slots,ac184,am,ams,Nat.reduceAdd];obtain⟨h1,h2,h3⟩:=h;simp only[am,h1];refine Gr.app h2 (by simp[iCells,big];omega) fun tk' σ' hG hB _=>?_
  simp only[am,show σ'.box b=some [.sl tk 1 (iCells l)] by rw[hB,h1]];refine retK_intro rfl (Store.sub_refl _) ⟨rfl,tk',?_,?_,h3⟩
  · simp[Store.set,iCells]
  · refine⟨⟨fun c cs hc=>?_,hG.sub.2⟩,?_⟩
    · rw[Store.set_other]
      · exact hG.sub.1 c cs hc
      · rintro rfl;rw[h3] at hc;simp at hc
    · simpa [iCells,Store.set] using hG.tk
theorem mask_list_calls (s:B64) {σ:Store} (hg:TZ σ):PCalls prog 170 [.int .u64 (s.toNat:Nat)] σ fun v σ' => v = .sl .no 1 (iCells ((listB s).map Int.ofNat))∧σ' = σ:=by
  refine fn170.calls ?_;simp only[slots,ac170,am,ams];refine kO_intro fun b hb=>?_
  simp only[am];have hl:=listB_len s;refine(each_calls _ _ rfl (fun l σ' => ∃tk,Bx σ σ' b tk (iCells (l.map Int.ofNat))) s ?_ ?_ ⟨.full,?_⟩).mono ?_
  · rintro l σ' ⟨tk,h1,h2,h3⟩;exact h2.sub.2.2 _ _ hg
  · rintro pre k suf σ' hs ⟨tk,h⟩
    have:pre.length≤64:=by rw[hs] at hl;simp at hl;omega
    have:=list1_calls k h (by simp;omega)
    simpa using this
  · exact⟨set_box,⟨sub_set hb,.inl rfl⟩,hb⟩
  · rintro v σ' ⟨rfl,tk,h1,h2,h3⟩;simp only[am,h1];exact retK_intro rfl h2.sub ⟨rfl,rfl⟩
end Go.Proofs.Tryz

namespace Go.Proofs.Tryz
open Go.Am
set_option maxRecDepth 4000
set_option maxHeartbeats 4000000
def ac142:AC:=.seq (.reg [⟨(some 2),.box 65 (.s 0),none⟩,⟨(some 3),.box 65 (.s 1),none⟩,⟨(some 4),.mv (.c (.bool false)),none⟩])
 (.seq (.draw [(xl 65 5 2,[]),(xc 157 6 [.s 5],[]),(xl 65 7 3,[0]),(xc 157 8 [.s 7],[]),(⟨(some 9),.eqA false rel1 (.s 6) (.s 8),none⟩,[]),(xm 4 9,[])])
 (.ret))
theorem fn142:IsFn prog 142 ac142 [.tmp 4] 10:=⟨f142,⟨[],[],[]⟩,func142,by kernel_rfl,by kernel_rfl,by kernel_rfl,by kernel_rfl⟩
def ac153:AC:=.seq (.reg [⟨(some 2),.alloc relZ,none⟩])
 (.seq (.reg [xm 3 0,⟨(some 4),.build relZ [(0,1,(.s 3))],none⟩,xc 174 5 [.s 4],⟨(some 6),.build relZ [(0,1,(.s 5))],none⟩,xs 65 2 6])
 (.ret))
theorem fn153:IsFn prog 153 ac153 [.cell 2 true 65] 7:=⟨f153,⟨[],[],[]⟩,func153,by kernel_rfl,by kernel_rfl,by kernel_rfl,by kernel_rfl⟩
def ac157:AC:=.seq (.reg [⟨(some 1),.box 65 (.s 0),none⟩,⟨(some 2),.alloc relZ,none⟩])
 (.seq (.reg [xl 65 5 1,xc 174 6 [.s 5],⟨(some 7),.build relZ [(0,1,(.s 6))],none⟩,⟨(some 3),.alloc relZ,none⟩,xs 65 3 7])
 (.seq (.seq (.reg [xf 0 8 3,xo 9 8,xi 10 0])
 (.block 0 (.loop (.seq (.reg [xb .lss 11 10 9])
 (.seq (.cond (.s 11) (.skip)
 (.exit 0))
 (.seq (.block 1 (.seq (.reg [xm 12 10,xm 4 12])
 (.reg [xm 13 4,xl 65 14 1,xm 15 4,xc 177 16 [.s 14,.s 15],xf 1 17 3,⟨(some 18),.idxP 64 1 (.s 17) (.s 13),none⟩,xs 1 18 16])))
 (.reg [xB .add 19 10 1,xm 10 19])))))))
 (.seq (.reg [xl 65 20 3,xs 65 2 20])
 (.ret))))
theorem fn157:IsFn prog 157 ac157 [.cell 2 true 65] 21:=⟨f157,⟨[],[],[]⟩,func157,by kernel_rfl,by kernel_rfl,by kernel_rfl,by kernel_rfl⟩
def ac158:AC:=.seq (.reg [⟨(some 1),.box 65 (.s 0),none⟩,⟨(some 2),.mv (.c (.bool false)),none⟩])
 (.seq (.draw [(xl 65 3 1,[]),(xc 157 4 [.s 3],[]),(xl 65 5 1,[0]),(xc 178 6 [.s 5],[]),(⟨(some 7),.eqA false rel1 (.s 4) (.s 6),none⟩,[]),(xm 2 7,[])])
 (.ret))
theorem fn158:IsFn prog 158 ac158 [.tmp 2] 8:=⟨f158,⟨[],[],[]⟩,func158,by kernel_rfl,by kernel_rfl,by kernel_rfl,by kernel_rfl⟩
def ac159:AC:=.seq (.reg [⟨(some 1),.box 65 (.s 0),none⟩,⟨(some 2),.mv (.c (.bool false)),none⟩])
 (.seq (.seq (.reg [xl 65 4 1,xc 158 5 [.s 4],⟨(some 6),.not (.s 5),none⟩])
 (.cond (.s 6) (.seq (.reg [⟨(some 2),.mv (.c (.bool false)),none⟩])
 (.ret))
 (.skip)))
 (.seq (.seq (.reg [xl 65 7 1,xc 174 8 [.s 7],xi 9 0])
 (.block 0 (.loop (.seq (.reg [xb .lss 10 9 8])
 (.seq (.cond (.s 10) (.skip)
 (.exit 0))
 (.seq (.block 1 (.seq (.reg [xm 11 9,xm 3 11])
 (.seq (.reg [xl 65 12 1,xm 13 3,xc 179 14 [.s 12,.s 13],xm 15 3,⟨(some 16),.bslice 1 [(.s 15)],none⟩,xc 171 17 [.s 16],xb .neq 18 14 17])
 (.cond (.s 18) (.seq (.reg [⟨(some 2),.mv (.c (.bool false)),none⟩])
 (.ret))
 (.skip)))))
 (.reg [xB .add 19 9 1,xm 9 19])))))))
 (.seq (.reg [⟨(some 2),.mv (.c (.bool true)),none⟩])
 (.ret))))
theorem fn159:IsFn prog 159 ac159 [.tmp 2] 20:=⟨f159,⟨[],[],[]⟩,func159,by kernel_rfl,by kernel_rfl,by kernel_rfl,by kernel_rfl⟩
def ac164:AC:=.seq (.reg [⟨(some 2),.box 65 (.s 0),none⟩,⟨(some 4),.mv (.c (.int .u64 0)),none⟩])
 (.seq (.reg [⟨(some 5),.mv (.c (.int .u64 0)),none⟩])
 (.seq (.seq (.reg [xm 8 1,xl 65 9 2,xc 174 10 [.s 9],xc 129 11 [.s 10],xb .and 12 8 11,xc 170 13 [.s 12],xL 14 13,xi 15 0])
 (.block 0 (.loop (.seq (.reg [xb .lss 16 15 14])
 (.seq (.cond (.s 16) (.skip)
 (.exit 0))
 (.seq (.block 1 (.seq (.reg [xA 1 17 13 15,xo 18 17,xm 7 18])
 (.reg [xm 19 5,xl 65 20 2,xm 21 7,xc 177 22 [.s 20,.s 21],xb .or 23 19 22,xm 5 23])))
 (.reg [xB .add 24 15 1,xm 15 24])))))))
 (.seq (.reg [xm 25 5,xm 4 25])
 (.ret))))
theorem fn164:IsFn prog 164 ac164 [.tmp 4] 26:=⟨f164,⟨[],[],[]⟩,func164,by kernel_rfl,by kernel_rfl,by kernel_rfl,by kernel_rfl⟩
def ac172:AC:=.seq (.reg [⟨(some 2),.box 65 (.s 0),none⟩,⟨(some 4),.mv (.c (.int .u64 0)),none⟩])
 (.seq (.reg [⟨(some 5),.mv (.c (.int .u64 0)),none⟩])
 (.seq (.seq (.reg [xl 65 7 2,xc 174 8 [.s 7],xi 9 0])
 (.block 0 (.loop (.seq (.reg [xb .lss 10 9 8])
 (.seq (.cond (.s 10) (.skip)
 (.exit 0))
 (.seq (.block 1 (.seq (.reg [xm 11 9,xm 6 11])
 (.seq (.reg [xl 65 12 2,xm 13 6,xc 177 14 [.s 12,.s 13],xm 15 1,xb .and 16 14 15,⟨(some 17),.binI .neq (.s 16) (.c (.int .u64 0)),none⟩])
 (.cond (.s 17) (.reg [xm 18 5,xm 19 6,xc 145 20 [.s 18,.s 19],xm 5 20])
 (.skip)))))
 (.reg [xB .add 21 9 1,xm 9 21])))))))
 (.seq (.reg [xm 22 5,xm 4 22])
 (.ret))))
theorem fn172:IsFn prog 172 ac172 [.tmp 4] 23:=⟨f172,⟨[],[],[]⟩,func172,by kernel_rfl,by kernel_rfl,by kernel_rfl,by kernel_rfl⟩
def ac174:AC:=.seq (.reg [⟨(some 1),.box 65 (.s 0),none⟩,xi 2 0])
 (.seq (.reg [xf 0 3 1,xo 4 3,⟨(some 5),.own .min [(.s 4),(.c (.int .i64 64))],none⟩,⟨(some 6),.own .max [(.c (.int .i64 0)),(.s 5)],none⟩,xm 2 6])
 (.ret))
theorem fn174:IsFn prog 174 ac174 [.tmp 2] 7:=⟨f174,⟨[],[],[]⟩,func174,by kernel_rfl,by kernel_rfl,by kernel_rfl,by kernel_rfl⟩
def ac177:AC:=.seq (.reg [⟨(some 2),.box 65 (.s 0),none⟩,⟨(some 4),.mv (.c (.int .u64 0)),none⟩])
 (.seq (.draw [(xm 5 1,[]),(xf 1 6 2,[]),(⟨(some 7),.idxP 64 1 (.s 6) (.s 5),none⟩,[]),(xo 8 7,[1,2]),(xl 65 9 2,[]),(xc 174 10 [.s 9],[]),(xc 129 11 [.s 10],[]),(xb .and 12 8 11,[]),(xm 4 12,[])])
 (.ret))
theorem fn177:IsFn prog 177 ac177 [.tmp 4] 13:=⟨f177,⟨[],[],[]⟩,func177,by kernel_rfl,by kernel_rfl,by kernel_rfl,by kernel_rfl⟩
def ac178:AC:=.seq (.reg [⟨(some 1),.box 65 (.s 0),none⟩,⟨(some 2),.alloc relZ,none⟩])
 (.seq (.reg [xl 65 7 1,xc 157 8 [.s 7],⟨(some 3),.alloc relZ,none⟩,xs 65 3 8])
 (.seq (.seq (.reg [xf 0 9 3,xo 10 9,xi 11 0])
 (.block 0 (.loop (.seq (.reg [xb .lss 12 11 10])
 (.seq (.cond (.s 12) (.skip)
 (.exit 0))
 (.seq (.block 1 (.seq (.reg [xm 13 11,xm 4 13])
 (.reg [xm 14 4,xm 15 4,xf 1 16 3,⟨(some 17),.idxP 64 1 (.s 16) (.s 15),none⟩,xo 18 17,xm 19 4,xc 145 20 [.s 18,.s 19],xf 1 21 3,⟨(some 22),.idxP 64 1 (.s 21) (.s 14),none⟩,xs 1 22 20])))
 (.reg [xB .add 23 11 1,xm 11 23])))))))
 (.seq (.seq (.reg [xf 0 24 3,xo 25 24,xi 26 0])
 (.block 2 (.loop (.seq (.reg [xb .lss 27 26 25])
 (.seq (.cond (.s 27) (.skip)
 (.exit 2))
 (.seq (.block 3 (.seq (.reg [xm 28 26,xm 5 28])
 (.seq (.reg [xf 0 29 3,xo 30 29,xi 31 0])
 (.block 4 (.loop (.seq (.reg [xb .lss 32 31 30])
 (.seq (.cond (.s 32) (.skip)
 (.exit 4))
 (.seq (.block 5 (.seq (.reg [xm 33 31,xm 6 33])
 (.seq (.reg [xm 34 6,xf 1 35 3,⟨(some 36),.idxP 64 1 (.s 35) (.s 34),none⟩,xo 37 36,xm 38 5,xc 186 39 [.s 37,.s 38]])
 (.cond (.s 39) (.draw [(xm 40 6,[]),(xf 1 41 3,[]),(⟨(some 42),.idxP 64 1 (.s 41) (.s 40),none⟩,[]),(xo 43 42,[]),(xm 44 5,[]),(xf 1 45 3,[]),(⟨(some 46),.idxP 64 1 (.s 45) (.s 44),none⟩,[]),(xo 47 46,[]),(xb .or 48 43 47,[]),(xf 1 49 3,[]),(⟨(some 50),.idxP 64 1 (.s 49) (.s 40),none⟩,[]),(xs 1 50 48,[])])
 (.skip)))))
 (.reg [xB .add 51 31 1,xm 31 51])))))))))
 (.reg [xB .add 52 26 1,xm 26 52])))))))
 (.seq (.reg [xl 65 53 3,xs 65 2 53])
 (.ret)))))
theorem fn178:IsFn prog 178 ac178 [.cell 2 true 65] 54:=⟨f178,⟨[],[],[]⟩,func178,by kernel_rfl,by kernel_rfl,by kernel_rfl,by kernel_rfl⟩
def ac179:AC:=.seq (.reg [⟨(some 2),.box 65 (.s 0),none⟩,⟨(some 4),.mv (.c (.int .u64 0)),none⟩])
 (.seq (.reg [xm 6 1,⟨(some 7),.bslice 1 [(.s 6)],none⟩,xc 171 8 [.s 7],xm 5 8])
 (.seq (.draw [(xl 65 9 2,[]),(xm 10 5,[]),(xc 164 11 [.s 9,.s 10],[]),(xl 65 12 2,[0]),(xm 13 5,[]),(xc 172 14 [.s 12,.s 13],[]),(xb .and 15 11 14,[]),(xm 4 15,[])])
 (.ret)))
theorem fn179:IsFn prog 179 ac179 [.tmp 4] 16:=⟨f179,⟨[],[],[]⟩,func179,by kernel_rfl,by kernel_rfl,by kernel_rfl,by kernel_rfl⟩
def z5_:=And.intro @am <| And.intro @amo <| And.intro @ams @Rl.rec_
theorem points_calls (r:Rl) (σ:Store):PCalls prog 174 [.agg r.enc] σ fun v σ' => v = .int .i64 (pts r:Nat)∧σ' = σ:=by
  refine fn174.calls ?_;simp only[slots,ac174,z5_];refine min_intro ?_;simp only[am,amo];refine max_intro ?_;simp only[am];refine retS ?_;simp[V.erase];simp only[pts];split<;>split<;>omega
def z6_:=And.intro @am <| And.intro @amc <| And.intro @ams <| And.intro @w_zero @Rl.rec_
def z7_:=And.intro @am <| And.intro @Rl.rec_ <| And.intro @Int.toNat_natCast @Nat.mul_one
theorem row_calls (r:Rl) (i:Nat) (h:i<64) (σ:Store):PCalls prog 177 [.agg r.enc,.int .i64 (i:Nat)] σ fun v σ' => v = .int .u64 ((rowR r i).toNat:Nat)∧σ' = σ:=by
  refine fn177.calls ?_;simp only[slots,ac177,z6_,Nat.reduceAdd];refine idxPL_ptr (by omega) (by omega) ?_;simp only[z7_,Rl.u_ld h];refine CallD.intro (points_calls r σ) ?_;simp only[am];refine CallD.intro (mask_below_calls _ σ) ?_;simp only[am,w_and];refine⟨⟨Rl.u_ld h,Rl.u_ld h⟩,?_⟩;refine retS ?_;simp[V.erase,rowR]
def z8_:=And.intro @am <| And.intro @aml <| And.intro @Int.toNat_natCast @Nat.mul_one
theorem plain_calls (r:Rl) (σ:Store):PCalls prog 157 [.agg r.enc] σ fun v σ' => v = .agg (plainR r).enc∧σ' = σ:=by
  refine fn157.calls ?_;simp only[slots,ac157,am,ams,Rl.rec_];refine cl (points_calls r σ) ?_;simp only[am,Nat.reduceAdd,Rl.rec_];have hp:=@pts_le r;obtain⟨F,hF⟩:∃F:Nat→Unit→St,∀i x,F i x=⟨[.agg r.enc,.ptr (.loc 0) 0,.ptr (.loc 1) 0,.ptr (.loc 2) 0,.any,.any,.any,.any,.any,.int .i64 (pts r:Nat),.int .i64 (i:Nat)]++List.replicate 10 .any,[r.enc,Rl.zero.enc,(Rl.of (pts r:Nat) fun j=>if j<i then rowR r j else 0#64).enc],σ⟩:=⟨_,fun _ _=>rfl⟩;obtain⟨JF,hJF⟩:∃JF:Nat→Unit→Prop,∀i x,JF i x=(True):=⟨_,fun _ _=>rfl⟩;refine vc_count (pts r) F JF _ hJF ?_ ?_ ?_
  · refine ent (()) ?_ ?_ ?_ ?_
    · exact Eq.mpr (hJF _ _) (trivial)
    all_goals simp[hF,List.replicate,am,lle_self,Rl.zero_setn,Rl.of_n]
  · rintro i x hi -;simp only[hF,List.replicate,am,dlt hi,Rl.rec_];refine cl (row_calls r i (by omega) σ) ?_;simp only[am,amc];refine idxPL_ptr (by omega) (by omega) ?_;simp only[z8_,Rl.u_has (show i<64 by omega),Rl.u_st (show i<64 by omega),winc hi (by omega)];refine nxt (()) hi ?_ ?_ ?_ ?_
    · exact Eq.mpr (hJF _ _) (trivial)
    all_goals simp[hF,List.replicate,am,lle_self,Rl.fill]
  · rintro x -;simp only[hF,List.replicate,am,aml,dnl,aml,Rl.rec_];refine retS ?_;simp[V.erase,plainR,Rl.r_er]
theorem new_calls (n:Int) (σ:Store):PCalls prog 153 [.int .i64 n] σ fun v σ' => v = .agg (Rl.of (min n.toNat 64:Nat) fun _=>0#64).enc∧σ' = σ:=by
  refine fn153.calls ?_;simp only[slots,ac153,am,ams,Rl.rec_];refine cl (points_calls _ σ) ?_;simp only[am,Rl.rec_];refine retS ?_;simp only[V.erase,Rl.r_er,Rl.zero_setn];rfl
theorem same_calls (r s:Rl) (σ:Store):PCalls prog 142 [.agg r.enc,.agg s.enc] σ fun v σ' => v = .bool (decide (plainR r=plainR s))∧σ' = σ:=by
  refine fn142.calls ?_;simp only[slots,ac142,am,ams,Nat.reduceAdd,Rl.rec_];refine CallD.intro (plain_calls r σ) ?_;simp only[am,Rl.rec_];refine CallD.intro (plain_calls s σ) ?_;simp only[am,Rl.rec_];refine retS ?_;simp[V.erase]
theorem up_calls (r:Rl) (w:B64) {σ:Store} (hg:TZ σ):PCalls prog 164 [.agg r.enc,.int .u64 (w.toNat:Nat)] σ fun v σ' => v = .int .u64 ((upR r w).toNat:Nat)∧σ' = σ:=by
  refine fn164.calls ?_;simp only[slots,ac164,z6_,Nat.reduceAdd];refine cl (points_calls r σ) ?_;simp only[am];refine cl (mask_below_calls _ σ) ?_;simp only[am,w_and];refine cl (mask_list_calls _ hg) ?_;simp only[am,List.length_map,iCells_len];generalize hl:listB (w&&&belowB ↑(pts r))=l;have hlt:∀k∈l,k<64:=fun k hk=>listB_lt (hl▸hk)
  have hlen:l.length≤64:=hl▸listB_len _;obtain⟨F,hF⟩:∃F:Nat→Unit→St,∀i x,F i x=⟨[.agg r.enc,.any,.ptr (.loc 0) 0,.any,.any,.int .u64 (((l.take i).foldl (fun o i=>o|||rowR r i) 0#64).toNat:Nat),.any,.any,.any,.any,.any,.any,.any,.sl .no 1 (iCells (l.map Int.ofNat)),.int .i64 (l.length:Nat),.int .i64 (i:Nat)]++List.replicate 10 .any,[r.enc],σ⟩:=⟨_,fun _ _=>rfl⟩;obtain⟨JF,hJF⟩:∃JF:Nat→Unit→Prop,∀i x,JF i x=(True):=⟨_,fun _ _=>rfl⟩;refine vc_count (l.length) F JF _ hJF ?_ ?_ ?_
  · refine ent (()) ?_ ?_ ?_ ?_
    · exact Eq.mpr (hJF _ _) (trivial)
    all_goals simp[hF,List.replicate,am,lle_self]
  · rintro i x hi -;simp only[hF,List.replicate,am,dlt hi];refine idxL_intro (by omega) (iCells_at (l:=l.map Int.ofNat) (by simpa using hi)) ?_;simp only[am,Rl.rec_,List.getElem_map,Int.ofNat_eq_natCast];refine cl (row_calls r l[i] (hlt _ (List.getElem_mem hi)) σ) ?_;simp only[am,aml,w_or,winc hi (by omega)];refine nxt (()) hi ?_ ?_ ?_ ?_
    · exact Eq.mpr (hJF _ _) (trivial)
    all_goals simp[hF,List.replicate,am,lle_self,foldl_take hi]
  · rintro x -;simp only[hF,List.replicate,am,aml,dnl,aml,List.take_length];refine retS ?_;simp[V.erase,upR,hl]
theorem down_calls (r:Rl) (w:B64) (σ:Store):PCalls prog 172 [.agg r.enc,.int .u64 (w.toNat:Nat)] σ fun v σ' => v = .int .u64 ((downR r w).toNat:Nat)∧σ' = σ:=by
  refine fn172.calls ?_;simp only[slots,ac172,z6_,Nat.reduceAdd];refine cl (points_calls r σ) ?_;simp only[am];have hp:=@pts_le r;obtain⟨F,hF⟩:∃F:Nat→Unit→St,∀i x,F i x=⟨[.agg r.enc,.int .u64 (w.toNat:Nat),.ptr (.loc 0) 0,.any,.any,.int .u64 (((List.range i).foldl (fun o i=>if rowR r i&&&w=0#64 then o else withB o (i:Nat)) 0#64).toNat:Nat),.any,.any,.int .i64 (pts r:Nat),.int .i64 (i:Nat)]++List.replicate 13 .any,[r.enc],σ⟩:=⟨_,fun _ _=>rfl⟩;obtain⟨JF,hJF⟩:∃JF:Nat→Unit→Prop,∀i x,JF i x=(True):=⟨_,fun _ _=>rfl⟩;refine vc_count (pts r) F JF _ hJF ?_ ?_ ?_
  · refine ent (()) ?_ ?_ ?_ ?_
    · exact Eq.mpr (hJF _ _) (trivial)
    all_goals simp[hF,List.replicate,am,lle_self]
  · rintro i x hi -;simp only[hF,List.replicate,am,dlt hi,Rl.rec_];refine cl (row_calls r i (by omega) σ) ?_;simp only[am,w_and,w_eq]
    by_cases h:rowR r i&&&w=0#64
    · simp only[am,aml,decide_eq_true h,winc hi (by omega)];refine nxt (()) hi ?_ ?_ ?_ ?_
      · exact Eq.mpr (hJF _ _) (trivial)
      all_goals simp[hF,List.replicate,am,lle_self,foldl_range_succ,h]
    · simp only[am,decide_eq_false h];refine cl (mask_with_calls _ _ σ) ?_;simp only[am,aml,winc hi (by omega)];refine nxt (()) hi ?_ ?_ ?_ ?_
      · exact Eq.mpr (hJF _ _) (trivial)
      all_goals simp[hF,List.replicate,am,lle_self,foldl_range_succ,h]
  · rintro x -;simp only[hF,List.replicate,am,aml,dnl,aml];refine retS ?_;simp[V.erase,downR]
theorem clos1_step {r:Rl} {i:Nat} (hi:i<pts r):(Rl.of (pts r:Nat) fun j=>if j<pts r then (if j<i then withB (rowR r j) (j:Nat) else rowR r j) else 0#64).put i (withB (rowR r i) (i:Nat))=Rl.of (pts r:Nat) fun j=>if j<pts r then (if j<i+1 then withB (rowR r j) (j:Nat) else rowR r j) else 0#64:=by
  refine Rl.ext rfl fun k hk=>?_
  rw[Rl.get_put,Rl.get_of hk,Rl.get_of hk]
  by_cases h:i=k
  · subst h;simp[hk,hi]
  · rw[if_neg (by omega)]
    by_cases h2:k<i
    · simp[h2,show k<i+1 by omega]
    · simp[h2,show ¬k<i+1 by omega]
theorem clos1_get {r:Rl} {i:Nat} (hi:i<pts r):(Rl.of (pts r:Nat) fun j=>if j<pts r then (if j<i then withB (rowR r j) (j:Nat) else rowR r j) else 0#64).get i=rowR r i:=by
  rw[Rl.get_of (Nat.lt_of_lt_of_le hi pts_le),if_pos hi,if_neg (Nat.lt_irrefl _)]
theorem clos1_end {r:Rl}:(Rl.of (pts r:Nat) fun j=>if j<pts r then (if j<pts r then withB (rowR r j) (j:Nat) else rowR r j) else 0#64)=clos0 r:=by
  refine Rl.ext rfl fun k hk=>?_
  rw[Rl.get_of hk,clos0,Rl.get_of hk];split<;>rfl
theorem inner_succ {n k:Nat} {o:Rl}:innerR (n+1) k o=stepR k (innerR n k o) n:=foldl_range_succ
theorem inner_zero {k:Nat} {o:Rl}:innerR 0 k o=o:=rfl
theorem outer_zero {r:Rl}:outerR r 0=clos0 r:=rfl
theorem plain_n {r:Rl}:(plainR r).n=(pts r:Nat):=rfl
theorem stepR_t {k i:Nat} {o:Rl} (h:hasB (o.get i) (k:Nat)=true):stepR k o i=o.put i (o.get i|||o.get k):=by rw[stepR,if_pos h]
theorem stepR_f {k i:Nat} {o:Rl} (h:hasB (o.get i) (k:Nat)=false):stepR k o i=o:=by rw[stepR,h];rfl
def z9_:=And.intro @am <| And.intro @amc <| And.intro @Int.toNat_natCast @Nat.mul_one
def z10_:=And.intro @am <| And.intro @amc <| And.intro @w_or <| And.intro @Int.toNat_natCast @Nat.mul_one
theorem closure_calls (r:Rl) (σ:Store):PCalls prog 178 [.agg r.enc] σ fun v σ' => v = .agg (closR r).enc∧σ' = σ:=by
  refine fn178.calls ?_;simp only[slots,ac178,am,ams,Rl.rec_];refine cl (plain_calls r σ) ?_;simp only[am,Nat.reduceAdd,Rl.rec_,plain_n];have hp:=@pts_le r;obtain⟨F,hF⟩:∃F:Nat→Unit→St,∀i x,F i x=⟨[.any,.ptr (.loc 0) 0,.ptr (.loc 1) 0,.ptr (.loc 2) 0,.any,.any,.any,.any,.any,.any,.int .i64 (pts r:Nat),.int .i64 (i:Nat)]++List.replicate 42 .any,[r.enc,Rl.zero.enc,(Rl.of (pts r:Nat) fun j=>if j<pts r then (if j<i then withB (rowR r j) (j:Nat) else rowR r j) else 0#64).enc],σ⟩:=⟨_,fun _ _=>rfl⟩;obtain⟨JF,hJF⟩:∃JF:Nat→Unit→Prop,∀i x,JF i x=(True):=⟨_,fun _ _=>rfl⟩;refine vc_count (pts r) F JF _ hJF ?_ ?_ ?_
  · refine ent (()) ?_ ?_ ?_ ?_
    · exact Eq.mpr (hJF _ _) (trivial)
    all_goals simp[hF,List.replicate,am,lle_self,plainR]
  · rintro i x hi -;simp only[hF,List.replicate,am,amc,dlt hi];have h64:i<64:=by omega
    refine idxPL_ptr (by omega) (by omega) ?_;simp only[am,Int.toNat_natCast,Nat.mul_one,Rl.u_ld h64,clos1_get hi];refine cl (mask_with_calls _ _ σ) ?_;simp only[am,amc];refine idxPL_ptr (by omega) (by omega) ?_;simp only[z8_,Rl.u_has h64,Rl.u_st h64,winc hi (by omega)];refine nxt (()) hi ?_ ?_ ?_ ?_
    · exact Eq.mpr (hJF _ _) (trivial)
    all_goals simp[hF,List.replicate,am,lle_self,clos1_step hi]
  · rintro x -;simp only[hF,List.replicate,am,aml,dnl,aml,Rl.rec_,Rl.of_n];rw[clos1_end];clear hF F;obtain⟨F,hF⟩:∃F:Nat→Unit→St,∀k x,F k x=⟨[.any,.ptr (.loc 0) 0,.ptr (.loc 1) 0,.ptr (.loc 2) 0,.any,.any,.any,.any,.any,.any,.any,.any,.any,.any,.any,.any,.any,.any,.any,.any,.any,.any,.any,.any,.any,.int .i64 (pts r:Nat),.int .i64 (k:Nat)]++List.replicate 27 .any,[r.enc,Rl.zero.enc,(outerR r k).enc],σ⟩:=⟨_,fun _ _=>rfl⟩;obtain⟨JF,hJF⟩:∃JF:Nat→Unit→Prop,∀k x,JF k x=(True):=⟨_,fun _ _=>rfl⟩;refine vc_count (pts r) F JF _ hJF ?_ ?_ ?_
    · refine ent (()) ?_ ?_ ?_ ?_
      · exact Eq.mpr (hJF _ _) (trivial)
      all_goals simp[hF,List.replicate,am,lle_self,outer_zero]
    · rintro k x hi -;simp only[hF,List.replicate,am,dlt hi,Rl.rec_,outer_n];obtain⟨F2,hF2⟩:∃F2:Nat→Unit→St,∀i x,F2 i x=⟨[.any,.ptr (.loc 0) 0,.ptr (.loc 1) 0,.ptr (.loc 2) 0,.any,.int .i64 (k:Nat),.any,.any,.any,.any,.any,.any,.any,.any,.any,.any,.any,.any,.any,.any,.any,.any,.any,.any,.any,.int .i64 (pts r:Nat),.int .i64 (k:Nat),.any,.any,.any,.int .i64 (pts r:Nat),.int .i64 (i:Nat)]++List.replicate 22 .any,[r.enc,Rl.zero.enc,(innerR i k (outerR r k)).enc],σ⟩:=⟨_,fun _ _=>rfl⟩;obtain⟨JF2,hJF2⟩:∃JF2:Nat→Unit→Prop,∀i x,JF2 i x=(True):=⟨_,fun _ _=>rfl⟩;refine vc_count (pts r) F2 JF2 _ hJF2 ?_ ?_ ?_
      · refine ent (()) ?_ ?_ ?_ ?_
        · exact Eq.mpr (hJF2 _ _) (trivial)
        all_goals simp[hF2,List.replicate,am,lle_self,inner_zero]
      · rintro i x hj -;have hi64:i<64:=by omega
        have hk64:k<64:=by omega
        simp only[hF2,List.replicate,am,amc,dlt hj];refine idxPL_ptr (by omega) (by omega) ?_;simp only[am,Int.toNat_natCast,Nat.mul_one,Rl.u_ld hi64];refine cl (mask_has_calls _ _ σ) ?_;simp only[am];refine vcIf_split (fun hb=>?_) (fun hb=>?_)
        · simp only[am,amc];refine idxPL_ptr (by omega) (by omega) ?_;simp only[z9_,Rl.u_ld hi64];refine idxPL_ptr (by omega) (by omega) ?_;simp only[z10_,Rl.u_ld hk64];refine idxPL_ptr (by omega) (by omega) ?_;simp only[z8_,Rl.u_has hi64,Rl.u_st hi64,winc hj (by omega)];refine nxt (()) hj ?_ ?_ ?_ ?_
          · exact Eq.mpr (hJF2 _ _) (trivial)
          all_goals simp[hF2,List.replicate,am,lle_self,inner_succ,stepR_t hb]
        · simp only[am,aml,winc hj (by omega)];refine nxt (()) hj ?_ ?_ ?_ ?_
          · exact Eq.mpr (hJF2 _ _) (trivial)
          all_goals simp[hF2,List.replicate,am,lle_self,inner_succ,stepR_f hb]
      · rintro x -;simp only[hF2,List.replicate,am,aml,dnl,Nat.reduceEqDiff,aml,Rl.rec_,winc hi (by omega)];refine nxt (()) hi ?_ ?_ ?_ ?_
        · exact Eq.mpr (hJF _ _) (trivial)
        all_goals simp[hF,List.replicate,am,lle_self,outer_succ]
    · rintro x -;simp only[hF,List.replicate,am,aml,dnl,aml,Rl.rec_];exact retK_intro (v:=.agg (closR r).enc) Rl.r_nol (Store.sub_refl _) ⟨by simp only[V.erase,Rl.r_er],rfl⟩
theorem closed_calls (r:Rl) (σ:Store):PCalls prog 158 [.agg r.enc] σ fun v σ' => v = .bool (closedR r)∧σ' = σ:=by
  refine fn158.calls ?_;simp only[slots,ac158,am,ams,Rl.rec_];refine CallD.intro (plain_calls r σ) ?_;simp only[am,Rl.rec_];refine CallD.intro (closure_calls r σ) ?_;simp only[am,Rl.rec_];refine retS ?_;simp[V.erase,closedR]
theorem mutual_calls (r:Rl) (i:Nat) {σ:Store} (hg:TZ σ):PCalls prog 179 [.agg r.enc,.int .i64 (i:Nat)] σ fun v σ' => v = .int .u64 ((mutR r i).toNat:Nat)∧σ' = σ:=by
  refine fn179.calls ?_;simp only[slots,ac179,z6_,Nat.reduceAdd];refine PCalls.weak (as' := [.sl .no 1 (iCells [(i:Int)])]) ?_ ⟨VLe.no,trivial⟩ OLe.rfl;refine cl (mask_of_calls [(i:Int)] σ (by simp)) ?_;simp only[am,Rl.rec_];refine CallD.intro (up_calls r _ hg) ?_;simp only[am,Rl.rec_];refine CallD.intro (down_calls r _ σ) ?_;simp only[am,w_and,Rl.rec_];refine retS ?_;simp[V.erase,mutR]
theorem order_calls (r:Rl) {σ:Store} (hg:TZ σ):PCalls prog 159 [.agg r.enc] σ fun v σ' => v = .bool (orderR r)∧σ' = σ:=by
  refine fn159.calls ?_;simp only[slots,ac159,am,ams,Rl.rec_];refine cl (closed_calls r σ) ?_;simp only[am];refine vcIf_split (fun hb=>?_) (fun hb=>?_)
  · have hb:closedR r=false:=by simpa using hb
    simp only[am];refine retS ?_;simp[V.erase,orderR,hb]
  · have hb:closedR r=true:=by simpa using hb
    simp only[am,Rl.rec_];refine cl (points_calls r σ) ?_;simp only[am];have hp:=@pts_le r;obtain⟨F,hF⟩:∃F:Nat→Unit→St,∀i x,F i x=⟨[.any,.ptr (.loc 0) 0,.any,.any,.any,.any,.any,.any,.int .i64 (pts r:Nat),.int .i64 (i:Nat)]++List.replicate 10 .any,[r.enc],σ⟩:=⟨_,fun _ _=>rfl⟩;obtain⟨JF,hJF⟩:∃JF:Nat→Unit→Prop,∀i x,JF i x=(∀k,k<i→mutR r k=ofB [(k:Int)]):=⟨_,fun _ _=>rfl⟩;refine vc_count (pts r) F JF _ hJF ?_ ?_ ?_
    · refine ent (()) ?_ ?_ ?_ ?_
      · exact Eq.mpr (hJF _ _) (by intro k h;omega)
      all_goals simp[hF,List.replicate,am,lle_self]
    · rintro i x hi hJ;simp only[hF,List.replicate,am,dlt hi,Rl.rec_];refine cl (mutual_calls r i hg) ?_;simp only[am];refine PCalls.weak (as' := [.sl .no 1 (iCells [(i:Int)])]) ?_ ⟨VLe.no,trivial⟩ OLe.rfl;refine cl (mask_of_calls [(i:Int)] _ (by simp)) ?_;simp only[am,w_eq]
      by_cases h:mutR r i=ofB [(i:Int)]
      · simp only[am,aml,decide_eq_true h,winc hi (by omega)];refine nxt (()) hi ?_ ?_ ?_ ?_
        · exact Eq.mpr (hJF _ _) (fun k hk=>if e:k=i then e▸h else hJ k (by omega))
        all_goals simp[hF,List.replicate,am,lle_self]
      · have hA:antiR r=false:=by
          cases hq:antiR r with
          | false=>rfl
          | true=>exact absurd ((anti_mut hb).1 hq i hi) h
        simp only[am,aml,decide_eq_false h];refine retS ?_;simp[V.erase,orderR,hA]
    · rintro x hJ;have hA:antiR r=true:=(anti_mut hb).2 hJ;simp only[hF,List.replicate,am,aml,dnl,aml];refine retS ?_;simp[V.erase,orderR,hb,hA]
end Go.Proofs.Tryz

namespace Go.Proofs.Tryz
open Go.Am
set_option maxRecDepth 4000
set_option maxHeartbeats 4000000
def ac143:AC:=.seq (.reg [⟨(some 1),.box 65 (.s 0),none⟩,⟨(some 2),.mv (.c (.bool false)),none⟩])
 (.seq (.reg [xf 0 3 1,xo 4 3,xB .geq 5 4 1,xm 6 5,xg 6 (xf 0 7 1),xg 6 (xo 8 7),xg 6 (xB .leq 9 8 8),⟨(some 10),.pick (.s 6) (.s 9) (.c (.bool false)),none⟩,xm 11 10,xg 11 (xl 65 12 1),xg 11 (xc 158 13 [.s 12]),⟨(some 14),.pick (.s 11) (.s 13) (.c (.bool false)),none⟩,xm 2 14])
 (.ret))
theorem fn143:IsFn prog 143 ac143 [.tmp 2] 15:=⟨f143,⟨[],[],[]⟩,func143,by kernel_rfl,by kernel_rfl,by kernel_rfl,by kernel_rfl⟩
def ac146:AC:=.seq (.reg [⟨(some 3),.box 65 (.s 0),none⟩,⟨(some 4),.boxO 1 (.s 1),none⟩,⟨(some 6),.mv (.c (.int .u64 0)),none⟩])
 (.seq (.seq (.reg [xl 65 8 3,xo 9 4,xc 163 10 [.s 8,.s 9],⟨(some 11),.not (.s 10),none⟩])
 (.cond (.s 11) (.seq (.reg [⟨(some 6),.mv (.c (.int .u64 0)),none⟩])
 (.ret))
 (.skip)))
 (.seq (.drawA [7] [(xf 0 12 3,[]),(xo 13 12,[]),(xc 129 14 [.s 13],[]),(xl 65 15 3,[0]),(xm 16 2,[]),(xc 164 17 [.s 15,.s 16],[]),(xb .andNot 18 14 17,[]),(⟨none,.mv (.c .any),none⟩,[]),(⟨(some 7),.boxS 1 (.s 18),none⟩,[])])
 (.seq (.upd (.draw [(xl 65 19 3,[1]),(xl 65 20 3,[]),(⟨(some 21),.mkfn (.func 166) [] [(.s 4),(.s 7)],none⟩,[]),(xc 165 22 [.s 20,.s 21],[]),(xc 152 23 [.s 19,.s 22],[]),(xm 6 23,[])]))
 (.ret))))
theorem fn146:IsFn prog 146 ac146 [.tmp 6] 24:=⟨f146,⟨[4],[4],[]⟩,func146,by kernel_rfl,by kernel_rfl,by kernel_rfl,by kernel_rfl⟩
def ac148:AC:=.seq (.reg [⟨(some 4),.mv (.c (.int .u64 0)),none⟩,⟨(some 5),.mv (.c (.bool false)),none⟩])
 (.seq (.seq (.reg [xm 6 0,xc 168 7 [.s 6],⟨(some 8),.not (.s 7),none⟩,xm 9 8,xh 9 (xm 10 1),xh 9 (xB .lss 11 10 0),⟨(some 12),.pick (.s 9) (.c (.bool true)) (.s 11),none⟩,xm 13 12,xh 13 (xm 14 1),xh 13 (xm 15 0),xh 13 (xb .geq 16 14 15),⟨(some 17),.pick (.s 13) (.c (.bool true)) (.s 16),none⟩])
 (.cond (.s 17) (.seq (.reg [⟨(some 4),.mv (.c (.int .u64 0)),none⟩,⟨(some 5),.mv (.c (.bool false)),none⟩])
 (.ret))
 (.skip)))
 (.seq (.reg [xm 18 1,xc 129 19 [.s 18],xm 4 19,⟨(some 5),.mv (.c (.bool true)),none⟩])
 (.ret)))
theorem fn148:IsFn prog 148 ac148 [.tmp 4,.tmp 5] 20:=⟨f148,⟨[],[],[]⟩,func148,by kernel_rfl,by kernel_rfl,by kernel_rfl,by kernel_rfl⟩
def ac152:AC:=.seq (.reg [⟨(some 2),.boxO 65 (.s 0),none⟩,⟨(some 3),.boxO 1 (.s 1),none⟩,⟨(some 4),.mv (.c (.int .u64 0)),none⟩])
 (.seq (.seq (.reg [xl 65 5 2,xc 143 6 [.s 5],⟨(some 7),.not (.s 6),none⟩])
 (.cond (.s 7) (.seq (.reg [⟨(some 4),.mv (.c (.int .u64 0)),none⟩])
 (.ret))
 (.skip)))
 (.seq (.reg [xl 65 8 2,⟨(some 9),.mkfn (.func 169) [] [(.s 2),(.s 3)],none⟩,xc 165 10 [.s 8,.s 9],xm 4 10])
 (.ret)))
theorem fn152:IsFn prog 152 ac152 [.tmp 4] 11:=⟨f152,⟨[2,3],[],[]⟩,func152,by kernel_rfl,by kernel_rfl,by kernel_rfl,by kernel_rfl⟩
def ac163:AC:=.seq (.reg [⟨(some 2),.box 65 (.s 0),none⟩,⟨(some 4),.mv (.c (.bool false)),none⟩])
 (.seq (.reg [xl 65 5 2,xc 143 6 [.s 5],xm 7 6,xg 7 (xm 8 1),xg 7 (xB .geq 9 8 0),⟨(some 10),.pick (.s 7) (.s 9) (.c (.bool false)),none⟩,xm 11 10,xg 11 (xm 12 1),xg 11 (xf 0 13 2),xg 11 (xo 14 13),xg 11 (xb .lss 15 12 14),⟨(some 16),.pick (.s 11) (.s 15) (.c (.bool false)),none⟩,xm 4 16])
 (.ret))
theorem fn163:IsFn prog 163 ac163 [.tmp 4] 17:=⟨f163,⟨[],[],[]⟩,func163,by kernel_rfl,by kernel_rfl,by kernel_rfl,by kernel_rfl⟩
def ac165:AC:=.seq (.reg [⟨(some 2),.box 65 (.s 0),none⟩,⟨(some 4),.mv (.c (.int .u64 0)),none⟩])
 (.seq (.reg [⟨(some 5),.mv (.c (.int .u64 0)),none⟩])
 (.seq (.seq (.reg [xf 0 7 2,xo 8 7,xi 9 0])
 (.block 0 (.loop (.seq (.reg [xb .lss 10 9 8])
 (.seq (.cond (.s 10) (.skip)
 (.exit 0))
 (.seq (.block 1 (.seq (.reg [xm 11 9,xm 6 11])
 (.reg [xm 12 5,xm 13 1,xm 14 6,⟨(some 15),.callv (.s 13) [(.s 14)],none⟩,xm 16 6,⟨(some 17),.binI .mul (.c (.int .i64 8)) (.s 16),none⟩,⟨(some 18),.cvI .u64 (.s 17),none⟩,xb .shl 19 15 18,xb .or 20 12 19,xm 5 20])))
 (.reg [xB .add 21 9 1,xm 9 21])))))))
 (.seq (.reg [xm 22 5,xm 4 22])
 (.ret))))
theorem fn165:IsFn prog 165 ac165 [.tmp 4] 23:=⟨f165,⟨[],[],[]⟩,func165,by kernel_rfl,by kernel_rfl,by kernel_rfl,by kernel_rfl⟩
def ac166:AC:=.seq (.reg [⟨(some 4),.mv (.c (.int .u64 0)),none⟩])
 (.seq (.seq (.reg [xm 5 0,xo 6 1,xb .eql 7 5 6])
 (.cond (.s 7) (.seq (.reg [xo 8 2,xm 4 8])
 (.ret))
 (.skip)))
 (.seq (.reg [⟨(some 4),.mv (.c (.int .u64 0)),none⟩])
 (.ret)))
theorem fn166:IsFn prog 166 ac166 [.tmp 4] 9:=⟨f166,⟨[],[],[]⟩,func166,by kernel_rfl,by kernel_rfl,by kernel_rfl,by kernel_rfl⟩
def ac168:AC:=.seq (.reg [⟨(some 2),.mv (.c (.bool false)),none⟩])
 (.seq (.reg [xm 3 0,xB .geq 4 3 1,xm 5 4,xg 5 (xm 6 0),xg 5 (xB .leq 7 6 64),⟨(some 8),.pick (.s 5) (.s 7) (.c (.bool false)),none⟩,xm 2 8])
 (.ret))
theorem fn168:IsFn prog 168 ac168 [.tmp 2] 9:=⟨f168,⟨[],[],[]⟩,func168,by kernel_rfl,by kernel_rfl,by kernel_rfl,by kernel_rfl⟩
def ac169:AC:=.seq (.reg [⟨(some 4),.mv (.c (.int .u64 0)),none⟩])
 (.seq (.reg [⟨(some 5),.mv (.c (.int .u64 0)),none⟩])
 (.seq (.seq (.draw [(xl 65 8 1,[1]),(xm 9 0,[]),(⟨(some 10),.bslice 1 [(.s 9)],none⟩,[]),(xc 171 11 [.s 10],[]),(xc 164 12 [.s 8,.s 11],[]),(xc 170 13 [.s 12],[]),(xL 14 13,[]),(xi 15 0,[])])
 (.block 0 (.loop (.seq (.reg [xb .lss 16 15 14])
 (.seq (.cond (.s 16) (.skip)
 (.exit 0))
 (.seq (.block 1 (.seq (.reg [xA 1 17 13 15,xo 18 17,xm 7 18])
 (.draw [(xm 19 5,[]),(xl 65 20 1,[1]),(xl 65 21 1,[]),(xo 22 2,[]),(xm 23 7,[]),(xc 173 24 [.s 21,.s 22,.s 23],[]),(xc 172 25 [.s 20,.s 24],[]),(xb .or 26 19 25,[]),(xm 5 26,[])])))
 (.reg [xB .add 27 15 1,xm 15 27])))))))
 (.seq (.reg [xm 28 5,xm 4 28])
 (.ret))))
theorem fn169:IsFn prog 169 ac169 [.tmp 4] 29:=⟨f169,⟨[],[],[]⟩,func169,by kernel_rfl,by kernel_rfl,by kernel_rfl,by kernel_rfl⟩
def ac173:AC:=.seq (.reg [⟨(some 3),.box 65 (.s 0),none⟩,⟨(some 6),.mv (.c (.int .u64 0)),none⟩])
 (.seq (.reg [xm 7 1,xm 8 2,⟨(some 9),.binI .mul (.c (.int .i64 8)) (.s 8),none⟩,⟨(some 10),.cvI .u64 (.s 9),none⟩,xb .shr 11 7 10,xf 0 12 3,xo 13 12,xc 129 14 [.s 13],xb .and 15 11 14,xm 6 15])
 (.ret))
theorem fn173:IsFn prog 173 ac173 [.tmp 6] 16:=⟨f173,⟨[],[],[]⟩,func173,by kernel_rfl,by kernel_rfl,by kernel_rfl,by kernel_rfl⟩
theorem chain_calls (n:Int) (σ:Store):PCalls prog 168 [.int .i64 n] σ fun v σ' => v = .bool (decide (1≤n)&&decide (n≤64))∧σ' = σ:=by
  refine fn168.calls ?_;simp only[slots,ac168,am,ams]
  by_cases h:1≤n
  · simp only[am,decide_eq_true h];refine retS ?_;simp[V.erase]
  · simp only[am,decide_eq_false h];refine retS ?_;simp[V.erase]
def wTup (p:B64 × Bool):V:=.tup [.int .u64 (p.1.toNat:Nat),.bool p.2]
theorem rword_calls (n k:Int) (σ:Store):PCalls prog 148 [.int .i64 n,.int .i64 k] σ fun v σ' => v=wTup (rungW n k)∧σ' = σ:=by
  refine fn148.calls ?_;simp only[slots,ac148,am,ams,Nat.reduceAdd,w_zero];refine cl (chain_calls n σ) ?_
  by_cases h:1≤n∧n≤64
  · simp only[am,decide_eq_true h.1,decide_eq_true h.2]
    by_cases h2:k<0
    · simp only[am,decide_eq_true h2];refine retS ?_;simp[V.erase,eraseL,wTup,rungW,show ¬0≤k by omega]
    · simp only[am,decide_eq_false h2]
      by_cases h3:n≤k
      · simp only[am,decide_eq_true h3];refine retS ?_;simp[V.erase,eraseL,wTup,rungW,show ¬k<n by omega]
      · simp only[am,decide_eq_false h3];refine cl (mask_below_calls k σ) ?_;simp only[am];refine retS ?_;simp[V.erase,eraseL,wTup,rungW,h,show 0≤k by omega,show k<n by omega]
  · have e:(decide (1≤n)&&decide (n≤64))=false:=by simp only[Bool.and_eq_false_iff,decide_eq_false_iff_not];omega
    have e2:rungW n k=(0#64,false):=by simp only[rungW];rw[if_neg (by omega)]
    simp only[am,e];refine retS ?_;simp[V.erase,eraseL,wTup,e2]
theorem gright_calls (r:Rl) (σ:Store):PCalls prog 143 [.agg r.enc] σ fun v σ' => v = .bool (gridR r)∧σ' = σ:=by
  refine fn143.calls ?_;simp only[slots,ac143,am,ams,Rl.rec_]
  by_cases h:1≤r.n
  · simp only[am,Rl.rec_,decide_eq_true h]
    by_cases h2:r.n≤8
    · simp only[am,Rl.rec_,decide_eq_true h2];refine cl (closed_calls r σ) ?_;simp only[am];refine retS ?_;simp[V.erase,gridR,h,h2]
    · simp only[am,decide_eq_false h2];refine retS ?_;simp[V.erase,gridR,h2]
  · simp only[am,decide_eq_false h];refine retS ?_;simp[V.erase,gridR,h]
theorem grow_calls (r:Rl) (w:B64) (o:Nat) (ho:o<64) (σ:Store):PCalls prog 173 [.agg r.enc,.int .u64 (w.toNat:Nat),.int .i64 (o:Nat)] σ fun v σ' => v = .int .u64 ((outG r w o).toNat:Nat)∧σ' = σ:=by
  refine fn173.calls ?_;simp only[slots,ac173,z6_,Nat.reduceAdd];rw[wrap_i64 (by omega) (by omega),wrap_u64 (by omega) (by omega),show (8:Int)*(o:Nat)=((8*o:Nat):Int) by omega];simp only[am,w_shr,Rl.rec_];refine cl (mask_below_calls r.n σ) ?_;simp only[am,w_and];refine retS ?_;simp[V.erase,outG]
def z11_:=And.intro @am <| And.intro @aml <| And.intro @w_or @w_shl
theorem grows_calls (r:Rl) (n:Nat) (hn:r.n=n) (h8:n≤8) (f:FuncId) (cap:List V) (hc:nolL cap=true) (g:Nat→B64) (σ:Store)
    (h:∀o,o<n→PCalls prog f (.int .i64 (o:Nat)::cap) σ fun v σ' => v = .int .u64 ((g o).toNat:Nat)∧σ' = σ) :
    PCalls prog 165 [.agg r.enc,.fn (.func f) [] cap] σ fun v σ' => v = .int .u64 ((rowsG n g).toNat:Nat)∧σ' = σ:=by
  refine fn165.calls ?_;simp only[slots,ac165,z6_,Nat.reduceAdd];obtain⟨F,hF⟩:∃F:Nat→Unit→St,∀i x,F i x=⟨[.any,.fn (.func f) [] cap,.any,.any,.any,.int .u64 ((rowsG i g).toNat:Nat),.any,.any,.int .i64 (n:Nat),.int .i64 (i:Nat)]++List.replicate 13 .any,[r.enc],σ⟩:=⟨_,fun _ _=>rfl⟩;obtain⟨JF,hJF⟩:∃JF:Nat→Unit→Prop,∀i x,JF i x=(True):=⟨_,fun _ _=>rfl⟩;refine vc_count (n) F JF _ hJF ?_ ?_ ?_
  · refine ent (()) ?_ ?_ ?_ ?_
    · exact Eq.mpr (hJF _ _) (trivial)
    all_goals simp[hF,List.replicate,am,lle_self,hn,rowsG]
  · rintro i x hi -;simp only[hF,List.replicate,am,dlt hi,hc];refine(h i hi).mono ?_;rintro v σ' ⟨rfl,rfl⟩;simp only[am];rw[wrap_i64 (x:=8*((i:Nat):Int)) (by omega) (by omega),wrap_u64 (x:=8*((i:Nat):Int)) (by omega) (by omega),show (8:Int)*(i:Nat)=((8*i:Nat):Int) by omega];simp only[z11_,winc hi (by omega)];refine nxt (()) hi ?_ ?_ ?_ ?_
    · exact Eq.mpr (hJF _ _) (trivial)
    all_goals simp[hF,List.replicate,am,lle_self,rowsG,foldl_range_succ]
  · rintro x -;simp only[hF,List.replicate,am,aml,dnl,aml];refine retS ?_;simp[V.erase]
def z12_:=And.intro @am <| And.intro @aml <| And.intro @w_or @Rl.rec_
theorem gclose1_calls (r:Rl) (w:B64) (o b1 b2:Nat) {σ:Store} (hg:TZ σ) (ho:o<pts r) (h8:pts r≤8) (h1:σ.box b1=some r.enc) (h2:σ.box b2=some [.int .u64 (w.toNat:Nat)]) :
    PCalls prog 169 [.int .i64 (o:Nat),.ptr (.out b1) 0,.ptr (.out b2) 0] σ fun v σ' => v = .int .u64 ((clG r w o).toNat:Nat)∧σ' = σ:=by
  refine fn169.calls ?_;simp only[slots,ac169,am,ams,Nat.reduceAdd,w_zero];simp only[am,Rl.rec_,h1];refine CallD.intro (PCalls.weak (as' := [.sl .no 1 (iCells [(o:Int)])]) (mask_of_calls [(o:Int)] σ (by simp)) ⟨VLe.no,trivial⟩ OLe.rfl) ?_;simp only[am,Rl.rec_];refine CallD.intro (up_calls r _ hg) ?_;simp only[am];refine CallD.intro (mask_list_calls _ hg) ?_;simp only[am,List.length_map,Rl.rec_,iCells_len,h1];rw[show upR r (ofB [(o:Int)])=aboveH r o from rfl];generalize hl:listB (aboveH r o)=l;have hlt:∀k∈l,k<pts r:=fun k hk=>by
    rw[←hl,mem_listB,aboveH_get] at hk;exact(hsR_lt hk).2
  have hlen:l.length≤64:=hl▸listB_len _;have hp:=@pts_le r;obtain⟨F,hF⟩:∃F:Nat→Unit→St,∀i x,F i x=⟨[.any,.ptr (.out b1) 0,.ptr (.out b2) 0,.any,.any,.int .u64 (((l.take i).foldl (fun s p=>s|||downR r (outG r w p)) 0#64).toNat:Nat),.any,.any,.any,.any,.any,.any,.any,.sl .no 1 (iCells (l.map Int.ofNat)),.int .i64 (l.length:Nat),.int .i64 (i:Nat)]++List.replicate 13 .any,[],σ⟩:=⟨_,fun _ _=>rfl⟩;obtain⟨JF,hJF⟩:∃JF:Nat→Unit→Prop,∀i x,JF i x=(True):=⟨_,fun _ _=>rfl⟩;refine vc_count (l.length) F JF _ hJF ?_ ?_ ?_
  · refine ent (()) ?_ ?_ ?_ ?_
    · exact Eq.mpr (hJF _ _) (trivial)
    all_goals simp[hF,List.replicate,am,lle_self]
  · rintro i x hi -;simp only[hF,List.replicate,am,dlt hi];refine idxL_intro (by omega) (iCells_at (l:=l.map Int.ofNat) (by simpa using hi)) ?_;simp only[am,Rl.rec_,List.getElem_map,Int.ofNat_eq_natCast,h1,h2]
    have:=hlt _ (List.getElem_mem hi)
    refine CallD.intro (grow_calls r w l[i] (by omega) σ) ?_;simp only[am,Rl.rec_];refine CallD.intro (down_calls r _ σ) ?_;simp only[z12_,h1,winc hi (by omega)];refine nxt (()) hi ?_ ?_ ?_ ?_
    · exact Eq.mpr (hJF _ _) (trivial)
    all_goals simp[hF,List.replicate,am,lle_self,foldl_take hi]
  · rintro x -;simp only[hF,List.replicate,am,aml,dnl,aml,List.take_length];refine retS ?_;simp[V.erase,clG,hl]
theorem gclose_calls (r:Rl) (w:B64) {σ:Store} (hg:TZ σ):PCalls prog 152 [.agg r.enc,.int .u64 (w.toNat:Nat)] σ fun v σ' => v = .int .u64 ((closeG r w).toNat:Nat)∧σ' = σ:=by
  refine fn152.calls ?_;simp only[slots,ac152,z6_,Nat.reduceAdd];refine kO_intro fun b1 hb1=>?_
  simp only[am];refine kO_intro fun b2 hb2=>?_
  have hne:b1≠b2:=by rintro rfl;rw[set_box] at hb2;simp at hb2
  have hs1:=sub_set (cs:=r.enc) hb1;have hs:=Store.subT hs1 (sub_set (cs:=[.int .u64 (w.toNat:Nat)]) hb2);have e1:((σ.set b1 r.enc).set b2 [.int .u64 (w.toNat:Nat)]).box b1=some r.enc:=by rw[set_box_ne hne,set_box]
  generalize hσ:(σ.set b1 r.enc).set b2 [V.int .u64 (w.toNat:Nat)]=σ1 at hs e1;have e2:σ1.box b2=some [.int .u64 (w.toNat:Nat)]:=by rw[←hσ,set_box]
  simp only[am,Rl.rec_,e1];refine(gright_calls r σ1).mono ?_;rintro v σ1 ⟨rfl,rfl⟩;simp only[am];cases hgr:gridR r with
  | false =>
    simp only[am];exact retK_intro rfl hs ⟨by simp[closeG,hgr,V.erase],rfl⟩
  | true =>
    obtain⟨n,hn,hp,h1,h8⟩:=gridR_n hgr;simp only[am,Rl.rec_,e1];refine(grows_calls r n hn h8 _ _ rfl (clG r w) σ1 fun o ho=>gclose1_calls r w o b1 b2 (hs.2.2 _ _ hg) (by omega) (by omega) e1 e2).mono ?_;rintro v σ1 ⟨rfl,rfl⟩;simp only[am];exact retK_intro rfl hs ⟨by simp[closeG,hgr,V.erase,hn],rfl⟩
theorem owns_calls (r:Rl) (o:Nat) (σ:Store):PCalls prog 163 [.agg r.enc,.int .i64 (o:Nat)] σ fun v σ' => v = .bool (gridR r&&decide ((o:Int)<r.n))∧σ' = σ:=by
  refine fn163.calls ?_;simp only[slots,ac163,am,ams,Nat.reduceAdd,Rl.rec_];refine cl (gright_calls r σ) ?_;cases h:gridR r with
  | false =>
    simp only[am];refine retS ?_;simp[V.erase]
  | true =>
    simp only[am,Rl.rec_,show decide ((0:Int)≤(o:Nat))=true from decide_eq_true (by omega)];refine retS ?_;simp[V.erase]
theorem grule1_calls (k o b:Nat) (w:B64) {σ:Store} (b2:Nat) (h1:σ.box b=some [.int .i64 (o:Nat)]) (h2:σ.box b2=some [.int .u64 (w.toNat:Nat)]) :
    PCalls prog 166 [.int .i64 (k:Nat),.ptr (.out b) 0,.ptr (.out b2) 0] σ fun v σ' => v = .int .u64 ((if k=o then w else 0#64).toNat:Nat)∧σ' = σ:=by
  refine fn166.calls ?_;simp only[slots,ac166,am,ams,Nat.reduceAdd,w_zero];simp only[am,h1]
  by_cases h:k=o
  · simp only[am,decide_eq_true (show (k:Int)=(o:Nat) by omega),h2];refine retS ?_;simp[V.erase,h]
  · simp only[am,decide_eq_false (show ¬(k:Int)=(o:Nat) by omega)];refine retS ?_;simp[V.erase,h]
theorem grule_calls (r:Rl) (o:Nat) (d:B64) {σ:Store} (hg:TZ σ):PCalls prog 146 [.agg r.enc,.int .i64 (o:Nat),.int .u64 (d.toNat:Nat)] σ fun v σ' => v = .int .u64 ((ruleG r o d).toNat:Nat)∧σ' = σ:=by
  refine fn146.calls ?_;simp only[slots,ac146,z6_,Nat.reduceAdd];refine kO_intro fun b1 hb1=>?_
  simp only[am,Rl.rec_];have hs:=sub_set (cs:=[V.int .i64 (o:Nat)]) hb1;have e1:(σ.set b1 [V.int .i64 (o:Nat)]).box b1=some [V.int .i64 (o:Nat)]:=set_box;generalize hσ:σ.set b1 [V.int .i64 (o:Nat)]=σ1 at hs e1;refine(owns_calls r o σ1).mono ?_;rintro v σ1 ⟨rfl,rfl⟩;simp only[am];cases hgr:gridR r&&decide ((o:Int)<r.n) with
  | false =>
    simp only[am];exact retK_intro rfl hs ⟨by simp[ruleG,hgr,V.erase],rfl⟩
  | true =>
    have hgr' := hgr;rw[Bool.and_eq_true,decide_eq_true_eq] at hgr;obtain⟨n,hn,hp,h1,h8⟩:=gridR_n hgr.1;simp only[am,Nat.reduceAdd,decide_true,Nat.reduceLT,Rl.rec_];refine CallD.intro (mask_below_calls r.n σ1) ?_;simp only[am,Rl.rec_];refine CallD.intro (up_calls r d (hs.2.2 _ _ hg)) ?_;simp only[am,w_andNot,Rl.rec_];refine Upd.publish (l:=[r.enc]) (cs:=[V.int .u64 ((belowB r.n&&&~~~upR r d).toNat:Nat)]) rfl fun b2 hb2=>?_
    rw[show belowB r.n&&&~~~upR r d=keptG r d from rfl];have hs2:=Store.subT hs (sub_set (cs:=[V.int .u64 ((keptG r d).toNat:Nat)]) hb2);have hne:b1≠b2:=by rintro rfl;rw[e1] at hb2;simp at hb2
    have e2:(σ1.set b2 [V.int .u64 ((keptG r d).toNat:Nat)]).box b1=some [V.int .i64 (o:Nat)]:=by rw[set_box_ne hne,e1]
    have e3:(σ1.set b2 [V.int .u64 ((keptG r d).toNat:Nat)]).box b2=some [V.int .u64 ((keptG r d).toNat:Nat)]:=set_box;generalize σ1.set b2 [V.int .u64 ((keptG r d).toNat:Nat)]=σ2 at hs2 e2 e3;simp only[am,Nat.reduceLT,reduceCtorEq,Rl.rec_,List.map_cons,List.map_nil,amp,pub_map (n:=1) (l:=r.enc) Rl.r_lo Rl.r_nol];refine CallD.intro (grows_calls r n hn h8 _ _ rfl (fun k=>if k=o then keptG r d else 0#64) σ2 fun k hk=>grule1_calls k o b1 (keptG r d) b2 e2 e3) ?_;simp only[am,Rl.rec_];refine CallD.intro (gclose_calls r _ (hs2.2.2 _ _ hg)) ?_;simp only[am,Rl.rec_];exact retK_intro rfl hs2 ⟨by rw[ruleG,hgr',hn];rfl,rfl⟩
end Go.Proofs.Tryz

namespace Go.Proofs.Tryz
open Go.Am
set_option maxRecDepth 4000
set_option maxHeartbeats 4000000
def ac131:AC:=.seq (.reg [⟨(some 2),.box 65 (.s 0),none⟩,xi 4 0,⟨(some 5),.mv (.c (.bool false)),none⟩])
 (.seq (.seq (.reg [xf 0 7 2,xo 8 7,xc 153 9 [.s 8],xw 0 10 9,xi 11 0])
 (.block 0 (.loop (.seq (.reg [xb .lss 12 11 10])
 (.seq (.cond (.s 12) (.skip)
 (.exit 0))
 (.seq (.block 1 (.seq (.reg [xm 13 11,xm 6 13])
 (.seq (.reg [xl 65 14 2,xm 15 6,xc 147 16 [.s 14,.s 15],xm 17 1,xb .eql 18 16 17])
 (.cond (.s 18) (.seq (.reg [xm 19 6,xm 4 19,⟨(some 5),.mv (.c (.bool true)),none⟩])
 (.ret))
 (.skip)))))
 (.reg [xB .add 20 11 1,xm 11 20])))))))
 (.seq (.reg [xi 4 0,⟨(some 5),.mv (.c (.bool false)),none⟩])
 (.ret)))
theorem fn131:IsFn prog 131 ac131 [.tmp 4,.tmp 5] 21:=⟨f131,⟨[],[],[]⟩,func131,by kernel_rfl,by kernel_rfl,by kernel_rfl,by kernel_rfl⟩
def ac144:AC:=.seq (.reg [⟨(some 1),.box 65 (.s 0),none⟩,⟨(some 2),.mv (.c (.bool false)),none⟩])
 (.seq (.seq (.reg [xf 0 9 1,xo 10 9,xB .lss 11 10 1,xm 12 11,xh 12 (xf 0 13 1),xh 12 (xo 14 13),xh 12 (xB .gtr 15 14 64),⟨(some 16),.pick (.s 12) (.c (.bool true)) (.s 15),none⟩,xm 17 16,xh 17 (xl 65 18 1),xh 17 (xc 159 19 [.s 18]),⟨(some 20),.not (.s 19),(some (17,false))⟩,⟨(some 21),.pick (.s 17) (.c (.bool true)) (.s 20),none⟩])
 (.cond (.s 21) (.seq (.reg [⟨(some 2),.mv (.c (.bool false)),none⟩])
 (.ret))
 (.skip)))
 (.seq (.seq (.reg [xf 0 22 1,xo 23 22,xi 24 0])
 (.block 0 (.loop (.seq (.reg [xb .lss 25 24 23])
 (.seq (.cond (.s 25) (.skip)
 (.exit 0))
 (.seq (.block 1 (.seq (.reg [xm 26 24,xm 3 26])
 (.seq (.reg [xm 27 3,xi 28 0])
 (.block 2 (.loop (.seq (.reg [xb .lss 29 28 27])
 (.seq (.cond (.s 29) (.skip)
 (.exit 2))
 (.seq (.block 3 (.seq (.reg [xm 30 28,xm 4 30])
 (.seq (.reg [xl 65 32 1,xm 33 3,xm 34 4,xc 160 35 [.s 32,.s 33,.s 34],xm 31 35,xe 36 31 0,xe 37 31 1,xm 5 36,xm 6 37])
 (.seq (.reg [xl 65 39 1,xm 40 3,xm 41 4,xc 161 42 [.s 39,.s 40,.s 41],xm 38 42,xe 43 38 0,xe 44 38 1,xm 7 43,xm 8 44])
 (.seq (.reg [xm 45 6,⟨(some 46),.not (.s 45),none⟩,xm 47 46,xh 47 (xm 48 8),⟨(some 49),.not (.s 48),(some (47,false))⟩,⟨(some 50),.pick (.s 47) (.c (.bool true)) (.s 49),none⟩])
 (.cond (.s 50) (.seq (.reg [⟨(some 2),.mv (.c (.bool false)),none⟩])
 (.ret))
 (.skip)))))))
 (.reg [xB .add 51 28 1,xm 28 51])))))))))
 (.reg [xB .add 52 24 1,xm 24 52])))))))
 (.seq (.reg [⟨(some 2),.mv (.c (.bool true)),none⟩])
 (.ret))))
theorem fn144:IsFn prog 144 ac144 [.tmp 2] 53:=⟨f144,⟨[],[],[]⟩,func144,by kernel_rfl,by kernel_rfl,by kernel_rfl,by kernel_rfl⟩
def ac147:AC:=.seq (.reg [⟨(some 2),.box 65 (.s 0),none⟩,⟨(some 4),.mv (.c (.int .u64 0)),none⟩])
 (.seq (.reg [xl 65 5 2,xm 6 1,xc 167 7 [.s 5,.s 6],xm 4 7])
 (.ret))
theorem fn147:IsFn prog 147 ac147 [.tmp 4] 8:=⟨f147,⟨[],[],[]⟩,func147,by kernel_rfl,by kernel_rfl,by kernel_rfl,by kernel_rfl⟩
def ac160:AC:=.seq (.reg [⟨(some 3),.box 65 (.s 0),none⟩,xi 6 0,⟨(some 7),.mv (.c (.bool false)),none⟩])
 (.seq (.reg [xl 65 8 3,xm 9 1,xm 10 2,xc 180 11 [.s 8,.s 9,.s 10,.c (.fn (.func 181) [] [])],xe 12 11 0,xe 13 11 1,xm 6 12,xm 7 13])
 (.ret))
theorem fn160:IsFn prog 160 ac160 [.tmp 6,.tmp 7] 14:=⟨f160,⟨[],[],[]⟩,func160,by kernel_rfl,by kernel_rfl,by kernel_rfl,by kernel_rfl⟩
def ac161:AC:=.seq (.reg [⟨(some 3),.box 65 (.s 0),none⟩,xi 6 0,⟨(some 7),.mv (.c (.bool false)),none⟩])
 (.seq (.reg [xl 65 8 3,xm 9 1,xm 10 2,xc 180 11 [.s 8,.s 9,.s 10,.c (.fn (.func 167) [] [])],xe 12 11 0,xe 13 11 1,xm 6 12,xm 7 13])
 (.ret))
theorem fn161:IsFn prog 161 ac161 [.tmp 6,.tmp 7] 14:=⟨f161,⟨[],[],[]⟩,func161,by kernel_rfl,by kernel_rfl,by kernel_rfl,by kernel_rfl⟩
def ac167:AC:=.seq (.reg [⟨(some 2),.box 65 (.s 0),none⟩,⟨(some 4),.mv (.c (.int .u64 0)),none⟩])
 (.seq (.seq (.reg [xl 65 5 2,xm 6 1,xc 182 7 [.s 5,.s 6],⟨(some 8),.not (.s 7),none⟩])
 (.cond (.s 8) (.seq (.reg [⟨(some 4),.mv (.c (.int .u64 0)),none⟩])
 (.ret))
 (.skip)))
 (.seq (.draw [(xl 65 9 2,[1]),(xm 10 1,[]),(⟨(some 11),.bslice 1 [(.s 10)],none⟩,[]),(xc 171 12 [.s 11],[]),(xc 172 13 [.s 9,.s 12],[]),(xm 4 13,[])])
 (.ret)))
theorem fn167:IsFn prog 167 ac167 [.tmp 4] 14:=⟨f167,⟨[],[],[]⟩,func167,by kernel_rfl,by kernel_rfl,by kernel_rfl,by kernel_rfl⟩
def ac180:AC:=.seq (.reg [⟨(some 4),.box 65 (.s 0),none⟩,xi 8 0,⟨(some 9),.mv (.c (.bool false)),none⟩])
 (.seq (.draw [(xm 13 3,[]),(xl 65 14 4,[]),(xm 15 1,[]),(⟨(some 16),.callv (.s 13) [(.s 14),(.s 15)],none⟩,[]),(xm 17 3,[]),(xl 65 18 4,[0]),(xm 19 2,[]),(⟨(some 20),.callv (.s 17) [(.s 18),(.s 19)],none⟩,[]),(xb .and 21 16 20,[]),(xm 10 21,[])])
 (.seq (.seq (.reg [xm 22 10,xc 170 23 [.s 22],xL 24 23,xi 25 0])
 (.block 0 (.loop (.seq (.reg [xb .lss 26 25 24])
 (.seq (.cond (.s 26) (.skip)
 (.exit 0))
 (.seq (.block 1 (.seq (.reg [xA 1 27 23 25,xo 28 27,xm 12 28])
 (.seq (.reg [xm 29 10,xm 30 3,xl 65 31 4,xm 32 12,⟨(some 33),.callv (.s 30) [(.s 31),(.s 32)],none⟩,xc 128 34 [.s 29,.s 33]])
 (.cond (.s 34) (.seq (.reg [xm 35 12,xm 8 35,⟨(some 9),.mv (.c (.bool true)),none⟩])
 (.ret))
 (.skip)))))
 (.reg [xB .add 36 25 1,xm 25 36])))))))
 (.seq (.reg [xi 8 0,⟨(some 9),.mv (.c (.bool false)),none⟩])
 (.ret))))
theorem fn180:IsFn prog 180 ac180 [.tmp 8,.tmp 9] 37:=⟨f180,⟨[],[],[]⟩,func180,by kernel_rfl,by kernel_rfl,by kernel_rfl,by kernel_rfl⟩
def ac181:AC:=.seq (.reg [⟨(some 2),.box 65 (.s 0),none⟩,⟨(some 4),.mv (.c (.int .u64 0)),none⟩])
 (.seq (.draw [(xl 65 5 2,[1]),(xm 6 1,[]),(⟨(some 7),.bslice 1 [(.s 6)],none⟩,[]),(xc 171 8 [.s 7],[]),(xc 164 9 [.s 5,.s 8],[]),(xm 4 9,[])])
 (.ret))
theorem fn181:IsFn prog 181 ac181 [.tmp 4] 10:=⟨f181,⟨[],[],[]⟩,func181,by kernel_rfl,by kernel_rfl,by kernel_rfl,by kernel_rfl⟩
def ac182:AC:=.seq (.reg [⟨(some 2),.box 65 (.s 0),none⟩,⟨(some 4),.mv (.c (.bool false)),none⟩])
 (.seq (.reg [xm 5 1,xB .geq 6 5 0,xm 7 6,xg 7 (xm 8 1),xg 7 (xf 0 9 2),xg 7 (xo 10 9),xg 7 (xc 153 11 [.s 10]),xg 7 (xw 0 12 11),xg 7 (xb .lss 13 8 12),⟨(some 14),.pick (.s 7) (.s 13) (.c (.bool false)),none⟩,xm 4 14])
 (.ret))
theorem fn182:IsFn prog 182 ac182 [.tmp 4] 15:=⟨f182,⟨[],[],[]⟩,func182,by kernel_rfl,by kernel_rfl,by kernel_rfl,by kernel_rfl⟩
def optT (o:Option Nat):V:=.tup [.int .i64 ((o.getD 0:Nat):Int),.bool o.isSome]
theorem nat_ge0 {i:Nat}:decide ((0:Int)≤(i:Nat))=true:=decide_eq_true (by omega)
theorem hin_calls (r:Rl) (i:Nat) (σ:Store):PCalls prog 182 [.agg r.enc,.int .i64 (i:Nat)] σ fun v σ' => v = .bool (decide (i<pts r))∧σ' = σ:=by
  refine fn182.calls ?_;simp only[slots,ac182,am,ams,Nat.reduceAdd,Rl.rec_];simp only[am,Rl.rec_,nat_ge0];refine cl (new_calls r.n σ) ?_;simp only[am,Rl.rec_,Rl.of_n];refine retS ?_;simp[V.erase,pts];rfl
theorem above_calls (r:Rl) (i:Nat) {σ:Store} (hg:TZ σ):PCalls prog 181 [.agg r.enc,.int .i64 (i:Nat)] σ fun v σ' => v = .int .u64 ((aboveH r i).toNat:Nat)∧σ' = σ:=by
  refine fn181.calls ?_;simp only[slots,ac181,z6_,Nat.reduceAdd];refine CallD.intro (PCalls.weak (as' := [.sl .no 1 (iCells [(i:Int)])]) (mask_of_calls [(i:Int)] σ (by simp)) ⟨VLe.no,trivial⟩ OLe.rfl) ?_;simp only[am,Rl.rec_];refine CallD.intro (up_calls r _ hg) ?_;simp only[am,Rl.rec_];refine retS ?_;simp[V.erase,aboveH]
theorem below_calls (r:Rl) (i:Nat) (σ:Store):PCalls prog 167 [.agg r.enc,.int .i64 (i:Nat)] σ fun v σ' => v = .int .u64 ((belowH r i).toNat:Nat)∧σ' = σ:=by
  refine fn167.calls ?_;simp only[slots,ac167,z6_,Nat.reduceAdd];refine cl (hin_calls r i σ) ?_
  by_cases h:i<pts r
  · simp only[am,Rl.rec_,decide_eq_true h];refine CallD.intro (PCalls.weak (as' := [.sl .no 1 (iCells [(i:Int)])]) (mask_of_calls [(i:Int)] σ (by simp)) ⟨VLe.no,trivial⟩ OLe.rfl) ?_;simp only[am,Rl.rec_];refine CallD.intro (down_calls r _ σ) ?_;simp only[am,Rl.rec_];refine retS ?_;simp[V.erase,belowH,h]
  · simp only[am,decide_eq_false h];refine retS ?_;simp[V.erase,belowH,h]
theorem nearest_calls (r:Rl) (i j:Nat) (f:FuncId) (g:Nat→B64) {σ:Store} (hg:TZ σ) (hf:∀k,PCalls prog f [.agg r.enc,.int .i64 (k:Nat)] σ fun v σ' => v = .int .u64 ((g k).toNat:Nat)∧σ' = σ) :
    PCalls prog 180 [.agg r.enc,.int .i64 (i:Nat),.int .i64 (j:Nat),.fn (.func f) [] []] σ fun v σ' => v=optT (nearH g i j)∧σ' = σ:=by
  refine fn180.calls ?_;simp only[slots,ac180,am,ams,Nat.reduceAdd,Rl.rec_];refine CallD.intro (hf i) ?_;simp only[am,Rl.rec_];refine CallD.intro (hf j) ?_;simp only[am,w_and,Rl.rec_];refine cl (mask_list_calls _ hg) ?_;simp only[am,List.length_map,iCells_len];rw[nearH];generalize g i&&&g j=w;have hlen:=listB_len w;obtain⟨F,hF⟩:∃F:Nat→Unit→St,∀m x,F m x=⟨[.agg r.enc,.any,.any,.fn (.func f) [] [],.ptr (.loc 0) 0,.any,.any,.any,.any,.any,.int .u64 (w.toNat:Nat),.any,.any,.any,.any,.any,.any,.any,.any,.any,.any,.any,.any,.sl .no 1 (iCells ((listB w).map Int.ofNat)),.int .i64 ((listB w).length:Nat),.int .i64 (m:Nat)]++List.replicate 11 .any,[r.enc],σ⟩:=⟨_,fun _ _=>rfl⟩;obtain⟨JF,hJF⟩:∃JF:Nat→Unit→Prop,∀m x,JF m x=(∀u∈(listB w).take m,subB w (g u)=false):=⟨_,fun _ _=>rfl⟩;refine vc_count ((listB w).length) F JF _ hJF ?_ ?_ ?_
  · refine ent (()) ?_ ?_ ?_ ?_
    · exact Eq.mpr (hJF _ _) (by simp)
    all_goals simp[hF,List.replicate,am,lle_self]
  · rintro m x hi hJ;simp only[hF,List.replicate,am,dlt hi];refine idxL_intro (by omega) (iCells_at (l:=(listB w).map Int.ofNat) (by simpa using hi)) ?_;simp only[am,Rl.rec_,List.getElem_map,Int.ofNat_eq_natCast];refine(hf _).mono ?_;rintro v σ ⟨rfl,rfl⟩;simp only[am];refine cl (mask_sub_calls _ _ σ) ?_;simp only[am];cases hb:subB w (g (listB w)[m]) with
    | false =>
      simp only[am,aml,winc hi (by omega)];refine nxt (()) hi ?_ ?_ ?_ ?_
      · exact Eq.mpr (hJF _ _) (take_all hJ hi hb)
      all_goals simp[hF,List.replicate,am,lle_self]
    | true =>
      have e:(listB w).find? (fun u=>subB w (g u))=some (listB w)[m]:=by
        rw[List.find?_eq_some_iff_append];exact⟨hb,_,(listB w).drop (m+1),by rw[←List.drop_eq_getElem_cons hi,List.take_append_drop],fun a ha=>by rw[hJ a ha];rfl⟩
      simp only[am,aml];refine retS ?_;simp[V.erase,eraseL,optT,e]
  · rintro x hJ;rw[List.take_length] at hJ;have e:(listB w).find? (fun u=>subB w (g u))=none:=by
      rw[List.find?_eq_none];intro u hu;rw[hJ u hu];simp
    simp only[hF,List.replicate,am,aml,dnl,aml];refine retS ?_;simp[V.erase,eraseL,optT,e]
theorem join_calls (r:Rl) (i j:Nat) {σ:Store} (hg:TZ σ):PCalls prog 160 [.agg r.enc,.int .i64 (i:Nat),.int .i64 (j:Nat)] σ fun v σ' => v=optT (joinH r i j)∧σ' = σ:=by
  refine fn160.calls ?_;simp only[slots,ac160,am,ams,Nat.reduceAdd,Rl.rec_];refine cl (nearest_calls r i j _ (aboveH r) hg fun k=>above_calls r k hg) ?_;simp only[am,optT];refine retS ?_;simp[V.erase,eraseL,joinH]
theorem meet_calls (r:Rl) (i j:Nat) {σ:Store} (hg:TZ σ):PCalls prog 161 [.agg r.enc,.int .i64 (i:Nat),.int .i64 (j:Nat)] σ fun v σ' => v=optT (meetH r i j)∧σ' = σ:=by
  refine fn161.calls ?_;simp only[slots,ac161,am,ams,Nat.reduceAdd,Rl.rec_];refine cl (nearest_calls r i j _ (belowH r) hg fun k=>below_calls r k σ) ?_;simp only[am,optT];refine retS ?_;simp[V.erase,eraseL,meetH]
theorem hword_calls (r:Rl) (i:Nat) (σ:Store):PCalls prog 147 [.agg r.enc,.int .i64 (i:Nat)] σ fun v σ' => v = .int .u64 ((belowH r i).toNat:Nat)∧σ' = σ:=by
  refine fn147.calls ?_;simp only[slots,ac147,z6_,Nat.reduceAdd];refine cl (below_calls r i σ) ?_;simp only[am];refine retS ?_;simp[V.erase]
theorem find_at {p:Nat→Bool} {n m:Nat} (hm:m<n) (h:∀k,k<m→p k=false) (hp:p m=true):(List.range n).find? p=some m:=by
  rw[List.find?_eq_some_iff_append];refine⟨hp,List.range m,List.range' (m+1) (n - (m+1)),?_,fun a ha=>by rw[h a (by simpa using ha)];rfl⟩;rw[List.range_eq_range',List.range_eq_range',←List.range'_succ]
  have:=List.range'_append (s:=0) (m:=m) (n:=n - m) (step:=1)
  simp only[Nat.one_mul,Nat.zero_add] at this;rw[show n - (m+1)+1=n - m by omega,this];congr 1;omega
theorem find_no {p:Nat→Bool} {n:Nat} (h:∀k,k<n→p k=false):(List.range n).find? p=none:=by
  rw[List.find?_eq_none];intro u hu;rw[h u (by simpa using hu)];simp
theorem point_calls (r:Rl) (w:B64) (σ:Store):PCalls prog 131 [.agg r.enc,.int .u64 (w.toNat:Nat)] σ fun v σ' => v=optT (pointH r w)∧σ' = σ:=by
  refine fn131.calls ?_;simp only[slots,ac131,am,ams,Nat.reduceAdd,Rl.rec_];refine cl (new_calls r.n σ) ?_;simp only[am,Rl.rec_,Rl.of_n];have hp:=@pts_le r;rw[show min r.n.toNat 64=pts r from rfl];obtain⟨F,hF⟩:∃F:Nat→Unit→St,∀i x,F i x=⟨[.any,.int .u64 (w.toNat:Nat),.ptr (.loc 0) 0,.any,.any,.any,.any,.any,.any,.any,.int .i64 (pts r:Nat),.int .i64 (i:Nat)]++List.replicate 9 .any,[r.enc],σ⟩:=⟨_,fun _ _=>rfl⟩;obtain⟨JF,hJF⟩:∃JF:Nat→Unit→Prop,∀i x,JF i x=(∀k,k<i→decide (belowH r k=w)=false):=⟨_,fun _ _=>rfl⟩;refine vc_count (pts r) F JF _ hJF ?_ ?_ ?_
  · refine ent (()) ?_ ?_ ?_ ?_
    · exact Eq.mpr (hJF _ _) (by intro k h;omega)
    all_goals simp[hF,List.replicate,am,lle_self]
  · rintro i x hi hJ;simp only[hF,List.replicate,am,dlt hi,Rl.rec_];refine cl (hword_calls r i σ) ?_;simp only[am,w_eq]
    by_cases h:belowH r i=w
    · have e:pointH r w=some i:=find_at hi hJ (decide_eq_true h);simp only[am,aml,decide_eq_true h];refine retS ?_;simp[V.erase,eraseL,optT,e]
    · simp only[am,aml,decide_eq_false h,winc hi (by omega)];refine nxt (()) hi ?_ ?_ ?_ ?_
      · exact Eq.mpr (hJF _ _) (allS hJ (decide_eq_false h))
      all_goals simp[hF,List.replicate,am,lle_self]
  · rintro x hJ;have e:pointH r w=none:=find_no hJ;simp only[hF,List.replicate,am,aml,dnl,aml];refine retS ?_;simp[V.erase,eraseL,optT,e]
theorem lattice_calls (r:Rl) {σ:Store} (hg:TZ σ):PCalls prog 144 [.agg r.enc] σ fun v σ' => v = .bool (latH r)∧σ' = σ:=by
  refine fn144.calls ?_;simp only[slots,ac144,am,ams,Rl.rec_]
  by_cases h1:r.n<1
  · simp only[am,decide_eq_true h1];refine retS ?_;simp[V.erase,latH];omega
  · simp only[am,Rl.rec_,decide_eq_false h1]
    by_cases h2:64<r.n
    · simp only[am,decide_eq_true h2];refine retS ?_;simp[V.erase,latH];omega
    · simp only[am,Rl.rec_,decide_eq_false h2];refine cl (order_calls r hg) ?_;obtain⟨n,hn⟩:∃n:Nat,r.n=n:=⟨r.n.toNat,by omega⟩;have hp:pts r=n:=by rw[pts,hn];omega
      cases ho:orderR r with
      | false =>
        simp only[am];refine retS ?_;simp[V.erase,latH,ho]
      | true =>
        simp only[am,Rl.rec_,hn];have good:(∀i,i<n→∀j,j<i→((joinH r i j).isSome&&(meetH r i j).isSome)=true)→latH r=true:=fun h=>by
          simp only[latH,ho,hn,Int.toNat_natCast,List.all_eq_true,List.mem_range,Bool.and_eq_true,decide_eq_true_eq,Bool.and_true];exact⟨by omega,fun i hi j hj=>by have:=h i hi j hj;simpa using this⟩
        have bad:∀i j,i<n→j<i→((joinH r i j).isSome&&(meetH r i j).isSome)=false→latH r=false:=fun i j hi hj h=>by
          cases hq:latH r with
          | false=>rfl
          | true =>
            simp only[latH,hn,Int.toNat_natCast,List.all_eq_true,List.mem_range,Bool.and_eq_true] at hq
            have:=hq.2 i hi j hj
            rw[this.1,this.2] at h;simp at h
        obtain⟨F,hF⟩:∃F:Nat→Unit→St,∀i x,F i x=⟨[.any,.ptr (.loc 0) 0,.any,.any,.any,.any,.any,.any,.any,.any,.any,.any,.any,.any,.any,.any,.any,.any,.any,.any,.any,.any,.any,.int .i64 (n:Nat),.int .i64 (i:Nat)]++List.replicate 28 .any,[r.enc],σ⟩:=⟨_,fun _ _=>rfl⟩;obtain⟨JF,hJF⟩:∃JF:Nat→Unit→Prop,∀i x,JF i x=(∀a,a<i→∀b,b<a→((joinH r a b).isSome&&(meetH r a b).isSome)=true):=⟨_,fun _ _=>rfl⟩;refine vc_count (n) F JF _ hJF ?_ ?_ ?_
        · refine ent (()) ?_ ?_ ?_ ?_
          · exact Eq.mpr (hJF _ _) (by intro k h;omega)
          all_goals simp[hF,List.replicate,am,lle_self]
        · rintro i x hi hJ;simp only[hF,List.replicate,am,dlt hi];obtain⟨F2,hF2⟩:∃F2:Nat→Unit→St,∀j x,F2 j x=⟨[.any,.ptr (.loc 0) 0,.any,.int .i64 (i:Nat),.any,.any,.any,.any,.any,.any,.any,.any,.any,.any,.any,.any,.any,.any,.any,.any,.any,.any,.any,.int .i64 (n:Nat),.int .i64 (i:Nat),.any,.any,.int .i64 (i:Nat),.int .i64 (j:Nat)]++List.replicate 24 .any,[r.enc],σ⟩:=⟨_,fun _ _=>rfl⟩;obtain⟨JF2,hJF2⟩:∃JF2:Nat→Unit→Prop,∀j x,JF2 j x=(∀b,b<j→((joinH r i b).isSome&&(meetH r i b).isSome)=true):=⟨_,fun _ _=>rfl⟩;refine vc_count (i) F2 JF2 _ hJF2 ?_ ?_ ?_
          · refine ent (()) ?_ ?_ ?_ ?_
            · exact Eq.mpr (hJF2 _ _) (by intro k h;omega)
            all_goals simp[hF2,List.replicate,am,lle_self]
          · rintro j x hj hJ2;simp only[hF2,List.replicate,am,dlt hj,Rl.rec_];refine cl (join_calls r i j hg) ?_;simp only[am,Rl.rec_,optT];refine cl (meet_calls r i j hg) ?_;simp only[am,optT];cases ha:(joinH r i j).isSome with
            | false =>
              simp only[am,aml];refine retS ?_;simp[V.erase,bad i j hi hj (by rw[ha];rfl)]
            | true =>
              simp only[am];cases hb:(meetH r i j).isSome with
              | false =>
                simp only[am,aml];refine retS ?_;simp[V.erase,bad i j hi hj (by rw[ha,hb];rfl)]
              | true =>
                simp only[am,aml,winc hj (by omega)];refine nxt (()) hj ?_ ?_ ?_ ?_
                · exact Eq.mpr (hJF2 _ _) (allS hJ2 (by rw[ha,hb];rfl))
                all_goals simp[hF2,List.replicate,am,lle_self]
          · rintro x hJ2;simp only[hF2,List.replicate,am,aml,dnl,Nat.reduceEqDiff,aml,reduceCtorEq,winc hi (by omega)];refine nxt (()) hi ?_ ?_ ?_ ?_
            · exact Eq.mpr (hJF _ _) (allS hJ hJ2)
            all_goals simp[hF,List.replicate,am,lle_self]
        · rintro x hJ;simp only[hF,List.replicate,am,aml,dnl,aml];refine retS ?_;simp[V.erase,good hJ]
end Go.Proofs.Tryz

namespace Go.Proofs.Tryz
open Go.Am
set_option maxRecDepth 4000
set_option maxHeartbeats 4000000
def ac134:AC:=.seq (.reg [⟨(some 2),.mv (.c (.int .u64 0)),none⟩])
 (.seq (.reg [⟨(some 3),.mv (.c (.int .u64 0)),none⟩,⟨(some 4),.mv (.c (.int .u64 1)),none⟩])
 (.seq (.seq (.reg [xi 5 0])
 (.block 0 (.loop (.seq (.seq (.reg [xm 7 5,xB .lss 8 7 64])
 (.cond (.s 8) (.skip)
 (.exit 0)))
 (.seq (.block 1 (.seq (.seq (.reg [xi 6 0])
 (.block 2 (.loop (.seq (.seq (.reg [xm 11 6,xm 12 0,xL 13 12,xb .lss 14 11 13])
 (.cond (.s 14) (.skip)
 (.exit 2)))
 (.seq (.block 3 (.seq (.reg [xm 17 0,xm 18 6,xA 1 19 17 18,xo 20 19,xm 21 5,xb .eql 22 20 21])
 (.cond (.s 22) (.seq (.reg [xm 23 3,xm 24 4,xb .add 25 23 24,xm 3 25])
 (.exit 2))
 (.skip))))
 (.reg [xm 15 6,xB .add 16 15 1,xm 6 16]))))))
 (.reg [xm 26 4,⟨(some 27),.binI .mul (.s 26) (.c (.int .u64 2)),none⟩,xm 4 27])))
 (.reg [xm 9 5,xB .add 10 9 1,xm 5 10]))))))
 (.seq (.reg [xm 28 3,xm 2 28])
 (.ret))))
theorem fn134:IsFn prog 134 ac134 [.tmp 2] 29:=⟨f134,⟨[],[],[]⟩,func134,by kernel_rfl,by kernel_rfl,by kernel_rfl,by kernel_rfl⟩
theorem ref01_of_calls (l:List Int) (σ:Store) (hl:l.length≤100000):PCalls prog 134 [.sl .no 1 (iCells l)] σ fun v σ' => v = .int .u64 ((ofB l).toNat:Nat)∧σ' = σ:=by
  refine fn134.calls ?_;simp only[slots,ac134,z0_];obtain⟨F,hF⟩:∃F:Nat→B64→St,∀i x,F i x=⟨[.sl .no 1 (iCells l),.any,.int .u64 ((0#64:B64).toNat:Nat),.int .u64 (x.toNat:Nat),.int .u64 ((bitB i).toNat:Nat),.int .i64 (i:Nat)]++List.replicate 23 .any,[],σ⟩:=⟨_,fun _ _=>rfl⟩;obtain⟨JF,hJF⟩:∃JF:Nat→B64→Prop,∀i x,JF i x=(x=ofB l&&&belowB (i:Int)):=⟨_,fun _ _=>rfl⟩;refine vc_count (64) F JF _ hJF ?_ ?_ ?_
  · refine ent (0#64) ?_ ?_ ?_ ?_
    · exact Eq.mpr (hJF _ _) ((ofB_none l).symm)
    all_goals simp[hF,List.replicate,am,lle_self,bitB]
  · rintro i x hi rfl;simp only[hF,List.replicate,am,show decide ((i:Int)<64)=true from dlt hi];obtain⟨F2,hF2⟩:∃F2:Nat→Unit→St,∀j y,F2 j y=⟨[.sl .no 1 (iCells l),.any,.int .u64 ((0#64:B64).toNat:Nat),.int .u64 ((ofB l&&&belowB (i:Int)).toNat:Nat),.int .u64 ((bitB i).toNat:Nat),.int .i64 (i:Nat),.int .i64 (j:Nat)]++List.replicate 22 .any,[],σ⟩:=⟨_,fun _ _=>rfl⟩;obtain⟨JF2,hJF2⟩:∃JF2:Nat→Unit→Prop,∀j y,JF2 j y=((i:Int)∉l.take j):=⟨_,fun _ _=>rfl⟩;refine vc_count (l.length) F2 JF2 _ hJF2 ?_ ?_ ?_
    · refine ent (()) ?_ ?_ ?_ ?_
      · exact Eq.mpr (hJF2 _ _) (by simp)
      all_goals simp[hF2,List.replicate,am,lle_self]
    · rintro j y hj hm;simp only[hF2,List.replicate,am,dlt hj,iCells_len];refine idxL_intro (by omega) (iCells_at hj) ?_;simp only[am]
      by_cases he:l[j]=(i:Int)
      · have hmem:(i:Int)∈l:=he▸List.getElem_mem hj;simp only[am,Nat.reduceEqDiff,aml,reduceCtorEq,w_add,w_dbl,decide_eq_true he,winc hi (by omega),bitB_dbl];refine nxt ((ofB l&&&belowB (i:Int))+bitB i) hi ?_ ?_ ?_ ?_
        · exact Eq.mpr (hJF _ _) (by rw[ofB_step l i hi,if_pos hmem])
        all_goals simp[hF,List.replicate,am,lle_self]
      · simp only[am,aml,decide_eq_false he,winc hj (by omega)];refine nxt (()) hj ?_ ?_ ?_ ?_
        · exact Eq.mpr (hJF2 _ _) (by rw[List.take_succ_eq_append_getElem hj,List.mem_append];simp[hm,Ne.symm he])
        all_goals simp[hF2,List.replicate,am,lle_self]
    · rintro y hm;rw[List.take_length] at hm;simp only[hF2,List.replicate,am,aml,dnl,Nat.reduceEqDiff,aml,reduceCtorEq,w_dbl,iCells_len,winc hi (by omega),bitB_dbl];refine nxt (ofB l&&&belowB (i:Int)) hi ?_ ?_ ?_ ?_
      · exact Eq.mpr (hJF _ _) (by rw[ofB_step l i hi,if_neg hm])
      all_goals simp[hF,List.replicate,am,lle_self]
  · rintro x rfl;simp only[hF,List.replicate,am,aml,aml,show decide (((64:Nat):Int)<64)=false from rfl];rw[show ((64:Nat):Int)=64 from rfl,ofB_full];refine retS ?_;simp[V.erase]
end Go.Proofs.Tryz

namespace Go.Proofs.Tryz
open Go.Am
set_option maxRecDepth 4000
set_option maxHeartbeats 4000000
def ac109:AC:=.seq (.reg [⟨(some 1),.box 65 (.s 0),none⟩,xi 2 0])
 (.seq (.seq (.reg [xf 0 3 1,xo 4 3,xB .lss 5 4 0])
 (.cond (.s 5) (.seq (.reg [xi 2 0])
 (.ret))
 (.skip)))
 (.seq (.seq (.reg [xf 0 6 1,xo 7 6,xB .gtr 8 7 64])
 (.cond (.s 8) (.seq (.reg [xi 2 64])
 (.ret))
 (.skip)))
 (.seq (.reg [xf 0 9 1,xo 10 9,xm 2 10])
 (.ret))))
theorem fn109:IsFn prog 109 ac109 [.tmp 2] 11:=⟨f109,⟨[],[],[]⟩,func109,by kernel_rfl,by kernel_rfl,by kernel_rfl,by kernel_rfl⟩
def ac136:AC:=.seq (.reg [⟨(some 1),.box 65 (.s 0),none⟩,⟨(some 2),.mv (.c (.bool false)),none⟩])
 (.seq (.draw [(xl 65 3 1,[1]),(xl 65 4 1,[]),(xc 156 5 [.s 4],[]),(xc 155 6 [.s 3,.s 5],[]),(xm 2 6,[])])
 (.ret))
theorem fn136:IsFn prog 136 ac136 [.tmp 2] 7:=⟨f136,⟨[],[],[]⟩,func136,by kernel_rfl,by kernel_rfl,by kernel_rfl,by kernel_rfl⟩
def ac137:AC:=.seq (.reg [⟨(some 1),.box 65 (.s 0),none⟩,⟨(some 2),.mv (.c (.bool false)),none⟩])
 (.seq (.seq (.reg [xi 3 0])
 (.block 0 (.loop (.seq (.seq (.reg [xm 5 3,xl 65 6 1,xc 109 7 [.s 6],xb .lss 8 5 7])
 (.cond (.s 8) (.skip)
 (.exit 0)))
 (.seq (.block 1 (.seq (.reg [xi 4 0])
 (.block 2 (.loop (.seq (.seq (.reg [xm 11 4,xm 12 3,xb .lss 13 11 12])
 (.cond (.s 13) (.skip)
 (.exit 2)))
 (.seq (.block 3 (.seq (.reg [xl 65 16 1,xm 17 3,xm 18 4,xc 150 19 [.s 16,.s 17,.s 18],xm 20 19,xg 20 (xl 65 21 1),xg 20 (xm 22 4),xg 20 (xm 23 3),xg 20 (xc 150 24 [.s 21,.s 22,.s 23]),⟨(some 25),.pick (.s 20) (.s 24) (.c (.bool false)),none⟩])
 (.cond (.s 25) (.seq (.reg [⟨(some 2),.mv (.c (.bool false)),none⟩])
 (.ret))
 (.skip))))
 (.reg [xm 14 4,xB .add 15 14 1,xm 4 15])))))))
 (.reg [xm 9 3,xB .add 10 9 1,xm 3 10]))))))
 (.seq (.reg [xl 65 26 1,xc 136 27 [.s 26],xm 2 27])
 (.ret)))
theorem fn137:IsFn prog 137 ac137 [.tmp 2] 28:=⟨f137,⟨[],[],[]⟩,func137,by kernel_rfl,by kernel_rfl,by kernel_rfl,by kernel_rfl⟩
def ac150:AC:=.seq (.reg [⟨(some 3),.box 65 (.s 0),none⟩,⟨(some 6),.mv (.c (.bool false)),none⟩])
 (.seq (.reg [xl 65 8 3,xc 109 9 [.s 8],xm 7 9])
 (.seq (.reg [xm 10 1,xB .geq 11 10 0,xm 12 11,xg 12 (xm 13 2),xg 12 (xB .geq 14 13 0),⟨(some 15),.pick (.s 12) (.s 14) (.c (.bool false)),none⟩,xm 16 15,xg 16 (xm 17 1),xg 16 (xm 18 7),xg 16 (xb .lss 19 17 18),⟨(some 20),.pick (.s 16) (.s 19) (.c (.bool false)),none⟩,xm 21 20,xg 21 (xm 22 2),xg 21 (xm 23 7),xg 21 (xb .lss 24 22 23),⟨(some 25),.pick (.s 21) (.s 24) (.c (.bool false)),none⟩,xm 26 25,xg 26 (xm 27 1),xg 26 (xf 1 28 3),⟨(some 29),.idxP 64 1 (.s 28) (.s 27),(some (26,true))⟩,xg 26 (xo 30 29),xg 26 (xm 31 2),⟨(some 32),.cvI .u64 (.s 31),(some (26,true))⟩,xg 26 (xb .shr 33 30 32),⟨(some 34),.binI .rem (.s 33) (.c (.int .u64 2)),(some (26,true))⟩,⟨(some 35),.binI .eql (.s 34) (.c (.int .u64 1)),(some (26,true))⟩,⟨(some 36),.pick (.s 26) (.s 35) (.c (.bool false)),none⟩,xm 6 36])
 (.ret)))
theorem fn150:IsFn prog 150 ac150 [.tmp 6] 37:=⟨f150,⟨[],[],[]⟩,func150,by kernel_rfl,by kernel_rfl,by kernel_rfl,by kernel_rfl⟩
def ac155:AC:=.seq (.reg [⟨(some 2),.box 65 (.s 0),none⟩,⟨(some 3),.box 65 (.s 1),none⟩,⟨(some 4),.mv (.c (.bool false)),none⟩])
 (.seq (.draw [(xl 65 5 2,[]),(xc 175 6 [.s 5],[]),(xl 65 7 3,[0]),(xc 175 8 [.s 7],[]),(⟨(some 9),.eqA false rel1 (.s 6) (.s 8),none⟩,[]),(xm 4 9,[])])
 (.ret))
theorem fn155:IsFn prog 155 ac155 [.tmp 4] 10:=⟨f155,⟨[],[],[]⟩,func155,by kernel_rfl,by kernel_rfl,by kernel_rfl,by kernel_rfl⟩
def ac156:AC:=.seq (.reg [⟨(some 1),.box 65 (.s 0),none⟩,⟨(some 2),.alloc relZ,none⟩])
 (.seq (.reg [xl 65 5 1,xc 109 6 [.s 5],⟨(some 7),.build relZ [(0,1,(.s 6))],none⟩,⟨(some 3),.alloc relZ,none⟩,xs 65 3 7])
 (.seq (.seq (.reg [xi 4 0])
 (.block 0 (.loop (.seq (.seq (.reg [xm 8 4,xf 0 9 3,xo 10 9,xb .lss 11 8 10])
 (.cond (.s 11) (.skip)
 (.exit 0)))
 (.seq (.block 1 (.reg [xm 14 4,xl 65 15 1,xm 16 4,xc 176 17 [.s 15,.s 16],xc 134 18 [.s 17],xf 1 19 3,⟨(some 20),.idxP 64 1 (.s 19) (.s 14),none⟩,xs 1 20 18]))
 (.reg [xm 12 4,xB .add 13 12 1,xm 4 13]))))))
 (.seq (.reg [xl 65 21 3,xs 65 2 21])
 (.ret))))
theorem fn156:IsFn prog 156 ac156 [.cell 2 true 65] 22:=⟨f156,⟨[],[],[]⟩,func156,by kernel_rfl,by kernel_rfl,by kernel_rfl,by kernel_rfl⟩
def ac175:AC:=.seq (.reg [⟨(some 1),.box 65 (.s 0),none⟩,⟨(some 2),.alloc relZ,none⟩])
 (.seq (.reg [xl 65 7 1,xc 109 8 [.s 7],⟨(some 9),.build relZ [(0,1,(.s 8))],none⟩,⟨(some 3),.alloc relZ,none⟩,xs 65 3 9])
 (.seq (.seq (.reg [xi 4 0])
 (.block 0 (.loop (.seq (.seq (.reg [xm 10 4,xf 0 11 3,xo 12 11,xb .lss 13 10 12])
 (.cond (.s 13) (.skip)
 (.exit 0)))
 (.seq (.block 1 (.seq (.reg [⟨(some 5),.mv (.c (.sl .full 1 [])),none⟩])
 (.seq (.seq (.reg [xi 6 0])
 (.block 2 (.loop (.seq (.seq (.reg [xm 16 6,xf 0 17 3,xo 18 17,xb .lss 19 16 18])
 (.cond (.s 19) (.skip)
 (.exit 2)))
 (.seq (.block 3 (.seq (.reg [xl 65 22 1,xm 23 4,xm 24 6,xc 150 25 [.s 22,.s 23,.s 24]])
 (.cond (.s 25) (.reg [xm 26 5,xm 27 6,⟨(some 28),.bslice 1 [(.s 27)],none⟩,xa 1 29 26 28,xm 5 29])
 (.skip))))
 (.reg [xm 20 6,xB .add 21 20 1,xm 6 21]))))))
 (.reg [xm 30 4,xm 31 5,xc 134 32 [.s 31],xf 1 33 3,⟨(some 34),.idxP 64 1 (.s 33) (.s 30),none⟩,xs 1 34 32]))))
 (.reg [xm 14 4,xB .add 15 14 1,xm 4 15]))))))
 (.seq (.reg [xl 65 35 3,xs 65 2 35])
 (.ret))))
theorem fn175:IsFn prog 175 ac175 [.cell 2 true 65] 36:=⟨f175,⟨[],[],[]⟩,func175,by kernel_rfl,by kernel_rfl,by kernel_rfl,by kernel_rfl⟩
def ac176:AC:=.seq (.reg [⟨(some 2),.box 65 (.s 0),none⟩,⟨(some 4),.mv (.c (.sl .full 1 [])),none⟩])
 (.seq (.seq (.reg [xm 8 1,xB .lss 9 8 0,xm 10 9,xh 10 (xm 11 1),xh 10 (xl 65 12 2),xh 10 (xc 109 13 [.s 12]),xh 10 (xb .geq 14 11 13),⟨(some 15),.pick (.s 10) (.c (.bool true)) (.s 14),none⟩])
 (.cond (.s 15) (.seq (.reg [⟨(some 4),.mv (.c (.sl .full 1 [])),none⟩])
 (.ret))
 (.skip)))
 (.seq (.reg [xm 16 1,⟨(some 17),.bslice 1 [(.s 16)],none⟩,xm 5 17])
 (.seq (.seq (.reg [xi 6 0])
 (.block 0 (.loop (.seq (.seq (.reg [xm 18 6,xm 19 5,xL 20 19,xb .lss 21 18 20])
 (.cond (.s 21) (.skip)
 (.exit 0)))
 (.seq (.block 1 (.seq (.reg [xi 7 0])
 (.block 2 (.loop (.seq (.seq (.reg [xm 24 7,xl 65 25 2,xc 109 26 [.s 25],xb .lss 27 24 26])
 (.cond (.s 27) (.skip)
 (.exit 2)))
 (.seq (.block 3 (.seq (.draw [(xl 65 30 2,[]),(xm 31 5,[]),(xm 32 6,[]),(xA 1 33 31 32,[]),(xo 34 33,[]),(xm 35 7,[]),(xc 150 36 [.s 30,.s 34,.s 35],[]),(xm 37 36,[]),(xg 37 (xm 38 5),[]),(xg 37 (xm 39 7),[]),(xg 37 (xc 185 40 [.s 38,.s 39]),[]),(⟨(some 41),.not (.s 40),(some (37,true))⟩,[]),(⟨(some 42),.pick (.s 37) (.s 41) (.c (.bool false)),none⟩,[])])
 (.cond (.s 42) (.reg [xm 43 5,xm 44 7,⟨(some 45),.bslice 1 [(.s 44)],none⟩,xa 1 46 43 45,xm 5 46])
 (.skip))))
 (.reg [xm 28 7,xB .add 29 28 1,xm 7 29])))))))
 (.reg [xm 22 6,xB .add 23 22 1,xm 6 23]))))))
 (.seq (.reg [xm 47 5,xm 4 47])
 (.ret)))))
theorem fn176:IsFn prog 176 ac176 [.tmp 4] 48:=⟨f176,⟨[],[],[]⟩,func176,by kernel_rfl,by kernel_rfl,by kernel_rfl,by kernel_rfl⟩
def ac185:AC:=.seq (.reg [⟨(some 4),.mv (.c (.bool false)),none⟩])
 (.seq (.seq (.reg [xi 5 0])
 (.block 0 (.loop (.seq (.seq (.reg [xm 6 5,xm 7 0,xL 8 7,xb .lss 9 6 8])
 (.cond (.s 9) (.skip)
 (.exit 0)))
 (.seq (.block 1 (.seq (.reg [xm 12 0,xm 13 5,xA 1 14 12 13,xo 15 14,xm 16 1,xb .eql 17 15 16])
 (.cond (.s 17) (.seq (.reg [⟨(some 4),.mv (.c (.bool true)),none⟩])
 (.ret))
 (.skip))))
 (.reg [xm 10 5,xB .add 11 10 1,xm 5 11]))))))
 (.seq (.reg [⟨(some 4),.mv (.c (.bool false)),none⟩])
 (.ret)))
theorem fn185:IsFn prog 185 ac185 [.tmp 4] 18:=⟨f185,⟨[],[],[]⟩,func185,by kernel_rfl,by kernel_rfl,by kernel_rfl,by kernel_rfl⟩
theorem nat_ge {i:Nat}:decide ((0:Int)≤(i:Nat))=true:=decide_eq_true (by omega)
theorem rpoints_calls (r:Rl) (σ:Store):PCalls prog 109 [.agg r.enc] σ fun v σ' => v = .int .i64 (pts r:Nat)∧σ' = σ:=by
  refine fn109.calls ?_;simp only[slots,ac109,am,ams,Rl.rec_]
  by_cases h:r.n<0
  · simp only[am,decide_eq_true h];refine retS ?_;simp[V.erase,pts];omega
  · simp only[am,Rl.rec_,decide_eq_false h]
    by_cases h2:64<r.n
    · simp only[am,decide_eq_true h2];refine retS ?_;simp[V.erase,pts];omega
    · simp only[am,Rl.rec_,decide_eq_false h2];refine retS ?_;simp[V.erase,pts];omega
def z13_:=And.intro @am <| And.intro @ams <| And.intro @w_one @Rl.rec_
def z14_:=And.intro @am <| And.intro @w_shr <| And.intro @Int.toNat_natCast @Nat.mul_one
theorem rhas_calls (r:Rl) (i j:Nat) (σ:Store):PCalls prog 150 [.agg r.enc,.int .i64 (i:Nat),.int .i64 (j:Nat)] σ fun v σ' => v = .bool (hsR r i j)∧σ' = σ:=by
  refine fn150.calls ?_;simp only[slots,ac150,z13_,Nat.reduceAdd];refine cl (rpoints_calls r σ) ?_;simp only[am,nat_ge];have hp:=@pts_le r
  by_cases h1:i<pts r
  · simp only[am,dlt h1]
    by_cases h2:j<pts r
    · simp only[am,amc,dlt h2];refine idxPL_ptr (by omega) (by omega) ?_;simp only[z14_,w_rem2,w_bone,Rl.u_ld (show i<64 by omega),wrap_u64 (x:=((j:Nat):Int)) (by omega) (by omega),BitVec.getLsbD_ushiftRight];refine retS ?_;simp[V.erase,hsR_def,h1,h2]
    · have e:decide ((j:Int)<(pts r:Nat))=false:=decide_eq_false (by omega);simp only[am,e];refine retS ?_;simp[V.erase,hsR_def,h2]
  · have e:decide ((i:Int)<(pts r:Nat))=false:=decide_eq_false (by omega);simp only[am,e];refine retS ?_;simp[V.erase,hsR_def,h1]
theorem rplain_calls (r:Rl) (σ:Store):PCalls prog 175 [.agg r.enc] σ fun v σ' => v = .agg (plainR r).enc∧σ' = σ:=by
  refine fn175.calls ?_;simp only[slots,ac175,am,ams,Rl.rec_];refine cl (rpoints_calls r σ) ?_;simp only[am,Nat.reduceAdd,Rl.rec_];have hp:=@pts_le r;obtain⟨F,hF⟩:∃F:Nat→Unit→St,∀i x,F i x=⟨[.any,.ptr (.loc 0) 0,.ptr (.loc 1) 0,.ptr (.loc 2) 0,.int .i64 (i:Nat)]++List.replicate 31 .any,[r.enc,Rl.zero.enc,(Rl.of (pts r:Nat) fun j=>if j<i then rowR r j else 0#64).enc],σ⟩:=⟨_,fun _ _=>rfl⟩;obtain⟨JF,hJF⟩:∃JF:Nat→Unit→Prop,∀i x,JF i x=(True):=⟨_,fun _ _=>rfl⟩;refine vc_count (pts r) F JF _ hJF ?_ ?_ ?_
  · refine ent (()) ?_ ?_ ?_ ?_
    · exact Eq.mpr (hJF _ _) (trivial)
    all_goals simp[hF,List.replicate,am,lle_self,Rl.zero_setn]
  · rintro i x hi -;simp only[hF,List.replicate,am,dlt hi,Rl.rec_,Rl.of_n];obtain⟨F2,hF2⟩:∃F2:Nat→Tk × Store→St,∀j x,F2 j x=⟨[.any,.ptr (.loc 0) 0,.ptr (.loc 1) 0,.ptr (.loc 2) 0,.int .i64 (i:Nat),.sl x.1 1 (iCells (((List.range j).filter (hsR r i)).map Int.ofNat)),.int .i64 (j:Nat)]++List.replicate 29 .any,[r.enc,Rl.zero.enc,(Rl.of (pts r:Nat) fun j=>if j<i then rowR r j else 0#64).enc],x.2⟩:=⟨_,fun _ _=>rfl⟩;obtain⟨JF2,hJF2⟩:∃JF2:Nat→Tk × Store→Prop,∀j x,JF2 j x=(Gr σ x.2 x.1 ((List.range j).filter (hsR r i)).length):=⟨_,fun _ _=>rfl⟩;refine vc_count (pts r) F2 JF2 _ hJF2 ?_ ?_ ?_
    · refine ent ((.full,σ)) ?_ ?_ ?_ ?_
      · exact Eq.mpr (hJF2 _ _) (Gr.nil)
      all_goals simp[hF2,List.replicate,am,lle_self,iCells]
    · rintro j ⟨tk,σ1⟩ hj hG;simp only at hG;have hlen:((List.range j).filter (hsR r i)).length≤64:=by have:=List.length_filter_le (hsR r i) (List.range j);simp at this;omega
      simp only[hF2,List.replicate,am,dlt hj,Rl.rec_,Rl.of_n];refine(rhas_calls r i j σ1).mono ?_;rintro v σ1 ⟨rfl,rfl⟩;simp only[am];refine vcIf_split (fun hb=>?_) (fun hb=>?_)
      · simp only[am];refine Gr.app (by simpa [iCells] using hG) (by simp[iCells,big];omega) fun tk' σ' hG' _ _=>?_
        have e:iCells (((List.range (j+1)).filter (hsR r i)).map Int.ofNat)=iCells (((List.range j).filter (hsR r i)).map Int.ofNat)++[[.int .i64 (j:Nat)]]:=by
          rw[List.range_succ,List.filter_append,List.filter_cons,hb];simp[iCells]
        simp only[am,aml,winc hj (by omega)];refine nxt ((tk',σ')) hj ?_ ?_ ?_ ?_
        · exact Eq.mpr (hJF2 _ _) (by rw[←e] at hG';simpa [iCells] using hG')
        all_goals simp[hF2,List.replicate,am,lle_self,e]
      · have e:iCells (((List.range (j+1)).filter (hsR r i)).map Int.ofNat)=iCells (((List.range j).filter (hsR r i)).map Int.ofNat):=by
          rw[List.range_succ,List.filter_append,List.filter_cons,hb];simp[iCells]
        simp only[am,aml,winc hj (by omega)];refine nxt ((tk,σ1)) hj ?_ ?_ ?_ ?_
        · exact Eq.mpr (hJF2 _ _) (by simpa [List.range_succ,hb] using hG)
        all_goals simp[hF2,List.replicate,am,lle_self,e]
    · rintro⟨tk,σ1⟩ hG;simp only at hG;have hlen:((List.range (pts r)).filter (hsR r i)).length≤64:=by have:=List.length_filter_le (hsR r i) (List.range (pts r));simp at this;omega
      simp only[hF2,List.replicate,am,aml,dnl,Nat.reduceEqDiff,aml,reduceCtorEq,Rl.rec_,Rl.of_n];refine PCalls.weak (as' := [.sl .no 1 (iCells (((List.range (pts r)).filter (hsR r i)).map Int.ofNat))]) ?_ ⟨VLe.no,trivial⟩ OLe.rfl;refine cl (ref01_of_calls _ _ (by rw[List.length_map];omega)) ?_;simp only[am,amc,of_row hi];refine idxPL_ptr (by omega) (by omega) ?_;simp only[z8_,Rl.u_has (show i<64 by omega),Rl.u_st (show i<64 by omega),winc hi (by omega)];refine nxt (()) hi ?_ ?_ ?_ ?_
      · exact Eq.mpr (hJF _ _) (trivial)
      rotate_left 2
      · simp only[hF];exact(OLe.of_sub hG.sub)
      all_goals simp[hF,List.replicate,am,lle_self,Rl.fill]
  · rintro x -;simp only[hF,List.replicate,am,aml,dnl,aml,Rl.rec_,Rl.of_n];refine retS ?_;simp[V.erase,plainR,Rl.r_er]
theorem rsame_calls (r s:Rl) (σ:Store):PCalls prog 155 [.agg r.enc,.agg s.enc] σ fun v σ' => v = .bool (decide (plainR r=plainR s))∧σ' = σ:=by
  refine fn155.calls ?_;simp only[slots,ac155,am,ams,Nat.reduceAdd,Rl.rec_];refine CallD.intro (rplain_calls r σ) ?_;simp only[am,Rl.rec_];refine CallD.intro (rplain_calls s σ) ?_;simp only[am,Rl.rec_];refine retS ?_;simp[V.erase]
theorem in_calls (l:List Int) (n:Int) (σ:Store) (hl:l.length≤100000):PCalls prog 185 [.sl .no 1 (iCells l),.int .i64 n] σ fun v σ' => v = .bool (decide (n∈l))∧σ' = σ:=by
  refine fn185.calls ?_;simp only[slots,ac185,am,ams,Nat.reduceAdd];obtain⟨F,hF⟩:∃F:Nat→Unit→St,∀i x,F i x=⟨[.sl .no 1 (iCells l),.int .i64 n,.any,.any,.bool false,.int .i64 (i:Nat)]++List.replicate 12 .any,[],σ⟩:=⟨_,fun _ _=>rfl⟩;obtain⟨JF,hJF⟩:∃JF:Nat→Unit→Prop,∀i x,JF i x=(∀k∈l.take i,k≠n):=⟨_,fun _ _=>rfl⟩;refine vc_count (l.length) F JF _ hJF ?_ ?_ ?_
  · refine ent (()) ?_ ?_ ?_ ?_
    · exact Eq.mpr (hJF _ _) (by simp)
    all_goals simp[hF,List.replicate,am,lle_self]
  · rintro i x hi hJ;simp only[hF,List.replicate,am,dlt hi,iCells_len];refine idxL_intro (by omega) (iCells_at hi) ?_;simp only[am]
    by_cases h:l[i]=n
    · simp only[am,aml,decide_eq_true h];have hm:n∈l:=h▸List.getElem_mem hi;refine retS ?_;simp[V.erase,hm]
    · simp only[am,aml,decide_eq_false h,winc hi (by omega)];refine nxt (()) hi ?_ ?_ ?_ ?_
      · exact Eq.mpr (hJF _ _) (take_all hJ hi h)
      all_goals simp[hF,List.replicate,am,lle_self]
  · rintro x hJ;rw[List.take_length] at hJ;have hm:n∉l:=fun hm=>hJ n hm rfl
    simp only[hF,List.replicate,am,aml,dnl,aml,iCells_len];refine retS ?_;simp[V.erase,hm]
theorem mem_map_nat {l:List Nat} {j:Nat}:((j:Nat):Int)∈l.map Int.ofNat↔j∈l:=by
  simp only[List.mem_map,Int.ofNat_eq_natCast];constructor
  · rintro⟨a,h1,h2⟩;obtain rfl:a=j:=by omega
    exact h1
  · intro h;exact⟨j,h,rfl⟩
structure RI (r:Rl) (i0 m:Nat) (l:List Nat):Prop where
  nd:l.Nodup
  rch:∀k∈l,Rch r i0 k
  fst:i0∈l
  suc:∀a v,a<m→l[a]?=some v→∀k,hsR r v k=true→k∈l
theorem RI.len {r:Rl} {i0 m:Nat} {l:List Nat} (h:RI r i0 m l):l.length≤pts r:=nodup_le h.nd fun k hk=>(h.rch k hk).lt.2
theorem RI.all {r:Rl} {i0:Nat} {l:List Nat} (h:RI r i0 l.length l) (j:Nat):j∈l↔Rch r i0 j:=by
  refine⟨h.rch j,fun hr=>?_⟩;induction hr with
  | refl _=>exact h.fst
  | tail _ hs ih =>
    obtain⟨a,ha,hv⟩:=List.mem_iff_getElem.1 ih;exact h.suc a _ ha (by rw[List.getElem?_eq_getElem ha,hv]) _ hs
theorem RI.add {r:Rl} {i0 m j:Nat} {l:List Nat} {v:Nat} (h:RI r i0 m l) (hm:m≤l.length) (hv:v∈l) (hs:hsR r v j=true) (hj:j∉l):RI r i0 m (l++[j]):=by
  refine⟨?_,fun k hk=>?_,by simp[h.fst],fun a w ha hw k hk=>?_⟩
  · rw[List.nodup_append];exact⟨h.nd,by simp,fun a ha b hb=>by simp only[List.mem_singleton] at hb;subst hb;rintro rfl;exact hj ha⟩
  · rcases List.mem_append.1 hk with hk | hk
    · exact h.rch k hk
    · rw[List.mem_singleton.1 hk];exact(h.rch v hv).tail hs
  · rw[List.getElem?_append_left (by omega)] at hw;exact List.mem_append.2 (.inl (h.suc a w ha hw k hk))
theorem iCells_nat {l:List Nat} {m v:Nat} (h:l[m]?=some v):(iCells (l.map Int.ofNat))[((m:Nat):Int).toNat]?=some [.int .i64 (v:Nat)]:=by simp[iCells,h]
theorem reach_calls (r:Rl) (i0:Nat) (hi0:i0<pts r) (σ:Store):PCalls prog 176 [.agg r.enc,.int .i64 (i0:Nat)] σ fun v σ' => (∃l:List Nat,v = .sl .no 1 (iCells (l.map Int.ofNat))∧(∀j,j∈l↔Rch r i0 j)∧l.length≤64)∧σ' = σ:=by
  refine fn176.calls ?_;simp only[slots,ac176,am,ams,Nat.reduceAdd,Rl.rec_];have hp:=@pts_le r;simp only[am,Rl.rec_,decide_eq_false (show ¬(i0:Int)<0 by omega)];refine cl (rpoints_calls r σ) ?_;simp only[am,decide_eq_false (show ¬((pts r:Nat):Int)≤(i0:Nat) by omega)];have fin:∀(l:List Nat) (tk:Tk) (σ1:Store),RI r i0 l.length l→Gr σ σ1 tk l.length→∀t loc,RetK (fun v σ' => (∃l:List Nat,v=V.sl .no 1 (iCells (l.map Int.ofNat))∧(∀j,j∈l↔Rch r i0 j)∧l.length≤64)∧σ' = σ) ⟨t,loc,σ1⟩ (.sl tk 1 (iCells (l.map Int.ofNat))):=fun l tk σ1 h1 h2 t loc =>
    retK_intro rfl h2.sub ⟨⟨l,rfl,h1.all,by have:=h1.len;omega⟩,rfl⟩
  obtain⟨F,hF⟩:∃F:Nat→List Nat × Tk × Store→St,∀m x,F m x=⟨[.agg r.enc,.any,.ptr (.loc 0) 0,.any,.any,.sl x.2.1 1 (iCells (x.1.map Int.ofNat)),.int .i64 (m:Nat)]++List.replicate 41 .any,[r.enc],x.2.2⟩:=⟨_,fun _ _=>rfl⟩;obtain⟨JF,hJF⟩:∃JF:Nat→List Nat × Tk × Store→Prop,∀m x,JF m x=(RI r i0 m x.1∧m≤x.1.length∧Gr σ x.2.2 x.2.1 x.1.length):=⟨_,fun _ _=>rfl⟩;refine vc_count (pts r) F JF _ hJF ?_ ?_ ?_
  · refine ent (([i0],.full,σ)) ?_ ?_ ?_ ?_
    · exact Eq.mpr (hJF _ _) (⟨⟨by simp,by simp[Rch.refl hi0],by simp,fun a v h=>by omega⟩,by simp,Store.sub_refl _,.inl rfl⟩)
    all_goals simp[hF,List.replicate,am,lle_self,iCells]
  · rintro m ⟨l,tk,σ1⟩ hi ⟨h1,h2,h3⟩;simp only at h1 h2 h3;simp only[hF,List.replicate,am,iCells_len,List.length_map]
    by_cases hlt:m<l.length
    · obtain⟨v,hv⟩:∃v,l[m]?=some v:=⟨_,List.getElem?_eq_getElem hlt⟩;simp only[am,dlt hlt];obtain⟨F2,hF2⟩:∃F2:Nat→List Nat × Tk × Store→St,∀j x,F2 j x=⟨[.agg r.enc,.any,.ptr (.loc 0) 0,.any,.any,.sl x.2.1 1 (iCells (x.1.map Int.ofNat)),.int .i64 (m:Nat),.int .i64 (j:Nat)]++List.replicate 40 .any,[r.enc],x.2.2⟩:=⟨_,fun _ _=>rfl⟩;obtain⟨JF2,hJF2⟩:∃JF2:Nat→List Nat × Tk × Store→Prop,∀j x,JF2 j x=((RI r i0 m x.1∧m<x.1.length∧Gr σ x.2.2 x.2.1 x.1.length)∧x.1[m]?=some v∧∀k,k<j→hsR r v k=true→k∈x.1):=⟨_,fun _ _=>rfl⟩;refine vc_count (pts r) F2 JF2 _ hJF2 ?_ ?_ ?_
      · refine ent ((l,tk,σ1)) ?_ ?_ ?_ ?_
        · exact Eq.mpr (hJF2 _ _) (⟨⟨h1,hlt,h3⟩,hv,fun k hk=>by omega⟩)
        all_goals simp[hF2,List.replicate,am,lle_self]
      · rintro j ⟨l,tk,σ1⟩ hj ⟨⟨h1,h2,h3⟩,hv,h4⟩;simp only at h1 h2 h3 hv h4;have hlen:=h1.len;simp only[hF2,List.replicate,am,Rl.rec_];refine(rpoints_calls r σ1).mono ?_;rintro v σ1 ⟨rfl,rfl⟩;simp only[am,Rl.rec_,dlt hj];refine idxL_intro (by omega) (iCells_nat hv) ?_;simp only[am,Rl.rec_];refine CallD.intro (rhas_calls r v j σ1) ?_;have hmem:v∈l:=List.mem_of_getElem? hv;cases hb:hsR r v j with
        | false =>
          simp only[am,aml,winc hj (by omega)];refine nxt ((l,tk,σ1)) hj ?_ ?_ ?_ ?_
          · exact Eq.mpr (hJF2 _ _) (⟨⟨h1,h2,h3⟩,hv,allS h4 fun hs=>by rw[hb] at hs;simp at hs⟩)
          all_goals simp[hF2,List.replicate,am,lle_self]
        | true =>
          simp only[am];refine CallD.intro (PCalls.weak (as' := [.sl .no 1 (iCells (l.map Int.ofNat)),.int .i64 (j:Nat)]) (in_calls (l.map Int.ofNat) (j:Nat) σ1 (by rw[List.length_map];omega)) ⟨VLe.no,VLe.rfl,trivial⟩ OLe.rfl) ?_
          by_cases hm:j∈l
          · simp only[am,aml,decide_eq_true (mem_map_nat.2 hm),winc hj (by omega)];refine nxt ((l,tk,σ1)) hj ?_ ?_ ?_ ?_
            · exact Eq.mpr (hJF2 _ _) (⟨⟨h1,h2,h3⟩,hv,allS h4 fun _=>hm⟩)
            all_goals simp[hF2,List.replicate,am,lle_self]
          · simp only[am,decide_eq_false (fun h=>hm (mem_map_nat.1 h))];refine Gr.app (by simpa [iCells] using h3) (by simp[iCells,big];omega) fun tk' σ' hG' _ _=>?_
            simp only[am,aml,winc hj (by omega)];refine nxt ((l++[j],tk',σ')) hj ?_ ?_ ?_ ?_
            · exact Eq.mpr (hJF2 _ _) (⟨⟨h1.add (by omega) hmem hb hm,by simp;omega,by simpa [iCells] using hG'⟩,by rw[List.getElem?_append_left h2];exact hv,allS (fun k hk hs=>List.mem_append.2 (.inl (h4 k hk hs))) fun _=>by simp⟩)
            all_goals simp[hF2,List.replicate,am,lle_self,iCells_snoc]
      · rintro⟨l,tk,σ1⟩ ⟨⟨h1,h2,h3⟩,hv,h4⟩;simp only at h1 h2 h3 hv h4;simp only[hF2,List.replicate,am,Rl.rec_];refine(rpoints_calls r σ1).mono ?_;rintro v σ1 ⟨rfl,rfl⟩;simp only[am,Nat.reduceEqDiff,aml,reduceCtorEq,dnl,winc hi (by omega)];have h5:∀a w,a<m+1→l[a]?=some w→∀k,hsR r w k=true→k∈l:=fun a w ha hw k hk=>by
          rcases Nat.lt_succ_iff_lt_or_eq.1 ha with h | h
          · exact h1.suc a w h hw k hk
          · subst h;rw[hv] at hw;cases hw;exact h4 k (hsR_lt hk).2 hk
        refine nxt ((l,tk,σ1)) hi ?_ ?_ ?_ ?_
        · exact Eq.mpr (hJF _ _) (⟨⟨h1.nd,h1.rch,h1.fst,h5⟩,h2,h3⟩)
        all_goals simp[hF,List.replicate,am,lle_self]
    · obtain rfl:m=l.length:=by omega
      simp only[am,aml,dnl];exact fin l tk σ1 h1 h3 _ _
  · rintro⟨l,tk,σ1⟩ ⟨h1,h2,h3⟩;simp only at h1 h2 h3;have hlen:=h1.len;have e:pts r=l.length:=by omega
    rw[e] at h1;simp only[hF,List.replicate,am,aml,aml,iCells_len,List.length_map,show decide (((pts r:Nat):Int)<(l.length:Nat))=false from by rw[e];exact dnl];exact fin l tk σ1 h1 h3 _ _
theorem rclosure_calls (r:Rl) (σ:Store):PCalls prog 156 [.agg r.enc] σ fun v σ' => v = .agg (closR r).enc∧σ' = σ:=by
  refine fn156.calls ?_;simp only[slots,ac156,am,ams,Rl.rec_];refine cl (rpoints_calls r σ) ?_;simp only[am,Nat.reduceAdd,Rl.rec_];have hp:=@pts_le r;obtain⟨F,hF⟩:∃F:Nat→Unit→St,∀i x,F i x=⟨[.any,.ptr (.loc 0) 0,.ptr (.loc 1) 0,.ptr (.loc 2) 0,.int .i64 (i:Nat)]++List.replicate 17 .any,[r.enc,Rl.zero.enc,(Rl.of (pts r:Nat) fun j=>if j<i then (closR r).get j else 0#64).enc],σ⟩:=⟨_,fun _ _=>rfl⟩;obtain⟨JF,hJF⟩:∃JF:Nat→Unit→Prop,∀i x,JF i x=(True):=⟨_,fun _ _=>rfl⟩;refine vc_count (pts r) F JF _ hJF ?_ ?_ ?_
  · refine ent (()) ?_ ?_ ?_ ?_
    · exact Eq.mpr (hJF _ _) (trivial)
    all_goals simp[hF,List.replicate,am,lle_self,Rl.zero_setn]
  · rintro i x hi -;simp only[hF,List.replicate,am,dlt hi,Rl.rec_,Rl.of_n];refine(reach_calls r i hi σ).mono ?_;rintro v σ ⟨⟨l,rfl,hl,hlen⟩,rfl⟩;simp only[am];refine cl (ref01_of_calls _ σ (by rw[List.length_map];omega)) ?_;simp only[am,amc,clos_row hi hl];refine idxPL_ptr (by omega) (by omega) ?_;simp only[z8_,Rl.u_has (show i<64 by omega),Rl.u_st (show i<64 by omega),winc hi (by omega)];refine nxt (()) hi ?_ ?_ ?_ ?_
    · exact Eq.mpr (hJF _ _) (trivial)
    all_goals simp[hF,List.replicate,am,lle_self,Rl.fill]
  · rintro x -;simp only[hF,List.replicate,am,aml,dnl,aml,Rl.rec_,Rl.of_n];rw[clos_of];exact retK_intro (v:=.agg (closR r).enc) Rl.r_nol (Store.sub_refl _) ⟨by simp only[V.erase,Rl.r_er],rfl⟩
theorem rclosed_calls (r:Rl) (σ:Store):PCalls prog 136 [.agg r.enc] σ fun v σ' => v = .bool (closedR r)∧σ' = σ:=by
  refine fn136.calls ?_;simp only[slots,ac136,am,ams,Rl.rec_];refine CallD.intro (rclosure_calls r σ) ?_;simp only[am,Rl.rec_];refine CallD.intro (rsame_calls r (closR r) σ) ?_;simp only[am,Rl.rec_];refine retS ?_;simp[V.erase,closedR,clos_plain]
theorem rorder_calls (r:Rl) (σ:Store):PCalls prog 137 [.agg r.enc] σ fun v σ' => v = .bool (orderR r)∧σ' = σ:=by
  refine fn137.calls ?_;simp only[slots,ac137,am,ams,Rl.rec_];have hp:=@pts_le r;obtain⟨F,hF⟩:∃F:Nat→Unit→St,∀i x,F i x=⟨[.any,.ptr (.loc 0) 0,.bool false,.int .i64 (i:Nat)]++List.replicate 24 .any,[r.enc],σ⟩:=⟨_,fun _ _=>rfl⟩;obtain⟨JF,hJF⟩:∃JF:Nat→Unit→Prop,∀i x,JF i x=(∀a,a<i→∀b,b<a→(hsR r a b&&hsR r b a)=false):=⟨_,fun _ _=>rfl⟩;refine vc_count (pts r) F JF _ hJF ?_ ?_ ?_
  · refine ent (()) ?_ ?_ ?_ ?_
    · exact Eq.mpr (hJF _ _) (by intro k h;omega)
    all_goals simp[hF,List.replicate,am,lle_self]
  · rintro i x hi hJ;simp only[hF,List.replicate,am,Rl.rec_];refine cl (rpoints_calls r σ) ?_;simp only[am,dlt hi];obtain⟨F2,hF2⟩:∃F2:Nat→Unit→St,∀j x,F2 j x=⟨[.any,.ptr (.loc 0) 0,.bool false,.int .i64 (i:Nat),.int .i64 (j:Nat)]++List.replicate 23 .any,[r.enc],σ⟩:=⟨_,fun _ _=>rfl⟩;obtain⟨JF2,hJF2⟩:∃JF2:Nat→Unit→Prop,∀j x,JF2 j x=(∀b,b<j→(hsR r i b&&hsR r b i)=false):=⟨_,fun _ _=>rfl⟩;refine vc_count (i) F2 JF2 _ hJF2 ?_ ?_ ?_
    · refine ent (()) ?_ ?_ ?_ ?_
      · exact Eq.mpr (hJF2 _ _) (by intro k h;omega)
      all_goals simp[hF2,List.replicate,am,lle_self]
    · rintro j x hj hJ2;simp only[hF2,List.replicate,am,dlt hj,Rl.rec_];refine cl (rhas_calls r i j σ) ?_;have bad:hsR r i j=true→hsR r j i=true→orderR r=false:=fun h1 h2=>by
        have:antiR r=false:=by
          cases hq:antiR r with
          | false=>rfl
          | true=>have:=antiR_iff.1 hq i j h1 h2;omega
        simp[orderR,this]
      cases h1:hsR r i j with
      | false =>
        simp only[am,aml,winc hj (by omega)];refine nxt (()) hj ?_ ?_ ?_ ?_
        · exact Eq.mpr (hJF2 _ _) (allS hJ2 (by rw[h1];rfl))
        all_goals simp[hF2,List.replicate,am,lle_self]
      | true =>
        simp only[am,Rl.rec_];refine cl (rhas_calls r j i σ) ?_;cases h2:hsR r j i with
        | false =>
          simp only[am,aml,winc hj (by omega)];refine nxt (()) hj ?_ ?_ ?_ ?_
          · exact Eq.mpr (hJF2 _ _) (allS hJ2 (by rw[h2,Bool.and_false]))
          all_goals simp[hF2,List.replicate,am,lle_self]
        | true =>
          simp only[am,aml];refine retS ?_;simp[V.erase,bad h1 h2]
    · rintro x hJ2;simp only[hF2,List.replicate,am,aml,dnl,Nat.reduceEqDiff,aml,reduceCtorEq,Rl.rec_,winc hi (by omega)];refine nxt (()) hi ?_ ?_ ?_ ?_
      · exact Eq.mpr (hJF _ _) (allS hJ hJ2)
      all_goals simp[hF,List.replicate,am,lle_self]
  · rintro x hJ;have hA:antiR r=true:=by
      simp only[antiR,List.all_eq_true,List.mem_range,Bool.not_eq_true'];exact hJ
    simp only[hF,List.replicate,am,Rl.rec_];refine cl (rpoints_calls r σ) ?_;simp only[am,aml,Rl.rec_,dnl];refine cl (rclosed_calls r σ) ?_;simp only[am];refine retS ?_;simp[V.erase,orderR,hA]
end Go.Proofs.Tryz

namespace Go.Proofs.Tryz
open Go.Am
set_option maxRecDepth 4000
set_option maxHeartbeats 4000000
def ac110:AC:=.seq (.reg [⟨(some 1),.box 65 (.s 0),none⟩,⟨(some 2),.mv (.c (.bool false)),none⟩])
 (.seq (.reg [xf 0 3 1,xo 4 3,xB .geq 5 4 1,xm 6 5,xg 6 (xf 0 7 1),xg 6 (xo 8 7),xg 6 (xB .leq 9 8 8),⟨(some 10),.pick (.s 6) (.s 9) (.c (.bool false)),none⟩,xm 11 10,xg 11 (xl 65 12 1),xg 11 (xc 136 13 [.s 12]),⟨(some 14),.pick (.s 11) (.s 13) (.c (.bool false)),none⟩,xm 2 14])
 (.ret))
theorem fn110:IsFn prog 110 ac110 [.tmp 2] 15:=⟨f110,⟨[],[],[]⟩,func110,by kernel_rfl,by kernel_rfl,by kernel_rfl,by kernel_rfl⟩
theorem r5right_calls (r:Rl) (σ:Store):PCalls prog 110 [.agg r.enc] σ fun v σ' => v = .bool (gridR r)∧σ' = σ:=by
  refine fn110.calls ?_;simp only[slots,ac110,am,ams,Rl.rec_]
  by_cases h:1≤r.n
  · simp only[am,Rl.rec_,decide_eq_true h]
    by_cases h2:r.n≤8
    · simp only[am,Rl.rec_,decide_eq_true h2];refine cl (rclosed_calls r σ) ?_;simp only[am];refine retS ?_;simp[V.erase,gridR,h,h2]
    · simp only[am,decide_eq_false h2];refine retS ?_;simp[V.erase,gridR,h2]
  · simp only[am,decide_eq_false h];refine retS ?_;simp[V.erase,gridR,h]
end Go.Proofs.Tryz

namespace Go.Proofs.Tryz
open Go.Am
set_option maxRecDepth 4000
set_option maxHeartbeats 4000000
def ac111:AC:=.seq (.reg [⟨(some 1),.box 65 (.s 0),none⟩,⟨(some 2),.mv (.c (.bool false)),none⟩])
 (.seq (.seq (.reg [xf 0 9 1,xo 10 9,xB .lss 11 10 1,xm 12 11,xh 12 (xf 0 13 1),xh 12 (xo 14 13),xh 12 (xB .gtr 15 14 64),⟨(some 16),.pick (.s 12) (.c (.bool true)) (.s 15),none⟩,xm 17 16,xh 17 (xl 65 18 1),xh 17 (xc 137 19 [.s 18]),⟨(some 20),.not (.s 19),(some (17,false))⟩,⟨(some 21),.pick (.s 17) (.c (.bool true)) (.s 20),none⟩])
 (.cond (.s 21) (.seq (.reg [⟨(some 2),.mv (.c (.bool false)),none⟩])
 (.ret))
 (.skip)))
 (.seq (.seq (.reg [xi 3 0])
 (.block 0 (.loop (.seq (.seq (.reg [xm 22 3,xf 0 23 1,xo 24 23,xb .lss 25 22 24])
 (.cond (.s 25) (.skip)
 (.exit 0)))
 (.seq (.block 1 (.seq (.reg [xi 4 0])
 (.block 2 (.loop (.seq (.seq (.reg [xm 28 4,xm 29 3,xb .lss 30 28 29])
 (.cond (.s 30) (.skip)
 (.exit 2)))
 (.seq (.block 3 (.seq (.reg [xl 65 34 1,xm 35 3,xm 36 4,xc 138 37 [.s 34,.s 35,.s 36],xm 33 37,xe 38 33 0,xe 39 33 1,xm 5 38,xm 6 39])
 (.seq (.reg [xl 65 41 1,xm 42 3,xm 43 4,xc 139 44 [.s 41,.s 42,.s 43],xm 40 44,xe 45 40 0,xe 46 40 1,xm 7 45,xm 8 46])
 (.seq (.reg [xm 47 6,⟨(some 48),.not (.s 47),none⟩,xm 49 48,xh 49 (xm 50 8),⟨(some 51),.not (.s 50),(some (49,false))⟩,⟨(some 52),.pick (.s 49) (.c (.bool true)) (.s 51),none⟩])
 (.cond (.s 52) (.seq (.reg [⟨(some 2),.mv (.c (.bool false)),none⟩])
 (.ret))
 (.skip))))))
 (.reg [xm 31 4,xB .add 32 31 1,xm 4 32])))))))
 (.reg [xm 26 3,xB .add 27 26 1,xm 3 27]))))))
 (.seq (.reg [⟨(some 2),.mv (.c (.bool true)),none⟩])
 (.ret))))
theorem fn111:IsFn prog 111 ac111 [.tmp 2] 53:=⟨f111,⟨[],[],[]⟩,func111,by kernel_rfl,by kernel_rfl,by kernel_rfl,by kernel_rfl⟩
def ac138:AC:=.seq (.reg [⟨(some 3),.box 65 (.s 0),none⟩,xi 6 0,⟨(some 7),.mv (.c (.bool false)),none⟩])
 (.seq (.seq (.reg [xi 8 0])
 (.block 0 (.loop (.seq (.seq (.reg [xm 11 8,xl 65 12 3,xc 109 13 [.s 12],xb .lss 14 11 13])
 (.cond (.s 14) (.skip)
 (.exit 0)))
 (.seq (.block 1 (.seq (.reg [xl 65 17 3,xm 18 1,xm 19 8,xc 150 20 [.s 17,.s 18,.s 19],xm 21 20,xg 21 (xl 65 22 3),xg 21 (xm 23 2),xg 21 (xm 24 8),xg 21 (xc 150 25 [.s 22,.s 23,.s 24]),⟨(some 26),.pick (.s 21) (.s 25) (.c (.bool false)),none⟩,xm 9 26])
 (.seq (.seq (.reg [xi 10 0])
 (.block 2 (.loop (.seq (.seq (.reg [xm 27 10,xl 65 28 3,xc 109 29 [.s 28],xb .lss 30 27 29])
 (.cond (.s 30) (.skip)
 (.exit 2)))
 (.seq (.block 3 (.seq (.reg [xl 65 33 3,xm 34 1,xm 35 10,xc 150 36 [.s 33,.s 34,.s 35],xm 37 36,xg 37 (xl 65 38 3),xg 37 (xm 39 2),xg 37 (xm 40 10),xg 37 (xc 150 41 [.s 38,.s 39,.s 40]),⟨(some 42),.pick (.s 37) (.s 41) (.c (.bool false)),none⟩,xm 43 42,xg 43 (xl 65 44 3),xg 43 (xm 45 8),xg 43 (xm 46 10),xg 43 (xc 150 47 [.s 44,.s 45,.s 46]),⟨(some 48),.not (.s 47),(some (43,true))⟩,⟨(some 49),.pick (.s 43) (.s 48) (.c (.bool false)),none⟩])
 (.cond (.s 49) (.reg [⟨(some 9),.mv (.c (.bool false)),none⟩])
 (.skip))))
 (.reg [xm 31 10,xB .add 32 31 1,xm 10 32]))))))
 (.seq (.reg [xm 50 9])
 (.cond (.s 50) (.seq (.reg [xm 51 8,xm 6 51,⟨(some 7),.mv (.c (.bool true)),none⟩])
 (.ret))
 (.skip))))))
 (.reg [xm 15 8,xB .add 16 15 1,xm 8 16]))))))
 (.seq (.reg [xi 6 0,⟨(some 7),.mv (.c (.bool false)),none⟩])
 (.ret)))
theorem fn138:IsFn prog 138 ac138 [.tmp 6,.tmp 7] 52:=⟨f138,⟨[],[],[]⟩,func138,by kernel_rfl,by kernel_rfl,by kernel_rfl,by kernel_rfl⟩
def ac139:AC:=.seq (.reg [⟨(some 3),.box 65 (.s 0),none⟩,xi 6 0,⟨(some 7),.mv (.c (.bool false)),none⟩])
 (.seq (.seq (.reg [xi 8 0])
 (.block 0 (.loop (.seq (.seq (.reg [xm 11 8,xl 65 12 3,xc 109 13 [.s 12],xb .lss 14 11 13])
 (.cond (.s 14) (.skip)
 (.exit 0)))
 (.seq (.block 1 (.seq (.reg [xl 65 17 3,xm 18 8,xm 19 1,xc 150 20 [.s 17,.s 18,.s 19],xm 21 20,xg 21 (xl 65 22 3),xg 21 (xm 23 8),xg 21 (xm 24 2),xg 21 (xc 150 25 [.s 22,.s 23,.s 24]),⟨(some 26),.pick (.s 21) (.s 25) (.c (.bool false)),none⟩,xm 9 26])
 (.seq (.seq (.reg [xi 10 0])
 (.block 2 (.loop (.seq (.seq (.reg [xm 27 10,xl 65 28 3,xc 109 29 [.s 28],xb .lss 30 27 29])
 (.cond (.s 30) (.skip)
 (.exit 2)))
 (.seq (.block 3 (.seq (.reg [xl 65 33 3,xm 34 10,xm 35 1,xc 150 36 [.s 33,.s 34,.s 35],xm 37 36,xg 37 (xl 65 38 3),xg 37 (xm 39 10),xg 37 (xm 40 2),xg 37 (xc 150 41 [.s 38,.s 39,.s 40]),⟨(some 42),.pick (.s 37) (.s 41) (.c (.bool false)),none⟩,xm 43 42,xg 43 (xl 65 44 3),xg 43 (xm 45 10),xg 43 (xm 46 8),xg 43 (xc 150 47 [.s 44,.s 45,.s 46]),⟨(some 48),.not (.s 47),(some (43,true))⟩,⟨(some 49),.pick (.s 43) (.s 48) (.c (.bool false)),none⟩])
 (.cond (.s 49) (.reg [⟨(some 9),.mv (.c (.bool false)),none⟩])
 (.skip))))
 (.reg [xm 31 10,xB .add 32 31 1,xm 10 32]))))))
 (.seq (.reg [xm 50 9])
 (.cond (.s 50) (.seq (.reg [xm 51 8,xm 6 51,⟨(some 7),.mv (.c (.bool true)),none⟩])
 (.ret))
 (.skip))))))
 (.reg [xm 15 8,xB .add 16 15 1,xm 8 16]))))))
 (.seq (.reg [xi 6 0,⟨(some 7),.mv (.c (.bool false)),none⟩])
 (.ret)))
theorem fn139:IsFn prog 139 ac139 [.tmp 6,.tmp 7] 52:=⟨f139,⟨[],[],[]⟩,func139,by kernel_rfl,by kernel_rfl,by kernel_rfl,by kernel_rfl⟩
theorem rjoin_calls (r:Rl) (i j:Nat) (σ:Store):PCalls prog 138 [.agg r.enc,.int .i64 (i:Nat),.int .i64 (j:Nat)] σ fun v σ' => v=optT (joinH r i j)∧σ' = σ:=by
  refine fn138.calls ?_;simp only[slots,ac138,am,ams,Nat.reduceAdd,Rl.rec_];rw[joinH_eq];generalize hg:(fun u=>(hsR r i u&&hsR r j u)&&(List.range (pts r)).all fun v=>!(hsR r i v&&hsR r j v&&!hsR r u v))=g;have hg:∀u,((hsR r i u&&hsR r j u)&&(List.range (pts r)).all fun v=>!(hsR r i v&&hsR r j v&&!hsR r u v))=g u:=fun u=>by rw[←hg]
  have hp:=@pts_le r;obtain⟨F,hF⟩:∃F:Nat→Unit→St,∀u x,F u x=⟨[.agg r.enc,.int .i64 (i:Nat),.int .i64 (j:Nat),.ptr (.loc 0) 0,.any,.any,.any,.any,.int .i64 (u:Nat)]++List.replicate 43 .any,[r.enc],σ⟩:=⟨_,fun _ _=>rfl⟩;obtain⟨JF,hJF⟩:∃JF:Nat→Unit→Prop,∀u x,JF u x=(∀k,k<u→g k=false):=⟨_,fun _ _=>rfl⟩;refine vc_count (pts r) F JF _ hJF ?_ ?_ ?_
  · refine ent (()) ?_ ?_ ?_ ?_
    · exact Eq.mpr (hJF _ _) (by intro k h;omega)
    all_goals simp[hF,List.replicate,am,lle_self]
  · rintro u x hi hJ;simp only[hF,List.replicate,am,Rl.rec_];refine cl (rpoints_calls r σ) ?_;simp only[am,Rl.rec_,dlt hi];refine cl (rhas_calls r i u σ) ?_
    rcases Bool.eq_false_or_eq_true (hsR r i u) with hb | hb
    all_goals simp only[am,Rl.rec_,hb]
    case' inl =>
      refine cl (rhas_calls r j u σ) ?_;simp only[am]
    all_goals
      obtain⟨F2,hF2⟩:∃F2:Nat→Unit→St,∀v x,F2 v x=⟨[.agg r.enc,.int .i64 (i:Nat),.int .i64 (j:Nat),.ptr (.loc 0) 0,.any,.any,.any,.any,.int .i64 (u:Nat),.bool ((hsR r i u&&hsR r j u)&&(List.range v).all fun v=>!(hsR r i v&&hsR r j v&&!hsR r u v)),.int .i64 (v:Nat)]++List.replicate 41 .any,[r.enc],σ⟩:=⟨_,fun _ _=>rfl⟩;obtain⟨JF2,hJF2⟩:∃JF2:Nat→Unit→Prop,∀v x,JF2 v x=(True):=⟨_,fun _ _=>rfl⟩;refine vc_count (pts r) F2 JF2 _ hJF2 ?_ ?_ ?_
      · refine ent (()) ?_ ?_ ?_ ?_
        · exact Eq.mpr (hJF2 _ _) (trivial)
        all_goals simp[hF2,List.replicate,am,lle_self,hb]
      · rintro v x hj -;simp only[hF2,List.replicate,am,Rl.rec_];refine cl (rpoints_calls r σ) ?_;simp only[am,Rl.rec_,dlt hj];refine cl (rhas_calls r i v σ) ?_;cases h1:hsR r i v with
        | false =>
          simp only[am,aml,winc hj (by omega)];refine nxt (()) hj ?_ ?_ ?_ ?_
          · exact Eq.mpr (hJF2 _ _) (trivial)
          all_goals simp[hF2,List.replicate,am,lle_self,List.range_succ,h1]
        | true =>
          simp only[am,Rl.rec_];refine cl (rhas_calls r j v σ) ?_;cases h2:hsR r j v with
          | false =>
            simp only[am,aml,winc hj (by omega)];refine nxt (()) hj ?_ ?_ ?_ ?_
            · exact Eq.mpr (hJF2 _ _) (trivial)
            all_goals simp[hF2,List.replicate,am,lle_self,List.range_succ,h2]
          | true =>
            simp only[am,Rl.rec_];refine cl (rhas_calls r u v σ) ?_;cases h3:hsR r u v with
            | false =>
              simp only[am,aml,winc hj (by omega)];refine nxt (()) hj ?_ ?_ ?_ ?_
              · exact Eq.mpr (hJF2 _ _) (trivial)
              all_goals simp[hF2,List.replicate,am,lle_self,List.range_succ,h1,h2,h3]
            | true =>
              simp only[am,aml,winc hj (by omega)];refine nxt (()) hj ?_ ?_ ?_ ?_
              · exact Eq.mpr (hJF2 _ _) (trivial)
              all_goals simp[hF2,List.replicate,am,lle_self,List.range_succ,h1,h2,h3]
      · rintro x -;simp only[hF2,List.replicate,am,Rl.rec_];refine cl (rpoints_calls r σ) ?_;simp only[am,Nat.reduceEqDiff,aml,reduceCtorEq,dnl,hg];cases h:g u with
        | true =>
          have e:(List.range (pts r)).find? g=some u:=find_at hi hJ h;simp only[am,aml];refine retS ?_;simp[V.erase,eraseL,optT,e]
        | false =>
          simp only[am,aml,winc hi (by omega)];refine nxt (()) hi ?_ ?_ ?_ ?_
          · exact Eq.mpr (hJF _ _) (allS hJ h)
          all_goals simp[hF,List.replicate,am,lle_self]
  · rintro x hJ;have e:(List.range (pts r)).find? g=none:=find_no hJ;simp only[hF,List.replicate,am,Rl.rec_];refine cl (rpoints_calls r σ) ?_;simp only[am,aml,dnl];refine retS ?_;simp[V.erase,eraseL,optT,e]
theorem rmeet_calls (r:Rl) (i j:Nat) (σ:Store):PCalls prog 139 [.agg r.enc,.int .i64 (i:Nat),.int .i64 (j:Nat)] σ fun v σ' => v=optT (meetH r i j)∧σ' = σ:=by
  refine fn139.calls ?_;simp only[slots,ac139,am,ams,Nat.reduceAdd,Rl.rec_];rw[meetH_eq];generalize hg:(fun u=>(hsR r u i&&hsR r u j)&&(List.range (pts r)).all fun v=>!(hsR r v i&&hsR r v j&&!hsR r v u))=g;have hg:∀u,((hsR r u i&&hsR r u j)&&(List.range (pts r)).all fun v=>!(hsR r v i&&hsR r v j&&!hsR r v u))=g u:=fun u=>by rw[←hg]
  have hp:=@pts_le r;obtain⟨F,hF⟩:∃F:Nat→Unit→St,∀u x,F u x=⟨[.agg r.enc,.int .i64 (i:Nat),.int .i64 (j:Nat),.ptr (.loc 0) 0,.any,.any,.any,.any,.int .i64 (u:Nat)]++List.replicate 43 .any,[r.enc],σ⟩:=⟨_,fun _ _=>rfl⟩;obtain⟨JF,hJF⟩:∃JF:Nat→Unit→Prop,∀u x,JF u x=(∀k,k<u→g k=false):=⟨_,fun _ _=>rfl⟩;refine vc_count (pts r) F JF _ hJF ?_ ?_ ?_
  · refine ent (()) ?_ ?_ ?_ ?_
    · exact Eq.mpr (hJF _ _) (by intro k h;omega)
    all_goals simp[hF,List.replicate,am,lle_self]
  · rintro u x hi hJ;simp only[hF,List.replicate,am,Rl.rec_];refine cl (rpoints_calls r σ) ?_;simp only[am,Rl.rec_,dlt hi];refine cl (rhas_calls r u i σ) ?_
    rcases Bool.eq_false_or_eq_true (hsR r u i) with hb | hb
    all_goals simp only[am,Rl.rec_,hb]
    case' inl =>
      refine cl (rhas_calls r u j σ) ?_;simp only[am]
    all_goals
      obtain⟨F2,hF2⟩:∃F2:Nat→Unit→St,∀v x,F2 v x=⟨[.agg r.enc,.int .i64 (i:Nat),.int .i64 (j:Nat),.ptr (.loc 0) 0,.any,.any,.any,.any,.int .i64 (u:Nat),.bool ((hsR r u i&&hsR r u j)&&(List.range v).all fun v=>!(hsR r v i&&hsR r v j&&!hsR r v u)),.int .i64 (v:Nat)]++List.replicate 41 .any,[r.enc],σ⟩:=⟨_,fun _ _=>rfl⟩;obtain⟨JF2,hJF2⟩:∃JF2:Nat→Unit→Prop,∀v x,JF2 v x=(True):=⟨_,fun _ _=>rfl⟩;refine vc_count (pts r) F2 JF2 _ hJF2 ?_ ?_ ?_
      · refine ent (()) ?_ ?_ ?_ ?_
        · exact Eq.mpr (hJF2 _ _) (trivial)
        all_goals simp[hF2,List.replicate,am,lle_self,hb]
      · rintro v x hj -;simp only[hF2,List.replicate,am,Rl.rec_];refine cl (rpoints_calls r σ) ?_;simp only[am,Rl.rec_,dlt hj];refine cl (rhas_calls r v i σ) ?_;cases h1:hsR r v i with
        | false =>
          simp only[am,aml,winc hj (by omega)];refine nxt (()) hj ?_ ?_ ?_ ?_
          · exact Eq.mpr (hJF2 _ _) (trivial)
          all_goals simp[hF2,List.replicate,am,lle_self,List.range_succ,h1]
        | true =>
          simp only[am,Rl.rec_];refine cl (rhas_calls r v j σ) ?_;cases h2:hsR r v j with
          | false =>
            simp only[am,aml,winc hj (by omega)];refine nxt (()) hj ?_ ?_ ?_ ?_
            · exact Eq.mpr (hJF2 _ _) (trivial)
            all_goals simp[hF2,List.replicate,am,lle_self,List.range_succ,h2]
          | true =>
            simp only[am,Rl.rec_];refine cl (rhas_calls r v u σ) ?_;cases h3:hsR r v u with
            | false =>
              simp only[am,aml,winc hj (by omega)];refine nxt (()) hj ?_ ?_ ?_ ?_
              · exact Eq.mpr (hJF2 _ _) (trivial)
              all_goals simp[hF2,List.replicate,am,lle_self,List.range_succ,h1,h2,h3]
            | true =>
              simp only[am,aml,winc hj (by omega)];refine nxt (()) hj ?_ ?_ ?_ ?_
              · exact Eq.mpr (hJF2 _ _) (trivial)
              all_goals simp[hF2,List.replicate,am,lle_self,List.range_succ,h1,h2,h3]
      · rintro x -;simp only[hF2,List.replicate,am,Rl.rec_];refine cl (rpoints_calls r σ) ?_;simp only[am,Nat.reduceEqDiff,aml,reduceCtorEq,dnl,hg];cases h:g u with
        | true =>
          have e:(List.range (pts r)).find? g=some u:=find_at hi hJ h;simp only[am,aml];refine retS ?_;simp[V.erase,eraseL,optT,e]
        | false =>
          simp only[am,aml,winc hi (by omega)];refine nxt (()) hi ?_ ?_ ?_ ?_
          · exact Eq.mpr (hJF _ _) (allS hJ h)
          all_goals simp[hF,List.replicate,am,lle_self]
  · rintro x hJ;have e:(List.range (pts r)).find? g=none:=find_no hJ;simp only[hF,List.replicate,am,Rl.rec_];refine cl (rpoints_calls r σ) ?_;simp only[am,aml,dnl];refine retS ?_;simp[V.erase,eraseL,optT,e]
theorem rlattice_calls (r:Rl) (σ:Store):PCalls prog 111 [.agg r.enc] σ fun v σ' => v = .bool (latH r)∧σ' = σ:=by
  refine fn111.calls ?_;simp only[slots,ac111,am,ams,Rl.rec_]
  by_cases h1:r.n<1
  · simp only[am,decide_eq_true h1];refine retS ?_;simp[V.erase,latH];omega
  · simp only[am,Rl.rec_,decide_eq_false h1]
    by_cases h2:64<r.n
    · simp only[am,decide_eq_true h2];refine retS ?_;simp[V.erase,latH];omega
    · simp only[am,Rl.rec_,decide_eq_false h2];refine cl (rorder_calls r σ) ?_;obtain⟨n,hn⟩:∃n:Nat,r.n=n:=⟨r.n.toNat,by omega⟩;have hp:pts r=n:=by rw[pts,hn];omega
      cases ho:orderR r with
      | false =>
        simp only[am];refine retS ?_;simp[V.erase,latH,ho]
      | true =>
        simp only[am];have good:(∀i,i<n→∀j,j<i→((joinH r i j).isSome&&(meetH r i j).isSome)=true)→latH r=true:=fun h=>by
          simp only[latH,ho,hn,Int.toNat_natCast,List.all_eq_true,List.mem_range,Bool.and_eq_true,decide_eq_true_eq,Bool.and_true];exact⟨by omega,fun i hi j hj=>by have:=h i hi j hj;simpa using this⟩
        have bad:∀i j,i<n→j<i→((joinH r i j).isSome&&(meetH r i j).isSome)=false→latH r=false:=fun i j hi hj h=>by
          cases hq:latH r with
          | false=>rfl
          | true =>
            simp only[latH,hn,Int.toNat_natCast,List.all_eq_true,List.mem_range,Bool.and_eq_true] at hq
            have:=hq.2 i hi j hj
            rw[this.1,this.2] at h;simp at h
        obtain⟨F,hF⟩:∃F:Nat→Unit→St,∀i x,F i x=⟨[.any,.ptr (.loc 0) 0,.any,.int .i64 (i:Nat)]++List.replicate 49 .any,[r.enc],σ⟩:=⟨_,fun _ _=>rfl⟩;obtain⟨JF,hJF⟩:∃JF:Nat→Unit→Prop,∀i x,JF i x=(∀a,a<i→∀b,b<a→((joinH r a b).isSome&&(meetH r a b).isSome)=true):=⟨_,fun _ _=>rfl⟩;refine vc_count (n) F JF _ hJF ?_ ?_ ?_
        · refine ent (()) ?_ ?_ ?_ ?_
          · exact Eq.mpr (hJF _ _) (by intro k h;omega)
          all_goals simp[hF,List.replicate,am,lle_self]
        · rintro i x hi hJ;simp only[hF,List.replicate,am,dlt hi,Rl.rec_,hn];obtain⟨F2,hF2⟩:∃F2:Nat→Unit→St,∀j x,F2 j x=⟨[.any,.ptr (.loc 0) 0,.any,.int .i64 (i:Nat),.int .i64 (j:Nat)]++List.replicate 48 .any,[r.enc],σ⟩:=⟨_,fun _ _=>rfl⟩;obtain⟨JF2,hJF2⟩:∃JF2:Nat→Unit→Prop,∀j x,JF2 j x=(∀b,b<j→((joinH r i b).isSome&&(meetH r i b).isSome)=true):=⟨_,fun _ _=>rfl⟩;refine vc_count (i) F2 JF2 _ hJF2 ?_ ?_ ?_
          · refine ent (()) ?_ ?_ ?_ ?_
            · exact Eq.mpr (hJF2 _ _) (by intro k h;omega)
            all_goals simp[hF2,List.replicate,am,lle_self]
          · rintro j x hj hJ2;simp only[hF2,List.replicate,am,dlt hj,Rl.rec_];refine cl (rjoin_calls r i j σ) ?_;simp only[am,Rl.rec_,optT];refine cl (rmeet_calls r i j σ) ?_;simp only[am,optT];cases ha:(joinH r i j).isSome with
            | false =>
              simp only[am,aml];refine retS ?_;simp[V.erase,bad i j hi hj (by rw[ha];rfl)]
            | true =>
              simp only[am];cases hb:(meetH r i j).isSome with
              | false =>
                simp only[am,aml];refine retS ?_;simp[V.erase,bad i j hi hj (by rw[ha,hb];rfl)]
              | true =>
                simp only[am,aml,winc hj (by omega)];refine nxt (()) hj ?_ ?_ ?_ ?_
                · exact Eq.mpr (hJF2 _ _) (allS hJ2 (by rw[ha,hb];rfl))
                all_goals simp[hF2,List.replicate,am,lle_self]
          · rintro x hJ2;simp only[hF2,List.replicate,am,aml,dnl,Nat.reduceEqDiff,aml,reduceCtorEq,winc hi (by omega)];refine nxt (()) hi ?_ ?_ ?_ ?_
            · exact Eq.mpr (hJF _ _) (allS hJ hJ2)
            all_goals simp[hF,List.replicate,am,lle_self]
        · rintro x hJ;simp only[hF,List.replicate,am,aml,dnl,aml,Rl.rec_,hn];refine retS ?_;simp[V.erase,good hJ]
end Go.Proofs.Tryz

namespace Go.Proofs.Tryz
open Go.Am
set_option maxRecDepth 4000
set_option maxHeartbeats 4000000
def ac34:AC:=.seq (.reg [⟨(some 2),.mv (.c (.bool false)),none⟩])
 (.seq (.seq (.reg [xm 4 0,⟨(some 5),.binS .eql (.s 4) (.c (.str [])),none⟩,xm 6 5,xh 6 (xm 7 0),xh 6 (xT 8 7),xh 6 (xB .gtr 9 8 16),⟨(some 10),.pick (.s 6) (.c (.bool true)) (.s 9),none⟩,xm 11 10,xh 11 (xm 12 0),⟨(some 13),.idxS (.s 12) (.c (.int .i64 0)),(some (11,false))⟩,xh 11 (xc 70 14 [.s 13]),⟨(some 15),.not (.s 14),(some (11,false))⟩,⟨(some 16),.pick (.s 11) (.c (.bool true)) (.s 15),none⟩])
 (.cond (.s 16) (.seq (.reg [⟨(some 2),.mv (.c (.bool false)),none⟩])
 (.ret))
 (.skip)))
 (.seq (.seq (.reg [xm 17 0,xT 18 17,xi 19 0])
 (.block 0 (.loop (.seq (.reg [xb .lss 20 19 18])
 (.seq (.cond (.s 20) (.skip)
 (.exit 0))
 (.seq (.block 1 (.seq (.reg [xm 21 19,xm 3 21])
 (.seq (.reg [xm 22 0,xm 23 3,xS 24 22 23,xc 71 25 [.s 24],⟨(some 26),.not (.s 25),none⟩])
 (.cond (.s 26) (.seq (.reg [⟨(some 2),.mv (.c (.bool false)),none⟩])
 (.ret))
 (.skip)))))
 (.reg [xB .add 27 19 1,xm 19 27])))))))
 (.seq (.reg [⟨(some 2),.mv (.c (.bool true)),none⟩])
 (.ret))))
theorem fn34:IsFn prog 34 ac34 [.tmp 2] 28:=⟨f34,⟨[],[],[]⟩,func34,by kernel_rfl,by kernel_rfl,by kernel_rfl,by kernel_rfl⟩
def ac39:AC:=.seq (.reg [⟨(some 2),.mv (.c (.bool false)),none⟩])
 (.seq (.seq (.reg [xm 4 0,xT 5 4,xB .lss 6 5 1,xm 7 6,xh 7 (xm 8 0),xh 7 (xT 9 8),xh 7 (xB .gtr 10 9 16),⟨(some 11),.pick (.s 7) (.c (.bool true)) (.s 10),none⟩,xm 12 11,xh 12 (xm 13 0),⟨(some 14),.idxS (.s 13) (.c (.int .i64 0)),(some (12,false))⟩,xh 12 (xc 75 15 [.s 14]),⟨(some 16),.not (.s 15),(some (12,false))⟩,⟨(some 17),.pick (.s 12) (.c (.bool true)) (.s 16),none⟩])
 (.cond (.s 17) (.seq (.reg [⟨(some 2),.mv (.c (.bool false)),none⟩])
 (.ret))
 (.skip)))
 (.seq (.seq (.reg [xi 3 1])
 (.block 0 (.loop (.seq (.seq (.reg [xm 18 3,xm 19 0,xT 20 19,xb .lss 21 18 20])
 (.cond (.s 21) (.skip)
 (.exit 0)))
 (.seq (.block 1 (.seq (.reg [xm 24 0,xm 25 3,xS 26 24 25,xc 75 27 [.s 26],⟨(some 28),.not (.s 27),none⟩,xm 29 28,xg 29 (xm 30 0),xg 29 (xm 31 3),xg 29 (xS 32 30 31),xg 29 (xu .lss 33 32 48),xg 29 (xm 34 33),xh 34 (xm 35 0),xh 34 (xm 36 3),xh 34 (xS 37 35 36),xh 34 (xu .gtr 38 37 57),⟨(some 39),.pick (.s 34) (.c (.bool true)) (.s 38),(some (29,true))⟩,⟨(some 40),.pick (.s 29) (.s 39) (.c (.bool false)),none⟩,xm 41 40,xg 41 (xm 42 0),xg 41 (xm 43 3),xg 41 (xS 44 42 43),xg 41 (xu .neq 45 44 95),⟨(some 46),.pick (.s 41) (.s 45) (.c (.bool false)),none⟩])
 (.cond (.s 46) (.seq (.reg [⟨(some 2),.mv (.c (.bool false)),none⟩])
 (.ret))
 (.skip))))
 (.reg [xm 22 3,xB .add 23 22 1,xm 3 23]))))))
 (.seq (.reg [⟨(some 2),.mv (.c (.bool true)),none⟩])
 (.ret))))
theorem fn39:IsFn prog 39 ac39 [.tmp 2] 47:=⟨f39,⟨[],[],[]⟩,func39,by kernel_rfl,by kernel_rfl,by kernel_rfl,by kernel_rfl⟩
def ac70:AC:=.seq (.reg [⟨(some 2),.mv (.c (.bool false)),none⟩])
 (.seq (.reg [xm 3 0,xu .geq 4 3 97,xm 5 4,xg 5 (xm 6 0),xg 5 (xu .leq 7 6 122),⟨(some 8),.pick (.s 5) (.s 7) (.c (.bool false)),none⟩,xm 2 8])
 (.ret))
theorem fn70:IsFn prog 70 ac70 [.tmp 2] 9:=⟨f70,⟨[],[],[]⟩,func70,by kernel_rfl,by kernel_rfl,by kernel_rfl,by kernel_rfl⟩
def ac71:AC:=.seq (.reg [⟨(some 2),.mv (.c (.bool false)),none⟩])
 (.seq (.reg [xm 3 0,xc 70 4 [.s 3],xm 5 4,xh 5 (xm 6 0),xh 5 (xu .geq 7 6 48),xh 5 (xm 8 7),xg 8 (xm 9 0),xg 8 (xu .leq 10 9 57),⟨(some 11),.pick (.s 8) (.s 10) (.c (.bool false)),(some (5,false))⟩,⟨(some 12),.pick (.s 5) (.c (.bool true)) (.s 11),none⟩,xm 13 12,xh 13 (xm 14 0),xh 13 (xu .eql 15 14 95),⟨(some 16),.pick (.s 13) (.c (.bool true)) (.s 15),none⟩,xm 2 16])
 (.ret))
theorem fn71:IsFn prog 71 ac71 [.tmp 2] 17:=⟨f71,⟨[],[],[]⟩,func71,by kernel_rfl,by kernel_rfl,by kernel_rfl,by kernel_rfl⟩
def ac75:AC:=.seq (.reg [⟨(some 2),.mv (.c (.bool false)),none⟩])
 (.seq (.reg [xm 3 0,xu .geq 4 3 97,xm 5 4,xg 5 (xm 6 0),xg 5 (xu .leq 7 6 122),⟨(some 8),.pick (.s 5) (.s 7) (.c (.bool false)),none⟩,xm 2 8])
 (.ret))
theorem fn75:IsFn prog 75 ac75 [.tmp 2] 9:=⟨f75,⟨[],[],[]⟩,func75,by kernel_rfl,by kernel_rfl,by kernel_rfl,by kernel_rfl⟩
def z15_:=And.intro @am <| And.intro @amo <| And.intro @amc <| And.intro @encs_length <| And.intro @decide_true <| And.intro @decide_false <| And.intro @Tree.rec_ <| And.intro @Nd.rec_ <| And.intro @Word.rec_ @Got.rec_
theorem letter_calls (c:Int) (σ:Store):PCalls prog 70 [.int .u8 c] σ fun v σ' => v = .bool (letZ c)∧σ' = σ:=by
  refine fn70.calls ?_;simp only[slots,ac70,am,ams]
  repeat' (first
    | (refine gL_split (fun h=>?_) (fun h=>?_)<;>simp only[am,h])
    | (refine vcIf_split (fun h=>?_) (fun h=>?_)<;>simp only[z15_,h,Nat.reduceAdd,Nat.reduceEqDiff,List.length_map])
    | (refine pickL_split (fun h=>?_) (fun h=>?_)<;>simp only[z15_,h,Nat.reduceAdd,Nat.reduceEqDiff,List.length_map])
  )
  all_goals refine retS ?_
  all_goals simp_all [V.erase,letZ]
  all_goals (try omega)
theorem letter2_calls (c:Int) (σ:Store):PCalls prog 75 [.int .u8 c] σ fun v σ' => v = .bool (letZ c)∧σ' = σ:=by
  refine fn75.calls ?_;simp only[slots,ac75,am,ams]
  repeat' (first
    | (refine gL_split (fun h=>?_) (fun h=>?_)<;>simp only[am,h])
    | (refine vcIf_split (fun h=>?_) (fun h=>?_)<;>simp only[z15_,h,Nat.reduceAdd,Nat.reduceEqDiff,List.length_map])
    | (refine pickL_split (fun h=>?_) (fun h=>?_)<;>simp only[z15_,h,Nat.reduceAdd,Nat.reduceEqDiff,List.length_map])
  )
  all_goals refine retS ?_
  all_goals simp_all [V.erase,letZ]
  all_goals (try omega)
theorem goes_calls (c:Int) (σ:Store):PCalls prog 71 [.int .u8 c] σ fun v σ' => v = .bool (goesZ c)∧σ' = σ:=by
  refine fn71.calls ?_;simp only[slots,ac71,am,ams];refine cl (letter_calls c σ) ?_;simp only[am]
  repeat' (first
    | (refine gL_split (fun h=>?_) (fun h=>?_)<;>simp only[am,h])
    | (refine vcIf_split (fun h=>?_) (fun h=>?_)<;>simp only[z15_,h,Nat.reduceAdd,Nat.reduceEqDiff,List.length_map])
    | (refine pickL_split (fun h=>?_) (fun h=>?_)<;>simp only[z15_,h,Nat.reduceAdd,Nat.reduceEqDiff,List.length_map])
  )
  all_goals refine retS ?_
  all_goals simp_all [V.erase,goesZ]
  all_goals (try omega)
theorem str_at {s:List UInt8} {i:Nat} (h:i<s.length):s[((i:Nat):Int).toNat]?=some s[i]:=by simp[h]
def inv70 (s:List UInt8) (σ:Store) (i:Nat):St :=
  ⟨[.str s]++List.replicate 17 .any++[.int .i64 s.length,.int .i64 (i:Nat)]++List.replicate 8 .any,[],σ⟩
theorem all_take_succ {s:List UInt8} {i:Nat} {f:UInt8→Bool} (h:i<s.length):(s.take (i+1)).all f=((s.take i).all f&&f s[i]):=by
  rw[take_succ_of (List.getElem?_eq_getElem h),List.all_append];simp only[List.all_cons,List.all_nil,Bool.and_true]
theorem nameR_loop {s:List UInt8} (h:s.length≤16) (h1:0<s.length):nameR s=(letB s[0]&&s.all goesB):=by
  cases s with
  | nil=>simp at h1
  | cons c r =>
    simp only[nameR,h,decide_true,Bool.true_and,List.getElem_cons_zero,List.all_cons];cases hc:letB c
    · simp
    · have:goesB c=true:=by simp only[letB] at hc;simp[goesB,goesZ,hc]
      simp[this]
theorem nright_calls (s:List UInt8) (σ:Store):PCalls prog 34 [.str s] σ fun v σ' => v = .bool (nameR s)∧σ' = σ:=by
  refine fn34.calls ?_;simp only[slots,ac34,am,ams]
  by_cases h0:s=[]
  · subst h0;simp only[am,decide_true];refine retS ?_;simp[V.erase,nameR]
  · have hpos:0<s.length:=by cases s with | nil=>exact absurd rfl h0 | cons _ _=>simp
    simp only[am,decide_false,h0]
    by_cases h16:s.length≤16
    · have e:decide ((16:Int)<s.length)=false:=by simp;omega
      simp only[am,e];refine idxSL_intro (by omega) (c:=s[0]) (by simp[hpos]) ?_;simp only[am];refine cl (letter_calls s[0].toNat σ) ?_;have hl:nameR s=(letB s[0]&&s.all goesB):=nameR_loop h16 hpos;cases hb:letZ (s[0].toNat:Nat)
      · have hb' : letB s[0]=false:=hb;simp only[am];refine retS ?_;simp[V.erase,hl,hb']
      · have hb' : letB s[0]=true:=hb;simp only[am];refine vc_loop (fun p:{i:Nat // i≤s.length∧(s.take i).all goesB=true}=>inv70 s σ p.1) (fun p=>s.length - p.1) ?_ ?_
        · refine Upd.enter ⟨0,by simp,by simp⟩ ?_ LLLe.rfl OLe.rfl;simp[inv70,List.replicate,am]
        · rintro⟨i,hi,ha⟩;simp only[inv70,List.replicate,am];refine vcIf_split ?_ ?_
          · intro hlt;have hlt:i<s.length:=by simpa using hlt
            simp only[am];refine idxSL_intro (by omega) (str_at hlt) ?_;simp only[am];refine cl (goes_calls s[i].toNat σ) ?_;cases hg:goesZ (s[i].toNat:Nat)
            · have hg' : goesB s[i]=false:=hg;simp only[am];refine retK_intro rfl (Store.sub_refl _) ⟨?_,rfl⟩
              have:s.all goesB=false:=by
                rw[List.all_eq_false];exact⟨s[i],List.getElem_mem hlt,by simp[hg']⟩
              simp[V.erase,hl,this]
            · simp only[am];rw[wrap_i64 (by omega) (by omega)];refine Upd.again ⟨i+1,by omega,?_⟩ (by simp;omega) (by simp[am]) LLLe.rfl OLe.rfl;rw[all_take_succ hlt,ha];exact hg
          · intro hlt;have hlt:i=s.length:=by simp at hlt;omega
            subst hlt;rw[List.take_length] at ha;simp only[am];refine retS ?_;simp[V.erase,hl,hb',ha]
    · have e:decide ((16:Int)<s.length)=true:=by simp;omega
      simp only[am,e];refine retS ?_;simp[V.erase,nameR,h16]
def inv54 (s:List UInt8) (σ:Store) (i:Nat):St :=
  ⟨[.str s,.any,.any,.int .i64 (i:Nat)]++List.replicate 43 .any,[],σ⟩
theorem right2_calls (s:List UInt8) (σ:Store):PCalls prog 39 [.str s] σ fun v σ' => v = .bool (nameR s)∧σ' = σ:=by
  refine fn39.calls ?_;simp only[slots,ac39,am,ams]
  by_cases h0:s=[]
  · subst h0;simp only[am,show decide ((([]:List UInt8).length:Int)<1)=true from rfl];refine retS ?_;simp[V.erase,nameR]
  · have hpos:0<s.length:=by cases s with | nil=>exact absurd rfl h0 | cons _ _=>simp
    have e1:decide ((s.length:Int)<1)=false:=by simp;omega
    simp only[am,e1]
    by_cases h16:s.length≤16
    · have e:decide ((16:Int)<s.length)=false:=by simp;omega
      simp only[am,e];refine idxSL_intro (by omega) (c:=s[0]) (by simp[hpos]) ?_;simp only[am];refine cl (letter2_calls s[0].toNat σ) ?_;have hl:nameR s=(letB s[0]&&s.all goesB):=nameR_loop h16 hpos;cases hb:letZ (s[0].toNat:Nat)
      · have hb' : letB s[0]=false:=hb;simp only[am];refine retS ?_;simp[V.erase,hl,hb']
      · have hb' : letB s[0]=true:=hb;simp only[am];refine vc_loop (fun p:{i:Nat // 1≤i∧i≤s.length∧(s.take i).all goesB=true}=>inv54 s σ p.1) (fun p=>s.length - p.1) ?_ ?_
        · refine Upd.enter ⟨1,by simp,by omega,?_⟩ ?_ LLLe.rfl OLe.rfl
          · rw[all_take_succ hpos];simp[goesB,goesZ,hb]
          · simp[inv54,List.replicate,am]
        · rintro⟨i,hi1,hi,ha⟩;simp only[inv54,List.replicate,am];refine vcIf_split ?_ ?_
          · intro hlt;have hlt:i<s.length:=by simpa using hlt
            simp only[am];refine idxSL_intro (by omega) (str_at hlt) ?_;simp only[am];refine cl (letter2_calls s[i].toNat σ) ?_;have hno:goesB s[i]=false→s.all goesB=false:=fun hg=>by
              rw[List.all_eq_false];exact⟨s[i],List.getElem_mem hlt,by simp[hg]⟩
            have fin:goesB s[i]=true→(s.take (i+1)).all goesB=true:=fun hg=>by rw[all_take_succ hlt,ha,hg];rfl
            have hgf:goesB s[i]=(letZ (s[i].toNat:Nat)||(decide (48≤(s[i].toNat:Int))&&decide ((s[i].toNat:Int)≤57))||decide ((s[i].toNat:Int)=95)):=rfl;cases hg:letZ (s[i].toNat:Nat)
            all_goals rw[hg] at hgf
            all_goals simp only[am]
            repeat' (first
              | (refine gL_split (fun h=>?_) (fun h=>?_)<;>simp only[am,h])
              | (refine vcIf_split (fun h=>?_) (fun h=>?_)<;>simp only[am,h])
              | (refine pickL_split (fun h=>?_) (fun h=>?_)<;>simp only[z15_,h,Nat.reduceAdd,Nat.reduceEqDiff,List.length_map])
              | (refine idxSL_intro (by omega) (str_at hlt) ?_;simp only[am])
            )
            all_goals first
              | (have hgo:goesB s[i]=true:=by rw[hgf];simp_all<;>omega
                 rw[wrap_i64 (by omega) (by omega)];exact Upd.again ⟨i+1,by omega,by omega,fin hgo⟩ (by simp;omega) (by simp[am]) LLLe.rfl OLe.rfl)
              | (have hgo:goesB s[i]=false:=by rw[hgf];simp_all<;>omega
                 refine retK_intro rfl (Store.sub_refl _) ⟨?_,rfl⟩;simp[V.erase,hl,hno hgo])
          · intro hlt;have hlt:i=s.length:=by simp at hlt;omega
            subst hlt;rw[List.take_length] at ha;simp only[am];refine retS ?_;simp[V.erase,hl,hb',ha]
    · have e:decide ((16:Int)<s.length)=true:=by simp;omega
      simp only[am,e];refine retS ?_;simp[V.erase,nameR,h16]
end Go.Proofs.Tryz

namespace Go.Proofs.Tryz
open Go.Am
set_option maxRecDepth 4000
set_option maxHeartbeats 4000000
def ac45:AC:=.seq (.reg [xi 2 0])
 (.seq (.seq (.reg [xi 3 0])
 (.block 0 (.loop (.seq (.seq (.reg [xm 4 3,xm 5 0,xL 6 5,xb .lss 7 4 6])
 (.cond (.s 7) (.skip)
 (.exit 0)))
 (.seq (.block 1 (.seq (.reg [xm 10 0,xm 11 0,xm 12 3,xA 1 13 11 12,xo 14 13,xc 78 15 [.s 10,.s 14],xm 16 3,xb .lss 17 15 16])
 (.cond (.s 17) (.seq (.reg [xm 18 3,xm 2 18])
 (.ret))
 (.skip))))
 (.reg [xm 8 3,xB .add 9 8 1,xm 3 9]))))))
 (.seq (.reg [xi 2 (-1)])
 (.ret)))
theorem fn45:IsFn prog 45 ac45 [.tmp 2] 19:=⟨f45,⟨[],[],[]⟩,func45,by kernel_rfl,by kernel_rfl,by kernel_rfl,by kernel_rfl⟩
def ac72:AC:=.seq (.reg [⟨(some 1),.boxO 1 (.s 0),none⟩,xi 2 0])
 (.seq (.reg [xo 3 1,xL 4 3,⟨(some 5),.mkfn (.func 102) [] [(.s 1)],none⟩,xc 101 6 [.c (.int .i64 0),.s 4,.s 5],xm 2 6])
 (.ret))
theorem fn72:IsFn prog 72 ac72 [.tmp 2] 7:=⟨f72,⟨[1],[],[]⟩,func72,by kernel_rfl,by kernel_rfl,by kernel_rfl,by kernel_rfl⟩
def ac78:AC:=.seq (.reg [xi 4 0])
 (.seq (.seq (.reg [xi 5 0])
 (.block 0 (.loop (.seq (.seq (.reg [xm 6 5,xm 7 0,xL 8 7,xb .lss 9 6 8])
 (.cond (.s 9) (.skip)
 (.exit 0)))
 (.seq (.block 1 (.seq (.reg [xm 12 0,xm 13 5,xA 1 14 12 13,xo 15 14,xm 16 1,⟨(some 17),.binS .eql (.s 15) (.s 16),none⟩])
 (.cond (.s 17) (.seq (.reg [xm 18 5,xm 4 18])
 (.ret))
 (.skip))))
 (.reg [xm 10 5,xB .add 11 10 1,xm 5 11]))))))
 (.seq (.reg [xi 4 (-1)])
 (.ret)))
theorem fn78:IsFn prog 78 ac78 [.tmp 4] 19:=⟨f78,⟨[],[],[]⟩,func78,by kernel_rfl,by kernel_rfl,by kernel_rfl,by kernel_rfl⟩
def ac85:AC:=.seq (.reg [⟨(some 2),.boxO 1 (.s 0),none⟩,⟨(some 3),.boxO 1 (.s 1),none⟩,xi 4 0])
 (.seq (.reg [xo 5 2,xL 6 5,⟨(some 7),.mkfn (.func 112) [] [(.s 2),(.s 3)],none⟩,xc 101 8 [.c (.int .i64 0),.s 6,.s 7],xm 4 8])
 (.ret))
theorem fn85:IsFn prog 85 ac85 [.tmp 4] 9:=⟨f85,⟨[2,3],[],[]⟩,func85,by kernel_rfl,by kernel_rfl,by kernel_rfl,by kernel_rfl⟩
def ac101:AC:=.seq (.reg [xi 6 0])
 (.seq (.seq (.reg [xm 8 0,xm 7 8])
 (.block 0 (.loop (.seq (.seq (.reg [xm 9 7,xm 10 1,xb .lss 11 9 10])
 (.cond (.s 11) (.skip)
 (.exit 0)))
 (.seq (.block 1 (.seq (.reg [xm 14 2,xm 15 7,⟨(some 16),.callv (.s 14) [(.s 15)],none⟩])
 (.cond (.s 16) (.seq (.reg [xm 17 7,xm 6 17])
 (.ret))
 (.skip))))
 (.reg [xm 12 7,xB .add 13 12 1,xm 7 13]))))))
 (.seq (.reg [xi 6 (-1)])
 (.ret)))
theorem fn101:IsFn prog 101 ac101 [.tmp 6] 18:=⟨f101,⟨[],[],[]⟩,func101,by kernel_rfl,by kernel_rfl,by kernel_rfl,by kernel_rfl⟩
def ac102:AC:=.seq (.reg [⟨(some 3),.mv (.c (.bool false)),none⟩])
 (.seq (.draw [(xo 4 1,[]),(xm 5 0,[]),(⟨(some 6),.slc 1 (.s 4) none (some (.s 5)) none,none⟩,[]),(xo 7 1,[]),(xm 8 0,[]),(xA 1 9 7 8,[]),(xo 10 9,[]),(xc 85 11 [.s 6,.s 10],[]),(xB .geq 12 11 0,[]),(xm 3 12,[])])
 (.ret))
theorem fn102:IsFn prog 102 ac102 [.tmp 3] 13:=⟨f102,⟨[],[],[]⟩,func102,by kernel_rfl,by kernel_rfl,by kernel_rfl,by kernel_rfl⟩
def ac112:AC:=.seq (.reg [⟨(some 4),.mv (.c (.bool false)),none⟩])
 (.seq (.draw [(xo 5 1,[]),(xm 6 0,[]),(xA 1 7 5 6,[]),(xo 8 7,[]),(xo 9 2,[]),(⟨(some 10),.binS .eql (.s 8) (.s 9),none⟩,[]),(xm 4 10,[])])
 (.ret))
theorem fn112:IsFn prog 112 ac112 [.tmp 4] 11:=⟨f112,⟨[],[],[]⟩,func112,by kernel_rfl,by kernel_rfl,by kernel_rfl,by kernel_rfl⟩
def ac141:AC:=.seq (.reg [⟨(some 2),.mv (.c (.bool false)),none⟩])
 (.seq (.seq (.reg [xm 5 0,xL 6 5,xB .lss 7 6 1,xm 8 7,xh 8 (xm 9 0),xh 8 (xL 10 9),xh 8 (xB .gtr 11 10 64),⟨(some 12),.pick (.s 8) (.c (.bool true)) (.s 11),none⟩,xm 13 12,xh 13 (xm 14 0),xh 13 (xc 72 15 [.s 14]),xh 13 (xB .geq 16 15 0),⟨(some 17),.pick (.s 13) (.c (.bool true)) (.s 16),none⟩])
 (.cond (.s 17) (.seq (.reg [⟨(some 2),.mv (.c (.bool false)),none⟩])
 (.ret))
 (.skip)))
 (.seq (.seq (.reg [xm 18 0,xL 19 18,xi 20 0])
 (.block 0 (.loop (.seq (.reg [xb .lss 21 20 19])
 (.seq (.cond (.s 21) (.skip)
 (.exit 0))
 (.seq (.block 1 (.seq (.reg [xA 1 22 18 20,xo 23 22,xm 4 23])
 (.seq (.reg [xm 24 4,xc 34 25 [.s 24],⟨(some 26),.not (.s 25),none⟩])
 (.cond (.s 26) (.seq (.reg [⟨(some 2),.mv (.c (.bool false)),none⟩])
 (.ret))
 (.skip)))))
 (.reg [xB .add 27 20 1,xm 20 27])))))))
 (.seq (.reg [⟨(some 2),.mv (.c (.bool true)),none⟩])
 (.ret))))
theorem fn141:IsFn prog 141 ac141 [.tmp 2] 28:=⟨f141,⟨[],[],[]⟩,func141,by kernel_rfl,by kernel_rfl,by kernel_rfl,by kernel_rfl⟩
theorem place_calls (n:Nat) (hn:n≤100000) (f:FuncId) (cap:List V) (hc:nolL cap=true) (p:Nat→Bool) (σ:Store) (h:∀i,i<n→PCalls prog f (.int .i64 (i:Nat)::cap) σ fun v σ' => v = .bool (p i)∧σ' = σ) :
    PCalls prog 101 [.int .i64 0,.int .i64 (n:Nat),.fn (.func f) [] cap] σ fun v σ' => v = .int .i64 (optI ((List.range n).find? p))∧σ' = σ:=by
  refine fn101.calls ?_;simp only[slots,ac101,am,ams,Nat.reduceAdd];obtain⟨F,hF⟩:∃F:Nat→Unit→St,∀i x,F i x=⟨[.any,.int .i64 (n:Nat),.fn (.func f) [] cap,.any,.any,.any,.any,.int .i64 (i:Nat)]++List.replicate 10 .any,[],σ⟩:=⟨_,fun _ _=>rfl⟩;obtain⟨JF,hJF⟩:∃JF:Nat→Unit→Prop,∀i x,JF i x=(∀k,k<i→p k=false):=⟨_,fun _ _=>rfl⟩;refine vc_count (n) F JF _ hJF ?_ ?_ ?_
  · refine ent (()) ?_ ?_ ?_ ?_
    · exact Eq.mpr (hJF _ _) (by intro k h;omega)
    all_goals simp[hF,List.replicate,am,lle_self]
  · rintro i x hi hJ;simp only[hF,List.replicate,am,dlt hi,hc];refine(h i hi).mono ?_;rintro v σ' ⟨rfl,rfl⟩;cases hb:p i with
    | false =>
      simp only[am,aml,winc hi (by omega)];refine nxt (()) hi ?_ ?_ ?_ ?_
      · exact Eq.mpr (hJF _ _) (allS hJ hb)
      all_goals simp[hF,List.replicate,am,lle_self]
    | true =>
      have e:=find_at hi hJ hb;simp only[am,aml];refine retS ?_;simp[V.erase,e,optI]
  · rintro x hJ;have e:=find_no hJ;simp only[hF,List.replicate,am,aml,dnl,aml];refine retS ?_;simp[V.erase,e,optI]
theorem find1_calls (l:List (List UInt8)) (s:List UInt8) (i b1 b2:Nat) {σ:Store} (hi:i<l.length) (h1:σ.box b1=some [.sl .no 1 (sCells l)]) (h2:σ.box b2=some [.str s]) :
    PCalls prog 112 [.int .i64 (i:Nat),.ptr (.out b1) 0,.ptr (.out b2) 0] σ fun v σ' => v = .bool (decide (l.getD i []=s))∧σ' = σ:=by
  refine fn112.calls ?_;simp only[slots,ac112,am,ams,Nat.reduceAdd];simp only[am,h1];refine idxL_intro (by omega) (sCells_at hi) ?_;simp only[am,h2];refine retS ?_;simp[V.erase]
theorem find_calls (l:List (List UInt8)) (s:List UInt8) (σ:Store) (hl:l.length≤100000):PCalls prog 85 [.sl .no 1 (sCells l),.str s] σ fun v σ' => v = .int .i64 (optI (findS l s))∧σ' = σ:=by
  refine fn85.calls ?_;simp only[slots,ac85,am,ams,Nat.reduceAdd];refine kO_intro fun b1 hb1=>?_
  simp only[am];refine kO_intro fun b2 hb2=>?_
  have hne:b1≠b2:=by rintro rfl;rw[set_box] at hb2;simp at hb2
  have hs:=Store.subT (sub_set (cs:=[.sl .no 1 (sCells l)]) hb1) (sub_set (cs:=[.str s]) hb2);have e1:((σ.set b1 [.sl .no 1 (sCells l)]).set b2 [.str s]).box b1=some [.sl .no 1 (sCells l)]:=by rw[set_box_ne hne,set_box]
  generalize hσ:(σ.set b1 [V.sl .no 1 (sCells l)]).set b2 [V.str s]=σ1 at hs e1;have e2:σ1.box b2=some [.str s]:=by rw[←hσ,set_box]
  simp only[am,sCells_len,e1];refine(place_calls l.length hl _ _ rfl (fun i=>decide (l.getD i []=s)) σ1 fun i hi=>find1_calls l s i b1 b2 hi e1 e2).mono ?_;rintro v σ1 ⟨rfl,rfl⟩;simp only[am];exact retK_intro rfl hs ⟨rfl,rfl⟩
theorem twice1_calls (l:List (List UInt8)) (i b1:Nat) {σ:Store} (hl:l.length≤100000) (hi:i<l.length) (h1:σ.box b1=some [.sl .no 1 (sCells l)]) :
    PCalls prog 102 [.int .i64 (i:Nat),.ptr (.out b1) 0] σ fun v σ' => v = .bool (findS (l.take i) (l.getD i [])).isSome∧σ' = σ:=by
  refine fn102.calls ?_;simp only[slots,ac102,am,ams,Nat.reduceAdd];simp only[am,amc,h1];refine slcL_to (b:=i) (by rw[sCells_len];omega) ?_;simp only[am,h1];refine idxL_intro (by omega) (sCells_at hi) ?_;rw[sCells_take];simp only[am];refine CallD.intro (find_calls (l.take i) (l.getD i []) σ (by rw[List.length_take];omega)) ?_;simp only[am,optI_nn];refine retS ?_;simp[V.erase]
theorem twice_calls (l:List (List UInt8)) (σ:Store) (hl:l.length≤100000):PCalls prog 72 [.sl .no 1 (sCells l)] σ fun v σ' => v = .int .i64 (optI (twiceS l))∧σ' = σ:=by
  refine fn72.calls ?_;simp only[slots,ac72,am,ams];refine kO_intro fun b1 hb1=>?_
  simp only[am,sCells_len];refine(place_calls l.length hl _ _ rfl (fun i=>(findS (l.take i) (l.getD i [])).isSome) _ fun i hi=>twice1_calls l i b1 hl hi set_box).mono ?_;rintro v σ1 ⟨rfl,rfl⟩;simp only[am];exact retK_intro rfl (sub_set hb1) ⟨rfl,rfl⟩
theorem rfind_calls (l:List (List UInt8)) (s:List UInt8) (σ:Store) (hl:l.length≤100000):PCalls prog 78 [.sl .no 1 (sCells l),.str s] σ fun v σ' => v = .int .i64 (optI (findS l s))∧σ' = σ:=by
  refine fn78.calls ?_;simp only[slots,ac78,am,ams,Nat.reduceAdd];obtain⟨F,hF⟩:∃F:Nat→Unit→St,∀i x,F i x=⟨[.sl .no 1 (sCells l),.str s,.any,.any,.any,.int .i64 (i:Nat)]++List.replicate 13 .any,[],σ⟩:=⟨_,fun _ _=>rfl⟩;obtain⟨JF,hJF⟩:∃JF:Nat→Unit→Prop,∀i x,JF i x=(∀k,k<i→decide (l.getD k []=s)=false):=⟨_,fun _ _=>rfl⟩;refine vc_count (l.length) F JF _ hJF ?_ ?_ ?_
  · refine ent (()) ?_ ?_ ?_ ?_
    · exact Eq.mpr (hJF _ _) (by intro k h;omega)
    all_goals simp[hF,List.replicate,am,lle_self]
  · rintro i x hi hJ;simp only[hF,List.replicate,am,dlt hi,sCells_len];refine idxL_intro (by omega) (sCells_at hi) ?_;simp only[am]
    by_cases h:l.getD i []=s
    · have e:findS l s=some i:=find_at hi hJ (decide_eq_true h);simp only[am,aml,decide_eq_true h];refine retS ?_;simp[V.erase,e,optI]
    · simp only[am,aml,decide_eq_false h,winc hi (by omega)];refine nxt (()) hi ?_ ?_ ?_ ?_
      · exact Eq.mpr (hJF _ _) (allS hJ (decide_eq_false h))
      all_goals simp[hF,List.replicate,am,lle_self]
  · rintro x hJ;have e:findS l s=none:=find_no hJ;simp only[hF,List.replicate,am,aml,dnl,aml,sCells_len];refine retS ?_;simp[V.erase,e,optI]
theorem rtwice_calls (l:List (List UInt8)) (σ:Store) (hl:l.length≤100000):PCalls prog 45 [.sl .no 1 (sCells l)] σ fun v σ' => v = .int .i64 (optI (twiceS l))∧σ' = σ:=by
  refine fn45.calls ?_;simp only[slots,ac45,am,ams];obtain⟨F,hF⟩:∃F:Nat→Unit→St,∀i x,F i x=⟨[.sl .no 1 (sCells l),.any,.any,.int .i64 (i:Nat)]++List.replicate 15 .any,[],σ⟩:=⟨_,fun _ _=>rfl⟩;obtain⟨JF,hJF⟩:∃JF:Nat→Unit→Prop,∀i x,JF i x=(∀k,k<i→(findS (l.take k) (l.getD k [])).isSome=false):=⟨_,fun _ _=>rfl⟩;refine vc_count (l.length) F JF _ hJF ?_ ?_ ?_
  · refine ent (()) ?_ ?_ ?_ ?_
    · exact Eq.mpr (hJF _ _) (by intro k h;omega)
    all_goals simp[hF,List.replicate,am,lle_self]
  · rintro i x hi hJ;simp only[hF,List.replicate,am,dlt hi,sCells_len];refine idxL_intro (by omega) (sCells_at hi) ?_;simp only[am];refine cl (rfind_calls l (l.getD i []) σ hl) ?_;have e:=findS_take hi;simp only[am,←e];cases hb:(findS (l.take i) (l.getD i [])).isSome with
    | false =>
      simp only[am,aml,winc hi (by omega)];refine nxt (()) hi ?_ ?_ ?_ ?_
      · exact Eq.mpr (hJF _ _) (allS hJ hb)
      all_goals simp[hF,List.replicate,am,lle_self]
    | true =>
      have e:twiceS l=some i:=find_at hi hJ hb;simp only[am,aml];refine retS ?_;simp[V.erase,e,optI]
  · rintro x hJ;have e:twiceS l=none:=find_no hJ;simp only[hF,List.replicate,am,aml,dnl,aml,sCells_len];refine retS ?_;simp[V.erase,e,optI]
theorem named_calls (l:List (List UInt8)) (σ:Store) (hl:l.length≤100000):PCalls prog 141 [.sl .no 1 (sCells l)] σ fun v σ' => v = .bool (namedS l)∧σ' = σ:=by
  refine fn141.calls ?_;simp only[slots,ac141,am,ams,sCells_len]
  by_cases h1:l.length<1
  · simp only[am,decide_eq_true (show (l.length:Int)<1 by omega)];refine retS ?_;simp[V.erase,namedS];omega
  · simp only[am,sCells_len,decide_eq_false (show ¬(l.length:Int)<1 by omega)]
    by_cases h2:64<l.length
    · simp only[am,decide_eq_true (show (64:Int)<l.length by omega)];refine retS ?_;simp[V.erase,namedS];omega
    · simp only[am,decide_eq_false (show ¬(64:Int)<l.length by omega)];refine cl (twice_calls l σ hl) ?_;simp only[am,optI_nn];cases ht:twiceS l with
      | some k =>
        simp only[am,Option.isSome_some];refine retS ?_;simp[V.erase,namedS,ht]
      | none =>
        simp only[am,sCells_len,Option.isSome_none];obtain⟨F,hF⟩:∃F:Nat→Unit→St,∀i x,F i x=⟨[.any,.any,.any,.any,.any,.any,.any,.any,.any,.any,.any,.any,.any,.any,.any,.any,.any,.any,.sl .no 1 (sCells l),.int .i64 (l.length:Nat),.int .i64 (i:Nat)]++List.replicate 7 .any,[],σ⟩:=⟨_,fun _ _=>rfl⟩;obtain⟨JF,hJF⟩:∃JF:Nat→Unit→Prop,∀i x,JF i x=(∀k,k<i→nameR (l.getD k [])=true):=⟨_,fun _ _=>rfl⟩;refine vc_count (l.length) F JF _ hJF ?_ ?_ ?_
        · refine ent (()) ?_ ?_ ?_ ?_
          · exact Eq.mpr (hJF _ _) (by intro k h;omega)
          all_goals simp[hF,List.replicate,am,lle_self]
        · rintro i x hi hJ;simp only[hF,List.replicate,am,dlt hi];refine idxL_intro (by omega) (sCells_at hi) ?_;simp only[am];refine cl (nright_calls _ σ) ?_;simp only[am];cases hb:nameR (l.getD i []) with
          | false =>
            have e:namedS l=false:=by
              cases hq:namedS l with
              | false=>rfl
              | true =>
                simp only[namedS,Bool.and_eq_true,List.all_eq_true] at hq;have hm:l.getD i []∈l:=by rw[getD_at hi];exact List.getElem_mem hi
                rw[hq.2 _ hm] at hb;simp at hb
            simp only[am,aml];refine retS ?_;simp[V.erase,e]
          | true =>
            simp only[am,aml,winc hi (by omega)];refine nxt (()) hi ?_ ?_ ?_ ?_
            · exact Eq.mpr (hJF _ _) (allS hJ hb)
            all_goals simp[hF,List.replicate,am,lle_self]
        · rintro x hJ;have e:namedS l=true:=by
            simp only[namedS,ht,Bool.and_eq_true,List.all_eq_true,decide_eq_true_eq,Option.isNone_none,and_true];refine⟨by omega,fun s hs=>?_⟩;obtain⟨k,hk,rfl⟩:=List.mem_iff_getElem.1 hs
            have:=hJ k hk
            rwa [getD_at hk] at this
          simp only[hF,List.replicate,am,aml,dnl,aml];refine retS ?_;simp[V.erase,e]
end Go.Proofs.Tryz

namespace Go.Proofs.Tryz
open Go.Am
set_option maxRecDepth 4000
set_option maxHeartbeats 4000000
def ac97:AC:=.seq (.reg [⟨(some 1),.box 2 (.s 0),none⟩,⟨(some 2),.mv (.c (.bool false)),none⟩])
 (.seq (.reg [xf 1 6 1,xo 7 6,xL 8 7,xm 3 8])
 (.seq (.seq (.reg [xm 9 3,xB .lss 10 9 1,xm 11 10,xh 11 (xm 12 3),xh 11 (xB .gtr 13 12 8),⟨(some 14),.pick (.s 11) (.c (.bool true)) (.s 13),none⟩,xm 15 14,xh 15 (xf 0 16 1),xh 15 (xo 17 16),⟨(some 18),.not (.s 17),(some (15,false))⟩,xh 15 (xm 19 18),xg 19 (xm 20 3),xg 19 (xB .neq 21 20 1),⟨(some 22),.pick (.s 19) (.s 21) (.c (.bool false)),(some (15,false))⟩,⟨(some 23),.pick (.s 15) (.c (.bool true)) (.s 22),none⟩])
 (.cond (.s 23) (.seq (.reg [⟨(some 2),.mv (.c (.bool false)),none⟩])
 (.ret))
 (.skip)))
 (.seq (.seq (.reg [xf 1 24 1,xo 25 24,xL 26 25,xi 27 0])
 (.block 0 (.loop (.seq (.reg [xb .lss 28 27 26])
 (.seq (.cond (.s 28) (.skip)
 (.exit 0))
 (.seq (.block 1 (.seq (.reg [xA 67 29 25 27,xl 67 30 29,⟨(some 5),.alloc facZ,none⟩,xs 67 5 30])
 (.seq (.reg [xl 67 31 5,xc 117 32 [.s 31],⟨(some 33),.not (.s 32),none⟩])
 (.cond (.s 33) (.seq (.reg [⟨(some 2),.mv (.c (.bool false)),none⟩])
 (.ret))
 (.skip)))))
 (.reg [xB .add 34 27 1,xm 27 34])))))))
 (.seq (.reg [⟨(some 2),.mv (.c (.bool true)),none⟩])
 (.ret)))))
theorem fn97:IsFn prog 97 ac97 [.tmp 2] 35:=⟨f97,⟨[],[],[]⟩,func97,by kernel_rfl,by kernel_rfl,by kernel_rfl,by kernel_rfl⟩
def ac117:AC:=.seq (.reg [⟨(some 1),.box 67 (.s 0),none⟩,⟨(some 2),.mv (.c (.bool false)),none⟩])
 (.seq (.seq (.reg [xf 1 3 1,xo 4 3,xc 141 5 [.s 4],⟨(some 6),.not (.s 5),none⟩])
 (.cond (.s 6) (.seq (.reg [⟨(some 2),.mv (.c (.bool false)),none⟩])
 (.ret))
 (.skip)))
 (.seq (.seq (.reg [xf 0 7 1,xo 8 7])
 (.block 0 (.seq (.seq (.reg [xB .eql 10 8 1,xm 9 10])
 (.cond (.s 9) (.skip)
 (.reg [xB .eql 11 8 2,xm 9 11])))
 (.cond (.s 9) (.seq (.reg [xf 2 12 1,xl 65 13 12,⟨(some 14),.build relZ [],none⟩,xc 142 15 [.s 13,.s 14],xm 2 15])
 (.ret))
 (.seq (.reg [xB .eql 17 8 3,xm 16 17])
 (.cond (.s 16) (.seq (.reg [xf 2 18 1,xf 0 19 18,xo 20 19,xf 1 21 1,xo 22 21,xL 23 22,xb .eql 24 20 23,xm 25 24,xg 25 (xf 2 26 1),xg 25 (xl 65 27 26),xg 25 (xc 143 28 [.s 27]),⟨(some 29),.pick (.s 25) (.s 28) (.c (.bool false)),none⟩,xm 2 29])
 (.ret))
 (.seq (.reg [xB .eql 31 8 4,xm 30 31])
 (.cond (.s 30) (.seq (.reg [xf 2 32 1,xf 0 33 32,xo 34 33,xf 1 35 1,xo 36 35,xL 37 36,xb .eql 38 34 37,xm 39 38,xg 39 (xf 2 40 1),xg 39 (xl 65 41 40),xg 39 (xc 144 42 [.s 41]),⟨(some 43),.pick (.s 39) (.s 42) (.c (.bool false)),none⟩,xm 2 43])
 (.ret))
 (.skip)))))))))
 (.seq (.reg [⟨(some 2),.mv (.c (.bool false)),none⟩])
 (.ret))))
theorem fn117:IsFn prog 117 ac117 [.tmp 2] 44:=⟨f117,⟨[],[],[]⟩,func117,by kernel_rfl,by kernel_rfl,by kernel_rfl,by kernel_rfl⟩
def z16_:=And.intro @am <| And.intro @ams <| And.intro @Rl.rec_ @Fct.rec_
theorem factor_calls (f:Fct) {σ:Store} (hg:TZ σ) (hl:f.names.length≤100000):PCalls prog 117 [.agg f.enc] σ fun v σ' => v = .bool (facR f)∧σ' = σ:=by
  refine fn117.calls ?_;simp only[slots,ac117,z16_];refine cl (named_calls f.names σ hl) ?_;cases hn:namedS f.names with
  | false =>
    simp only[am];refine retS ?_;simp[V.erase,facR,hn]
  | true =>
    simp only[am,Fct.rec_]
    by_cases h1:f.kind=1
    · simp only[am,Rl.rec_,Fct.rec_,decide_eq_true h1];refine cl (same_calls f.rel Rl.zero σ) ?_;simp only[am,plain_zero];refine retS ?_;simp[V.erase,facR,hn,h1]
    · simp only[am,decide_eq_false h1]
      by_cases h2:f.kind=2
      · simp only[am,Rl.rec_,Fct.rec_,decide_eq_true h2];refine cl (same_calls f.rel Rl.zero σ) ?_;simp only[am,plain_zero];refine retS ?_;simp[V.erase,facR,hn,h2]
      · simp only[am,decide_eq_false h2]
        by_cases h3:f.kind=3
        · simp only[am,Fct.rec_,sCells_len,decide_eq_true h3]
          by_cases h4:f.rel.n=f.names.length
          · simp only[am,Rl.rec_,Fct.rec_,decide_eq_true h4];refine cl (gright_calls f.rel σ) ?_;simp only[am];refine retS ?_;simp[V.erase,facR,hn,h3,h4]
          · simp only[am,decide_eq_false h4];refine retS ?_;simp[V.erase,facR,hn,h3,h4]
        · simp only[am,decide_eq_false h3]
          by_cases h5:f.kind=4
          · simp only[am,Fct.rec_,sCells_len,decide_eq_true h5]
            by_cases h4:f.rel.n=f.names.length
            · simp only[am,Rl.rec_,Fct.rec_,decide_eq_true h4];refine cl (lattice_calls f.rel hg) ?_;simp only[am];refine retS ?_;simp[V.erase,facR,hn,h5,h4]
            · simp only[am,decide_eq_false h4];refine retS ?_;simp[V.erase,facR,hn,h5,h4]
          · simp only[am,decide_eq_false h5];refine retS ?_;simp[V.erase,facR,hn,h1,h2,h3,h5]
theorem facs_at {l:List Fct} {j:Nat} (h:j<l.length):(l.map Fct.enc)[((j:Nat):Int).toNat]?=some l[j].enc:=by simp[h]
theorem shpR_bad {s:Shp} {i:Nat} (hi:i<s.facs.length) (h:facR s.facs[i]=false):shpR s=false:=by
  cases hq:shpR s with
  | false=>rfl
  | true =>
    simp only[shpR,Bool.and_eq_true,List.all_eq_true] at hq;rw[hq.2 _ (List.getElem_mem hi)] at h;simp at h
theorem shpR_ok {s:Shp} (h1:1≤s.facs.length) (h2:s.facs.length≤8) (h3:s.tuple=true∨s.facs.length=1) (h:∀k (hk:k<s.facs.length),facR s.facs[k]=true):shpR s=true:=by
  simp only[shpR,Bool.and_eq_true,List.all_eq_true,decide_eq_true_eq,Bool.or_eq_true];refine⟨⟨⟨h1,h2⟩,h3⟩,fun f hf=>?_⟩;obtain⟨k,hk,rfl⟩:=List.mem_iff_getElem.1 hf;exact h k hk
theorem shright_calls (s:Shp) {σ:Store} (hg:TZ σ) (hok:s.ok):PCalls prog 97 [.agg s.enc] σ fun v σ' => v = .bool (shpR s)∧σ' = σ:=by
  refine fn97.calls ?_;simp only[slots,ac97,am,ams,Shp.rec_,List.length_map]
  by_cases h1:s.facs.length<1
  · simp only[am,decide_eq_true (show (s.facs.length:Int)<1 by omega)];refine retS ?_;simp[V.erase,shpR];omega
  · simp only[am,decide_eq_false (show ¬(s.facs.length:Int)<1 by omega)]
    by_cases h2:8<s.facs.length
    · simp only[am,decide_eq_true (show (8:Int)<s.facs.length by omega)];refine retS ?_;simp[V.erase,shpR];omega
    · simp only[am,Shp.rec_,decide_eq_false (show ¬(8:Int)<s.facs.length by omega)];have h3:(∃t,s.tuple=t∧(t=true∨s.facs.length=1))∨(s.tuple=false∧s.facs.length≠1):=by
        cases ht:s.tuple with
        | true=>exact .inl ⟨true,rfl,.inl rfl⟩
        | false =>
          by_cases hl:s.facs.length=1
          · exact .inl ⟨false,rfl,.inr hl⟩
          · exact .inr ⟨rfl,hl⟩
      rcases h3 with ⟨t,ht,h3⟩ | ⟨ht,h3⟩
      · cases t
        case' false =>
          have h3:s.facs.length=1:=by simpa using h3
          simp only[am,List.length_map,Shp.rec_,List.length_map,ht,decide_eq_true (show (s.facs.length:Int)=1 by omega)]
        case' true=>simp only[am,List.length_map,Shp.rec_,List.length_map,ht]
        all_goals
          obtain⟨F,hF⟩:∃F:Nat→Unit→St,∀i x,F i x=⟨[.any,.ptr (.loc 0) 0,.bool false,.any,.any,.any,.any,.any,.any,.any,.any,.any,.any,.any,.any,.any,.any,.any,.any,.any,.any,.any,.any,.any,.any,.sl .no 67 (s.facs.map Fct.enc),.int .i64 (s.facs.length:Nat),.int .i64 (i:Nat)]++List.replicate 7 .any,[s.enc],σ⟩:=⟨_,fun _ _=>rfl⟩;obtain⟨JF,hJF⟩:∃JF:Nat→Unit→Prop,∀i x,JF i x=(∀k,k<i→∀hk:k<s.facs.length,facR s.facs[k]=true):=⟨_,fun _ _=>rfl⟩;refine vc_count (s.facs.length) F JF _ hJF ?_ ?_ ?_
          · refine ent (()) ?_ ?_ ?_ ?_
            · exact Eq.mpr (hJF _ _) (by intro k h;omega)
            all_goals simp[hF,List.replicate,am,lle_self]
          · rintro i x hi hJ;simp only[hF,List.replicate,am,dlt hi];refine idxL_intro (by omega) (facs_at hi) ?_;simp only[am,Fct.rec_];refine cl (factor_calls s.facs[i] hg (hok.2 _ (List.getElem_mem hi))) ?_;cases hb:facR s.facs[i] with
            | false =>
              simp only[am,aml];refine retS ?_;simp[V.erase,shpR_bad hi hb]
            | true =>
              simp only[am,aml,winc hi (by omega)];refine nxtD (()) hi ?_ ?_ ?_ ?_ ?_ ?_
              · exact Eq.mpr (hJF _ _) (allS hJ (fun _=>hb))
              all_goals simp[hF,List.replicate,am,lle_self,loL,loLL,V.lo,Shp.r_lo]
          · rintro x hJ;have e:=shpR_ok (s:=s) (by omega) (by omega) (by first | exact .inr h3 | exact .inl ht) fun k hk=>hJ k hk hk
            simp only[hF,List.replicate,am,aml,dnl,aml];refine retS ?_;simp[V.erase,e]
      · have e:shpR s=false:=by simp[shpR,ht,h3]
        simp only[am,ht,decide_eq_false (show ¬(s.facs.length:Int)=1 by omega)];refine retS ?_;simp[V.erase,e]
end Go.Proofs.Tryz

namespace Go.Proofs.Tryz
open Go.Am
set_option maxRecDepth 4000
set_option maxHeartbeats 4000000
def ac73:AC:=.seq (.reg [⟨(some 2),.box 2 (.s 0),none⟩,⟨(some 3),.box 8 (.s 1),none⟩,⟨(some 4),.mv (.c (.bool false)),none⟩])
 (.seq (.seq (.reg [xl 2 7 2,xc 97 8 [.s 7],⟨(some 9),.not (.s 8),none⟩])
 (.cond (.s 9) (.seq (.reg [⟨(some 4),.mv (.c (.bool false)),none⟩])
 (.ret))
 (.skip)))
 (.seq (.seq (.reg [xl 8 10 3,xi 11 0])
 (.block 0 (.loop (.seq (.reg [xB .lss 12 11 8])
 (.seq (.cond (.s 12) (.skip)
 (.exit 0))
 (.seq (.block 1 (.seq (.reg [xm 13 11,⟨(some 14),.own (.idxV 8) [(.s 10),(.s 11)],none⟩,xm 5 13,xm 6 14])
 (.seq (.seq (.reg [xm 15 5,xf 1 16 2,xo 17 16,xL 18 17,xb .geq 19 15 18])
 (.cond (.s 19) (.seq (.seq (.reg [xm 20 6,⟨(some 21),.binI .neq (.s 20) (.c (.int .u64 0)),none⟩])
 (.cond (.s 21) (.seq (.reg [⟨(some 4),.mv (.c (.bool false)),none⟩])
 (.ret))
 (.skip)))
 (.exit 1))
 (.skip)))
 (.seq (.reg [xf 1 22 2,xo 23 22,xm 24 5,xA 67 25 23 24,xl 67 26 25,xm 27 6,xc 103 28 [.s 26,.s 27],⟨(some 29),.not (.s 28),none⟩])
 (.cond (.s 29) (.seq (.reg [⟨(some 4),.mv (.c (.bool false)),none⟩])
 (.ret))
 (.skip))))))
 (.reg [xB .add 30 11 1,xm 11 30])))))))
 (.seq (.reg [⟨(some 4),.mv (.c (.bool true)),none⟩])
 (.ret))))
theorem fn73:IsFn prog 73 ac73 [.tmp 4] 31:=⟨f73,⟨[],[],[]⟩,func73,by kernel_rfl,by kernel_rfl,by kernel_rfl,by kernel_rfl⟩
def ac103:AC:=.seq (.reg [⟨(some 2),.box 67 (.s 0),none⟩,⟨(some 4),.mv (.c (.bool false)),none⟩])
 (.seq (.seq (.reg [xf 0 7 2,xo 8 7])
 (.block 0 (.seq (.reg [xB .eql 10 8 1,xm 9 10])
 (.cond (.s 9) (.seq (.reg [xf 1 11 2,xo 12 11,xL 13 12,xm 14 1,xc 127 15 [.s 13,.s 14],xm 4 15])
 (.ret))
 (.seq (.reg [xB .eql 17 8 2,xm 16 17])
 (.cond (.s 16) (.seq (.reg [xm 18 1,xf 1 19 2,xo 20 19,xL 21 20,xc 129 22 [.s 21],xc 128 23 [.s 18,.s 22],xm 4 23])
 (.ret))
 (.seq (.reg [xB .eql 25 8 3,xm 24 25])
 (.cond (.s 24) (.seq (.reg [xf 2 26 2,xl 65 27 26,xm 28 1,xc 130 29 [.s 27,.s 28],xm 4 29])
 (.ret))
 (.skip)))))))))
 (.seq (.reg [xf 2 31 2,xl 65 32 31,xm 33 1,xc 131 34 [.s 32,.s 33],xm 30 34,xe 35 30 0,xe 36 30 1,xm 5 35,xm 6 36])
 (.seq (.reg [xm 37 6,xm 4 37])
 (.ret))))
theorem fn103:IsFn prog 103 ac103 [.tmp 4] 38:=⟨f103,⟨[],[],[]⟩,func103,by kernel_rfl,by kernel_rfl,by kernel_rfl,by kernel_rfl⟩
def ac127:AC:=.seq (.reg [⟨(some 4),.mv (.c (.bool false)),none⟩])
 (.seq (.reg [xm 8 0,xm 9 1,xc 151 10 [.s 8,.s 9],xm 7 10,xe 11 7 0,xe 12 7 1,xm 5 11,xm 6 12])
 (.seq (.reg [xm 13 6,xm 4 13])
 (.ret)))
theorem fn127:IsFn prog 127 ac127 [.tmp 4] 14:=⟨f127,⟨[],[],[]⟩,func127,by kernel_rfl,by kernel_rfl,by kernel_rfl,by kernel_rfl⟩
def ac130:AC:=.seq (.reg [⟨(some 2),.box 65 (.s 0),none⟩,⟨(some 4),.mv (.c (.bool false)),none⟩])
 (.seq (.reg [xl 65 5 2,xc 143 6 [.s 5],xm 7 6,xg 7 (xl 65 8 2),xg 7 (xm 9 1),xg 7 (xc 152 10 [.s 8,.s 9]),xg 7 (xm 11 1),xg 7 (xb .eql 12 10 11),⟨(some 13),.pick (.s 7) (.s 12) (.c (.bool false)),none⟩,xm 4 13])
 (.ret))
theorem fn130:IsFn prog 130 ac130 [.tmp 4] 14:=⟨f130,⟨[],[],[]⟩,func130,by kernel_rfl,by kernel_rfl,by kernel_rfl,by kernel_rfl⟩
def ac151:AC:=.seq (.reg [xi 4 0,⟨(some 5),.mv (.c (.bool false)),none⟩])
 (.seq (.seq (.reg [xm 7 0,xc 168 8 [.s 7],⟨(some 9),.not (.s 8),none⟩])
 (.cond (.s 9) (.seq (.reg [xi 4 0,⟨(some 5),.mv (.c (.bool false)),none⟩])
 (.ret))
 (.skip)))
 (.seq (.seq (.reg [xm 10 0,xi 11 0])
 (.block 0 (.loop (.seq (.reg [xb .lss 12 11 10])
 (.seq (.cond (.s 12) (.skip)
 (.exit 0))
 (.seq (.block 1 (.seq (.reg [xm 13 11,xm 6 13])
 (.seq (.reg [xm 14 1,xm 15 6,xc 129 16 [.s 15],xb .eql 17 14 16])
 (.cond (.s 17) (.seq (.reg [xm 18 6,xm 4 18,⟨(some 5),.mv (.c (.bool true)),none⟩])
 (.ret))
 (.skip)))))
 (.reg [xB .add 19 11 1,xm 11 19])))))))
 (.seq (.reg [xi 4 0,⟨(some 5),.mv (.c (.bool false)),none⟩])
 (.ret))))
theorem fn151:IsFn prog 151 ac151 [.tmp 4,.tmp 5] 20:=⟨f151,⟨[],[],[]⟩,func151,by kernel_rfl,by kernel_rfl,by kernel_rfl,by kernel_rfl⟩
theorem plevel_calls (n:Nat) (w:B64) (σ:Store):PCalls prog 151 [.int .i64 (n:Nat),.int .u64 (w.toNat:Nat)] σ fun v σ' => v=optT (levelU n w)∧σ' = σ:=by
  refine fn151.calls ?_;simp only[slots,ac151,am,ams,Nat.reduceAdd];refine cl (chain_calls n σ) ?_
  by_cases hn:1≤n∧n≤64
  · simp only[am,decide_eq_true (show (1:Int)≤n by omega),decide_eq_true (show (n:Int)≤64 by omega),Bool.and_self];obtain⟨F,hF⟩:∃F:Nat→Unit→St,∀i x,F i x=⟨[.int .i64 (n:Nat),.int .u64 (w.toNat:Nat),.any,.any,.any,.any,.any,.any,.any,.any,.int .i64 (n:Nat),.int .i64 (i:Nat)]++List.replicate 8 .any,[],σ⟩:=⟨_,fun _ _=>rfl⟩;obtain⟨JF,hJF⟩:∃JF:Nat→Unit→Prop,∀i x,JF i x=(∀k,k<i→decide (belowB (k:Nat)=w)=false):=⟨_,fun _ _=>rfl⟩;refine vc_count (n) F JF _ hJF ?_ ?_ ?_
    · refine ent (()) ?_ ?_ ?_ ?_
      · exact Eq.mpr (hJF _ _) (by intro k h;omega)
      all_goals simp[hF,List.replicate,am,lle_self]
    · rintro i x hi hJ;simp only[hF,List.replicate,am,dlt hi];refine cl (mask_below_calls i σ) ?_
      by_cases h:belowB (i:Nat)=w
      · have e:levelU n w=some i:=by rw[levelU,if_pos hn.2];exact find_at hi hJ (decide_eq_true h)
        simp only[am,aml,w_eq,decide_eq_true h.symm];refine retS ?_;simp[V.erase,eraseL,optT,e]
      · simp only[am,aml,w_eq,decide_eq_false (show ¬w=belowB (i:Nat) from fun q=>h q.symm),winc hi (by omega)];refine nxt (()) hi ?_ ?_ ?_ ?_
        · exact Eq.mpr (hJF _ _) (allS hJ (decide_eq_false h))
        all_goals simp[hF,List.replicate,am,lle_self]
    · rintro x hJ;have e:levelU n w=none:=by rw[levelU,if_pos hn.2];exact find_no hJ
      simp only[hF,List.replicate,am,aml,dnl,aml];refine retS ?_;simp[V.erase,eraseL,optT,e]
  · have e:levelU n w=none:=by
      unfold levelU;split
      · rw[show n=0 by omega];rfl
      · rfl
    have e2:(decide ((1:Int)≤n)&&decide ((n:Int)≤64))=false:=by rw[←Bool.decide_and];exact decide_eq_false (by omega)
    simp only[am,e2];refine retS ?_;simp[V.erase,eraseL,optT,e]
theorem pright_calls (n:Nat) (w:B64) (σ:Store):PCalls prog 127 [.int .i64 (n:Nat),.int .u64 (w.toNat:Nat)] σ fun v σ' => v = .bool (levelU n w).isSome∧σ' = σ:=by
  refine fn127.calls ?_;simp only[slots,ac127,am,ams,Nat.reduceAdd];refine cl (plevel_calls n w σ) ?_;simp only[am,optT];refine retS ?_;simp[V.erase]
theorem gclosed_calls (r:Rl) (w:B64) {σ:Store} (hg:TZ σ):PCalls prog 130 [.agg r.enc,.int .u64 (w.toNat:Nat)] σ fun v σ' => v = .bool (gridR r&&decide (closeG r w=w))∧σ' = σ:=by
  refine fn130.calls ?_;simp only[slots,ac130,am,ams,Nat.reduceAdd,Rl.rec_];refine cl (gright_calls r σ) ?_;cases h:gridR r with
  | false =>
    simp only[am];refine retS ?_;simp[V.erase]
  | true =>
    simp only[am,Rl.rec_];refine cl (gclose_calls r w hg) ?_;simp only[am,w_eq];refine retS ?_;simp[V.erase]
theorem pword_calls (f:Fct) (w:B64) {σ:Store} (hg:TZ σ) (hl:f.names.length≤100000) (h3g:f.kind=3→gridR f.rel=true):PCalls prog 103 [.agg f.enc,.int .u64 (w.toNat:Nat)] σ fun v σ' => v = .bool (wordF f w)∧σ' = σ:=by
  refine fn103.calls ?_;simp only[slots,ac103,am,ams,Nat.reduceAdd,Fct.rec_]
  by_cases h1:f.kind=1
  · simp only[am,Fct.rec_,sCells_len,decide_eq_true h1];refine cl (pright_calls f.names.length w σ) ?_;simp only[am];refine retS ?_;simp[V.erase,wordF,h1]
  · simp only[am,decide_eq_false h1]
    by_cases h2:f.kind=2
    · simp only[am,Fct.rec_,sCells_len,decide_eq_true h2];refine cl (mask_below_calls f.names.length σ) ?_;simp only[am];refine cl (mask_sub_calls w (belowB (f.names.length:Nat)) σ) ?_;simp only[am];refine retS ?_;simp[V.erase,wordF,h2]
    · simp only[am,decide_eq_false h2]
      by_cases h3:f.kind=3
      · simp only[am,Rl.rec_,Fct.rec_,decide_eq_true h3];refine cl (gclosed_calls f.rel w hg) ?_;simp only[am,h3g h3];refine retS ?_;simp[V.erase,wordF,h3]
      · simp only[am,Rl.rec_,Fct.rec_,decide_eq_false h3];refine cl (point_calls f.rel w σ) ?_;simp only[am,optT];refine retS ?_;simp[V.erase,wordF,h1,h2,h3]
theorem facR_grid {f:Fct} (h:facR f=true) (h3:f.kind=3):gridR f.rel=true:=by
  simp only[facR,h3,Bool.and_eq_true] at h
  have:=h.2
  rw[if_neg (by omega),if_pos trivial] at this;exact(Bool.and_eq_true _ _▸this).2
def z17_:=And.intro @am <| And.intro @ams <| And.intro @w_zero <| And.intro @Shp.rec_ @Elm.rec_
theorem pfits_calls (s:Shp) (e:Elm) {σ:Store} (hg:TZ σ) (hok:s.ok):PCalls prog 73 [.agg s.enc,.agg e.enc] σ fun v σ' => v = .bool (fitsE s e)∧σ' = σ:=by
  refine fn73.calls ?_;simp only[slots,ac73,z17_,Nat.reduceAdd];refine cl (shright_calls s hg hok) ?_;cases hr:shpR s with
  | false =>
    simp only[am];refine retS ?_;simp[V.erase,fitsE,hr]
  | true =>
    simp only[am,Elm.rec_];have hfr:∀f∈s.facs,facR f=true:=by simp only[shpR,Bool.and_eq_true,List.all_eq_true] at hr;exact hr.2
    have bad:∀i,i<8→fitF s e i=false→fitsE s e=false:=fun i hi h=>by
      rw[fitsE,hr,Bool.true_and,List.all_eq_false];exact⟨i,by simpa using hi,by rw[h];simp⟩
    obtain⟨F,hF⟩:∃F:Nat→Unit→St,∀i x,F i x=⟨[.any,.any,.ptr (.loc 0) 0,.ptr (.loc 1) 0,.any,.any,.any,.any,.any,.any,.agg e.enc,.int .i64 (i:Nat)]++List.replicate 19 .any,[s.enc,e.enc],σ⟩:=⟨_,fun _ _=>rfl⟩;obtain⟨JF,hJF⟩:∃JF:Nat→Unit→Prop,∀i x,JF i x=(∀k,k<i→fitF s e k=true):=⟨_,fun _ _=>rfl⟩;refine vc_count (8) F JF _ hJF ?_ ?_ ?_
    · refine ent (()) ?_ ?_ ?_ ?_
      · exact Eq.mpr (hJF _ _) (by intro k h;omega)
      all_goals simp[hF,List.replicate,am,lle_self]
    · rintro i x hi hJ;have hget:e.enc[((i:Nat):Int).toNat]?=some (.int .u64 ((e.get i).toNat:Nat)):=by
        have hl:=e.len;simp[Elm.enc,encW,Elm.get,List.getD,show i<e.w.length by omega]
      simp only[hF,List.replicate,am,amo,show decide ((i:Int)<8)=true from dlt hi];refine idxV_eq (by omega) (by omega) hget rfl ?_
      by_cases hl:i<s.facs.length
      · have hf:fitF s e i=wordF s.facs[i] (e.get i):=by simp only[fitF];rw[List.getElem?_eq_getElem hl]
        have hm:=List.getElem_mem hl;simp only[am,List.length_map,Shp.rec_,List.length_map,decide_eq_false (show ¬(s.facs.length:Int)≤(i:Nat) by omega)];refine idxL_intro (by omega) (facs_at hl) ?_;simp only[am,Fct.rec_];refine cl (pword_calls s.facs[i] (e.get i) hg (hok.2 _ hm) (facR_grid (hfr _ hm))) ?_;cases hb:wordF s.facs[i] (e.get i) with
        | false =>
          simp only[am,aml];refine retS ?_;simp[V.erase,bad i hi (by rw[hf,hb])]
        | true =>
          simp only[am,aml,winc hi (by omega)];refine nxt (()) hi ?_ ?_ ?_ ?_
          · exact Eq.mpr (hJF _ _) (allS hJ (by rw[hf,hb]))
          all_goals simp[hF,List.replicate,am,lle_self]
      · have hf:fitF s e i=decide (e.get i=0#64):=by simp only[fitF];rw[List.getElem?_eq_none (by omega)]
        simp only[am,List.length_map,w_eq,Shp.rec_,List.length_map,decide_eq_true (show (s.facs.length:Int)≤(i:Nat) by omega)]
        by_cases hb:e.get i=0#64
        · simp only[am,aml,reduceCtorEq,decide_eq_true hb,winc hi (by omega)];refine nxt (()) hi ?_ ?_ ?_ ?_
          · exact Eq.mpr (hJF _ _) (allS hJ (by rw[hf,decide_eq_true hb]))
          all_goals simp[hF,List.replicate,am,lle_self]
        · simp only[am,aml,decide_eq_false hb];refine retS ?_;simp[V.erase,bad i hi (by rw[hf,decide_eq_false hb])]
    · rintro x hJ;have e:fitsE s e=true:=by rw[fitsE,hr,Bool.true_and,List.all_eq_true];intro k hk;exact hJ k (by simpa using hk)
      simp only[hF,List.replicate,am,aml,aml,show decide (((8:Nat):Int)<8)=false from rfl];refine retS ?_;simp[V.erase,e]
end Go.Proofs.Tryz

namespace Go.Proofs.Tryz
open Go.Am
set_option maxRecDepth 4000
set_option maxHeartbeats 4000000
def ac44:AC:=.seq (.reg [⟨(some 1),.box 2 (.s 0),none⟩,⟨(some 2),.mv (.c (.bool false)),none⟩])
 (.seq (.seq (.reg [xf 1 4 1,xo 5 4,xL 6 5,xB .lss 7 6 1,xm 8 7,xh 8 (xf 1 9 1),xh 8 (xo 10 9),xh 8 (xL 11 10),xh 8 (xB .gtr 12 11 8),⟨(some 13),.pick (.s 8) (.c (.bool true)) (.s 12),none⟩,xm 14 13,xh 14 (xf 0 15 1),xh 14 (xo 16 15),⟨(some 17),.not (.s 16),(some (14,false))⟩,xh 14 (xm 18 17),xg 18 (xf 1 19 1),xg 18 (xo 20 19),xg 18 (xL 21 20),xg 18 (xB .neq 22 21 1),⟨(some 23),.pick (.s 18) (.s 22) (.c (.bool false)),(some (14,false))⟩,⟨(some 24),.pick (.s 14) (.c (.bool true)) (.s 23),none⟩])
 (.cond (.s 24) (.seq (.reg [⟨(some 2),.mv (.c (.bool false)),none⟩])
 (.ret))
 (.skip)))
 (.seq (.seq (.reg [xi 3 0])
 (.block 0 (.loop (.seq (.seq (.reg [xm 25 3,xf 1 26 1,xo 27 26,xL 28 27,xb .lss 29 25 28])
 (.cond (.s 29) (.skip)
 (.exit 0)))
 (.seq (.block 1 (.seq (.reg [xf 1 32 1,xo 33 32,xm 34 3,xA 67 35 33 34,xl 67 36 35,xc 77 37 [.s 36],⟨(some 38),.not (.s 37),none⟩])
 (.cond (.s 38) (.seq (.reg [⟨(some 2),.mv (.c (.bool false)),none⟩])
 (.ret))
 (.skip))))
 (.reg [xm 30 3,xB .add 31 30 1,xm 3 31]))))))
 (.seq (.reg [⟨(some 2),.mv (.c (.bool true)),none⟩])
 (.ret))))
theorem fn44:IsFn prog 44 ac44 [.tmp 2] 39:=⟨f44,⟨[],[],[]⟩,func44,by kernel_rfl,by kernel_rfl,by kernel_rfl,by kernel_rfl⟩
def ac77:AC:=.seq (.reg [⟨(some 1),.box 67 (.s 0),none⟩,⟨(some 2),.mv (.c (.bool false)),none⟩])
 (.seq (.reg [xf 1 5 1,xo 6 5,xL 7 6,xm 3 7])
 (.seq (.seq (.reg [xm 8 3,xB .lss 9 8 1,xm 10 9,xh 10 (xm 11 3),xh 10 (xB .gtr 12 11 64),⟨(some 13),.pick (.s 10) (.c (.bool true)) (.s 12),none⟩,xm 14 13,xh 14 (xf 1 15 1),xh 14 (xo 16 15),xh 14 (xc 45 17 [.s 16]),xh 14 (xB .geq 18 17 0),⟨(some 19),.pick (.s 14) (.c (.bool true)) (.s 18),none⟩])
 (.cond (.s 19) (.seq (.reg [⟨(some 2),.mv (.c (.bool false)),none⟩])
 (.ret))
 (.skip)))
 (.seq (.seq (.reg [xi 4 0])
 (.block 0 (.loop (.seq (.seq (.reg [xm 20 4,xm 21 3,xb .lss 22 20 21])
 (.cond (.s 22) (.skip)
 (.exit 0)))
 (.seq (.block 1 (.seq (.reg [xf 1 25 1,xo 26 25,xm 27 4,xA 1 28 26 27,xo 29 28,xc 39 30 [.s 29],⟨(some 31),.not (.s 30),none⟩])
 (.cond (.s 31) (.seq (.reg [⟨(some 2),.mv (.c (.bool false)),none⟩])
 (.ret))
 (.skip))))
 (.reg [xm 23 4,xB .add 24 23 1,xm 4 24]))))))
 (.seq (.seq (.reg [xf 0 32 1,xo 33 32,xB .eql 34 33 1,xm 35 34,xh 35 (xf 0 36 1),xh 35 (xo 37 36),xh 35 (xB .eql 38 37 2),⟨(some 39),.pick (.s 35) (.c (.bool true)) (.s 38),none⟩])
 (.cond (.s 39) (.seq (.reg [xf 2 40 1,xl 65 41 40,xc 109 42 [.s 41],xB .eql 43 42 0,xm 2 43])
 (.ret))
 (.skip)))
 (.seq (.seq (.reg [xf 0 44 1,xo 45 44,xB .eql 46 45 3])
 (.cond (.s 46) (.seq (.reg [xf 2 47 1,xf 0 48 47,xo 49 48,xm 50 3,xb .eql 51 49 50,xm 52 51,xg 52 (xf 2 53 1),xg 52 (xl 65 54 53),xg 52 (xc 110 55 [.s 54]),⟨(some 56),.pick (.s 52) (.s 55) (.c (.bool false)),none⟩,xm 2 56])
 (.ret))
 (.skip)))
 (.seq (.reg [xf 0 57 1,xo 58 57,xB .eql 59 58 4,xm 60 59,xg 60 (xf 2 61 1),xg 60 (xf 0 62 61),xg 60 (xo 63 62),xg 60 (xm 64 3),xg 60 (xb .eql 65 63 64),⟨(some 66),.pick (.s 60) (.s 65) (.c (.bool false)),none⟩,xm 67 66,xg 67 (xf 2 68 1),xg 67 (xl 65 69 68),xg 67 (xc 111 70 [.s 69]),⟨(some 71),.pick (.s 67) (.s 70) (.c (.bool false)),none⟩,xm 2 71])
 (.ret)))))))
theorem fn77:IsFn prog 77 ac77 [.tmp 2] 72:=⟨f77,⟨[],[],[]⟩,func77,by kernel_rfl,by kernel_rfl,by kernel_rfl,by kernel_rfl⟩
theorem named_ok {l:List (List UInt8)} (h1:1≤l.length) (h2:l.length≤64) (ht:twiceS l=none) (hJ:∀k,k<l.length→nameR (l.getD k [])=true):namedS l=true:=by
  simp only[namedS,ht,Bool.and_eq_true,List.all_eq_true,decide_eq_true_eq,Option.isNone_none,and_true];refine⟨⟨h1,h2⟩,fun s hs=>?_⟩;obtain⟨k,hk,rfl⟩:=List.mem_iff_getElem.1 hs
  have:=hJ k hk
  rwa [getD_at hk] at this
theorem named_bad {l:List (List UInt8)} {i:Nat} (hi:i<l.length) (hb:nameR (l.getD i [])=false):namedS l=false:=by
  cases hq:namedS l with
  | false=>rfl
  | true =>
    simp only[namedS,Bool.and_eq_true,List.all_eq_true] at hq;have hm:l.getD i []∈l:=by rw[getD_at hi];exact List.getElem_mem hi
    rw[hq.2 _ hm] at hb;simp at hb
def z18_:=And.intro @am <| And.intro @ams <| And.intro @Fct.rec_ @sCells_len
theorem rfactor_calls (f:Fct) (σ:Store) (hl:f.names.length≤100000):PCalls prog 77 [.agg f.enc] σ fun v σ' => v = .bool (facR f)∧σ' = σ:=by
  refine fn77.calls ?_;simp only[slots,ac77,z18_];have bad:namedS f.names=false→facR f=false:=fun h=>by rw[facR,h];rfl
  by_cases h1:f.names.length<1
  · simp only[am,decide_eq_true (show (f.names.length:Int)<1 by omega)];refine retS ?_;simp[V.erase,bad (by simp[namedS];omega)]
  · simp only[am,decide_eq_false (show ¬(f.names.length:Int)<1 by omega)]
    by_cases h2:64<f.names.length
    · simp only[am,decide_eq_true (show (64:Int)<f.names.length by omega)];refine retS ?_;simp[V.erase,bad (by simp[namedS];omega)]
    · simp only[am,Fct.rec_,decide_eq_false (show ¬(64:Int)<f.names.length by omega)];refine cl (rtwice_calls f.names σ hl) ?_;simp only[am,optI_nn];cases ht:twiceS f.names with
      | some k =>
        simp only[am,Option.isSome_some];refine retS ?_;simp[V.erase,bad (by simp[namedS,ht])]
      | none =>
        simp only[am,Option.isSome_none];obtain⟨F,hF⟩:∃F:Nat→Unit→St,∀i x,F i x=⟨[.any,.ptr (.loc 0) 0,.any,.int .i64 (f.names.length:Nat),.int .i64 (i:Nat)]++List.replicate 67 .any,[f.enc],σ⟩:=⟨_,fun _ _=>rfl⟩;obtain⟨JF,hJF⟩:∃JF:Nat→Unit→Prop,∀i x,JF i x=(∀k,k<i→nameR (f.names.getD k [])=true):=⟨_,fun _ _=>rfl⟩;refine vc_count (f.names.length) F JF _ hJF ?_ ?_ ?_
        · refine ent (()) ?_ ?_ ?_ ?_
          · exact Eq.mpr (hJF _ _) (by intro k h;omega)
          all_goals simp[hF,List.replicate,am,lle_self]
        · rintro i x hi hJ;simp only[hF,List.replicate,am,dlt hi,Fct.rec_];refine idxL_intro (by omega) (sCells_at hi) ?_;simp only[am];refine cl (right2_calls _ σ) ?_;simp only[am];cases hb:nameR (f.names.getD i []) with
          | false =>
            simp only[am,aml];refine retS ?_;simp[V.erase,bad (named_bad hi hb)]
          | true =>
            simp only[am,aml,winc hi (by omega)];refine nxt (()) hi ?_ ?_ ?_ ?_
            · exact Eq.mpr (hJF _ _) (allS hJ hb)
            all_goals simp[hF,List.replicate,am,lle_self]
        · rintro x hJ;have hn:namedS f.names=true:=named_ok (by omega) (by omega) ht hJ;simp only[hF,List.replicate,am,aml,dnl,aml,Fct.rec_]
          by_cases h1:f.kind=1
          · simp only[am,Rl.rec_,Fct.rec_,decide_eq_true h1];refine cl (rpoints_calls f.rel σ) ?_;simp only[am];refine retS ?_;simp[V.erase,facR,hn,h1]
          · simp only[am,Fct.rec_,decide_eq_false h1]
            by_cases h2:f.kind=2
            · simp only[am,Rl.rec_,Fct.rec_,decide_eq_true h2];refine cl (rpoints_calls f.rel σ) ?_;simp only[am];refine retS ?_;simp[V.erase,facR,hn,h2]
            · simp only[am,Fct.rec_,decide_eq_false h2]
              by_cases h3:f.kind=3
              · simp only[am,Fct.rec_,decide_eq_true h3]
                by_cases h4:f.rel.n=f.names.length
                · simp only[am,Rl.rec_,Fct.rec_,decide_eq_true h4];refine cl (r5right_calls f.rel σ) ?_;simp only[am];refine retS ?_;simp[V.erase,facR,hn,h3,h4]
                · simp only[am,decide_eq_false h4];refine retS ?_;simp[V.erase,facR,hn,h3,h4]
              · simp only[am,Fct.rec_,decide_eq_false h3]
                by_cases h5:f.kind=4
                · simp only[am,Fct.rec_,decide_eq_true h5]
                  by_cases h4:f.rel.n=f.names.length
                  · simp only[am,Rl.rec_,Fct.rec_,decide_eq_true h4];refine cl (rlattice_calls f.rel σ) ?_;simp only[am];refine retS ?_;simp[V.erase,facR,hn,h5,h4]
                  · simp only[am,decide_eq_false h4];refine retS ?_;simp[V.erase,facR,hn,h5,h4]
                · simp only[am,decide_eq_false h5];refine retS ?_;simp[V.erase,facR,hn,h1,h2,h3,h5]
theorem rshright_calls (s:Shp) (σ:Store) (hok:s.ok):PCalls prog 44 [.agg s.enc] σ fun v σ' => v = .bool (shpR s)∧σ' = σ:=by
  refine fn44.calls ?_;simp only[slots,ac44,am,ams,Shp.rec_,List.length_map]
  by_cases h1:s.facs.length<1
  · simp only[am,decide_eq_true (show (s.facs.length:Int)<1 by omega)];refine retS ?_;simp[V.erase,shpR];omega
  · simp only[am,List.length_map,Shp.rec_,List.length_map,decide_eq_false (show ¬(s.facs.length:Int)<1 by omega)]
    by_cases h2:8<s.facs.length
    · simp only[am,decide_eq_true (show (8:Int)<s.facs.length by omega)];refine retS ?_;simp[V.erase,shpR];omega
    · simp only[am,Shp.rec_,decide_eq_false (show ¬(8:Int)<s.facs.length by omega)];have h3:(∃t,s.tuple=t∧(t=true∨s.facs.length=1))∨(s.tuple=false∧s.facs.length≠1):=by
        cases ht:s.tuple with
        | true=>exact .inl ⟨true,rfl,.inl rfl⟩
        | false =>
          by_cases hl:s.facs.length=1
          · exact .inl ⟨false,rfl,.inr hl⟩
          · exact .inr ⟨rfl,hl⟩
      rcases h3 with ⟨t,ht,h3⟩ | ⟨ht,h3⟩
      · cases t
        case' false =>
          have h3:s.facs.length=1:=by simpa using h3
          simp only[am,List.length_map,Shp.rec_,List.length_map,ht,decide_eq_true (show (s.facs.length:Int)=1 by omega)]
        case' true=>simp only[am,ht]
        all_goals
          obtain⟨F,hF⟩:∃F:Nat→Unit→St,∀i x,F i x=⟨[.any,.ptr (.loc 0) 0,.bool false,.int .i64 (i:Nat)]++List.replicate 35 .any,[s.enc],σ⟩:=⟨_,fun _ _=>rfl⟩;obtain⟨JF,hJF⟩:∃JF:Nat→Unit→Prop,∀i x,JF i x=(∀k,k<i→∀hk:k<s.facs.length,facR s.facs[k]=true):=⟨_,fun _ _=>rfl⟩;refine vc_count (s.facs.length) F JF _ hJF ?_ ?_ ?_
          · refine ent (()) ?_ ?_ ?_ ?_
            · exact Eq.mpr (hJF _ _) (by intro k h;omega)
            all_goals simp[hF,List.replicate,am,lle_self]
          · rintro i x hi hJ;simp only[hF,List.replicate,am,dlt hi,Shp.rec_,List.length_map];refine idxL_intro (by omega) (facs_at hi) ?_;simp only[am,Fct.rec_];refine cl (rfactor_calls s.facs[i] σ (hok.2 _ (List.getElem_mem hi))) ?_;cases hb:facR s.facs[i] with
            | false =>
              simp only[am,aml];refine retS ?_;simp[V.erase,shpR_bad hi hb]
            | true =>
              simp only[am,aml,winc hi (by omega)];refine nxt (()) hi ?_ ?_ ?_ ?_
              · exact Eq.mpr (hJF _ _) (allS hJ (fun _=>hb))
              all_goals simp[hF,List.replicate,am,lle_self]
          · rintro x hJ;have e:=shpR_ok (s:=s) (by omega) (by omega) (by simp[ht,h3]) fun k hk=>hJ k hk hk
            simp only[hF,List.replicate,am,aml,dnl,aml,Shp.rec_,List.length_map];refine retS ?_;simp[V.erase,e]
      · have e:shpR s=false:=by simp[shpR,ht,h3]
        simp only[am,List.length_map,Shp.rec_,List.length_map,ht,decide_eq_false (show ¬(s.facs.length:Int)=1 by omega)];refine retS ?_;simp[V.erase,e]
end Go.Proofs.Tryz

namespace Go.Proofs.Tryz
open Go.Am
set_option maxRecDepth 4000
set_option maxHeartbeats 4000000
end Go.Proofs.Tryz

namespace Go.Proofs.Tryz
open Go.Am
set_option maxRecDepth 4000
set_option maxHeartbeats 4000000
theorem Tok.wd {t:Tok}:t.enc.length=3:=rfl
end Go.Proofs.Tryz

namespace Go.Proofs.Tryz
open Go.Am
set_option maxRecDepth 4000
set_option maxHeartbeats 4000000
end Go.Proofs.Tryz

namespace Go.Proofs.Tryz
open Go.Am
set_option maxRecDepth 4000
set_option maxHeartbeats 4000000
end Go.Proofs.Tryz

namespace Go.Proofs.Tryz
open Go.Am
set_option maxRecDepth 4000
set_option maxHeartbeats 4000000
end Go.Proofs.Tryz

namespace Go.Proofs.Tryz
open Go.Am
set_option maxRecDepth 4000
set_option maxHeartbeats 4000000
def ac62:AC:=.seq (.reg [⟨(some 1),.box 5 (.s 0),none⟩,⟨(some 2),.mv (.c (.bool false)),none⟩])
 (.seq (.seq (.reg [xf 0 3 1,xo 4 3])
 (.block 0 (.seq (.reg [xB .eql 6 4 1,xm 5 6])
 (.cond (.s 5) (.seq (.reg [xl 5 7 1,xc 91 8 [.s 7],xm 2 8])
 (.ret))
 (.seq (.reg [xB .eql 10 4 7,xm 9 10])
 (.cond (.s 9) (.seq (.reg [xl 5 11 1,xc 92 12 [.s 11],xm 13 12,xg 13 (xf 4 14 1),xg 13 (xo 15 14),xg 13 (xL 16 15),xg 13 (xB .eql 17 16 1),⟨(some 18),.pick (.s 13) (.s 17) (.c (.bool false)),none⟩,xm 19 18,xg 19 (xf 4 20 1),xg 19 (xo 21 20),⟨(some 22),.idxA 5 (.s 21) (.c (.int .i64 0)),(some (19,true))⟩,xg 19 (xl 5 23 22),xg 19 (xc 93 24 [.s 23]),⟨(some 25),.pick (.s 19) (.s 24) (.c (.bool false)),none⟩,xm 2 25])
 (.ret))
 (.seq (.seq (.reg [xB .eql 27 4 8,xm 26 27])
 (.cond (.s 26) (.skip)
 (.reg [xB .eql 28 4 9,xm 26 28])))
 (.cond (.s 26) (.seq (.reg [xl 5 29 1,xc 92 30 [.s 29],xm 31 30,xg 31 (xf 4 32 1),xg 31 (xo 33 32),xg 31 (xL 34 33),xg 31 (xB .gtr 35 34 0),⟨(some 36),.pick (.s 31) (.s 35) (.c (.bool false)),none⟩,xm 37 36,xg 37 (xf 4 38 1),xg 37 (xo 39 38),xg 37 (xc 94 40 [.s 39,.c (.fn (.func 62) [] [])]),⟨(some 41),.pick (.s 37) (.s 40) (.c (.bool false)),none⟩,xm 2 41])
 (.ret))
 (.skip)))))))))
 (.seq (.reg [⟨(some 2),.mv (.c (.bool false)),none⟩])
 (.ret)))
theorem fn62:IsFn prog 62 ac62 [.tmp 2] 42:=⟨f62,⟨[],[],[]⟩,func62,by kernel_rfl,by kernel_rfl,by kernel_rfl,by kernel_rfl⟩
def ac89:AC:=.seq (.reg [⟨(some 1),.box 5 (.s 0),none⟩,⟨(some 2),.mv (.c (.bool false)),none⟩])
 (.seq (.seq (.reg [xf 0 3 1,xo 4 3,xB .eql 5 4 10])
 (.cond (.s 5) (.seq (.reg [xf 2 6 1,xo 7 6,⟨(some 8),.binS .eql (.s 7) (.c (.str [])),none⟩,xm 9 8,xg 9 (xf 3 10 1),xg 9 (xo 11 10),xg 9 (xL 12 11),xg 9 (xB .leq 13 12 1),⟨(some 14),.pick (.s 9) (.s 13) (.c (.bool false)),none⟩,xm 15 14,xg 15 (xf 3 16 1),xg 15 (xo 17 16),xg 15 (xc 114 18 [.s 17]),⟨(some 19),.pick (.s 15) (.s 18) (.c (.bool false)),none⟩,xm 20 19,xg 20 (xf 4 21 1),xg 20 (xo 22 21),xg 20 (xc 94 23 [.s 22,.c (.fn (.func 115) [] [])]),⟨(some 24),.pick (.s 20) (.s 23) (.c (.bool false)),none⟩,xm 2 24])
 (.ret))
 (.skip)))
 (.seq (.reg [xf 0 25 1,xo 26 25,xB .eql 27 26 1,xm 28 27,xg 28 (xl 5 29 1),xg 28 (xc 62 30 [.s 29]),⟨(some 31),.pick (.s 28) (.s 30) (.c (.bool false)),none⟩,xm 2 31])
 (.ret)))
theorem fn89:IsFn prog 89 ac89 [.tmp 2] 32:=⟨f89,⟨[],[],[]⟩,func89,by kernel_rfl,by kernel_rfl,by kernel_rfl,by kernel_rfl⟩
def ac91:AC:=.seq (.reg [⟨(some 1),.box 5 (.s 0),none⟩,⟨(some 2),.mv (.c (.bool false)),none⟩])
 (.seq (.reg [xf 2 3 1,xo 4 3,xc 34 5 [.s 4],xm 6 5,xg 6 (xf 3 7 1),xg 6 (xo 8 7),xg 6 (xL 9 8),xg 6 (xf 4 10 1),xg 6 (xo 11 10),xg 6 (xL 12 11),xg 6 (xb .add 13 9 12),xg 6 (xB .eql 14 13 0),⟨(some 15),.pick (.s 6) (.s 14) (.c (.bool false)),none⟩,xm 2 15])
 (.ret))
theorem fn91:IsFn prog 91 ac91 [.tmp 2] 16:=⟨f91,⟨[],[],[]⟩,func91,by kernel_rfl,by kernel_rfl,by kernel_rfl,by kernel_rfl⟩
def ac92:AC:=.seq (.reg [⟨(some 1),.box 5 (.s 0),none⟩,⟨(some 2),.mv (.c (.bool false)),none⟩])
 (.seq (.reg [xf 2 3 1,xo 4 3,⟨(some 5),.binS .eql (.s 4) (.c (.str [])),none⟩,xm 6 5,xg 6 (xf 3 7 1),xg 6 (xo 8 7),xg 6 (xL 9 8),xg 6 (xB .eql 10 9 0),⟨(some 11),.pick (.s 6) (.s 10) (.c (.bool false)),none⟩,xm 2 11])
 (.ret))
theorem fn92:IsFn prog 92 ac92 [.tmp 2] 12:=⟨f92,⟨[],[],[]⟩,func92,by kernel_rfl,by kernel_rfl,by kernel_rfl,by kernel_rfl⟩
def ac93:AC:=.seq (.reg [⟨(some 1),.box 5 (.s 0),none⟩,⟨(some 2),.mv (.c (.bool false)),none⟩])
 (.seq (.seq (.reg [xf 0 3 1,xo 4 3])
 (.block 0 (.seq (.reg [xB .eql 6 4 2,xm 5 6])
 (.cond (.s 5) (.seq (.reg [xl 5 7 1,xc 91 8 [.s 7],xm 2 8])
 (.ret))
 (.seq (.reg [xB .eql 10 4 3,xm 9 10])
 (.cond (.s 9) (.seq (.reg [xf 2 11 1,xo 12 11,⟨(some 13),.binS .eql (.s 12) (.c (.str [])),none⟩,xm 14 13,xg 14 (xf 3 15 1),xg 14 (xo 16 15),xg 14 (xc 114 17 [.s 16]),⟨(some 18),.pick (.s 14) (.s 17) (.c (.bool false)),none⟩,xm 19 18,xg 19 (xf 4 20 1),xg 19 (xo 21 20),xg 19 (xL 22 21),xg 19 (xB .eql 23 22 0),⟨(some 24),.pick (.s 19) (.s 23) (.c (.bool false)),none⟩,xm 2 24])
 (.ret))
 (.seq (.reg [xB .eql 26 4 4,xm 25 26])
 (.cond (.s 25) (.seq (.reg [xl 5 27 1,xc 92 28 [.s 27],xm 29 28,xg 29 (xf 4 30 1),xg 29 (xo 31 30),xg 29 (xL 32 31),xg 29 (xB .gtr 33 32 0),⟨(some 34),.pick (.s 29) (.s 33) (.c (.bool false)),none⟩,xm 35 34,xg 35 (xf 4 36 1),xg 35 (xo 37 36),xg 35 (xc 94 38 [.s 37,.c (.fn (.func 93) [] [])]),⟨(some 39),.pick (.s 35) (.s 38) (.c (.bool false)),none⟩,xm 2 39])
 (.ret))
 (.seq (.reg [xB .eql 41 4 5,xm 40 41])
 (.cond (.s 40) (.seq (.reg [xl 5 42 1,xc 92 43 [.s 42],xm 44 43,xg 44 (xf 4 45 1),xg 44 (xo 46 45),xg 44 (xc 94 47 [.s 46,.c (.fn (.func 116) [] [])]),⟨(some 48),.pick (.s 44) (.s 47) (.c (.bool false)),none⟩,xm 2 48])
 (.ret))
 (.skip)))))))))))
 (.seq (.reg [⟨(some 2),.mv (.c (.bool false)),none⟩])
 (.ret)))
theorem fn93:IsFn prog 93 ac93 [.tmp 2] 49:=⟨f93,⟨[],[],[]⟩,func93,by kernel_rfl,by kernel_rfl,by kernel_rfl,by kernel_rfl⟩
def ac94:AC:=.seq (.reg [⟨(some 4),.mv (.c (.bool false)),none⟩])
 (.seq (.seq (.reg [xm 7 0,xL 8 7,xi 9 0])
 (.block 0 (.loop (.seq (.reg [xb .lss 10 9 8])
 (.seq (.cond (.s 10) (.skip)
 (.exit 0))
 (.seq (.block 1 (.seq (.reg [xA 5 11 7 9,xl 5 12 11,⟨(some 6),.alloc [(.int .i64 0),(.int .i64 0),(.str []),(.sl .full 2 []),(.sl .full 5 [])],none⟩,xs 5 6 12])
 (.seq (.reg [xm 13 1,xl 5 14 6,⟨(some 15),.callv (.s 13) [(.s 14)],none⟩,⟨(some 16),.not (.s 15),none⟩])
 (.cond (.s 16) (.seq (.reg [⟨(some 4),.mv (.c (.bool false)),none⟩])
 (.ret))
 (.skip)))))
 (.reg [xB .add 17 9 1,xm 9 17])))))))
 (.seq (.reg [⟨(some 4),.mv (.c (.bool true)),none⟩])
 (.ret)))
theorem fn94:IsFn prog 94 ac94 [.tmp 4] 18:=⟨f94,⟨[],[],[]⟩,func94,by kernel_rfl,by kernel_rfl,by kernel_rfl,by kernel_rfl⟩
def ac114:AC:=.seq (.reg [⟨(some 2),.mv (.c (.bool false)),none⟩])
 (.seq (.seq (.reg [xm 5 0,xL 6 5,xi 7 0])
 (.block 0 (.loop (.seq (.reg [xb .lss 8 7 6])
 (.seq (.cond (.s 8) (.skip)
 (.exit 0))
 (.seq (.block 1 (.seq (.reg [xA 2 9 5 7,xl 2 10 9,⟨(some 4),.alloc [(.str []),(.int .i64 0)],none⟩,xs 2 4 10])
 (.seq (.reg [xf 0 11 4,xo 12 11,xc 34 13 [.s 12],⟨(some 14),.not (.s 13),none⟩])
 (.cond (.s 14) (.seq (.reg [⟨(some 2),.mv (.c (.bool false)),none⟩])
 (.ret))
 (.skip)))))
 (.reg [xB .add 15 7 1,xm 7 15])))))))
 (.seq (.reg [⟨(some 2),.mv (.c (.bool true)),none⟩])
 (.ret)))
theorem fn114:IsFn prog 114 ac114 [.tmp 2] 16:=⟨f114,⟨[],[],[]⟩,func114,by kernel_rfl,by kernel_rfl,by kernel_rfl,by kernel_rfl⟩
def ac115:AC:=.seq (.reg [⟨(some 1),.box 5 (.s 0),none⟩,⟨(some 2),.mv (.c (.bool false)),none⟩])
 (.seq (.reg [xf 0 3 1,xo 4 3,xB .eql 5 4 11,xm 6 5,xg 6 (xf 2 7 1),xg 6 (xo 8 7),xg 6 (xc 34 9 [.s 8]),⟨(some 10),.pick (.s 6) (.s 9) (.c (.bool false)),none⟩,xm 11 10,xg 11 (xf 3 12 1),xg 11 (xo 13 12),xg 11 (xL 14 13),xg 11 (xB .eql 15 14 0),⟨(some 16),.pick (.s 11) (.s 15) (.c (.bool false)),none⟩,xm 17 16,xg 17 (xf 4 18 1),xg 17 (xo 19 18),xg 17 (xL 20 19),xg 17 (xB .eql 21 20 1),⟨(some 22),.pick (.s 17) (.s 21) (.c (.bool false)),none⟩,xm 23 22,xg 23 (xf 4 24 1),xg 23 (xo 25 24),⟨(some 26),.idxA 5 (.s 25) (.c (.int .i64 0)),(some (23,true))⟩,xg 23 (xl 5 27 26),xg 23 (xc 140 28 [.s 27]),⟨(some 29),.pick (.s 23) (.s 28) (.c (.bool false)),none⟩,xm 2 29])
 (.ret))
theorem fn115:IsFn prog 115 ac115 [.tmp 2] 30:=⟨f115,⟨[],[],[]⟩,func115,by kernel_rfl,by kernel_rfl,by kernel_rfl,by kernel_rfl⟩
def ac116:AC:=.seq (.reg [⟨(some 1),.box 5 (.s 0),none⟩,⟨(some 2),.mv (.c (.bool false)),none⟩])
 (.seq (.reg [xf 0 3 1,xo 4 3,xB .eql 5 4 6,xm 6 5,xg 6 (xf 2 7 1),xg 6 (xo 8 7),xg 6 (xc 34 9 [.s 8]),⟨(some 10),.pick (.s 6) (.s 9) (.c (.bool false)),none⟩,xm 11 10,xg 11 (xf 3 12 1),xg 11 (xo 13 12),xg 11 (xc 114 14 [.s 13]),⟨(some 15),.pick (.s 11) (.s 14) (.c (.bool false)),none⟩,xm 16 15,xg 16 (xf 4 17 1),xg 16 (xo 18 17),xg 16 (xL 19 18),xg 16 (xB .eql 20 19 0),⟨(some 21),.pick (.s 16) (.s 20) (.c (.bool false)),none⟩,xm 2 21])
 (.ret))
theorem fn116:IsFn prog 116 ac116 [.tmp 2] 22:=⟨f116,⟨[],[],[]⟩,func116,by kernel_rfl,by kernel_rfl,by kernel_rfl,by kernel_rfl⟩
def ac140:AC:=.seq (.reg [⟨(some 1),.box 5 (.s 0),none⟩,⟨(some 2),.mv (.c (.bool false)),none⟩])
 (.seq (.reg [xf 0 3 1,xo 4 3,xB .eql 5 4 1,xm 6 5,xh 6 (xf 0 7 1),xh 6 (xo 8 7),xh 6 (xB .eql 9 8 7),⟨(some 10),.pick (.s 6) (.c (.bool true)) (.s 9),none⟩,xm 11 10,xg 11 (xl 5 12 1),xg 11 (xc 62 13 [.s 12]),⟨(some 14),.pick (.s 11) (.s 13) (.c (.bool false)),none⟩,xm 2 14])
 (.ret))
theorem fn140:IsFn prog 140 ac140 [.tmp 2] 15:=⟨f140,⟨[],[],[]⟩,func140,by kernel_rfl,by kernel_rfl,by kernel_rfl,by kernel_rfl⟩
theorem xall_take {α:Type} {l:List α} {i:Nat} {f:α→Bool} (h:i<l.length):(l.take (i+1)).all f=((l.take i).all f&&f l[i]):=by
  rw[take_succ_of (List.getElem?_eq_getElem h),List.all_append];simp only[List.all_cons,List.all_nil,Bool.and_true]
theorem all_no {α:Type} {l:List α} {i:Nat} {f:α→Bool} (h:i<l.length) (hf:f l[i]=false):l.all f=false:=by
  rw[List.all_eq_false];exact⟨l[i],List.getElem_mem h,by simp[hf]⟩
def inv40 (l:List Word) (σ:Store) (i:Nat):St :=
  ⟨[.sl .no 2 (l.map Word.enc)]++List.replicate 4 .any++[.sl .no 2 (l.map Word.enc),.int .i64 l.length,.int .i64 (i:Nat)]++List.replicate 8 .any,[],σ⟩
theorem rightW_calls (l:List Word) (σ:Store) (hb:l.length≤big):PCalls prog 114 [.sl .no 2 (l.map Word.enc)] σ fun v σ' => v = .bool (rightW l)∧σ' = σ:=by
  simp only[big] at hb;refine fn114.calls ?_;simp only[slots,ac114,am,ams];refine vc_loop (fun p:{i:Nat // i≤l.length∧(l.take i).all (fun w=>nameR w.text)=true}=>inv40 l σ p.1) (fun p=>l.length - p.1) ?_ ?_
  · refine Upd.enter ⟨0,by simp,by simp⟩ ?_ LLLe.rfl OLe.rfl;simp[inv40,List.replicate,am]
  · rintro⟨i,hi,ha⟩;simp only[inv40,List.replicate,am];refine vcIf_split ?_ ?_
    · intro hlt;have hlt:i<l.length:=by simpa using hlt
      simp only[am];refine idxL_intro (by omega) (wencs_at (List.getElem?_eq_getElem hlt)) ?_;simp only[am,Nat.reduceAdd,Word.enc];refine cl (nright_calls l[i].text σ) ?_;cases hg:nameR l[i].text
      · simp only[am];refine retK_intro rfl (Store.sub_refl _) ⟨?_,rfl⟩;rw[show rightW l=false from all_no (f:=fun (w:Word)=>nameR w.text) hlt hg];rfl
      · simp only[am];rw[wrap_i64 (by omega) (by omega)];exact Upd.againD ⟨i+1,hlt,by rw[xall_take hlt,ha,hg];rfl⟩ (by simp;omega) (by simp[am]) (by simp[am]) OLe.rfl rfl rfl
    · intro hlt;have hlt:i=l.length:=by simp at hlt;omega
      subst hlt;rw[List.take_length] at ha;simp only[am];refine retS ?_;simp[V.erase,rightW,ha]
def inv42 (g:FuncId) (l:List Nd) (σ:Store) (i:Nat):St :=
  ⟨[.sl .no 5 (l.map Nd.enc),.fn (.func g) [] []]++List.replicate 5 .any++[.sl .no 5 (l.map Nd.enc),.int .i64 l.length,.int .i64 (i:Nat)]++List.replicate 8 .any,[],σ⟩
theorem all_calls {g:FuncId} {f:Nd→Bool} (l:List Nd) (σ:Store) (hb:l.length≤big) (h:∀n∈l,PCalls prog g [.agg n.enc] σ fun v σ' => v = .bool (f n)∧σ' = σ):PCalls prog 94 [.sl .no 5 (l.map Nd.enc),.fn (.func g) [] []] σ fun v σ' => v = .bool (l.all f)∧σ' = σ:=by
  simp only[big] at hb;refine fn94.calls ?_;simp only[slots,ac94,am,ams,Nat.reduceAdd];refine vc_loop (fun p:{i:Nat // i≤l.length∧(l.take i).all f=true}=>inv42 g l σ p.1) (fun p=>l.length - p.1) ?_ ?_
  · refine Upd.enter ⟨0,by simp,by simp⟩ ?_ LLLe.rfl OLe.rfl;simp[inv42,List.replicate,am]
  · rintro⟨i,hi,ha⟩;simp only[inv42,List.replicate,am];refine vcIf_split ?_ ?_
    · intro hlt;have hlt:i<l.length:=by simpa using hlt
      simp only[am];refine idxL_intro (by omega) (nencs_at (List.getElem?_eq_getElem hlt)) ?_;simp only[am,Nd.rec_];refine cl (h l[i] (List.getElem_mem hlt)) ?_;cases hg:f l[i]
      · simp only[am];refine retS ?_;simp[V.erase,all_no hlt hg]
      · simp only[am];rw[wrap_i64 (by omega) (by omega)];exact Upd.againD ⟨i+1,hlt,by rw[xall_take hlt,ha,hg];rfl⟩ (by simp;omega) (by simp[am]) (by simp[am]) OLe.rfl rfl rfl
    · intro hlt;have hlt:i=l.length:=by simp at hlt;omega
      subst hlt;rw[List.take_length] at ha;simp only[am];refine retS ?_;simp[V.erase,ha]
def z19_:=And.intro @am <| And.intro @ams <| And.intro @Nd.rec_ @Nd.fl
def z20_:=And.intro @am <| And.intro @amo <| And.intro @amc <| And.intro @encs_length <| And.intro @decide_true <| And.intro @decide_false <| And.intro @Tree.rec_ <| And.intro @Nd.rec_ <| And.intro @Word.rec_ <| And.intro @Got.rec_ @Nd.fl
theorem leaf_calls (n:Nd) (σ:Store) (hb:n.names.length+n.kids.length≤big):PCalls prog 91 [.agg n.enc] σ fun v σ' => v = .bool n.leafQ∧σ' = σ:=by
  simp only[big] at hb;refine fn91.calls ?_;simp only[slots,ac91,z19_];refine cl (nright_calls n.text σ) ?_;simp only[am]
  repeat' (first
    | (refine gL_split (fun h=>?_) (fun h=>?_)<;>simp only[am,h,List.length_map,Nd.fl,wrap_i64 (x:=(n.names.length:Int)+n.kids.length) (by omega) (by omega)])
    | (refine vcIf_split (fun h=>?_) (fun h=>?_)<;>simp only[z20_,h,Nat.reduceAdd,Nat.reduceEqDiff,List.length_map,wrap_i64 (x:=(n.names.length:Int)+n.kids.length) (by omega) (by omega)])
    | (refine pickL_split (fun h=>?_) (fun h=>?_)<;>simp only[z20_,h,Nat.reduceAdd,Nat.reduceEqDiff,List.length_map,wrap_i64 (x:=(n.names.length:Int)+n.kids.length) (by omega) (by omega)])
  )
  all_goals refine retS ?_
  all_goals simp_all [V.erase,Nd.leafQ]
  all_goals (try omega)
theorem bare_calls (n:Nd) (σ:Store):PCalls prog 92 [.agg n.enc] σ fun v σ' => v = .bool n.bareQ∧σ' = σ:=by
  refine fn92.calls ?_;simp only[slots,ac92,z19_]
  repeat' (first
    | (refine gL_split (fun h=>?_) (fun h=>?_)<;>simp only[am,h,List.length_map,Nd.fl])
    | (refine vcIf_split (fun h=>?_) (fun h=>?_)<;>simp only[z20_,h,Nat.reduceAdd,Nat.reduceEqDiff,List.length_map])
    | (refine pickL_split (fun h=>?_) (fun h=>?_)<;>simp only[z20_,h,Nat.reduceAdd,Nat.reduceEqDiff,List.length_map])
  )
  all_goals refine retS ?_
  all_goals simp_all [V.erase,Nd.bareQ]
  all_goals (try omega)
theorem wt_names (n:Nd):n.names.length+n.kids.length+4≤n.wt:=by
  have h2:n.names.length≤wsum n.names:=by
    unfold wsum;generalize n.names=l;induction l with
    | nil=>simp
    | cons w ws ih=>simp only[List.map_cons,List.sum_cons,List.length_cons];omega
  have h3:n.kids.length≤wts n.kids:=by
    rw[wts_map];generalize n.kids=l;induction l with
    | nil=>simp
    | cons w ws ih=>simp only[List.map_cons,List.sum_cons,List.length_cons];omega
  have h1:wts n.kids+wsum n.names+4≤n.wt:=by cases n;simp only[Nd.wt,Nd.kids,Nd.names];omega
  omega
theorem rule_is_calls (n:Nd) (σ:Store) (hw:n.wt≤big):PCalls prog 116 [.agg n.enc] σ fun v σ' => v = .bool n.ruleQ∧σ' = σ:=by
  have hn:=wt_names n;refine fn116.calls ?_;simp only[slots,ac116,z19_]
  repeat' (first
    | (refine gL_split (fun h=>?_) (fun h=>?_)<;>simp only[am,h,List.length_map,Nd.fl])
    | (refine vcIf_split (fun h=>?_) (fun h=>?_)<;>simp only[z20_,h,Nat.reduceAdd,Nat.reduceEqDiff,List.length_map])
    | (refine pickL_split (fun h=>?_) (fun h=>?_)<;>simp only[z20_,h,Nat.reduceAdd,Nat.reduceEqDiff,List.length_map])
    | (refine(nright_calls n.text σ).mono ?_;rintro v _ ⟨rfl,rfl⟩;simp only[am])
    | (refine(rightW_calls n.names _ (by omega)).mono ?_;rintro v _ ⟨rfl,rfl⟩;simp only[am])
  )
  all_goals refine retS ?_
  all_goals simp_all [V.erase,Nd.ruleQ]
  all_goals (try omega)
theorem const_is_calls:∀(k:Nat) (n:Nd) (σ:Store),n.wt≤k→n.wt≤big→PCalls prog 93 [.agg n.enc] σ fun v σ' => v = .bool n.constQ∧σ' = σ:=by
  intro k;induction k with
  | zero=>intro n σ h _;cases n;simp only[Nd.wt] at h;omega
  | succ k ihk =>
    intro n σ hk hw;have hn:=wt_names n;have hkid:∀m∈n.kids,m.wt+5≤n.wt:=fun m hm=>by
      have h1:=wt_mem hm;have h2:wts n.kids+4≤n.wt:=by cases n;simp only[Nd.wt,Nd.kids];omega
      omega
    have hall:PCalls prog 94 [.sl .no 5 (n.kids.map Nd.enc),.fn (.func 93) [] []] σ fun v σ' => v = .bool (n.kids.all Nd.constQ)∧σ' = σ :=
      all_calls n.kids σ (by omega) fun m hm=>ihk m σ (by have:=hkid m hm;omega) (by have:=hkid m hm;omega)
    have hrule:PCalls prog 94 [.sl .no 5 (n.kids.map Nd.enc),.fn (.func 116) [] []] σ fun v σ' => v = .bool (n.kids.all Nd.ruleQ)∧σ' = σ :=
      all_calls n.kids σ (by omega) fun m hm=>rule_is_calls m σ (by have:=hkid m hm;omega)
    rw[Nd.constQ_eq];refine fn93.calls ?_;simp only[slots,ac93,z19_]
    by_cases k2:n.kind=2
    · simp only[am,Nd.rec_,decide_eq_true k2];refine cl (leaf_calls n σ (by omega)) ?_;simp only[am];refine retS ?_;simp[V.erase,k2]
    simp only[am,decide_eq_false k2]
    by_cases k3:n.kind=3
    · simp only[am,Nd.fl,decide_eq_true k3]
      repeat' (first
        | (refine gL_split (fun h=>?_) (fun h=>?_)<;>simp only[am,h,List.length_map,Nd.fl])
        | (refine vcIf_split (fun h=>?_) (fun h=>?_)<;>simp only[z20_,h,Nat.reduceAdd,Nat.reduceEqDiff,List.length_map])
        | (refine pickL_split (fun h=>?_) (fun h=>?_)<;>simp only[z20_,h,Nat.reduceAdd,Nat.reduceEqDiff,List.length_map])
        | (refine(rightW_calls n.names _ (by omega)).mono ?_;rintro v _ ⟨rfl,rfl⟩;simp only[am])
      )
      all_goals refine retS ?_
      all_goals simp_all [V.erase]
      all_goals (try omega)
    simp only[am,decide_eq_false k3]
    by_cases k4:n.kind=4
    · simp only[am,Nd.rec_,decide_eq_true k4];refine cl (bare_calls n σ) ?_;simp only[am]
      repeat' (first
        | (refine gL_split (fun h=>?_) (fun h=>?_)<;>simp only[am,h,List.length_map,Nd.fl])
        | (refine vcIf_split (fun h=>?_) (fun h=>?_)<;>simp only[z20_,h,Nat.reduceAdd,Nat.reduceEqDiff,List.length_map])
        | (refine pickL_split (fun h=>?_) (fun h=>?_)<;>simp only[z20_,h,Nat.reduceAdd,Nat.reduceEqDiff,List.length_map])
        | (refine hall.mono ?_;rintro v _ ⟨rfl,rfl⟩;simp only[am])
      )
      all_goals refine retS ?_
      all_goals simp_all [V.erase]
      all_goals (try omega)
    simp only[am,decide_eq_false k4]
    by_cases k5:n.kind=5
    · simp only[am,Nd.rec_,decide_eq_true k5];refine cl (bare_calls n σ) ?_;simp only[am]
      repeat' (first
        | (refine gL_split (fun h=>?_) (fun h=>?_)<;>simp only[am,h,Nd.fl])
        | (refine vcIf_split (fun h=>?_) (fun h=>?_)<;>simp only[z20_,h,Nat.reduceAdd,Nat.reduceEqDiff,List.length_map])
        | (refine pickL_split (fun h=>?_) (fun h=>?_)<;>simp only[z20_,h,Nat.reduceAdd,Nat.reduceEqDiff,List.length_map])
        | (refine hrule.mono ?_;rintro v _ ⟨rfl,rfl⟩;simp only[am])
      )
      all_goals refine retS ?_
      all_goals simp_all [V.erase]
      all_goals (try omega)
    simp only[am,decide_eq_false k5];refine retS ?_;simp[V.erase,k2,k3,k4,k5]
theorem kid_wt {n m:Nd} (hm:m∈n.kids):m.wt+5≤n.wt:=by
  have h1:=wt_mem hm;have h2:wts n.kids+4≤n.wt:=by cases n;simp only[Nd.wt,Nd.kids];omega
  omega
theorem label_is_calls:∀(k:Nat) (n:Nd) (σ:Store),n.wt≤k→n.wt≤big→PCalls prog 62 [.agg n.enc] σ fun v σ' => v = .bool n.labelQ∧σ' = σ:=by
  intro k;induction k with
  | zero=>intro n σ h _;cases n;simp only[Nd.wt] at h;omega
  | succ k ihk =>
    intro n σ hk hw;have hn:=wt_names n;have hall:PCalls prog 94 [.sl .no 5 (n.kids.map Nd.enc),.fn (.func 62) [] []] σ fun v σ' => v = .bool (n.kids.all Nd.labelQ)∧σ' = σ :=
      all_calls n.kids σ (by omega) fun m hm=>ihk m σ (by have:=kid_wt hm;omega) (by have:=kid_wt hm;omega)
    rw[Nd.labelQ_eq];refine fn62.calls ?_;simp only[slots,ac62,z19_]
    by_cases k1:n.kind=1
    · simp only[am,Nd.rec_,decide_eq_true k1];refine cl (leaf_calls n σ (by omega)) ?_;simp only[am];refine retS ?_;simp[V.erase,k1]
    simp only[am,decide_eq_false k1]
    by_cases k7:n.kind=7
    · simp only[am,Nd.rec_,decide_eq_true k7];refine cl (bare_calls n σ) ?_;simp only[am];cases hks:n.kids with
      | nil =>
        simp only[am,List.length_nil,Int.natCast_zero,show decide ((0:Int)=1)=false from rfl]
        repeat' (first
          | (refine gL_split (fun h=>?_) (fun h=>?_)<;>simp only[am,h,Nd.fl,hks,List.map_nil,List.length_nil,Int.natCast_zero,show decide ((0:Int)=1)=false from rfl])
          | (refine vcIf_split (fun h=>?_) (fun h=>?_)<;>simp only[z20_,h,Nat.reduceAdd,Nat.reduceEqDiff,List.length_map,hks,List.map_nil,List.length_nil,Int.natCast_zero,show decide ((0:Int)=1)=false from rfl])
          | (refine pickL_split (fun h=>?_) (fun h=>?_)<;>simp only[z20_,h,Nat.reduceAdd,Nat.reduceEqDiff,List.length_map,hks,List.map_nil,List.length_nil,Int.natCast_zero,show decide ((0:Int)=1)=false from rfl])
        )
        all_goals refine retS ?_
        all_goals simp_all [V.erase]
        all_goals (try omega)
      | cons m ms =>
        have hc:PCalls prog 93 [.agg m.enc] σ fun v σ' => v = .bool m.constQ∧σ' = σ:=const_is_calls _ m σ (Nat.le_refl _) (by have:=kid_wt (n:=n) (m:=m) (by rw[hks];simp);omega)
        repeat' (first
          | (refine gL_split (fun h=>?_) (fun h=>?_)<;>simp only[am,h,List.length_map,Nd.fl,hks])
          | (refine vcIf_split (fun h=>?_) (fun h=>?_)<;>simp only[z20_,h,Nat.reduceAdd,Nat.reduceEqDiff,List.length_map,hks])
          | (refine pickL_split (fun h=>?_) (fun h=>?_)<;>simp only[z20_,h,Nat.reduceAdd,Nat.reduceEqDiff,List.length_map,hks])
          | (refine idxL_intro (by omega) (c:=m.enc) (by simp) ?_;simp only[am,Nd.rec_])
          | (refine hc.mono ?_;rintro v _ ⟨rfl,rfl⟩;simp only[am])
        )
        all_goals refine retS ?_
        all_goals simp_all [V.erase,headQ]
        all_goals (try omega)
    simp only[am,decide_eq_false k7]
    by_cases k8:n.kind=8
    case' pos =>
      simp only[am,Nd.rec_,decide_eq_true k8]
    case' neg =>
      simp only[am,decide_eq_false k8]
      by_cases k9:n.kind=9
      case' pos =>
        simp only[am,Nd.rec_,decide_eq_true k9]
      case' neg =>
        simp only[am,decide_eq_false k9];refine retS ?_;simp[V.erase,k1,k7,k8,k9]
    all_goals
      refine cl (bare_calls n σ) ?_;simp only[am]
      repeat' (first
        | (refine gL_split (fun h=>?_) (fun h=>?_)<;>simp only[am,h,List.length_map,Nd.fl])
        | (refine vcIf_split (fun h=>?_) (fun h=>?_)<;>simp only[z20_,h,Nat.reduceAdd,Nat.reduceEqDiff,List.length_map])
        | (refine pickL_split (fun h=>?_) (fun h=>?_)<;>simp only[z20_,h,Nat.reduceAdd,Nat.reduceEqDiff,List.length_map])
        | (refine hall.mono ?_;rintro v _ ⟨rfl,rfl⟩;simp only[am])
      )
      all_goals refine retS ?_
      all_goals simp_all [V.erase]
      all_goals (try omega)
theorem atom_is_calls (n:Nd) (σ:Store) (hw:n.wt≤big):PCalls prog 140 [.agg n.enc] σ fun v σ' => v = .bool n.atomQ∧σ' = σ:=by
  refine fn140.calls ?_;simp only[slots,ac140,z19_]
  repeat' (first
    | (refine gL_split (fun h=>?_) (fun h=>?_)<;>simp only[am,h,Nd.rec_,Nd.fl])
    | (refine vcIf_split (fun h=>?_) (fun h=>?_)<;>simp only[z20_,h,Nat.reduceAdd,Nat.reduceEqDiff,List.length_map])
    | (refine pickL_split (fun h=>?_) (fun h=>?_)<;>simp only[z20_,h,Nat.reduceAdd,Nat.reduceEqDiff,List.length_map])
    | (refine(label_is_calls _ n _ (Nat.le_refl _) hw).mono ?_;rintro v _ ⟨rfl,rfl⟩;simp only[am])
  )
  all_goals refine retS ?_
  all_goals simp_all [V.erase,Nd.atomQ]
  all_goals (try omega)
theorem field_is_calls (n:Nd) (σ:Store) (hw:n.wt≤big):PCalls prog 115 [.agg n.enc] σ fun v σ' => v = .bool n.fieldQ∧σ' = σ:=by
  refine fn115.calls ?_;simp only[slots,ac115,z19_];cases hks:n.kids with
  | nil =>
    repeat' (first
      | (refine gL_split (fun h=>?_) (fun h=>?_)<;>simp only[am,h,List.length_map,Nd.fl,hks,List.map_nil,List.length_nil,Int.natCast_zero,show decide ((0:Int)=1)=false from rfl])
      | (refine vcIf_split (fun h=>?_) (fun h=>?_)<;>simp only[z20_,h,Nat.reduceAdd,Nat.reduceEqDiff,List.length_map,hks,List.map_nil,List.length_nil,Int.natCast_zero,show decide ((0:Int)=1)=false from rfl])
      | (refine pickL_split (fun h=>?_) (fun h=>?_)<;>simp only[z20_,h,Nat.reduceAdd,Nat.reduceEqDiff,List.length_map,hks,List.map_nil,List.length_nil,Int.natCast_zero,show decide ((0:Int)=1)=false from rfl])
      | (refine(nright_calls n.text _).mono ?_;rintro v _ ⟨rfl,rfl⟩;simp only[am])
    )
    all_goals refine retS ?_
    all_goals simp_all [V.erase,Nd.fieldQ,headQ]
    all_goals (try omega)
  | cons m ms =>
    have hc:PCalls prog 140 [.agg m.enc] σ fun v σ' => v = .bool m.atomQ∧σ' = σ:=atom_is_calls m σ (by have:=kid_wt (n:=n) (m:=m) (by rw[hks];simp);omega)
    repeat' (first
      | (refine gL_split (fun h=>?_) (fun h=>?_)<;>simp only[am,h,List.length_map,Nd.fl,hks])
      | (refine vcIf_split (fun h=>?_) (fun h=>?_)<;>simp only[z20_,h,Nat.reduceAdd,Nat.reduceEqDiff,List.length_map,hks])
      | (refine pickL_split (fun h=>?_) (fun h=>?_)<;>simp only[z20_,h,Nat.reduceAdd,Nat.reduceEqDiff,List.length_map,hks])
      | (refine(nright_calls n.text _).mono ?_;rintro v _ ⟨rfl,rfl⟩;simp only[am])
      | (refine idxL_intro (by omega) (c:=m.enc) (by simp) ?_;simp only[am,Nd.rec_])
      | (refine hc.mono ?_;rintro v _ ⟨rfl,rfl⟩;simp only[am])
    )
    all_goals refine retS ?_
    all_goals simp_all [V.erase,Nd.fieldQ,headQ]
    all_goals (try omega)
theorem row_is_calls (n:Nd) (σ:Store) (hw:n.wt≤big):PCalls prog 89 [.agg n.enc] σ fun v σ' => v = .bool n.rowQ∧σ' = σ:=by
  have hn:=wt_names n;have hall:PCalls prog 94 [.sl .no 5 (n.kids.map Nd.enc),.fn (.func 115) [] []] σ fun v σ' => v = .bool (n.kids.all Nd.fieldQ)∧σ' = σ :=
    all_calls n.kids σ (by omega) fun m hm=>field_is_calls m σ (by have:=kid_wt hm;omega)
  refine fn89.calls ?_;simp only[slots,ac89,z19_]
  by_cases k10:n.kind=10
  · simp only[am,Nd.fl,decide_eq_true k10]
    repeat' (first
      | (refine gL_split (fun h=>?_) (fun h=>?_)<;>simp only[am,h,List.length_map,Nd.fl])
      | (refine vcIf_split (fun h=>?_) (fun h=>?_)<;>simp only[z20_,h,Nat.reduceAdd,Nat.reduceEqDiff,List.length_map])
      | (refine pickL_split (fun h=>?_) (fun h=>?_)<;>simp only[z20_,h,Nat.reduceAdd,Nat.reduceEqDiff,List.length_map])
      | (refine(rightW_calls n.names _ (by omega)).mono ?_;rintro v _ ⟨rfl,rfl⟩;simp only[am])
      | (refine hall.mono ?_;rintro v _ ⟨rfl,rfl⟩;simp only[am])
    )
    all_goals refine retS ?_
    all_goals simp_all [V.erase,Nd.rowQ]
    all_goals (try omega)
  · simp only[am,Nd.fl,decide_eq_false k10]
    repeat' (first
      | (refine gL_split (fun h=>?_) (fun h=>?_)<;>simp only[am,h,Nd.rec_])
      | (refine vcIf_split (fun h=>?_) (fun h=>?_)<;>simp only[z20_,h,Nat.reduceAdd,Nat.reduceEqDiff,List.length_map])
      | (refine pickL_split (fun h=>?_) (fun h=>?_)<;>simp only[z20_,h,Nat.reduceAdd,Nat.reduceEqDiff,List.length_map])
      | (refine(label_is_calls _ n _ (Nat.le_refl _) hw).mono ?_;rintro v _ ⟨rfl,rfl⟩;simp only[am])
    )
    all_goals refine retS ?_
    all_goals simp_all [V.erase,Nd.rowQ]
    all_goals (try omega)
end Go.Proofs.Tryz

namespace Go.Proofs.Tryz
open Go.Am
set_option maxRecDepth 4000
set_option maxHeartbeats 4000000
def ac64:AC:=.seq (.reg [⟨(some 2),.box 2 (.s 0),none⟩,⟨(some 3),.box 5 (.s 1),none⟩,⟨(some 4),.alloc elmZ,none⟩,⟨(some 5),.alloc [(.int .i64 0),(.int .i64 0)],none⟩])
 (.seq (.reg [⟨(some 6),.alloc elmZ,none⟩])
 (.seq (.reg [xl 2 13 2,xl 5 14 3,xc 96 15 [.s 13,.s 14],xm 12 15,xe 16 12 0,xe 17 12 1,xm 7 16,xm 8 17])
 (.seq (.seq (.reg [xm 18 8,⟨(some 19),.not (.s 18),none⟩,xm 20 19,xh 20 (xl 2 21 2),xh 20 (xc 97 22 [.s 21]),⟨(some 23),.not (.s 22),(some (20,false))⟩,⟨(some 24),.pick (.s 20) (.c (.bool true)) (.s 23),none⟩,xm 25 24,xh 25 (xl 5 26 3),xh 25 (xc 93 27 [.s 26]),⟨(some 28),.not (.s 27),(some (25,false))⟩,⟨(some 29),.pick (.s 25) (.c (.bool true)) (.s 28),none⟩])
 (.cond (.s 29) (.seq (.draw [(xl 8 30 6,[]),(xf 1 31 3,[]),(xo 32 31,[1]),(⟨(some 33),.build [(.int .i64 0),(.int .i64 0)] [(0,1,(.c (.int .i64 4))),(1,1,(.s 32))],none⟩,[]),(xs 8 4 30,[]),(xs 2 5 33,[])])
 (.ret))
 (.skip)))
 (.seq (.reg [⟨(some 34),.build [(.bool false),(.int .i64 0)] [],none⟩,⟨(some 35),.boxO 2 (.s 34),none⟩,xm 9 35])
 (.seq (.seq (.reg [xf 1 36 2,xo 37 36,xL 38 37,xi 39 0])
 (.block 0 (.loop (.seq (.reg [xb .lss 40 39 38])
 (.seq (.cond (.s 40) (.skip)
 (.exit 0))
 (.seq (.block 1 (.seq (.reg [xm 41 39,xA 67 42 37 39,xl 67 43 42,⟨(some 11),.alloc facZ,none⟩,xm 10 41,xs 67 11 43])
 (.draw [(xm 44 10,[]),(xm 45 9,[]),(xl 67 46 11,[]),(xm 47 7,[]),(xm 48 10,[]),(xA 5 49 47 48,[]),(xl 5 50 49,[]),(xc 98 51 [.s 45,.s 46,.s 50],[]),(⟨(some 52),.idxP 8 1 (.s 6) (.s 44),none⟩,[]),(xs 1 52 51,[])])))
 (.reg [xB .add 53 39 1,xm 39 53])))))))
 (.seq (.seq (.reg [xm 54 9,xk 55 54,xf 0 56 55,xo 57 56])
 (.cond (.s 57) (.seq (.draw [(⟨(some 58),.build elmZ [],none⟩,[]),(xm 59 9,[]),(xk 60 59,[]),(xf 1 61 60,[]),(xo 62 61,[1]),(⟨(some 63),.build [(.int .i64 0),(.int .i64 0)] [(0,1,(.c (.int .i64 4))),(1,1,(.s 62))],none⟩,[]),(xs 8 4 58,[]),(xs 2 5 63,[])])
 (.ret))
 (.skip)))
 (.seq (.reg [xl 8 64 6,⟨(some 65),.build [(.int .i64 0),(.int .i64 0)] [],none⟩,xs 8 4 64,xs 2 5 65])
 (.ret))))))))
theorem fn64:IsFn prog 64 ac64 [.cell 4 true 8,.cell 5 true 2] 66:=⟨f64,⟨[35],[],[]⟩,func64,by kernel_rfl,by kernel_rfl,by kernel_rfl,by kernel_rfl⟩
def ac96:AC:=.seq (.reg [⟨(some 2),.box 2 (.s 0),none⟩,⟨(some 3),.box 5 (.s 1),none⟩,⟨(some 4),.mv (.c (.sl .full 5 [])),none⟩,⟨(some 5),.mv (.c (.bool false)),none⟩])
 (.seq (.seq (.reg [xf 0 6 2,xo 7 6,⟨(some 8),.not (.s 7),none⟩])
 (.cond (.s 8) (.seq (.reg [xl 5 9 3,⟨(some 10),.bslice 5 [(.s 9)],none⟩,xm 4 10,⟨(some 5),.mv (.c (.bool true)),none⟩])
 (.ret))
 (.skip)))
 (.seq (.draw [(xf 4 11 3,[]),(xo 12 11,[]),(xf 0 13 3,[]),(xo 14 13,[]),(xB .eql 15 14 4,[]),(xm 16 15,[]),(xg 16 (xf 4 17 3),[]),(xg 16 (xo 18 17),[]),(xg 16 (xL 19 18),[]),(xg 16 (xf 1 20 2),[]),(xg 16 (xo 21 20),[]),(xg 16 (xL 22 21),[]),(xg 16 (xb .eql 23 19 22),[]),(⟨(some 24),.pick (.s 16) (.s 23) (.c (.bool false)),none⟩,[]),(xm 4 12,[]),(xm 5 24,[])])
 (.ret)))
theorem fn96:IsFn prog 96 ac96 [.tmp 4,.tmp 5] 25:=⟨f96,⟨[],[],[]⟩,func96,by kernel_rfl,by kernel_rfl,by kernel_rfl,by kernel_rfl⟩
def ac98:AC:=.seq (.reg [⟨(some 4),.box 67 (.s 1),none⟩,⟨(some 5),.box 5 (.s 2),none⟩,⟨(some 6),.mv (.c (.int .u64 0)),none⟩])
 (.seq (.seq (.draw [(xf 0 7 5,[]),(xo 8 7,[1]),(xl 67 9 4,[]),(xc 118 10 [.s 9],[]),(xb .neq 11 8 10,[])])
 (.cond (.s 11) (.seq (.reg [xm 12 0,xf 1 13 5,xo 14 13,xc 119 15 [.s 12,.s 14],xm 6 15])
 (.ret))
 (.skip)))
 (.seq (.seq (.reg [xf 0 16 4,xo 17 16])
 (.block 0 (.seq (.reg [xB .eql 19 17 2,xm 18 19])
 (.cond (.s 18) (.seq (.reg [xm 20 0,xf 1 21 4,xo 22 21,xf 3 23 5,xo 24 23,xc 120 25 [.s 20,.s 22,.s 24],xm 6 25])
 (.ret))
 (.seq (.reg [xB .eql 27 17 3,xm 26 27])
 (.cond (.s 26) (.seq (.reg [xm 28 0,xl 67 29 4,xl 5 30 5,xc 121 31 [.s 28,.s 29,.s 30],xm 6 31])
 (.ret))
 (.skip)))))))
 (.seq (.reg [xm 32 0,xl 67 33 4,xl 5 34 5,xc 122 35 [.s 32,.s 33,.s 34],xm 6 35])
 (.ret))))
theorem fn98:IsFn prog 98 ac98 [.tmp 6] 36:=⟨f98,⟨[],[],[]⟩,func98,by kernel_rfl,by kernel_rfl,by kernel_rfl,by kernel_rfl⟩
def ac118:AC:=.seq (.reg [⟨(some 1),.box 67 (.s 0),none⟩,xi 2 0])
 (.seq (.seq (.reg [xf 0 3 1,xo 4 3])
 (.block 0 (.seq (.reg [xB .eql 6 4 2,xm 5 6])
 (.cond (.s 5) (.seq (.reg [xi 2 3])
 (.ret))
 (.seq (.reg [xB .eql 8 4 3,xm 7 8])
 (.cond (.s 7) (.seq (.reg [xi 2 5])
 (.ret))
 (.skip)))))))
 (.seq (.reg [xi 2 2])
 (.ret)))
theorem fn118:IsFn prog 118 ac118 [.tmp 2] 9:=⟨f118,⟨[],[],[]⟩,func118,by kernel_rfl,by kernel_rfl,by kernel_rfl,by kernel_rfl⟩
def ac119:AC:=.seq (.reg [⟨(some 4),.mv (.c (.int .u64 0)),none⟩])
 (.seq (.seq (.reg [xm 5 0,xk 6 5,xf 0 7 6,xo 8 7,⟨(some 9),.not (.s 8),none⟩])
 (.cond (.s 9) (.reg [xm 10 0,xm 11 0,xm 12 1,xk 13 10,xf 0 14 13,⟨none,.store 1 (.s 14) (.c (.bool true)),none⟩,xk 15 11,xf 1 16 15,xs 1 16 12])
 (.skip)))
 (.seq (.reg [⟨(some 4),.mv (.c (.int .u64 0)),none⟩])
 (.ret)))
theorem fn119:IsFn prog 119 ac119 [.tmp 4] 17:=⟨f119,⟨[],[],[]⟩,func119,by kernel_rfl,by kernel_rfl,by kernel_rfl,by kernel_rfl⟩
def ac120:AC:=.seq (.reg [⟨(some 6),.mv (.c (.int .u64 0)),none⟩])
 (.seq (.reg [⟨(some 7),.mv (.c (.int .u64 0)),none⟩])
 (.seq (.seq (.reg [xm 11 2,xL 12 11,xi 13 0])
 (.block 0 (.loop (.seq (.reg [xb .lss 14 13 12])
 (.seq (.cond (.s 14) (.skip)
 (.exit 0))
 (.seq (.block 1 (.seq (.reg [xA 2 15 11 13,xl 2 16 15,⟨(some 9),.alloc [(.str []),(.int .i64 0)],none⟩,xs 2 9 16])
 (.seq (.reg [xm 17 1,xf 0 18 9,xo 19 18,xc 85 20 [.s 17,.s 19],xm 10 20])
 (.seq (.seq (.reg [xm 21 10,xB .lss 22 21 0])
 (.cond (.s 22) (.seq (.reg [xm 23 0,xf 1 24 9,xo 25 24,xc 119 26 [.s 23,.s 25],xm 6 26])
 (.ret))
 (.skip)))
 (.reg [xm 27 7,xm 28 10,xc 145 29 [.s 27,.s 28],xm 7 29])))))
 (.reg [xB .add 30 13 1,xm 13 30])))))))
 (.seq (.reg [xm 31 7,xm 6 31])
 (.ret))))
theorem fn120:IsFn prog 120 ac120 [.tmp 6] 32:=⟨f120,⟨[],[],[]⟩,func120,by kernel_rfl,by kernel_rfl,by kernel_rfl,by kernel_rfl⟩
def ac121:AC:=.seq (.reg [⟨(some 4),.box 67 (.s 1),none⟩,⟨(some 5),.box 5 (.s 2),none⟩,⟨(some 6),.mv (.c (.int .u64 0)),none⟩])
 (.seq (.reg [⟨(some 7),.mv (.c (.int .u64 0)),none⟩])
 (.seq (.seq (.reg [xf 4 11 5,xo 12 11,xL 13 12,xi 14 0])
 (.block 0 (.loop (.seq (.reg [xb .lss 15 14 13])
 (.seq (.cond (.s 15) (.skip)
 (.exit 0))
 (.seq (.block 1 (.seq (.reg [xA 5 16 12 14,xl 5 17 16,⟨(some 9),.alloc [(.int .i64 0),(.int .i64 0),(.str []),(.sl .full 2 []),(.sl .full 5 [])],none⟩,xs 5 9 17])
 (.seq (.reg [xf 1 18 4,xo 19 18,xf 2 20 9,xo 21 20,xc 85 22 [.s 19,.s 21],xm 10 22])
 (.seq (.seq (.reg [xm 23 10,xB .lss 24 23 0])
 (.cond (.s 24) (.seq (.reg [xm 25 0,xf 1 26 9,xo 27 26,xc 119 28 [.s 25,.s 27],xm 6 28])
 (.ret))
 (.skip)))
 (.draw [(xm 29 7,[]),(xf 2 30 4,[]),(xl 65 31 30,[1]),(xm 32 10,[]),(xm 33 0,[]),(xf 1 34 4,[]),(xo 35 34,[]),(xf 3 36 9,[]),(xo 37 36,[]),(xc 120 38 [.s 33,.s 35,.s 37],[]),(xc 146 39 [.s 31,.s 32,.s 38],[]),(xb .or 40 29 39,[]),(xm 7 40,[])])))))
 (.reg [xB .add 41 14 1,xm 14 41])))))))
 (.seq (.reg [xm 42 7,xm 6 42])
 (.ret))))
theorem fn121:IsFn prog 121 ac121 [.tmp 6] 43:=⟨f121,⟨[],[],[]⟩,func121,by kernel_rfl,by kernel_rfl,by kernel_rfl,by kernel_rfl⟩
def ac122:AC:=.seq (.reg [⟨(some 4),.box 67 (.s 1),none⟩,⟨(some 5),.box 5 (.s 2),none⟩,⟨(some 6),.mv (.c (.int .u64 0)),none⟩])
 (.seq (.reg [xf 1 10 4,xo 11 10,xf 2 12 5,xo 13 12,xc 85 14 [.s 11,.s 13],xm 7 14])
 (.seq (.seq (.reg [xm 15 7,xB .lss 16 15 0])
 (.cond (.s 16) (.seq (.reg [xm 17 0,xf 1 18 5,xo 19 18,xc 119 20 [.s 17,.s 19],xm 6 20])
 (.ret))
 (.skip)))
 (.seq (.seq (.reg [xf 0 21 4,xo 22 21,xB .eql 23 22 4])
 (.cond (.s 23) (.seq (.reg [xf 2 24 4,xl 65 25 24,xm 26 7,xc 147 27 [.s 25,.s 26],xm 6 27])
 (.ret))
 (.skip)))
 (.seq (.reg [xf 1 29 4,xo 30 29,xL 31 30,xm 32 7,xc 148 33 [.s 31,.s 32],xm 28 33,xe 34 28 0,xe 35 28 1,xm 8 34,xm 9 35])
 (.seq (.reg [xm 36 8,xm 6 36])
 (.ret))))))
theorem fn122:IsFn prog 122 ac122 [.tmp 6] 37:=⟨f122,⟨[],[],[]⟩,func122,by kernel_rfl,by kernel_rfl,by kernel_rfl,by kernel_rfl⟩
abbrev BB (σ:Store) (b:Nat) (o:Option Int):Prop:=σ.box b=some (badV o)
theorem tz_set {σ:Store} {b:Nat} {o:Option Int} {c:List V} (hg:TZ σ) (h:BB σ b o):TZ (σ.set b c):=hg
theorem spfail_calls (b:Nat) (o:Option Int) (p:Int) {σ:Store} (h:BB σ b o):PCalls prog 119 [.ptr (.out b) 0,.int .i64 p] σ fun v σ' => v = .int .u64 ((0#64:B64).toNat:Nat)∧σ' = σ.set b (badV (o.or (some p))):=by
  refine fn119.calls ?_;simp only[slots,ac119,am,ams,Nat.reduceAdd,w_zero];cases o with
  | none =>
    simp only[am,show σ.box b=some [.bool false,.int .i64 0] from h];exact retK_intro rfl (Store.sub_refl _) ⟨rfl,rfl⟩
  | some q =>
    have e:σ.set b (badV ((some q).or (some p)))=σ:=Store.set_id h;simp only[am,show σ.box b=some [.bool true,.int .i64 q] from h];rw[e];exact retK_intro rfl (Store.sub_refl _) ⟨rfl,rfl⟩
theorem plcF_step {l:List (List UInt8)} {w:Word} {ws:List Word} {s:B64} {k:Nat} (h:findS l w.text=some k):plcF l s (w::ws)=plcF l (withB s (k:Nat)) ws:=by simp only[plcF,h]
theorem plcF_fail {l:List (List UInt8)} {w:Word} {ws:List Word} {s:B64} (h:findS l w.text=none):plcF l s (w::ws)=(0#64,some w.pos):=by simp only[plcF,h]
theorem spplaces_calls (b:Nat) (o:Option Int) (l:List (List UInt8)) (ws:List Word) {σ:Store} (h:BB σ b o) (hl:l.length≤100000) (hw:ws.length≤1000000000) :
    PCalls prog 120 [.ptr (.out b) 0,.sl .no 1 (sCells l),.sl .no 2 (ws.map Word.enc)] σ fun v σ' => v = .int .u64 ((plcF l 0#64 ws).1.toNat:Nat)∧σ' = σ.set b (badV (o.or (plcF l 0#64 ws).2)):=by
  refine fn120.calls ?_;simp only[slots,ac120,am,ams,Nat.reduceAdd,w_zero,List.length_map];obtain⟨F,hF⟩:∃F:Nat→B64→St,∀i x,F i x=⟨[.ptr (.out b) 0,.sl .no 1 (sCells l),.any,.any,.any,.any,.any,.int .u64 (x.toNat:Nat),.any,.any,.any,.sl .no 2 (ws.map Word.enc),.int .i64 (ws.length:Nat),.int .i64 (i:Nat)]++List.replicate 18 .any,[],σ⟩:=⟨_,fun _ _=>rfl⟩;obtain⟨JF,hJF⟩:∃JF:Nat→B64→Prop,∀i x,JF i x=(plcF l 0#64 ws=plcF l x (ws.drop i)):=⟨_,fun _ _=>rfl⟩;refine vc_count (ws.length) F JF _ hJF ?_ ?_ ?_
  · refine ent (0#64) ?_ ?_ ?_ ?_
    · exact Eq.mpr (hJF _ _) (rfl)
    all_goals simp[hF,List.replicate,am,lle_self]
  · rintro i x hi hJ;rw[List.drop_eq_getElem_cons hi] at hJ;simp only[hF,List.replicate,am,dlt hi];refine idxL_intro (by omega) (wencs_at (List.getElem?_eq_getElem hi)) ?_;simp only[am,Nat.reduceAdd,Word.enc];refine cl (find_calls l ws[i].text σ hl) ?_;simp only[am,optI_neg];cases hf:findS l ws[i].text with
    | none =>
      rw[plcF_fail hf] at hJ;simp only[am,Option.isNone_none];refine(spfail_calls b o ws[i].pos h).mono ?_;rintro v σ' ⟨rfl,rfl⟩;simp only[am,aml];exact retK_intro rfl (Store.sub_refl _) ⟨by rw[hJ];rfl,by rw[hJ]⟩
    | some k =>
      rw[plcF_step hf] at hJ;simp only[am,Option.isNone_some,optI];refine cl (mask_with_calls x (k:Nat) σ) ?_;simp only[am,aml,winc hi (by omega)];refine nxtD (withB x (k:Nat)) hi ?_ ?_ ?_ ?_ ?_ ?_
      · exact Eq.mpr (hJF _ _) (hJ)
      all_goals simp[hF,List.replicate,am,lle_self,loL,loLL,V.lo]
  · rintro x hJ;rw[List.drop_length] at hJ;have e:σ.set b (badV (o.or (plcF l 0#64 ws).2))=σ:=by rw[hJ];simp only[plcF,Option.or_none];exact Store.set_id h
    simp only[hF,List.replicate,am,aml,dnl,aml];rw[e,hJ];refine retS ?_;simp[V.erase,plcF]
def z21_:=And.intro @am <| And.intro @ams <| And.intro @w_zero <| And.intro @Fct.rec_ <| And.intro @Nd.rec_ @Nd.fl
def z22_:=And.intro @am <| And.intro @aml <| And.intro @w_or @Fct.rec_
theorem rules_calls (b:Nat) (o:Option Int) (f:Fct) (n:Nd) {σ:Store} (h:BB σ b o) (hg:TZ σ) (hl:f.names.length≤100000) (hk:n.kids.length≤1000000000) (hw:∀k∈n.kids,k.names.length≤1000000000) :
    PCalls prog 121 [.ptr (.out b) 0,.agg f.enc,.agg n.enc] σ fun v σ' => v = .int .u64 ((rulP f 0#64 o n.kids).1.toNat:Nat)∧σ' = σ.set b (badV (rulP f 0#64 o n.kids).2):=by
  refine fn121.calls ?_;simp only[slots,ac121,z21_,Nat.reduceAdd,List.length_map];have hid:σ.set b (badV o)=σ:=Store.set_id h;obtain⟨F,hF⟩:∃F:Nat→B64 × Option Int→St,∀i x,F i x=⟨[.ptr (.out b) 0,.any,.any,.any,.ptr (.loc 0) 0,.ptr (.loc 1) 0,.any,.int .u64 (x.1.toNat:Nat),.any,.any,.any,.any,.sl .no 5 (n.kids.map Nd.enc),.int .i64 (n.kids.length:Nat),.int .i64 (i:Nat)]++List.replicate 28 .any,[f.enc,n.enc],σ.set b (badV x.2)⟩:=⟨_,fun _ _=>rfl⟩;obtain⟨JF,hJF⟩:∃JF:Nat→B64 × Option Int→Prop,∀i x,JF i x=(rulP f 0#64 o n.kids=rulP f x.1 x.2 (n.kids.drop i)):=⟨_,fun _ _=>rfl⟩;refine vc_count (n.kids.length) F JF _ hJF ?_ ?_ ?_
  · refine ent ((0#64,o)) ?_ ?_ ?_ ?_
    · exact Eq.mpr (hJF _ _) (rfl)
    all_goals simp[hF,List.replicate,am,lle_self,hid]
  · rintro i ⟨x,o'⟩ hi hJ;rw[List.drop_eq_getElem_cons hi] at hJ;simp only at hJ;have h1:BB (σ.set b (badV o')) b o' := set_box;simp only[hF,List.replicate,am,dlt hi];refine idxL_intro (by omega) (nencs_at (List.getElem?_eq_getElem hi)) ?_;simp only[z21_,Nat.reduceAdd];refine(find_calls f.names n.kids[i].text _ hl).mono ?_;rintro v σ1 ⟨rfl,rfl⟩;simp only[am,optI_neg];cases hf:findS f.names n.kids[i].text with
    | none =>
      simp only[rulP,hf] at hJ;simp only[am,Nd.fl,Option.isNone_none];refine(spfail_calls b o' n.kids[i].pos h1).mono ?_;rintro v σ' ⟨rfl,rfl⟩;simp only[am,aml];exact retK_intro rfl (Store.sub_refl _) ⟨by rw[hJ];rfl,by rw[hJ]⟩
    | some k =>
      simp only[rulP,hf] at hJ;simp only[am,Fct.rec_,Nd.fl,Option.isNone_some,optI];refine CallD.intro (spplaces_calls b o' f.names n.kids[i].names h1 hl (hw _ (List.getElem_mem hi))) ?_;simp only[am,Rl.rec_];refine CallD.intro (grule_calls f.rel k (plcF f.names 0#64 n.kids[i].names).1 (tz_set hg h)) ?_;simp only[z22_,winc hi (by omega)];refine nxtD ((x|||ruleG f.rel k (plcF f.names 0#64 n.kids[i].names).1,o'.or (plcF f.names 0#64 n.kids[i].names).2)) hi ?_ ?_ ?_ ?_ ?_ ?_
      · exact Eq.mpr (hJF _ _) (hJ)
      all_goals simp[hF,List.replicate,am,lle_self,loL,loLL,V.lo,Fct.r_lo,Nd.r_lo]
  · rintro⟨x,o'⟩ hJ;rw[List.drop_length] at hJ;simp only[hF,List.replicate,am,aml,dnl,aml];rw[hJ];refine retS ?_;simp[V.erase,rulP]
theorem point_calls11 (b:Nat) (o:Option Int) (f:Fct) (n:Nd) {σ:Store} (h:BB σ b o) (hl:f.names.length≤100000) :
    PCalls prog 122 [.ptr (.out b) 0,.agg f.enc,.agg n.enc] σ fun v σ' => v = .int .u64 ((ptF f n).1.toNat:Nat)∧σ' = σ.set b (badV (o.or (ptF f n).2)):=by
  refine fn122.calls ?_;simp only[slots,ac122,z21_,Nat.reduceAdd];refine cl (find_calls f.names n.text _ hl) ?_;simp only[am,optI_neg];cases hf:findS f.names n.text with
  | none =>
    simp only[am,Nd.fl,Option.isNone_none];refine(spfail_calls b o n.pos h).mono ?_;rintro v σ' ⟨rfl,rfl⟩;simp only[am];exact retK_intro rfl (Store.sub_refl _) ⟨by simp only[ptF,hf];rfl,by simp only[ptF,hf]⟩
  | some k =>
    have e:σ.set b (badV (o.or (ptF f n).2))=σ:=by simp only[ptF,hf,Option.or_none];exact Store.set_id h
    rw[e];simp only[am,Fct.rec_,Option.isNone_some,optI]
    by_cases h4:f.kind=4
    · simp only[am,Rl.rec_,Fct.rec_,decide_eq_true h4];refine cl (hword_calls f.rel k σ) ?_;simp only[am];refine retS ?_;simp[V.erase,ptF,hf,h4]
    · simp only[am,Fct.rec_,sCells_len,decide_eq_false h4];refine cl (rword_calls f.names.length k σ) ?_;simp only[am,wTup];refine retS ?_;simp[V.erase,ptF,hf,h4]
theorem kind_calls (f:Fct) (σ:Store):PCalls prog 118 [.agg f.enc] σ fun v σ' => v = .int .i64 (kindF f)∧σ' = σ:=by
  refine fn118.calls ?_;simp only[slots,ac118,am,ams,Fct.rec_]
  by_cases h2:f.kind=2
  · simp only[am,decide_eq_true h2];refine retS ?_;simp[V.erase,kindF,h2]
  · simp only[am,decide_eq_false h2]
    by_cases h3:f.kind=3
    · simp only[am,decide_eq_true h3];refine retS ?_;simp[V.erase,kindF,h3]
    · simp only[am,decide_eq_false h3];refine retS ?_;simp[V.erase,kindF,h2,h3]
theorem word_calls11 (b:Nat) (o:Option Int) (f:Fct) (n:Nd) {σ:Store} (h:BB σ b o) (hg:TZ σ) (hl:f.names.length≤100000) (hk:n.names.length≤1000000000∧n.kids.length≤1000000000) (hw:∀k∈n.kids,k.names.length≤1000000000) :
    PCalls prog 98 [.ptr (.out b) 0,.agg f.enc,.agg n.enc] σ fun v σ' => v = .int .u64 ((wrdP f n o).1.toNat:Nat)∧σ' = σ.set b (badV (wrdP f n o).2):=by
  refine fn98.calls ?_;simp only[slots,ac98,z21_,Nat.reduceAdd];refine CallD.intro (kind_calls f σ) ?_;simp only[am,Nd.fl]
  by_cases hq:n.kind=kindF f
  · simp only[am,Fct.rec_,decide_eq_true hq]
    by_cases h2:f.kind=2
    · have e:wrdP f n o=((plcF f.names 0#64 n.names).1,o.or (plcF f.names 0#64 n.names).2):=by rw[wrdP,if_pos hq,if_pos h2]
      simp only[am,Fct.rec_,Nd.fl,decide_eq_true h2];refine(spplaces_calls b o f.names n.names h hl hk.1).mono ?_;rintro v σ' ⟨rfl,rfl⟩;simp only[am];exact retK_intro rfl (Store.sub_refl _) ⟨by rw[e];rfl,by rw[e]⟩
    · simp only[am,decide_eq_false h2]
      by_cases h3:f.kind=3
      · have e:wrdP f n o=rulP f 0#64 o n.kids:=by rw[wrdP,if_pos hq,if_neg h2,if_pos h3]
        simp only[am,Fct.rec_,Nd.rec_,decide_eq_true h3];refine(rules_calls b o f n h hg hl hk.2 hw).mono ?_;rintro v σ' ⟨rfl,rfl⟩;simp only[am];exact retK_intro rfl (Store.sub_refl _) ⟨by rw[e];rfl,by rw[e]⟩
      · have e:wrdP f n o=((ptF f n).1,o.or (ptF f n).2):=by rw[wrdP,if_pos hq,if_neg h2,if_neg h3]
        simp only[am,Fct.rec_,Nd.rec_,decide_eq_false h3];refine(point_calls11 b o f n h hl).mono ?_;rintro v σ' ⟨rfl,rfl⟩;simp only[am];exact retK_intro rfl (Store.sub_refl _) ⟨by rw[e];rfl,by rw[e]⟩
  · have e:wrdP f n o=(0#64,o.or (some n.pos)):=by rw[wrdP,if_neg hq]
    simp only[am,Nd.fl,decide_eq_false hq];refine(spfail_calls b o n.pos h).mono ?_;rintro v σ' ⟨rfl,rfl⟩;simp only[am];exact retK_intro rfl (Store.sub_refl _) ⟨by rw[e];rfl,by rw[e]⟩
def z23_:=And.intro @am <| And.intro @ams <| And.intro @Shp.rec_ @Nd.rec_
theorem parts_calls (s:Shp) (n:Nd) (σ:Store):PCalls prog 96 [.agg s.enc,.agg n.enc] σ fun v σ' => v = .tup [.sl .no 5 ((partsF s n).map Nd.enc),.bool (partsQ s n)]∧σ' = σ:=by
  refine fn96.calls ?_;simp only[slots,ac96,z23_,Nat.reduceAdd];cases ht:s.tuple with
  | false =>
    simp only[am,Nd.rec_];refine retS ?_;simp[V.erase,eraseL,partsF,partsQ,ht]
  | true =>
    simp only[am,Nd.fl]
    by_cases h4:n.kind=4
    · simp only[am,List.length_map,Shp.rec_,Nd.fl,List.length_map,decide_eq_true h4]
      by_cases hl:n.kids.length=s.facs.length
      · simp only[decide_eq_true (show (n.kids.length:Int)=s.facs.length by omega)];refine retS ?_;simp[V.erase,eraseL,partsF,partsQ,ht,h4,hl]
      · simp only[decide_eq_false (show ¬(n.kids.length:Int)=s.facs.length by omega)];refine retS ?_;simp[V.erase,eraseL,partsF,partsQ,ht,h4,hl]
    · simp only[am,decide_eq_false h4];refine retS ?_;simp[V.erase,eraseL,partsF,partsQ,ht,h4]
def Nd.ok (n:Nd):Prop:=n.names.length≤1000000000∧n.kids.length≤1000000000∧∀k∈n.kids,k.names.length≤1000000000
theorem elemF_no {s:Shp} {n:Nd} (h:(partsQ s n&&shpR s&&n.constQ)=false):elemF s n=(.zero,some n.pos):=by rw[elemF,h];rfl
theorem elemF_go {s:Shp} {n:Nd} (h1:partsQ s n=true) (h2:shpR s=true) (h3:n.constQ=true):elemF s n=elmGo s (partsF s n):=by rw[elemF,h1,h2,h3];rfl
theorem shpR_len {s:Shp} (h:shpR s=true):1≤s.facs.length∧s.facs.length≤8∧(s.tuple=false→s.facs.length=1):=by
  simp only[shpR,Bool.and_eq_true,decide_eq_true_eq,Bool.or_eq_true] at h;refine⟨h.1.1.1,h.1.1.2,fun ht=>?_⟩
  rcases h.1.2 with h | h
  · rw[ht] at h;simp at h
  · exact h
theorem parts_len {s:Shp} {n:Nd} (h1:partsQ s n=true) (h2:shpR s=true):(partsF s n).length=s.facs.length:=by
  have hl:=(shpR_len h2).2.2;unfold partsF;unfold partsQ at h1;cases ht:s.tuple with
  | false=>simp[hl ht]
  | true=>rw[ht] at h1;simpa using And.right (by simpa using h1)
def z24_:=And.intro @am <| And.intro @ams <| And.intro @Shp.rec_ <| And.intro @Elm.rec_ @Nd.rec_
theorem elem_calls (s:Shp) (n:Nd) {σ:Store} (hg:TZ σ) (hok:s.ok) (hn:∀k∈partsF s n,Nd.ok k) (hwt:n.wt≤big) :
    PCalls prog 64 [.agg s.enc,.agg n.enc] σ fun v σ' => v = .tup [.agg (elemF s n).1.enc,.agg (fltV (elemF s n).2)]∧σ' = σ:=by
  refine fn64.calls ?_;simp only[slots,ac64,z24_,Nat.reduceAdd];refine cl (parts_calls s n σ) ?_;simp only[am];have done:∀(e:Elm × Option Int) (t:List V) (l:List (List V)) (σ1:Store),e=elemF s n→σ.sub σ1→RetK (fun v σ' => v=V.tup [.agg (elemF s n).1.enc,.agg (fltV (elemF s n).2)]∧σ' = σ) ⟨t,l,σ1⟩ (.tup [.agg e.1.enc,.agg (fltV e.2)]):=fun e t l σ1 he hs=>by
    subst he;exact retK_intro (by simp[V.nol,nolL,Elm.r_nol,fltV]) hs ⟨by simp[V.erase,eraseL,Elm.r_er,fltV],rfl⟩
  cases hp:partsQ s n with
  | false =>
    simp only[am,Nat.reduceAdd,Elm.rec_,Nd.fl];exact done (.zero,some n.pos) _ _ _ (elemF_no (by rw[hp];rfl)).symm (Store.sub_refl _)
  | true =>
    simp only[am,Shp.rec_];refine cl (shright_calls s hg hok) ?_;cases hr:shpR s with
    | false =>
      simp only[am,Nat.reduceAdd,Elm.rec_,Nd.fl];exact done (.zero,some n.pos) _ _ _ (elemF_no (by rw[hp,hr];rfl)).symm (Store.sub_refl _)
    | true =>
      simp only[am,Nd.rec_];refine cl (const_is_calls _ n σ (Nat.le_refl _) hwt) ?_;cases hc:n.constQ with
      | false =>
        simp only[am,Nat.reduceAdd,Elm.rec_,Nd.fl];exact done (.zero,some n.pos) _ _ _ (elemF_no (by rw[hp,hr,hc];rfl)).symm (Store.sub_refl _)
      | true =>
        have hgo:=elemF_go hp hr hc;obtain⟨hl1,hl8,_⟩:=shpR_len hr;have hpl:=parts_len hp hr;simp only[am,Nat.reduceAdd];refine kO_intro fun b hb=>?_
        have hs:∀c,σ.sub (σ.set b c):=fun c=>sub_set hb
        have hgb:∀c,TZ (σ.set b c):=fun c=>(hs c).2.2 _ _ hg
        simp only[am,List.length_map,Shp.rec_,List.length_map];obtain⟨F,hF⟩:∃F:Nat→Elm × Option Int→St,∀i x,F i x=⟨[.any,.any,.any,.any,.ptr (.loc 2) 0,.ptr (.loc 3) 0,.ptr (.loc 4) 0,.sl .no 5 ((partsF s n).map Nd.enc),.any,.ptr (.out b) 0,.any,.any,.any,.any,.any,.any,.any,.any,.any,.any,.any,.any,.any,.any,.any,.any,.any,.any,.any,.any,.any,.any,.any,.any,.any,.any,.any,.sl .no 67 (s.facs.map Fct.enc),.int .i64 (s.facs.length:Nat),.int .i64 (i:Nat)]++List.replicate 26 .any,[s.enc,n.enc,Elm.zero.enc,[.int .i64 0,.int .i64 0],x.1.enc],σ.set b (badV x.2)⟩:=⟨_,fun _ _=>rfl⟩;obtain⟨JF,hJF⟩:∃JF:Nat→Elm × Option Int→Prop,∀i x,JF i x=(goI s (partsF s n) i x):=⟨_,fun _ _=>rfl⟩;refine vc_count (s.facs.length) F JF _ hJF ?_ ?_ ?_
        · refine ent ((.zero,none)) ?_ ?_ ?_ ?_
          · exact Eq.mpr (hJF _ _) (goI_zero)
          all_goals simp[hF,List.replicate,am,lle_self,badV]
        · rintro i ⟨e,o⟩ hi hJ;have hip:i<(partsF s n).length:=by omega
          have h8:i<8:=by omega
          have hst:=goI_step hJ;rw[getD_at hi,getD_at hip] at hst;have hnd:=hn _ (List.getElem_mem hip);simp only[hF,List.replicate,am,dlt hi];refine idxL_intro (by omega) (facs_at hi) ?_;simp only[am,Nat.reduceAdd,Fct.rec_];refine idxL_intro (by omega) (nencs_at (List.getElem?_eq_getElem hip)) ?_;simp only[am,Fct.rec_,Nd.rec_];refine CallD.intro (word_calls11 b o s.facs[i] (partsF s n)[i] set_box (hgb _) (hok.2 _ (List.getElem_mem hi)) ⟨hnd.1,hnd.2.1⟩ hnd.2.2) ?_;simp only[am,amc];refine idxPL_ptr (by omega) (by omega) ?_;simp only[z8_,Elm.u_has h8,Elm.u_st h8,winc hi (by omega)];refine nxtD ((e.put i (wrdP s.facs[i] (partsF s n)[i] o).1,(wrdP s.facs[i] (partsF s n)[i] o).2)) hi ?_ ?_ ?_ ?_ ?_ ?_
          · exact Eq.mpr (hJF _ _) (hst)
          all_goals simp[hF,List.replicate,am,lle_self,loL,loLL,V.lo,Nd.r_lo,Shp.r_lo,Elm.r_lo]
        · rintro⟨e,o⟩ hJ;have hend:=goI_end hJ;rw[←hgo] at hend;simp only[hF,List.replicate,am,aml,dnl,aml,badV];cases o with
          | some p =>
            simp only[am,Nat.reduceAdd,Elm.rec_,Option.isSome_some,Option.getD_some];exact done (.zero,some p) _ _ _ (by rw[hend];rfl) (hs _)
          | none =>
            simp only[am,Nat.reduceAdd,Elm.rec_,Option.isSome_none];exact done (e,none) _ _ _ (by rw[hend];rfl) (hs _)
end Go.Proofs.Tryz
