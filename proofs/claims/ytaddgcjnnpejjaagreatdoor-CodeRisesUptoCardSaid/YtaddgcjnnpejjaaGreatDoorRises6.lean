/-
  For every right scope, every label of one of its lattices and every two rows of elements of that lattice as the variables' values, greater values never make less of the label, and a variable that the label's code does not name makes no difference (CodeRises); on condition that what comes in is of a bulk of at most 1048576 and that the listed variable of math/bits is as its own initialiser lays it.
-/
import Derived.Test.YtaddgcjnnpejjaaGreatDoorProg
import Derived.ProofKit
import Derived.OpenShut
import Derived.JoinedCond
import Derived.ChangeStays
import Derived.ReadAgain
import Derived.Deep.DeepHandedRow
import Derived.Lib.LaidTab
import Derived.Stop.LaidErr
import Derived.Test.YtaddgcjnnpejjaaGreatDoorCards
import Derived.Test.YtaddgcjnnpejjaaGreatDoorTie
import Derived.Test.YtaddgcjnnpejjaaGreatDoorRises5
set_option linter.unusedVariables false
set_option linter.unusedSimpArgs false
set_option linter.defProp false
set_option linter.unusedSectionVars false

namespace Go.Proofs.Tryz
open Go.Am
set_option maxRecDepth 4000
set_option maxHeartbeats 4000000
def ac24:AC:=.seq (.reg [⟨(some 1),.box 5 (.s 0),none⟩,⟨(some 2),.mv (.c (.bool false)),none⟩])
 (.seq (.seq (.reg [xf 0 3 1,xo 4 3])
 (.block 0 (.seq (.reg [xB .eql 6 4 1,xm 5 6])
 (.cond (.s 5) (.seq (.reg [xl 5 7 1,xc 37 8 [.s 7],xm 2 8])
 (.ret))
 (.seq (.reg [xB .eql 10 4 7,xm 9 10])
 (.cond (.s 9) (.seq (.reg [xl 5 11 1,xc 38 12 [.s 11],xm 13 12,xg 13 (xf 4 14 1),xg 13 (xo 15 14),xg 13 (xL 16 15),xg 13 (xB .eql 17 16 1),⟨(some 18),.pick (.s 13) (.s 17) (.c (.bool false)),none⟩,xm 19 18,xg 19 (xf 4 20 1),xg 19 (xo 21 20),⟨(some 22),.idxA 5 (.s 21) (.c (.int .i64 0)),(some (19,true))⟩,xg 19 (xl 5 23 22),xg 19 (xc 39 24 [.s 23]),⟨(some 25),.pick (.s 19) (.s 24) (.c (.bool false)),none⟩,xm 2 25])
 (.ret))
 (.seq (.seq (.reg [xB .eql 27 4 8,xm 26 27])
 (.cond (.s 26) (.skip)
 (.reg [xB .eql 28 4 9,xm 26 28])))
 (.cond (.s 26) (.seq (.reg [xl 5 29 1,xc 38 30 [.s 29],xm 31 30,xg 31 (xf 4 32 1),xg 31 (xo 33 32),xg 31 (xL 34 33),xg 31 (xB .gtr 35 34 0),⟨(some 36),.pick (.s 31) (.s 35) (.c (.bool false)),none⟩,xm 37 36,xg 37 (xf 4 38 1),xg 37 (xo 39 38),xg 37 (xc 40 40 [.s 39,.c (.fn (.func 24) [] [])]),⟨(some 41),.pick (.s 37) (.s 40) (.c (.bool false)),none⟩,xm 2 41])
 (.ret))
 (.skip)))))))))
 (.seq (.reg [⟨(some 2),.mv (.c (.bool false)),none⟩])
 (.ret)))
theorem fn24:IsFn prog 24 ac24 [.tmp 2] 42:=⟨f24,⟨[],[],[]⟩,func24,by kernel_rfl,by kernel_rfl,by kernel_rfl,by kernel_rfl⟩
def ac37:AC:=.seq (.reg [⟨(some 1),.box 5 (.s 0),none⟩,⟨(some 2),.mv (.c (.bool false)),none⟩])
 (.seq (.reg [xf 2 3 1,xo 4 3,xc 58 5 [.s 4],xm 6 5,xg 6 (xf 3 7 1),xg 6 (xo 8 7),xg 6 (xL 9 8),xg 6 (xf 4 10 1),xg 6 (xo 11 10),xg 6 (xL 12 11),xg 6 (xb .add 13 9 12),xg 6 (xB .eql 14 13 0),⟨(some 15),.pick (.s 6) (.s 14) (.c (.bool false)),none⟩,xm 2 15])
 (.ret))
theorem fn37:IsFn prog 37 ac37 [.tmp 2] 16:=⟨f37,⟨[],[],[]⟩,func37,by kernel_rfl,by kernel_rfl,by kernel_rfl,by kernel_rfl⟩
def ac38:AC:=.seq (.reg [⟨(some 1),.box 5 (.s 0),none⟩,⟨(some 2),.mv (.c (.bool false)),none⟩])
 (.seq (.reg [xf 2 3 1,xo 4 3,⟨(some 5),.binS .eql (.s 4) (.c (.str [])),none⟩,xm 6 5,xg 6 (xf 3 7 1),xg 6 (xo 8 7),xg 6 (xL 9 8),xg 6 (xB .eql 10 9 0),⟨(some 11),.pick (.s 6) (.s 10) (.c (.bool false)),none⟩,xm 2 11])
 (.ret))
theorem fn38:IsFn prog 38 ac38 [.tmp 2] 12:=⟨f38,⟨[],[],[]⟩,func38,by kernel_rfl,by kernel_rfl,by kernel_rfl,by kernel_rfl⟩
def ac39:AC:=.seq (.reg [⟨(some 1),.box 5 (.s 0),none⟩,⟨(some 2),.mv (.c (.bool false)),none⟩])
 (.seq (.seq (.reg [xf 0 3 1,xo 4 3])
 (.block 0 (.seq (.reg [xB .eql 6 4 2,xm 5 6])
 (.cond (.s 5) (.seq (.reg [xl 5 7 1,xc 37 8 [.s 7],xm 2 8])
 (.ret))
 (.seq (.reg [xB .eql 10 4 3,xm 9 10])
 (.cond (.s 9) (.seq (.reg [xf 2 11 1,xo 12 11,⟨(some 13),.binS .eql (.s 12) (.c (.str [])),none⟩,xm 14 13,xg 14 (xf 3 15 1),xg 14 (xo 16 15),xg 14 (xc 59 17 [.s 16]),⟨(some 18),.pick (.s 14) (.s 17) (.c (.bool false)),none⟩,xm 19 18,xg 19 (xf 4 20 1),xg 19 (xo 21 20),xg 19 (xL 22 21),xg 19 (xB .eql 23 22 0),⟨(some 24),.pick (.s 19) (.s 23) (.c (.bool false)),none⟩,xm 2 24])
 (.ret))
 (.seq (.reg [xB .eql 26 4 4,xm 25 26])
 (.cond (.s 25) (.seq (.reg [xl 5 27 1,xc 38 28 [.s 27],xm 29 28,xg 29 (xf 4 30 1),xg 29 (xo 31 30),xg 29 (xL 32 31),xg 29 (xB .gtr 33 32 0),⟨(some 34),.pick (.s 29) (.s 33) (.c (.bool false)),none⟩,xm 35 34,xg 35 (xf 4 36 1),xg 35 (xo 37 36),xg 35 (xc 40 38 [.s 37,.c (.fn (.func 39) [] [])]),⟨(some 39),.pick (.s 35) (.s 38) (.c (.bool false)),none⟩,xm 2 39])
 (.ret))
 (.seq (.reg [xB .eql 41 4 5,xm 40 41])
 (.cond (.s 40) (.seq (.reg [xl 5 42 1,xc 38 43 [.s 42],xm 44 43,xg 44 (xf 4 45 1),xg 44 (xo 46 45),xg 44 (xc 40 47 [.s 46,.c (.fn (.func 60) [] [])]),⟨(some 48),.pick (.s 44) (.s 47) (.c (.bool false)),none⟩,xm 2 48])
 (.ret))
 (.skip)))))))))))
 (.seq (.reg [⟨(some 2),.mv (.c (.bool false)),none⟩])
 (.ret)))
theorem fn39:IsFn prog 39 ac39 [.tmp 2] 49:=⟨f39,⟨[],[],[]⟩,func39,by kernel_rfl,by kernel_rfl,by kernel_rfl,by kernel_rfl⟩
def ac40:AC:=.seq (.reg [⟨(some 4),.mv (.c (.bool false)),none⟩])
 (.seq (.seq (.reg [xm 7 0,xL 8 7,xi 9 0])
 (.block 0 (.loop (.seq (.reg [xb .lss 10 9 8])
 (.seq (.cond (.s 10) (.skip)
 (.exit 0))
 (.seq (.block 1 (.seq (.reg [xA 5 11 7 9,xl 5 12 11,⟨(some 6),.alloc [(.int .i64 0),(.int .i64 0),(.str []),(.sl .full 2 []),(.sl .full 5 [])],none⟩,xs 5 6 12])
 (.seq (.reg [xm 13 1,xl 5 14 6,⟨(some 15),.callv (.s 13) [(.s 14)],none⟩,⟨(some 16),.not (.s 15),none⟩])
 (.cond (.s 16) (.seq (.reg [⟨(some 4),.mv (.c (.bool false)),none⟩])
 (.ret))
 (.skip)))))
 (.reg [xB .add 17 9 1,xm 9 17])))))))
 (.seq (.reg [⟨(some 4),.mv (.c (.bool true)),none⟩])
 (.ret)))
theorem fn40:IsFn prog 40 ac40 [.tmp 4] 18:=⟨f40,⟨[],[],[]⟩,func40,by kernel_rfl,by kernel_rfl,by kernel_rfl,by kernel_rfl⟩
def ac59:AC:=.seq (.reg [⟨(some 2),.mv (.c (.bool false)),none⟩])
 (.seq (.seq (.reg [xm 5 0,xL 6 5,xi 7 0])
 (.block 0 (.loop (.seq (.reg [xb .lss 8 7 6])
 (.seq (.cond (.s 8) (.skip)
 (.exit 0))
 (.seq (.block 1 (.seq (.reg [xA 2 9 5 7,xl 2 10 9,⟨(some 4),.alloc [(.str []),(.int .i64 0)],none⟩,xs 2 4 10])
 (.seq (.reg [xf 0 11 4,xo 12 11,xc 58 13 [.s 12],⟨(some 14),.not (.s 13),none⟩])
 (.cond (.s 14) (.seq (.reg [⟨(some 2),.mv (.c (.bool false)),none⟩])
 (.ret))
 (.skip)))))
 (.reg [xB .add 15 7 1,xm 7 15])))))))
 (.seq (.reg [⟨(some 2),.mv (.c (.bool true)),none⟩])
 (.ret)))
theorem fn59:IsFn prog 59 ac59 [.tmp 2] 16:=⟨f59,⟨[],[],[]⟩,func59,by kernel_rfl,by kernel_rfl,by kernel_rfl,by kernel_rfl⟩
def ac60:AC:=.seq (.reg [⟨(some 1),.box 5 (.s 0),none⟩,⟨(some 2),.mv (.c (.bool false)),none⟩])
 (.seq (.reg [xf 0 3 1,xo 4 3,xB .eql 5 4 6,xm 6 5,xg 6 (xf 2 7 1),xg 6 (xo 8 7),xg 6 (xc 58 9 [.s 8]),⟨(some 10),.pick (.s 6) (.s 9) (.c (.bool false)),none⟩,xm 11 10,xg 11 (xf 3 12 1),xg 11 (xo 13 12),xg 11 (xc 59 14 [.s 13]),⟨(some 15),.pick (.s 11) (.s 14) (.c (.bool false)),none⟩,xm 16 15,xg 16 (xf 4 17 1),xg 16 (xo 18 17),xg 16 (xL 19 18),xg 16 (xB .eql 20 19 0),⟨(some 21),.pick (.s 16) (.s 20) (.c (.bool false)),none⟩,xm 2 21])
 (.ret))
theorem fn60:IsFn prog 60 ac60 [.tmp 2] 22:=⟨f60,⟨[],[],[]⟩,func60,by kernel_rfl,by kernel_rfl,by kernel_rfl,by kernel_rfl⟩
theorem all_take {α:Type} {l:List α} {i:Nat} {f:α→Bool} (h:i<l.length):(l.take (i+1)).all f=((l.take i).all f&&f l[i]):=by
  rw[take_succ_of (List.getElem?_eq_getElem h),List.all_append];simp only[List.all_cons,List.all_nil,Bool.and_true]
theorem all_no {α:Type} {l:List α} {i:Nat} {f:α→Bool} (h:i<l.length) (hf:f l[i]=false):l.all f=false:=by
  rw[List.all_eq_false];exact⟨l[i],List.getElem_mem h,by simp[hf]⟩
def inv40 (l:List Word) (σ:Store) (i:Nat):St :=
  ⟨[.sl .no 2 (l.map Word.enc)]++List.replicate 4 .any++[.sl .no 2 (l.map Word.enc),.int .i64 l.length,.int .i64 (i:Nat)]++List.replicate 8 .any,[],σ⟩
theorem rightW_calls (l:List Word) (σ:Store) (hb:l.length≤big):PCalls prog 59 [.sl .no 2 (l.map Word.enc)] σ fun v σ' => v = .bool (rightW l)∧σ' = σ:=by
  simp only[big] at hb;refine fn59.calls ?_;simp only[slots,ac59,am,ams];refine vc_loop (fun p:{i:Nat // i≤l.length∧(l.take i).all (fun w=>nameR w.text)=true}=>inv40 l σ p.1) (fun p=>l.length - p.1) ?_ ?_
  · refine Upd.enter ⟨0,by simp,by simp⟩ ?_ LLLe.rfl OLe.rfl;simp[inv40,List.replicate,am]
  · rintro⟨i,hi,ha⟩;simp only[inv40,List.replicate,am];refine vcIf_split ?_ ?_
    · intro hlt;have hlt:i<l.length:=by simpa using hlt
      simp only[am];refine idxL_intro (by omega) (wencs_at (List.getElem?_eq_getElem hlt)) ?_;simp only[am,Nat.reduceAdd,Word.enc];refine cl (right_calls l[i].text σ) ?_;cases hg:nameR l[i].text
      · simp only[am];refine retK_intro rfl (Store.sub_refl _) ⟨?_,rfl⟩;rw[show rightW l=false from all_no (f:=fun (w:Word)=>nameR w.text) hlt hg];rfl
      · simp only[am];rw[wrap_i64 (by omega) (by omega)];exact Upd.againD ⟨i+1,hlt,by rw[all_take hlt,ha,hg];rfl⟩ (by simp;omega) (by simp[am]) (by simp[am]) OLe.rfl rfl rfl
    · intro hlt;have hlt:i=l.length:=by simp at hlt;omega
      subst hlt;rw[List.take_length] at ha;simp only[am];refine retS ?_;simp[V.erase,rightW,ha]
def inv42 (g:FuncId) (l:List Nd) (σ:Store) (i:Nat):St :=
  ⟨[.sl .no 5 (l.map Nd.enc),.fn (.func g) [] []]++List.replicate 5 .any++[.sl .no 5 (l.map Nd.enc),.int .i64 l.length,.int .i64 (i:Nat)]++List.replicate 8 .any,[],σ⟩
theorem all_calls {g:FuncId} {f:Nd→Bool} (l:List Nd) (σ:Store) (hb:l.length≤big) (h:∀n∈l,PCalls prog g [.agg n.enc] σ fun v σ' => v = .bool (f n)∧σ' = σ):PCalls prog 40 [.sl .no 5 (l.map Nd.enc),.fn (.func g) [] []] σ fun v σ' => v = .bool (l.all f)∧σ' = σ:=by
  simp only[big] at hb;refine fn40.calls ?_;simp only[slots,ac40,am,ams,Nat.reduceAdd];refine vc_loop (fun p:{i:Nat // i≤l.length∧(l.take i).all f=true}=>inv42 g l σ p.1) (fun p=>l.length - p.1) ?_ ?_
  · refine Upd.enter ⟨0,by simp,by simp⟩ ?_ LLLe.rfl OLe.rfl;simp[inv42,List.replicate,am]
  · rintro⟨i,hi,ha⟩;simp only[inv42,List.replicate,am];refine vcIf_split ?_ ?_
    · intro hlt;have hlt:i<l.length:=by simpa using hlt
      simp only[am];refine idxL_intro (by omega) (nencs_at (List.getElem?_eq_getElem hlt)) ?_;simp only[am,Nd.rec_];refine cl (h l[i] (List.getElem_mem hlt)) ?_;cases hg:f l[i]
      · simp only[am];refine retS ?_;simp[V.erase,all_no hlt hg]
      · simp only[am];rw[wrap_i64 (by omega) (by omega)];exact Upd.againD ⟨i+1,hlt,by rw[all_take hlt,ha,hg];rfl⟩ (by simp;omega) (by simp[am]) (by simp[am]) OLe.rfl rfl rfl
    · intro hlt;have hlt:i=l.length:=by simp at hlt;omega
      subst hlt;rw[List.take_length] at ha;simp only[am];refine retS ?_;simp[V.erase,ha]
def z26_:=And.intro @am <| And.intro @ams <| And.intro @Nd.rec_ @Nd.fl
def z27_:=And.intro @am <| And.intro @amo <| And.intro @amc <| And.intro @encs_length <| And.intro @decide_true <| And.intro @decide_false <| And.intro @Tree.rec_ <| And.intro @Nd.rec_ <| And.intro @Word.rec_ <| And.intro @Got.rec_ @Nd.fl
theorem leaf_calls (n:Nd) (σ:Store) (hb:n.names.length+n.kids.length≤big):PCalls prog 37 [.agg n.enc] σ fun v σ' => v = .bool n.leafQ∧σ' = σ:=by
  simp only[big] at hb;refine fn37.calls ?_;simp only[slots,ac37,z26_];refine cl (right_calls n.text σ) ?_;simp only[am]
  repeat' (first
    | (refine gL_split (fun h=>?_) (fun h=>?_)<;>simp only[am,h,List.length_map,Nd.fl,wrap_i64 (x:=(n.names.length:Int)+n.kids.length) (by omega) (by omega)])
    | (refine vcIf_split (fun h=>?_) (fun h=>?_)<;>simp only[z27_,h,Nat.reduceAdd,Nat.reduceEqDiff,List.length_map,wrap_i64 (x:=(n.names.length:Int)+n.kids.length) (by omega) (by omega)])
    | (refine pickL_split (fun h=>?_) (fun h=>?_)<;>simp only[z27_,h,Nat.reduceAdd,Nat.reduceEqDiff,List.length_map,wrap_i64 (x:=(n.names.length:Int)+n.kids.length) (by omega) (by omega)])
  )
  all_goals refine retS ?_
  all_goals simp_all [V.erase,Nd.leafQ]
  all_goals (try omega)
theorem bare_calls (n:Nd) (σ:Store):PCalls prog 38 [.agg n.enc] σ fun v σ' => v = .bool n.bareQ∧σ' = σ:=by
  refine fn38.calls ?_;simp only[slots,ac38,z26_]
  repeat' (first
    | (refine gL_split (fun h=>?_) (fun h=>?_)<;>simp only[am,h,List.length_map,Nd.fl])
    | (refine vcIf_split (fun h=>?_) (fun h=>?_)<;>simp only[z27_,h,Nat.reduceAdd,Nat.reduceEqDiff,List.length_map])
    | (refine pickL_split (fun h=>?_) (fun h=>?_)<;>simp only[z27_,h,Nat.reduceAdd,Nat.reduceEqDiff,List.length_map])
  )
  all_goals refine retS ?_
  all_goals simp_all [V.erase,Nd.bareQ]
  all_goals (try omega)
theorem wt_names (n:Nd):n.names.length+n.kids.length+4≤n.wt:=by
  have h2:n.names.length≤wsum n.names:=by
    unfold wsum;generalize n.names=l;induction l with
    | nil=>simp
    | cons w ws ih=>simp only[List.map_cons,List.sum_cons,List.length_cons];omega
  have h3:n.kids.length≤wts n.kids:=by
    rw[wts_map];generalize n.kids=l;induction l with
    | nil=>simp
    | cons w ws ih=>simp only[List.map_cons,List.sum_cons,List.length_cons];omega
  have h1:wts n.kids+wsum n.names+4≤n.wt:=by cases n;simp only[Nd.wt,Nd.kids,Nd.names];omega
  omega
theorem rule_is_calls (n:Nd) (σ:Store) (hw:n.wt≤big):PCalls prog 60 [.agg n.enc] σ fun v σ' => v = .bool n.ruleQ∧σ' = σ:=by
  have hn:=wt_names n;refine fn60.calls ?_;simp only[slots,ac60,z26_]
  repeat' (first
    | (refine gL_split (fun h=>?_) (fun h=>?_)<;>simp only[am,h,List.length_map,Nd.fl])
    | (refine vcIf_split (fun h=>?_) (fun h=>?_)<;>simp only[z27_,h,Nat.reduceAdd,Nat.reduceEqDiff,List.length_map])
    | (refine pickL_split (fun h=>?_) (fun h=>?_)<;>simp only[z27_,h,Nat.reduceAdd,Nat.reduceEqDiff,List.length_map])
    | (refine(right_calls n.text σ).mono ?_;rintro v _ ⟨rfl,rfl⟩;simp only[am])
    | (refine(rightW_calls n.names _ (by omega)).mono ?_;rintro v _ ⟨rfl,rfl⟩;simp only[am])
  )
  all_goals refine retS ?_
  all_goals simp_all [V.erase,Nd.ruleQ]
  all_goals (try omega)
theorem const_is_calls:∀(k:Nat) (n:Nd) (σ:Store),n.wt≤k→n.wt≤big→PCalls prog 39 [.agg n.enc] σ fun v σ' => v = .bool n.constQ∧σ' = σ:=by
  intro k;induction k with
  | zero=>intro n σ h _;cases n;simp only[Nd.wt] at h;omega
  | succ k ihk =>
    intro n σ hk hw;have hn:=wt_names n;have hkid:∀m∈n.kids,m.wt+5≤n.wt:=fun m hm=>by
      have h1:=wt_mem hm;have h2:wts n.kids+4≤n.wt:=by cases n;simp only[Nd.wt,Nd.kids];omega
      omega
    have hall:PCalls prog 40 [.sl .no 5 (n.kids.map Nd.enc),.fn (.func 39) [] []] σ fun v σ' => v = .bool (n.kids.all Nd.constQ)∧σ' = σ :=
      all_calls n.kids σ (by omega) fun m hm=>ihk m σ (by have:=hkid m hm;omega) (by have:=hkid m hm;omega)
    have hrule:PCalls prog 40 [.sl .no 5 (n.kids.map Nd.enc),.fn (.func 60) [] []] σ fun v σ' => v = .bool (n.kids.all Nd.ruleQ)∧σ' = σ :=
      all_calls n.kids σ (by omega) fun m hm=>rule_is_calls m σ (by have:=hkid m hm;omega)
    rw[Nd.constQ_eq];refine fn39.calls ?_;simp only[slots,ac39,z26_]
    by_cases k2:n.kind=2
    · simp only[am,Nd.rec_,decide_eq_true k2];refine cl (leaf_calls n σ (by omega)) ?_;simp only[am];refine retS ?_;simp[V.erase,k2]
    simp only[am,decide_eq_false k2]
    by_cases k3:n.kind=3
    · simp only[am,Nd.fl,decide_eq_true k3]
      repeat' (first
        | (refine gL_split (fun h=>?_) (fun h=>?_)<;>simp only[am,h,List.length_map,Nd.fl])
        | (refine vcIf_split (fun h=>?_) (fun h=>?_)<;>simp only[z27_,h,Nat.reduceAdd,Nat.reduceEqDiff,List.length_map])
        | (refine pickL_split (fun h=>?_) (fun h=>?_)<;>simp only[z27_,h,Nat.reduceAdd,Nat.reduceEqDiff,List.length_map])
        | (refine(rightW_calls n.names _ (by omega)).mono ?_;rintro v _ ⟨rfl,rfl⟩;simp only[am])
      )
      all_goals refine retS ?_
      all_goals simp_all [V.erase]
      all_goals (try omega)
    simp only[am,decide_eq_false k3]
    by_cases k4:n.kind=4
    · simp only[am,Nd.rec_,decide_eq_true k4];refine cl (bare_calls n σ) ?_;simp only[am]
      repeat' (first
        | (refine gL_split (fun h=>?_) (fun h=>?_)<;>simp only[am,h,List.length_map,Nd.fl])
        | (refine vcIf_split (fun h=>?_) (fun h=>?_)<;>simp only[z27_,h,Nat.reduceAdd,Nat.reduceEqDiff,List.length_map])
        | (refine pickL_split (fun h=>?_) (fun h=>?_)<;>simp only[z27_,h,Nat.reduceAdd,Nat.reduceEqDiff,List.length_map])
        | (refine hall.mono ?_;rintro v _ ⟨rfl,rfl⟩;simp only[am])
      )
      all_goals refine retS ?_
      all_goals simp_all [V.erase]
      all_goals (try omega)
    simp only[am,decide_eq_false k4]
    by_cases k5:n.kind=5
    · simp only[am,Nd.rec_,decide_eq_true k5];refine cl (bare_calls n σ) ?_;simp only[am]
      repeat' (first
        | (refine gL_split (fun h=>?_) (fun h=>?_)<;>simp only[am,h,Nd.fl])
        | (refine vcIf_split (fun h=>?_) (fun h=>?_)<;>simp only[z27_,h,Nat.reduceAdd,Nat.reduceEqDiff,List.length_map])
        | (refine pickL_split (fun h=>?_) (fun h=>?_)<;>simp only[z27_,h,Nat.reduceAdd,Nat.reduceEqDiff,List.length_map])
        | (refine hrule.mono ?_;rintro v _ ⟨rfl,rfl⟩;simp only[am])
      )
      all_goals refine retS ?_
      all_goals simp_all [V.erase]
      all_goals (try omega)
    simp only[am,decide_eq_false k5];refine retS ?_;simp[V.erase,k2,k3,k4,k5]
theorem kid_wt {n m:Nd} (hm:m∈n.kids):m.wt+5≤n.wt:=by
  have h1:=wt_mem hm;have h2:wts n.kids+4≤n.wt:=by cases n;simp only[Nd.wt,Nd.kids];omega
  omega
theorem label_is_calls:∀(k:Nat) (n:Nd) (σ:Store),n.wt≤k→n.wt≤big→PCalls prog 24 [.agg n.enc] σ fun v σ' => v = .bool n.labelQ∧σ' = σ:=by
  intro k;induction k with
  | zero=>intro n σ h _;cases n;simp only[Nd.wt] at h;omega
  | succ k ihk =>
    intro n σ hk hw;have hn:=wt_names n;have hall:PCalls prog 40 [.sl .no 5 (n.kids.map Nd.enc),.fn (.func 24) [] []] σ fun v σ' => v = .bool (n.kids.all Nd.labelQ)∧σ' = σ :=
      all_calls n.kids σ (by omega) fun m hm=>ihk m σ (by have:=kid_wt hm;omega) (by have:=kid_wt hm;omega)
    rw[Nd.labelQ_eq];refine fn24.calls ?_;simp only[slots,ac24,z26_]
    by_cases k1:n.kind=1
    · simp only[am,Nd.rec_,decide_eq_true k1];refine cl (leaf_calls n σ (by omega)) ?_;simp only[am];refine retS ?_;simp[V.erase,k1]
    simp only[am,decide_eq_false k1]
    by_cases k7:n.kind=7
    · simp only[am,Nd.rec_,decide_eq_true k7];refine cl (bare_calls n σ) ?_;simp only[am];cases hks:n.kids with
      | nil =>
        simp only[am,List.length_nil,Int.natCast_zero,show decide ((0:Int)=1)=false from rfl]
        repeat' (first
          | (refine gL_split (fun h=>?_) (fun h=>?_)<;>simp only[am,h,Nd.fl,hks,List.map_nil,List.length_nil,Int.natCast_zero,show decide ((0:Int)=1)=false from rfl])
          | (refine vcIf_split (fun h=>?_) (fun h=>?_)<;>simp only[z27_,h,Nat.reduceAdd,Nat.reduceEqDiff,List.length_map,hks,List.map_nil,List.length_nil,Int.natCast_zero,show decide ((0:Int)=1)=false from rfl])
          | (refine pickL_split (fun h=>?_) (fun h=>?_)<;>simp only[z27_,h,Nat.reduceAdd,Nat.reduceEqDiff,List.length_map,hks,List.map_nil,List.length_nil,Int.natCast_zero,show decide ((0:Int)=1)=false from rfl])
        )
        all_goals refine retS ?_
        all_goals simp_all [V.erase]
        all_goals (try omega)
      | cons m ms =>
        have hc:PCalls prog 39 [.agg m.enc] σ fun v σ' => v = .bool m.constQ∧σ' = σ:=const_is_calls _ m σ (Nat.le_refl _) (by have:=kid_wt (n:=n) (m:=m) (by rw[hks];simp);omega)
        repeat' (first
          | (refine gL_split (fun h=>?_) (fun h=>?_)<;>simp only[am,h,List.length_map,Nd.fl,hks])
          | (refine vcIf_split (fun h=>?_) (fun h=>?_)<;>simp only[z27_,h,Nat.reduceAdd,Nat.reduceEqDiff,List.length_map,hks])
          | (refine pickL_split (fun h=>?_) (fun h=>?_)<;>simp only[z27_,h,Nat.reduceAdd,Nat.reduceEqDiff,List.length_map,hks])
          | (refine idxL_intro (by omega) (c:=m.enc) (by simp) ?_;simp only[am,Nd.rec_])
          | (refine hc.mono ?_;rintro v _ ⟨rfl,rfl⟩;simp only[am])
        )
        all_goals refine retS ?_
        all_goals simp_all [V.erase,headQ]
        all_goals (try omega)
    simp only[am,decide_eq_false k7]
    by_cases k8:n.kind=8
    case' pos =>
      simp only[am,Nd.rec_,decide_eq_true k8]
    case' neg =>
      simp only[am,decide_eq_false k8]
      by_cases k9:n.kind=9
      case' pos =>
        simp only[am,Nd.rec_,decide_eq_true k9]
      case' neg =>
        simp only[am,decide_eq_false k9];refine retS ?_;simp[V.erase,k1,k7,k8,k9]
    all_goals
      refine cl (bare_calls n σ) ?_;simp only[am]
      repeat' (first
        | (refine gL_split (fun h=>?_) (fun h=>?_)<;>simp only[am,h,List.length_map,Nd.fl])
        | (refine vcIf_split (fun h=>?_) (fun h=>?_)<;>simp only[z27_,h,Nat.reduceAdd,Nat.reduceEqDiff,List.length_map])
        | (refine pickL_split (fun h=>?_) (fun h=>?_)<;>simp only[z27_,h,Nat.reduceAdd,Nat.reduceEqDiff,List.length_map])
        | (refine hall.mono ?_;rintro v _ ⟨rfl,rfl⟩;simp only[am])
      )
      all_goals refine retS ?_
      all_goals simp_all [V.erase]
      all_goals (try omega)
end Go.Proofs.Tryz

namespace Go.Proofs.Tryz
open Go.Am
set_option maxRecDepth 4000
set_option maxHeartbeats 4000000
def ac42:AC:=.seq (.reg [⟨(some 2),.box 2 (.s 0),none⟩,⟨(some 3),.box 5 (.s 1),none⟩,⟨(some 4),.alloc elmZ,none⟩,⟨(some 5),.alloc [(.int .i64 0),(.int .i64 0)],none⟩])
 (.seq (.reg [⟨(some 6),.alloc elmZ,none⟩])
 (.seq (.reg [xl 2 13 2,xl 5 14 3,xc 62 15 [.s 13,.s 14],xm 12 15,xe 16 12 0,xe 17 12 1,xm 7 16,xm 8 17])
 (.seq (.seq (.reg [xm 18 8,⟨(some 19),.not (.s 18),none⟩,xm 20 19,xh 20 (xl 2 21 2),xh 20 (xc 63 22 [.s 21]),⟨(some 23),.not (.s 22),(some (20,false))⟩,⟨(some 24),.pick (.s 20) (.c (.bool true)) (.s 23),none⟩,xm 25 24,xh 25 (xl 5 26 3),xh 25 (xc 39 27 [.s 26]),⟨(some 28),.not (.s 27),(some (25,false))⟩,⟨(some 29),.pick (.s 25) (.c (.bool true)) (.s 28),none⟩])
 (.cond (.s 29) (.seq (.draw [(xl 8 30 6,[]),(xf 1 31 3,[]),(xo 32 31,[1]),(⟨(some 33),.build [(.int .i64 0),(.int .i64 0)] [(0,1,(.c (.int .i64 4))),(1,1,(.s 32))],none⟩,[]),(xs 8 4 30,[]),(xs 2 5 33,[])])
 (.ret))
 (.skip)))
 (.seq (.reg [⟨(some 34),.build [(.bool false),(.int .i64 0)] [],none⟩,⟨(some 35),.boxO 2 (.s 34),none⟩,xm 9 35])
 (.seq (.seq (.reg [xf 1 36 2,xo 37 36,xL 38 37,xi 39 0])
 (.block 0 (.loop (.seq (.reg [xb .lss 40 39 38])
 (.seq (.cond (.s 40) (.skip)
 (.exit 0))
 (.seq (.block 1 (.seq (.reg [xm 41 39,xA 67 42 37 39,xl 67 43 42,⟨(some 11),.alloc facZ,none⟩,xm 10 41,xs 67 11 43])
 (.draw [(xm 44 10,[]),(xm 45 9,[]),(xl 67 46 11,[]),(xm 47 7,[]),(xm 48 10,[]),(xA 5 49 47 48,[]),(xl 5 50 49,[]),(xc 64 51 [.s 45,.s 46,.s 50],[]),(⟨(some 52),.idxP 8 1 (.s 6) (.s 44),none⟩,[]),(xs 1 52 51,[])])))
 (.reg [xB .add 53 39 1,xm 39 53])))))))
 (.seq (.seq (.reg [xm 54 9,xk 55 54,xf 0 56 55,xo 57 56])
 (.cond (.s 57) (.seq (.draw [(⟨(some 58),.build elmZ [],none⟩,[]),(xm 59 9,[]),(xk 60 59,[]),(xf 1 61 60,[]),(xo 62 61,[1]),(⟨(some 63),.build [(.int .i64 0),(.int .i64 0)] [(0,1,(.c (.int .i64 4))),(1,1,(.s 62))],none⟩,[]),(xs 8 4 58,[]),(xs 2 5 63,[])])
 (.ret))
 (.skip)))
 (.seq (.reg [xl 8 64 6,⟨(some 65),.build [(.int .i64 0),(.int .i64 0)] [],none⟩,xs 8 4 64,xs 2 5 65])
 (.ret))))))))
theorem fn42:IsFn prog 42 ac42 [.cell 4 true 8,.cell 5 true 2] 66:=⟨f42,⟨[35],[],[]⟩,func42,by kernel_rfl,by kernel_rfl,by kernel_rfl,by kernel_rfl⟩
def ac62:AC:=.seq (.reg [⟨(some 2),.box 2 (.s 0),none⟩,⟨(some 3),.box 5 (.s 1),none⟩,⟨(some 4),.mv (.c (.sl .full 5 [])),none⟩,⟨(some 5),.mv (.c (.bool false)),none⟩])
 (.seq (.seq (.reg [xf 0 6 2,xo 7 6,⟨(some 8),.not (.s 7),none⟩])
 (.cond (.s 8) (.seq (.reg [xl 5 9 3,⟨(some 10),.bslice 5 [(.s 9)],none⟩,xm 4 10,⟨(some 5),.mv (.c (.bool true)),none⟩])
 (.ret))
 (.skip)))
 (.seq (.draw [(xf 4 11 3,[]),(xo 12 11,[]),(xf 0 13 3,[]),(xo 14 13,[]),(xB .eql 15 14 4,[]),(xm 16 15,[]),(xg 16 (xf 4 17 3),[]),(xg 16 (xo 18 17),[]),(xg 16 (xL 19 18),[]),(xg 16 (xf 1 20 2),[]),(xg 16 (xo 21 20),[]),(xg 16 (xL 22 21),[]),(xg 16 (xb .eql 23 19 22),[]),(⟨(some 24),.pick (.s 16) (.s 23) (.c (.bool false)),none⟩,[]),(xm 4 12,[]),(xm 5 24,[])])
 (.ret)))
theorem fn62:IsFn prog 62 ac62 [.tmp 4,.tmp 5] 25:=⟨f62,⟨[],[],[]⟩,func62,by kernel_rfl,by kernel_rfl,by kernel_rfl,by kernel_rfl⟩
def ac64:AC:=.seq (.reg [⟨(some 4),.box 67 (.s 1),none⟩,⟨(some 5),.box 5 (.s 2),none⟩,⟨(some 6),.mv (.c (.int .u64 0)),none⟩])
 (.seq (.seq (.draw [(xf 0 7 5,[]),(xo 8 7,[1]),(xl 67 9 4,[]),(xc 78 10 [.s 9],[]),(xb .neq 11 8 10,[])])
 (.cond (.s 11) (.seq (.reg [xm 12 0,xf 1 13 5,xo 14 13,xc 79 15 [.s 12,.s 14],xm 6 15])
 (.ret))
 (.skip)))
 (.seq (.seq (.reg [xf 0 16 4,xo 17 16])
 (.block 0 (.seq (.reg [xB .eql 19 17 2,xm 18 19])
 (.cond (.s 18) (.seq (.reg [xm 20 0,xf 1 21 4,xo 22 21,xf 3 23 5,xo 24 23,xc 80 25 [.s 20,.s 22,.s 24],xm 6 25])
 (.ret))
 (.seq (.reg [xB .eql 27 17 3,xm 26 27])
 (.cond (.s 26) (.seq (.reg [xm 28 0,xl 67 29 4,xl 5 30 5,xc 81 31 [.s 28,.s 29,.s 30],xm 6 31])
 (.ret))
 (.skip)))))))
 (.seq (.reg [xm 32 0,xl 67 33 4,xl 5 34 5,xc 82 35 [.s 32,.s 33,.s 34],xm 6 35])
 (.ret))))
theorem fn64:IsFn prog 64 ac64 [.tmp 6] 36:=⟨f64,⟨[],[],[]⟩,func64,by kernel_rfl,by kernel_rfl,by kernel_rfl,by kernel_rfl⟩
def ac78:AC:=.seq (.reg [⟨(some 1),.box 67 (.s 0),none⟩,xi 2 0])
 (.seq (.seq (.reg [xf 0 3 1,xo 4 3])
 (.block 0 (.seq (.reg [xB .eql 6 4 2,xm 5 6])
 (.cond (.s 5) (.seq (.reg [xi 2 3])
 (.ret))
 (.seq (.reg [xB .eql 8 4 3,xm 7 8])
 (.cond (.s 7) (.seq (.reg [xi 2 5])
 (.ret))
 (.skip)))))))
 (.seq (.reg [xi 2 2])
 (.ret)))
theorem fn78:IsFn prog 78 ac78 [.tmp 2] 9:=⟨f78,⟨[],[],[]⟩,func78,by kernel_rfl,by kernel_rfl,by kernel_rfl,by kernel_rfl⟩
def ac79:AC:=.seq (.reg [⟨(some 4),.mv (.c (.int .u64 0)),none⟩])
 (.seq (.seq (.reg [xm 5 0,xk 6 5,xf 0 7 6,xo 8 7,⟨(some 9),.not (.s 8),none⟩])
 (.cond (.s 9) (.reg [xm 10 0,xm 11 0,xm 12 1,xk 13 10,xf 0 14 13,⟨none,.store 1 (.s 14) (.c (.bool true)),none⟩,xk 15 11,xf 1 16 15,xs 1 16 12])
 (.skip)))
 (.seq (.reg [⟨(some 4),.mv (.c (.int .u64 0)),none⟩])
 (.ret)))
theorem fn79:IsFn prog 79 ac79 [.tmp 4] 17:=⟨f79,⟨[],[],[]⟩,func79,by kernel_rfl,by kernel_rfl,by kernel_rfl,by kernel_rfl⟩
def ac80:AC:=.seq (.reg [⟨(some 6),.mv (.c (.int .u64 0)),none⟩])
 (.seq (.reg [⟨(some 7),.mv (.c (.int .u64 0)),none⟩])
 (.seq (.seq (.reg [xm 11 2,xL 12 11,xi 13 0])
 (.block 0 (.loop (.seq (.reg [xb .lss 14 13 12])
 (.seq (.cond (.s 14) (.skip)
 (.exit 0))
 (.seq (.block 1 (.seq (.reg [xA 2 15 11 13,xl 2 16 15,⟨(some 9),.alloc [(.str []),(.int .i64 0)],none⟩,xs 2 9 16])
 (.seq (.reg [xm 17 1,xf 0 18 9,xo 19 18,xc 95 20 [.s 17,.s 19],xm 10 20])
 (.seq (.seq (.reg [xm 21 10,xB .lss 22 21 0])
 (.cond (.s 22) (.seq (.reg [xm 23 0,xf 1 24 9,xo 25 24,xc 79 26 [.s 23,.s 25],xm 6 26])
 (.ret))
 (.skip)))
 (.reg [xm 27 7,xm 28 10,xc 96 29 [.s 27,.s 28],xm 7 29])))))
 (.reg [xB .add 30 13 1,xm 13 30])))))))
 (.seq (.reg [xm 31 7,xm 6 31])
 (.ret))))
theorem fn80:IsFn prog 80 ac80 [.tmp 6] 32:=⟨f80,⟨[],[],[]⟩,func80,by kernel_rfl,by kernel_rfl,by kernel_rfl,by kernel_rfl⟩
def ac81:AC:=.seq (.reg [⟨(some 4),.box 67 (.s 1),none⟩,⟨(some 5),.box 5 (.s 2),none⟩,⟨(some 6),.mv (.c (.int .u64 0)),none⟩])
 (.seq (.reg [⟨(some 7),.mv (.c (.int .u64 0)),none⟩])
 (.seq (.seq (.reg [xf 4 11 5,xo 12 11,xL 13 12,xi 14 0])
 (.block 0 (.loop (.seq (.reg [xb .lss 15 14 13])
 (.seq (.cond (.s 15) (.skip)
 (.exit 0))
 (.seq (.block 1 (.seq (.reg [xA 5 16 12 14,xl 5 17 16,⟨(some 9),.alloc [(.int .i64 0),(.int .i64 0),(.str []),(.sl .full 2 []),(.sl .full 5 [])],none⟩,xs 5 9 17])
 (.seq (.reg [xf 1 18 4,xo 19 18,xf 2 20 9,xo 21 20,xc 95 22 [.s 19,.s 21],xm 10 22])
 (.seq (.seq (.reg [xm 23 10,xB .lss 24 23 0])
 (.cond (.s 24) (.seq (.reg [xm 25 0,xf 1 26 9,xo 27 26,xc 79 28 [.s 25,.s 27],xm 6 28])
 (.ret))
 (.skip)))
 (.draw [(xm 29 7,[]),(xf 2 30 4,[]),(xl 65 31 30,[1]),(xm 32 10,[]),(xm 33 0,[]),(xf 1 34 4,[]),(xo 35 34,[]),(xf 3 36 9,[]),(xo 37 36,[]),(xc 80 38 [.s 33,.s 35,.s 37],[]),(xc 97 39 [.s 31,.s 32,.s 38],[]),(xb .or 40 29 39,[]),(xm 7 40,[])])))))
 (.reg [xB .add 41 14 1,xm 14 41])))))))
 (.seq (.reg [xm 42 7,xm 6 42])
 (.ret))))
theorem fn81:IsFn prog 81 ac81 [.tmp 6] 43:=⟨f81,⟨[],[],[]⟩,func81,by kernel_rfl,by kernel_rfl,by kernel_rfl,by kernel_rfl⟩
def ac82:AC:=.seq (.reg [⟨(some 4),.box 67 (.s 1),none⟩,⟨(some 5),.box 5 (.s 2),none⟩,⟨(some 6),.mv (.c (.int .u64 0)),none⟩])
 (.seq (.reg [xf 1 10 4,xo 11 10,xf 2 12 5,xo 13 12,xc 95 14 [.s 11,.s 13],xm 7 14])
 (.seq (.seq (.reg [xm 15 7,xB .lss 16 15 0])
 (.cond (.s 16) (.seq (.reg [xm 17 0,xf 1 18 5,xo 19 18,xc 79 20 [.s 17,.s 19],xm 6 20])
 (.ret))
 (.skip)))
 (.seq (.seq (.reg [xf 0 21 4,xo 22 21,xB .eql 23 22 4])
 (.cond (.s 23) (.seq (.reg [xf 2 24 4,xl 65 25 24,xm 26 7,xc 90 27 [.s 25,.s 26],xm 6 27])
 (.ret))
 (.skip)))
 (.seq (.reg [xf 1 29 4,xo 30 29,xL 31 30,xm 32 7,xc 98 33 [.s 31,.s 32],xm 28 33,xe 34 28 0,xe 35 28 1,xm 8 34,xm 9 35])
 (.seq (.reg [xm 36 8,xm 6 36])
 (.ret))))))
theorem fn82:IsFn prog 82 ac82 [.tmp 6] 37:=⟨f82,⟨[],[],[]⟩,func82,by kernel_rfl,by kernel_rfl,by kernel_rfl,by kernel_rfl⟩
abbrev BB (σ:Store) (b:Nat) (o:Option Int):Prop:=σ.box b=some (badV o)
theorem tz_set {σ:Store} {b:Nat} {o:Option Int} {c:List V} (hg:TZ σ) (h:BB σ b o):TZ (σ.set b c):=by
  have hne:0≠b:=by
    rintro rfl;have hg:σ.box _=_:=hg;rw[h] at hg;have:=congrArg (fun x:Option (List V)=>(x.getD []).length) hg;simp[badV,tzCells,tzTab] at this
  show (σ.set b c).box _=_;rw[set_box_ne hne];exact hg
theorem spfail_calls (b:Nat) (o:Option Int) (p:Int) {σ:Store} (h:BB σ b o):PCalls prog 79 [.ptr (.out b) 0,.int .i64 p] σ fun v σ' => v = .int .u64 ((0#64:B64).toNat:Nat)∧σ' = σ.set b (badV (o.or (some p))):=by
  refine fn79.calls ?_;simp only[slots,ac79,am,ams,Nat.reduceAdd,w_zero];cases o with
  | none =>
    simp only[am,show σ.box b=some [.bool false,.int .i64 0] from h];exact retK_intro rfl (Store.sub_refl _) ⟨rfl,rfl⟩
  | some q =>
    have e:σ.set b (badV ((some q).or (some p)))=σ:=Store.set_id h;simp only[am,show σ.box b=some [.bool true,.int .i64 q] from h];rw[e];exact retK_intro rfl (Store.sub_refl _) ⟨rfl,rfl⟩
theorem plcF_step {l:List (List UInt8)} {w:Word} {ws:List Word} {s:B64} {k:Nat} (h:findS l w.text=some k):plcF l s (w::ws)=plcF l (withB s (k:Nat)) ws:=by simp only[plcF,h]
theorem plcF_fail {l:List (List UInt8)} {w:Word} {ws:List Word} {s:B64} (h:findS l w.text=none):plcF l s (w::ws)=(0#64,some w.pos):=by simp only[plcF,h]
theorem spplaces_calls (b:Nat) (o:Option Int) (l:List (List UInt8)) (ws:List Word) {σ:Store} (h:BB σ b o) (hl:l.length≤100000) (hw:ws.length≤1000000000) :
    PCalls prog 80 [.ptr (.out b) 0,.sl .no 1 (sCells l),.sl .no 2 (ws.map Word.enc)] σ fun v σ' => v = .int .u64 ((plcF l 0#64 ws).1.toNat:Nat)∧σ' = σ.set b (badV (o.or (plcF l 0#64 ws).2)):=by
  refine fn80.calls ?_;simp only[slots,ac80,am,ams,Nat.reduceAdd,w_zero,List.length_map];obtain⟨F,hF⟩:∃F:Nat→B64→St,∀i x,F i x=⟨[.ptr (.out b) 0,.sl .no 1 (sCells l),.any,.any,.any,.any,.any,.int .u64 (x.toNat:Nat),.any,.any,.any,.sl .no 2 (ws.map Word.enc),.int .i64 (ws.length:Nat),.int .i64 (i:Nat)]++List.replicate 18 .any,[],σ⟩:=⟨_,fun _ _=>rfl⟩;obtain⟨JF,hJF⟩:∃JF:Nat→B64→Prop,∀i x,JF i x=(plcF l 0#64 ws=plcF l x (ws.drop i)):=⟨_,fun _ _=>rfl⟩;refine vc_count (ws.length) F JF _ hJF ?_ ?_ ?_
  · refine ent (0#64) ?_ ?_ ?_ ?_
    · exact Eq.mpr (hJF _ _) (rfl)
    all_goals simp[hF,List.replicate,am,lle_self]
  · rintro i x hi hJ;rw[List.drop_eq_getElem_cons hi] at hJ;simp only[hF,List.replicate,am,dlt hi];refine idxL_intro (by omega) (wencs_at (List.getElem?_eq_getElem hi)) ?_;simp only[am,Nat.reduceAdd,Word.enc];refine cl (find_calls l ws[i].text σ hl) ?_;simp only[am,optI_neg];cases hf:findS l ws[i].text with
    | none =>
      rw[plcF_fail hf] at hJ;simp only[am,Option.isNone_none];refine(spfail_calls b o ws[i].pos h).mono ?_;rintro v σ' ⟨rfl,rfl⟩;simp only[am,aml];exact retK_intro rfl (Store.sub_refl _) ⟨by rw[hJ];rfl,by rw[hJ]⟩
    | some k =>
      rw[plcF_step hf] at hJ;simp only[am,Option.isNone_some,optI];refine cl (mask_with_calls x (k:Nat) σ) ?_;simp only[am,aml,winc hi (by omega)];refine nxtD (withB x (k:Nat)) hi ?_ ?_ ?_ ?_ ?_ ?_
      · exact Eq.mpr (hJF _ _) (hJ)
      all_goals simp[hF,List.replicate,am,lle_self,loL,loLL,V.lo]
  · rintro x hJ;rw[List.drop_length] at hJ;have e:σ.set b (badV (o.or (plcF l 0#64 ws).2))=σ:=by rw[hJ];simp only[plcF,Option.or_none];exact Store.set_id h
    simp only[hF,List.replicate,am,aml,dnl,aml];rw[e,hJ];refine retS ?_;simp[V.erase,plcF]
def z28_:=And.intro @am <| And.intro @ams <| And.intro @w_zero <| And.intro @Fct.rec_ <| And.intro @Nd.rec_ @Nd.fl
def z29_:=And.intro @am <| And.intro @aml <| And.intro @w_or @Fct.rec_
theorem rules_calls (b:Nat) (o:Option Int) (f:Fct) (n:Nd) {σ:Store} (h:BB σ b o) (hg:TZ σ) (hl:f.names.length≤100000) (hk:n.kids.length≤1000000000) (hw:∀k∈n.kids,k.names.length≤1000000000) :
    PCalls prog 81 [.ptr (.out b) 0,.agg f.enc,.agg n.enc] σ fun v σ' => v = .int .u64 ((rulP f 0#64 o n.kids).1.toNat:Nat)∧σ' = σ.set b (badV (rulP f 0#64 o n.kids).2):=by
  refine fn81.calls ?_;simp only[slots,ac81,z28_,Nat.reduceAdd,List.length_map];have hid:σ.set b (badV o)=σ:=Store.set_id h;obtain⟨F,hF⟩:∃F:Nat→B64 × Option Int→St,∀i x,F i x=⟨[.ptr (.out b) 0,.any,.any,.any,.ptr (.loc 0) 0,.ptr (.loc 1) 0,.any,.int .u64 (x.1.toNat:Nat),.any,.any,.any,.any,.sl .no 5 (n.kids.map Nd.enc),.int .i64 (n.kids.length:Nat),.int .i64 (i:Nat)]++List.replicate 28 .any,[f.enc,n.enc],σ.set b (badV x.2)⟩:=⟨_,fun _ _=>rfl⟩;obtain⟨JF,hJF⟩:∃JF:Nat→B64 × Option Int→Prop,∀i x,JF i x=(rulP f 0#64 o n.kids=rulP f x.1 x.2 (n.kids.drop i)):=⟨_,fun _ _=>rfl⟩;refine vc_count (n.kids.length) F JF _ hJF ?_ ?_ ?_
  · refine ent ((0#64,o)) ?_ ?_ ?_ ?_
    · exact Eq.mpr (hJF _ _) (rfl)
    all_goals simp[hF,List.replicate,am,lle_self,hid]
  · rintro i ⟨x,o'⟩ hi hJ;rw[List.drop_eq_getElem_cons hi] at hJ;simp only at hJ;have h1:BB (σ.set b (badV o')) b o' := set_box;simp only[hF,List.replicate,am,dlt hi];refine idxL_intro (by omega) (nencs_at (List.getElem?_eq_getElem hi)) ?_;simp only[z28_,Nat.reduceAdd];refine(find_calls f.names n.kids[i].text _ hl).mono ?_;rintro v σ1 ⟨rfl,rfl⟩;simp only[am,optI_neg];cases hf:findS f.names n.kids[i].text with
    | none =>
      simp only[rulP,hf] at hJ;simp only[am,Nd.fl,Option.isNone_none];refine(spfail_calls b o' n.kids[i].pos h1).mono ?_;rintro v σ' ⟨rfl,rfl⟩;simp only[am,aml];exact retK_intro rfl (Store.sub_refl _) ⟨by rw[hJ];rfl,by rw[hJ]⟩
    | some k =>
      simp only[rulP,hf] at hJ;simp only[am,Fct.rec_,Nd.fl,Option.isNone_some,optI];refine CallD.intro (spplaces_calls b o' f.names n.kids[i].names h1 hl (hw _ (List.getElem_mem hi))) ?_;simp only[am,Rl.rec_];refine CallD.intro (grule_calls f.rel k (plcF f.names 0#64 n.kids[i].names).1 (tz_set hg h)) ?_;simp only[z29_,winc hi (by omega)];refine nxtD ((x|||ruleG f.rel k (plcF f.names 0#64 n.kids[i].names).1,o'.or (plcF f.names 0#64 n.kids[i].names).2)) hi ?_ ?_ ?_ ?_ ?_ ?_
      · exact Eq.mpr (hJF _ _) (hJ)
      all_goals simp[hF,List.replicate,am,lle_self,loL,loLL,V.lo,Fct.r_lo,Nd.r_lo]
  · rintro⟨x,o'⟩ hJ;rw[List.drop_length] at hJ;simp only[hF,List.replicate,am,aml,dnl,aml];rw[hJ];refine retS ?_;simp[V.erase,rulP]
theorem point_calls11 (b:Nat) (o:Option Int) (f:Fct) (n:Nd) {σ:Store} (h:BB σ b o) (hl:f.names.length≤100000) :
    PCalls prog 82 [.ptr (.out b) 0,.agg f.enc,.agg n.enc] σ fun v σ' => v = .int .u64 ((ptF f n).1.toNat:Nat)∧σ' = σ.set b (badV (o.or (ptF f n).2)):=by
  refine fn82.calls ?_;simp only[slots,ac82,z28_,Nat.reduceAdd];refine cl (find_calls f.names n.text _ hl) ?_;simp only[am,optI_neg];cases hf:findS f.names n.text with
  | none =>
    simp only[am,Nd.fl,Option.isNone_none];refine(spfail_calls b o n.pos h).mono ?_;rintro v σ' ⟨rfl,rfl⟩;simp only[am];exact retK_intro rfl (Store.sub_refl _) ⟨by simp only[ptF,hf];rfl,by simp only[ptF,hf]⟩
  | some k =>
    have e:σ.set b (badV (o.or (ptF f n).2))=σ:=by simp only[ptF,hf,Option.or_none];exact Store.set_id h
    rw[e];simp only[am,Fct.rec_,Option.isNone_some,optI]
    by_cases h4:f.kind=4
    · simp only[am,Rl.rec_,Fct.rec_,decide_eq_true h4];refine cl (hword_calls f.rel k σ) ?_;simp only[am];refine retS ?_;simp[V.erase,ptF,hf,h4]
    · simp only[am,Fct.rec_,sCells_len,decide_eq_false h4];refine cl (rword_calls f.names.length k σ) ?_;simp only[am,wTup];refine retS ?_;simp[V.erase,ptF,hf,h4]
theorem kind_calls (f:Fct) (σ:Store):PCalls prog 78 [.agg f.enc] σ fun v σ' => v = .int .i64 (kindF f)∧σ' = σ:=by
  refine fn78.calls ?_;simp only[slots,ac78,am,ams,Fct.rec_]
  by_cases h2:f.kind=2
  · simp only[am,decide_eq_true h2];refine retS ?_;simp[V.erase,kindF,h2]
  · simp only[am,decide_eq_false h2]
    by_cases h3:f.kind=3
    · simp only[am,decide_eq_true h3];refine retS ?_;simp[V.erase,kindF,h3]
    · simp only[am,decide_eq_false h3];refine retS ?_;simp[V.erase,kindF,h2,h3]
theorem word_calls11 (b:Nat) (o:Option Int) (f:Fct) (n:Nd) {σ:Store} (h:BB σ b o) (hg:TZ σ) (hl:f.names.length≤100000) (hk:n.names.length≤1000000000∧n.kids.length≤1000000000) (hw:∀k∈n.kids,k.names.length≤1000000000) :
    PCalls prog 64 [.ptr (.out b) 0,.agg f.enc,.agg n.enc] σ fun v σ' => v = .int .u64 ((wrdP f n o).1.toNat:Nat)∧σ' = σ.set b (badV (wrdP f n o).2):=by
  refine fn64.calls ?_;simp only[slots,ac64,z28_,Nat.reduceAdd];refine CallD.intro (kind_calls f σ) ?_;simp only[am,Nd.fl]
  by_cases hq:n.kind=kindF f
  · simp only[am,Fct.rec_,decide_eq_true hq]
    by_cases h2:f.kind=2
    · have e:wrdP f n o=((plcF f.names 0#64 n.names).1,o.or (plcF f.names 0#64 n.names).2):=by rw[wrdP,if_pos hq,if_pos h2]
      simp only[am,Fct.rec_,Nd.fl,decide_eq_true h2];refine(spplaces_calls b o f.names n.names h hl hk.1).mono ?_;rintro v σ' ⟨rfl,rfl⟩;simp only[am];exact retK_intro rfl (Store.sub_refl _) ⟨by rw[e];rfl,by rw[e]⟩
    · simp only[am,decide_eq_false h2]
      by_cases h3:f.kind=3
      · have e:wrdP f n o=rulP f 0#64 o n.kids:=by rw[wrdP,if_pos hq,if_neg h2,if_pos h3]
        simp only[am,Fct.rec_,Nd.rec_,decide_eq_true h3];refine(rules_calls b o f n h hg hl hk.2 hw).mono ?_;rintro v σ' ⟨rfl,rfl⟩;simp only[am];exact retK_intro rfl (Store.sub_refl _) ⟨by rw[e];rfl,by rw[e]⟩
      · have e:wrdP f n o=((ptF f n).1,o.or (ptF f n).2):=by rw[wrdP,if_pos hq,if_neg h2,if_neg h3]
        simp only[am,Fct.rec_,Nd.rec_,decide_eq_false h3];refine(point_calls11 b o f n h hl).mono ?_;rintro v σ' ⟨rfl,rfl⟩;simp only[am];exact retK_intro rfl (Store.sub_refl _) ⟨by rw[e];rfl,by rw[e]⟩
  · have e:wrdP f n o=(0#64,o.or (some n.pos)):=by rw[wrdP,if_neg hq]
    simp only[am,Nd.fl,decide_eq_false hq];refine(spfail_calls b o n.pos h).mono ?_;rintro v σ' ⟨rfl,rfl⟩;simp only[am];exact retK_intro rfl (Store.sub_refl _) ⟨by rw[e];rfl,by rw[e]⟩
def z30_:=And.intro @am <| And.intro @ams <| And.intro @Shp.rec_ @Nd.rec_
theorem parts_calls (s:Shp) (n:Nd) (σ:Store):PCalls prog 62 [.agg s.enc,.agg n.enc] σ fun v σ' => v = .tup [.sl .no 5 ((partsF s n).map Nd.enc),.bool (partsQ s n)]∧σ' = σ:=by
  refine fn62.calls ?_;simp only[slots,ac62,z30_,Nat.reduceAdd];cases ht:s.tuple with
  | false =>
    simp only[am,Nd.rec_];refine retS ?_;simp[V.erase,eraseL,partsF,partsQ,ht]
  | true =>
    simp only[am,Nd.fl]
    by_cases h4:n.kind=4
    · simp only[am,List.length_map,Shp.rec_,Nd.fl,List.length_map,decide_eq_true h4]
      by_cases hl:n.kids.length=s.facs.length
      · simp only[decide_eq_true (show (n.kids.length:Int)=s.facs.length by omega)];refine retS ?_;simp[V.erase,eraseL,partsF,partsQ,ht,h4,hl]
      · simp only[decide_eq_false (show ¬(n.kids.length:Int)=s.facs.length by omega)];refine retS ?_;simp[V.erase,eraseL,partsF,partsQ,ht,h4,hl]
    · simp only[am,decide_eq_false h4];refine retS ?_;simp[V.erase,eraseL,partsF,partsQ,ht,h4]
def Nd.ok (n:Nd):Prop:=n.names.length≤1000000000∧n.kids.length≤1000000000∧∀k∈n.kids,k.names.length≤1000000000
theorem elemF_no {s:Shp} {n:Nd} (h:(partsQ s n&&shpR s&&n.constQ)=false):elemF s n=(.zero,some n.pos):=by rw[elemF,h];rfl
theorem elemF_go {s:Shp} {n:Nd} (h1:partsQ s n=true) (h2:shpR s=true) (h3:n.constQ=true):elemF s n=elmGo s (partsF s n):=by rw[elemF,h1,h2,h3];rfl
theorem shpR_len {s:Shp} (h:shpR s=true):1≤s.facs.length∧s.facs.length≤8∧(s.tuple=false→s.facs.length=1):=by
  simp only[shpR,Bool.and_eq_true,decide_eq_true_eq,Bool.or_eq_true] at h;refine⟨h.1.1.1,h.1.1.2,fun ht=>?_⟩
  rcases h.1.2 with h | h
  · rw[ht] at h;simp at h
  · exact h
theorem parts_len {s:Shp} {n:Nd} (h1:partsQ s n=true) (h2:shpR s=true):(partsF s n).length=s.facs.length:=by
  have hl:=(shpR_len h2).2.2;unfold partsF;unfold partsQ at h1;cases ht:s.tuple with
  | false=>simp[hl ht]
  | true=>rw[ht] at h1;simpa using And.right (by simpa using h1)
def z31_:=And.intro @am <| And.intro @ams <| And.intro @Shp.rec_ <| And.intro @Elm.rec_ @Nd.rec_
theorem elem_calls (s:Shp) (n:Nd) {σ:Store} (hg:TZ σ) (hok:s.ok) (hn:∀k∈partsF s n,Nd.ok k) (hwt:n.wt≤big) :
    PCalls prog 42 [.agg s.enc,.agg n.enc] σ fun v σ' => v = .tup [.agg (elemF s n).1.enc,.agg (fltV (elemF s n).2)]∧σ' = σ:=by
  refine fn42.calls ?_;simp only[slots,ac42,z31_,Nat.reduceAdd];refine cl (parts_calls s n σ) ?_;simp only[am];have done:∀(e:Elm × Option Int) (t:List V) (l:List (List V)) (σ1:Store),e=elemF s n→σ.sub σ1→RetK (fun v σ' => v=V.tup [.agg (elemF s n).1.enc,.agg (fltV (elemF s n).2)]∧σ' = σ) ⟨t,l,σ1⟩ (.tup [.agg e.1.enc,.agg (fltV e.2)]):=fun e t l σ1 he hs=>by
    subst he;exact retK_intro (by simp[V.nol,nolL,Elm.r_nol,fltV]) hs ⟨by simp[V.erase,eraseL,Elm.r_er,fltV],rfl⟩
  cases hp:partsQ s n with
  | false =>
    simp only[am,Nat.reduceAdd,Elm.rec_,Nd.fl];exact done (.zero,some n.pos) _ _ _ (elemF_no (by rw[hp];rfl)).symm (Store.sub_refl _)
  | true =>
    simp only[am,Shp.rec_];refine cl (shright_calls s hg hok) ?_;cases hr:shpR s with
    | false =>
      simp only[am,Nat.reduceAdd,Elm.rec_,Nd.fl];exact done (.zero,some n.pos) _ _ _ (elemF_no (by rw[hp,hr];rfl)).symm (Store.sub_refl _)
    | true =>
      simp only[am,Nd.rec_];refine cl (const_is_calls _ n σ (Nat.le_refl _) hwt) ?_;cases hc:n.constQ with
      | false =>
        simp only[am,Nat.reduceAdd,Elm.rec_,Nd.fl];exact done (.zero,some n.pos) _ _ _ (elemF_no (by rw[hp,hr,hc];rfl)).symm (Store.sub_refl _)
      | true =>
        have hgo:=elemF_go hp hr hc;obtain⟨hl1,hl8,_⟩:=shpR_len hr;have hpl:=parts_len hp hr;simp only[am,Nat.reduceAdd];refine kO_intro fun b hb=>?_
        have hs:∀c,σ.sub (σ.set b c):=fun c=>sub_set hb
        have hgb:∀c,TZ (σ.set b c):=fun c=>(hs c).1 _ _ hg
        simp only[am,List.length_map,Shp.rec_,List.length_map];obtain⟨F,hF⟩:∃F:Nat→Elm × Option Int→St,∀i x,F i x=⟨[.any,.any,.any,.any,.ptr (.loc 2) 0,.ptr (.loc 3) 0,.ptr (.loc 4) 0,.sl .no 5 ((partsF s n).map Nd.enc),.any,.ptr (.out b) 0,.any,.any,.any,.any,.any,.any,.any,.any,.any,.any,.any,.any,.any,.any,.any,.any,.any,.any,.any,.any,.any,.any,.any,.any,.any,.any,.any,.sl .no 67 (s.facs.map Fct.enc),.int .i64 (s.facs.length:Nat),.int .i64 (i:Nat)]++List.replicate 26 .any,[s.enc,n.enc,Elm.zero.enc,[.int .i64 0,.int .i64 0],x.1.enc],σ.set b (badV x.2)⟩:=⟨_,fun _ _=>rfl⟩;obtain⟨JF,hJF⟩:∃JF:Nat→Elm × Option Int→Prop,∀i x,JF i x=(goI s (partsF s n) i x):=⟨_,fun _ _=>rfl⟩;refine vc_count (s.facs.length) F JF _ hJF ?_ ?_ ?_
        · refine ent ((.zero,none)) ?_ ?_ ?_ ?_
          · exact Eq.mpr (hJF _ _) (goI_zero)
          all_goals simp[hF,List.replicate,am,lle_self,badV]
        · rintro i ⟨e,o⟩ hi hJ;have hip:i<(partsF s n).length:=by omega
          have h8:i<8:=by omega
          have hst:=goI_step hJ;rw[getD_at hi,getD_at hip] at hst;have hnd:=hn _ (List.getElem_mem hip);simp only[hF,List.replicate,am,dlt hi];refine idxL_intro (by omega) (facs_at hi) ?_;simp only[am,Nat.reduceAdd,Fct.rec_];refine idxL_intro (by omega) (nencs_at (List.getElem?_eq_getElem hip)) ?_;simp only[am,Fct.rec_,Nd.rec_];refine CallD.intro (word_calls11 b o s.facs[i] (partsF s n)[i] set_box (hgb _) (hok.2 _ (List.getElem_mem hi)) ⟨hnd.1,hnd.2.1⟩ hnd.2.2) ?_;simp only[am,amc];refine idxPL_ptr (by omega) (by omega) ?_;simp only[z8_,Elm.u_has h8,Elm.u_st h8,winc hi (by omega)];refine nxtD ((e.put i (wrdP s.facs[i] (partsF s n)[i] o).1,(wrdP s.facs[i] (partsF s n)[i] o).2)) hi ?_ ?_ ?_ ?_ ?_ ?_
          · exact Eq.mpr (hJF _ _) (hst)
          all_goals simp[hF,List.replicate,am,lle_self,loL,loLL,V.lo,Nd.r_lo,Shp.r_lo,Elm.r_lo]
        · rintro⟨e,o⟩ hJ;have hend:=goI_end hJ;rw[←hgo] at hend;simp only[hF,List.replicate,am,aml,dnl,aml,badV];cases o with
          | some p =>
            simp only[am,Nat.reduceAdd,Elm.rec_,Option.isSome_some,Option.getD_some];exact done (.zero,some p) _ _ _ (by rw[hend];rfl) (hs _)
          | none =>
            simp only[am,Nat.reduceAdd,Elm.rec_,Option.isSome_none];exact done (e,none) _ _ _ (by rw[hend];rfl) (hs _)
end Go.Proofs.Tryz

namespace Go.Proofs.Tryz
open Go.Am
set_option maxRecDepth 4000
set_option maxHeartbeats 4000000
end Go.Proofs.Tryz

namespace Go.Proofs.Tryz
open Go.Am
set_option maxRecDepth 4000
set_option maxHeartbeats 4000000
end Go.Proofs.Tryz

namespace Go.Proofs.Tryz
open Go.Am
set_option maxRecDepth 4000
set_option maxHeartbeats 4000000
end Go.Proofs.Tryz

namespace Go.Proofs.Tryz
open Go.Am
set_option maxRecDepth 4000
set_option maxHeartbeats 4000000
def s1:List UInt8:=[43,40,120,44,35,123,97,44,98,125,41]
def s2:List UInt8:=[43,40,41]
def s3:List UInt8:=[91,102,61,120,44,103,61,35,104,105,124,114,93]
end Go.Proofs.Tryz

namespace Go.Proofs.Tryz
open Go.Am
set_option maxRecDepth 4000
set_option maxHeartbeats 4000000
def ac7:AC:=.seq (.reg [⟨(some 2),.mv (.c (.bool false)),none⟩])
 (.seq (.seq (.reg [xm 5 0,xL 6 5,xi 7 0])
 (.block 0 (.loop (.seq (.reg [xb .lss 8 7 6])
 (.seq (.cond (.s 8) (.skip)
 (.exit 0))
 (.seq (.block 1 (.seq (.reg [xA 5 9 5 7,xl 5 10 9,⟨(some 4),.alloc [(.int .i64 0),(.int .i64 0),(.str []),(.sl .full 2 []),(.sl .full 5 [])],none⟩,xs 5 4 10])
 (.seq (.reg [xl 5 11 4,xc 23 12 [.s 11],xB .gtr 13 12 300])
 (.cond (.s 13) (.seq (.reg [⟨(some 2),.mv (.c (.bool true)),none⟩])
 (.ret))
 (.skip)))))
 (.reg [xB .add 14 7 1,xm 7 14])))))))
 (.seq (.reg [⟨(some 2),.mv (.c (.bool false)),none⟩])
 (.ret)))
theorem fn7:IsFn prog 7 ac7 [.tmp 2] 15:=⟨f7,⟨[],[],[]⟩,func7,by kernel_rfl,by kernel_rfl,by kernel_rfl,by kernel_rfl⟩
def ac23:AC:=.seq (.reg [⟨(some 1),.box 5 (.s 0),none⟩,xi 2 0])
 (.seq (.reg [xf 3 5 1,xo 6 5,xL 7 6,⟨(some 8),.binI .add (.c (.int .i64 1)) (.s 7),none⟩,xm 3 8])
 (.seq (.seq (.reg [xi 4 0])
 (.block 0 (.loop (.seq (.seq (.reg [xm 9 4,xf 4 10 1,xo 11 10,xL 12 11,xb .lss 13 9 12])
 (.cond (.s 13) (.skip)
 (.exit 0)))
 (.seq (.block 1 (.reg [xm 16 3,xf 4 17 1,xo 18 17,xm 19 4,xA 5 20 18 19,xl 5 21 20,xc 23 22 [.s 21],xb .add 23 16 22,xm 3 23]))
 (.reg [xm 14 4,xB .add 15 14 1,xm 4 15]))))))
 (.seq (.reg [xm 24 3,xm 2 24])
 (.ret))))
theorem fn23:IsFn prog 23 ac23 [.tmp 2] 25:=⟨f23,⟨[],[],[]⟩,func23,by kernel_rfl,by kernel_rfl,by kernel_rfl,by kernel_rfl⟩
def inv52 (n:Nd) (i:Nat) (σ:Store):St :=
  ⟨[.any,.ptr (.loc 0) 0,.any,.int .i64 ((1+n.names.length+cnts (n.kids.take i):Nat):Int),.int .i64 (i:Nat)]++List.replicate 20 .any,[n.enc],σ⟩
theorem many2_calls:∀(k:Nat) (n:Nd) (σ:Store),n.wt≤k→n.wt≤big→PCalls prog 23 [.agg n.enc] σ fun v σ' => v = .int .i64 n.cnt∧σ' = σ:=by
  intro k;induction k with
  | zero=>intro n σ h _;cases n;simp only[Nd.wt] at h;omega
  | succ k ihk =>
    intro n σ hk hw;have hn:=wt_names n;have hc:=cnt_wt n;have hbig:n.wt<2^62:=by simp only[big] at hw;omega
    have hce:n.cnt=1+n.names.length+cnts n.kids:=by cases n;rw[Nd.cnt];rfl
    refine fn23.calls ?_;simp only[slots,ac23,z26_];refine vc_loop (fun p:{i:Nat // i≤n.kids.length}=>inv52 n p.1 σ) (fun p=>n.kids.length - p.1) ?_ ?_
    · refine Upd.enter ⟨0,by simp⟩ ?_ LLLe.rfl OLe.rfl;rw[List.length_map,wrap_i64 (by omega) (by omega)];simp[inv52,List.replicate,am,cnts]
    rintro⟨i,hi⟩;simp only[inv52,List.replicate,am,Nd.fl,List.length_map];refine vcIf_split ?_ ?_
    · intro hlt;have hlt:i<n.kids.length:=by simpa using hlt
      have h1:=cnts_at hlt;have h2:=cnts_take n.kids (i+1);have h3:=kid_wt (n:=n) (List.getElem_mem hlt);simp only[am,Nd.fl];refine idxL_intro (by omega) (nencs_at (List.getElem?_eq_getElem hlt)) ?_;simp only[am,Nd.rec_];refine cl (ihk n.kids[i] σ (by omega) (by omega)) ?_;simp only[am];rw[wrap_i64 (by omega) (by omega),wrap_i64 (x:=(i:Int)+1) (by omega) (by omega)];refine Upd.again ⟨i+1,hlt⟩ (by simp;omega) ?_ LLLe.rfl OLe.rfl;simp[am,h1];omega
    intro hlt;have hlt:i=n.kids.length:=by simp at hlt;omega
    subst hlt;rw[List.take_length];simp only[am];refine retK_intro rfl (Store.sub_refl _) ⟨?_,rfl⟩;simp[V.erase,hce]
def bigQ (l:List Nd):Bool:=l.any fun n=>decide ((300:Int)<n.cnt)
def inv22 (l:List Nd) (i:Nat) (σ:Store):St :=
  ⟨[.any,.any,.any,.any,.any,.sl .no 5 (l.map Nd.enc),.int .i64 l.length,.int .i64 (i:Nat)]++List.replicate 7 .any,[],σ⟩
theorem big_calls {τ:Tk} (l:List Nd) (σ:Store) (hb:l.length≤big) (hw:∀n∈l,n.wt≤big):PCalls prog 7 [.sl τ 5 (l.map Nd.enc)] σ fun v σ' => v = .bool (bigQ l)∧σ' = σ:=by
  simp only[big] at hb;refine fn7.calls ?_;simp only[slots,ac7,am,ams];refine vc_loop (fun p:{i:Nat // i≤l.length∧bigQ (l.take i)=false}=>inv22 l p.1 σ) (fun p=>l.length - p.1) ?_ ?_
  · refine Upd.enter ⟨0,by simp,by simp[bigQ]⟩ ?_ LLLe.rfl OLe.rfl;simp[inv22,List.replicate,am]
  rintro⟨i,hi,ha⟩;simp only[inv22,List.replicate,am];refine vcIf_split ?_ ?_
  · intro hlt;have hlt:i<l.length:=by simpa using hlt
    simp only[am];refine idxL_intro (by omega) (nencs_at (List.getElem?_eq_getElem hlt)) ?_;simp only[am,Nd.rec_];refine cl (many2_calls _ l[i] σ (Nat.le_refl _) (hw _ (List.getElem_mem hlt))) ?_;simp only[am];refine vcIf_split ?_ ?_
    · intro hg;simp only[am];refine retK_intro rfl (Store.sub_refl _) ⟨?_,rfl⟩;rw[show bigQ l=true from List.any_eq_true.2 ⟨l[i],List.getElem_mem hlt,by simpa using hg⟩];rfl
    · intro hg;simp only[am];rw[wrap_i64 (by omega) (by omega)];refine Upd.againD ⟨i+1,hlt,?_⟩ (by simp;omega) (by simp[am]) (by simp[am]) OLe.rfl rfl rfl;unfold bigQ at ha ⊢;rw[take_succ_of (List.getElem?_eq_getElem hlt),List.any_append,ha];simpa using hg
  intro hlt;have hlt:i=l.length:=by simp at hlt;omega
  subst hlt;rw[List.take_length] at ha;simp only[am];refine retS ?_;simp[V.erase,ha]
end Go.Proofs.Tryz

namespace Go.Proofs.Tryz
open Go.Am
set_option maxRecDepth 4000
set_option maxHeartbeats 4000000
end Go.Proofs.Tryz

namespace Go.Proofs.Tryz
open Go.Am
set_option maxRecDepth 4000
set_option maxHeartbeats 4000000
def ac25:AC:=.seq (.reg [⟨(some 3),.box 2 (.s 0),none⟩,⟨(some 5),.box 5 (.s 2),none⟩,⟨(some 6),.alloc insZ,none⟩,⟨(some 7),.mv (.c (.bool false)),none⟩])
 (.seq (.seq (.reg [xf 0 10 5,xo 11 10,xB .eql 12 11 1])
 (.cond (.s 12) (.seq (.reg [xl 2 13 3,xm 14 1,xf 2 15 5,xo 16 15,xc 41 17 [.s 13,.s 14,.s 16],xe 18 17 0,xe 19 17 1,xs 10 6 18,xm 7 19])
 (.ret))
 (.skip)))
 (.seq (.drawA [8,9] [(xf 0 21 3,[]),(xo 22 21,[]),(xm 23 1,[]),(xA 3 24 22 23,[]),(xf 1 25 24,[]),(xl 2 26 25,[]),(xf 4 27 5,[]),(xo 28 27,[]),(⟨(some 29),.idxA 5 (.s 28) (.c (.int .i64 0)),none⟩,[]),(xl 5 30 29,[]),(xc 42 31 [.s 26,.s 30],[]),(xm 20 31,[]),(xe 32 20 0,[]),(xe 33 20 1,[]),(⟨none,.mv (.c .any),none⟩,[]),(⟨none,.mv (.c .any),none⟩,[]),(⟨(some 8),.boxS 8 (.s 32),none⟩,[]),(⟨(some 9),.boxS 2 (.s 33),none⟩,[])])
 (.seq (.draw [(xl 8 34 8,[]),(⟨(some 35),.build insZ [(0,1,(.c (.int .i64 2))),(2,8,(.s 34))],none⟩,[]),(xf 0 36 9,[]),(xo 37 36,[1]),(xB .eql 38 37 0,[]),(xs 10 6 35,[]),(xm 7 38,[])])
 (.ret))))
theorem fn25:IsFn prog 25 ac25 [.cell 6 true 10,.tmp 7] 39:=⟨f25,⟨[],[],[]⟩,func25,by kernel_rfl,by kernel_rfl,by kernel_rfl,by kernel_rfl⟩
def ac41:AC:=.seq (.reg [⟨(some 3),.box 2 (.s 0),none⟩,⟨(some 6),.alloc insZ,none⟩,⟨(some 7),.mv (.c (.bool false)),none⟩])
 (.seq (.reg [xl 2 11 3,xm 12 2,xc 61 13 [.s 11,.s 12],xm 10 13,xe 14 10 0,xe 15 10 1,xm 8 14,xm 9 15])
 (.seq (.seq (.reg [xm 16 9,xB .lss 17 16 0,xm 18 17,xh 18 (xf 1 19 3),xh 18 (xo 20 19),xh 18 (xm 21 9),xh 18 (xA 3 22 20 21),xh 18 (xf 1 23 22),xh 18 (xo 24 23),xh 18 (xB .neq 25 24 1),⟨(some 26),.pick (.s 18) (.c (.bool true)) (.s 25),none⟩,xm 27 26,xh 27 (xf 1 28 3),xh 27 (xo 29 28),xh 27 (xm 30 9),xh 27 (xA 3 31 29 30),xh 27 (xf 2 32 31),xh 27 (xo 33 32),xh 27 (xm 34 1),xh 27 (xb .neq 35 33 34),⟨(some 36),.pick (.s 27) (.c (.bool true)) (.s 35),none⟩])
 (.cond (.s 36) (.seq (.reg [⟨(some 37),.build insZ [],none⟩,xs 10 6 37,⟨(some 7),.mv (.c (.bool false)),none⟩])
 (.ret))
 (.skip)))
 (.seq (.reg [xm 38 9,⟨(some 39),.build insZ [(0,1,(.c (.int .i64 1))),(1,1,(.s 38))],none⟩,xs 10 6 39,⟨(some 7),.mv (.c (.bool true)),none⟩])
 (.ret))))
theorem fn41:IsFn prog 41 ac41 [.cell 6 true 10,.tmp 7] 40:=⟨f41,⟨[],[],[]⟩,func41,by kernel_rfl,by kernel_rfl,by kernel_rfl,by kernel_rfl⟩
def ac61:AC:=.seq (.reg [⟨(some 2),.box 2 (.s 0),none⟩,xi 4 0,xi 5 0])
 (.seq (.reg [xi 6 (-1),xi 7 (-1)])
 (.seq (.seq (.reg [xf 0 10 2,xo 11 10,xL 12 11,xi 13 0])
 (.block 0 (.loop (.seq (.reg [xb .lss 14 13 12])
 (.seq (.cond (.s 14) (.skip)
 (.exit 0))
 (.seq (.block 1 (.seq (.reg [xm 15 13,xm 8 15])
 (.seq (.reg [xm 16 6,xB .lss 17 16 0,xm 18 17,xg 18 (xf 0 19 2),xg 18 (xo 20 19),xg 18 (xm 21 8),xg 18 (xA 3 22 20 21),xg 18 (xf 0 23 22),xg 18 (xo 24 23),xg 18 (xm 25 1),⟨(some 26),.binS .eql (.s 24) (.s 25),(some (18,true))⟩,⟨(some 27),.pick (.s 18) (.s 26) (.c (.bool false)),none⟩])
 (.cond (.s 27) (.reg [xm 28 8,xm 6 28])
 (.skip)))))
 (.reg [xB .add 29 13 1,xm 13 29])))))))
 (.seq (.seq (.reg [xf 1 30 2,xo 31 30,xL 32 31,xi 33 0])
 (.block 2 (.loop (.seq (.reg [xb .lss 34 33 32])
 (.seq (.cond (.s 34) (.skip)
 (.exit 2))
 (.seq (.block 3 (.seq (.reg [xm 35 33,xm 9 35])
 (.seq (.reg [xm 36 7,xB .lss 37 36 0,xm 38 37,xg 38 (xf 1 39 2),xg 38 (xo 40 39),xg 38 (xm 41 9),xg 38 (xA 3 42 40 41),xg 38 (xf 0 43 42),xg 38 (xo 44 43),xg 38 (xm 45 1),⟨(some 46),.binS .eql (.s 44) (.s 45),(some (38,true))⟩,⟨(some 47),.pick (.s 38) (.s 46) (.c (.bool false)),none⟩])
 (.cond (.s 47) (.reg [xm 48 9,xm 7 48])
 (.skip)))))
 (.reg [xB .add 49 33 1,xm 33 49])))))))
 (.seq (.reg [xm 50 6,xm 51 7,xm 4 50,xm 5 51])
 (.ret)))))
theorem fn61:IsFn prog 61 ac61 [.tmp 4,.tmp 5] 52:=⟨f61,⟨[],[],[]⟩,func61,by kernel_rfl,by kernel_rfl,by kernel_rfl,by kernel_rfl⟩
theorem lats_at {l:List Ltc} {j:Nat} (h:j<l.length):(l.map Ltc.enc)[((j:Nat):Int).toNat]?=some l[j].enc:=by simp[h]
theorem vars_at {l:List Vrb} {j:Nat} (h:j<l.length):(l.map Vrb.enc)[((j:Nat):Int).toNat]?=some l[j].enc:=by simp[h]
theorem scfind_calls (s:Scp) (t:List UInt8) (σ:Store) (h1:s.lats.length≤100000) (h2:s.vars.length≤100000) :
    PCalls prog 61 [.agg s.enc,.str t] σ fun v σ' => v = .tup [.int .i64 (optI (findL s.lats t)),.int .i64 (optI (findV s.vars t))]∧σ' = σ:=by
  refine fn61.calls ?_;simp only[slots,ac61,am,ams,Nat.reduceAdd,Scp.rec_,List.length_map];rw[findL,findV];generalize hpL:nameL s.lats t=pL;generalize hpV:nameV s.vars t=pV;have eL:∀i (hi:i<s.lats.length),pL i=decide (s.lats[i].name=t):=fun i hi=>by rw[←hpL];simp only[nameL,List.getElem?_eq_getElem hi]
  have eV:∀i (hi:i<s.vars.length),pV i=decide (s.vars[i].name=t):=fun i hi=>by rw[←hpV];simp only[nameV,List.getElem?_eq_getElem hi]
  obtain⟨F,hF⟩:∃F:Nat→Unit→St,∀i x,F i x=⟨[.any,.str t,.ptr (.loc 0) 0,.any,.any,.any,.int .i64 (optI ((List.range i).find? pL)),.int .i64 (-1),.any,.any,.any,.sl .no 3 (s.lats.map Ltc.enc),.int .i64 (s.lats.length:Nat),.int .i64 (i:Nat)]++List.replicate 38 .any,[s.enc],σ⟩:=⟨_,fun _ _=>rfl⟩;obtain⟨JF,hJF⟩:∃JF:Nat→Unit→Prop,∀i x,JF i x=(True):=⟨_,fun _ _=>rfl⟩;refine vc_count (s.lats.length) F JF _ hJF ?_ ?_ ?_
  · refine ent (()) ?_ ?_ ?_ ?_
    · exact Eq.mpr (hJF _ _) (trivial)
    all_goals simp[hF,List.replicate,am,lle_self,optI]
  · rintro i x hi -;simp only[hF,List.replicate,am,dlt hi,optI_neg];cases hf:(List.range i).find? pL with
    | some k =>
      simp only[am,aml,Option.isNone_some,winc hi (by omega)];refine nxt (()) hi ?_ ?_ ?_ ?_
      · exact Eq.mpr (hJF _ _) (trivial)
      all_goals simp[hF,List.replicate,am,lle_self,List.range_succ,List.find?_append,hf]
    | none =>
      simp only[am,Scp.rec_,Option.isNone_none];refine idxL_intro (by omega) (lats_at hi) ?_;simp only[am,Scp.rec_];rw[←eL i hi];cases hb:pL i with
      | false =>
        simp only[am,aml,winc hi (by omega)];refine nxt (()) hi ?_ ?_ ?_ ?_
        · exact Eq.mpr (hJF _ _) (trivial)
        all_goals simp[hF,List.replicate,am,lle_self,List.range_succ,List.find?_append,hf,hb]
      | true =>
        simp only[am,aml,winc hi (by omega)];refine nxt (()) hi ?_ ?_ ?_ ?_
        · exact Eq.mpr (hJF _ _) (trivial)
        all_goals simp[hF,List.replicate,am,lle_self,List.range_succ,List.find?_append,hf,hb,optI]
  · rintro x -;simp only[hF,List.replicate,am,aml,dnl,aml,Scp.rec_,List.length_map];clear hF hJF F JF;obtain⟨F,hF⟩:∃F:Nat→Unit→St,∀i x,F i x=⟨[.any,.str t,.ptr (.loc 0) 0,.any,.any,.any,.int .i64 (optI ((List.range s.lats.length).find? pL)),.int .i64 (optI ((List.range i).find? pV)),.any,.any,.any,.any,.any,.any,.any,.any,.any,.any,.any,.any,.any,.any,.any,.any,.any,.any,.any,.any,.any,.any,.any,.sl .no 3 (s.vars.map Vrb.enc),.int .i64 (s.vars.length:Nat),.int .i64 (i:Nat)]++List.replicate 18 .any,[s.enc],σ⟩:=⟨_,fun _ _=>rfl⟩;obtain⟨JF,hJF⟩:∃JF:Nat→Unit→Prop,∀i x,JF i x=(True):=⟨_,fun _ _=>rfl⟩;refine vc_count (s.vars.length) F JF _ hJF ?_ ?_ ?_
    · refine ent (()) ?_ ?_ ?_ ?_
      · exact Eq.mpr (hJF _ _) (trivial)
      all_goals simp[hF,List.replicate,am,lle_self,optI]
    · rintro i x hi -;simp only[hF,List.replicate,am,dlt hi,optI_neg];cases hf:(List.range i).find? pV with
      | some k =>
        simp only[am,aml,Option.isNone_some,winc hi (by omega)];refine nxt (()) hi ?_ ?_ ?_ ?_
        · exact Eq.mpr (hJF _ _) (trivial)
        all_goals simp[hF,List.replicate,am,lle_self,List.range_succ,List.find?_append,hf]
      | none =>
        simp only[am,Scp.rec_,Option.isNone_none];refine idxL_intro (by omega) (vars_at hi) ?_;simp only[am,Scp.rec_];rw[←eV i hi];cases hb:pV i with
        | false =>
          simp only[am,aml,winc hi (by omega)];refine nxt (()) hi ?_ ?_ ?_ ?_
          · exact Eq.mpr (hJF _ _) (trivial)
          all_goals simp[hF,List.replicate,am,lle_self,List.range_succ,List.find?_append,hf,hb]
        | true =>
          simp only[am,aml,winc hi (by omega)];refine nxt (()) hi ?_ ?_ ?_ ?_
          · exact Eq.mpr (hJF _ _) (trivial)
          all_goals simp[hF,List.replicate,am,lle_self,List.range_succ,List.find?_append,hf,hb,optI]
    · rintro x -;simp only[hF,List.replicate,am,aml,dnl,aml];refine retS ?_;simp[V.erase,eraseL]
theorem findV_at {l:List Vrb} {t:List UInt8} {k:Nat} (h:findV l t=some k):k<l.length:=(find_lt h).1
def insT (o:Option Ins):V:=.tup [.agg (match o with | some i=>i | none=>Ins.zero).enc,.bool o.isSome]
def z32_:=And.intro @am <| And.intro @ams <| And.intro @Scp.rec_ @Ins.rec_
theorem variable_calls (s:Scp) (lat:Nat) (t:List UInt8) (σ:Store) (h1:s.lats.length≤100000) (h2:s.vars.length≤100000) :
    PCalls prog 41 [.agg s.enc,.int .i64 (lat:Nat),.str t] σ fun v σ' => v=insT (varF s lat t)∧σ' = σ:=by
  refine fn41.calls ?_;simp only[slots,ac41,z32_,Nat.reduceAdd];have no:∀(u:List V) (l:List (List V)),varF s lat t=none→RetK (fun v σ' => v=insT (varF s lat t)∧σ' = σ) ⟨u,l,σ⟩ (.tup [.agg Ins.zero.enc,.bool false]):=fun u l h=>by
    rw[h];exact retK_intro (by simp[V.nol,nolL,Ins.r_nol]) (Store.sub_refl _) ⟨by simp[insT,V.erase,eraseL,Ins.r_er],rfl⟩
  refine cl (scfind_calls s t σ h1 h2) ?_;simp only[am,optI_neg];cases hf:findV s.vars t with
  | none =>
    simp only[am,Ins.rec_,Option.isNone_none];exact no _ _ (by simp only[varF,hf])
  | some k =>
    have hk:=findV_at hf;have hv:s.vars[k]?=some s.vars[k]:=List.getElem?_eq_getElem hk;simp only[am,Scp.rec_,Option.isNone_some,optI];refine idxL_intro (by omega) (vars_at hk) ?_;simp only[am,Scp.rec_]
    by_cases e1:s.vars[k].kind=1
    · simp only[am,Scp.rec_,decide_eq_true e1];refine idxL_intro (by omega) (vars_at hk) ?_;simp only[am,Scp.rec_]
      by_cases e2:s.vars[k].lat=(lat:Nat)
      · have e:varF s lat t=some ⟨1,k,.zero⟩:=by simp only[varF,hf,hv];rw[if_pos ⟨e1,e2⟩]
        simp only[am,Ins.rec_,decide_eq_true e2];exact retK_intro (by simp[V.nol,nolL,Ins.r_nol]) (Store.sub_refl _) ⟨by simp[e,insT,V.erase,eraseL,Ins.r_er,Ins.zero],rfl⟩
      · simp only[am,Ins.rec_,decide_eq_false e2];exact no _ _ (by simp only[varF,hf,hv];rw[if_neg (fun h=>e2 h.2)])
    · simp only[am,Ins.rec_,decide_eq_false e1];exact no _ _ (by simp only[varF,hf,hv];rw[if_neg (fun h=>e1 h.1)])
theorem shapeF_at {s:Scp} {lat:Nat} (h:lat<s.lats.length):shapeF s lat=s.lats[lat].shape:=by simp only[shapeF,List.getElem?_eq_getElem h]
theorem leafF_ok {s:Scp} {lat:Nat} {n:Nd} (h1:n.kind≠1) {e:Elm} (he:elemF (shapeF s lat) (n.kids.getD 0 nd0)=(e,none)):leafF s lat n=some ⟨2,0,e⟩:=by rw[leafF,if_neg h1,he]
theorem leafF_bad {s:Scp} {lat:Nat} {n:Nd} (h1:n.kind≠1) {e:Elm} {p:Int} (he:elemF (shapeF s lat) (n.kids.getD 0 nd0)=(e,some p)):leafF s lat n=none:=by rw[leafF,if_neg h1,he]
theorem parts_ok {s:Shp} {n:Nd} (hc:n.cnt≤100000):∀k∈partsF s n,k.names.length≤100000∧k.kids.length≤100000∧∀m∈k.kids,m.names.length≤100000:=by
  intro k hk;have hkc:k.cnt≤n.cnt:=by
    unfold partsF at hk;split at hk
    · exact Nat.le_of_lt (cnt_kid hk)
    · rw[List.mem_singleton.1 hk];exact Nat.le_refl _
  have h1:=cnt_names k;have h2:=cnt_kids k;refine⟨by omega,by omega,fun m hm=>?_⟩;have:=cnt_kid hm;have:=cnt_names m;omega
theorem parts_Ok {s:Shp} {n:Nd} (hc:n.cnt≤100000):∀k∈partsF s n,Nd.ok k:=fun k hk=>by
  obtain⟨h1,h2,h3⟩:=parts_ok hc k hk;exact⟨by omega,by omega,fun m hm=>by have:=h3 m hm;omega⟩
def z33_:=And.intro @am <| And.intro @ams <| And.intro @Nd.rec_ <| And.intro @Nd.fl <| And.intro @Scp.rec_ @Ins.rec_
theorem leaf_calls14 (s:Scp) (lat:Nat) (n:Nd) {σ:Store} (hg:TZ σ) (hs:s.ok) (hlat:lat<s.lats.length) (hc:n.cnt≤100000) (hw:n.wt≤big) (hl:n.labelQ=true) (hk:n.kind=1∨n.kind=7) :
    PCalls prog 25 [.agg s.enc,.int .i64 (lat:Nat),.agg n.enc] σ fun v σ' => (∃i:Ins,v = .tup [.agg i.enc,.bool (leafF s lat n).isSome]∧∀j,leafF s lat n=some j→i=j)∧σ' = σ:=by
  refine fn25.calls ?_;simp only[slots,ac25,z33_,Nat.reduceAdd]
  by_cases h1:n.kind=1
  · simp only[am,Nd.fl,Scp.rec_,decide_eq_true h1];refine cl (variable_calls s lat n.text σ hs.1 hs.2.1) ?_;simp only[am,Ins.rec_,insT];refine retK_intro (by simp[V.nol,nolL,Ins.r_nol]) (Store.sub_refl _) ⟨⟨_,by rw[leafF,if_pos h1];simp[V.erase,eraseL,Ins.r_er];rfl,fun j hj=>?_⟩,rfl⟩;rw[leafF,if_pos h1] at hj;rw[hj]
  · have h7:n.kind=7:=by simpa [h1] using hk
    have hkl:=label_const hl h7;have hm:n.kids[0]∈n.kids:=List.getElem_mem _;have hmc:=cnt_kid hm;have hmw:=kid_wt hm;simp only[am,Nat.reduceAdd,decide_true,Nat.reduceLT,Scp.rec_,decide_eq_false h1];refine idxL_intro (by omega) (lats_at hlat) ?_;simp only[am,Nd.fl,Scp.rec_];refine idxL_intro (n:=0) (by omega) (nencs_at (j:=0) (List.getElem?_eq_getElem (by omega))) ?_;simp only[am,Shp.rec_,Nd.rec_];refine CallD.intro (elem_calls s.lats[lat].shape n.kids[0] hg (hs.2.2 _ (List.getElem_mem hlat)) (parts_Ok (by omega)) (by omega)) ?_;obtain⟨e,he⟩:∃e,elemF s.lats[lat].shape n.kids[0]=e:=⟨_,rfl⟩;rw[he];have he' : elemF (shapeF s lat) (n.kids.getD 0 nd0)=e:=by rw[shapeF_at hlat,getD_at (by omega)];exact he
    simp only[am,Nat.reduceAdd,Elm.rec_,Ins.rec_,fltV];obtain⟨e,o⟩:=e;cases o with
    | none =>
      have hlf:=leafF_ok h1 he';simp only[am,decide_true,Option.isSome_none];exact retK_intro (by simp[V.nol,nolL,Ins.r_nol]) (Store.sub_refl _) ⟨⟨⟨2,0,e⟩,by rw[hlf];simp[V.erase,eraseL,Ins.r_er];rfl,fun j hj=>by rw[hlf] at hj;cases hj;rfl⟩,rfl⟩
    | some p =>
      have hlf:=leafF_bad h1 he';simp only[am,decide_false,Int.reduceEq,Option.isSome_some];exact retK_intro (by simp[V.nol,nolL,Ins.r_nol]) (Store.sub_refl _) ⟨⟨⟨2,0,e⟩,by rw[hlf];simp[V.erase,eraseL,Ins.r_er];rfl,fun j hj=>by rw[hlf] at hj;simp at hj⟩,rfl⟩
theorem codes_at {l:List Ins} {j:Nat} (h:j<l.length):(l.map Ins.enc)[((j:Nat):Int).toNat]?=some l[j].enc:=by simp[h]
end Go.Proofs.Tryz

namespace Go.Proofs.Tryz
open Go.Am
set_option maxRecDepth 4000
set_option maxHeartbeats 4000000
def codeT (o:Option (List Ins)):V:=.tup [.sl .no 10 ((o.getD []).map Ins.enc),.bool o.isSome]
theorem compR_in {s:Scp} {lat:Nat} {n:Nd} (h1:lat<s.lats.length) (h2:n.labelQ=true):compR s (lat:Nat) n=compF s lat n:=by
  rw[compR,if_pos ⟨by omega,by omega,h2⟩];rfl
end Go.Proofs.Tryz

namespace Go.Proofs.Tryz
open Go.Am
set_option maxRecDepth 4000
set_option maxHeartbeats 4000000
def ac9:AC:=.seq (.reg [⟨(some 3),.box 2 (.s 0),none⟩,⟨(some 5),.box 5 (.s 2),none⟩,⟨(some 6),.mv (.c (.sl .full 10 [])),none⟩,⟨(some 7),.mv (.c (.bool false)),none⟩])
 (.scope (.seq (.seq (.reg [xm 15 1,xB .lss 16 15 0,xm 17 16,xh 17 (xm 18 1),xh 17 (xf 0 19 3),xh 17 (xo 20 19),xh 17 (xL 21 20),xh 17 (xb .geq 22 18 21),⟨(some 23),.pick (.s 17) (.c (.bool true)) (.s 22),none⟩,xm 24 23,xh 24 (xl 5 25 5),xh 24 (xc 24 26 [.s 25]),⟨(some 27),.not (.s 26),(some (24,false))⟩,⟨(some 28),.pick (.s 24) (.c (.bool true)) (.s 27),none⟩])
 (.cond (.s 28) (.seq (.reg [⟨(some 6),.mv (.c (.sl .full 10 [])),none⟩,⟨(some 7),.mv (.c (.bool false)),none⟩])
 (.ret))
 (.skip)))
 (.seq (.reg [⟨(some 8),.mv (.c (.sl .full 10 [])),none⟩])
 (.seq (.reg [xl 5 29 5,⟨(some 30),.build [(.int .i64 0),(.int .i64 0),(.str []),(.sl .full 2 []),(.sl .full 5 []),(.int .i64 0)] [(0,5,(.s 29))],none⟩,⟨(some 31),.own (.new 6) [(.s 30)],none⟩,xm 9 31])
 (.seq (.skip)
 (.seq (.block 0 (.loop (.seq (.seq (.reg [xm 32 9,⟨(some 33),.own .len [(.s 32)],none⟩,xB .gtr 34 33 0])
 (.cond (.s 34) (.skip)
 (.exit 0)))
 (.block 1 (.seq (.reg [xm 35 9,⟨(some 36),.own .len [(.s 35)],none⟩,xB .sub 37 36 1,xm 10 37])
 (.seq (.reg [xm 38 9,xm 39 10,⟨(some 40),.own (.idx 6) [(.s 38),(.s 39)],none⟩,xl 6 41 40,⟨(some 11),.alloc [(.int .i64 0),(.int .i64 0),(.str []),(.sl .full 2 []),(.sl .full 5 []),(.int .i64 0)],none⟩,xs 6 11 41])
 (.seq (.reg [xi 12 3])
 (.seq (.seq (.reg [xf 0 42 11,xf 0 43 42,xo 44 43])
 (.block 2 (.seq (.seq (.reg [xB .eql 46 44 1,xm 45 46])
 (.cond (.s 45) (.skip)
 (.reg [xB .eql 47 44 7,xm 45 47])))
 (.cond (.s 45) (.seq (.reg [xl 2 49 3,xm 50 1,xf 0 51 11,xl 5 52 51,xc 25 53 [.s 49,.s 50,.s 52],xm 48 53,xe 54 48 0,xe 55 48 1,⟨(some 13),.alloc insZ,none⟩,xs 10 13 54,xm 14 55])
 (.seq (.seq (.reg [xm 56 14,⟨(some 57),.not (.s 56),none⟩])
 (.cond (.s 57) (.seq (.reg [⟨(some 6),.mv (.c (.sl .full 10 [])),none⟩,⟨(some 7),.mv (.c (.bool false)),none⟩])
 (.ret))
 (.skip)))
 (.seq (.reg [xm 58 8,xl 10 59 13,⟨(some 60),.bslice 10 [(.s 59)],none⟩,xa 10 61 58 60,xm 8 61])
 (.seq (.reg [xm 62 9,xm 63 10,⟨(some 64),.own (.slc 6 false true false) [(.s 62),(.s 63)],none⟩,xm 9 64])
 (.exit 1)))))
 (.seq (.reg [xB .eql 66 44 9,xm 65 66])
 (.cond (.s 65) (.reg [xi 12 4])
 (.skip)))))))
 (.seq (.seq (.reg [xf 5 67 11,xo 68 67,xf 0 69 11,xf 4 70 69,xo 71 70,xL 72 71,xb .lss 73 68 72])
 (.cond (.s 73) (.seq (.reg [xm 74 9,xm 75 10,⟨(some 76),.own (.idx 6) [(.s 74),(.s 75)],none⟩,xf 5 77 76,xo 78 77,xB .add 79 78 1,⟨(some 80),.own (.idx 6) [(.s 74),(.s 75)],none⟩,xf 5 81 80,xs 1 81 79])
 (.seq (.reg [xm 82 9,xf 0 83 11,xf 4 84 83,xo 85 84,xf 5 86 11,xo 87 86,xA 5 88 85 87,xl 5 89 88,⟨(some 90),.build [(.int .i64 0),(.int .i64 0),(.str []),(.sl .full 2 []),(.sl .full 5 []),(.int .i64 0)] [(0,5,(.s 89))],none⟩,⟨(some 91),.bslice 6 [(.s 90)],none⟩,⟨(some 92),.own (.app 6) [(.s 82),(.s 91)],none⟩,xm 9 92])
 (.exit 1)))
 (.skip)))
 (.seq (.reg [xm 93 8,xm 94 12,xf 0 95 11,xf 4 96 95,xo 97 96,xL 98 97,⟨(some 99),.build insZ [(0,1,(.s 94)),(1,1,(.s 98))],none⟩,⟨(some 100),.bslice 10 [(.s 99)],none⟩,xa 10 101 93 100,xm 8 101])
 (.reg [xm 102 9,xm 103 10,⟨(some 104),.own (.slc 6 false true false) [(.s 102),(.s 103)],none⟩,xm 9 104])))))))))))
 (.seq (.reg [xm 105 8,xm 6 105,⟨(some 7),.mv (.c (.bool true)),none⟩])
 (.ret))))))))
theorem fn9:IsFn prog 9 ac9 [.tmp 6,.tmp 7] 106:=⟨f9,⟨[33,36,40,64,76,80,92,104,100031],[],[]⟩,func9,by kernel_rfl,by kernel_rfl,by kernel_rfl,by kernel_rfl⟩
def frE (f:Nd × Nat):List V:=f.1.enc++[.int .i64 (f.2:Nat)]
section
variable {m:Nd} {d k:Nat} {x0 x1 x2 x3 x4 x5:V}
theorem fr_ex:frE (m,d)=[.int .i64 m.kind,.int .i64 m.pos,.str m.text,.sl .no 2 (m.names.map Word.enc),.sl .no 5 (m.kids.map Nd.enc),.int .i64 (d:Nat)]:=by rw[frE,Nd.enc_eq];rfl
theorem fr_len:(frE (m,d)).length=6:=by rw[fr_ex];rfl
theorem fr_one:oneL (frE (m,d))=true:=by rw[fr_ex];rfl
theorem fr_nol:nolL (frE (m,d))=true:=by rw[fr_ex];rfl
theorem fr_er:eraseL (frE (m,d))=frE (m,d):=by rw[fr_ex];rfl
theorem fr_lo:loL k (frE (m,d))=true:=by rw[fr_ex];rfl
theorem fr_ov:over [x0,x1,x2,x3,x4,x5] (frE (m,d))=frE (m,d):=by rw[fr_ex];rfl
theorem fr_k:ldC false 1 (frE (m,d))=some (.int .i64 m.kind):=by rw[fr_ex];rfl
theorem fr_ks:ldC false 1 ((frE (m,d)).drop 4)=some (.sl .no 5 (m.kids.map Nd.enc)):=by rw[fr_ex];rfl
theorem fr_d:ldC false 1 ((frE (m,d)).drop 5)=some (.int .i64 (d:Nat)):=by rw[fr_ex];rfl
theorem fr_n:takeN 5 (frE (m,d))=some m.enc:=takeN_app Nd.r_len
theorem fr_bld:over [x0,x1,x2,x3,x4,.int .i64 0] m.enc=frE (m,0):=by rw[fr_ex,Nd.enc_eq];rfl
theorem fr_has5:hasN 5 [x0,x1,x2,x3,x4,x5]=true:=rfl
theorem fr_st:setAt (frE (m,d)) 5 [.int .i64 (k:Nat)]=frE (m,k):=by rw[fr_ex,fr_ex];rfl
def fr_rec:=And.intro @fr_len <| And.intro @fr_one <| And.intro @fr_nol <| And.intro @fr_er <| And.intro @fr_lo <| And.intro @fr_ov <| And.intro @fr_k <| And.intro @fr_ks <| And.intro @fr_d <| And.intro @fr_n <| And.intro @fr_bld @fr_has5
end
structure CF (s:Scp) (lat:Nat) (n:Nd) (σ:Store) where
  fs:List (Nd × Nat)
  out:List Ins
  v:V
  tk:Tk
  st:Store
  fin:finF s lat fs out=compF s lat n
  all:∀f∈fs,f.1.labelQ=true∧f.1.wt≤n.wt∧f.1.cnt≤n.cnt
  mes:out.length+mesF fs≤2*n.cnt+1
  own:Own st 6 v (fs.reverse.map frE)
  sub:OwnS σ st v
  gr:Gr σ st tk out.length
def invCF (s:Scp) (lat:Nat) (n:Nd) (out:List Ins) (v:V) (tk:Tk) (σ:Store):St :=
  ⟨[.any,.int .i64 (lat:Nat),.any,.ptr (.loc 0) 0,.any,.ptr (.loc 1) 0,.any,.any,.sl tk 10 (out.map Ins.enc),v]++List.replicate 96 .any,[s.enc,n.enc],σ⟩
theorem own_lo {σ:Store} {k n:Nat} {v:V} {rows:List (List V)} (h:Own σ k v rows):v.lo n=true:=by obtain⟨a,cap,rfl,_⟩:=h;rfl
theorem own_boxes {σ σ' : Store} {k:Nat} {v:V} {rows:List (List V)} (h:Own σ k v rows) (e:σ'.box=σ.box):Own σ' k v rows:=h.frame fun b cs _ hc=>by rw[e];exact hc
theorem gr_tips {σ0 σ σ' : Store} {tk:Tk} {n:Nat} (h:Gr σ0 σ tk n) (hs:σ0.sub σ') (e:σ'.tip=σ.tip):Gr σ0 σ' tk n:=⟨hs,h.tk.imp id fun⟨τ,a,b,c⟩=>⟨τ,a,by rw[e];exact b,c⟩⟩
theorem mes_len:∀(fs:List (Nd × Nat)),fs.length≤mesF fs
  | []=>Nat.le_refl _
  | f::fs=>by have:=mes_len fs;simp only[mesF,List.length_cons];omega
def z34_:=And.intro @am <| And.intro @amc <| And.intro @ams <| And.intro @Nd.rec_ <| And.intro @Scp.rec_ @Ins.rec_
theorem ccompile_calls (s:Scp) (lat:Int) (n:Nd) {σ:Store} (hg:TZ σ) (hs:s.ok) (hw:n.wt≤big) (hc:n.cnt≤100000) :
    PCalls prog 9 [.agg s.enc,.int .i64 lat,.agg n.enc] σ fun v σ' => v=codeT (compR s lat n)∧σ' = σ:=by
  refine fn9.calls ?_;simp only[slots,ac9,z34_,Nat.reduceAdd];have no:∀(u:List V) (l:List (List V)) (σ1:Store),compR s lat n=none→σ.sub σ1→RetK (fun v σ' => v=codeT (compR s lat n)∧σ' = σ) ⟨u,l,σ1⟩ (.tup [.sl .full 10 [],.bool false]):=fun u l σ1 h h' => by
    rw[h];exact retK_intro rfl h' ⟨rfl,rfl⟩
  by_cases hn:lat<0
  · simp only[am,amc,decide_eq_true hn];exact no _ _ _ (by rw[compR,if_neg (by omega)]) (Store.sub_refl _)
  · obtain⟨lat,rfl⟩:∃m:Nat,lat=m:=⟨lat.toNat,by omega⟩;simp only[am,List.length_map,Scp.rec_,List.length_map,decide_eq_false hn]
    by_cases hlat:s.lats.length≤lat
    · simp only[am,amc,decide_eq_true (show (s.lats.length:Int)≤(lat:Nat) by omega)];exact no _ _ _ (by rw[compR,if_neg (by omega)]) (Store.sub_refl _)
    · have hlt:lat<s.lats.length:=by omega
      simp only[am,Nd.rec_,decide_eq_false (show ¬(s.lats.length:Int)≤(lat:Nat) by omega)];refine cl (label_is_calls _ n σ (Nat.le_refl _) hw) ?_;cases hl:n.labelQ with
      | false =>
        simp only[am,amc];exact no _ _ _ (by rw[compR,hl,if_neg (by simp)]) (Store.sub_refl _)
      | true =>
        have hR:=compR_in hlt hl;simp only[am,amo,Nd.rec_,fr_rec];refine Own.mk1 (c:=frE (n,0)) (by simp[keepV,V.cells,fr_len,fr_nol,fr_one,V.wd]) fr_len fr_nol fun v σ1 hO hS=>?_
        simp only[am];obtain⟨I,hI⟩:∃I:CF s lat n σ→St,∀p,I p=invCF s lat n p.out p.v p.tk p.st:=⟨_,fun _=>rfl⟩;refine vc_loop I (fun p=>mesF p.fs) ?_ ?_
        · refine Upd.enter (I:=I) ⟨[(n,0)],[],v,.full,σ1,by simp only[finF,restF_zero];cases compF s lat n<;>rfl,by simp[hl],?_,by simpa using hO,hS,⟨hS.sub,.inl rfl⟩⟩ ?_ ?_ ?_
          · have:=Nd.cnt_pos n;simp only[mesF,List.drop_zero,List.length_nil];omega
          all_goals simp[hI,invCF,List.replicate,am,lle_self]
        · rintro⟨fs,out,v,tk,σ1,hfin,hall,hmes,hO,hS,hG⟩;simp only[hI,invCF,List.replicate,am,amo];have hml:=mes_len fs;refine hO.len ?_;cases fs with
          | nil =>
            have e:compF s lat n=some out:=by rw[←hfin];rfl
            simp only[am,amc,List.reverse_nil,List.map_nil,List.length_nil,show decide ((0:Int)<((0:Nat):Int))=false from rfl];exact retK_intro rfl hG.sub ⟨by rw[hR,e];rfl,rfl⟩
          | cons f fs =>
            obtain⟨m,d⟩:=f;obtain⟨hml1,hmw,hmc⟩:=hall (m,d) (by simp);simp only at hml1 hmw hmc;have hrl:(List.map frE ((m,d)::fs).reverse).length=fs.length+1:=by simp
            have hat:(List.map frE ((m,d)::fs).reverse)[fs.length]?=some (frE (m,d)):=by simp
            have htake:(List.map frE ((m,d)::fs).reverse).take fs.length=List.map frE fs.reverse:=by simp
            have hlb:fs.length+1≤2*n.cnt+1:=by simp only[List.length_cons] at hml;omega
            have hgs:TZ σ1:=hG.sub.1 _ _ hg;simp only[am,amo,hrl,show decide ((0:Int)<((fs.length+1:Nat):Int))=true from decide_eq_true (by omega)];refine hO.len ?_;simp only[am,amo,hrl];rw[wrap_i64 (by omega) (by omega),show ((fs.length+1:Nat):Int) - 1=(fs.length:Nat) by omega];refine hO.idx (by omega) (j:=(fs.length:Nat)) (c:=frE (m,d)) (by rw[Int.toNat_natCast];exact hat) fun b cs rest hb hcs hdr=>?_
            rw[Int.toNat_natCast] at hdr ⊢;have hld:takeN 6 (cs.drop (fs.length*6))=some (frE (m,d)):=by rw[hdr];exact takeN_app fr_len
            simp only[am,Nat.reduceAdd,hcs,hld,fr_rec]
            by_cases hk:m.kind=1∨m.kind=7
            · have hsel:(decide (m.kind=1)=true)∨(decide (m.kind=1)=false∧decide (m.kind=7)=true):=by
                by_cases h1:m.kind=1
                · exact .inl (decide_eq_true h1)
                · exact .inr ⟨decide_eq_false h1,decide_eq_true (by simpa [h1] using hk)⟩
              have hlf:=restF_leaf (s:=s) (lat:=lat) (d:=d) (fs:=fs) (out:=out) hk;rw[hlf] at hfin
              rcases hsel with e1 | ⟨e1,e2⟩
              case' inl=>simp only[am,Nd.rec_,Scp.rec_,e1,fr_rec]
              case' inr=>simp only[am,Nd.rec_,Scp.rec_,e1,e2,fr_rec]
              all_goals
                refine(leaf_calls14 s lat m hgs hs hlt (by omega) (by omega) hml1 hk).mono ?_;rintro v' σ' ⟨⟨i,rfl,hi⟩,rfl⟩;simp only[am,Nat.reduceAdd,Ins.rec_];cases hleaf:leafF s lat m with
                | none =>
                  rw[hleaf] at hfin;simp only[am,amc,Option.isSome_none];exact no _ _ _ (by rw[hR,←hfin]) hG.sub
                | some j =>
                  obtain rfl:=hi j hleaf;rw[hleaf] at hfin;simp only[am,Ins.rec_,Option.isSome_some];refine Gr.app (by simpa using hG) (by simp only[mesF] at hmes;simp[big];omega) fun tk' σ2 hG' hB _=>?_
                  simp only[am,amo];refine(own_boxes hO hB).take (m:=fs.length) (by omega) (Int.toNat_natCast _) (by rw[hrl];omega) fun v2 hO2 hb2=>?_
                  rw[htake] at hO2;simp only[am,amc,Nat.reduceEqDiff,reduceCtorEq];refine Upd.againD (I:=I) ⟨fs,out++[i],v2,tk',σ2,hfin,fun f hf=>hall f (List.mem_cons_of_mem _ hf),by simp only[mesF] at hmes;rw[List.length_append,List.length_singleton];omega,hO2,⟨hG'.sub,fun b hb=>hS.new b (by rw[←hb2];exact hb)⟩,by simpa using hG'⟩ (by simp only[mesF];omega) ?_ ?_ ?_ ?_ ?_
                  all_goals simp[hI,invCF,List.replicate,am,lle_self,loL,loLL,V.lo,Scp.r_lo,Nd.r_lo,own_lo hO2]
            · have e1:decide (m.kind=1)=false:=decide_eq_false fun h=>hk (.inl h)
              have e7:decide (m.kind=7)=false:=decide_eq_false fun h=>hk (.inr h)
              simp only[am,e1,e7];have hkids:=label_kids hml1 hk;have hkc:=cnt_kids m
              by_cases h9:m.kind=9
              case' pos =>
                have eo:opF m=⟨4,m.kids.length,.zero⟩:=by rw[opF,if_pos h9]
                simp only[am,List.length_map,List.length_map,decide_eq_true h9,fr_rec]
              case' neg =>
                have eo:opF m=⟨3,m.kids.length,.zero⟩:=by rw[opF,if_neg h9]
                simp only[am,List.length_map,List.length_map,decide_eq_false h9,fr_rec]
              all_goals
                by_cases hd:d<m.kids.length
                · have hdr5:cs.drop (fs.length*6+5)=(frE (m,d)).drop 5++rest:=by
                    rw[←List.drop_drop,hdr,List.drop_append_of_le_length (by rw[fr_len];omega)]
                  have h5:(frE (m,d)).drop 5=[.int .i64 (d:Nat)]:=by rw[fr_ex];rfl
                  have hld5:ldC false 1 (cs.drop (fs.length*6+5))=some (.int .i64 (d:Nat)):=by rw[hdr5,h5];rfl
                  have hhas5:hasN 1 (cs.drop (fs.length*6+5))=true:=by rw[hdr5,h5];rfl
                  obtain⟨hO2,hF2⟩:=hO.put (off:=5) (x:=[.int .i64 ((d+1:Nat):Int)]) hat hb hcs (by simp);have hset:(List.map frE ((m,d)::fs).reverse).set fs.length (setAt (frE (m,d)) 5 [.int .i64 ((d+1:Nat):Int)])=List.map frE ((m,d+1)::fs).reverse:=by
                    rw[fr_st];simp
                  rw[hset] at hO2;have hmm:m.kids[d]∈m.kids:=List.getElem_mem hd;have hkw:=kid_wt hmm;have hkc2:=cnt_kid hmm;simp only[am,amo,dlt hd];refine hO.idx (by omega) (j:=(fs.length:Nat)) (c:=frE (m,d)) (by rw[Int.toNat_natCast];exact hat) fun b2 cs2 rest2 hb2 hcs2 _=>?_
                  obtain rfl:b=b2:=by rw[hb] at hb2;exact Option.some.inj hb2
                  rw[Int.toNat_natCast];simp only[am,amo,hcs,hld5,winc hd (by omega)];refine hO.idx (by omega) (j:=(fs.length:Nat)) (c:=frE (m,d)) (by rw[Int.toNat_natCast];exact hat) fun b2 cs2 rest2 hb2 hcs2 _=>?_
                  obtain rfl:b=b2:=by rw[hb] at hb2;exact Option.some.inj hb2
                  rw[Int.toNat_natCast];simp only[am,hcs,hhas5,fr_rec];refine idxL_intro (by omega) (nencs_at (List.getElem?_eq_getElem hd)) ?_;simp only[am,amo,Nd.rec_,fr_rec];refine hO2.app (m:=[frE (m.kids[d],0)]) (by simp[fr_len]) (by simp[fr_nol]) (by simp[big];omega) fun v3 σ3 hO3 hF3=>?_
                  have hS3:=(hS.step hF2).step hF3;have hG3:=gr_tips hG hS3.sub (hF3.tip.trans hF2.tip);simp only[am,amc,reduceCtorEq];refine Upd.againD (I:=I) ⟨(m.kids[d],0)::(m,d+1)::fs,out,v3,tk,σ3,by rw[←restF_kid hk hd];exact hfin,?_,?_,by simpa using hO3,hS3,hG3⟩ (mes_kid hd) ?_ ?_ ?_ ?_ ?_
                  · intro f hf
                    rcases List.mem_cons.1 hf with rfl | hf
                    · exact⟨hkids _ hmm,by simp only;omega,by simp only;omega⟩
                    · rcases List.mem_cons.1 hf with rfl | hf
                      · exact⟨hml1,hmw,hmc⟩
                      · exact hall f (List.mem_cons_of_mem _ hf)
                  · have:=mes_kid (fs:=fs) hd;omega
                  all_goals simp[hI,invCF,List.replicate,am,lle_self,loL,loLL,V.lo,Scp.r_lo,Nd.r_lo,own_lo hO3]
                · simp only[am,List.length_map,Ins.rec_,List.length_map,decide_eq_false (show ¬(d:Int)<(m.kids.length:Nat) by omega),fr_rec];refine Gr.app (by simpa using hG) (by simp only[mesF] at hmes;simp[big];omega) fun tk' σ2 hG' hB _=>?_
                  simp only[am,amo];refine(own_boxes hO hB).take (m:=fs.length) (by omega) (Int.toNat_natCast _) (by rw[hrl];omega) fun v2 hO2 hb2=>?_
                  rw[htake] at hO2;simp only[am];refine Upd.againD (I:=I) ⟨fs,out++[opF m],v2,tk',σ2,by rw[←restF_end hk (Nat.le_of_not_lt hd)];exact hfin,fun f hf=>hall f (List.mem_cons_of_mem _ hf),by simp only[mesF] at hmes;rw[List.length_append,List.length_singleton];omega,hO2,⟨hG'.sub,fun b hb=>hS.new b (by rw[←hb2];exact hb)⟩,by simpa using hG'⟩ (by simp only[mesF];omega) ?_ ?_ ?_ ?_ ?_
                  all_goals simp[hI,invCF,List.replicate,am,lle_self,loL,loLL,V.lo,Scp.r_lo,Nd.r_lo,eo,Ins.zero,own_lo hO2]
end Go.Proofs.Tryz

namespace Go.Proofs.Tryz
open Go.Am
set_option maxRecDepth 4000
set_option maxHeartbeats 4000000
def ac14:AC:=.seq (.reg [⟨(some 3),.box 2 (.s 0),none⟩,⟨(some 6),.alloc elmZ,none⟩,⟨(some 7),.mv (.c (.bool false)),none⟩])
 (.seq (.seq (.reg [xm 12 1,xc 15 13 [.s 12],⟨(some 14),.not (.s 13),none⟩])
 (.cond (.s 14) (.seq (.reg [⟨(some 15),.build elmZ [],none⟩,xs 8 6 15,⟨(some 7),.mv (.c (.bool false)),none⟩])
 (.ret))
 (.skip)))
 (.seq (.reg [⟨(some 8),.mv (.c (.sl .full 8 [])),none⟩])
 (.seq (.seq (.reg [xm 16 1,xL 17 16,xi 18 0])
 (.block 0 (.loop (.seq (.reg [xb .lss 19 18 17])
 (.seq (.cond (.s 19) (.skip)
 (.exit 0))
 (.seq (.block 1 (.seq (.reg [xA 10 20 16 18,xl 10 21 20,⟨(some 10),.alloc insZ,none⟩,xs 10 10 21])
 (.seq (.reg [xf 0 22 10,xo 23 22])
 (.block 2 (.seq (.reg [xB .eql 43 23 1,xm 42 43])
 (.cond (.s 42) (.seq (.seq (.reg [xf 1 44 10,xo 45 44,xB .lss 46 45 0,xm 47 46,xh 47 (xf 1 48 10),xh 47 (xo 49 48),xh 47 (xm 50 2),xh 47 (xL 51 50),xh 47 (xb .geq 52 49 51),⟨(some 53),.pick (.s 47) (.c (.bool true)) (.s 52),none⟩])
 (.cond (.s 53) (.seq (.reg [⟨(some 54),.build elmZ [],none⟩,xs 8 6 54,⟨(some 7),.mv (.c (.bool false)),none⟩])
 (.ret))
 (.skip)))
 (.reg [xm 55 8,xm 56 2,xf 1 57 10,xo 58 57,xA 8 59 56 58,xl 8 60 59,⟨(some 61),.bslice 8 [(.s 60)],none⟩,xa 8 62 55 61,xm 8 62]))
 (.seq (.reg [xB .eql 64 23 2,xm 63 64])
 (.cond (.s 63) (.reg [xm 65 8,xf 2 66 10,xl 8 67 66,⟨(some 68),.bslice 8 [(.s 67)],none⟩,xa 8 69 65 68,xm 8 69])
 (.seq (.reg [xm 24 8,xL 25 24,xf 1 26 10,xo 27 26,xb .sub 28 25 27,xm 11 28])
 (.seq (.draw [(xm 29 8,[]),(xm 30 11,[]),(xm 31 11,[]),(⟨(some 32),.slc 8 (.s 29) none (some (.s 30)) (some (.s 31)),none⟩,[]),(xl 2 33 3,[]),(xf 0 34 10,[]),(xo 35 34,[]),(xm 36 8,[]),(xm 37 11,[]),(⟨(some 38),.slc 8 (.s 36) (some (.s 37)) none none,none⟩,[]),(xc 33 39 [.s 33,.s 35,.s 38],[]),(⟨(some 40),.bslice 8 [(.s 39)],none⟩,[])])
 (.reg [xa 8 41 32 40,xm 8 41])))))))))))
 (.reg [xB .add 70 18 1,xm 18 70])))))))
 (.seq (.reg [xm 71 8,⟨(some 72),.idxA 8 (.s 71) (.c (.int .i64 0)),none⟩,xl 8 73 72,xs 8 6 73,⟨(some 7),.mv (.c (.bool true)),none⟩])
 (.ret)))))
theorem fn14:IsFn prog 14 ac14 [.cell 6 true 8,.tmp 7] 74:=⟨f14,⟨[],[],[9]⟩,func14,by kernel_rfl,by kernel_rfl,by kernel_rfl,by kernel_rfl⟩
def ac15:AC:=.seq (.reg [⟨(some 2),.mv (.c (.bool false)),none⟩])
 (.seq (.reg [xi 3 0])
 (.seq (.seq (.reg [xm 6 0,xL 7 6,xi 8 0])
 (.block 0 (.loop (.seq (.reg [xb .lss 9 8 7])
 (.seq (.cond (.s 9) (.skip)
 (.exit 0))
 (.seq (.block 1 (.seq (.reg [xA 10 10 6 8,xl 10 11 10,⟨(some 5),.alloc insZ,none⟩,xs 10 5 11])
 (.seq (.reg [xf 0 12 5,xo 13 12])
 (.block 2 (.seq (.seq (.reg [xB .eql 15 13 1,xm 14 15])
 (.cond (.s 14) (.skip)
 (.reg [xB .eql 16 13 2,xm 14 16])))
 (.cond (.s 14) (.reg [xm 17 3,xB .add 18 17 1,xm 3 18])
 (.seq (.seq (.reg [xB .eql 20 13 3,xm 19 20])
 (.cond (.s 19) (.skip)
 (.reg [xB .eql 21 13 4,xm 19 21])))
 (.cond (.s 19) (.seq (.seq (.reg [xf 1 22 5,xo 23 22,xB .lss 24 23 1,xm 25 24,xh 25 (xf 1 26 5),xh 25 (xo 27 26),xh 25 (xm 28 3),xh 25 (xb .gtr 29 27 28),⟨(some 30),.pick (.s 25) (.c (.bool true)) (.s 29),none⟩])
 (.cond (.s 30) (.seq (.reg [⟨(some 2),.mv (.c (.bool false)),none⟩])
 (.ret))
 (.skip)))
 (.reg [xm 31 3,xf 1 32 5,xo 33 32,xB .sub 34 33 1,xb .sub 35 31 34,xm 3 35]))
 (.seq (.reg [⟨(some 2),.mv (.c (.bool false)),none⟩])
 (.ret))))))))))
 (.reg [xB .add 36 8 1,xm 8 36])))))))
 (.seq (.reg [xm 37 3,xB .eql 38 37 1,xm 2 38])
 (.ret))))
theorem fn15:IsFn prog 15 ac15 [.tmp 2] 39:=⟨f15,⟨[],[],[]⟩,func15,by kernel_rfl,by kernel_rfl,by kernel_rfl,by kernel_rfl⟩
def ac33:AC:=.seq (.reg [⟨(some 3),.box 2 (.s 0),none⟩,⟨(some 6),.alloc elmZ,none⟩])
 (.seq (.reg [xm 9 2,xm 10 2,xL 11 10,xB .sub 12 11 1,xA 8 13 9 12,xl 8 14 13,⟨(some 7),.alloc elmZ,none⟩,xs 8 7 14])
 (.seq (.seq (.reg [xm 15 2,xL 16 15,xB .sub 17 16 2,xm 8 17])
 (.block 0 (.loop (.seq (.seq (.reg [xm 18 8,xB .geq 19 18 0])
 (.cond (.s 19) (.skip)
 (.exit 0)))
 (.seq (.block 1 (.seq (.seq (.reg [xm 22 1,xB .eql 23 22 3])
 (.cond (.s 23) (.seq (.draw [(xl 2 24 3,[]),(xm 25 2,[]),(xm 26 8,[]),(xA 8 27 25 26,[]),(xl 8 28 27,[]),(xl 8 29 7,[]),(xc 53 30 [.s 24,.s 28,.s 29],[]),(xs 8 7 30,[])])
 (.exit 1))
 (.skip)))
 (.draw [(xm 31 2,[]),(xm 32 8,[]),(xA 8 33 31 32,[]),(xl 8 34 33,[]),(xl 8 35 7,[]),(xc 54 36 [.s 34,.s 35],[]),(xs 8 7 36,[])])))
 (.reg [xm 20 8,xB .sub 21 20 1,xm 8 21]))))))
 (.seq (.reg [xl 8 37 7,xs 8 6 37])
 (.ret))))
theorem fn33:IsFn prog 33 ac33 [.cell 6 true 8] 38:=⟨f33,⟨[],[],[]⟩,func33,by kernel_rfl,by kernel_rfl,by kernel_rfl,by kernel_rfl⟩
theorem cright_calls (l:List Ins) (σ:Store) (hl:l.length≤100000):PCalls prog 15 [.sl .no 10 (l.map Ins.enc)] σ fun v σ' => v = .bool (rightC l)∧σ' = σ:=by
  refine fn15.calls ?_;simp only[slots,ac15,am,ams,Ins.rec_,List.length_map];obtain⟨F,hF⟩:∃F:Nat→Nat→St,∀i d,F i d=⟨[.any,.any,.bool false,.int .i64 (d:Nat),.any,.any,.sl .no 10 (l.map Ins.enc),.int .i64 (l.length:Nat),.int .i64 (i:Nat)]++List.replicate 30 .any,[],σ⟩:=⟨_,fun _ _=>rfl⟩;obtain⟨JF,hJF⟩:∃JF:Nat→Nat→Prop,∀i d,JF i d=(deepF l 0=deepF (l.drop i) d∧d≤i):=⟨_,fun _ _=>rfl⟩;refine vc_count (l.length) F JF _ hJF ?_ ?_ ?_
  · refine ent (0) ?_ ?_ ?_ ?_
    · exact Eq.mpr (hJF _ _) (⟨rfl,Nat.le_refl _⟩)
    all_goals simp[hF,List.replicate,am,lle_self]
  · rintro i d hi ⟨hJ,hd⟩;rw[List.drop_eq_getElem_cons hi,deepF] at hJ;have no:deepF l 0=none→rightC l=false:=fun h=>by rw[rightC,h];rfl
    simp only[hF,List.replicate,am,dlt hi];refine idxL_intro (by omega) (codes_at hi) ?_;simp only[am,Ins.rec_]
    by_cases h1:l[i].op=1∨l[i].op=2
    · rw[if_pos h1] at hJ;have hsel:(decide (l[i].op=1)=true)∨(decide (l[i].op=1)=false∧decide (l[i].op=2)=true):=by
        by_cases h:l[i].op=1
        · exact .inl (decide_eq_true h)
        · exact .inr ⟨decide_eq_false h,decide_eq_true (by simpa [h] using h1)⟩
      rcases hsel with e1 | ⟨e1,e2⟩
      case' inl=>simp only[am,aml,e1,winc hi (by omega),winc (n:=d+1) (Nat.lt_succ_self d) (by omega)]
      case' inr=>simp only[am,aml,e1,e2,winc hi (by omega),winc (n:=d+1) (Nat.lt_succ_self d) (by omega)]
      all_goals
        refine nxtD (d+1) hi ?_ ?_ ?_ ?_ ?_ ?_
        · exact Eq.mpr (hJF _ _) (⟨hJ,by omega⟩)
        all_goals simp[hF,List.replicate,am,lle_self,loL,loLL,V.lo]
    · rw[if_neg h1] at hJ;have e1:decide (l[i].op=1)=false:=decide_eq_false fun h=>h1 (.inl h)
      have e2:decide (l[i].op=2)=false:=decide_eq_false fun h=>h1 (.inr h)
      by_cases h3:l[i].op=3∨l[i].op=4
      · rw[if_pos h3] at hJ;have hsel:(decide (l[i].op=3)=true)∨(decide (l[i].op=3)=false∧decide (l[i].op=4)=true):=by
          by_cases h:l[i].op=3
          · exact .inl (decide_eq_true h)
          · exact .inr ⟨decide_eq_false h,decide_eq_true (by simpa [h] using h3)⟩
        rcases hsel with e3 | ⟨e3,e4⟩
        case' inl=>simp only[am,Ins.rec_,e1,e2,e3]
        case' inr=>simp only[am,Ins.rec_,e1,e2,e3,e4]
        all_goals
          by_cases hb:l[i].n<1
          · rw[if_pos (.inl hb)] at hJ;simp only[am,aml,decide_eq_true hb];refine retS ?_;simp[V.erase,no hJ]
          · simp only[am,Ins.rec_,decide_eq_false hb]
            by_cases hb2:((d:Nat):Int)<l[i].n
            · rw[if_pos (.inr hb2)] at hJ;simp only[am,aml,decide_eq_true hb2];refine retS ?_;simp[V.erase,no hJ]
            · rw[if_neg (by omega)] at hJ;simp only[am,aml,Ins.rec_,decide_eq_false hb2];rw[wrap_i64 (x:=l[i].n - 1) (by omega) (by omega),wrap_i64 (x:=((d:Nat):Int) - (l[i].n - 1)) (by omega) (by omega),show ((d:Nat):Int) - (l[i].n - 1)=((d - (l[i].n.toNat - 1):Nat):Int) by omega];simp only[winc hi (by omega)];refine nxtD (d - (l[i].n.toNat - 1)) hi ?_ ?_ ?_ ?_ ?_ ?_
              · exact Eq.mpr (hJF _ _) (⟨hJ,by omega⟩)
              all_goals simp[hF,List.replicate,am,lle_self,loL,loLL,V.lo]
      · rw[if_neg h3] at hJ;have e3:decide (l[i].op=3)=false:=decide_eq_false fun h=>h3 (.inl h)
        have e4:decide (l[i].op=4)=false:=decide_eq_false fun h=>h3 (.inr h)
        simp only[am,aml,e1,e2,e3,e4];refine retS ?_;simp[V.erase,no hJ]
  · rintro d ⟨hJ,hd⟩;rw[List.drop_length,deepF] at hJ;simp only[hF,List.replicate,am,aml,dnl,aml];refine retS ?_;simp[V.erase,rightC,hJ];omega
theorem slcL_fullq {k:Nat} {τ:Tk} {m:List (List V)} {j j' : IntKind} {b:Nat} {H:V→Prop} (h2:b≤m.length) (h:H (.sl .full k (m.take b))):slcL k (.sl τ k m) none (some (.int j b)) (some (.int j' b)) H:=.inl ⟨τ,m,0,b,rfl,Nat.zero_le _,h2,rfl,⟨j,rfl⟩,⟨j',rfl⟩,h⟩
theorem elms_at {l:List Elm} {j:Nat} (h:j<l.length):(l.map Elm.enc)[((j:Nat):Int).toNat]?=some l[j].enc:=by simp[h]
theorem fold_calls (s:Shp) (op:Int) (l:List Elm) {σ:Store} (hg:TZ σ) (hok:s.ok) (h0:1≤l.length) (hl:l.length≤100000) :
    PCalls prog 33 [.agg s.enc,.int .i64 op,.sl .no 8 (l.map Elm.enc)] σ fun v σ' => v = .agg (foldE s op l).enc∧σ' = σ:=by
  refine fn33.calls ?_;simp only[slots,ac33,z18_,Nat.reduceAdd,List.length_map];rw[wrap_i64 (by omega) (by omega),show ((l.length:Nat):Int) - 1=((l.length - 1:Nat):Int) by omega];refine idxL_intro (by omega) (elms_at (by omega)) ?_;simp only[am,Nat.reduceAdd,List.length_map,Elm.rec_,List.length_map];rw[wrap_i64 (by omega) (by omega)];obtain⟨F,hF⟩:∃F:Nat→Unit→St,∀k x,F k x=⟨[.any,.int .i64 op,.sl .no 8 (l.map Elm.enc),.ptr (.loc 0) 0,.any,.any,.ptr (.loc 1) 0,.ptr (.loc 2) 0,.int .i64 (((l.length:Nat):Int) - 2 - (k:Nat))]++List.replicate 29 .any,[s.enc,Elm.zero.enc,(foldE s op (l.drop (l.length - 1 - k))).enc],σ⟩:=⟨_,fun _ _=>rfl⟩;obtain⟨JF,hJF⟩:∃JF:Nat→Unit→Prop,∀k x,JF k x=(True):=⟨_,fun _ _=>rfl⟩;refine vc_count (l.length - 1) F JF _ hJF ?_ ?_ ?_
  · have e:l.drop (l.length - 1)=[l[l.length - 1]]:=by rw[List.drop_eq_getElem_cons (by omega),List.drop_of_length_le (by omega)]
    refine ent (()) ?_ ?_ ?_ ?_
    · exact Eq.mpr (hJF _ _) (trivial)
    all_goals simp[hF,List.replicate,am,lle_self,e,foldE]
  · rintro k x hi -;have hk:l.length - 2 - k<l.length:=by omega
    have hf:=foldE_drop' (s:=s) (op:=op) (l:=l) (i:=l.length - 2 - k) (j:=l.length - 1 - k) (by omega) (by omega) hk;have hj:((l.length:Nat):Int) - 2 - (k:Nat)=((l.length - 2 - k:Nat):Int):=by omega
    have hj2:((l.length:Nat):Int) - 2 - ((k+1:Nat):Int)=((l.length - 2 - k:Nat):Int) - 1:=by omega
    have hj4:((l.length:Nat):Int) - 2 - (((k:Nat):Int)+1)=((l.length - 2 - k:Nat):Int) - 1:=by omega
    have hj3:l.length - 1 - (k+1)=l.length - 2 - k:=by omega
    simp only[hF,List.replicate,am,hj,show decide ((0:Int)≤((l.length - 2 - k:Nat):Int))=true from decide_eq_true (by omega)]
    by_cases h3:op=3
    · rw[stepE,if_pos h3] at hf;simp only[am,Shp.rec_,decide_eq_true h3];refine idxL_intro (by omega) (elms_at hk) ?_;simp only[am,Shp.rec_,Elm.rec_];refine CallD.intro (join_calls7 s l[l.length - 2 - k] (foldE s op (l.drop (l.length - 1 - k))) hg hok) ?_;simp only[am,aml,reduceCtorEq,Elm.rec_,←hf];rw[wrap_i64 (by omega) (by omega)];refine nxt (()) hi ?_ ?_ ?_ ?_
      · exact Eq.mpr (hJF _ _) (trivial)
      all_goals simp[hF,List.replicate,am,lle_self,hj3,hj4]
    · rw[stepE,if_neg h3] at hf;simp only[am,decide_eq_false h3];refine idxL_intro (by omega) (elms_at hk) ?_;simp only[am,Elm.rec_];refine CallD.intro (meet_calls7 l[l.length - 2 - k] (foldE s op (l.drop (l.length - 1 - k))) σ) ?_;simp only[am,aml,Elm.rec_,←hf];rw[wrap_i64 (by omega) (by omega)];refine nxt (()) hi ?_ ?_ ?_ ?_
      · exact Eq.mpr (hJF _ _) (trivial)
      all_goals simp[hF,List.replicate,am,lle_self,hj3,hj4]
  · rintro x -;simp only[hF,List.replicate,am,aml,aml,Elm.rec_,decide_eq_false (show ¬(0:Int)≤((l.length:Nat):Int) - 2 - ((l.length - 1:Nat):Int) by omega),Nat.sub_self,List.drop_zero];exact retK_intro (v:=.agg (foldE s op l).enc) Elm.r_nol (Store.sub_refl _) ⟨by simp only[V.erase,Elm.r_er],rfl⟩
def z35_:=And.intro @am <| And.intro @ams <| And.intro @Shp.rec_ <| And.intro @Elm.rec_ @Ins.rec_
def z36_:=And.intro @am <| And.intro @amc <| And.intro @Shp.rec_ @Ins.rec_
theorem eval_calls (s:Shp) (l:List Ins) (v:List Elm) {σ:Store} (hg:TZ σ) (hok:s.ok) (hl:l.length≤50000) (hv:v.length≤100000) :
    PCalls prog 14 [.agg s.enc,.sl .no 10 (l.map Ins.enc),.sl .no 8 (v.map Elm.enc)] σ fun r σ' => r=evalT (evalF s l v)∧σ' = σ:=by
  refine fn14.calls ?_;simp only[slots,ac14,z35_,Nat.reduceAdd];have done:∀(e:Elm) (b:Bool) (t:List V) (lo:List (List V)) (σ1:Store),evalT (evalF s l v) = .tup [.agg e.enc,.bool b]→σ.sub σ1→RetK (fun r σ' => r=evalT (evalF s l v)∧σ' = σ) ⟨t,lo,σ1⟩ (.tup [.agg e.enc,.bool b]):=fun e b t lo σ1 he hs=>by
    rw[he];exact retK_intro (by simp[V.nol,nolL,Elm.r_nol]) hs ⟨by simp[V.erase,eraseL,Elm.r_er],rfl⟩
  refine cl (cright_calls l σ (by omega)) ?_;cases hr:rightC l with
  | false =>
    simp only[am,Elm.rec_];exact done .zero false _ _ _ (by rw[evalF,hr];rfl) (Store.sub_refl _)
  | true =>
    have hd0:deepF l 0=some 1:=by simpa [rightC] using hr
    simp only[am,List.length_map,List.length_map];obtain⟨F,hF⟩:∃F:Nat→List Elm × Tk × Store→St,∀i x,F i x=⟨[.any,.any,.sl .no 8 (v.map Elm.enc),.ptr (.loc 0) 0,.any,.any,.ptr (.loc 1) 0,.any,.sl x.2.1 8 (x.1.map Elm.enc),.any,.any,.any,.any,.any,.any,.any,.sl .no 10 (l.map Ins.enc),.int .i64 (l.length:Nat),.int .i64 (i:Nat)]++List.replicate 55 .any,[s.enc,Elm.zero.enc],x.2.2⟩:=⟨_,fun _ _=>rfl⟩;obtain⟨JF,hJF⟩:∃JF:Nat→List Elm × Tk × Store→Prop,∀i x,JF i x=(runF s v l []=runF s v (l.drop i) x.1∧deepF (l.drop i) x.1.length=some 1∧x.1.length≤i∧Gr σ x.2.2 x.2.1 x.1.length):=⟨_,fun _ _=>rfl⟩;refine vc_count (l.length) F JF _ hJF ?_ ?_ ?_
    · refine ent (([],.full,σ)) ?_ ?_ ?_ ?_
      · exact Eq.mpr (hJF _ _) (⟨rfl,hd0,Nat.le_refl _,Gr.nil⟩)
      all_goals simp[hF,List.replicate,am,lle_self]
    · rintro i ⟨st,tk,σ1⟩ hi ⟨hJ,hD,hL,hG⟩;simp only at hJ hD hL hG;rw[List.drop_eq_getElem_cons hi] at hJ hD;have hgs:TZ σ1:=hG.sub.1 _ _ hg;simp only[hF,List.replicate,am,dlt hi];refine idxL_intro (by omega) (codes_at hi) ?_;simp only[am,Nat.reduceAdd,Ins.rec_]
      rcases deep_in (by rw[hD];simp) with ⟨h12,hd2⟩ | ⟨h34,h12,hn1,hn2,hd2⟩
      · rw[hd2] at hD;rw[runF] at hJ
        by_cases h1:l[i].op=1
        · rw[if_pos h1] at hJ;simp only[am,Ins.rec_,decide_eq_true h1]
          by_cases hb:l[i].n<0
          · rw[if_neg (by omega)] at hJ;simp only[am,aml,Elm.rec_,decide_eq_true hb];exact done .zero false _ _ _ (by rw[evalF,hr,hJ];rfl) hG.sub
          · obtain⟨m,hm⟩:∃m:Nat,l[i].n=m:=⟨l[i].n.toNat,by omega⟩;simp only[am,List.length_map,Ins.rec_,List.length_map,hm,decide_eq_false (show ¬((m:Nat):Int)<0 by omega)]
            by_cases hb2:v.length≤m
            · rw[if_neg (by omega)] at hJ;simp only[am,aml,Elm.rec_,decide_eq_true (show ((v.length:Nat):Int)≤(m:Nat) by omega)];exact done .zero false _ _ _ (by rw[evalF,hr,hJ];rfl) hG.sub
            · rw[if_pos (by omega),hm,Int.toNat_natCast,getD_at (by omega)] at hJ;simp only[am,Ins.rec_,decide_eq_false (show ¬((v.length:Nat):Int)≤(m:Nat) by omega),hm];refine idxL_intro (by omega) (elms_at (by omega)) ?_;simp only[am,Elm.rec_];refine Gr.app (by simpa using hG) (by simp[big];omega) fun tk' σ' hG' _ _=>?_
              simp only[am,aml,winc hi (by omega)];refine nxtD ((st++[v[m]],tk',σ')) hi ?_ ?_ ?_ ?_ ?_ ?_
              · exact Eq.mpr (hJF _ _) (⟨hJ,by simpa using hD,by simp;omega,by simpa using hG'⟩)
              all_goals simp[hF,List.replicate,am,lle_self,loL,loLL,V.lo,Shp.r_lo,Elm.r_lo]
        · have h2:l[i].op=2:=by simpa [h1] using h12
          rw[if_neg h1,if_pos h2] at hJ;simp only[am,Elm.rec_,Ins.rec_,decide_eq_false h1,decide_eq_true h2];refine Gr.app (by simpa using hG) (by simp[big];omega) fun tk' σ' hG' _ _=>?_
          simp only[am,aml,winc hi (by omega)];refine nxtD ((st++[l[i].c],tk',σ')) hi ?_ ?_ ?_ ?_ ?_ ?_
          · exact Eq.mpr (hJF _ _) (⟨hJ,by simpa using hD,by simp;omega,by simpa using hG'⟩)
          all_goals simp[hF,List.replicate,am,lle_self,loL,loLL,V.lo,Shp.r_lo,Elm.r_lo]
      · rw[hd2] at hD;have e1:¬l[i].op=1:=fun h=>h12 (.inl h)
        have e2:¬l[i].op=2:=fun h=>h12 (.inr h)
        obtain⟨m,hm⟩:∃m:Nat,l[i].n=m:=⟨l[i].n.toNat,by omega⟩;rw[runF,if_neg e1,if_neg e2,hm,Int.toNat_natCast] at hJ;rw[hm,Int.toNat_natCast] at hD;have hkl:st.length - m≤st.length:=Nat.sub_le _ _;simp only[am,amc,List.length_map,Ins.rec_,List.length_map,decide_eq_false e1,decide_eq_false e2,hm];rw[wrap_i64 (by omega) (by omega),show ((st.length:Nat):Int) - ((m:Nat):Int)=((st.length - m:Nat):Int) by omega];refine slcL_fullq (b:=st.length - m) (by simp) ?_;simp only[z36_];refine slcL_from (a:=st.length - m) (by simp) ?_;rw[←List.map_drop,←List.map_take];simp only[am,Shp.rec_];refine CallD.intro (fold_calls s l[i].op (st.drop (st.length - m)) hgs hok (by rw[List.length_drop];omega) (by rw[List.length_drop];omega)) ?_;simp only[am,Elm.rec_];have hlen:(st.take (st.length - m)++[foldE s l[i].op (st.drop (st.length - m))]).length=st.length - (m - 1):=by
          rw[List.length_append,List.length_take,Nat.min_eq_left hkl,List.length_singleton];omega
        refine Gr.app (k:=8) (show Gr σ σ1 .full ((st.take (st.length - m)).map Elm.enc).length from⟨hG.sub,.inl rfl⟩) (by simp[big];omega) fun tk' σ' hG' _ _=>?_
        simp only[am,aml,winc hi (by omega)];refine nxtD ((st.take (st.length - m)++[foldE s l[i].op (st.drop (st.length - m))],tk',σ')) hi ?_ ?_ ?_ ?_ ?_ ?_
        · exact Eq.mpr (hJF _ _) (⟨hJ,by rw[hlen];exact hD,by rw[hlen];omega,by simpa using hG'⟩)
        all_goals simp[hF,List.replicate,am,lle_self,loL,loLL,V.lo,Shp.r_lo,Elm.r_lo]
    · rintro⟨st,tk,σ1⟩ ⟨hJ,hD,hL,hG⟩;simp only at hJ hD hL;rw[List.drop_length] at hJ hD;rw[deepF,Option.some.injEq] at hD;rw[runF] at hJ;simp only[hF,List.replicate,am,aml,dnl,aml];refine idxL_intro (n:=0) (by omega) (elms_at (j:=0) (by omega)) ?_;simp only[am,Elm.rec_];exact done _ true _ _ _ (by rw[evalF,hr,hJ,←getD_at (d:=Elm.zero) (by omega)];rfl) hG.sub
end Go.Proofs.Tryz

namespace Go.Proofs.Tryz
open Go.Am
set_option maxRecDepth 4000
set_option maxHeartbeats 4000000
def ac6:AC:=.seq (.reg [⟨(some 1),.box 2 (.s 0),none⟩,⟨(some 2),.mv (.c (.bool false)),none⟩])
 (.seq (.seq (.reg [xf 0 7 1,xo 8 7,xL 9 8,xB .gtr 10 9 20,xm 11 10,xh 11 (xf 1 12 1),xh 11 (xo 13 12),xh 11 (xL 14 13),xh 11 (xB .gtr 15 14 80),⟨(some 16),.pick (.s 11) (.c (.bool true)) (.s 15),none⟩])
 (.cond (.s 16) (.seq (.reg [⟨(some 2),.mv (.c (.bool true)),none⟩])
 (.ret))
 (.skip)))
 (.seq (.seq (.reg [xf 0 17 1,xo 18 17,xL 19 18,xi 20 0])
 (.block 0 (.loop (.seq (.reg [xb .lss 21 20 19])
 (.seq (.cond (.s 21) (.skip)
 (.exit 0))
 (.seq (.block 1 (.seq (.reg [xA 3 22 18 20,xl 3 23 22,⟨(some 4),.alloc [(.str []),(.bool false),(.sl .full 67 [])],none⟩,xs 3 4 23])
 (.seq (.reg [xf 1 24 4,xl 2 25 24,xc 22 26 [.s 25],xm 27 26,xh 27 (xf 0 28 4),xh 27 (xo 29 28),xh 27 (xT 30 29),xh 27 (xB .gtr 31 30 40),⟨(some 32),.pick (.s 27) (.c (.bool true)) (.s 31),none⟩])
 (.cond (.s 32) (.seq (.reg [⟨(some 2),.mv (.c (.bool true)),none⟩])
 (.ret))
 (.skip)))))
 (.reg [xB .add 33 20 1,xm 20 33])))))))
 (.seq (.seq (.reg [xf 1 34 1,xo 35 34,xL 36 35,xi 37 0])
 (.block 2 (.loop (.seq (.reg [xb .lss 38 37 36])
 (.seq (.cond (.s 38) (.skip)
 (.exit 2))
 (.seq (.block 3 (.seq (.reg [xA 3 39 35 37,xl 3 40 39,⟨(some 6),.alloc [(.str []),(.int .i64 0),(.int .i64 0)],none⟩,xs 3 6 40])
 (.seq (.reg [xf 0 41 6,xo 42 41,xT 43 42,xB .gtr 44 43 40])
 (.cond (.s 44) (.seq (.reg [⟨(some 2),.mv (.c (.bool true)),none⟩])
 (.ret))
 (.skip)))))
 (.reg [xB .add 45 37 1,xm 37 45])))))))
 (.seq (.reg [⟨(some 2),.mv (.c (.bool false)),none⟩])
 (.ret)))))
theorem fn6:IsFn prog 6 ac6 [.tmp 2] 46:=⟨f6,⟨[],[],[]⟩,func6,by kernel_rfl,by kernel_rfl,by kernel_rfl,by kernel_rfl⟩
def ac22:AC:=.seq (.reg [⟨(some 1),.box 2 (.s 0),none⟩,⟨(some 2),.mv (.c (.bool false)),none⟩])
 (.seq (.seq (.reg [xf 1 6 1,xo 7 6,xL 8 7,xB .gtr 9 8 12])
 (.cond (.s 9) (.seq (.reg [⟨(some 2),.mv (.c (.bool true)),none⟩])
 (.ret))
 (.skip)))
 (.seq (.seq (.reg [xi 3 0])
 (.block 0 (.loop (.seq (.seq (.reg [xm 10 3,xf 1 11 1,xo 12 11,xL 13 12,xb .lss 14 10 13])
 (.cond (.s 14) (.skip)
 (.exit 0)))
 (.seq (.block 1 (.seq (.reg [xf 1 17 1,xo 18 17,xm 19 3,xA 67 20 18 19,xl 67 21 20,⟨(some 4),.alloc facZ,none⟩,xs 67 4 21])
 (.seq (.seq (.reg [xf 1 22 4,xo 23 22,xL 24 23,xB .gtr 25 24 70])
 (.cond (.s 25) (.seq (.reg [⟨(some 2),.mv (.c (.bool true)),none⟩])
 (.ret))
 (.skip)))
 (.seq (.reg [xi 5 0])
 (.block 2 (.loop (.seq (.seq (.reg [xm 26 5,xf 1 27 4,xo 28 27,xL 29 28,xb .lss 30 26 29])
 (.cond (.s 30) (.skip)
 (.exit 2)))
 (.seq (.block 3 (.seq (.reg [xf 1 33 4,xo 34 33,xm 35 5,xA 1 36 34 35,xo 37 36,xT 38 37,xB .gtr 39 38 40])
 (.cond (.s 39) (.seq (.reg [⟨(some 2),.mv (.c (.bool true)),none⟩])
 (.ret))
 (.skip))))
 (.reg [xm 31 5,xB .add 32 31 1,xm 5 32])))))))))
 (.reg [xm 15 3,xB .add 16 15 1,xm 3 16]))))))
 (.seq (.reg [⟨(some 2),.mv (.c (.bool false)),none⟩])
 (.ret))))
theorem fn22:IsFn prog 22 ac22 [.tmp 2] 40:=⟨f22,⟨[],[],[]⟩,func22,by kernel_rfl,by kernel_rfl,by kernel_rfl,by kernel_rfl⟩
def facBig (f:Fct):Bool:=decide (70<f.names.length)||f.names.any fun t=>decide (40<t.length)
theorem big7_eq (s:Shp):big7 s=(decide (12<s.facs.length)||s.facs.any facBig):=rfl
theorem any_at {α:Type} {l:List α} {p:α→Bool} {i:Nat} (hi:i<l.length) (h:p l[i]=true):l.any p=true:=List.any_eq_true.2 ⟨_,List.getElem_mem hi,h⟩
theorem any_no {α:Type} {l:List α} {p:α→Bool} (h:∀k∈l,p k=false):l.any p=false:=by
  rw[List.any_eq_false];exact fun k hk=>by rw[h k hk];simp
def z37_:=And.intro @am <| And.intro @aml <| And.intro @Fct.rec_ @sCells_len
theorem big7_calls (s:Shp) (σ:Store):PCalls prog 22 [.agg s.enc] σ fun v σ' => v = .bool (big7 s)∧σ' = σ:=by
  refine fn22.calls ?_;simp only[slots,ac22,am,ams,Shp.rec_,List.length_map];rw[big7_eq]
  by_cases h1:12<s.facs.length
  · simp only[am,decide_eq_true (show (12:Int)<s.facs.length by omega)];refine retS ?_;simp[V.erase,h1]
  · simp only[am,decide_eq_false (show ¬(12:Int)<s.facs.length by omega)];rw[decide_eq_false h1,Bool.false_or];obtain⟨F,hF⟩:∃F:Nat→Unit→St,∀i x,F i x=⟨[.any,.ptr (.loc 0) 0,.any,.int .i64 (i:Nat)]++List.replicate 36 .any,[s.enc],σ⟩:=⟨_,fun _ _=>rfl⟩;obtain⟨JF,hJF⟩:∃JF:Nat→Unit→Prop,∀i x,JF i x=(∀f∈s.facs.take i,facBig f=false):=⟨_,fun _ _=>rfl⟩;refine vc_count (s.facs.length) F JF _ hJF ?_ ?_ ?_
    · refine ent (()) ?_ ?_ ?_ ?_
      · exact Eq.mpr (hJF _ _) (by simp)
      all_goals simp[hF,List.replicate,am,lle_self]
    · rintro i x hi hJ;simp only[hF,List.replicate,am,dlt hi,Shp.rec_,List.length_map];refine idxL_intro (by omega) (facs_at hi) ?_;simp only[am,Fct.rec_,sCells_len]
      by_cases h2:70<s.facs[i].names.length
      · simp only[am,aml,decide_eq_true (show (70:Int)<s.facs[i].names.length by omega)];refine retS ?_;simp[V.erase,any_at hi (show facBig s.facs[i]=true by rw[facBig,decide_eq_true h2];rfl)]
      · simp only[am,decide_eq_false (show ¬(70:Int)<s.facs[i].names.length by omega)];obtain⟨F2,hF2⟩:∃F2:Nat→Unit→St,∀j y,F2 j y=⟨[.any,.ptr (.loc 0) 0,.any,.int .i64 (i:Nat),.ptr (.loc 1) 0,.int .i64 (j:Nat)]++List.replicate 34 .any,[s.enc,s.facs[i].enc],σ⟩:=⟨_,fun _ _=>rfl⟩;obtain⟨JF2,hJF2⟩:∃JF2:Nat→Unit→Prop,∀j y,JF2 j y=(∀t∈s.facs[i].names.take j,decide (40<t.length)=false):=⟨_,fun _ _=>rfl⟩;refine vc_count (s.facs[i].names.length) F2 JF2 _ hJF2 ?_ ?_ ?_
        · refine ent (()) ?_ ?_ ?_ ?_
          · exact Eq.mpr (hJF2 _ _) (by simp)
          all_goals simp[hF2,List.replicate,am,lle_self]
        · rintro j y hj hJ2;simp only[hF2,List.replicate,am,dlt hj,Fct.rec_,sCells_len];refine idxL_intro (by omega) (sCells_at hj) ?_;simp only[am,getD_at hj]
          by_cases h3:40<s.facs[i].names[j].length
          · simp only[am,aml,decide_eq_true (show (40:Int)<s.facs[i].names[j].length by omega)];refine retS ?_;simp[V.erase,any_at hi (show facBig s.facs[i]=true by rw[facBig,any_at hj (decide_eq_true h3)];simp)]
          · simp only[am,aml,decide_eq_false (show ¬(40:Int)<s.facs[i].names[j].length by omega),winc hj (by omega)];refine nxt (()) hj ?_ ?_ ?_ ?_
            · exact Eq.mpr (hJF2 _ _) (take_all hJ2 hj (decide_eq_false h3))
            all_goals simp[hF2,List.replicate,am,lle_self]
        · rintro y hJ2;rw[List.take_length] at hJ2;simp only[hF2,List.replicate,z37_,dnl,Nat.reduceEqDiff,reduceCtorEq];simp only[winc hi (by omega)];refine nxtD (()) hi ?_ ?_ ?_ ?_ ?_ ?_
          · exact Eq.mpr (hJF _ _) (take_all hJ hi (show facBig s.facs[i]=false by rw[facBig,decide_eq_false h2,any_no hJ2];rfl))
          all_goals simp[hF,List.replicate,am,lle_self,loL,loLL,V.lo,Shp.r_lo]
    · rintro x hJ;rw[List.take_length] at hJ;simp only[hF,List.replicate,am,aml,dnl,aml,Shp.rec_,List.length_map];refine retS ?_;simp[V.erase,any_no hJ]
section
variable {l:Ltc} {v:Vrb} {a b c:V} {m:Nat}
theorem Ltc.q_tk:takeN 3 l.enc=some l.enc:=rfl
theorem Ltc.q_ov:over [a,b,c] l.enc=l.enc:=rfl
theorem Ltc.q_len:l.enc.length=3:=rfl
theorem Ltc.q_one:oneL l.enc=true:=rfl
theorem Vrb.q_len:v.enc.length=3:=rfl
theorem Vrb.q_one:oneL v.enc=true:=rfl
theorem Vrb.q_tk:takeN 3 v.enc=some v.enc:=rfl
theorem Vrb.q_ov:over [a,b,c] v.enc=v.enc:=rfl
end
def ltcBig (l:Ltc):Bool:=big7 l.shape||decide (40<l.name.length)
def vrbBig (v:Vrb):Bool:=decide (40<v.name.length)
theorem big13_eq (s:Scp):big13 s=(decide (20<s.lats.length)||decide (80<s.vars.length)||s.lats.any ltcBig||s.vars.any vrbBig):=rfl
theorem big13_calls (s:Scp) (σ:Store):PCalls prog 6 [.agg s.enc] σ fun v σ' => v = .bool (big13 s)∧σ' = σ:=by
  refine fn6.calls ?_;simp only[slots,ac6,am,ams,Scp.rec_,List.length_map,Scp.rec_,List.length_map];rw[big13_eq]
  by_cases h1:20<s.lats.length
  · simp only[am,decide_eq_true (show (20:Int)<s.lats.length by omega)];refine retS ?_;simp[V.erase,h1]
  · simp only[am,List.length_map,Scp.rec_,List.length_map,Scp.rec_,List.length_map,decide_eq_false (show ¬(20:Int)<s.lats.length by omega)]
    by_cases h2:80<s.vars.length
    · simp only[am,decide_eq_true (show (80:Int)<s.vars.length by omega)];refine retS ?_;simp[V.erase,h2]
    · simp only[am,List.length_map,Scp.rec_,List.length_map,Scp.rec_,List.length_map,decide_eq_false (show ¬(80:Int)<s.vars.length by omega)];rw[decide_eq_false h1,decide_eq_false h2,Bool.or_self,Bool.false_or];obtain⟨F,hF⟩:∃F:Nat→Unit→St,∀i x,F i x=⟨[.any,.ptr (.loc 0) 0,.any,.any,.any,.any,.any,.any,.any,.any,.any,.any,.any,.any,.any,.any,.any,.any,.sl .no 3 (s.lats.map Ltc.enc),.int .i64 (s.lats.length:Nat),.int .i64 (i:Nat)]++List.replicate 25 .any,[s.enc],σ⟩:=⟨_,fun _ _=>rfl⟩;obtain⟨JF,hJF⟩:∃JF:Nat→Unit→Prop,∀i x,JF i x=(∀f∈s.lats.take i,ltcBig f=false):=⟨_,fun _ _=>rfl⟩;refine vc_count (s.lats.length) F JF _ hJF ?_ ?_ ?_
      · refine ent (()) ?_ ?_ ?_ ?_
        · exact Eq.mpr (hJF _ _) (by simp)
        all_goals simp[hF,List.replicate,am,lle_self]
      · rintro i x hi hJ;simp only[hF,List.replicate,am,dlt hi];refine idxL_intro (by omega) (lats_at hi) ?_;simp only[am,Shp.rec_,Scp.rec_,Shp.rec_,Scp.rec_,Ltc.q_len,Ltc.q_one,Ltc.q_tk,Ltc.q_ov];refine cl (big7_calls s.lats[i].shape σ) ?_;cases h3:big7 s.lats[i].shape with
        | true =>
          simp only[am,aml,aml];refine retS ?_;simp[V.erase,any_at hi (show ltcBig s.lats[i]=true by rw[ltcBig,h3];rfl)]
        | false =>
          simp only[am,Scp.rec_,Scp.rec_]
          by_cases h4:40<s.lats[i].name.length
          · simp only[am,aml,aml,decide_eq_true (show (40:Int)<s.lats[i].name.length by omega)];refine retS ?_;simp[V.erase,any_at hi (show ltcBig s.lats[i]=true by rw[ltcBig,decide_eq_true h4,Bool.or_true])]
          · simp only[am,aml,aml,decide_eq_false (show ¬(40:Int)<s.lats[i].name.length by omega),winc hi (by omega)];refine nxtD (()) hi ?_ ?_ ?_ ?_ ?_ ?_
            · exact Eq.mpr (hJF _ _) (take_all hJ hi (show ltcBig s.lats[i]=false by rw[ltcBig,decide_eq_false h4,h3];rfl))
            all_goals simp[hF,List.replicate,am,lle_self,loL,loLL,V.lo,Scp.r_lo]
      · rintro x hJ;rw[List.take_length] at hJ;simp only[hF,List.replicate,am,aml,dnl,aml,Scp.rec_,List.length_map,aml,Scp.rec_,List.length_map];obtain⟨F2,hF2⟩:∃F2:Nat→Unit→St,∀j y,F2 j y=⟨[.any,.ptr (.loc 0) 0,.any,.any,.any,.any,.any,.any,.any,.any,.any,.any,.any,.any,.any,.any,.any,.any,.any,.any,.any,.any,.any,.any,.any,.any,.any,.any,.any,.any,.any,.any,.any,.any,.any,.sl .no 3 (s.vars.map Vrb.enc),.int .i64 (s.vars.length:Nat),.int .i64 (j:Nat)]++List.replicate 8 .any,[s.enc],σ⟩:=⟨_,fun _ _=>rfl⟩;obtain⟨JF2,hJF2⟩:∃JF2:Nat→Unit→Prop,∀j y,JF2 j y=(∀f∈s.vars.take j,vrbBig f=false):=⟨_,fun _ _=>rfl⟩;refine vc_count (s.vars.length) F2 JF2 _ hJF2 ?_ ?_ ?_
        · refine ent (()) ?_ ?_ ?_ ?_
          · exact Eq.mpr (hJF2 _ _) (by simp)
          all_goals simp[hF2,List.replicate,am,lle_self]
        · rintro j y hj hJ2;simp only[hF2,List.replicate,am,dlt hj];refine idxL_intro (by omega) (vars_at hj) ?_;simp only[am,Scp.rec_,Scp.rec_,Vrb.q_len,Vrb.q_one,Vrb.q_tk,Vrb.q_ov]
          by_cases h4:40<s.vars[j].name.length
          · simp only[am,aml,aml,decide_eq_true (show (40:Int)<s.vars[j].name.length by omega)];refine retS ?_;simp[V.erase,any_at hj (show vrbBig s.vars[j]=true from decide_eq_true h4)]
          · simp only[am,aml,aml,decide_eq_false (show ¬(40:Int)<s.vars[j].name.length by omega),winc hj (by omega)];refine nxtD (()) hj ?_ ?_ ?_ ?_ ?_ ?_
            · exact Eq.mpr (hJF2 _ _) (take_all hJ2 hj (show vrbBig s.vars[j]=false from decide_eq_false h4))
            all_goals simp[hF2,List.replicate,am,lle_self,loL,loLL,V.lo,Scp.r_lo]
        · rintro y hJ2;rw[List.take_length] at hJ2;simp only[hF2,List.replicate,am,aml,dnl,aml,aml];refine retS ?_;simp[V.erase,any_no hJ,any_no hJ2]
end Go.Proofs.Tryz

namespace Go.Proofs.Tryz
open Go.Am
set_option maxRecDepth 4000
set_option maxHeartbeats 4000000
def ac8:AC:=.seq (.reg [⟨(some 0),.mv (.c (.bool false)),none⟩])
 (.seq (.reg [⟨(some 7),.bslice 1 [(.c (.str [108,111])),(.c (.str [104,105]))],none⟩,⟨(some 8),.build facZ [(0,1,(.c (.int .i64 1))),(1,1,(.s 7))],none⟩,⟨(some 9),.bslice 67 [(.s 8)],none⟩,⟨(some 10),.build [(.bool false),(.sl .full 67 [])] [(1,1,(.s 9))],none⟩,⟨(some 11),.build [(.str []),(.bool false),(.sl .full 67 [])] [(0,1,(.c (.str [107]))),(1,2,(.s 10))],none⟩,⟨(some 12),.bslice 3 [(.s 11)],none⟩,⟨(some 13),.build [(.str []),(.int .i64 0),(.int .i64 0)] [(0,1,(.c (.str [120]))),(1,1,(.c (.int .i64 1)))],none⟩,⟨(some 14),.bslice 3 [(.s 13)],none⟩,⟨(some 15),.build [(.sl .full 3 []),(.sl .full 3 [])] [(0,1,(.s 12)),(1,1,(.s 14))],none⟩,⟨(some 1),.alloc [(.sl .full 3 []),(.sl .full 3 [])],none⟩,xs 2 1 15])
 (.seq (.reg [⟨(some 16),.build [(.int .i64 0),(.int .i64 0),(.str []),(.sl .full 2 []),(.sl .full 5 [])] [(0,1,(.c (.int .i64 1))),(2,1,(.c (.str [120])))],none⟩,⟨(some 17),.build [(.int .i64 0),(.int .i64 0),(.str []),(.sl .full 2 []),(.sl .full 5 [])] [(0,1,(.c (.int .i64 2))),(2,1,(.c (.str [104,105])))],none⟩,⟨(some 18),.bslice 5 [(.s 17)],none⟩,⟨(some 19),.build [(.int .i64 0),(.int .i64 0),(.str []),(.sl .full 2 []),(.sl .full 5 [])] [(0,1,(.c (.int .i64 7))),(4,1,(.s 18))],none⟩,⟨(some 20),.bslice 5 [(.s 16),(.s 19)],none⟩,⟨(some 21),.build [(.int .i64 0),(.int .i64 0),(.str []),(.sl .full 2 []),(.sl .full 5 [])] [(0,1,(.c (.int .i64 8))),(4,1,(.s 20))],none⟩,⟨(some 2),.alloc [(.int .i64 0),(.int .i64 0),(.str []),(.sl .full 2 []),(.sl .full 5 [])],none⟩,xs 5 2 21])
 (.seq (.reg [xl 2 23 1,xl 5 24 2,xc 9 25 [.s 23,.c (.int .i64 0),.s 24],xm 22 25,xe 26 22 0,xe 27 22 1,xm 3 26,xm 4 27])
 (.seq (.reg [xf 0 29 1,xo 30 29,⟨(some 31),.idxA 3 (.s 30) (.c (.int .i64 0)),none⟩,xf 1 32 31,xl 2 33 32,xm 34 3,⟨(some 35),.build elmZ [],none⟩,⟨(some 36),.bslice 8 [(.s 35)],none⟩,xc 14 37 [.s 33,.s 34,.s 36],xm 28 37,xe 38 28 0,xe 39 28 1,⟨(some 5),.alloc elmZ,none⟩,xs 8 5 38,xm 6 39])
 (.seq (.reg [xm 40 4,xm 41 40,xg 41 (xm 42 3),xg 41 (xL 43 42),xg 41 (xB .eql 44 43 3),⟨(some 45),.pick (.s 41) (.s 44) (.c (.bool false)),none⟩,xm 46 45,xg 46 (xm 47 3),⟨(some 48),.idxA 10 (.s 47) (.c (.int .i64 2)),(some (46,true))⟩,xg 46 (xl 10 49 48),⟨(some 50),.build insZ [(0,1,(.c (.int .i64 3))),(1,1,(.c (.int .i64 2)))],(some (46,true))⟩,⟨(some 51),.eqA false [1,1,1,1,1,1,1,1,1,1] (.s 49) (.s 50),(some (46,true))⟩,⟨(some 52),.pick (.s 46) (.s 51) (.c (.bool false)),none⟩,xm 53 52,xg 53 (xm 54 6),⟨(some 55),.pick (.s 53) (.s 54) (.c (.bool false)),none⟩,xm 56 55,xg 56 (xl 8 57 5),⟨(some 58),.build elmZ [(0,1,(.c (.int .u64 1)))],(some (56,true))⟩,⟨(some 59),.eqA false [1,1,1,1,1,1,1,1] (.s 57) (.s 58),(some (56,true))⟩,⟨(some 60),.pick (.s 56) (.s 59) (.c (.bool false)),none⟩,xm 61 60,xg 61 (xm 62 3),xg 61 (xc 15 63 [.s 62]),⟨(some 64),.pick (.s 61) (.s 63) (.c (.bool false)),none⟩,xm 0 64])
 (.ret))))))
theorem fn8:IsFn prog 8 ac8 [.tmp 0] 65:=⟨f8,⟨[],[],[]⟩,func8,by kernel_rfl,by kernel_rfl,by kernel_rfl,by kernel_rfl⟩
theorem er3_calls {f:FuncId} {u u' v v' w w' : V} {σ:Store} {R' : V→Store→Prop} (h:PCalls prog f [u',v',w'] σ R') (e1:u.erase=u') (e2:v.erase=v') (e3:w.erase=w'):PCalls prog f [u,v,w] σ R' :=
  h.weak (show LLe [u,v,w] [u',v',w'] from⟨e1▸VLe.erase,e2▸VLe.erase,e3▸VLe.erase,trivial⟩) OLe.rfl
theorem alive14_calls {σ:Store} (hg:TZ σ):PCalls prog 8 [] σ fun v σ' => v = .bool true∧σ' = σ:=by
  refine fn8.calls ?_;simp only[slots,ac8,z35_,Nat.reduceAdd,fv_];have hw:exN.wt≤big:=Nat.le_trans ex_wt.1 (by decide);refine(er3_calls (ccompile_calls exS 0 exN hg ex_ok hw (Nat.le_trans ex_wt.2 (by decide))) ?_ ?_ ?_).mono ?_
  · rfl
  · rfl
  · rfl
  · rintro v σ1 ⟨rfl,rfl⟩;rw[ex_code];rw[show codeT (some exC) = .tup [.sl .no 10 (exC.map Ins.enc),.bool true] from rfl];simp only[am];refine idxL_intro (by omega) (rfl) ?_;simp only[am,Elm.rec_];refine(er3_calls (eval_calls ⟨false,[exF]⟩ exC [.zero] hg (ex_ok.2.2 _ (List.mem_cons_self ..)) (by decide) (by decide)) ?_ ?_ ?_).mono ?_
    · rfl
    · rfl
    · rfl
    · rintro v σ ⟨rfl,rfl⟩;rw[ex_run,show evalT (some exE) = .tup [.agg exE.enc,.bool true] from rfl];simp only[am,Nat.reduceAdd,List.length_map,Elm.rec_,List.length_map];simp only[am,show decide (((exC.length:Nat):Int)=3)=true from rfl];refine idxL_intro (by omega) ((codes_at (l:=exC) (j:=2) (by decide))) ?_;simp only[am,Ins.rec_];have q1:over Elm.zero.enc [V.int .u64 1]=exE.enc:=Elm.u_st (e:=.zero) (w:=1#64) (i:=0) (by decide);have q2:hasN 1 Elm.zero.enc=true:=Elm.u_has (e:=.zero) (i:=0) (by decide);simp only[am,decide_true,Elm.rec_,show decide (exC[2]=⟨3,2,Ins.zero.c⟩)=true from decide_eq_true rfl,q1,q2];refine cl (cright_calls exC σ (by decide)) ?_;simp only[am,ex_right];refine retS ?_;simp[V.erase]
end Go.Proofs.Tryz

namespace Go.Am
open Go.ChangeShapes Go.WideShapes Go.ChangeAt Go.RowKit
structure BulkFn {H:Type} (B:DataW H→Nat) (BA:List (DataW H)→Nat):Prop where
  str:∀b,B (.lit (.string b))=b.length+1
  int:∀k n,B (.lit (.int k n))=1
  bool:∀b,B (.lit (.bool b))=1
  nil:B .nil=1
  slice:∀e s,B (.slice e s)=BA e+BA s+1
  agg:∀p,B (.agg p)=BA p+1
  no:BA []=0
  cons:∀d r,BA (d::r)=B d+BA r
section
variable {H:Type} {enc:TypeId × Value→H} {P:Program} {W:World} {sp:Nat→Bool} {B:DataW H→Nat} {BA:List (DataW H)→Nat}
end
theorem post_am2 {H:Type} {enc:TypeId × Value→H} {P:Program} {f:Func} {s:ChangeSpec} {W:World} {args:Array Value} {ds:List (DataW H)} {before:List MemPlace} {tb:TypeId}
    (hl:laidOutB P=true) (hm:mapsRowed P=true) (hz:((List.range P.types.size).all fun t=>match P.underlying t with | some (.slice e)=>decide (0<P.cellsOf e) | _=>true)=true)
    (hres:f.resultTypes=#[tb]) (htb:P.underlying tb=some .bool) (hpar:∀t∈f.params.toList,t<P.types.size) (hvars:s.vars=[]) (hfn:(s.fn H ds).results=[.lit (.bool true)]∧(s.fn H ds).args=ds∧(s.fn H ds).vars=[])
    (hW:DataW.Whole enc P f.params.toList s.vars false W args.toList ds [] before) {W' : World} (hos:W'.os=W.os) (hout:W'.output=W.output) (hfrz:∀a,W'.frozen? a=W.frozen? a) (hsame:∀b,b<W.heap.size→W'.heap[b]?=W.heap[b]?) :
    s.post enc P f false true false false W args (.bool true) W' := by
  have hW' := hW;obtain⟨p,q,hA,hV,rfl,hfz,hnd⟩:=hW;rw[hvars] at hV;obtain⟨_,rfl⟩:=trodVars_none hV;have hkept:W.keptBut W' (fun _=>False):=by
    refine⟨hos,hout,fun i hi=>?_⟩;rw[hsame i hi];cases W.heap[i]? with
    | none=>rfl
    | some ob=>cases ob<;>simp
  simp only[List.append_nil] at hW';have hds:s.fn H (ds++[])=s.fn H ds:=by rw[List.append_nil]
  refine post_of_same (pa:=p) (pv:=[]) hW' (fun b sp' hd=>?_) (fun sp' hs=>?_) (fun sp' hs=>?_) (by simp) (World.keptBut_mono (fun _ h=>h.elim) hkept) ?_ (ok_one hres rfl (okWide_bool_mk htb _))
  · rw[hds,hfn.1,hres];exact trodAll_cons_mk (shut_bool htb _) trodAll_mk0
  · rw[hds,hfn.2.1];have hlt:=DataW.TrodAll.lt hA;have key:∀(ts:List TypeId) (vs:List Value) (ds:List (DataW H)) (ps:List MemPlace),(∀t∈ts,t<P.types.size)→DataW.TrodAll enc P W 0 (fun _=>true) true ts vs ds ps→(∀x∈ps,x.block<W.heap.size)→(∀x∈ps,sp' x.block=true)→DataW.TrodAll enc P W' 0 sp' true ts vs ds ps:=by
      intro ts;induction ts with
      | nil=>intro vs ds ps _ h _ _;cases vs<;>cases ds<;>first | exact h | exact h.elim
      | cons t ts ih =>
        intro vs ds ps hT h hlt hs;cases vs with
        | nil=>exact h.elim
        | cons v vs =>
          cases ds with
          | nil=>exact h.elim
          | cons d ds =>
            obtain⟨p,q,⟨n,h1⟩,h2,rfl⟩:=h;refine⟨p,q,⟨n,?_⟩,ih vs ds q (fun t ht=>hT t (by simp[ht])) h2 (fun x hx=>hlt x (by simp[hx])) (fun x hx=>hs x (by simp[hx])),rfl⟩;refine DataW.trod_stays (kids_rows hl hm) (fun {t e} ht he=>slices_full_of P hz t e ht he) (by simp) (hT t (by simp)) h1 (fun x hx=>?_) (fun x hx=>hs x (by simp[hx]));have hb:=hlt x (by simp[hx]);cases x with
            | cell b off=>exact cell_same (hsame b hb)
            | map b=>exact hsame b hb
    exact key _ _ _ _ hpar hA (fun x hx=>hlt x hx) (fun x hx=>hs x (by simpa using hx))
  · rw[hds,hfn.2.2,hvars];rfl
  · exact hfrz
section
variable {P:Program} {W:World} {r:Reach} {b:Nat} {t:TypeId} {v:Value} {E:Env}
theorem val_struct {fs:Array Field} {xs:List V} (ht:P.underlying t=some (.struct fs)) (hv:Value.okWide P W r b t v) (h:RL E xs v.cells.toList):R E (.agg xs) v:=by
  obtain⟨cs,rfl,_⟩:=okWide_struct ht hv;simp only[R];exact⟨cs,rfl,by simpa [Value.cells] using h⟩
end
end Go.Am

namespace Go.Am
open Go.ChangeShapes Go.WideShapes Go.ChangeAt Go.RowKit
def txtVal (s:List UInt8):Value:=.string ⟨s.toArray⟩
section
variable {H:Type} {enc:TypeId × Value→H} {P:Program} {W:World}
end
end Go.Am

namespace Go.Am
open Go.ChangeShapes Go.WideShapes Go.ChangeAt Go.RowKit
section
variable {H:Type} {enc:TypeId × Value→H} {P:Program} {W:World} {sp:Nat→Bool} {B:DataW H→Nat} {BA:List (DataW H)→Nat} {E:Env}
end
end Go.Am

namespace Go.Am
open Go.ChangeShapes Go.WideShapes Go.ChangeAt Go.RowKit
def litV:V→Value
  | .str s=>txtVal s
  | .int k n=>.int k n
  | _=>.bool false
def isLit:V→Bool
  | .str _=>true
  | .int _ _=>true
  | _=>false
theorem litR {E:Env} {x:V} (h:isLit x=true) (v:Value):R E x v↔v=litV x:=by
  cases x<;>simp[isLit] at h<;>simp[R,litV,txtVal]
def mStore (B:Nat→Option (List V)):Store:=⟨B,fun _=>none⟩
def mEnv (W:World) (B:Nat→Option (List V)):Env:=⟨W,fun b=>if (B b).isSome then .obox else .const,fun _=>none,fun _=>none⟩
def MGlob (W:World) (B:Nat→Option (List V)):Prop:=∀b cs,B b=some cs→(∃e,W.heap[b]?=some (.cells (cs.map litV).toArray e (0,0)))∧∀x∈cs,isLit x=true
theorem mEnv_ok {W:World} {B:Nat→Option (List V)} (h:MGlob W B):(mEnv W B).ok (mStore B):=by
  refine⟨fun b cs hb=>?_,fun _ _ h=>by simp[mStore] at h,fun b hb=>?_,⟨0,fun _ _=>rfl⟩⟩
  · have hb:B b=some cs:=hb;obtain⟨⟨e,he⟩,hl⟩:=h b cs hb;refine⟨by simp[mEnv,hb],_,e,he,by simp,fun j x hx=>?_⟩;exact⟨litV x,by simp[hx],(litR (hl x (List.mem_of_getElem? hx)) _).2 rfl⟩
  · have hb:W.heap.size≤b:=hb;have hn:B b=none:=by
      cases hq:B b with
      | none=>rfl
      | some cs =>
        obtain⟨⟨e,he⟩,_⟩:=h b cs hq;have hlt:b<W.heap.size:=lt_of_heap (w:=W) he;omega
    simp[mEnv,hn]
theorem law_callsM {H:Type} {enc:TypeId × Value→H} {P:Program} {n:FuncId} {f:Func} {s:ChangeSpec} {W:World} {args:Array Value} {vs:List V} {ds:List (DataW H)} {before:List MemPlace} {tb:TypeId} {B:Nat→Option (List V)}
    (hP:PCalls P n vs (mStore B) fun v σ' => v = .bool true∧σ' = mStore B) (hg:MGlob W B) (hR:RL (mEnv W B) vs args.toList)
    (hl:laidOutB P=true) (hm:mapsRowed P=true) (hz:((List.range P.types.size).all fun t=>match P.underlying t with | some (.slice e)=>decide (0<P.cellsOf e) | _=>true)=true)
    (hres:f.resultTypes=#[tb]) (htb:P.underlying tb=some .bool) (hpar:∀t∈f.params.toList,t<P.types.size) (hvars:s.vars=[]) (hfn:(s.fn H ds).results=[.lit (.bool true)]∧(s.fn H ds).args=ds∧(s.fn H ds).vars=[])
    (hW:DataW.Whole enc P f.params.toList s.vars false W args.toList ds [] before) :
    Calls P n args W fun e W' => ∃v,e = .returned v∧s.post enc P f false true false false W args v W' := by
  refine(hP.2 (mEnv W B) args (fun _=>rfl) (mEnv_ok hg) hR).mono ?_;rintro _ w' ⟨v,x,E',σ',rfl,rfl,_,hok,hRv,hfr,rfl,rfl⟩;simp only[R] at hRv;subst hRv;refine⟨_,rfl,post_am2 hl hm hz hres htb hpar hvars hfn hW hfr.os hfr.output hfr.frz fun b hb=>?_⟩;cases hq:B b with
  | some cs =>
    obtain⟨⟨e,he⟩,hlit⟩:=hg b cs hq;obtain⟨c1,h1,h2⟩:=hfr.shape b _ e he;obtain⟨_,c2,e2,h3,h4,h5⟩:=hok.box b cs hq;have h3:E'.w.heap[b]?=some (.cells c2 e2 (0,0)):=h3;rw[h1] at h3;simp only[Option.some.injEq,Obj.cells.injEq] at h3;obtain⟨rfl,rfl,_⟩:=h3;rw[he,h1];have:c1=(cs.map litV).toArray:=by
      apply Array.ext_getElem?;intro j
      by_cases hj:j<cs.length
      · obtain⟨v,k1,k2⟩:=h5 j cs[j] (by simp[hj]);rw[k1];rw[litR (hlit _ (List.getElem_mem _))] at k2;rw[k2];simp[hj]
      · rw[Array.getElem?_eq_none (by rw[h2];simp;omega),Array.getElem?_eq_none (by simp;omega)]
    rw[this]
  | none=>exact(hfr.same b hb (.inl (by simp[mEnv,hq]))).1
end Go.Am

namespace Go.Am
open Go.ChangeShapes Go.WideShapes Go.ChangeAt Go.RowKit
section
variable {H:Type} {enc:TypeId × Value→H} {P:Program} {W:World} {sp:Nat→Bool} {B:DataW H→Nat} {BA:List (DataW H)→Nat} {E:Env}
end
end Go.Am

namespace Go.Am
open Go.ChangeShapes Go.WideShapes Go.ChangeAt Go.RowKit
section
variable {H:Type} {enc:TypeId × Value→H} {P:Program} {W:World}
theorem laid_at {name:String} {d:DataW Unit} {rest:List (String × DataW Unit)} {g:Nat} {t:TypeId} (h:laidMet P ((name,d)::rest) W) (hg:P.globalNamed name=some g) (ht:(P.globals[g]?).map (·.type)=some t) {vs:List Value}
    (hc:∀(cs:List Value) (fuel:Nat) (p:List MemPlace),DataW.trod (fun _=>()) P W 0 (fun _=>true) false fuel t cs=some (d,p)→cs=vs) (hv:vs≠[]):∃e,W.heap[g]?=some (.cells vs.toArray e (0,0)):=by
  obtain⟨ps,⟨g',t',cs,fuel,p,q,hg',ht',hv',hd,_,hps⟩,_,hb⟩:=h;obtain rfl:g' = g:=Option.some.inj (hg'.symm.trans hg);obtain rfl:t' = t:=Option.some.inj (ht'.symm.trans ht);have hcs:=hc _ _ _ hd;have hcs' : cs=vs.toArray:=by rw[←hcs]
  obtain⟨⟨c,e,hce⟩,_⟩:=hb g' 0 (by
    rw[hps];refine List.mem_append_left _ (List.mem_append_left _ ?_);rw[hcs'];cases vs with
    | nil=>exact absurd rfl hv
    | cons a l=>simp[MemPlace.row])
  refine⟨e,?_⟩;rw[hce];simp only[World.var?,hg,Option.bind_some,hce,Option.some.injEq] at hv';rw[hv',hcs']
end
end Go.Am

namespace Go.Am
open Go.ChangeShapes Go.WideShapes Go.ChangeAt Go.RowKit
def NUCom (W:World) (E:Env):Prop:=∀b,(∃j v,W.cell? ⟨b,j,none⟩=some v∧∀n,v≠.int .u8 n)→∀o,(E.role b).com o
def notU:V→Bool
  | .int k _=>decide (k≠.u8)
  | .str _=>true
  | .bool _=>true
  | _=>false
theorem notU_R {E:Env} {x:V} {v:Value} (h:notU x=true) (hr:R E x v):∀n,v≠.int .u8 n:=by
  intro n e;subst e;cases x<;>simp[notU] at h<;>simp[R] at hr;exact h hr.1.symm
def HasNU (l:List V):Prop:=∃(j:Nat) (x:V),l[j]?=some x∧notU x=true
theorem mEnv_comN {W:World} {B:Nat→Option (List V)} (h:MGlob W B) (hn:∀b cs,B b=some cs→∀x∈cs,∃n,litV x = .int .u8 n):NUCom W (mEnv W B):=by
  rintro b ⟨j,v,hc,hv⟩ o;cases hq:B b with
  | none=>simp[mEnv,hq,Role.com]
  | some cs =>
    obtain⟨⟨e,he⟩,_⟩:=h b cs hq;simp only[World.cell?,he] at hc
    by_cases hj:j<cs.length
    · have hl:litV cs[j]=v:=by simpa [hj] using hc
      obtain⟨n,hx⟩:=hn b cs hq _ (List.getElem_mem hj);exact absurd (hl.symm.trans hx) (hv n)
    · simp[hj] at hc
section
variable {H:Type} {enc:TypeId × Value→H} {P:Program} {W:World} {sp:Nat→Bool} {B:DataW H→Nat} {BA:List (DataW H)→Nat} {E:Env}
theorem rd_rowsN {α:Type} (ea:α→List V) (sz:α→Nat) {e:TypeId} {k n:Nat} (hB:BulkFn B BA) (hk:P.cellsOf e=k) (hlen:∀y,(ea y).length=k)
    (hel:∀cs x,DataW.trod enc P W 0 sp true n e cs=some x→∃y:α,RL E (ea y) cs∧(∀v∈cs,v.oneCell' = true)∧sz y≤B x.1) (hw:E.w=W) (hnl:E.nl=E) (hcom:NUCom W E) (hint:∀y,HasNU (ea y)) {b o:Nat} :
    ∀(els:List (DataW H × List MemPlace)) (i:Nat),(∀j,j<els.length→(W.cells? 0 (Addr.add ⟨b,o,none⟩ ((i+j)*k)) k).bind (DataW.trod enc P W 0 sp true n e)=els[j]?) →
      ∃l:List α,l.length=els.length∧REs E.nl k (l.map ea) b (o+i*k)∧(l.map sz).sum≤BA (els.map (·.1))
  | [],i,_=>⟨[],rfl,by simp[REs],by simp⟩
  | x :: els, i, h => by
    obtain⟨l,h1,h2,h3⟩:=rd_rowsN ea sz hB hk hlen hel hw hnl hcom hint els (i+1) fun j hj=>by
      have:=h (j+1) (by simp;omega);rw[show i+(j+1)=i+1+j by omega] at this;simpa using this
    have h0:=h 0 (by simp);simp only[Nat.add_zero,List.getElem?_cons_zero] at h0;obtain⟨cs,hc,hr⟩:=Option.bind_eq_some_iff.1 h0;obtain⟨y,k1,k2,k3⟩:=hel cs x hr;obtain⟨_,hl,hcell⟩:=World.cells?_some hc;refine⟨y::l,by simp[h1],?_,?_⟩
    · simp only[List.map_cons,REs];have hat:∀(j:Nat) v,cs[j]?=some v→W.cell? ⟨b,o+i*k+j,none⟩=some v:=fun j v hv=>by
        have hj:j<k:=by have:=(List.getElem?_eq_some_iff.1 hv).1;omega
        have:=hcell j hj;rw[addr_add,addr_add] at this;rw[this,hv]
      obtain⟨j0,z,hj0,hz⟩:=hint y;obtain⟨u,hu,hRu⟩:=RL_get k1 j0 _ hj0;have hcm:=hcom b ⟨_,u,hat j0 u hu,notU_R hz hRu⟩;refine⟨hlen y,RAs_mk (E:=E.nl) (by rw[hnl];exact k1) k2 (fun j v hv=>?_) (fun j _=>hcm _),by rw[show o+i*k+k=o+(i+1)*k by rw[Nat.add_mul];omega];exact h2⟩;show E.w.cell? _=_;rw[hw];exact hat j v hv
    · simp only[List.map_cons,List.sum_cons,hB.cons];omega
theorem rd_sliceN {α:Type} (ea:α→List V) (sz:α→Nat) {t e:TypeId} {k fuel:Nat} (hB:BulkFn B BA) (ht:P.underlying t=some (.slice e)) (hk:P.cellsOf e=k) (hpos:0<k) (hlen:∀y,(ea y).length=k) (hw:E.w=W) (hnl:E.nl=E) (hcom:NUCom W E) (hint:∀y,HasNU (ea y))
    (hel:∀n,n<fuel→∀cs x,DataW.trod enc P W 0 sp true n e cs=some x→∃y:α,RL E (ea y) cs∧(∀v∈cs,v.oneCell' = true)∧sz y≤B x.1)
    {cs:List Value} {x:DataW H × List MemPlace} (h:DataW.trod enc P W 0 sp true fuel t cs=some x) :
    ∃l:List α,RL E [.sl .no k (l.map ea)] cs∧(∀v∈cs,v.oneCell' = true)∧(l.map sz).sum+1≤B x.1:=by
  rcases DataW.trod_slice ht h with ⟨rfl,rfl⟩ | ⟨a,len,cap,elems,rest,n,rfl,rfl,rfl,_,hle,_,hl,hels,_,_⟩
  · refine⟨[],?_,by simp[Value.oneCell'],by simp[hB.nil]⟩;simp only[RL,R,List.map_nil,and_true];exact⟨none,0,rfl,by simp,by simp,trivial⟩
  · have ha:elems=[]∨∃b o,a=⟨b,o,none⟩:=by
      cases elems with
      | nil=>exact .inl rfl
      | cons y ys =>
        right;have h0:=hels 0 (by rw[←hl];simp);simp only[List.getElem?_cons_zero] at h0;obtain⟨cs',hc,_⟩:=Option.bind_eq_some_iff.1 h0;obtain⟨_,hl',hcell⟩:=World.cells?_some hc;have h1:=hcell 0 (by rw[hk];exact hpos);have h2:cs'[0]?=some (cs'[0]'(by rw[hl',hk];exact hpos)):=List.getElem?_eq_getElem _;rw[h2] at h1;obtain⟨b,o,s⟩:=a;refine⟨b,o,?_⟩;simp only[World.cell?] at h1;cases s with
        | none=>rfl
        | some s =>
          split at h1
          · simp[Addr.add] at h1
          · simp at h1
    rcases ha with rfl | ⟨b,o,rfl⟩
    · refine⟨[],?_,by simp[Value.oneCell'],by simp[hB.slice]⟩;simp only[List.length_nil] at hl;subst hl;simp only[RL,R,List.map_nil,and_true];exact⟨some a,cap,rfl,by simp,by simp,trivial⟩
    · obtain⟨l,h1,h2,h3⟩:=rd_rowsN (B:=B) (BA:=BA) (sp:=sp) (enc:=enc) (P:=P) (W:=W) (n:=n) ea sz hB hk hlen (hel n (Nat.lt_succ_self n)) hw hnl hcom hint elems 0 (fun j hj=>by
        have:=hels j (by omega);rw[hk] at this;rw[Nat.zero_add];exact this)
      refine⟨l,?_,by simp[Value.oneCell'],?_⟩
      · simp only[RL,R,List.length_map,and_true];exact⟨some ⟨b,o,none⟩,cap,by rw[h1,hl],by omega,.inr ⟨b,o,rfl,by simpa using h2⟩,trivial⟩
      · rw[hB.slice];omega
end
section
variable {H:Type} {enc:TypeId × Value→H} {P:Program} {W:World} {sp:Nat→Bool} {E:Env}
def u64At:Value→B64
  | .int .u64 z=>BitVec.ofInt 64 z
  | _=>0#64
theorem RL_u64s:∀(cs:List Value),(∀v∈cs,∃z:Int,v = .int .u64 z∧0≤z∧z<18446744073709551616)→RL E (encW (cs.map u64At)) cs
  | [],_=>by simp[encW,RL]
  | v :: cs, h => by
    obtain⟨z,rfl,h0,h1⟩:=h v (by simp);have ih:=RL_u64s cs fun v hv=>h v (by simp[hv])
    simp only[encW,List.map_cons,RL] at ih ⊢;refine⟨?_,ih⟩;simp only[R,u64At,Value.int.injEq,true_and];rw[BitVec.toNat_ofInt];omega
theorem rd_u64s {t e:TypeId} {n fuel:Nat} {cs:List Value} {x:DataW H × List MemPlace} (ht:P.underlying t=some (.array n e)) (he:P.underlying e=some (.int .u64)) (hce:P.cellsOf e=1) (hct:P.cellsOf t=n)
    (h:DataW.trod enc P W 0 sp true fuel t cs=some x):∃l:List B64,l.length=n∧RL E (encW l) cs∧(∀v∈cs,v.oneCell' = true):=by
  obtain⟨xs,m,rfl,rfl,hl,hx,hf⟩:=DataW.trod_array ht h;rw[hct] at hl;have all:∀v∈cs,∃z:Int,v = .int .u64 z∧0≤z∧z<18446744073709551616:=by
    intro v hv;obtain⟨i,hi,rfl⟩:=List.mem_iff_getElem.1 hv;have h1:=hf i (by omega);rw[hce,Nat.mul_one,List.getElem?_eq_getElem (show i<xs.length by omega),List.drop_eq_getElem_cons hi,List.take_succ_cons,List.take_zero] at h1;obtain⟨z,e1,_,hw⟩:=DataW.trod_int he h1;simp[Lit.wf,IntKind.min,IntKind.max,IntKind.signed,IntKind.bits] at hw;exact⟨z,by simpa using e1,by omega,by omega⟩
  refine⟨cs.map u64At,by simp[hl],RL_u64s cs all,fun v hv=>?_⟩;obtain⟨z,rfl,_⟩:=all v hv;rfl
theorem RL_app:∀{l m:List V} {cs ds:List Value},RL E l cs→RL E m ds→RL E (l++m) (cs++ds)
  | [],_,[],_,_,h=>h
  | [],_,_::_,_,h,_=>by simp[RL] at h
  | _::_,_,[],_,h,_=>by simp[RL] at h
  | x :: l, m, c :: cs, ds, h, h2 => by
    simp only[RL,List.cons_append] at h ⊢;exact⟨h.1,RL_app h.2 h2⟩
end
end Go.Am

namespace Go.Proofs.Tryz
open Go.Am Go.ChangeShapes Go.WideShapes Go.ChangeAt Go.RowKit
open Go.Proofs.YtaddgcjnnpejjaaGreatDoor
theorem bulkFn (H:Type):BulkFn (H:=H) Rows.uptoBulk Rows.uptoBulkAll :=
  ⟨fun _=>by simp only[Rows.uptoBulk],fun _ _=>by simp only[Rows.uptoBulk],fun _=>by simp only[Rows.uptoBulk],by simp only[Rows.uptoBulk],fun _ _=>by simp only[Rows.uptoBulk],fun _=>by simp only[Rows.uptoBulk],by simp only[Rows.uptoBulkAll],fun _ _=>by simp only[Rows.uptoBulkAll]⟩
theorem laid:laidOutB prog=true:=by kernel_rfl
theorem rowed:mapsRowed prog=true:=by kernel_rfl
theorem fulls:((List.range prog.types.size).all fun t=>match prog.underlying t with | some (.slice e)=>decide (0<prog.cellsOf e) | _=>true)=true:=by kernel_rfl
theorem own:ownKnob prog.godebug=none:=by kernel_rfl
theorem c9:prog.cellsOf 9=1:=by kernel_rfl
theorem c3:prog.cellsOf 3=1:=by kernel_rfl
theorem c4:prog.cellsOf 4=1:=by kernel_rfl
theorem c46:prog.cellsOf 46=1:=by kernel_rfl
theorem c5:prog.cellsOf 5=1:=by kernel_rfl
theorem c146:prog.cellsOf 146=64:=by kernel_rfl
theorem c66:prog.cellsOf 66=64:=by kernel_rfl
theorem c125:prog.cellsOf 125=2:=by kernel_rfl
theorem c26:prog.cellsOf 26=1:=by kernel_rfl
theorem c27:prog.cellsOf 27=1:=by kernel_rfl
theorem c29:prog.cellsOf 29=5:=by kernel_rfl
theorem c65:prog.cellsOf 65=1:=by kernel_rfl
theorem c68:prog.cellsOf 68=65:=by kernel_rfl
theorem c70:prog.cellsOf 70=67:=by kernel_rfl
theorem c41:prog.cellsOf 41=1:=by kernel_rfl
theorem c43:prog.cellsOf 43=2:=by kernel_rfl
theorem c45:prog.cellsOf 45=3:=by kernel_rfl
theorem c63:prog.cellsOf 63=3:=by kernel_rfl
theorem c22:prog.cellsOf 22=1:=by kernel_rfl
theorem c23:prog.cellsOf 23=1:=by kernel_rfl
theorem c25:prog.cellsOf 25=2:=by kernel_rfl
def gB:Nat→Option (List V):=fun b=>if b=0 then some tzCells else none
theorem gB_glob:TZ (mStore gB):=rfl
theorem globs_at {W:World} (h:laidMetH prog Rows.codeCompilesRow.laid W):MGlob W gB:=by
  have h:laidMet prog Rows.codeCompilesRow.laid W:=h;obtain⟨e3,k3⟩:=laid_at (g:=0) (t:=146) (vs:=tzTab.map fun z=>Value.int .u8 z) h (by kernel_rfl) (by kernel_rfl) (fun cs fuel p hd=>Lib.cells_of_tab underlying146 underlying5 c5 c146 hd) (by simp[tzTab]);intro b cs hb;simp only[gB] at hb;split at hb
  · rename_i hq;subst hq;obtain rfl:=Option.some.inj hb;exact⟨⟨e3,k3⟩,by decide⟩
  · simp at hb
theorem gB_u8:∀b cs,gB b=some cs→∀x∈cs,∃n,litV x = .int .u8 n:=by
  intro b cs hb;simp only[gB] at hb;split at hb
  · obtain rfl:=Option.some.inj hb;intro x hx;obtain⟨w,_,rfl⟩:=List.mem_map.1 hx;exact⟨w,rfl⟩
  · simp at hb
def lay1:DataW Unit→List Value
  | .lit (.int k n)=>[.int k n]
  | _=>[]
def lay2:DataW Unit→List Value
  | .agg ds=>ds.flatMap lay1
  | d=>lay1 d
def layAt (h:Array Obj) (x:Nat × DataW Unit):Array Obj:=h.modify x.1 fun
  | .cells _ t frozen=>.cells (lay2 x.2).toArray t frozen
  | o=>o
noncomputable def laidWorld (os:Os):World :=
  {World.holding prog os ⟨#[],#[],[]⟩ with heap:=[(0,Rows.laid_math_bits_deBruijn64tab)].foldl layAt (World.holding prog os ⟨#[],#[],[]⟩).heap}
set_option maxRecDepth 100000
theorem ln2 {α:Type} {l:List α} (h:l.length=2):∃a b,l=[a,b]:=by
  match l,h with
  | [a,b],_=>exact⟨a,b,rfl⟩
theorem ln5 {α:Type} {l:List α} (h:l.length=5):∃a b c d e,l=[a,b,c,d,e]:=by
  match l,h with
  | [a,b,c,d,e],_=>exact⟨a,b,c,d,e,rfl⟩
theorem ln3 {α:Type} {l:List α} (h:l.length=3):∃a b c,l=[a,b,c]:=by
  match l,h with
  | [a,b,c],_=>exact⟨a,b,c,rfl⟩
theorem word_nu (w:Word):HasNU w.enc:=⟨0,.str w.text,rfl,rfl⟩
theorem node_nu (n:Nd):HasNU n.enc:=⟨0,.int .i64 n.kind,by rw[Nd.enc_eq];rfl,rfl⟩
section
variable {H:Type} {enc:TypeId × Value→H} {W:World} {sp:Nat→Bool} {E:Env} (hw:E.w=W) (hnl:E.nl=E) (hcom:NUCom W E)
theorem RL_oneE {x:V} {v:Value}:RL E [x] [v]↔R E x v:=by simp[RL]
theorem rd_intE {n:Nat} {cs:List Value} {x:DataW H × List MemPlace} (h:DataW.trod enc prog W 0 sp true n 3 cs=some x) :
    ∃i:Int,RL E [.int .i64 i] cs∧(∀v∈cs,v.oneCell' = true)∧Rows.uptoBulk x.1=1:=by
  obtain⟨i,rfl,rfl,_⟩:=DataW.trod_int underlying3 h;exact⟨i,by simp[RL,R],by simp[Value.oneCell'],(bulkFn H).int _ _⟩
theorem rd_strE {n:Nat} {cs:List Value} {x:DataW H × List MemPlace} (h:DataW.trod enc prog W 0 sp true n 9 cs=some x) :
    ∃s:List UInt8,RL E [.str s] cs∧(∀v∈cs,v.oneCell' = true)∧s.length+1=Rows.uptoBulk x.1:=by
  obtain⟨s,rfl,rfl,_⟩:=DataW.trod_string underlying9 h;exact⟨s.data.toList,by simp[RL,R],by simp[Value.oneCell'],((bulkFn H).str _).symm⟩
theorem rd_wordE {n:Nat} {cs:List Value} {x:DataW H × List MemPlace} (h:DataW.trod enc prog W 0 sp true n 125 cs=some x) :
    ∃w:Word,RL E w.enc cs∧(∀v∈cs,v.oneCell' = true)∧w.text.length+1≤Rows.uptoBulk x.1:=by
  obtain⟨xs,m,rfl,rfl,hl,hx,hf⟩:=DataW.trod_struct underlying125 h;rw[c125] at hl;obtain⟨a,b,rfl⟩:=ln2 hl;obtain⟨x0,x1,rfl⟩:=ln2 hx;have h0:DataW.trod enc prog W 0 sp true m 9 ((([a,b]:List Value).drop 0).take (prog.cellsOf 9))=some x0:=hf 0 _ rfl;have h1:DataW.trod enc prog W 0 sp true m 3 ((([a,b]:List Value).drop 1).take (prog.cellsOf 3))=some x1:=hf 1 _ rfl;rw[c9] at h0;rw[c3] at h1;obtain⟨s,r0,o0,b0⟩:=rd_strE (E:=E) h0;obtain⟨j,r1,o1,b1⟩:=rd_intE (E:=E) h1;simp only[List.drop_zero,List.drop_succ_cons,List.take_succ_cons,List.take_zero,RL_oneE] at r0 r1 o0 o1;refine⟨⟨s,j⟩,?_,?_,?_⟩
  · simp only[Word.enc,RL];exact⟨r0,r1,trivial⟩
  · intro v hv;simp only[List.mem_cons,List.not_mem_nil,or_false] at hv o0 o1
    rcases hv with rfl | rfl
    · exact o0 _ rfl
    · exact o1 _ rfl
  · simp only[List.map_cons,List.map_nil,Rows.uptoBulk,Rows.uptoBulkAll];omega
theorem rd_boolE {n:Nat} {cs:List Value} {x:DataW H × List MemPlace} (h:DataW.trod enc prog W 0 sp true n 4 cs=some x) :
    ∃i:Bool,RL E [.bool i] cs∧(∀v∈cs,v.oneCell' = true):=by
  obtain⟨i,rfl,rfl⟩:=DataW.trod_bool underlying4 h;exact⟨i,by simp[RL,R],by simp[Value.oneCell']⟩
include hw hnl hcom in
theorem rd_wordsE {n:Nat} {cs:List Value} {x:DataW H × List MemPlace} (h:DataW.trod enc prog W 0 sp true n 26 cs=some x) :
    ∃l:List Word,RL E [.sl .no 2 (l.map Word.enc)] cs∧(∀v∈cs,v.oneCell' = true)∧wsum l+1≤Rows.uptoBulk x.1 :=
  rd_sliceN (α:=Word) Word.enc (fun w=>w.text.length+1) (bulkFn H) underlying26 c125 (by omega) (fun _=>Word.r_len) hw hnl hcom word_nu (fun _ _ _ _ h=>rd_wordE h) h
include hw hnl hcom in
theorem rd_nodeE:∀(n:Nat) (cs:List Value) (x:DataW H × List MemPlace),DataW.trod enc prog W 0 sp true n 29 cs=some x →
    ∃y:Nd,RL E y.enc cs∧(∀v∈cs,v.oneCell' = true)∧y.wt+1≤Rows.uptoBulk x.1:=by
  intro n;induction n using Nat.strongRecOn with
  | ind n ih =>
  intro cs x h;obtain⟨xs,m,hnm,rfl,hl,hx,hf⟩:=DataW.trod_struct underlying29 h;rw[c29] at hl;obtain⟨a,b,c,d,e,rfl⟩:=ln5 hl;obtain⟨x0,x1,x2,x3,x4,rfl⟩:=ln5 hx;have h0:DataW.trod enc prog W 0 sp true m 3 ((([a,b,c,d,e]:List Value).drop 0).take (prog.cellsOf 3))=some x0:=hf 0 _ rfl;have h1:DataW.trod enc prog W 0 sp true m 3 ((([a,b,c,d,e]:List Value).drop 1).take (prog.cellsOf 3))=some x1:=hf 1 _ rfl;have h2:DataW.trod enc prog W 0 sp true m 9 ((([a,b,c,d,e]:List Value).drop 2).take (prog.cellsOf 9))=some x2:=hf 2 _ rfl;have h3:DataW.trod enc prog W 0 sp true m 26 ((([a,b,c,d,e]:List Value).drop 3).take (prog.cellsOf 26))=some x3:=hf 3 _ rfl;have h4:DataW.trod enc prog W 0 sp true m 27 ((([a,b,c,d,e]:List Value).drop 4).take (prog.cellsOf 27))=some x4:=hf 4 _ rfl;rw[c3] at h0 h1;rw[c9] at h2;rw[c26] at h3;rw[c27] at h4;obtain⟨i,r0,o0,b0⟩:=rd_intE (E:=E) h0;obtain⟨j,r1,o1,b1⟩:=rd_intE (E:=E) h1;obtain⟨s,r2,o2,b2⟩:=rd_strE (E:=E) h2;obtain⟨ws,r3,o3,b3⟩:=rd_wordsE hw hnl hcom h3;obtain⟨ks,r4,o4,b4⟩:=rd_sliceN (α:=Nd) Nd.enc (fun n=>n.wt+1) (bulkFn H) underlying27 c29 (by omega) (fun t=>Nd.r_len) hw hnl hcom node_nu (fun p hp cs x h=>ih p (by omega) cs x h) h4;rw[←wts_map] at b4;simp only[List.drop_zero,List.drop_succ_cons,List.take_succ_cons,List.take_zero,RL_oneE] at r0 r1 r2 r3 r4 o0 o1 o2 o3 o4;refine⟨.mk i j s ws ks,?_,?_,?_⟩
  · rw[Nd.enc_eq];simp only[RL];exact⟨r0,r1,r2,r3,r4,trivial⟩
  · intro v hv;simp only[List.mem_cons,List.not_mem_nil,or_false] at hv o0 o1 o2 o3 o4
    rcases hv with rfl | rfl | rfl | rfl | rfl
    · exact o0 _ rfl
    · exact o1 _ rfl
    · exact o2 _ rfl
    · exact o3 _ rfl
    · exact o4 _ rfl
  · simp only[List.map_cons,List.map_nil,Rows.uptoBulk,Rows.uptoBulkAll,Nd.wt];omega
theorem rd_relE {n:Nat} {cs:List Value} {x:DataW H × List MemPlace} (h:DataW.trod enc prog W 0 sp true n 68 cs=some x) :
    ∃r:Rl,RL E r.enc cs∧(∀v∈cs,v.oneCell' = true):=by
  obtain⟨xs,m,rfl,rfl,hl,hx,hf⟩:=DataW.trod_struct underlying68 h;rw[c68] at hl;obtain⟨x0,x1,rfl⟩:=ln2 hx;have h0:DataW.trod enc prog W 0 sp true m 3 ((cs.drop 0).take (prog.cellsOf 3))=some x0:=hf 0 _ rfl;have h1:DataW.trod enc prog W 0 sp true m 66 ((cs.drop 1).take (prog.cellsOf 66))=some x1:=hf 1 _ rfl;obtain⟨l,q1,r1,o1⟩:=rd_u64s (E:=E) underlying66 underlying46 c46 c66 h1;rw[c3] at h0;rw[c66,List.take_of_length_le (by simp[hl])] at r1 o1;obtain⟨k,r0,o0,_⟩:=rd_intE (E:=E) h0;rw[List.drop_zero] at r0 o0;refine⟨⟨k,l,q1⟩,?_,fun v hv=>?_⟩
  · have:=RL_app r0 r1
    rwa [List.take_append_drop] at this
  · rw[←List.take_append_drop 1 cs] at hv
    rcases List.mem_append.1 hv with hv | hv
    · exact o0 v hv
    · exact o1 v hv
theorem name_nu (s:List UInt8):HasNU [V.str s]:=⟨0,.str s,rfl,rfl⟩
theorem fct_nu (f:Fct):HasNU f.enc:=⟨0,.int .i64 f.kind,rfl,rfl⟩
theorem ltc_nu (l:Ltc):HasNU l.enc:=⟨0,.str l.name,rfl,rfl⟩
theorem vrb_nu (v:Vrb):HasNU v.enc:=⟨0,.str v.name,rfl,rfl⟩
include hw hnl hcom in
theorem rd_namesE {n:Nat} {cs:List Value} {x:DataW H × List MemPlace} (h:DataW.trod enc prog W 0 sp true n 65 cs=some x) :
    ∃l:List (List UInt8),RL E [.sl .no 1 (sCells l)] cs∧(∀v∈cs,v.oneCell' = true):=by
  obtain⟨l,r,o,_⟩:=rd_sliceN (α:=List UInt8) (fun s=>[V.str s]) (fun _=>0) (bulkFn H) underlying65 c9 (by omega) (fun _=>rfl) hw hnl hcom name_nu (fun _ _ cs x h=>by
    obtain⟨s,q1,q2,_⟩:=rd_strE (E:=E) h;exact⟨s,q1,q2,Nat.zero_le _⟩) h
  exact⟨l,r,o⟩
include hw hnl hcom in
theorem rd_facE {n:Nat} {cs:List Value} {x:DataW H × List MemPlace} (h:DataW.trod enc prog W 0 sp true n 70 cs=some x) :
    ∃f:Fct,RL E f.enc cs∧(∀v∈cs,v.oneCell' = true):=by
  obtain⟨xs,m,rfl,rfl,hl,hx,hf⟩:=DataW.trod_struct underlying70 h;rw[c70] at hl;obtain⟨x0,x1,x2,rfl⟩:=ln3 hx;have h0:DataW.trod enc prog W 0 sp true m 3 ((cs.drop 0).take (prog.cellsOf 3))=some x0:=hf 0 _ rfl;have h1:DataW.trod enc prog W 0 sp true m 65 ((cs.drop 1).take (prog.cellsOf 65))=some x1:=hf 1 _ rfl;have h2:DataW.trod enc prog W 0 sp true m 68 ((cs.drop 2).take (prog.cellsOf 68))=some x2:=hf 2 _ rfl;rw[c3] at h0;rw[c65] at h1;rw[c68,List.take_of_length_le (by simp[hl])] at h2;obtain⟨k,r0,o0,_⟩:=rd_intE (E:=E) h0;obtain⟨ns,r1,o1⟩:=rd_namesE hw hnl hcom h1;obtain⟨r,r2,o2⟩:=rd_relE (E:=E) h2;obtain⟨a,cs,rfl⟩:∃a t,cs=a::t:=by cases cs with | nil=>simp at hl | cons a t=>exact⟨a,t,rfl⟩
  obtain⟨b,cs,rfl⟩:∃a t,cs=a::t:=by cases cs with | nil=>simp at hl | cons a t=>exact⟨a,t,rfl⟩
  simp only[List.drop_zero,List.drop_succ_cons,List.take_succ_cons,List.take_zero,RL_oneE] at r0 r1 r2 o0 o1 o2;refine⟨⟨k,ns,r⟩,?_,fun v hv=>?_⟩
  · simp only[Fct.enc,RL];exact⟨r0,r1,r2⟩
  · simp only[List.mem_cons,List.not_mem_nil,or_false] at hv o0 o1
    rcases hv with rfl | rfl | hv
    · exact o0 _ rfl
    · exact o1 _ rfl
    · exact o2 _ hv
include hw hnl hcom in
theorem rd_facsE {n:Nat} {cs:List Value} {x:DataW H × List MemPlace} (h:DataW.trod enc prog W 0 sp true n 41 cs=some x) :
    ∃l:List Fct,RL E [.sl .no 67 (l.map Fct.enc)] cs∧(∀v∈cs,v.oneCell' = true):=by
  obtain⟨l,r,o,_⟩:=rd_sliceN (α:=Fct) Fct.enc (fun _=>0) (bulkFn H) underlying41 c70 (by omega) (fun _=>Fct.r_len) hw hnl hcom fct_nu (fun _ _ cs x h=>by
    obtain⟨f,q1,q2⟩:=rd_facE hw hnl hcom h;exact⟨f,q1,q2,Nat.zero_le _⟩) h
  exact⟨l,r,o⟩
include hw hnl hcom in
theorem rd_shpE {n:Nat} {cs:List Value} {x:DataW H × List MemPlace} (h:DataW.trod enc prog W 0 sp true n 43 cs=some x) :
    ∃s:Shp,RL E s.enc cs∧(∀v∈cs,v.oneCell' = true):=by
  obtain⟨xs,m,rfl,rfl,hl,hx,hf⟩:=DataW.trod_struct underlying43 h;rw[c43] at hl;obtain⟨a,b,rfl⟩:=ln2 hl;obtain⟨x0,x1,rfl⟩:=ln2 hx;have h0:DataW.trod enc prog W 0 sp true m 4 ((([a,b]:List Value).drop 0).take (prog.cellsOf 4))=some x0:=hf 0 _ rfl;have h1:DataW.trod enc prog W 0 sp true m 41 ((([a,b]:List Value).drop 1).take (prog.cellsOf 41))=some x1:=hf 1 _ rfl;rw[c4] at h0;rw[c41] at h1;obtain⟨t,r0,o0⟩:=rd_boolE (E:=E) h0;obtain⟨fs,r1,o1⟩:=rd_facsE hw hnl hcom h1;simp only[List.drop_zero,List.drop_succ_cons,List.take_succ_cons,List.take_zero,RL_oneE] at r0 r1 o0 o1;refine⟨⟨t,fs⟩,?_,fun v hv=>?_⟩
  · simp only[Shp.enc,RL];exact⟨r0,r1,trivial⟩
  · simp only[List.mem_cons,List.not_mem_nil,or_false] at hv o0 o1
    rcases hv with rfl | rfl
    · exact o0 _ rfl
    · exact o1 _ rfl
include hw hnl hcom in
theorem rd_latE {n:Nat} {cs:List Value} {x:DataW H × List MemPlace} (h:DataW.trod enc prog W 0 sp true n 45 cs=some x) :
    ∃l:Ltc,RL E l.enc cs∧(∀v∈cs,v.oneCell' = true):=by
  obtain⟨xs,m,rfl,rfl,hl,hx,hf⟩:=DataW.trod_struct underlying45 h;rw[c45] at hl;obtain⟨a,b,c,rfl⟩:=ln3 hl;obtain⟨x0,x1,rfl⟩:=ln2 hx;have h0:DataW.trod enc prog W 0 sp true m 9 ((([a,b,c]:List Value).drop 0).take (prog.cellsOf 9))=some x0:=hf 0 _ rfl;have h1:DataW.trod enc prog W 0 sp true m 43 ((([a,b,c]:List Value).drop 1).take (prog.cellsOf 43))=some x1:=hf 1 _ rfl;rw[c9] at h0;rw[c43] at h1;obtain⟨t,r0,o0,_⟩:=rd_strE (E:=E) h0;obtain⟨s,r1,o1⟩:=rd_shpE hw hnl hcom h1;simp only[List.drop_zero,List.drop_succ_cons,List.take_succ_cons,List.take_zero,RL_oneE] at r0 r1 o0 o1;refine⟨⟨t,s⟩,?_,fun v hv=>?_⟩
  · simp only[Ltc.enc,RL];exact⟨r0,r1⟩
  · simp only[List.mem_cons,List.not_mem_nil,or_false] at hv o0 o1
    rcases hv with rfl | rfl | rfl
    · exact o0 _ rfl
    · exact o1 _ (.inl rfl)
    · exact o1 _ (.inr rfl)
theorem rd_varE {n:Nat} {cs:List Value} {x:DataW H × List MemPlace} (h:DataW.trod enc prog W 0 sp true n 63 cs=some x) :
    ∃l:Vrb,RL E l.enc cs∧(∀v∈cs,v.oneCell' = true):=by
  obtain⟨xs,m,rfl,rfl,hl,hx,hf⟩:=DataW.trod_struct underlying63 h;rw[c63] at hl;obtain⟨a,b,c,rfl⟩:=ln3 hl;obtain⟨x0,x1,x2,rfl⟩:=ln3 hx;have h0:DataW.trod enc prog W 0 sp true m 9 ((([a,b,c]:List Value).drop 0).take (prog.cellsOf 9))=some x0:=hf 0 _ rfl;have h1:DataW.trod enc prog W 0 sp true m 3 ((([a,b,c]:List Value).drop 1).take (prog.cellsOf 3))=some x1:=hf 1 _ rfl;have h2:DataW.trod enc prog W 0 sp true m 3 ((([a,b,c]:List Value).drop 2).take (prog.cellsOf 3))=some x2:=hf 2 _ rfl;rw[c9] at h0;rw[c3] at h1 h2;obtain⟨t,r0,o0,_⟩:=rd_strE (E:=E) h0;obtain⟨i,r1,o1,_⟩:=rd_intE (E:=E) h1;obtain⟨j,r2,o2,_⟩:=rd_intE (E:=E) h2;simp only[List.drop_zero,List.drop_succ_cons,List.take_succ_cons,List.take_zero,RL_oneE] at r0 r1 r2 o0 o1 o2;refine⟨⟨t,i,j⟩,?_,fun v hv=>?_⟩
  · simp only[Vrb.enc,RL];exact⟨r0,r1,r2,trivial⟩
  · simp only[List.mem_cons,List.not_mem_nil,or_false] at hv o0 o1 o2
    rcases hv with rfl | rfl | rfl
    · exact o0 _ rfl
    · exact o1 _ rfl
    · exact o2 _ rfl
include hw hnl hcom in
theorem rd_scpE {n:Nat} {cs:List Value} {x:DataW H × List MemPlace} (h:DataW.trod enc prog W 0 sp true n 25 cs=some x) :
    ∃s:Scp,RL E s.enc cs:=by
  obtain⟨xs,m,rfl,rfl,hl,hx,hf⟩:=DataW.trod_struct underlying25 h;rw[c25] at hl;obtain⟨a,b,rfl⟩:=ln2 hl;obtain⟨x0,x1,rfl⟩:=ln2 hx;have h0:DataW.trod enc prog W 0 sp true m 22 ((([a,b]:List Value).drop 0).take (prog.cellsOf 22))=some x0:=hf 0 _ rfl;have h1:DataW.trod enc prog W 0 sp true m 23 ((([a,b]:List Value).drop 1).take (prog.cellsOf 23))=some x1:=hf 1 _ rfl;rw[c22] at h0;rw[c23] at h1;obtain⟨ls,r0,_⟩:=rd_sliceN (α:=Ltc) Ltc.enc (fun _=>0) (bulkFn H) underlying22 c45 (by omega) (fun _=>rfl) hw hnl hcom ltc_nu (fun _ _ cs x h=>by
    obtain⟨f,q1,q2⟩:=rd_latE hw hnl hcom h;exact⟨f,q1,q2,Nat.zero_le _⟩) h0
  obtain⟨vs,r1,_⟩:=rd_sliceN (α:=Vrb) Vrb.enc (fun _=>0) (bulkFn H) underlying23 c63 (by omega) (fun _=>rfl) hw hnl hcom vrb_nu (fun _ _ cs x h=>by
    obtain⟨f,q1,q2⟩:=rd_varE (E:=E) h;exact⟨f,q1,q2,Nat.zero_le _⟩) h1
  simp only[List.drop_zero,List.drop_succ_cons,List.take_succ_cons,List.take_zero,RL_oneE] at r0 r1;exact⟨⟨ls,vs⟩,by simp only[Scp.enc,RL];exact⟨r0,r1,trivial⟩⟩
end
end Go.Proofs.Tryz

namespace Go.Proofs.Tryz
open Go.Am Go.ChangeShapes Go.WideShapes Go.ChangeAt Go.RowKit
open Go.Proofs.YtaddgcjnnpejjaaGreatDoor
set_option maxRecDepth 100000
theorem c48:prog.cellsOf 48=8:=by kernel_rfl
theorem c38:prog.cellsOf 38=1:=by kernel_rfl
theorem c40:prog.cellsOf 40=3:=by kernel_rfl
theorem elm_nu (e:Elm):HasNU e.enc:=by
  obtain⟨w,h⟩:=e
  match w,h with
  | a::_,_=>exact⟨0,.int .u64 (a.toNat:Nat),rfl,rfl⟩
section
variable {H:Type} {enc:TypeId × Value→H} {W:World} {sp:Nat→Bool} {E:Env} (hw:E.w=W) (hnl:E.nl=E) (hcom:NUCom W E)
theorem rd_elmE {n:Nat} {cs:List Value} {x:DataW H × List MemPlace} (h:DataW.trod enc prog W 0 sp true n 48 cs=some x) :
    ∃e:Elm,RL E e.enc cs∧(∀v∈cs,v.oneCell' = true):=by
  obtain⟨l,q1,r1,o1⟩:=rd_u64s (E:=E) underlying48 underlying46 c46 c48 h;exact⟨⟨l,q1⟩,r1,o1⟩
include hw hnl hcom in
theorem rd_elmsE {n:Nat} {cs:List Value} {x:DataW H × List MemPlace} (h:DataW.trod enc prog W 0 sp true n 38 cs=some x) :
    ∃l:List Elm,RL E [.sl .no 8 (l.map Elm.enc)] cs∧(∀v∈cs,v.oneCell' = true)∧l.length+1≤Rows.uptoBulk x.1:=by
  obtain⟨l,r,o,b⟩:=rd_sliceN (α:=Elm) Elm.enc (fun _=>1) (bulkFn H) underlying38 c48 (by omega) (fun _=>Elm.r_len) hw hnl hcom elm_nu (fun _ _ cs x h=>by
    obtain⟨f,q1,q2⟩:=rd_elmE (E:=E) h;obtain⟨xs,m,rfl,rfl,_⟩:=DataW.trod_array underlying48 h;exact⟨f,q1,q2,by show 1≤Rows.uptoBulk (.agg _);rw[Rows.uptoBulk];omega⟩) h
  refine⟨l,r,o,?_⟩;have:∀l:List Elm,(l.map fun _=>1).sum=l.length:=fun l=>by induction l with | nil=>rfl | cons a l ih=>rw[List.map_cons,List.sum_cons,ih,List.length_cons];omega
  have:=this l;omega
include hw hnl hcom in
theorem rd_whtE {n:Nat} {cs:List Value} {x:DataW H × List MemPlace} (h:DataW.trod enc prog W 0 sp true n 40 cs=some x) :
    ∃w:Wht,RL E w.enc cs:=by
  obtain⟨xs,m,rfl,rfl,hl,hx,hf⟩:=DataW.trod_struct underlying40 h;rw[c40] at hl;obtain⟨a,b,c,rfl⟩:=ln3 hl;obtain⟨x0,x1,x2,rfl⟩:=ln3 hx;have h0:DataW.trod enc prog W 0 sp true m 3 ((([a,b,c]:List Value).drop 0).take (prog.cellsOf 3))=some x0:=hf 0 _ rfl;have h1:DataW.trod enc prog W 0 sp true m 38 ((([a,b,c]:List Value).drop 1).take (prog.cellsOf 38))=some x1:=hf 1 _ rfl;have h2:DataW.trod enc prog W 0 sp true m 38 ((([a,b,c]:List Value).drop 2).take (prog.cellsOf 38))=some x2:=hf 2 _ rfl;rw[c3] at h0;rw[c38] at h1 h2;obtain⟨i,r0,_⟩:=rd_intE (E:=E) h0;obtain⟨u,r1,_⟩:=rd_elmsE hw hnl hcom h1;obtain⟨v,r2,_⟩:=rd_elmsE hw hnl hcom h2;simp only[List.drop_zero,List.drop_succ_cons,List.take_succ_cons,List.take_zero,RL_oneE] at r0 r1 r2;exact⟨⟨i,u,v⟩,by simp only[Wht.enc,RL];exact⟨r0,r1,r2,trivial⟩⟩
end
end Go.Proofs.Tryz

namespace Go.Proofs.Tryz
open Go.Am
set_option maxRecDepth 4000
set_option maxHeartbeats 4000000
def ac12:AC:=.seq (.reg [⟨(some 1),.box 2 (.s 0),none⟩,⟨(some 2),.mv (.c (.bool false)),none⟩])
 (.seq (.reg [⟨(some 3),.mv (.c (.sl .full 1 [])),none⟩])
 (.seq (.seq (.reg [xf 0 8 1,xo 9 8,xL 10 9,xB .gtr 11 10 16,xm 12 11,xh 12 (xf 1 13 1),xh 12 (xo 14 13),xh 12 (xL 15 14),xh 12 (xB .gtr 16 15 64),⟨(some 17),.pick (.s 12) (.c (.bool true)) (.s 16),none⟩])
 (.cond (.s 17) (.seq (.reg [⟨(some 2),.mv (.c (.bool false)),none⟩])
 (.ret))
 (.skip)))
 (.seq (.seq (.reg [xi 4 0])
 (.block 0 (.loop (.seq (.seq (.reg [xm 18 4,xf 0 19 1,xo 20 19,xL 21 20,xb .lss 22 18 21])
 (.cond (.s 22) (.skip)
 (.exit 0)))
 (.seq (.block 1 (.seq (.seq (.reg [xf 0 25 1,xo 26 25,xm 27 4,xA 3 28 26 27,xf 1 29 28,xl 2 30 29,xc 29 31 [.s 30],⟨(some 32),.not (.s 31),none⟩])
 (.cond (.s 32) (.seq (.reg [⟨(some 2),.mv (.c (.bool false)),none⟩])
 (.ret))
 (.skip)))
 (.reg [xm 33 3,xf 0 34 1,xo 35 34,xm 36 4,xA 3 37 35 36,xf 0 38 37,xo 39 38,⟨(some 40),.bslice 1 [(.s 39)],none⟩,xa 1 41 33 40,xm 3 41])))
 (.reg [xm 23 4,xB .add 24 23 1,xm 4 24]))))))
 (.seq (.seq (.reg [xi 5 0])
 (.block 2 (.loop (.seq (.seq (.reg [xm 42 5,xf 1 43 1,xo 44 43,xL 45 44,xb .lss 46 42 45])
 (.cond (.s 46) (.skip)
 (.exit 2)))
 (.seq (.block 3 (.seq (.reg [xf 1 49 1,xo 50 49,xm 51 5,xA 3 52 50 51,xl 3 53 52,⟨(some 6),.alloc [(.str []),(.int .i64 0),(.int .i64 0)],none⟩,xs 3 6 53])
 (.seq (.seq (.reg [xf 1 54 6,xo 55 54,xB .neq 56 55 1,xm 57 56,xg 57 (xf 1 58 6),xg 57 (xo 59 58),xg 57 (xB .neq 60 59 2),⟨(some 61),.pick (.s 57) (.s 60) (.c (.bool false)),none⟩,xm 62 61,xh 62 (xf 2 63 6),xh 62 (xo 64 63),xh 62 (xB .lss 65 64 0),⟨(some 66),.pick (.s 62) (.c (.bool true)) (.s 65),none⟩,xm 67 66,xh 67 (xf 2 68 6),xh 67 (xo 69 68),xh 67 (xf 0 70 1),xh 67 (xo 71 70),xh 67 (xL 72 71),xh 67 (xb .geq 73 69 72),⟨(some 74),.pick (.s 67) (.c (.bool true)) (.s 73),none⟩])
 (.cond (.s 74) (.seq (.reg [⟨(some 2),.mv (.c (.bool false)),none⟩])
 (.ret))
 (.skip)))
 (.reg [xm 75 3,xf 0 76 6,xo 77 76,⟨(some 78),.bslice 1 [(.s 77)],none⟩,xa 1 79 75 78,xm 3 79]))))
 (.reg [xm 47 5,xB .add 48 47 1,xm 5 48]))))))
 (.seq (.seq (.reg [xi 7 0])
 (.block 4 (.loop (.seq (.seq (.reg [xm 80 7,xm 81 3,xL 82 81,xb .lss 83 80 82])
 (.cond (.s 83) (.skip)
 (.exit 4)))
 (.seq (.block 5 (.seq (.reg [xm 86 3,xm 87 7,xA 1 88 86 87,xo 89 88,xc 30 90 [.s 89],⟨(some 91),.not (.s 90),none⟩])
 (.cond (.s 91) (.seq (.reg [⟨(some 2),.mv (.c (.bool false)),none⟩])
 (.ret))
 (.skip))))
 (.reg [xm 84 7,xB .add 85 84 1,xm 7 85]))))))
 (.seq (.reg [xm 92 3,xc 31 93 [.s 92],xB .lss 94 93 0,xm 2 94])
 (.ret)))))))
theorem fn12:IsFn prog 12 ac12 [.tmp 2] 95:=⟨f12,⟨[],[],[]⟩,func12,by kernel_rfl,by kernel_rfl,by kernel_rfl,by kernel_rfl⟩
def vrbR (n:Nat) (v:Vrb):Bool:=(decide (v.kind=1)||decide (v.kind=2))&&decide (0≤v.lat)&&decide (v.lat<(n:Nat))
def namesS (s:Scp):List (List UInt8):=s.lats.map Ltc.name++s.vars.map Vrb.name
def scpR (s:Scp):Bool:=decide (s.lats.length≤16)&&decide (s.vars.length≤64)&&(s.lats.all fun l=>shpR l.shape)&&s.vars.all (vrbR s.lats.length)&&(namesS s).all nameR&&(twiceS (namesS s)).isNone
theorem sCells_snoc {l:List (List UInt8)} {x:List UInt8}:sCells (l++[x])=sCells l++[[.str x]]:=by simp[sCells]
theorem scpR_lat {s:Scp} {i:Nat} (hi:i<s.lats.length) (h:shpR s.lats[i].shape=false):scpR s=false:=by
  cases hq:scpR s with
  | false=>rfl
  | true =>
    simp only[scpR,Bool.and_eq_true,List.all_eq_true] at hq;rw[hq.1.1.1.2 _ (List.getElem_mem hi)] at h;simp at h
theorem scpR_var {s:Scp} {i:Nat} (hi:i<s.vars.length) (h:vrbR s.lats.length s.vars[i]=false):scpR s=false:=by
  cases hq:scpR s with
  | false=>rfl
  | true =>
    simp only[scpR,Bool.and_eq_true,List.all_eq_true] at hq;rw[hq.1.1.2 _ (List.getElem_mem hi)] at h;simp at h
theorem scpR_name {s:Scp} {i:Nat} (hi:i<(namesS s).length) (h:nameR (namesS s)[i]=false):scpR s=false:=by
  cases hq:scpR s with
  | false=>rfl
  | true =>
    simp only[scpR,Bool.and_eq_true,List.all_eq_true] at hq;rw[hq.1.2 _ (List.getElem_mem hi)] at h;simp at h
theorem scright_calls (s:Scp) (σ:Store) (hok:s.ok):PCalls prog 12 [.agg s.enc] σ fun v σ' => v = .bool (scpR s)∧σ' = σ:=by
  refine fn12.calls ?_;simp only[slots,ac12,am,ams,Scp.rec_,List.length_map]
  by_cases h1:16<s.lats.length
  · simp only[am,decide_eq_true (show (16:Int)<s.lats.length by omega)];refine retS ?_;simp[V.erase,scpR];intro h;omega
  · simp only[am,List.length_map,Scp.rec_,List.length_map,decide_eq_false (show ¬(16:Int)<s.lats.length by omega)]
    by_cases h2:64<s.vars.length
    · simp only[am,decide_eq_true (show (64:Int)<s.vars.length by omega)];refine retS ?_;simp[V.erase,scpR];intro _ h;omega
    · simp only[am,decide_eq_false (show ¬(64:Int)<s.vars.length by omega)];obtain⟨F,hF⟩:∃F:Nat→List (List UInt8) × Tk × Store→St,∀i x,F i x=⟨[.any,.ptr (.loc 0) 0,.any,.sl x.2.1 1 (sCells x.1),.int .i64 (i:Nat)]++List.replicate 90 .any,[s.enc],x.2.2⟩:=⟨_,fun _ _=>rfl⟩;obtain⟨JF,hJF⟩:∃JF:Nat→List (List UInt8) × Tk × Store→Prop,∀i x,JF i x=(x.1=(s.lats.take i).map Ltc.name∧(∀l∈s.lats.take i,shpR l.shape=true)∧Gr σ x.2.2 x.2.1 x.1.length):=⟨_,fun _ _=>rfl⟩;refine vc_count (s.lats.length) F JF _ hJF ?_ ?_ ?_
      · refine ent (([],.full,σ)) ?_ ?_ ?_ ?_
        · exact Eq.mpr (hJF _ _) (⟨by simp,by simp,Gr.nil⟩)
        all_goals simp[hF,List.replicate,am,lle_self,sCells]
      · rintro i ⟨nm,tk,σ1⟩ hi ⟨hN,hS,hG⟩;simp only at hN hS hG;have hnl:nm.length=i:=by rw[hN];simp;omega
        simp only[hF,List.replicate,am,dlt hi,Scp.rec_,List.length_map];refine idxL_intro (by omega) (lats_at hi) ?_;simp only[am,Shp.rec_,Scp.rec_];refine(rshright_calls s.lats[i].shape σ1 (hok.2.2 _ (List.getElem_mem hi))).mono ?_;rintro v σ1 ⟨rfl,rfl⟩;cases h3:shpR s.lats[i].shape with
        | false =>
          simp only[am,aml];exact retK_intro rfl hG.sub ⟨by rw[scpR_lat hi h3];rfl,rfl⟩
        | true =>
          simp only[am,Scp.rec_];refine idxL_intro (by omega) (lats_at hi) ?_;simp only[am,Scp.rec_];refine Gr.app (by simpa [sCells_len] using hG) (by simp[big,sCells_len];omega) fun tk' σ' hG' _ _=>?_
          simp only[am,aml,winc hi (by omega)];refine nxt ((nm++[s.lats[i].name],tk',σ')) hi ?_ ?_ ?_ ?_
          · exact Eq.mpr (hJF _ _) (⟨by rw[hN,List.take_succ_eq_append_getElem hi,List.map_append];rfl,take_all hS hi h3,by simpa [sCells_len] using hG'⟩)
          all_goals simp[hF,List.replicate,am,lle_self,sCells_snoc]
      · rintro⟨nm,tk,σ1⟩ ⟨hN,hS,hG⟩;simp only[List.take_length] at hN hS hG;simp only[hF,List.replicate,am,aml,dnl,aml,Scp.rec_,List.length_map];obtain⟨F2,hF2⟩:∃F2:Nat→List (List UInt8) × Tk × Store→St,∀j y,F2 j y=⟨[.any,.ptr (.loc 0) 0,.any,.sl y.2.1 1 (sCells y.1),.any,.int .i64 (j:Nat)]++List.replicate 89 .any,[s.enc],y.2.2⟩:=⟨_,fun _ _=>rfl⟩;obtain⟨JF2,hJF2⟩:∃JF2:Nat→List (List UInt8) × Tk × Store→Prop,∀j y,JF2 j y=(y.1=s.lats.map Ltc.name++(s.vars.take j).map Vrb.name∧(∀v∈s.vars.take j,vrbR s.lats.length v=true)∧Gr σ y.2.2 y.2.1 y.1.length):=⟨_,fun _ _=>rfl⟩;refine vc_count (s.vars.length) F2 JF2 _ hJF2 ?_ ?_ ?_
        · refine ent ((nm,tk,σ1)) ?_ ?_ ?_ ?_
          · exact Eq.mpr (hJF2 _ _) (⟨by rw[hN];simp,by simp,hG⟩)
          all_goals simp[hF2,List.replicate,am,lle_self,sCells]
        · rintro j ⟨nv,tv,σ2⟩ hj ⟨hM,hR,hH⟩;simp only at hM hR hH;have hnl:nv.length=s.lats.length+j:=by rw[hM];simp;omega
          simp only[hF2,List.replicate,am,dlt hj,Scp.rec_,List.length_map];refine idxL_intro (by omega) (vars_at hj) ?_;simp only[am,Scp.rec_,Vrb.q_len,Vrb.q_one,Vrb.q_tk,Vrb.q_ov];have bad:vrbR s.lats.length s.vars[j]=false→∀(t:List V) (lo:List (List V)),RetK (fun v σ' => v = .bool (scpR s)∧σ' = σ) ⟨t,lo,σ2⟩ (.bool false):=fun h t lo=>retK_intro rfl hH.sub ⟨by rw[scpR_var hj h];rfl,rfl⟩
          by_cases hz:decide (s.vars[j].kind=1)=false∧decide (s.vars[j].kind=2)=false
          · obtain⟨e1,e2⟩:=hz;simp only[am,aml,Scp.rec_,e1,e2];exact bad (by rw[vrbR,e1,e2];rfl) _ _
          have hsel:(decide (s.vars[j].kind=1)=true)∨(decide (s.vars[j].kind=1)=false∧decide (s.vars[j].kind=2)=true):=by
            revert hz;cases decide (s.vars[j].kind=1)<;>cases decide (s.vars[j].kind=2)<;>simp
          rcases hsel with e1 | ⟨e1,e2⟩
          case' inl=>simp only[am,Scp.rec_,e1]
          case' inr=>simp only[am,Scp.rec_,e1,e2]
          all_goals
            by_cases h0:s.vars[j].lat<0
            · simp only[am,aml,decide_eq_true h0];exact bad (by rw[vrbR,decide_eq_false (show ¬0≤s.vars[j].lat by omega)];simp) _ _
            · simp only[am,List.length_map,Scp.rec_,List.length_map,decide_eq_false h0]
              by_cases h9:((s.lats.length:Nat):Int)≤s.vars[j].lat
              · simp only[am,aml,decide_eq_true h9];exact bad (by rw[vrbR,decide_eq_false (show ¬s.vars[j].lat<(s.lats.length:Nat) by omega)];simp) _ _
              · simp only[am,Scp.rec_,decide_eq_false h9];have ok:vrbR s.lats.length s.vars[j]=true:=by
                  rw[vrbR,decide_eq_true (show 0≤s.vars[j].lat by omega),decide_eq_true (show s.vars[j].lat<(s.lats.length:Nat) by omega)]
                  first | (rw[e1,e2];rfl) | (rw[e1];rfl)
                refine Gr.app (by simpa [sCells_len] using hH) (by simp[big,sCells_len];omega) fun tk' σ' hG' _ _=>?_
                simp only[am,aml,winc hj (by omega)];refine nxtD ((nv++[s.vars[j].name],tk',σ')) hj ?_ ?_ ?_ ?_ ?_ ?_
                · exact Eq.mpr (hJF2 _ _) (⟨by rw[hM,List.take_succ_eq_append_getElem hj,List.map_append,List.append_assoc];rfl,take_all hR hj ok,by simpa [sCells_len] using hG'⟩)
                all_goals simp[hF2,List.replicate,am,lle_self,loL,loLL,V.lo,sCells_snoc,Scp.r_lo]
        · rintro⟨nv,tv,σ2⟩ ⟨hM,hR,hH⟩;simp only[List.take_length] at hM hR hH;rw[←namesS] at hM;subst hM;have hnl:(namesS s).length≤100000:=by simp[namesS];omega
          simp only[hF2,List.replicate,am,aml,dnl,aml,Scp.rec_,List.length_map];obtain⟨F3,hF3⟩:∃F3:Nat→Unit→St,∀k z,F3 k z=⟨[.any,.any,.any,.sl tv 1 (sCells (namesS s)),.any,.any,.any,.int .i64 (k:Nat)]++List.replicate 87 .any,[s.enc],σ2⟩:=⟨_,fun _ _=>rfl⟩;obtain⟨JF3,hJF3⟩:∃JF3:Nat→Unit→Prop,∀k z,JF3 k z=(∀m,m<k→∀(hm:m<(namesS s).length),nameR (namesS s)[m]=true):=⟨_,fun _ _=>rfl⟩;refine vc_count ((namesS s).length) F3 JF3 _ hJF3 ?_ ?_ ?_
          · refine ent (()) ?_ ?_ ?_ ?_
            · exact Eq.mpr (hJF3 _ _) ((fun m hm=>absurd hm (Nat.not_lt_zero m)))
            all_goals simp[hF3,List.replicate,am,lle_self,sCells]
          · rintro k z hk hJ;simp only[hF3,List.replicate,am,dlt hk,sCells_len,sCells_len];refine idxL_intro (by omega) (sCells_at hk) ?_;simp only[am,getD_at hk];refine(right2_calls (namesS s)[k] σ2).mono ?_;rintro v σ2 ⟨rfl,rfl⟩;cases hb:nameR (namesS s)[k] with
            | false =>
              simp only[am,aml];exact retK_intro rfl hH.sub ⟨by rw[scpR_name hk hb];rfl,rfl⟩
            | true =>
              simp only[am,aml,winc hk (by omega)];refine nxt (()) hk ?_ ?_ ?_ ?_
              · exact Eq.mpr (hJF3 _ _) (allS hJ (fun _=>hb))
              all_goals simp[hF3,List.replicate,am,lle_self]
          · rintro z hJ;simp only[hF3,List.replicate,am,aml,dnl,aml,sCells_len];refine PCalls.weak (as' := [.sl .no 1 (sCells (namesS s))]) ?_ ⟨VLe.no,trivial⟩ OLe.rfl;refine(rtwice_calls (namesS s) σ2 hnl).mono ?_;rintro v σ2 ⟨rfl,rfl⟩;simp only[am];have e:scpR s=(twiceS (namesS s)).isNone:=by
              simp only[scpR];rw[decide_eq_true (show s.lats.length≤16 by omega),decide_eq_true (show s.vars.length≤64 by omega),List.all_eq_true.2 hS,List.all_eq_true.2 hR,List.all_eq_true.2 (fun x hx=>by
                obtain⟨m,hm,rfl⟩:=List.mem_iff_getElem.1 hx;exact hJ m hm hm)]
              simp
            refine retK_intro rfl hH.sub ⟨?_,rfl⟩;rw[e];cases twiceS (namesS s) with
            | none=>simp[V.erase,optI]
            | some k =>
              exact congrArg V.bool (decide_eq_false (show ¬((k:Nat):Int)<0 by omega))
end Go.Proofs.Tryz

namespace Go.Proofs.Tryz
open Go.Am
set_option maxRecDepth 4000
set_option maxHeartbeats 4000000
end Go.Proofs.Tryz

namespace Go.Proofs.Tryz
open Go.Am
set_option maxRecDepth 4000
set_option maxHeartbeats 4000000
theorem elms_at' {l:List Elm} {j:Nat} (h:j<l.length):(l.map Elm.enc)[((j:Nat):Int).toNat]?=some l[j].enc:=by simp[h]
end Go.Proofs.Tryz

namespace Go.Proofs.Tryz
open Go.Am
set_option maxRecDepth 4000
set_option maxHeartbeats 4000000
def ac18:AC:=.seq (.reg [⟨(some 2),.own .nil [],none⟩])
 (.seq (.reg [⟨(some 3),.own .nil [],none⟩])
 (.seq (.seq (.reg [xm 7 0,xL 8 7,xi 9 0])
 (.block 0 (.loop (.seq (.reg [xb .lss 10 9 8])
 (.seq (.cond (.s 10) (.skip)
 (.exit 0))
 (.seq (.block 1 (.seq (.reg [xA 10 11 7 9,xl 10 12 11,⟨(some 5),.alloc insZ,none⟩,xs 10 5 12])
 (.seq (.seq (.reg [xf 0 13 5,xo 14 13,xB .neq 15 14 1,xm 16 15,xh 16 (xf 1 17 5),xh 16 (xo 18 17),xh 16 (xB .lss 19 18 0),⟨(some 20),.pick (.s 16) (.c (.bool true)) (.s 19),none⟩])
 (.cond (.s 20) (.exit 1)
 (.skip)))
 (.seq (.reg [xi 6 0])
 (.seq (.block 2 (.loop (.seq (.seq (.draw [(xm 21 6,[]),(xm 22 3,[]),(xL 23 22,[]),(xb .lss 24 21 23,[]),(xm 25 24,[]),(xg 25 (xm 26 3),[]),(xg 25 (xm 27 6),[]),(xg 25 (xA 1 28 26 27),[]),(xg 25 (xo 29 28),[]),(xg 25 (xf 1 30 5),[]),(xg 25 (xo 31 30),[]),(xg 25 (xb .lss 32 29 31),[]),(⟨(some 33),.pick (.s 25) (.s 32) (.c (.bool false)),none⟩,[])])
 (.cond (.s 33) (.skip)
 (.exit 2)))
 (.block 3 (.reg [xm 34 6,xB .add 35 34 1,xm 6 35])))))
 (.seq (.seq (.draw [(xm 36 6,[]),(xm 37 3,[]),(xL 38 37,[]),(xb .lss 39 36 38,[]),(xm 40 39,[]),(xg 40 (xm 41 3),[]),(xg 40 (xm 42 6),[]),(xg 40 (xA 1 43 41 42),[]),(xg 40 (xo 44 43),[]),(xg 40 (xf 1 45 5),[]),(xg 40 (xo 46 45),[]),(xg 40 (xb .eql 47 44 46),[]),(⟨(some 48),.pick (.s 40) (.s 47) (.c (.bool false)),none⟩,[])])
 (.cond (.s 48) (.exit 1)
 (.skip)))
 (.seq (.reg [xm 49 3,⟨(some 50),.bslice 1 [(.c (.int .i64 0))],none⟩,⟨(some 51),.own (.app 1) [(.s 49),(.s 50)],none⟩,xm 3 51])
 (.seq (.seq (.draw [(xm 52 3,[]),(xm 53 6,[]),(xB .add 54 53 1,[]),(⟨(some 55),.slc 1 (.s 52) (some (.s 54)) none none,none⟩,[]),(xm 56 3,[]),(xm 57 6,[]),(⟨(some 58),.slc 1 (.s 56) (some (.s 57)) none none,none⟩,[])])
 (.reg [⟨(some 59),.own (.cpy 1) [(.s 55),(.s 58)],none⟩]))
 (.reg [xm 60 3,xm 61 6,xf 1 62 5,xo 63 62,⟨(some 64),.own (.idx 1) [(.s 60),(.s 61)],none⟩,xs 1 64 63])))))))))
 (.reg [xB .add 65 9 1,xm 9 65])))))))
 (.seq (.upd (.reg [xm 66 3,xm 2 66]))
 (.ret))))
theorem fn18:IsFn prog 18 ac18 [.tmp 2] 67:=⟨f18,⟨[2,3,23,28,38,43,51,55,58,64],[14],[11]⟩,func18,by kernel_rfl,by kernel_rfl,by kernel_rfl,by kernel_rfl⟩
theorem iCells_get {l:List Int} {j:Nat} (h:j<l.length):(iCells l)[j]?=some [.int .i64 l[j]]:=by simp[iCells,h]
theorem iCells_one:∀{l:List Int},oneL (iCells l).flatten=true
  | []=>rfl
  | x::l=>by have:=@iCells_one l;simpa [iCells,oneL,V.one] using this
theorem int_ld {cs rest:List V} {n:Int} {j:Nat} (h:cs.drop (j*1)=[.int .i64 n]++rest):ldC false 1 (cs.drop j)=some (.int .i64 n):=by
  rw[Nat.mul_one] at h;rw[h];rfl
def z38_:=And.intro @am <| And.intro @amo <| And.intro @ams @Ins.rec_
def z39_:=And.intro @am <| And.intro @aml <| And.intro @Ins.rec_ @Nat.mul_one
def z40_:=And.intro @am <| And.intro @amo <| And.intro @Ins.rec_ @Nat.mul_one
theorem cvars_calls (l:List Ins) {σ:Store} (hl:l.length≤100000):PCalls prog 18 [.sl .no 10 (l.map Ins.enc)] σ fun v σ' => v = .sl .no 1 (iCells (varsF l))∧σ' = σ:=by
  refine fn18.calls ?_;simp only[slots,ac18,z38_,List.length_map];obtain⟨F,hF⟩:∃F:Nat→V × Store→St,∀i x,F i x=⟨[.any,.any,.any,x.1,.any,.any,.any,.sl .no 10 (l.map Ins.enc),.int .i64 (l.length:Nat),.int .i64 (i:Nat)]++List.replicate 57 .any,[],x.2⟩:=⟨_,fun _ _=>rfl⟩;obtain⟨JF,hJF⟩:∃JF:Nat→V × Store→Prop,∀i x,JF i x=(Own x.2 1 x.1 (iCells (varsF (l.take i)))∧OwnS σ x.2 x.1):=⟨_,fun _ _=>rfl⟩;refine vc_count (l.length) F JF _ hJF ?_ ?_ ?_
  · refine ent ((.raw (.slice none 0 0),σ)) ?_ ?_ ?_ ?_
    · exact Eq.mpr (hJF _ _) (⟨Own.none,OwnS.start⟩)
    all_goals simp[hF,List.replicate,am,lle_self]
  · rintro i ⟨v,σ1⟩ hi ⟨hO,hS⟩;simp only at hO hS;have hlen:=@varsF_len (l.take i);have hlt:(l.take i).length=i:=by simp;omega
    rw[hlt] at hlen;have hvar:=varsF_take hi;generalize varsF (l.take i)=o at hO hlen hvar;simp only[hF,List.replicate,am,dlt hi];refine idxL_intro (by omega) (codes_at hi) ?_;simp only[am,Ins.rec_]
    by_cases hop:l[i].op=1
    case neg =>
      have hv:varsF (l.take (i+1))=o:=by rw[hvar,varI,if_neg (fun h=>hop h.1)]
      simp only[am,aml,reduceCtorEq,decide_eq_false hop,winc hi (by omega)];refine nxtD ((v,σ1)) hi ?_ ?_ ?_ ?_ ?_ ?_
      · exact Eq.mpr (hJF _ _) (⟨by rw[hv];exact hO,hS⟩)
      all_goals simp[hF,List.replicate,am,lle_self,loL,loLL,V.lo,own_lo hO]
    simp only[am,Ins.rec_,decide_eq_true hop]
    by_cases hn:l[i].n<0
    case pos =>
      have hv:varsF (l.take (i+1))=o:=by rw[hvar,varI,if_neg (fun h=>by omega)]
      simp only[am,aml,reduceCtorEq,decide_eq_true hn,winc hi (by omega)];refine nxtD ((v,σ1)) hi ?_ ?_ ?_ ?_ ?_ ?_
      · exact Eq.mpr (hJF _ _) (⟨by rw[hv];exact hO,hS⟩)
      all_goals simp[hF,List.replicate,am,lle_self,loL,loLL,V.lo,own_lo hO]
    simp only[am,decide_eq_false hn];have hvar:varsF (l.take (i+1))=insI l[i].n o:=by rw[hvar,varI,if_pos ⟨hop,by omega⟩]
    obtain⟨k,hk,hlt,hge,hin⟩:∃k,k≤o.length∧(∀j,j<k→∃h:j<o.length,o[j]<l[i].n)∧(∀h:k<o.length,¬o[k]<l[i].n)∧insI l[i].n o=if o[k]?=some l[i].n then o else o.take k++l[i].n::o.drop k :=
      ⟨lessI l[i].n o,lessI_le,fun j hj=>lessI_lt hj,fun h=>lessI_ge h,rfl⟩
    obtain⟨F2,hF2⟩:∃F2:Nat→Unit→St,∀j y,F2 j y=⟨[.any,.any,.any,v,.any,.ptr (.loc 0) 0,.int .i64 (j:Nat),.sl .no 10 (l.map Ins.enc),.int .i64 (l.length:Nat),.int .i64 (i:Nat)]++List.replicate 57 .any,[l[i].enc],σ1⟩:=⟨_,fun _ _=>rfl⟩;obtain⟨JF2,hJF2⟩:∃JF2:Nat→Unit→Prop,∀j y,JF2 j y=(True):=⟨_,fun _ _=>rfl⟩;refine vc_count (k) F2 JF2 _ hJF2 ?_ ?_ ?_
    · refine ent (()) ?_ ?_ ?_ ?_
      · exact Eq.mpr (hJF2 _ _) (trivial)
      all_goals simp[hF2,List.replicate,am,lle_self]
    · rintro j y hj -;obtain⟨hjo,hjx⟩:=hlt j hj;simp only[hF2,List.replicate,am];refine hO.lenL ?_;simp only[am,iCells_len,dlt hjo];refine hO.idxL (iCells_get hjo) fun b cs rest hb hcs hdr=>?_
      have hld:=int_ld hdr;simp only[z39_,hcs,hld,decide_eq_true hjx,winc hj (by omega)];refine nxt (()) hj ?_ ?_ ?_ ?_
      · exact Eq.mpr (hJF2 _ _) (trivial)
      all_goals simp[hF2,List.replicate,am,lle_self]
    · rintro y -;simp only[hF2,List.replicate,am]
      by_cases he:o[k]?=some l[i].n
      · obtain⟨hkl,hex⟩:=List.getElem?_eq_some_iff.1 he;refine hO.lenL ?_;simp only[am,iCells_len,dlt hkl];refine hO.idxL (iCells_get hkl) fun b cs rest hb hcs hdr=>?_
        have hld:=int_ld hdr;simp only[z39_,Nat.reduceEqDiff,reduceCtorEq,hcs,hld,decide_eq_false (hge hkl)];refine hO.lenL ?_;simp only[am,iCells_len,dlt hkl];refine hO.idxL (iCells_get hkl) fun b cs rest hb hcs hdr=>?_
        have hld:=int_ld hdr;simp only[z39_,reduceCtorEq,hcs,hld,decide_eq_true hex,winc hi (by omega)];refine nxtD ((v,σ1)) hi ?_ ?_ ?_ ?_ ?_ ?_
        · exact Eq.mpr (hJF _ _) (⟨by rw[hvar,hin,if_pos he];exact hO,hS⟩)
        all_goals simp[hF,List.replicate,am,lle_self,loL,loLL,V.lo,own_lo hO]
      have hins:insI l[i].n o=o.take (k)++l[i].n::o.drop (k):=by rw[hin,if_neg he]
      refine hO.lenL ?_
      by_cases hkl:k<o.length
      case' pos =>
        simp only[am,iCells_len,dlt hkl];refine hO.idxL (iCells_get hkl) fun b cs rest hb hcs hdr=>?_
        have hld:=int_ld hdr;simp only[z39_,Nat.reduceEqDiff,reduceCtorEq,hcs,hld,decide_eq_false (hge hkl)];refine hO.lenL ?_;simp only[am,iCells_len,dlt hkl];refine hO.idxL (iCells_get hkl) fun b cs rest hb hcs hdr=>?_
        have hld:=int_ld hdr;have hne:¬o[k]=l[i].n:=fun e=>he (by rw[List.getElem?_eq_getElem hkl,e])
        simp only[z40_,hcs,hld,decide_eq_false hne]
      case' neg =>
        simp only[am,Nat.reduceEqDiff,aml,reduceCtorEq,iCells_len,decide_eq_false (show ¬((k:Nat):Int)<(o.length:Nat) by omega)];refine hO.lenL ?_;simp only[am,amo,iCells_len,decide_eq_false (show ¬((k:Nat):Int)<(o.length:Nat) by omega)]
      all_goals
        refine hO.app (m:=[[.int .i64 0]]) (by simp) rfl (by simp[big,iCells];omega) fun v2 σ2 hO2 hF2=>?_
        simp only[am,amc,winc (show k<o.length+1 by omega) (by omega)];refine hO2.slcFrom (m:=k+1) (by simp[iCells];omega) fun v3 c3=>?_
        simp only[am,amc];refine hO2.slcFrom (m:=k) (by simp[iCells];omega) fun v4 c4=>?_
        simp only[am,amo];refine hO2.cpy c3 c4 (by omega) (by simp[iCells];omega) (by rw[List.flatten_append,oneL_app,iCells_one];rfl) fun σ3 hO3 hF3=>?_
        simp only[am,amo,Ins.rec_];rw[hins] at hvar;obtain⟨c,hc⟩:∃c,((iCells o++[[V.int IntKind.i64 0]]).take (k+1)++((iCells o++[[V.int IntKind.i64 0]]).drop k).take ((iCells o++[[V.int IntKind.i64 0]]).length - (k+1)))[k]?=some c:=⟨_,List.getElem?_eq_getElem (by simp[iCells];omega)⟩;have hcl:c.length=1:=by
          obtain⟨_,_,_,_,h2,_⟩:=hO3;exact h2 c (List.mem_of_getElem? hc)
        refine hO3.idx (by omega) (j:=(k:Nat)) (c:=c) (by rw[Int.toNat_natCast];exact hc) fun b cs rest hb hcs hdr=>?_
        rw[Int.toNat_natCast] at hdr ⊢;obtain⟨u,rfl⟩:∃u,c=[u]:=by
          match c,hcl with
          | [u],_=>exact⟨u,rfl⟩
        have hhas:hasN 1 (cs.drop k)=true:=by rw[Nat.mul_one] at hdr;rw[hdr];rfl
        obtain⟨hO4,hF4⟩:=hO3.put (off:=0) (x:=[.int .i64 l[i].n]) hc hb hcs (by simp);rw[show setAt [u] 0 [V.int IntKind.i64 l[i].n]=[V.int IntKind.i64 l[i].n] from rfl,shift_set (by simp[iCells];omega),Nat.mul_one,Nat.add_zero] at hO4;rw[Nat.mul_one,Nat.add_zero] at hF4;simp only[am,aml,Nat.mul_one,hcs,hhas,winc hi (by omega)];refine nxtD ((v2,σ3.set b (setAt cs k [.int .i64 l[i].n]))) hi ?_ ?_ ?_ ?_ ?_ ?_
        · exact Eq.mpr (hJF _ _) (⟨by rw[hvar];simpa [iCells] using hO4,((hS.step hF2).step hF3).step hF4⟩)
        all_goals simp[hF,List.replicate,am,lle_self,loL,loLL,V.lo,own_lo hO2]
  · rintro⟨v,σ1⟩ ⟨hO,hS⟩;simp only[List.take_length] at hO hS;simp only[hF,List.replicate,am,aml,dnl,aml];refine Upd.frz hO iCells_one (t' := [.any,.any,.any,.sl .no 1 (iCells (varsF l))]++List.replicate 63 .any) (by simp[List.replicate,fto]) fun σ' hs=>?_
    simp only[am,List.replicate];exact retK_intro rfl (hs σ hS) ⟨rfl,rfl⟩
end Go.Proofs.Tryz

namespace Go.Proofs.Tryz
open Go.Am
set_option maxRecDepth 4000
set_option maxHeartbeats 4000000
def ac5:AC:=.seq (.reg [⟨(some 3),.box 2 (.s 0),none⟩,⟨(some 4),.box 5 (.s 1),none⟩,⟨(some 5),.box 3 (.s 2),none⟩,⟨(some 6),.mv (.c (.bool false)),none⟩])
 (.seq (.seq (.reg [xl 2 21 3,xc 6 22 [.s 21],xm 23 22,xh 23 (xl 5 24 4),⟨(some 25),.bslice 5 [(.s 24)],(some (23,false))⟩,xh 23 (xc 7 26 [.s 25]),⟨(some 27),.pick (.s 23) (.c (.bool true)) (.s 26),none⟩,xm 28 27,xh 28 (xl 2 29 3),xh 28 (xc 12 30 [.s 29]),⟨(some 31),.not (.s 30),(some (28,false))⟩,⟨(some 32),.pick (.s 28) (.c (.bool true)) (.s 31),none⟩,xm 33 32,xh 33 (xf 1 34 5),xh 33 (xo 35 34),xh 33 (xL 36 35),xh 33 (xf 1 37 3),xh 33 (xo 38 37),xh 33 (xL 39 38),xh 33 (xb .neq 40 36 39),⟨(some 41),.pick (.s 33) (.c (.bool true)) (.s 40),none⟩,xm 42 41,xh 42 (xf 2 43 5),xh 42 (xo 44 43),xh 42 (xL 45 44),xh 42 (xf 1 46 3),xh 42 (xo 47 46),xh 42 (xL 48 47),xh 42 (xb .neq 49 45 48),⟨(some 50),.pick (.s 42) (.c (.bool true)) (.s 49),none⟩])
 (.cond (.s 50) (.seq (.reg [xc 8 51 [],xm 6 51])
 (.ret))
 (.skip)))
 (.seq (.reg [xl 2 53 3,xf 0 54 5,xo 55 54,xl 5 56 4,xc 9 57 [.s 53,.s 55,.s 56],xm 52 57,xe 58 52 0,xe 59 52 1,xm 7 58,xm 8 59])
 (.seq (.seq (.reg [xm 60 8,⟨(some 61),.not (.s 60),none⟩])
 (.cond (.s 61) (.seq (.reg [xc 8 62 [],xm 6 62])
 (.ret))
 (.skip)))
 (.seq (.reg [xf 0 63 3,xo 64 63,xf 0 65 5,xo 66 65,xA 3 67 64 66,xf 1 68 67,xl 2 69 68,⟨(some 9),.alloc [(.bool false),(.sl .full 67 [])],none⟩,xs 2 9 69])
 (.seq (.reg [⟨(some 10),.mv (.c (.sl .full 8 [])),none⟩,⟨(some 11),.mv (.c (.sl .full 8 [])),none⟩])
 (.seq (.reg [xm 70 7,xc 18 71 [.s 70],xc 17 72 [.s 71],xm 12 72])
 (.seq (.seq (.reg [xf 1 73 5,xo 74 73,xL 75 74,xi 76 0])
 (.block 0 (.loop (.seq (.reg [xb .lss 77 76 75])
 (.seq (.cond (.s 77) (.skip)
 (.exit 0))
 (.seq (.block 1 (.seq (.reg [xm 78 76,xm 13 78])
 (.seq (.seq (.draw [(xl 2 79 9,[]),(xf 1 80 5,[]),(xo 81 80,[]),(xm 82 13,[]),(xA 8 83 81 82,[]),(xl 8 84 83,[]),(xc 13 85 [.s 79,.s 84],[]),(⟨(some 86),.not (.s 85),none⟩,[]),(xm 87 86,[]),(xh 87 (xl 2 88 9),[]),(xh 87 (xf 2 89 5),[]),(xh 87 (xo 90 89),[]),(xh 87 (xm 91 13),[]),(xh 87 (xA 8 92 90 91),[]),(xh 87 (xl 8 93 92),[]),(xh 87 (xc 13 94 [.s 88,.s 93]),[]),(⟨(some 95),.not (.s 94),(some (87,false))⟩,[]),(⟨(some 96),.pick (.s 87) (.c (.bool true)) (.s 95),none⟩,[])])
 (.cond (.s 96) (.seq (.reg [xc 8 97 [],xm 6 97])
 (.ret))
 (.skip)))
 (.seq (.draw [(xm 98 10,[]),(xl 2 99 9,[]),(xf 1 100 5,[]),(xo 101 100,[]),(xm 102 13,[]),(xA 8 103 101 102,[]),(xl 8 104 103,[]),(xf 2 105 5,[]),(xo 106 105,[]),(xm 107 13,[]),(xA 8 108 106 107,[]),(xl 8 109 108,[]),(xc 19 110 [.s 99,.s 104,.s 109],[]),(⟨(some 111),.bslice 8 [(.s 110)],none⟩,[]),(xa 8 112 98 111,[]),(xm 10 112,[])])
 (.seq (.reg [xf 1 113 5,xo 114 113,xm 115 13,xA 8 116 114 115,xl 8 117 116,⟨(some 14),.alloc elmZ,none⟩,xs 8 14 117])
 (.seq (.seq (.reg [xm 118 12,xm 119 13,xc 20 120 [.s 118,.s 119],⟨(some 121),.not (.s 120),none⟩])
 (.cond (.s 121) (.reg [xf 2 122 5,xo 123 122,xm 124 13,xA 8 125 123 124,xl 8 126 125,xs 8 14 126])
 (.skip)))
 (.reg [xm 127 11,xl 8 128 14,⟨(some 129),.bslice 8 [(.s 128)],none⟩,xa 8 130 127 129,xm 11 130])))))))
 (.reg [xB .add 131 76 1,xm 76 131])))))))
 (.seq (.reg [xl 2 133 9,xm 134 7,xf 1 135 5,xo 136 135,xc 14 137 [.s 133,.s 134,.s 136],xm 132 137,xe 138 132 0,xe 139 132 1,⟨(some 15),.alloc elmZ,none⟩,xs 8 15 138,xm 16 139])
 (.seq (.reg [xl 2 141 9,xm 142 7,xm 143 10,xc 14 144 [.s 141,.s 142,.s 143],xm 140 144,xe 145 140 0,xe 146 140 1,⟨(some 17),.alloc elmZ,none⟩,xs 8 17 145,xm 18 146])
 (.seq (.reg [xl 2 148 9,xm 149 7,xm 150 11,xc 14 151 [.s 148,.s 149,.s 150],xm 147 151,xe 152 147 0,xe 153 147 1,⟨(some 19),.alloc elmZ,none⟩,xs 8 19 152,xm 20 153])
 (.seq (.reg [xl 8 154 15,xl 8 155 17,xc 21 156 [.s 154,.s 155],xm 157 156,xg 157 (xl 8 158 15),xg 157 (xl 8 159 19),⟨(some 160),.eqA false [1,1,1,1,1,1,1,1] (.s 158) (.s 159),(some (157,true))⟩,⟨(some 161),.pick (.s 157) (.s 160) (.c (.bool false)),none⟩,xm 162 161,xg 162 (xc 8 163 []),⟨(some 164),.pick (.s 162) (.s 163) (.c (.bool false)),none⟩,xm 6 164])
 (.ret))))))))))))
theorem fn5:IsFn prog 5 ac5 [.tmp 6] 165:=⟨f5,⟨[],[],[]⟩,func5,by kernel_rfl,by kernel_rfl,by kernel_rfl,by kernel_rfl⟩
theorem tz_sub {σ σ' : Store} (hg:TZ σ) (h:σ.sub σ'):TZ σ' := h.1 _ _ hg
def z41_:=And.intro @am <| And.intro @ams <| And.intro @Elm.rec_ <| And.intro @Nd.rec_ @Scp.rec_
theorem rises14_calls (s:Scp) (n:Nd) (w:Wht) {σ:Store} (hg:TZ σ) (hw:n.wt≤big):PCalls prog 5 [.agg s.enc,.agg n.enc,.agg w.enc] σ fun v σ' => v = .bool true∧σ' = σ:=by
  refine fn5.calls ?_;simp only[slots,ac5,z41_,Nat.reduceAdd,Wht.rec_];refine cl (big13_calls s σ) ?_;cases hb:big13 s with
  | true =>
    simp only[am];refine cl (alive14_calls hg) ?_;simp only[am];refine retS ?_;simp[V.erase]
  | false =>
    have hs:=big13_ok hb;simp only[am,Nd.rec_];refine cl (big_calls [n] σ (show 1≤big by decide) (by simpa using hw)) ?_;cases hb2:bigQ [n] with
    | true =>
      simp only[am];refine cl (alive14_calls hg) ?_;simp only[am];refine retS ?_;simp[V.erase]
    | false =>
      have hc:n.cnt≤300:=by simp[bigQ] at hb2;omega
      simp only[am,Scp.rec_];refine cl (scright_calls s σ hs) ?_;cases hr:scpR s with
      | false =>
        simp only[am];refine cl (alive14_calls hg) ?_;simp only[am];refine retS ?_;simp[V.erase]
      | true =>
        have h64:s.vars.length≤64:=by
          simp only[scpR,Bool.and_eq_true,decide_eq_true_eq] at hr;exact hr.1.1.1.1.2
        simp only[am,List.length_map,Scp.rec_,Wht.rec_,List.length_map]
        by_cases hv:w.v.length=s.vars.length
        case neg =>
          simp only[am,decide_eq_false (show ¬((w.v.length:Nat):Int)=(s.vars.length:Nat) by omega)];refine cl (alive14_calls hg) ?_;simp only[am];refine retS ?_;simp[V.erase]
        simp only[am,List.length_map,Scp.rec_,Wht.rec_,List.length_map,decide_eq_true (show ((w.v.length:Nat):Int)=(s.vars.length:Nat) by omega)]
        by_cases hv2:w.w.length=s.vars.length
        case neg =>
          simp only[am,decide_eq_false (show ¬((w.w.length:Nat):Int)=(s.vars.length:Nat) by omega)];refine cl (alive14_calls hg) ?_;simp only[am];refine retS ?_;simp[V.erase]
        simp only[am,Nd.rec_,Scp.rec_,Wht.rec_,decide_eq_true (show ((w.w.length:Nat):Int)=(s.vars.length:Nat) by omega)];refine cl (ccompile_calls s w.lat n hg hs hw (by omega)) ?_;cases hC:compR s w.lat n with
        | none =>
          simp only[am,codeT,Option.getD_none,Option.isSome_none];refine cl (alive14_calls hg) ?_;simp only[am];refine retS ?_;simp[V.erase]
        | some l =>
          obtain⟨k,hk,hlt,hq,hcf⟩:=compR_some hC;have hll:=compF_len n hcf;have hvl:=@varsF_len l;have hsh:s.lats[k].shape.ok:=hs.2.2 _ (List.getElem_mem hlt);have esh:shapeF s k=s.lats[k].shape:=shapeF_at hlt;simp only[am,Scp.rec_,Wht.rec_,codeT,Option.getD_some,Option.isSome_some,hk];refine idxL_intro (by omega) (lats_at hlt) ?_;simp only[am,Nat.reduceAdd,Shp.rec_,Scp.rec_];refine cl (cvars_calls l (by omega)) ?_;simp only[am];refine cl (ref01_of_calls (varsF l) σ (by omega)) ?_;simp only[am,List.length_map,Wht.rec_,List.length_map];obtain⟨F,hF⟩:∃F:Nat→Nat × Tk × Store→St,∀i x,F i x=⟨[.any,.any,.any,.ptr (.loc 0) 0,.ptr (.loc 1) 0,.ptr (.loc 2) 0,.any,.sl .no 10 (l.map Ins.enc),.any,.ptr (.loc 3) 0,.sl (.tk x.1) 8 ((mostF s.lats[k].shape w.v w.w i).map Elm.enc),.sl x.2.1 8 ((someF l w.v w.w i).map Elm.enc),.int .u64 ((ofB (varsF l)).toNat:Nat),.any,.any,.any,.any,.any,.any,.any,.any,.any,.any,.any,.any,.any,.any,.any,.any,.any,.any,.any,.any,.any,.any,.any,.any,.any,.any,.any,.any,.any,.any,.any,.any,.any,.any,.any,.any,.any,.any,.any,.any,.any,.any,.any,.any,.any,.any,.any,.any,.any,.any,.any,.any,.any,.any,.any,.any,.any,.any,.any,.any,.any,.sl .no 8 (w.v.map Elm.enc),.int .i64 (w.v.length:Nat),.int .i64 (i:Nat)]++List.replicate 88 .any,[s.enc,n.enc,w.enc,s.lats[k].shape.enc],x.2.2⟩:=⟨_,fun _ _=>rfl⟩;obtain⟨JF,hJF⟩:∃JF:Nat→Nat × Tk × Store→Prop,∀i x,JF i x=(Toks σ x.2.2 [(.tk x.1,i),(x.2.1,i)]∧∀m,m<i→∀(hm:m<w.v.length),fitsE s.lats[k].shape w.v[m]=true∧fitsE s.lats[k].shape (w.w[m]'(by omega))=true):=⟨_,fun _ _=>rfl⟩;refine vc_count (w.v.length) F JF _ hJF ?_ ?_ ?_
          · refine entT 0 fun τ hτ=>⟨(τ,.full,σ.setTip τ 0),Eq.mpr (hJF _ _) ⟨(Toks.init (L:=[(.full,0),(.full,0)]) (by simp)).put hτ (.inr hτ),fun m hm=>absurd hm (Nat.not_lt_zero m)⟩,?_,?_,?_⟩
            all_goals simp[hF,List.replicate,lto,mostF,someF]
          · rintro i ⟨τ,t2,σ1⟩ hi ⟨hT,hJ⟩;simp only at hT;have hi2:i<w.w.length:=by omega
            have hg1:=tz_sub hg hT.1;simp only[hF,List.replicate,am,dlt hi,Shp.rec_,Wht.rec_];refine idxL_intro (by omega) (elms_at' hi) ?_;simp only[am,Shp.rec_,Elm.rec_];refine CallD.intro (fits_calls s.lats[k].shape w.v[i] σ1 hsh) ?_;cases hf:fitsE s.lats[k].shape w.v[i] with
            | false =>
              simp only[am];refine cl (alive14_calls hg1) ?_;simp only[am,aml];exact retK_intro rfl hT.1 ⟨rfl,rfl⟩
            | true =>
              simp only[am,Shp.rec_,Wht.rec_];refine idxL_intro (by omega) (elms_at' hi2) ?_;simp only[am,Shp.rec_,Elm.rec_];refine CallD.intro (fits_calls s.lats[k].shape w.w[i] σ1 hsh) ?_;cases hf2:fitsE s.lats[k].shape w.w[i] with
              | false =>
                simp only[am];refine cl (alive14_calls hg1) ?_;simp only[am,aml];exact retK_intro rfl hT.1 ⟨rfl,rfl⟩
              | true =>
                simp only[am,Shp.rec_,Wht.rec_];refine idxL_intro (by omega) (elms_at' hi) ?_;simp only[am,Elm.rec_,Wht.rec_];refine idxL_intro (by omega) (elms_at' hi2) ?_;simp only[am,Shp.rec_,Elm.rec_];refine CallD.intro (rjoin_calls7 s.lats[k].shape w.v[i] w.w[i] σ1 hsh) ?_;simp only[am,Elm.rec_];have hl1:((mostF s.lats[k].shape w.v w.w i).map Elm.enc).length=i:=by simp[mostF]
                have hl2:((someF l w.v w.w i).map Elm.enc).length=i:=by simp[someF]
                have gv:w.v.getD i .zero=w.v[i]:=getD_at hi;have gw:w.w.getD i .zero=w.w[i]:=getD_at hi2;have em:(mostF s.lats[k].shape w.v w.w (i+1)).map Elm.enc=(mostF s.lats[k].shape w.v w.w i).map Elm.enc++[(joinE s.lats[k].shape w.v[i] w.w[i]).enc]:=by
                  rw[mostF,range_map_succ,List.map_append,gv,gw];rfl
                have eo:(someF l w.v w.w (i+1)).map Elm.enc=(someF l w.v w.w i).map Elm.enc++[(if hasB (ofB (varsF l)) (i:Nat) then w.v[i] else w.w[i]).enc]:=by
                  rw[someF,range_map_succ,List.map_append,gv,gw];rfl
                obtain⟨ht0,ht1⟩:σ.tip τ=none∧σ1.tip τ=some i:=hT.2.1 (.tk τ,i) (by simp);refine appD_tk (by rw[hl1];simp[big];omega) (by rw[hl1];exact ht1) ?_;rw[hl1];have hT2:=hT.put (m:=i+1) ht0 (.inl rfl);have hJ2:∀m,m<i+1→∀(hm:m<w.v.length),fitsE s.lats[k].shape w.v[m]=true∧fitsE s.lats[k].shape (w.w[m]'(by omega))=true:=fun m hm hml=>by
                  rcases Nat.lt_succ_iff_lt_or_eq.1 hm with e | rfl
                  · exact hJ m e hml
                  · exact⟨hf,hf2⟩
                simp only[am,Wht.rec_];refine idxL_intro (by omega) (elms_at' hi) ?_;simp only[am,Nat.reduceAdd,Elm.rec_];refine cl (ref01_has_calls (ofB (varsF l)) (i:Nat) _) ?_;cases hh:hasB (ofB (varsF l)) (i:Nat) with
                | true =>
                  simp only[am,Elm.rec_];rw[hh,if_pos rfl] at eo;refine app_any (by rw[hl2];exact hT2.perm (List.Perm.swap _ _ _)) (by rw[hl2];simp[big];omega) fun υ hυ=>?_
                  rw[hl2] at hυ ⊢;simp only[am,aml,winc hi (by omega)];refine nxtD ((τ,.tk υ,(σ1.setTip τ (i+1)).setTip υ (i+1))) hi ?_ ?_ ?_ ?_ ?_ ?_
                  · exact Eq.mpr (hJF _ _) (⟨hυ.perm (List.Perm.swap _ _ _),hJ2⟩)
                  all_goals simp[hF,List.replicate,am,lle_self,loL,loLL,V.lo,em,eo,Scp.r_lo,Shp.r_lo,Nd.r_lo,Wht.r_lo]
                | false =>
                  simp only[am,Wht.rec_];refine idxL_intro (by omega) (elms_at' hi2) ?_;simp only[am,Elm.rec_];rw[hh,if_neg (by simp)] at eo;refine app_any (by rw[hl2];exact hT2.perm (List.Perm.swap _ _ _)) (by rw[hl2];simp[big];omega) fun υ hυ=>?_
                  rw[hl2] at hυ ⊢;simp only[am,aml,winc hi (by omega)];refine nxtD ((τ,.tk υ,(σ1.setTip τ (i+1)).setTip υ (i+1))) hi ?_ ?_ ?_ ?_ ?_ ?_
                  · exact Eq.mpr (hJF _ _) (⟨hυ.perm (List.Perm.swap _ _ _),hJ2⟩)
                  all_goals simp[hF,List.replicate,am,lle_self,loL,loLL,V.lo,em,eo,Scp.r_lo,Shp.r_lo,Nd.r_lo,Wht.r_lo]
          · rintro⟨τ,t2,σ1⟩ ⟨hT,hJ⟩;simp only at hT;have hg1:=tz_sub hg hT.1;have hall:∀e∈w.v,fitsE (shapeF s k) e=true:=fun e he=>by
              obtain⟨m,hm,rfl⟩:=List.mem_iff_getElem.1 he;rw[esh];exact(hJ m hm hm).1
            have hall2:∀e∈w.w,fitsE (shapeF s k) e=true:=fun e he=>by
              obtain⟨m,hm,rfl⟩:=List.mem_iff_getElem.1 he;rw[esh];exact(hJ m (by omega) (by omega)).2
            obtain⟨a,b,e1,e2,e3,hle⟩:=rises hv hv2 h64 hall hall2 hq hcf;rw[esh] at e1 e2 e3;have lm:(mostF s.lats[k].shape w.v w.w w.v.length).length=w.v.length:=by simp[mostF]
            have ls:(someF l w.v w.w w.v.length).length=w.v.length:=by simp[someF]
            simp only[hF,List.replicate,am,aml,dnl,aml,Shp.rec_,Wht.rec_];refine cl (eval_calls s.lats[k].shape l w.v hg1 hsh (by omega) (by omega)) ?_;rw[e1];simp only[am,Nat.reduceAdd,Shp.rec_,Elm.rec_,evalT,Option.getD_some,Option.isSome_some];refine cl (er3_calls (eval_calls s.lats[k].shape l (mostF s.lats[k].shape w.v w.w w.v.length) hg1 hsh (by omega) (by omega)) rfl rfl rfl) ?_;rw[e2];simp only[am,Nat.reduceAdd,Shp.rec_,Elm.rec_,evalT,Option.getD_some,Option.isSome_some];refine cl (er3_calls (eval_calls s.lats[k].shape l (someF l w.v w.w w.v.length) hg1 hsh (by omega) (by omega)) rfl rfl rfl) ?_;rw[e3];simp only[am,Nat.reduceAdd,Elm.rec_,evalT,Option.getD_some,Option.isSome_some];refine cl (leq_calls a b σ1) ?_;simp only[am,decide_true,Elm.rec_,hle];refine cl (alive14_calls hg1) ?_;simp only[am];exact retK_intro rfl hT.1 ⟨rfl,rfl⟩
end Go.Proofs.Tryz

namespace Go.Proofs.Tryz
open Go.Am Go.ChangeShapes Go.WideShapes Go.ChangeAt Go.RowKit
open Go.Proofs.YtaddgcjnnpejjaaGreatDoor
set_option maxRecDepth 100000 in
theorem codeRises_contract (H:Type) (enc:TypeId × Value→H) (W:World) (base:Nat) (args:Array Value) (ds gs:List (DataW H)) (before:List MemPlace)
    (hval:∀(j:Nat) t v,f5.params[j]?=some t→args[j]?=some v→Value.okWide prog W .any base t v)
    (hW:DataW.Whole enc prog f5.params.toList Rows.codeRisesSpec.vars false W args.toList ds gs before) (hk:Rows.uptoSmall H (ds++gs)=true) (hL:laidMetH prog Rows.codeRisesRow.laid W) :
    Calls prog 5 args W fun e W' => ∃v,e = .returned v∧Rows.codeRisesSpec.post enc prog f5 false true false false W args v W' := by
  have hW' := hW;obtain⟨p,q,hA0,hV,rfl,hfz,hnd⟩:=hW;have hA:DataW.TrodAll enc prog W 0 (fun _=>true) true f5.params.toList args.toList ds p:=hA0;rw[params5] at hA hval;obtain⟨v0,vs0,d0,ds0,p0,q0,hargs,rfl,rfl,⟨n0,h0⟩,r0⟩:=trodAll_cons hA;obtain⟨v1,vs1,d1,ds1,p1,q1,rfl,rfl,rfl,⟨n1,h1⟩,r1⟩:=trodAll_cons r0;obtain⟨v2,vs2,d2,ds2,p2,q2,rfl,rfl,rfl,⟨n2,h2⟩,r2⟩:=trodAll_cons r1;obtain⟨rfl,rfl,rfl⟩:=trodAll_nil r2;obtain rfl:args=#[v0,v1,v2]:=by cases args;simp_all
  obtain⟨rfl,rfl⟩:=trodVars_none hV;have hG:=globs_at hL;obtain⟨y0,a0⟩:=rd_scpE (E:=mEnv W gB) rfl rfl (mEnv_comN hG gB_u8) h0;obtain⟨y1,a1,_,b1⟩:=rd_nodeE (E:=mEnv W gB) rfl rfl (mEnv_comN hG gB_u8) _ _ _ h1;obtain⟨y2,a2⟩:=rd_whtE (E:=mEnv W gB) rfl rfl (mEnv_comN hG gB_u8) h2;have hb:Rows.uptoBulkAll [d0,d1,d2]≤1048576:=by
    have h:=of_decide_eq_true hk;rw[List.append_nil] at h;exact h
  simp only[Rows.uptoBulkAll] at hb;have k0:y1.wt≤big:=by
    simp only at b1;simp only[big];omega
  simp only[List.append_nil] at hW';have s0:=val_struct underlying25 (hval 0 25 v0 rfl rfl) a0;have s1:=val_struct underlying29 (hval 1 29 v1 rfl rfl) a1;have s2:=val_struct underlying40 (hval 2 40 v2 rfl rfl) a2;refine law_callsM (rises14_calls y0 y1 y2 gB_glob k0) hG ?_ laid rowed fulls rfl underlying4 (by rw[params5];decide +kernel) rfl ⟨rfl,rfl,rfl⟩ hW';simp only[RL,and_true];exact⟨s0,s1,s2⟩
set_option maxRecDepth 100000 in
theorem codeRises_laid_met (os:Os):laidMet prog Rows.codeRisesRow.laid ((laidWorld os).forCall (fun _ _=>0) ⟨#[],#[.agg #[.slice none 0 0,.slice none 0 0],.agg #[.int .i64 0,.int .i64 0,.string ⟨#[]⟩,.slice none 0 0,.slice none 0 0],.agg #[.int .i64 0,.slice none 0 0,.slice none 0 0]],[]⟩).memory :=
  laidMet_of_run' 8 (by kernel_rfl) (by kernel_rfl)
theorem codeRises_reads (os:Os) {H:Type} (enc:TypeId × Value→H):∃places,DataW.whole enc prog ((laidWorld os).forCall (fun _ _=>0) ⟨#[],#[.agg #[.slice none 0 0,.slice none 0 0],.agg #[.int .i64 0,.int .i64 0,.string ⟨#[]⟩,.slice none 0 0,.slice none 0 0],.agg #[.int .i64 0,.slice none 0 0,.slice none 0 0]],[]⟩).memory f5.params.toList Rows.codeRisesSpec.vars false (#[.agg #[.slice none 0 0,.slice none 0 0],.agg #[.int .i64 0,.int .i64 0,.string ⟨#[]⟩,.slice none 0 0,.slice none 0 0],.agg #[.int .i64 0,.slice none 0 0,.slice none 0 0]]:Array Value).toList 8=some ([.agg [.nil,.nil],.agg [.lit (.int .i64 0),.lit (.int .i64 0),.lit (.string []),.nil,.nil],.agg [.lit (.int .i64 0),.nil,.nil]],[],places) :=
  ⟨[],by kernel_rfl⟩
set_option maxRecDepth 100000 in
theorem codeRises_lifted (os:Os) (started:os.Started) (H:Type) (enc:TypeId × Value→H) (F:Stop.Interp) :
    ReturnsInHanded {} checked os 5 .any ((Rows.OpenSpec.upto Rows.codeRisesSpec).preRow enc prog f5 Rows.codeRisesUptoRow.domain false Rows.codeRisesUptoRow.laid) (((Rows.OpenSpec.upto Rows.codeRisesSpec).at F).post enc prog f5 false true false false):=by
  obtain⟨places,hx⟩:=codeRises_reads os enc;refine returnsInHanded_of_row (C:=checked) (s:=Rows.OpenSpec.upto Rows.codeRisesSpec) own started (by kernel_rfl) func5
    (witness_row_at (enc:=enc) (C:=checked) false (laidWorld os) #[.agg #[.slice none 0 0,.slice none 0 0],.agg #[.int .i64 0,.int .i64 0,.string ⟨#[]⟩,.slice none 0 0,.slice none 0 0],.agg #[.int .i64 0,.slice none 0 0,.slice none 0 0]] rfl (by kernel_rfl) (by kernel_rfl) (by kernel_rfl)
      (OpenSpec.preRow_of_cond 8 hx (by kernel_rfl) (fun k hk=>by cases hk;kernel_rfl) (by kernel_rfl) (codeRises_laid_met os))) ?_
  intro W base args ds gs before hval hW _ hcond _ hL _ _;exact codeRises_contract H enc W base args ds gs before hval hW (hcond _ rfl) hL
theorem codeRises_proved:Rows.CodeRisesUptoSaid :=
  OpenClaim.holds_of_cond 5 f5 rfl rfl rfl rfl rfl rfl rfl ⟨rfl,rfl,rfl,rfl,rfl⟩ rfl rfl rfl rfl rfl (by kernel_rfl) func5 (by kernel_rfl)
    (of_decide_eq_true (by kernel_rfl)) (by unfold Func.isWrapper;first | (rw[if_pos (by decide +kernel)];kernel_rfl) | (rw[if_neg (by decide +kernel)];exact⟨rfl,rfl⟩))
    (fun os started H enc _ F=>by rw[OpenClaim.pre_eq_preRow];exact codeRises_lifted os started H enc F)
theorem codeRises_plain (f:FuncId) (fn:Func) (hf:YtaddgcjnnpejjaaGreatDoor.Tryz.pinned.checked.prog.funcNamed "clearance/clearancelaw14.CodeRises" = some f) (hfn:YtaddgcjnnpejjaaGreatDoor.Tryz.pinned.checked.prog.funcs[f]?=some fn) :
    false=YtaddgcjnnpejjaaGreatDoor.Tryz.pinned.checked.prog.looks []∧∀(j:Nat) t,fn.params[j]?=some t→YtaddgcjnnpejjaaGreatDoor.Tryz.pinned.checked.prog.wantsStandIn t=false:=by
  obtain rfl:f=5:=Option.some.inj ((show prog.funcNamed "clearance/clearancelaw14.CodeRises" = some 5 by kernel_rfl).symm.trans hf) |>.symm;obtain rfl:fn=f5:=(Option.some.inj (func5.symm.trans hfn)).symm;refine⟨by kernel_rfl,fun j t ht=>?_⟩;rw[params5] at ht;have h:t=25∨t=29∨t=40:=by simpa using Array.mem_of_getElem? ht
  rcases h with rfl | rfl | rfl
  · exact(show prog.wantsStandIn 25=false by kernel_rfl)
  · exact(show prog.wantsStandIn 29=false by kernel_rfl)
  · exact(show prog.wantsStandIn 40=false by kernel_rfl)
theorem codeRises_card:Rows.CodeRisesUptoCardSaid :=
  Claim7.holds_tied_plain_at .later [] _ _ _ _ codeRises_proved (fun _ h=>by cases h) (by kernel_rfl) (fun _ h=>by cases h) codeRisesUpto_row_tie rfl ⟨rfl,rfl⟩ (by kernel_rfl) rfl codeRises_plain (by kernel_rfl)
end Go.Proofs.Tryz

namespace Go.Proofs.YtaddgcjnnpejjaaGreatDoor
/-- For every right scope, every label of one of its lattices and every two rows of elements of that lattice as the variables' values, greater values never make less of the label, and a variable that the label's code does not name makes no difference (CodeRises); on condition that what comes in is of a bulk of at most 1048576 and that the listed variable of math/bits is as its own initialiser lays it. -/
theorem codeRises_card_holds : Rows.CodeRisesUptoCardSaid := Go.Proofs.Tryz.codeRises_card
end Go.Proofs.YtaddgcjnnpejjaaGreatDoor
