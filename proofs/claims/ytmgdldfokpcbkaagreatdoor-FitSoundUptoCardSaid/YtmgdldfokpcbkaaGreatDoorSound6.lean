/-
  Part 6 of the proof of FitSoundUptoCardSaid: a logic over the model, the forms of the functions that the law reaches, and what they compute.
-/
import Derived.Test.YtmgdldfokpcbkaaGreatDoorProg
import Derived.ProofKit
import Derived.OpenShut
import Derived.JoinedCond
import Derived.ChangeStays
import Derived.ReadAgain
import Derived.Deep.DeepHandedRow
import Derived.Lib.LaidTab
import Derived.Test.YtmgdldfokpcbkaaGreatDoorSound5
set_option linter.unusedVariables false
set_option linter.unusedSimpArgs false
set_option linter.defProp false
set_option linter.unusedSectionVars false

namespace Go.Proofs.Tryz
open Go.Am
set_option maxRecDepth 4000
set_option maxHeartbeats 4000000
def ac82:AC:=.seq (.reg [⟨(some 2),.box 5 (.s 0),none⟩,⟨(some 3),.box 5 (.s 1),none⟩,⟨(some 4),.mv (.c (.bool false)),none⟩])
 (.seq (.seq (.reg [xf 0 7 2,xo 8 7,xf 0 9 3,xo 10 9,xb .neq 11 8 10,xm 12 11,xh 12 (xf 2 13 2),xh 12 (xo 14 13),xh 12 (xf 2 15 3),xh 12 (xo 16 15),⟨(some 17),.binS .neq (.s 14) (.s 16),(some (12,false))⟩,⟨(some 18),.pick (.s 12) (.c (.bool true)) (.s 17),none⟩,xm 19 18,xh 19 (xf 3 20 2),xh 19 (xo 21 20),xh 19 (xL 22 21),xh 19 (xf 3 23 3),xh 19 (xo 24 23),xh 19 (xL 25 24),xh 19 (xb .neq 26 22 25),⟨(some 27),.pick (.s 19) (.c (.bool true)) (.s 26),none⟩,xm 28 27,xh 28 (xf 4 29 2),xh 28 (xo 30 29),xh 28 (xL 31 30),xh 28 (xf 4 32 3),xh 28 (xo 33 32),xh 28 (xL 34 33),xh 28 (xb .neq 35 31 34),⟨(some 36),.pick (.s 28) (.c (.bool true)) (.s 35),none⟩])
 (.cond (.s 36) (.seq (.reg [⟨(some 4),.mv (.c (.bool false)),none⟩])
 (.ret))
 (.skip)))
 (.seq (.seq (.reg [xi 5 0])
 (.block 0 (.loop (.seq (.seq (.reg [xm 37 5,xf 3 38 2,xo 39 38,xL 40 39,xb .lss 41 37 40])
 (.cond (.s 41) (.skip)
 (.exit 0)))
 (.seq (.block 1 (.seq (.draw [(xf 3 44 2,[]),(xo 45 44,[]),(xm 46 5,[]),(xA 2 47 45 46,[]),(xf 0 48 47,[]),(xo 49 48,[]),(xf 3 50 3,[]),(xo 51 50,[]),(xm 52 5,[]),(xA 2 53 51 52,[]),(xf 0 54 53,[]),(xo 55 54,[]),(⟨(some 56),.binS .neq (.s 49) (.s 55),none⟩,[])])
 (.cond (.s 56) (.seq (.reg [⟨(some 4),.mv (.c (.bool false)),none⟩])
 (.ret))
 (.skip))))
 (.reg [xm 42 5,xB .add 43 42 1,xm 5 43]))))))
 (.seq (.seq (.reg [xi 6 0])
 (.block 2 (.loop (.seq (.seq (.reg [xm 57 6,xf 4 58 2,xo 59 58,xL 60 59,xb .lss 61 57 60])
 (.cond (.s 61) (.skip)
 (.exit 2)))
 (.seq (.block 3 (.seq (.draw [(xf 4 64 2,[]),(xo 65 64,[]),(xm 66 6,[]),(xA 5 67 65 66,[]),(xl 5 68 67,[]),(xf 4 69 3,[]),(xo 70 69,[]),(xm 71 6,[]),(xA 5 72 70 71,[]),(xl 5 73 72,[]),(xc 82 74 [.s 68,.s 73],[]),(⟨(some 75),.not (.s 74),none⟩,[])])
 (.cond (.s 75) (.seq (.reg [⟨(some 4),.mv (.c (.bool false)),none⟩])
 (.ret))
 (.skip))))
 (.reg [xm 62 6,xB .add 63 62 1,xm 6 63]))))))
 (.seq (.reg [⟨(some 4),.mv (.c (.bool true)),none⟩])
 (.ret)))))
theorem fn82:IsFn prog 82 ac82 [.tmp 4] 76:=⟨f82,⟨[],[],[]⟩,func82,by kernel_rfl,by kernel_rfl,by kernel_rfl,by kernel_rfl⟩
def ac90:AC:=.seq (.reg [⟨(some 2),.box 5 (.s 0),none⟩,⟨(some 3),.box 5 (.s 1),none⟩,⟨(some 4),.mv (.c (.bool false)),none⟩])
 (.seq (.seq (.reg [xf 0 7 2,xo 8 7,xf 0 9 3,xo 10 9,xb .neq 11 8 10,xm 12 11,xh 12 (xf 2 13 2),xh 12 (xo 14 13),xh 12 (xf 2 15 3),xh 12 (xo 16 15),⟨(some 17),.binS .neq (.s 14) (.s 16),(some (12,false))⟩,⟨(some 18),.pick (.s 12) (.c (.bool true)) (.s 17),none⟩,xm 19 18,xh 19 (xf 3 20 2),xh 19 (xo 21 20),xh 19 (xL 22 21),xh 19 (xf 3 23 3),xh 19 (xo 24 23),xh 19 (xL 25 24),xh 19 (xb .neq 26 22 25),⟨(some 27),.pick (.s 19) (.c (.bool true)) (.s 26),none⟩,xm 28 27,xh 28 (xf 4 29 2),xh 28 (xo 30 29),xh 28 (xL 31 30),xh 28 (xf 4 32 3),xh 28 (xo 33 32),xh 28 (xL 34 33),xh 28 (xb .neq 35 31 34),⟨(some 36),.pick (.s 28) (.c (.bool true)) (.s 35),none⟩])
 (.cond (.s 36) (.seq (.reg [⟨(some 4),.mv (.c (.bool false)),none⟩])
 (.ret))
 (.skip)))
 (.seq (.seq (.reg [xf 3 37 2,xo 38 37,xL 39 38,xi 40 0])
 (.block 0 (.loop (.seq (.reg [xb .lss 41 40 39])
 (.seq (.cond (.s 41) (.skip)
 (.exit 0))
 (.seq (.block 1 (.seq (.reg [xm 42 40,xm 5 42])
 (.seq (.draw [(xf 3 43 2,[]),(xo 44 43,[]),(xm 45 5,[]),(xA 2 46 44 45,[]),(xf 0 47 46,[]),(xo 48 47,[]),(xf 3 49 3,[]),(xo 50 49,[]),(xm 51 5,[]),(xA 2 52 50 51,[]),(xf 0 53 52,[]),(xo 54 53,[]),(⟨(some 55),.binS .neq (.s 48) (.s 54),none⟩,[])])
 (.cond (.s 55) (.seq (.reg [⟨(some 4),.mv (.c (.bool false)),none⟩])
 (.ret))
 (.skip)))))
 (.reg [xB .add 56 40 1,xm 40 56])))))))
 (.seq (.seq (.reg [xf 4 57 2,xo 58 57,xL 59 58,xi 60 0])
 (.block 2 (.loop (.seq (.reg [xb .lss 61 60 59])
 (.seq (.cond (.s 61) (.skip)
 (.exit 2))
 (.seq (.block 3 (.seq (.reg [xm 62 60,xm 6 62])
 (.seq (.draw [(xf 4 63 2,[]),(xo 64 63,[]),(xm 65 6,[]),(xA 5 66 64 65,[]),(xl 5 67 66,[]),(xf 4 68 3,[]),(xo 69 68,[]),(xm 70 6,[]),(xA 5 71 69 70,[]),(xl 5 72 71,[]),(xc 90 73 [.s 67,.s 72],[]),(⟨(some 74),.not (.s 73),none⟩,[])])
 (.cond (.s 74) (.seq (.reg [⟨(some 4),.mv (.c (.bool false)),none⟩])
 (.ret))
 (.skip)))))
 (.reg [xB .add 75 60 1,xm 60 75])))))))
 (.seq (.reg [⟨(some 4),.mv (.c (.bool true)),none⟩])
 (.ret)))))
theorem fn90:IsFn prog 90 ac90 [.tmp 4] 76:=⟨f90,⟨[],[],[]⟩,func90,by kernel_rfl,by kernel_rfl,by kernel_rfl,by kernel_rfl⟩
def inv24w (n m:Nd) (σ:Store) (i:Nat):St :=
  ⟨[.any,.any,.ptr (.loc 0) 0,.ptr (.loc 1) 0]++List.replicate 35 .any++[.int .i64 n.names.length,.int .i64 (i:Nat)]++List.replicate 35 .any,[n.enc,m.enc],σ⟩
def inv24k (n m:Nd) (σ:Store) (i:Nat):St :=
  ⟨[.any,.any,.ptr (.loc 0) 0,.ptr (.loc 1) 0]++List.replicate 55 .any++[.int .i64 n.kids.length,.int .i64 (i:Nat)]++List.replicate 15 .any,[n.enc,m.enc],σ⟩
theorem same24_calls:∀(k:Nat) (n m:Nd) (σ:Store),n.wt≤k→n.wt≤big→PCalls prog 90 [.agg n.enc,.agg m.enc] σ fun v σ' => v = .bool (n.sameQ m)∧σ' = σ:=by
  intro k;induction k with
  | zero=>intro n m σ h _;cases n;simp only[Nd.wt] at h;omega
  | succ k ihk =>
    intro n m σ hk hw;have hn:=wt_names n;have hbig:n.wt<2^62:=by simp only[big] at hw;omega
    rw[Nd.sameQ_eq];refine fn90.calls ?_;simp only[slots,ac90,z19_,Nat.reduceAdd]
    by_cases k1:n.kind=m.kind
    case' neg =>
      simp only[am,decide_eq_false k1];refine retS ?_;simp[V.erase]
    simp only[am,decide_true,Nd.fl,k1]
    by_cases k2:n.text=m.text
    case' neg =>
      simp only[am,decide_eq_false k2];refine retS ?_;simp[V.erase]
    simp only[am,List.length_map,decide_true,Nd.fl,k2]
    by_cases k3:n.names.length=m.names.length
    case' neg =>
      have k3' : ¬(n.names.length:Int)=m.names.length:=by omega
      simp only[am,decide_eq_false k3']
      have:sameW n.names m.names=false:=by cases hs:sameW n.names m.names with
        | false=>rfl
        | true=>exact absurd (sameW_len hs) k3
      refine retS ?_;simp[V.erase,this]
    simp only[am,List.length_map,decide_true,Nd.fl,k3]
    by_cases k4:n.kids.length=m.kids.length
    case' neg =>
      have k4' : ¬(n.kids.length:Int)=m.kids.length:=by omega
      simp only[am,decide_eq_false k4']
      have:samesQ n.kids m.kids=false:=by cases hs:samesQ n.kids m.kids with
        | false=>rfl
        | true=>exact absurd (samesQ_len hs) k4
      refine retS ?_;simp[V.erase,this]
    simp only[am,List.length_map,decide_true,Nd.fl,k4];refine vc_loop (fun p:{i:Nat // i≤n.names.length∧sameW (n.names.take i) (m.names.take i)=true}=>inv24w n m σ p.1) (fun p=>n.names.length - p.1) ?_ ?_
    · refine Upd.enter ⟨0,by simp,by simp[sameW]⟩ ?_ LLLe.rfl OLe.rfl;simp[inv24w,List.replicate,am,k3]
    rintro⟨i,hi,ha⟩;simp only[inv24w,List.replicate,am];refine vcIf_split ?_ ?_
    · intro hlt;have hlt:i<n.names.length:=by simpa using hlt
      obtain⟨hat,hno⟩:=sameW_at hlt (by omega) k3 ha;simp only[am,Nd.fl];refine idxL_intro (by omega) (wencs_at (List.getElem?_eq_getElem hlt)) ?_;simp only[am,Nd.fl,Word.enc];refine idxL_intro (by omega) (wencs_at (List.getElem?_eq_getElem (show i<m.names.length by omega))) ?_;simp only[am,Word.enc]
      by_cases he:n.names[i].text=m.names[i].text
      · simp only[am,decide_true,he];rw[wrap_i64 (by omega) (by omega)];exact Upd.again ⟨i+1,hlt,by rw[hat];exact decide_eq_true he⟩ (by simp;omega) (by simp[am]) LLLe.rfl OLe.rfl
      · simp only[am,decide_eq_false he];refine retS ?_;simp[V.erase,hno (decide_eq_false he)]
    intro hlt;have hlt:i=n.names.length:=by simp at hlt;omega
    subst hlt;rw[List.take_length,k3,List.take_length] at ha;simp only[am,List.length_map,Nd.fl];refine vc_loop (fun p:{i:Nat // i≤n.kids.length∧samesQ (n.kids.take i) (m.kids.take i)=true}=>inv24k n m σ p.1) (fun p=>n.kids.length - p.1) ?_ ?_
    · refine Upd.enter ⟨0,by simp,by simp[samesQ]⟩ ?_ LLLe.rfl OLe.rfl;simp[inv24k,List.replicate,am,k4]
    rintro⟨i,hi,hb⟩;simp only[inv24k,List.replicate,am];refine vcIf_split ?_ ?_
    · intro hlt;have hlt:i<n.kids.length:=by simpa using hlt
      have hki:=kid_wt (n:=n) (List.getElem_mem hlt);obtain⟨hat,hno⟩:=samesQ_at hlt (by omega) k4 hb;simp only[am,Nd.fl];refine idxL_intro (by omega) (nencs_at (List.getElem?_eq_getElem hlt)) ?_;simp only[am,Nd.rec_,Nd.fl];refine idxL_intro (by omega) (nencs_at (List.getElem?_eq_getElem (show i<m.kids.length by omega))) ?_;simp only[am,Nd.rec_];refine CallD.intro (ihk n.kids[i] m.kids[i] _ (by omega) (by omega)) ?_;cases he:n.kids[i].sameQ m.kids[i]
      · simp only[am];refine retS ?_;simp[V.erase,hno he]
      · simp only[am];rw[wrap_i64 (by omega) (by omega)];exact Upd.again ⟨i+1,hlt,by rw[hat];exact he⟩ (by simp;omega) (by simp[am]) LLLe.rfl OLe.rfl
    intro hlt;have hlt:i=n.kids.length:=by simp at hlt;omega
    subst hlt;rw[List.take_length,k4,List.take_length] at hb;simp only[am];refine retS ?_;simp[V.erase,ha,hb]
def inv25w (n m:Nd) (σ:Store) (i:Nat):St :=
  ⟨[.any,.any,.ptr (.loc 0) 0,.ptr (.loc 1) 0]++[.any,.int .i64 (i:Nat)]++List.replicate 70 .any,[n.enc,m.enc],σ⟩
def inv25k (n m:Nd) (σ:Store) (i:Nat):St :=
  ⟨[.any,.any,.ptr (.loc 0) 0,.ptr (.loc 1) 0]++[.any,.any,.int .i64 (i:Nat)]++List.replicate 69 .any,[n.enc,m.enc],σ⟩
theorem same25_calls:∀(k:Nat) (n m:Nd) (σ:Store),n.wt≤k→n.wt≤big→PCalls prog 82 [.agg n.enc,.agg m.enc] σ fun v σ' => v = .bool (n.sameQ m)∧σ' = σ:=by
  intro k;induction k with
  | zero=>intro n m σ h _;cases n;simp only[Nd.wt] at h;omega
  | succ k ihk =>
    intro n m σ hk hw;have hn:=wt_names n;have hbig:n.wt<2^62:=by simp only[big] at hw;omega
    rw[Nd.sameQ_eq];refine fn82.calls ?_;simp only[slots,ac82,z19_,Nat.reduceAdd]
    by_cases k1:n.kind=m.kind
    case' neg =>
      simp only[am,decide_eq_false k1];refine retS ?_;simp[V.erase]
    simp only[am,decide_true,Nd.fl,k1]
    by_cases k2:n.text=m.text
    case' neg =>
      simp only[am,decide_eq_false k2];refine retS ?_;simp[V.erase]
    simp only[am,List.length_map,decide_true,Nd.fl,k2]
    by_cases k3:n.names.length=m.names.length
    case' neg =>
      have k3' : ¬(n.names.length:Int)=m.names.length:=by omega
      simp only[am,decide_eq_false k3']
      have:sameW n.names m.names=false:=by cases hs:sameW n.names m.names with
        | false=>rfl
        | true=>exact absurd (sameW_len hs) k3
      refine retS ?_;simp[V.erase,this]
    simp only[am,List.length_map,decide_true,Nd.fl,k3]
    by_cases k4:n.kids.length=m.kids.length
    case' neg =>
      have k4' : ¬(n.kids.length:Int)=m.kids.length:=by omega
      simp only[am,decide_eq_false k4']
      have:samesQ n.kids m.kids=false:=by cases hs:samesQ n.kids m.kids with
        | false=>rfl
        | true=>exact absurd (samesQ_len hs) k4
      refine retS ?_;simp[V.erase,this]
    simp only[am,decide_true,k4];refine vc_loop (fun p:{i:Nat // i≤n.names.length∧sameW (n.names.take i) (m.names.take i)=true}=>inv25w n m σ p.1) (fun p=>n.names.length - p.1) ?_ ?_
    · refine Upd.enter ⟨0,by simp,by simp[sameW]⟩ ?_ LLLe.rfl OLe.rfl;simp[inv25w,List.replicate,am]
    rintro⟨i,hi,ha⟩;simp only[inv25w,List.replicate,am,Nd.fl,List.length_map];refine vcIf_split ?_ ?_
    · intro hlt;have hlt:i<n.names.length:=by simpa using hlt
      obtain⟨hat,hno⟩:=sameW_at hlt (by omega) k3 ha;simp only[am,Nd.fl];refine idxL_intro (by omega) (wencs_at (List.getElem?_eq_getElem hlt)) ?_;simp only[am,Nd.fl,Word.enc];refine idxL_intro (by omega) (wencs_at (List.getElem?_eq_getElem (show i<m.names.length by omega))) ?_;simp only[am,Word.enc]
      by_cases he:n.names[i].text=m.names[i].text
      · simp only[am,decide_true,he];rw[wrap_i64 (by omega) (by omega)];exact Upd.again ⟨i+1,hlt,by rw[hat];exact decide_eq_true he⟩ (by simp;omega) (by simp[am]) LLLe.rfl OLe.rfl
      · simp only[am,decide_eq_false he];refine retS ?_;simp[V.erase,hno (decide_eq_false he)]
    intro hlt;have hlt:i=n.names.length:=by simp at hlt;omega
    subst hlt;rw[List.take_length,k3,List.take_length] at ha;simp only[am];refine vc_loop (fun p:{i:Nat // i≤n.kids.length∧samesQ (n.kids.take i) (m.kids.take i)=true}=>inv25k n m σ p.1) (fun p=>n.kids.length - p.1) ?_ ?_
    · refine Upd.enter ⟨0,by simp,by simp[samesQ]⟩ ?_ LLLe.rfl OLe.rfl;simp[inv25k,List.replicate,am]
    rintro⟨i,hi,hb⟩;simp only[inv25k,List.replicate,am,Nd.fl,List.length_map];refine vcIf_split ?_ ?_
    · intro hlt;have hlt:i<n.kids.length:=by simpa using hlt
      have hki:=kid_wt (n:=n) (List.getElem_mem hlt);obtain⟨hat,hno⟩:=samesQ_at hlt (by omega) k4 hb;simp only[am,Nd.fl];refine idxL_intro (by omega) (nencs_at (List.getElem?_eq_getElem hlt)) ?_;simp only[am,Nd.rec_,Nd.fl];refine idxL_intro (by omega) (nencs_at (List.getElem?_eq_getElem (show i<m.kids.length by omega))) ?_;simp only[am,Nd.rec_];refine CallD.intro (ihk n.kids[i] m.kids[i] _ (by omega) (by omega)) ?_;cases he:n.kids[i].sameQ m.kids[i]
      · simp only[am];refine retS ?_;simp[V.erase,hno he]
      · simp only[am];rw[wrap_i64 (by omega) (by omega)];exact Upd.again ⟨i+1,hlt,by rw[hat];exact he⟩ (by simp;omega) (by simp[am]) LLLe.rfl OLe.rfl
    intro hlt;have hlt:i=n.kids.length:=by simp at hlt;omega
    subst hlt;rw[List.take_length,k4,List.take_length] at hb;simp only[am];refine retS ?_;simp[V.erase,ha,hb]
end Go.Proofs.Tryz

namespace Go.Proofs.Tryz
open Go.Am
set_option maxRecDepth 4000
set_option maxHeartbeats 4000000
end Go.Proofs.Tryz

namespace Go.Proofs.Tryz
open Go.Am
set_option maxRecDepth 4000
set_option maxHeartbeats 4000000
def ac80:AC:=.seq (.reg [⟨(some 4),.mv (.c (.bool false)),none⟩])
 (.seq (.seq (.reg [xi 5 0])
 (.block 0 (.loop (.seq (.seq (.reg [xm 8 5,xm 9 1,xL 10 9,xb .lss 11 8 10])
 (.cond (.s 11) (.skip)
 (.exit 0)))
 (.seq (.block 1 (.seq (.reg [xm 14 1,xm 15 5,xA 5 16 14 15,xl 5 17 16,⟨(some 6),.alloc [(.int .i64 0),(.int .i64 0),(.str []),(.sl .full 2 []),(.sl .full 5 [])],none⟩,xs 5 6 17])
 (.seq (.reg [xm 18 0,xB .eql 19 18 1,xm 20 19,xg 20 (xl 5 21 6),xg 20 (xc 99 22 [.s 21]),⟨(some 23),.pick (.s 20) (.s 22) (.c (.bool false)),none⟩,xm 24 23,xh 24 (xm 25 0),xh 24 (xB .eql 26 25 3),xh 24 (xm 27 26),xg 27 (xl 5 28 6),xg 27 (xc 48 29 [.s 28]),⟨(some 30),.pick (.s 27) (.s 29) (.c (.bool false)),(some (24,false))⟩,⟨(some 31),.pick (.s 24) (.c (.bool true)) (.s 30),none⟩,xm 7 31])
 (.seq (.seq (.reg [xm 32 0,xB .eql 33 32 2])
 (.cond (.s 33) (.reg [xf 0 34 6,xo 35 34,xB .eql 36 35 6,xm 37 36,xg 37 (xf 2 38 6),xg 37 (xo 39 38),xg 37 (xc 39 40 [.s 39]),⟨(some 41),.pick (.s 37) (.s 40) (.c (.bool false)),none⟩,xm 42 41,xg 42 (xf 3 43 6),xg 42 (xo 44 43),xg 42 (xc 81 45 [.s 44]),⟨(some 46),.pick (.s 42) (.s 45) (.c (.bool false)),none⟩,xm 47 46,xg 47 (xf 4 48 6),xg 47 (xo 49 48),xg 47 (xL 50 49),xg 47 (xB .eql 51 50 0),⟨(some 52),.pick (.s 47) (.s 51) (.c (.bool false)),none⟩,xm 7 52])
 (.skip)))
 (.seq (.seq (.reg [xm 53 0,xB .eql 54 53 4])
 (.cond (.s 54) (.reg [xf 0 55 6,xo 56 55,xB .eql 57 56 11,xm 58 57,xg 58 (xf 2 59 6),xg 58 (xo 60 59),xg 58 (xc 39 61 [.s 60]),⟨(some 62),.pick (.s 58) (.s 61) (.c (.bool false)),none⟩,xm 63 62,xg 63 (xf 3 64 6),xg 63 (xo 65 64),xg 63 (xL 66 65),xg 63 (xB .eql 67 66 0),⟨(some 68),.pick (.s 63) (.s 67) (.c (.bool false)),none⟩,xm 69 68,xg 69 (xf 4 70 6),xg 69 (xo 71 70),xg 69 (xL 72 71),xg 69 (xB .eql 73 72 1),⟨(some 74),.pick (.s 69) (.s 73) (.c (.bool false)),none⟩,xm 75 74,xg 75 (xf 4 76 6),xg 75 (xo 77 76),⟨(some 78),.idxA 5 (.s 77) (.c (.int .i64 0)),(some (75,true))⟩,xg 75 (xl 5 79 78),xg 75 (xc 48 80 [.s 79]),⟨(some 81),.pick (.s 75) (.s 80) (.c (.bool false)),none⟩,xm 82 81,xg 82 (xf 4 83 6),xg 82 (xo 84 83),⟨(some 85),.idxA 5 (.s 84) (.c (.int .i64 0)),(some (82,true))⟩,xg 82 (xf 0 86 85),xg 82 (xo 87 86),xg 82 (xB .neq 88 87 8),⟨(some 89),.pick (.s 82) (.s 88) (.c (.bool false)),none⟩,xm 90 89,xg 90 (xf 4 91 6),xg 90 (xo 92 91),⟨(some 93),.idxA 5 (.s 92) (.c (.int .i64 0)),(some (90,true))⟩,xg 90 (xf 0 94 93),xg 90 (xo 95 94),xg 90 (xB .neq 96 95 9),⟨(some 97),.pick (.s 90) (.s 96) (.c (.bool false)),none⟩,xm 7 97])
 (.skip)))
 (.seq (.reg [xm 98 7,⟨(some 99),.not (.s 98),none⟩])
 (.cond (.s 99) (.seq (.reg [⟨(some 4),.mv (.c (.bool false)),none⟩])
 (.ret))
 (.skip))))))))
 (.reg [xm 12 5,xB .add 13 12 1,xm 5 13]))))))
 (.seq (.reg [⟨(some 4),.mv (.c (.bool true)),none⟩])
 (.ret)))
theorem fn80:IsFn prog 80 ac80 [.tmp 4] 100:=⟨f80,⟨[],[],[]⟩,func80,by kernel_rfl,by kernel_rfl,by kernel_rfl,by kernel_rfl⟩
def ac81:AC:=.seq (.reg [⟨(some 2),.mv (.c (.bool false)),none⟩])
 (.seq (.seq (.reg [xi 3 0])
 (.block 0 (.loop (.seq (.seq (.reg [xm 4 3,xm 5 0,xL 6 5,xb .lss 7 4 6])
 (.cond (.s 7) (.skip)
 (.exit 0)))
 (.seq (.block 1 (.seq (.reg [xm 10 0,xm 11 3,xA 2 12 10 11,xf 0 13 12,xo 14 13,xc 39 15 [.s 14],⟨(some 16),.not (.s 15),none⟩])
 (.cond (.s 16) (.seq (.reg [⟨(some 2),.mv (.c (.bool false)),none⟩])
 (.ret))
 (.skip))))
 (.reg [xm 8 3,xB .add 9 8 1,xm 3 9]))))))
 (.seq (.reg [⟨(some 2),.mv (.c (.bool true)),none⟩])
 (.ret)))
theorem fn81:IsFn prog 81 ac81 [.tmp 2] 17:=⟨f81,⟨[],[],[]⟩,func81,by kernel_rfl,by kernel_rfl,by kernel_rfl,by kernel_rfl⟩
def inv55 (l:List Word) (σ:Store) (i:Nat):St :=
  ⟨[.sl .no 2 (l.map Word.enc),.any,.any,.int .i64 (i:Nat)]++List.replicate 13 .any,[],σ⟩
theorem right2W_calls (l:List Word) (σ:Store) (hb:l.length≤big):PCalls prog 81 [.sl .no 2 (l.map Word.enc)] σ fun v σ' => v = .bool (rightW l)∧σ' = σ:=by
  simp only[big] at hb;refine fn81.calls ?_;simp only[slots,ac81,am,ams];refine vc_loop (fun p:{i:Nat // i≤l.length∧(l.take i).all (fun w=>nameR w.text)=true}=>inv55 l σ p.1) (fun p=>l.length - p.1) ?_ ?_
  · refine Upd.enter ⟨0,by simp,by simp⟩ ?_ LLLe.rfl OLe.rfl;simp[inv55,List.replicate,am]
  · rintro⟨i,hi,ha⟩;simp only[inv55,List.replicate,am,List.length_map];refine vcIf_split ?_ ?_
    · intro hlt;have hlt:i<l.length:=by simpa using hlt
      simp only[am];refine idxL_intro (by omega) (wencs_at (List.getElem?_eq_getElem hlt)) ?_;simp only[am,Word.enc];refine cl (right2_calls l[i].text σ) ?_;cases hg:nameR l[i].text
      · simp only[am];refine retK_intro rfl (Store.sub_refl _) ⟨?_,rfl⟩;rw[show rightW l=false from all_no (f:=fun (w:Word)=>nameR w.text) hlt hg];rfl
      · simp only[am];rw[wrap_i64 (by omega) (by omega)];exact Upd.again ⟨i+1,hlt,by rw[xall_take hlt,ha,hg];rfl⟩ (by simp;omega) (by simp[am]) LLLe.rfl OLe.rfl
    · intro hlt;have hlt:i=l.length:=by simp at hlt;omega
      subst hlt;rw[List.take_length] at ha;simp only[am];refine retS ?_;simp[V.erase,rightW,ha]
theorem headQ_all {f:Nd→Bool} {l:List Nd} (h:(l.length:Int)=1):headQ f l=l.all f:=by
  match l,h with
  | [m],_=>simp[headQ]
  | [],h=>simp at h
  | _::_::_,h=>simp at h;omega
theorem atomQ_eq (n:Nd):n.atomQ=(n.labelQ&&!decide (n.kind=8)&&!decide (n.kind=9)):=by
  unfold Nd.atomQ;rw[Nd.labelQ_eq]
  by_cases k1:n.kind=1
  · simp[k1]
  by_cases k7:n.kind=7
  · simp[k7]
  by_cases k8:n.kind=8
  · simp[k8]
  by_cases k9:n.kind=9
  · simp[k9]
  simp[k1,k7,k8,k9]
def inv56 (w:Int) (l:List Nd) (σ:Store) (i:Nat):St :=
  ⟨[.int .i64 w,.sl .no 5 (l.map Nd.enc),.any,.any,.any,.int .i64 (i:Nat)]++List.replicate 94 .any,[],σ⟩
theorem all1_calls (l:List Nd) (σ:Store) (hb:l.length≤big) (h:∀n∈l,∀σ,PCalls prog 99 [.agg n.enc] σ fun v σ' => v = .bool n.constQ∧σ' = σ):PCalls prog 80 [.int .i64 1,.sl .no 5 (l.map Nd.enc)] σ fun v σ' => v = .bool (l.all Nd.constQ)∧σ' = σ:=by
  simp only[big] at hb;refine fn80.calls ?_;simp only[slots,ac80,am,ams,Nat.reduceAdd];refine vc_loop (fun p:{i:Nat // i≤l.length∧(l.take i).all Nd.constQ=true}=>inv56 1 l σ p.1) (fun p=>l.length - p.1) ?_ ?_
  · refine Upd.enter ⟨0,by simp,by simp⟩ ?_ LLLe.rfl OLe.rfl;simp[inv56,List.replicate,am]
  rintro⟨i,hi,ha⟩;simp only[inv56,List.replicate,am,List.length_map];refine vcIf_split ?_ ?_
  · intro hlt;have hlt:i<l.length:=by simpa using hlt
    have wi:IntKind.i64.wrap ((i:Int)+1)=(i:Int)+1:=wrap_i64 (by omega) (by omega);have hyes:l[i].constQ=true→(l.take (i+1)).all Nd.constQ=true:=fun hg=>by rw[xall_take hlt,ha,hg];rfl
    have hno:l[i].constQ=false→l.all Nd.constQ=false:=fun hg=>all_no hlt hg
    have hmem:=List.getElem_mem hlt;simp only[am];refine idxL_intro (by omega) (nencs_at (List.getElem?_eq_getElem hlt)) ?_;generalize l[i]=n at hyes hno hmem ⊢;simp only[am,decide_true,Nd.rec_];refine cl (h n hmem σ) ?_;cases hg:n.constQ
    · simp only[am,decide_false,Int.reduceEq];refine retS ?_;simp[V.erase,hno hg]
    · simp only[am,decide_false,Int.reduceEq,wi];exact Upd.againD ⟨i+1,hlt,hyes hg⟩ (by simp;omega) (by simp[am]) (by simp[am]) OLe.rfl rfl rfl
  intro hlt;have hlt:i=l.length:=by simp at hlt;omega
  subst hlt;rw[List.take_length] at ha;simp only[am];refine retS ?_;simp[V.erase,ha]
theorem all3_calls (l:List Nd) (σ:Store) (hb:l.length≤big) (h:∀n∈l,∀σ,PCalls prog 48 [.agg n.enc] σ fun v σ' => v = .bool n.labelQ∧σ' = σ):PCalls prog 80 [.int .i64 3,.sl .no 5 (l.map Nd.enc)] σ fun v σ' => v = .bool (l.all Nd.labelQ)∧σ' = σ:=by
  simp only[big] at hb;refine fn80.calls ?_;simp only[slots,ac80,am,ams,Nat.reduceAdd];refine vc_loop (fun p:{i:Nat // i≤l.length∧(l.take i).all Nd.labelQ=true}=>inv56 3 l σ p.1) (fun p=>l.length - p.1) ?_ ?_
  · refine Upd.enter ⟨0,by simp,by simp⟩ ?_ LLLe.rfl OLe.rfl;simp[inv56,List.replicate,am]
  rintro⟨i,hi,ha⟩;simp only[inv56,List.replicate,am,List.length_map];refine vcIf_split ?_ ?_
  · intro hlt;have hlt:i<l.length:=by simpa using hlt
    have wi:IntKind.i64.wrap ((i:Int)+1)=(i:Int)+1:=wrap_i64 (by omega) (by omega);have hyes:l[i].labelQ=true→(l.take (i+1)).all Nd.labelQ=true:=fun hg=>by rw[xall_take hlt,ha,hg];rfl
    have hno:l[i].labelQ=false→l.all Nd.labelQ=false:=fun hg=>all_no hlt hg
    have hmem:=List.getElem_mem hlt;simp only[am];refine idxL_intro (by omega) (nencs_at (List.getElem?_eq_getElem hlt)) ?_;generalize l[i]=n at hyes hno hmem ⊢;simp only[z15_,Int.reduceEq];refine cl (h n hmem σ) ?_;cases hg:n.labelQ
    · simp only[am,decide_false,Int.reduceEq];refine retS ?_;simp[V.erase,hno hg]
    · simp only[am,decide_false,Int.reduceEq,wi];exact Upd.againD ⟨i+1,hlt,hyes hg⟩ (by simp;omega) (by simp[am]) (by simp[am]) OLe.rfl rfl rfl
  intro hlt;have hlt:i=l.length:=by simp at hlt;omega
  subst hlt;rw[List.take_length] at ha;simp only[am];refine retS ?_;simp[V.erase,ha]
theorem all2_calls (l:List Nd) (σ:Store) (hb:l.length≤big) (hw:∀n∈l,n.names.length≤big):PCalls prog 80 [.int .i64 2,.sl .no 5 (l.map Nd.enc)] σ fun v σ' => v = .bool (l.all Nd.ruleQ)∧σ' = σ:=by
  simp only[big] at hb;refine fn80.calls ?_;simp only[slots,ac80,am,ams,Nat.reduceAdd];refine vc_loop (fun p:{i:Nat // i≤l.length∧(l.take i).all Nd.ruleQ=true}=>inv56 2 l σ p.1) (fun p=>l.length - p.1) ?_ ?_
  · refine Upd.enter ⟨0,by simp,by simp⟩ ?_ LLLe.rfl OLe.rfl;simp[inv56,List.replicate,am]
  rintro⟨i,hi,ha⟩;simp only[inv56,List.replicate,am,List.length_map];refine vcIf_split ?_ ?_
  · intro hlt;have hlt:i<l.length:=by simpa using hlt
    have wi:IntKind.i64.wrap ((i:Int)+1)=(i:Int)+1:=wrap_i64 (by omega) (by omega);have hyes:l[i].ruleQ=true→(l.take (i+1)).all Nd.ruleQ=true:=fun hg=>by rw[xall_take hlt,ha,hg];rfl
    have hno:l[i].ruleQ=false→l.all Nd.ruleQ=false:=fun hg=>all_no hlt hg
    have hmem:=List.getElem_mem hlt;simp only[am];refine idxL_intro (by omega) (nencs_at (List.getElem?_eq_getElem hlt)) ?_;generalize l[i]=n at hyes hno hmem ⊢;simp only[z20_,Int.reduceEq];have hnm:=hw n hmem
    repeat' (first
      | (refine gL_split (fun h=>?_) (fun h=>?_)<;>simp only[am,h,List.length_map,decide_false,Nd.fl,Int.reduceEq])
      | (refine vcIf_split (fun h=>?_) (fun h=>?_)<;>simp only[am,h,wi])
      | (refine pickL_split (fun h=>?_) (fun h=>?_)<;>simp only[z20_,h,Nat.reduceAdd,Nat.reduceEqDiff,List.length_map,Int.reduceEq,Int.reduceNe,wi])
      | (refine(right2_calls n.text _).mono ?_;rintro v _ ⟨rfl,rfl⟩;simp only[am])
      | (refine(right2W_calls n.names _ hnm).mono ?_;rintro v _ ⟨rfl,rfl⟩;simp only[am])
    )
    all_goals cases hg:n.ruleQ
    all_goals first
      | (exfalso;revert hg;simp_all [Nd.ruleQ];done)
      | (refine retK_intro rfl (Store.sub_refl _) ⟨?_,rfl⟩;rw[hno hg];rfl)
      | exact Upd.againD ⟨i+1,hlt,hyes hg⟩ (by simp;omega) (by simp[am]) (by simp[am]) OLe.rfl rfl rfl
  intro hlt;have hlt:i=l.length:=by simp at hlt;omega
  subst hlt;rw[List.take_length] at ha;simp only[am];refine retS ?_;simp[V.erase,ha]
theorem all4_calls (l:List Nd) (σ:Store) (hb:l.length≤big) (h:∀n∈l,∀m∈n.kids,∀σ,PCalls prog 48 [.agg m.enc] σ fun v σ' => v = .bool m.labelQ∧σ' = σ):PCalls prog 80 [.int .i64 4,.sl .no 5 (l.map Nd.enc)] σ fun v σ' => v = .bool (l.all Nd.fieldQ)∧σ' = σ:=by
  simp only[big] at hb;refine fn80.calls ?_;simp only[slots,ac80,am,ams,Nat.reduceAdd];refine vc_loop (fun p:{i:Nat // i≤l.length∧(l.take i).all Nd.fieldQ=true}=>inv56 4 l σ p.1) (fun p=>l.length - p.1) ?_ ?_
  · refine Upd.enter ⟨0,by simp,by simp⟩ ?_ LLLe.rfl OLe.rfl;simp[inv56,List.replicate,am]
  rintro⟨i,hi,ha⟩;simp only[inv56,List.replicate,am,List.length_map];refine vcIf_split ?_ ?_
  · intro hlt;have hlt:i<l.length:=by simpa using hlt
    have wi:IntKind.i64.wrap ((i:Int)+1)=(i:Int)+1:=wrap_i64 (by omega) (by omega);have hyes:l[i].fieldQ=true→(l.take (i+1)).all Nd.fieldQ=true:=fun hg=>by rw[xall_take hlt,ha,hg];rfl
    have hno:l[i].fieldQ=false→l.all Nd.fieldQ=false:=fun hg=>all_no hlt hg
    have hmem:=List.getElem_mem hlt;simp only[am];refine idxL_intro (by omega) (nencs_at (List.getElem?_eq_getElem hlt)) ?_;generalize l[i]=n at hyes hno hmem ⊢;simp only[z20_,Int.reduceEq];have hm:=h n hmem;cases hks:n.kids with
    | nil =>
      repeat' (first
        | (refine gL_split (fun h=>?_) (fun h=>?_)<;>simp only[am,h,List.length_map,decide_false,Nd.fl,Int.reduceEq,hks,List.map_nil,List.length_nil,Int.natCast_zero])
        | (refine vcIf_split (fun h=>?_) (fun h=>?_)<;>simp only[z20_,h,Nat.reduceAdd,Nat.reduceEqDiff,List.length_map,Int.reduceEq,Int.reduceNe,wi,hks,List.map_nil,List.length_nil,Int.natCast_zero,show decide ((0:Int)=1)=false from rfl])
        | (refine pickL_split (fun h=>?_) (fun h=>?_)<;>simp only[z20_,h,Nat.reduceAdd,Nat.reduceEqDiff,List.length_map,Int.reduceEq,Int.reduceNe,wi,hks,List.map_nil,List.length_nil,Int.natCast_zero,show decide ((0:Int)=1)=false from rfl])
        | (refine(right2_calls n.text _).mono ?_;rintro v _ ⟨rfl,rfl⟩;simp only[am])
      )
      all_goals cases hg:n.fieldQ
      all_goals first
        | (exfalso;revert hg;simp_all [Nd.fieldQ,headQ];done)
        | (refine retK_intro rfl (Store.sub_refl _) ⟨?_,rfl⟩;rw[hno hg];rfl)
    | cons m ms =>
      have hl:=hm m (by rw[hks];simp)
      repeat' (first
        | (refine gL_split (fun h=>?_) (fun h=>?_)<;>simp only[am,h,List.length_map,Nd.fl,hks])
        | (refine vcIf_split (fun h=>?_) (fun h=>?_)<;>simp only[am,h,wi])
        | (refine pickL_split (fun h=>?_) (fun h=>?_)<;>simp only[z20_,h,Nat.reduceAdd,Nat.reduceEqDiff,List.length_map,Int.reduceEq,Int.reduceNe,wi,hks])
        | (refine(right2_calls n.text _).mono ?_;rintro v _ ⟨rfl,rfl⟩;simp only[am])
        | (refine idxL_intro (by omega) (c:=m.enc) (by simp) ?_;simp only[am,Nd.rec_,Nd.fl])
        | (refine(hl _).mono ?_;rintro v _ ⟨rfl,rfl⟩;simp only[am])
      )
      all_goals cases hg:n.fieldQ
      all_goals first
        | (exfalso;revert hg;simp_all [Nd.fieldQ,headQ,atomQ_eq];done)
        | (refine retK_intro rfl (Store.sub_refl _) ⟨?_,rfl⟩;rw[hno hg];rfl)
        | exact Upd.againD ⟨i+1,hlt,hyes hg⟩ (by simp;omega) (by simp[am]) (by simp[am]) OLe.rfl rfl rfl
  intro hlt;have hlt:i=l.length:=by simp at hlt;omega
  subst hlt;rw[List.take_length] at ha;simp only[am];refine retS ?_;simp[V.erase,ha]
end Go.Proofs.Tryz

namespace Go.Proofs.Tryz
open Go.Am
set_option maxRecDepth 4000
set_option maxHeartbeats 4000000
def s1:List UInt8:=[43,40,120,44,35,123,97,44,98,125,41]
def s2:List UInt8:=[43,40,41]
def s3:List UInt8:=[91,102,61,120,44,103,61,35,104,105,124,114,93]
end Go.Proofs.Tryz

namespace Go.Proofs.Tryz
open Go.Am
set_option maxRecDepth 4000
set_option maxHeartbeats 4000000
def ac19:AC:=.seq (.reg [⟨(some 2),.mv (.c (.bool false)),none⟩])
 (.seq (.seq (.reg [xm 5 0,xL 6 5,xi 7 0])
 (.block 0 (.loop (.seq (.reg [xb .lss 8 7 6])
 (.seq (.cond (.s 8) (.skip)
 (.exit 0))
 (.seq (.block 1 (.seq (.reg [xA 5 9 5 7,xl 5 10 9,⟨(some 4),.alloc [(.int .i64 0),(.int .i64 0),(.str []),(.sl .full 2 []),(.sl .full 5 [])],none⟩,xs 5 4 10])
 (.seq (.reg [xl 5 11 4,xc 57 12 [.s 11],xB .gtr 13 12 300])
 (.cond (.s 13) (.seq (.reg [⟨(some 2),.mv (.c (.bool true)),none⟩])
 (.ret))
 (.skip)))))
 (.reg [xB .add 14 7 1,xm 7 14])))))))
 (.seq (.reg [⟨(some 2),.mv (.c (.bool false)),none⟩])
 (.ret)))
theorem fn19:IsFn prog 19 ac19 [.tmp 2] 15:=⟨f19,⟨[],[],[]⟩,func19,by kernel_rfl,by kernel_rfl,by kernel_rfl,by kernel_rfl⟩
def ac48:AC:=.seq (.reg [⟨(some 1),.box 5 (.s 0),none⟩,⟨(some 2),.mv (.c (.bool false)),none⟩])
 (.seq (.seq (.reg [xf 0 3 1,xo 4 3])
 (.block 0 (.seq (.reg [xB .eql 6 4 1,xm 5 6])
 (.cond (.s 5) (.seq (.reg [xf 2 7 1,xo 8 7,xc 39 9 [.s 8],xm 10 9,xg 10 (xf 3 11 1),xg 10 (xo 12 11),xg 10 (xL 13 12),xg 10 (xf 4 14 1),xg 10 (xo 15 14),xg 10 (xL 16 15),xg 10 (xb .add 17 13 16),xg 10 (xB .eql 18 17 0),⟨(some 19),.pick (.s 10) (.s 18) (.c (.bool false)),none⟩,xm 2 19])
 (.ret))
 (.seq (.reg [xB .eql 21 4 7,xm 20 21])
 (.cond (.s 20) (.seq (.reg [xf 2 22 1,xo 23 22,⟨(some 24),.binS .eql (.s 23) (.c (.str [])),none⟩,xm 25 24,xg 25 (xf 3 26 1),xg 25 (xo 27 26),xg 25 (xL 28 27),xg 25 (xB .eql 29 28 0),⟨(some 30),.pick (.s 25) (.s 29) (.c (.bool false)),none⟩,xm 31 30,xg 31 (xf 4 32 1),xg 31 (xo 33 32),xg 31 (xL 34 33),xg 31 (xB .eql 35 34 1),⟨(some 36),.pick (.s 31) (.s 35) (.c (.bool false)),none⟩,xm 37 36,xg 37 (xf 4 38 1),xg 37 (xo 39 38),xg 37 (xc 80 40 [.c (.int .i64 1),.s 39]),⟨(some 41),.pick (.s 37) (.s 40) (.c (.bool false)),none⟩,xm 2 41])
 (.ret))
 (.seq (.seq (.reg [xB .eql 43 4 8,xm 42 43])
 (.cond (.s 42) (.skip)
 (.reg [xB .eql 44 4 9,xm 42 44])))
 (.cond (.s 42) (.seq (.reg [xf 2 45 1,xo 46 45,⟨(some 47),.binS .eql (.s 46) (.c (.str [])),none⟩,xm 48 47,xg 48 (xf 3 49 1),xg 48 (xo 50 49),xg 48 (xL 51 50),xg 48 (xB .eql 52 51 0),⟨(some 53),.pick (.s 48) (.s 52) (.c (.bool false)),none⟩,xm 54 53,xg 54 (xf 4 55 1),xg 54 (xo 56 55),xg 54 (xL 57 56),xg 54 (xB .gtr 58 57 0),⟨(some 59),.pick (.s 54) (.s 58) (.c (.bool false)),none⟩,xm 60 59,xg 60 (xf 4 61 1),xg 60 (xo 62 61),xg 60 (xc 80 63 [.c (.int .i64 3),.s 62]),⟨(some 64),.pick (.s 60) (.s 63) (.c (.bool false)),none⟩,xm 2 64])
 (.ret))
 (.skip)))))))))
 (.seq (.reg [⟨(some 2),.mv (.c (.bool false)),none⟩])
 (.ret)))
theorem fn48:IsFn prog 48 ac48 [.tmp 2] 65:=⟨f48,⟨[],[],[]⟩,func48,by kernel_rfl,by kernel_rfl,by kernel_rfl,by kernel_rfl⟩
def ac49:AC:=.seq (.reg [⟨(some 1),.box 5 (.s 0),none⟩,⟨(some 2),.mv (.c (.bool false)),none⟩])
 (.seq (.seq (.reg [xf 0 3 1,xo 4 3,xB .eql 5 4 10])
 (.cond (.s 5) (.seq (.reg [xf 2 6 1,xo 7 6,⟨(some 8),.binS .eql (.s 7) (.c (.str [])),none⟩,xm 9 8,xg 9 (xf 3 10 1),xg 9 (xo 11 10),xg 9 (xL 12 11),xg 9 (xB .leq 13 12 1),⟨(some 14),.pick (.s 9) (.s 13) (.c (.bool false)),none⟩,xm 15 14,xg 15 (xf 3 16 1),xg 15 (xo 17 16),xg 15 (xc 81 18 [.s 17]),⟨(some 19),.pick (.s 15) (.s 18) (.c (.bool false)),none⟩,xm 20 19,xg 20 (xf 4 21 1),xg 20 (xo 22 21),xg 20 (xc 80 23 [.c (.int .i64 4),.s 22]),⟨(some 24),.pick (.s 20) (.s 23) (.c (.bool false)),none⟩,xm 2 24])
 (.ret))
 (.skip)))
 (.seq (.reg [xf 0 25 1,xo 26 25,xB .eql 27 26 1,xm 28 27,xg 28 (xl 5 29 1),xg 28 (xc 48 30 [.s 29]),⟨(some 31),.pick (.s 28) (.s 30) (.c (.bool false)),none⟩,xm 2 31])
 (.ret)))
theorem fn49:IsFn prog 49 ac49 [.tmp 2] 32:=⟨f49,⟨[],[],[]⟩,func49,by kernel_rfl,by kernel_rfl,by kernel_rfl,by kernel_rfl⟩
def ac57:AC:=.seq (.reg [⟨(some 1),.box 5 (.s 0),none⟩,xi 2 0])
 (.seq (.reg [xf 3 5 1,xo 6 5,xL 7 6,⟨(some 8),.binI .add (.c (.int .i64 1)) (.s 7),none⟩,xm 3 8])
 (.seq (.seq (.reg [xi 4 0])
 (.block 0 (.loop (.seq (.seq (.reg [xm 9 4,xf 4 10 1,xo 11 10,xL 12 11,xb .lss 13 9 12])
 (.cond (.s 13) (.skip)
 (.exit 0)))
 (.seq (.block 1 (.reg [xm 16 3,xf 4 17 1,xo 18 17,xm 19 4,xA 5 20 18 19,xl 5 21 20,xc 57 22 [.s 21],xb .add 23 16 22,xm 3 23]))
 (.reg [xm 14 4,xB .add 15 14 1,xm 4 15]))))))
 (.seq (.reg [xm 24 3,xm 2 24])
 (.ret))))
theorem fn57:IsFn prog 57 ac57 [.tmp 2] 25:=⟨f57,⟨[],[],[]⟩,func57,by kernel_rfl,by kernel_rfl,by kernel_rfl,by kernel_rfl⟩
def ac99:AC:=.seq (.reg [⟨(some 1),.box 5 (.s 0),none⟩,⟨(some 2),.mv (.c (.bool false)),none⟩])
 (.seq (.seq (.reg [xf 0 3 1,xo 4 3])
 (.block 0 (.seq (.reg [xB .eql 6 4 2,xm 5 6])
 (.cond (.s 5) (.seq (.reg [xf 2 7 1,xo 8 7,xc 39 9 [.s 8],xm 10 9,xg 10 (xf 3 11 1),xg 10 (xo 12 11),xg 10 (xL 13 12),xg 10 (xf 4 14 1),xg 10 (xo 15 14),xg 10 (xL 16 15),xg 10 (xb .add 17 13 16),xg 10 (xB .eql 18 17 0),⟨(some 19),.pick (.s 10) (.s 18) (.c (.bool false)),none⟩,xm 2 19])
 (.ret))
 (.seq (.reg [xB .eql 21 4 3,xm 20 21])
 (.cond (.s 20) (.seq (.reg [xf 2 22 1,xo 23 22,⟨(some 24),.binS .eql (.s 23) (.c (.str [])),none⟩,xm 25 24,xg 25 (xf 3 26 1),xg 25 (xo 27 26),xg 25 (xc 81 28 [.s 27]),⟨(some 29),.pick (.s 25) (.s 28) (.c (.bool false)),none⟩,xm 30 29,xg 30 (xf 4 31 1),xg 30 (xo 32 31),xg 30 (xL 33 32),xg 30 (xB .eql 34 33 0),⟨(some 35),.pick (.s 30) (.s 34) (.c (.bool false)),none⟩,xm 2 35])
 (.ret))
 (.seq (.reg [xB .eql 37 4 4,xm 36 37])
 (.cond (.s 36) (.seq (.reg [xf 2 38 1,xo 39 38,⟨(some 40),.binS .eql (.s 39) (.c (.str [])),none⟩,xm 41 40,xg 41 (xf 3 42 1),xg 41 (xo 43 42),xg 41 (xL 44 43),xg 41 (xB .eql 45 44 0),⟨(some 46),.pick (.s 41) (.s 45) (.c (.bool false)),none⟩,xm 47 46,xg 47 (xf 4 48 1),xg 47 (xo 49 48),xg 47 (xL 50 49),xg 47 (xB .gtr 51 50 0),⟨(some 52),.pick (.s 47) (.s 51) (.c (.bool false)),none⟩,xm 53 52,xg 53 (xf 4 54 1),xg 53 (xo 55 54),xg 53 (xc 80 56 [.c (.int .i64 1),.s 55]),⟨(some 57),.pick (.s 53) (.s 56) (.c (.bool false)),none⟩,xm 2 57])
 (.ret))
 (.seq (.reg [xB .eql 59 4 5,xm 58 59])
 (.cond (.s 58) (.seq (.reg [xf 2 60 1,xo 61 60,⟨(some 62),.binS .eql (.s 61) (.c (.str [])),none⟩,xm 63 62,xg 63 (xf 3 64 1),xg 63 (xo 65 64),xg 63 (xL 66 65),xg 63 (xB .eql 67 66 0),⟨(some 68),.pick (.s 63) (.s 67) (.c (.bool false)),none⟩,xm 69 68,xg 69 (xf 4 70 1),xg 69 (xo 71 70),xg 69 (xc 80 72 [.c (.int .i64 2),.s 71]),⟨(some 73),.pick (.s 69) (.s 72) (.c (.bool false)),none⟩,xm 2 73])
 (.ret))
 (.skip)))))))))))
 (.seq (.reg [⟨(some 2),.mv (.c (.bool false)),none⟩])
 (.ret)))
theorem fn99:IsFn prog 99 ac99 [.tmp 2] 74:=⟨f99,⟨[],[],[]⟩,func99,by kernel_rfl,by kernel_rfl,by kernel_rfl,by kernel_rfl⟩
theorem const2_calls:∀(k:Nat) (n:Nd) (σ:Store),n.wt≤k→n.wt≤big→PCalls prog 99 [.agg n.enc] σ fun v σ' => v = .bool n.constQ∧σ' = σ:=by
  intro k;induction k with
  | zero=>intro n σ h _;cases n;simp only[Nd.wt] at h;omega
  | succ k ihk =>
    intro n σ hk hw;have hn:=wt_names n;have hbig:n.wt<2^62:=by simp only[big] at hw;omega
    have hall:∀σ,PCalls prog 80 [.int .i64 1,.sl .no 5 (n.kids.map Nd.enc)] σ fun v σ' => v = .bool (n.kids.all Nd.constQ)∧σ' = σ:=fun σ =>
      all1_calls n.kids σ (by omega) fun m hm σ=>ihk m σ (by have:=kid_wt hm;omega) (by have:=kid_wt hm;omega)
    have hrule:∀σ,PCalls prog 80 [.int .i64 2,.sl .no 5 (n.kids.map Nd.enc)] σ fun v σ' => v = .bool (n.kids.all Nd.ruleQ)∧σ' = σ:=fun σ =>
      all2_calls n.kids σ (by omega) fun m hm=>by have:=kid_wt hm;have:=wt_names m;omega
    have hr:=fun σ=>right2_calls n.text σ
    have hrw:=fun σ=>right2W_calls n.names σ (by omega)
    rw[Nd.constQ_eq];refine fn99.calls ?_;simp only[slots,ac99,z19_]
    by_cases k2:n.kind=2
    · simp only[am,Nd.fl,decide_eq_true k2]
      repeat' (first
        | (refine gL_split (fun h=>?_) (fun h=>?_)<;>simp only[am,h,List.length_map,Nd.fl,wrap_i64 (x:=(n.names.length:Int)+n.kids.length) (by omega) (by omega)])
        | (refine vcIf_split (fun h=>?_) (fun h=>?_)<;>simp only[z20_,h,Nat.reduceAdd,Nat.reduceEqDiff,List.length_map,wrap_i64 (x:=(n.names.length:Int)+n.kids.length) (by omega) (by omega)])
        | (refine pickL_split (fun h=>?_) (fun h=>?_)<;>simp only[z20_,h,Nat.reduceAdd,Nat.reduceEqDiff,List.length_map,wrap_i64 (x:=(n.names.length:Int)+n.kids.length) (by omega) (by omega)])
        | (refine(hr _).mono ?_;rintro v _ ⟨rfl,rfl⟩;simp only[am])
      )
      all_goals refine retS ?_
      all_goals simp_all [V.erase,Nd.leafQ]
      all_goals (try omega)
    simp only[am,decide_eq_false k2]
    by_cases k3:n.kind=3
    · simp only[am,Nd.fl,decide_eq_true k3]
      repeat' (first
        | (refine gL_split (fun h=>?_) (fun h=>?_)<;>simp only[am,h,List.length_map,Nd.fl])
        | (refine vcIf_split (fun h=>?_) (fun h=>?_)<;>simp only[z20_,h,Nat.reduceAdd,Nat.reduceEqDiff,List.length_map])
        | (refine pickL_split (fun h=>?_) (fun h=>?_)<;>simp only[z20_,h,Nat.reduceAdd,Nat.reduceEqDiff,List.length_map])
        | (refine(hrw _).mono ?_;rintro v _ ⟨rfl,rfl⟩;simp only[am])
      )
      all_goals refine retS ?_
      all_goals simp_all [V.erase]
      all_goals (try omega)
    simp only[am,decide_eq_false k3]
    by_cases k4:n.kind=4
    · simp only[am,Nd.fl,decide_eq_true k4]
      repeat' (first
        | (refine gL_split (fun h=>?_) (fun h=>?_)<;>simp only[am,h,List.length_map,Nd.fl])
        | (refine vcIf_split (fun h=>?_) (fun h=>?_)<;>simp only[z20_,h,Nat.reduceAdd,Nat.reduceEqDiff,List.length_map])
        | (refine pickL_split (fun h=>?_) (fun h=>?_)<;>simp only[z20_,h,Nat.reduceAdd,Nat.reduceEqDiff,List.length_map])
        | (refine(hall _).mono ?_;rintro v _ ⟨rfl,rfl⟩;simp only[am])
      )
      all_goals refine retS ?_
      all_goals simp_all [V.erase,Nd.bareQ]
      all_goals (try omega)
    simp only[am,decide_eq_false k4]
    by_cases k5:n.kind=5
    · simp only[am,Nd.fl,decide_eq_true k5]
      repeat' (first
        | (refine gL_split (fun h=>?_) (fun h=>?_)<;>simp only[am,h,List.length_map,Nd.fl])
        | (refine vcIf_split (fun h=>?_) (fun h=>?_)<;>simp only[z20_,h,Nat.reduceAdd,Nat.reduceEqDiff,List.length_map])
        | (refine pickL_split (fun h=>?_) (fun h=>?_)<;>simp only[z20_,h,Nat.reduceAdd,Nat.reduceEqDiff,List.length_map])
        | (refine(hrule _).mono ?_;rintro v _ ⟨rfl,rfl⟩;simp only[am])
      )
      all_goals refine retS ?_
      all_goals simp_all [V.erase,Nd.bareQ]
      all_goals (try omega)
    simp only[am,decide_eq_false k5];refine retS ?_;simp[V.erase,k2,k3,k4,k5]
theorem label2_calls:∀(k:Nat) (n:Nd) (σ:Store),n.wt≤k→n.wt≤big→PCalls prog 48 [.agg n.enc] σ fun v σ' => v = .bool n.labelQ∧σ' = σ:=by
  intro k;induction k with
  | zero=>intro n σ h _;cases n;simp only[Nd.wt] at h;omega
  | succ k ihk =>
    intro n σ hk hw;have hn:=wt_names n;have hbig:n.wt<2^62:=by simp only[big] at hw;omega
    have hall:∀σ,PCalls prog 80 [.int .i64 3,.sl .no 5 (n.kids.map Nd.enc)] σ fun v σ' => v = .bool (n.kids.all Nd.labelQ)∧σ' = σ:=fun σ =>
      all3_calls n.kids σ (by omega) fun m hm σ=>ihk m σ (by have:=kid_wt hm;omega) (by have:=kid_wt hm;omega)
    have hcon:∀σ,PCalls prog 80 [.int .i64 1,.sl .no 5 (n.kids.map Nd.enc)] σ fun v σ' => v = .bool (n.kids.all Nd.constQ)∧σ' = σ:=fun σ =>
      all1_calls n.kids σ (by omega) fun m hm σ=>const2_calls _ m σ (Nat.le_refl _) (by have:=kid_wt hm;omega)
    have hr:=fun σ=>right2_calls n.text σ
    rw[Nd.labelQ_eq];refine fn48.calls ?_;simp only[slots,ac48,z19_]
    by_cases k1:n.kind=1
    · simp only[am,Nd.fl,decide_eq_true k1]
      repeat' (first
        | (refine gL_split (fun h=>?_) (fun h=>?_)<;>simp only[am,h,List.length_map,Nd.fl,wrap_i64 (x:=(n.names.length:Int)+n.kids.length) (by omega) (by omega)])
        | (refine vcIf_split (fun h=>?_) (fun h=>?_)<;>simp only[z20_,h,Nat.reduceAdd,Nat.reduceEqDiff,List.length_map,wrap_i64 (x:=(n.names.length:Int)+n.kids.length) (by omega) (by omega)])
        | (refine pickL_split (fun h=>?_) (fun h=>?_)<;>simp only[z20_,h,Nat.reduceAdd,Nat.reduceEqDiff,List.length_map,wrap_i64 (x:=(n.names.length:Int)+n.kids.length) (by omega) (by omega)])
        | (refine(hr _).mono ?_;rintro v _ ⟨rfl,rfl⟩;simp only[am])
      )
      all_goals refine retS ?_
      all_goals simp_all [V.erase,Nd.leafQ]
      all_goals (try omega)
    simp only[am,decide_eq_false k1]
    by_cases k7:n.kind=7
    · have hq:(decide ((n.kids.length:Int)=1)&&headQ Nd.constQ n.kids)=(decide ((n.kids.length:Int)=1)&&n.kids.all Nd.constQ):=by
        by_cases h1:(n.kids.length:Int)=1
        · rw[headQ_all h1]
        · simp[h1]
      rw[if_neg k1,if_pos k7,Bool.and_assoc,hq];simp only[am,Nd.fl,decide_eq_true k7]
      repeat' (first
        | (refine gL_split (fun h=>?_) (fun h=>?_)<;>simp only[am,h,List.length_map,Nd.fl])
        | (refine vcIf_split (fun h=>?_) (fun h=>?_)<;>simp only[z20_,h,Nat.reduceAdd,Nat.reduceEqDiff,List.length_map])
        | (refine pickL_split (fun h=>?_) (fun h=>?_)<;>simp only[z20_,h,Nat.reduceAdd,Nat.reduceEqDiff,List.length_map])
        | (refine(hcon _).mono ?_;rintro v _ ⟨rfl,rfl⟩;simp only[am])
      )
      all_goals refine retS ?_
      all_goals simp_all [V.erase,Nd.bareQ]
      all_goals (try omega)
    simp only[am,decide_eq_false k7]
    by_cases k8:n.kind=8
    case' pos =>
      simp only[am,Nd.fl,decide_eq_true k8]
    case' neg =>
      simp only[am,decide_eq_false k8]
      by_cases k9:n.kind=9
      case' pos =>
        simp only[am,Nd.fl,decide_eq_true k9]
      case' neg =>
        simp only[am,decide_eq_false k9];refine retS ?_;simp[V.erase,k1,k7,k8,k9]
    all_goals
      repeat' (first
        | (refine gL_split (fun h=>?_) (fun h=>?_)<;>simp only[am,h,List.length_map,Nd.fl])
        | (refine vcIf_split (fun h=>?_) (fun h=>?_)<;>simp only[z20_,h,Nat.reduceAdd,Nat.reduceEqDiff,List.length_map])
        | (refine pickL_split (fun h=>?_) (fun h=>?_)<;>simp only[z20_,h,Nat.reduceAdd,Nat.reduceEqDiff,List.length_map])
        | (refine(hall _).mono ?_;rintro v _ ⟨rfl,rfl⟩;simp only[am])
      )
      all_goals refine retS ?_
      all_goals simp_all [V.erase,Nd.bareQ]
      all_goals (try omega)
theorem row2_calls (n:Nd) (σ:Store) (hw:n.wt≤big):PCalls prog 49 [.agg n.enc] σ fun v σ' => v = .bool n.rowQ∧σ' = σ:=by
  have hn:=wt_names n;have hall:∀σ,PCalls prog 80 [.int .i64 4,.sl .no 5 (n.kids.map Nd.enc)] σ fun v σ' => v = .bool (n.kids.all Nd.fieldQ)∧σ' = σ:=fun σ =>
    all4_calls n.kids σ (by omega) fun m hm p hp σ=>label2_calls _ p σ (Nat.le_refl _) (by have:=kid_wt hm;have:=kid_wt hp;omega)
  have hrw:=fun σ=>right2W_calls n.names σ (by omega)
  refine fn49.calls ?_;simp only[slots,ac49,z19_]
  by_cases k10:n.kind=10
  · simp only[am,Nd.fl,decide_eq_true k10]
    repeat' (first
      | (refine gL_split (fun h=>?_) (fun h=>?_)<;>simp only[am,h,List.length_map,Nd.fl])
      | (refine vcIf_split (fun h=>?_) (fun h=>?_)<;>simp only[z20_,h,Nat.reduceAdd,Nat.reduceEqDiff,List.length_map])
      | (refine pickL_split (fun h=>?_) (fun h=>?_)<;>simp only[z20_,h,Nat.reduceAdd,Nat.reduceEqDiff,List.length_map])
      | (refine(hrw _).mono ?_;rintro v _ ⟨rfl,rfl⟩;simp only[am])
      | (refine(hall _).mono ?_;rintro v _ ⟨rfl,rfl⟩;simp only[am])
    )
    all_goals refine retS ?_
    all_goals simp_all [V.erase,Nd.rowQ]
    all_goals (try omega)
  · simp only[am,Nd.fl,decide_eq_false k10]
    repeat' (first
      | (refine gL_split (fun h=>?_) (fun h=>?_)<;>simp only[am,h,Nd.rec_])
      | (refine vcIf_split (fun h=>?_) (fun h=>?_)<;>simp only[z20_,h,Nat.reduceAdd,Nat.reduceEqDiff,List.length_map])
      | (refine pickL_split (fun h=>?_) (fun h=>?_)<;>simp only[z20_,h,Nat.reduceAdd,Nat.reduceEqDiff,List.length_map])
      | (refine(label2_calls _ n _ (Nat.le_refl _) hw).mono ?_;rintro v _ ⟨rfl,rfl⟩;simp only[am])
    )
    all_goals refine retS ?_
    all_goals simp_all [V.erase,Nd.rowQ]
    all_goals (try omega)
def inv52 (n:Nd) (i:Nat) (σ:Store):St :=
  ⟨[.any,.ptr (.loc 0) 0,.any,.int .i64 ((1+n.names.length+cnts (n.kids.take i):Nat):Int),.int .i64 (i:Nat)]++List.replicate 20 .any,[n.enc],σ⟩
theorem many2_calls:∀(k:Nat) (n:Nd) (σ:Store),n.wt≤k→n.wt≤big→PCalls prog 57 [.agg n.enc] σ fun v σ' => v = .int .i64 n.cnt∧σ' = σ:=by
  intro k;induction k with
  | zero=>intro n σ h _;cases n;simp only[Nd.wt] at h;omega
  | succ k ihk =>
    intro n σ hk hw;have hn:=wt_names n;have hc:=cnt_wt n;have hbig:n.wt<2^62:=by simp only[big] at hw;omega
    have hce:n.cnt=1+n.names.length+cnts n.kids:=by cases n;rw[Nd.cnt];rfl
    refine fn57.calls ?_;simp only[slots,ac57,z19_];refine vc_loop (fun p:{i:Nat // i≤n.kids.length}=>inv52 n p.1 σ) (fun p=>n.kids.length - p.1) ?_ ?_
    · refine Upd.enter ⟨0,by simp⟩ ?_ LLLe.rfl OLe.rfl;rw[List.length_map,wrap_i64 (by omega) (by omega)];simp[inv52,List.replicate,am,cnts]
    rintro⟨i,hi⟩;simp only[inv52,List.replicate,am,Nd.fl,List.length_map];refine vcIf_split ?_ ?_
    · intro hlt;have hlt:i<n.kids.length:=by simpa using hlt
      have h1:=cnts_at hlt;have h2:=cnts_take n.kids (i+1);have h3:=kid_wt (n:=n) (List.getElem_mem hlt);simp only[am,Nd.fl];refine idxL_intro (by omega) (nencs_at (List.getElem?_eq_getElem hlt)) ?_;simp only[am,Nd.rec_];refine cl (ihk n.kids[i] σ (by omega) (by omega)) ?_;simp only[am];rw[wrap_i64 (by omega) (by omega),wrap_i64 (x:=(i:Int)+1) (by omega) (by omega)];refine Upd.again ⟨i+1,hlt⟩ (by simp;omega) ?_ LLLe.rfl OLe.rfl;simp[am,h1];omega
    intro hlt;have hlt:i=n.kids.length:=by simp at hlt;omega
    subst hlt;rw[List.take_length];simp only[am];refine retK_intro rfl (Store.sub_refl _) ⟨?_,rfl⟩;simp[V.erase,hce]
def bigQ (l:List Nd):Bool:=l.any fun n=>decide ((300:Int)<n.cnt)
def inv22 (l:List Nd) (i:Nat) (σ:Store):St :=
  ⟨[.any,.any,.any,.any,.any,.sl .no 5 (l.map Nd.enc),.int .i64 l.length,.int .i64 (i:Nat)]++List.replicate 7 .any,[],σ⟩
theorem big_calls {τ:Tk} (l:List Nd) (σ:Store) (hb:l.length≤big) (hw:∀n∈l,n.wt≤big):PCalls prog 19 [.sl τ 5 (l.map Nd.enc)] σ fun v σ' => v = .bool (bigQ l)∧σ' = σ:=by
  simp only[big] at hb;refine fn19.calls ?_;simp only[slots,ac19,am,ams];refine vc_loop (fun p:{i:Nat // i≤l.length∧bigQ (l.take i)=false}=>inv22 l p.1 σ) (fun p=>l.length - p.1) ?_ ?_
  · refine Upd.enter ⟨0,by simp,by simp[bigQ]⟩ ?_ LLLe.rfl OLe.rfl;simp[inv22,List.replicate,am]
  rintro⟨i,hi,ha⟩;simp only[inv22,List.replicate,am];refine vcIf_split ?_ ?_
  · intro hlt;have hlt:i<l.length:=by simpa using hlt
    simp only[am];refine idxL_intro (by omega) (nencs_at (List.getElem?_eq_getElem hlt)) ?_;simp only[am,Nd.rec_];refine cl (many2_calls _ l[i] σ (Nat.le_refl _) (hw _ (List.getElem_mem hlt))) ?_;simp only[am];refine vcIf_split ?_ ?_
    · intro hg;simp only[am];refine retK_intro rfl (Store.sub_refl _) ⟨?_,rfl⟩;rw[show bigQ l=true from List.any_eq_true.2 ⟨l[i],List.getElem_mem hlt,by simpa using hg⟩];rfl
    · intro hg;simp only[am];rw[wrap_i64 (by omega) (by omega)];refine Upd.againD ⟨i+1,hlt,?_⟩ (by simp;omega) (by simp[am]) (by simp[am]) OLe.rfl rfl rfl;unfold bigQ at ha ⊢;rw[take_succ_of (List.getElem?_eq_getElem hlt),List.any_append,ha];simpa using hg
  intro hlt;have hlt:i=l.length:=by simp at hlt;omega
  subst hlt;rw[List.take_length] at ha;simp only[am];refine retS ?_;simp[V.erase,ha]
end Go.Proofs.Tryz

namespace Go.Proofs.Tryz
open Go.Am
set_option maxRecDepth 4000
set_option maxHeartbeats 4000000
end Go.Proofs.Tryz

namespace Go.Proofs.Tryz
open Go.Am
set_option maxRecDepth 4000
set_option maxHeartbeats 4000000
def ac21:AC:=.seq (.reg [⟨(some 2),.box 2 (.s 0),none⟩,xi 4 0,xi 5 0])
 (.seq (.reg [xi 6 (-1),xi 7 (-1)])
 (.seq (.seq (.reg [xf 0 10 2,xo 11 10,xL 12 11,xi 13 0])
 (.block 0 (.loop (.seq (.reg [xb .lss 14 13 12])
 (.seq (.cond (.s 14) (.skip)
 (.exit 0))
 (.seq (.block 1 (.seq (.reg [xm 15 13,xm 8 15])
 (.seq (.reg [xm 16 6,xB .lss 17 16 0,xm 18 17,xg 18 (xf 0 19 2),xg 18 (xo 20 19),xg 18 (xm 21 8),xg 18 (xA 3 22 20 21),xg 18 (xf 0 23 22),xg 18 (xo 24 23),xg 18 (xm 25 1),⟨(some 26),.binS .eql (.s 24) (.s 25),(some (18,true))⟩,⟨(some 27),.pick (.s 18) (.s 26) (.c (.bool false)),none⟩])
 (.cond (.s 27) (.reg [xm 28 8,xm 6 28])
 (.skip)))))
 (.reg [xB .add 29 13 1,xm 13 29])))))))
 (.seq (.seq (.reg [xf 1 30 2,xo 31 30,xL 32 31,xi 33 0])
 (.block 2 (.loop (.seq (.reg [xb .lss 34 33 32])
 (.seq (.cond (.s 34) (.skip)
 (.exit 2))
 (.seq (.block 3 (.seq (.reg [xm 35 33,xm 9 35])
 (.seq (.reg [xm 36 7,xB .lss 37 36 0,xm 38 37,xg 38 (xf 1 39 2),xg 38 (xo 40 39),xg 38 (xm 41 9),xg 38 (xA 3 42 40 41),xg 38 (xf 0 43 42),xg 38 (xo 44 43),xg 38 (xm 45 1),⟨(some 46),.binS .eql (.s 44) (.s 45),(some (38,true))⟩,⟨(some 47),.pick (.s 38) (.s 46) (.c (.bool false)),none⟩])
 (.cond (.s 47) (.reg [xm 48 9,xm 7 48])
 (.skip)))))
 (.reg [xB .add 49 33 1,xm 33 49])))))))
 (.seq (.reg [xm 50 6,xm 51 7,xm 4 50,xm 5 51])
 (.ret)))))
theorem fn21:IsFn prog 21 ac21 [.tmp 4,.tmp 5] 52:=⟨f21,⟨[],[],[]⟩,func21,by kernel_rfl,by kernel_rfl,by kernel_rfl,by kernel_rfl⟩
def ac63:AC:=.seq (.reg [⟨(some 3),.box 2 (.s 0),none⟩,⟨(some 5),.box 5 (.s 2),none⟩,⟨(some 6),.alloc insZ,none⟩,⟨(some 7),.mv (.c (.bool false)),none⟩])
 (.seq (.seq (.reg [xf 0 10 5,xo 11 10,xB .eql 12 11 1])
 (.cond (.s 12) (.seq (.reg [xl 2 13 3,xm 14 1,xf 2 15 5,xo 16 15,xc 95 17 [.s 13,.s 14,.s 16],xe 18 17 0,xe 19 17 1,xs 10 6 18,xm 7 19])
 (.ret))
 (.skip)))
 (.seq (.drawA [8,9] [(xf 0 21 3,[]),(xo 22 21,[]),(xm 23 1,[]),(xA 3 24 22 23,[]),(xf 1 25 24,[]),(xl 2 26 25,[]),(xf 4 27 5,[]),(xo 28 27,[]),(⟨(some 29),.idxA 5 (.s 28) (.c (.int .i64 0)),none⟩,[]),(xl 5 30 29,[]),(xc 64 31 [.s 26,.s 30],[]),(xm 20 31,[]),(xe 32 20 0,[]),(xe 33 20 1,[]),(⟨none,.mv (.c .any),none⟩,[]),(⟨none,.mv (.c .any),none⟩,[]),(⟨(some 8),.boxS 8 (.s 32),none⟩,[]),(⟨(some 9),.boxS 2 (.s 33),none⟩,[])])
 (.seq (.draw [(xl 8 34 8,[]),(⟨(some 35),.build insZ [(0,1,(.c (.int .i64 2))),(2,8,(.s 34))],none⟩,[]),(xf 0 36 9,[]),(xo 37 36,[1]),(xB .eql 38 37 0,[]),(xs 10 6 35,[]),(xm 7 38,[])])
 (.ret))))
theorem fn63:IsFn prog 63 ac63 [.cell 6 true 10,.tmp 7] 39:=⟨f63,⟨[],[],[]⟩,func63,by kernel_rfl,by kernel_rfl,by kernel_rfl,by kernel_rfl⟩
def ac95:AC:=.seq (.reg [⟨(some 3),.box 2 (.s 0),none⟩,⟨(some 6),.alloc insZ,none⟩,⟨(some 7),.mv (.c (.bool false)),none⟩])
 (.seq (.reg [xl 2 11 3,xm 12 2,xc 21 13 [.s 11,.s 12],xm 10 13,xe 14 10 0,xe 15 10 1,xm 8 14,xm 9 15])
 (.seq (.seq (.reg [xm 16 9,xB .lss 17 16 0,xm 18 17,xh 18 (xf 1 19 3),xh 18 (xo 20 19),xh 18 (xm 21 9),xh 18 (xA 3 22 20 21),xh 18 (xf 1 23 22),xh 18 (xo 24 23),xh 18 (xB .neq 25 24 1),⟨(some 26),.pick (.s 18) (.c (.bool true)) (.s 25),none⟩,xm 27 26,xh 27 (xf 1 28 3),xh 27 (xo 29 28),xh 27 (xm 30 9),xh 27 (xA 3 31 29 30),xh 27 (xf 2 32 31),xh 27 (xo 33 32),xh 27 (xm 34 1),xh 27 (xb .neq 35 33 34),⟨(some 36),.pick (.s 27) (.c (.bool true)) (.s 35),none⟩])
 (.cond (.s 36) (.seq (.reg [⟨(some 37),.build insZ [],none⟩,xs 10 6 37,⟨(some 7),.mv (.c (.bool false)),none⟩])
 (.ret))
 (.skip)))
 (.seq (.reg [xm 38 9,⟨(some 39),.build insZ [(0,1,(.c (.int .i64 1))),(1,1,(.s 38))],none⟩,xs 10 6 39,⟨(some 7),.mv (.c (.bool true)),none⟩])
 (.ret))))
theorem fn95:IsFn prog 95 ac95 [.cell 6 true 10,.tmp 7] 40:=⟨f95,⟨[],[],[]⟩,func95,by kernel_rfl,by kernel_rfl,by kernel_rfl,by kernel_rfl⟩
theorem lats_at {l:List Ltc} {j:Nat} (h:j<l.length):(l.map Ltc.enc)[((j:Nat):Int).toNat]?=some l[j].enc:=by simp[h]
theorem vars_at {l:List Vrb} {j:Nat} (h:j<l.length):(l.map Vrb.enc)[((j:Nat):Int).toNat]?=some l[j].enc:=by simp[h]
theorem scfind_calls (s:Scp) (t:List UInt8) (σ:Store) (h1:s.lats.length≤100000) (h2:s.vars.length≤100000) :
    PCalls prog 21 [.agg s.enc,.str t] σ fun v σ' => v = .tup [.int .i64 (optI (findL s.lats t)),.int .i64 (optI (findV s.vars t))]∧σ' = σ:=by
  refine fn21.calls ?_;simp only[slots,ac21,am,ams,Nat.reduceAdd,Scp.rec_,List.length_map];rw[findL,findV];generalize hpL:nameL s.lats t=pL;generalize hpV:nameV s.vars t=pV;have eL:∀i (hi:i<s.lats.length),pL i=decide (s.lats[i].name=t):=fun i hi=>by rw[←hpL];simp only[nameL,List.getElem?_eq_getElem hi]
  have eV:∀i (hi:i<s.vars.length),pV i=decide (s.vars[i].name=t):=fun i hi=>by rw[←hpV];simp only[nameV,List.getElem?_eq_getElem hi]
  obtain⟨F,hF⟩:∃F:Nat→Unit→St,∀i x,F i x=⟨[.any,.str t,.ptr (.loc 0) 0,.any,.any,.any,.int .i64 (optI ((List.range i).find? pL)),.int .i64 (-1),.any,.any,.any,.sl .no 3 (s.lats.map Ltc.enc),.int .i64 (s.lats.length:Nat),.int .i64 (i:Nat)]++List.replicate 38 .any,[s.enc],σ⟩:=⟨_,fun _ _=>rfl⟩;obtain⟨JF,hJF⟩:∃JF:Nat→Unit→Prop,∀i x,JF i x=(True):=⟨_,fun _ _=>rfl⟩;refine vc_count (s.lats.length) F JF _ hJF ?_ ?_ ?_
  · refine ent (()) ?_ ?_ ?_ ?_
    · exact Eq.mpr (hJF _ _) (trivial)
    all_goals simp[hF,List.replicate,am,lle_self,optI]
  · rintro i x hi -;simp only[hF,List.replicate,am,dlt hi,optI_neg];cases hf:(List.range i).find? pL with
    | some k =>
      simp only[am,aml,Option.isNone_some,winc hi (by omega)];refine nxt (()) hi ?_ ?_ ?_ ?_
      · exact Eq.mpr (hJF _ _) (trivial)
      all_goals simp[hF,List.replicate,am,lle_self,List.range_succ,List.find?_append,hf]
    | none =>
      simp only[am,Scp.rec_,Option.isNone_none];refine idxL_intro (by omega) (lats_at hi) ?_;simp only[am,Scp.rec_];rw[←eL i hi];cases hb:pL i with
      | false =>
        simp only[am,aml,winc hi (by omega)];refine nxt (()) hi ?_ ?_ ?_ ?_
        · exact Eq.mpr (hJF _ _) (trivial)
        all_goals simp[hF,List.replicate,am,lle_self,List.range_succ,List.find?_append,hf,hb]
      | true =>
        simp only[am,aml,winc hi (by omega)];refine nxt (()) hi ?_ ?_ ?_ ?_
        · exact Eq.mpr (hJF _ _) (trivial)
        all_goals simp[hF,List.replicate,am,lle_self,List.range_succ,List.find?_append,hf,hb,optI]
  · rintro x -;simp only[hF,List.replicate,am,aml,dnl,aml,Scp.rec_,List.length_map];clear hF hJF F JF;obtain⟨F,hF⟩:∃F:Nat→Unit→St,∀i x,F i x=⟨[.any,.str t,.ptr (.loc 0) 0,.any,.any,.any,.int .i64 (optI ((List.range s.lats.length).find? pL)),.int .i64 (optI ((List.range i).find? pV)),.any,.any,.any,.any,.any,.any,.any,.any,.any,.any,.any,.any,.any,.any,.any,.any,.any,.any,.any,.any,.any,.any,.any,.sl .no 3 (s.vars.map Vrb.enc),.int .i64 (s.vars.length:Nat),.int .i64 (i:Nat)]++List.replicate 18 .any,[s.enc],σ⟩:=⟨_,fun _ _=>rfl⟩;obtain⟨JF,hJF⟩:∃JF:Nat→Unit→Prop,∀i x,JF i x=(True):=⟨_,fun _ _=>rfl⟩;refine vc_count (s.vars.length) F JF _ hJF ?_ ?_ ?_
    · refine ent (()) ?_ ?_ ?_ ?_
      · exact Eq.mpr (hJF _ _) (trivial)
      all_goals simp[hF,List.replicate,am,lle_self,optI]
    · rintro i x hi -;simp only[hF,List.replicate,am,dlt hi,optI_neg];cases hf:(List.range i).find? pV with
      | some k =>
        simp only[am,aml,Option.isNone_some,winc hi (by omega)];refine nxt (()) hi ?_ ?_ ?_ ?_
        · exact Eq.mpr (hJF _ _) (trivial)
        all_goals simp[hF,List.replicate,am,lle_self,List.range_succ,List.find?_append,hf]
      | none =>
        simp only[am,Scp.rec_,Option.isNone_none];refine idxL_intro (by omega) (vars_at hi) ?_;simp only[am,Scp.rec_];rw[←eV i hi];cases hb:pV i with
        | false =>
          simp only[am,aml,winc hi (by omega)];refine nxt (()) hi ?_ ?_ ?_ ?_
          · exact Eq.mpr (hJF _ _) (trivial)
          all_goals simp[hF,List.replicate,am,lle_self,List.range_succ,List.find?_append,hf,hb]
        | true =>
          simp only[am,aml,winc hi (by omega)];refine nxt (()) hi ?_ ?_ ?_ ?_
          · exact Eq.mpr (hJF _ _) (trivial)
          all_goals simp[hF,List.replicate,am,lle_self,List.range_succ,List.find?_append,hf,hb,optI]
    · rintro x -;simp only[hF,List.replicate,am,aml,dnl,aml];refine retS ?_;simp[V.erase,eraseL]
theorem findV_at {l:List Vrb} {t:List UInt8} {k:Nat} (h:findV l t=some k):k<l.length:=(find_lt h).1
def insT (o:Option Ins):V:=.tup [.agg (match o with | some i=>i | none=>Ins.zero).enc,.bool o.isSome]
def z25_:=And.intro @am <| And.intro @ams <| And.intro @Scp.rec_ @Ins.rec_
theorem variable_calls (s:Scp) (lat:Nat) (t:List UInt8) (σ:Store) (h1:s.lats.length≤100000) (h2:s.vars.length≤100000) :
    PCalls prog 95 [.agg s.enc,.int .i64 (lat:Nat),.str t] σ fun v σ' => v=insT (varF s lat t)∧σ' = σ:=by
  refine fn95.calls ?_;simp only[slots,ac95,z25_,Nat.reduceAdd];have no:∀(u:List V) (l:List (List V)),varF s lat t=none→RetK (fun v σ' => v=insT (varF s lat t)∧σ' = σ) ⟨u,l,σ⟩ (.tup [.agg Ins.zero.enc,.bool false]):=fun u l h=>by
    rw[h];exact retK_intro (by simp[V.nol,nolL,Ins.r_nol]) (Store.sub_refl _) ⟨by simp[insT,V.erase,eraseL,Ins.r_er],rfl⟩
  refine cl (scfind_calls s t σ h1 h2) ?_;simp only[am,optI_neg];cases hf:findV s.vars t with
  | none =>
    simp only[am,Ins.rec_,Option.isNone_none];exact no _ _ (by simp only[varF,hf])
  | some k =>
    have hk:=findV_at hf;have hv:s.vars[k]?=some s.vars[k]:=List.getElem?_eq_getElem hk;simp only[am,Scp.rec_,Option.isNone_some,optI];refine idxL_intro (by omega) (vars_at hk) ?_;simp only[am,Scp.rec_]
    by_cases e1:s.vars[k].kind=1
    · simp only[am,Scp.rec_,decide_eq_true e1];refine idxL_intro (by omega) (vars_at hk) ?_;simp only[am,Scp.rec_]
      by_cases e2:s.vars[k].lat=(lat:Nat)
      · have e:varF s lat t=some ⟨1,k,.zero⟩:=by simp only[varF,hf,hv];rw[if_pos ⟨e1,e2⟩]
        simp only[am,Ins.rec_,decide_eq_true e2];exact retK_intro (by simp[V.nol,nolL,Ins.r_nol]) (Store.sub_refl _) ⟨by simp[e,insT,V.erase,eraseL,Ins.r_er,Ins.zero],rfl⟩
      · simp only[am,Ins.rec_,decide_eq_false e2];exact no _ _ (by simp only[varF,hf,hv];rw[if_neg (fun h=>e2 h.2)])
    · simp only[am,Ins.rec_,decide_eq_false e1];exact no _ _ (by simp only[varF,hf,hv];rw[if_neg (fun h=>e1 h.1)])
theorem shapeF_at {s:Scp} {lat:Nat} (h:lat<s.lats.length):shapeF s lat=s.lats[lat].shape:=by simp only[shapeF,List.getElem?_eq_getElem h]
theorem leafF_ok {s:Scp} {lat:Nat} {n:Nd} (h1:n.kind≠1) {e:Elm} (he:elemF (shapeF s lat) (n.kids.getD 0 nd0)=(e,none)):leafF s lat n=some ⟨2,0,e⟩:=by rw[leafF,if_neg h1,he]
theorem leafF_bad {s:Scp} {lat:Nat} {n:Nd} (h1:n.kind≠1) {e:Elm} {p:Int} (he:elemF (shapeF s lat) (n.kids.getD 0 nd0)=(e,some p)):leafF s lat n=none:=by rw[leafF,if_neg h1,he]
theorem parts_ok {s:Shp} {n:Nd} (hc:n.cnt≤100000):∀k∈partsF s n,k.names.length≤100000∧k.kids.length≤100000∧∀m∈k.kids,m.names.length≤100000:=by
  intro k hk;have hkc:k.cnt≤n.cnt:=by
    unfold partsF at hk;split at hk
    · exact Nat.le_of_lt (cnt_kid hk)
    · rw[List.mem_singleton.1 hk];exact Nat.le_refl _
  have h1:=cnt_names k;have h2:=cnt_kids k;refine⟨by omega,by omega,fun m hm=>?_⟩
  have:=cnt_kid hm
  have:=cnt_names m
  omega
theorem parts_Ok {s:Shp} {n:Nd} (hc:n.cnt≤100000):∀k∈partsF s n,Nd.ok k:=fun k hk=>by
  obtain⟨h1,h2,h3⟩:=parts_ok hc k hk;exact⟨by omega,by omega,fun m hm=>by have:=h3 m hm;omega⟩
def z26_:=And.intro @am <| And.intro @ams <| And.intro @Nd.rec_ <| And.intro @Nd.fl <| And.intro @Scp.rec_ @Ins.rec_
theorem leaf_calls14 (s:Scp) (lat:Nat) (n:Nd) {σ:Store} (hg:TZ σ) (hs:s.ok) (hlat:lat<s.lats.length) (hc:n.cnt≤100000) (hw:n.wt≤big) (hl:n.labelQ=true) (hk:n.kind=1∨n.kind=7) :
    PCalls prog 63 [.agg s.enc,.int .i64 (lat:Nat),.agg n.enc] σ fun v σ' => (∃i:Ins,v = .tup [.agg i.enc,.bool (leafF s lat n).isSome]∧∀j,leafF s lat n=some j→i=j)∧σ' = σ:=by
  refine fn63.calls ?_;simp only[slots,ac63,z26_,Nat.reduceAdd]
  by_cases h1:n.kind=1
  · simp only[am,Nd.fl,Scp.rec_,decide_eq_true h1];refine cl (variable_calls s lat n.text σ hs.1 hs.2.1) ?_;simp only[am,Ins.rec_,insT];refine retK_intro (by simp[V.nol,nolL,Ins.r_nol]) (Store.sub_refl _) ⟨⟨_,by rw[leafF,if_pos h1];simp[V.erase,eraseL,Ins.r_er];rfl,fun j hj=>?_⟩,rfl⟩;rw[leafF,if_pos h1] at hj;rw[hj]
  · have h7:n.kind=7:=by simpa [h1] using hk
    have hkl:=label_const hl h7;have hm:n.kids[0]∈n.kids:=List.getElem_mem _;have hmc:=cnt_kid hm;have hmw:=kid_wt hm;simp only[am,Nat.reduceAdd,decide_true,Nat.reduceLT,Scp.rec_,decide_eq_false h1];refine idxL_intro (by omega) (lats_at hlat) ?_;simp only[am,Nd.fl,Scp.rec_];refine idxL_intro (n:=0) (by omega) (nencs_at (j:=0) (List.getElem?_eq_getElem (by omega))) ?_;simp only[am,Shp.rec_,Nd.rec_];refine CallD.intro (elem_calls s.lats[lat].shape n.kids[0] hg (hs.2.2 _ (List.getElem_mem hlat)) (parts_Ok (by omega)) (by omega)) ?_;obtain⟨e,he⟩:∃e,elemF s.lats[lat].shape n.kids[0]=e:=⟨_,rfl⟩;rw[he];have he' : elemF (shapeF s lat) (n.kids.getD 0 nd0)=e:=by rw[shapeF_at hlat,getD_at (by omega)];exact he
    simp only[am,Nat.reduceAdd,Elm.rec_,Ins.rec_,fltV];obtain⟨e,o⟩:=e;cases o with
    | none =>
      have hlf:=leafF_ok h1 he';simp only[am,decide_true,Option.isSome_none];exact retK_intro (by simp[V.nol,nolL,Ins.r_nol]) (Store.sub_refl _) ⟨⟨⟨2,0,e⟩,by rw[hlf];simp[V.erase,eraseL,Ins.r_er];rfl,fun j hj=>by rw[hlf] at hj;cases hj;rfl⟩,rfl⟩
    | some p =>
      have hlf:=leafF_bad h1 he';simp only[am,decide_false,Int.reduceEq,Option.isSome_some];exact retK_intro (by simp[V.nol,nolL,Ins.r_nol]) (Store.sub_refl _) ⟨⟨⟨2,0,e⟩,by rw[hlf];simp[V.erase,eraseL,Ins.r_er];rfl,fun j hj=>by rw[hlf] at hj;simp at hj⟩,rfl⟩
theorem codes_at {l:List Ins} {j:Nat} (h:j<l.length):(l.map Ins.enc)[((j:Nat):Int).toNat]?=some l[j].enc:=by simp[h]
end Go.Proofs.Tryz

namespace Go.Proofs.Tryz
open Go.Am
set_option maxRecDepth 4000
set_option maxHeartbeats 4000000
def codeT (o:Option (List Ins)):V:=.tup [.sl .no 10 ((o.getD []).map Ins.enc),.bool o.isSome]
theorem compR_in {s:Scp} {lat:Nat} {n:Nd} (h1:lat<s.lats.length) (h2:n.labelQ=true):compR s (lat:Nat) n=compF s lat n:=by
  rw[compR,if_pos ⟨by omega,by omega,h2⟩];rfl
end Go.Proofs.Tryz

namespace Go.Proofs.Tryz
open Go.Am
set_option maxRecDepth 4000
set_option maxHeartbeats 4000000
def ac22:AC:=.seq (.reg [⟨(some 3),.box 2 (.s 0),none⟩,⟨(some 5),.box 5 (.s 2),none⟩,⟨(some 6),.mv (.c (.sl .full 10 [])),none⟩,⟨(some 7),.mv (.c (.bool false)),none⟩])
 (.scope (.seq (.seq (.reg [xm 15 1,xB .lss 16 15 0,xm 17 16,xh 17 (xm 18 1),xh 17 (xf 0 19 3),xh 17 (xo 20 19),xh 17 (xL 21 20),xh 17 (xb .geq 22 18 21),⟨(some 23),.pick (.s 17) (.c (.bool true)) (.s 22),none⟩,xm 24 23,xh 24 (xl 5 25 5),xh 24 (xc 62 26 [.s 25]),⟨(some 27),.not (.s 26),(some (24,false))⟩,⟨(some 28),.pick (.s 24) (.c (.bool true)) (.s 27),none⟩])
 (.cond (.s 28) (.seq (.reg [⟨(some 6),.mv (.c (.sl .full 10 [])),none⟩,⟨(some 7),.mv (.c (.bool false)),none⟩])
 (.ret))
 (.skip)))
 (.seq (.reg [⟨(some 8),.mv (.c (.sl .full 10 [])),none⟩])
 (.seq (.reg [xl 5 29 5,⟨(some 30),.build [(.int .i64 0),(.int .i64 0),(.str []),(.sl .full 2 []),(.sl .full 5 []),(.int .i64 0)] [(0,5,(.s 29))],none⟩,⟨(some 31),.own (.new 6) [(.s 30)],none⟩,xm 9 31])
 (.seq (.skip)
 (.seq (.block 0 (.loop (.seq (.seq (.reg [xm 32 9,⟨(some 33),.own .len [(.s 32)],none⟩,xB .gtr 34 33 0])
 (.cond (.s 34) (.skip)
 (.exit 0)))
 (.block 1 (.seq (.reg [xm 35 9,⟨(some 36),.own .len [(.s 35)],none⟩,xB .sub 37 36 1,xm 10 37])
 (.seq (.reg [xm 38 9,xm 39 10,⟨(some 40),.own (.idx 6) [(.s 38),(.s 39)],none⟩,xl 6 41 40,⟨(some 11),.alloc [(.int .i64 0),(.int .i64 0),(.str []),(.sl .full 2 []),(.sl .full 5 []),(.int .i64 0)],none⟩,xs 6 11 41])
 (.seq (.reg [xi 12 3])
 (.seq (.seq (.reg [xf 0 42 11,xf 0 43 42,xo 44 43])
 (.block 2 (.seq (.seq (.reg [xB .eql 46 44 1,xm 45 46])
 (.cond (.s 45) (.skip)
 (.reg [xB .eql 47 44 7,xm 45 47])))
 (.cond (.s 45) (.seq (.reg [xl 2 49 3,xm 50 1,xf 0 51 11,xl 5 52 51,xc 63 53 [.s 49,.s 50,.s 52],xm 48 53,xe 54 48 0,xe 55 48 1,⟨(some 13),.alloc insZ,none⟩,xs 10 13 54,xm 14 55])
 (.seq (.seq (.reg [xm 56 14,⟨(some 57),.not (.s 56),none⟩])
 (.cond (.s 57) (.seq (.reg [⟨(some 6),.mv (.c (.sl .full 10 [])),none⟩,⟨(some 7),.mv (.c (.bool false)),none⟩])
 (.ret))
 (.skip)))
 (.seq (.reg [xm 58 8,xl 10 59 13,⟨(some 60),.bslice 10 [(.s 59)],none⟩,xa 10 61 58 60,xm 8 61])
 (.seq (.reg [xm 62 9,xm 63 10,⟨(some 64),.own (.slc 6 false true false) [(.s 62),(.s 63)],none⟩,xm 9 64])
 (.exit 1)))))
 (.seq (.reg [xB .eql 66 44 9,xm 65 66])
 (.cond (.s 65) (.reg [xi 12 4])
 (.skip)))))))
 (.seq (.seq (.reg [xf 5 67 11,xo 68 67,xf 0 69 11,xf 4 70 69,xo 71 70,xL 72 71,xb .lss 73 68 72])
 (.cond (.s 73) (.seq (.reg [xm 74 9,xm 75 10,⟨(some 76),.own (.idx 6) [(.s 74),(.s 75)],none⟩,xf 5 77 76,xo 78 77,xB .add 79 78 1,⟨(some 80),.own (.idx 6) [(.s 74),(.s 75)],none⟩,xf 5 81 80,xs 1 81 79])
 (.seq (.reg [xm 82 9,xf 0 83 11,xf 4 84 83,xo 85 84,xf 5 86 11,xo 87 86,xA 5 88 85 87,xl 5 89 88,⟨(some 90),.build [(.int .i64 0),(.int .i64 0),(.str []),(.sl .full 2 []),(.sl .full 5 []),(.int .i64 0)] [(0,5,(.s 89))],none⟩,⟨(some 91),.bslice 6 [(.s 90)],none⟩,⟨(some 92),.own (.app 6) [(.s 82),(.s 91)],none⟩,xm 9 92])
 (.exit 1)))
 (.skip)))
 (.seq (.reg [xm 93 8,xm 94 12,xf 0 95 11,xf 4 96 95,xo 97 96,xL 98 97,⟨(some 99),.build insZ [(0,1,(.s 94)),(1,1,(.s 98))],none⟩,⟨(some 100),.bslice 10 [(.s 99)],none⟩,xa 10 101 93 100,xm 8 101])
 (.reg [xm 102 9,xm 103 10,⟨(some 104),.own (.slc 6 false true false) [(.s 102),(.s 103)],none⟩,xm 9 104])))))))))))
 (.seq (.reg [xm 105 8,xm 6 105,⟨(some 7),.mv (.c (.bool true)),none⟩])
 (.ret))))))))
theorem fn22:IsFn prog 22 ac22 [.tmp 6,.tmp 7] 106:=⟨f22,⟨[33,36,40,64,76,80,92,104,100031],[],[]⟩,func22,by kernel_rfl,by kernel_rfl,by kernel_rfl,by kernel_rfl⟩
def frE (f:Nd × Nat):List V:=f.1.enc++[.int .i64 (f.2:Nat)]
section
variable {m:Nd} {d k:Nat} {x0 x1 x2 x3 x4 x5:V}
theorem fr_ex:frE (m,d)=[.int .i64 m.kind,.int .i64 m.pos,.str m.text,.sl .no 2 (m.names.map Word.enc),.sl .no 5 (m.kids.map Nd.enc),.int .i64 (d:Nat)]:=by rw[frE,Nd.enc_eq];rfl
theorem fr_len:(frE (m,d)).length=6:=by rw[fr_ex];rfl
theorem fr_one:oneL (frE (m,d))=true:=by rw[fr_ex];rfl
theorem fr_nol:nolL (frE (m,d))=true:=by rw[fr_ex];rfl
theorem fr_er:eraseL (frE (m,d))=frE (m,d):=by rw[fr_ex];rfl
theorem fr_lo:loL k (frE (m,d))=true:=by rw[fr_ex];rfl
theorem fr_ov:over [x0,x1,x2,x3,x4,x5] (frE (m,d))=frE (m,d):=by rw[fr_ex];rfl
theorem fr_k:ldC false 1 (frE (m,d))=some (.int .i64 m.kind):=by rw[fr_ex];rfl
theorem fr_ks:ldC false 1 ((frE (m,d)).drop 4)=some (.sl .no 5 (m.kids.map Nd.enc)):=by rw[fr_ex];rfl
theorem fr_d:ldC false 1 ((frE (m,d)).drop 5)=some (.int .i64 (d:Nat)):=by rw[fr_ex];rfl
theorem fr_n:takeN 5 (frE (m,d))=some m.enc:=takeN_app Nd.r_len
theorem fr_bld:over [x0,x1,x2,x3,x4,.int .i64 0] m.enc=frE (m,0):=by rw[fr_ex,Nd.enc_eq];rfl
theorem fr_has5:hasN 5 [x0,x1,x2,x3,x4,x5]=true:=rfl
theorem fr_st:setAt (frE (m,d)) 5 [.int .i64 (k:Nat)]=frE (m,k):=by rw[fr_ex,fr_ex];rfl
def fr_rec:=And.intro @fr_len <| And.intro @fr_one <| And.intro @fr_nol <| And.intro @fr_er <| And.intro @fr_lo <| And.intro @fr_ov <| And.intro @fr_k <| And.intro @fr_ks <| And.intro @fr_d <| And.intro @fr_n <| And.intro @fr_bld @fr_has5
end
structure CF (s:Scp) (lat:Nat) (n:Nd) (σ:Store) where
  fs:List (Nd × Nat)
  out:List Ins
  v:V
  tk:Tk
  st:Store
  fin:finF s lat fs out=compF s lat n
  all:∀f∈fs,f.1.labelQ=true∧f.1.wt≤n.wt∧f.1.cnt≤n.cnt
  mes:out.length+mesF fs≤2*n.cnt+1
  own:Own st 6 v (fs.reverse.map frE)
  sub:OwnS σ st v
  gr:Gr σ st tk out.length
def invCF (s:Scp) (lat:Nat) (n:Nd) (out:List Ins) (v:V) (tk:Tk) (σ:Store):St :=
  ⟨[.any,.int .i64 (lat:Nat),.any,.ptr (.loc 0) 0,.any,.ptr (.loc 1) 0,.any,.any,.sl tk 10 (out.map Ins.enc),v]++List.replicate 96 .any,[s.enc,n.enc],σ⟩
theorem own_lo {σ:Store} {k n:Nat} {v:V} {rows:List (List V)} (h:Own σ k v rows):v.lo n=true:=by obtain⟨a,cap,rfl,_⟩:=h;rfl
theorem own_boxes {σ σ' : Store} {k:Nat} {v:V} {rows:List (List V)} (h:Own σ k v rows) (e:σ'.box=σ.box):Own σ' k v rows:=h.frame fun b cs _ hc=>by rw[e];exact hc
theorem gr_tips {σ0 σ σ' : Store} {tk:Tk} {n:Nat} (h:Gr σ0 σ tk n) (hs:σ0.sub σ') (e:σ'.tip=σ.tip):Gr σ0 σ' tk n:=⟨hs,h.tk.imp id fun⟨τ,a,b,c⟩=>⟨τ,a,by rw[e];exact b,c⟩⟩
theorem mes_len:∀(fs:List (Nd × Nat)),fs.length≤mesF fs
  | []=>Nat.le_refl _
  | f::fs=>by have:=mes_len fs;simp only[mesF,List.length_cons];omega
def z27_:=And.intro @am <| And.intro @amc <| And.intro @ams <| And.intro @Nd.rec_ <| And.intro @Scp.rec_ @Ins.rec_
theorem ccompile_calls (s:Scp) (lat:Int) (n:Nd) {σ:Store} (hg:TZ σ) (hs:s.ok) (hw:n.wt≤big) (hc:n.cnt≤100000) :
    PCalls prog 22 [.agg s.enc,.int .i64 lat,.agg n.enc] σ fun v σ' => v=codeT (compR s lat n)∧σ' = σ:=by
  refine fn22.calls ?_;simp only[slots,ac22,z27_,Nat.reduceAdd];have no:∀(u:List V) (l:List (List V)) (σ1:Store),compR s lat n=none→σ.sub σ1→RetK (fun v σ' => v=codeT (compR s lat n)∧σ' = σ) ⟨u,l,σ1⟩ (.tup [.sl .full 10 [],.bool false]):=fun u l σ1 h h' => by
    rw[h];exact retK_intro rfl h' ⟨rfl,rfl⟩
  by_cases hn:lat<0
  · simp only[am,amc,decide_eq_true hn];exact no _ _ _ (by rw[compR,if_neg (by omega)]) (Store.sub_refl _)
  · obtain⟨lat,rfl⟩:∃m:Nat,lat=m:=⟨lat.toNat,by omega⟩;simp only[am,List.length_map,Scp.rec_,List.length_map,decide_eq_false hn]
    by_cases hlat:s.lats.length≤lat
    · simp only[am,amc,decide_eq_true (show (s.lats.length:Int)≤(lat:Nat) by omega)];exact no _ _ _ (by rw[compR,if_neg (by omega)]) (Store.sub_refl _)
    · have hlt:lat<s.lats.length:=by omega
      simp only[am,Nd.rec_,decide_eq_false (show ¬(s.lats.length:Int)≤(lat:Nat) by omega)];refine cl (label_is_calls _ n σ (Nat.le_refl _) hw) ?_;cases hl:n.labelQ with
      | false =>
        simp only[am,amc];exact no _ _ _ (by rw[compR,hl,if_neg (by simp)]) (Store.sub_refl _)
      | true =>
        have hR:=compR_in hlt hl;simp only[am,amo,Nd.rec_,fr_rec];refine Own.mk1 (c:=frE (n,0)) (by simp[keepV,V.cells,fr_len,fr_nol,fr_one,V.wd]) fr_len fr_nol fun v σ1 hO hS=>?_
        simp only[am];obtain⟨I,hI⟩:∃I:CF s lat n σ→St,∀p,I p=invCF s lat n p.out p.v p.tk p.st:=⟨_,fun _=>rfl⟩;refine vc_loop I (fun p=>mesF p.fs) ?_ ?_
        · refine Upd.enter (I:=I) ⟨[(n,0)],[],v,.full,σ1,by simp only[finF,restF_zero];cases compF s lat n<;>rfl,by simp[hl],?_,by simpa using hO,hS,⟨hS.sub,.inl rfl⟩⟩ ?_ ?_ ?_
          · have:=Nd.cnt_pos n
            simp only[mesF,List.drop_zero,List.length_nil];omega
          all_goals simp[hI,invCF,List.replicate,am,lle_self]
        · rintro⟨fs,out,v,tk,σ1,hfin,hall,hmes,hO,hS,hG⟩;simp only[hI,invCF,List.replicate,am,amo];have hml:=mes_len fs;refine hO.len ?_;cases fs with
          | nil =>
            have e:compF s lat n=some out:=by rw[←hfin];rfl
            simp only[am,amc,List.reverse_nil,List.map_nil,List.length_nil,show decide ((0:Int)<((0:Nat):Int))=false from rfl];exact retK_intro rfl hG.sub ⟨by rw[hR,e];rfl,rfl⟩
          | cons f fs =>
            obtain⟨m,d⟩:=f;obtain⟨hml1,hmw,hmc⟩:=hall (m,d) (by simp);simp only at hml1 hmw hmc;have hrl:(List.map frE ((m,d)::fs).reverse).length=fs.length+1:=by simp
            have hat:(List.map frE ((m,d)::fs).reverse)[fs.length]?=some (frE (m,d)):=by simp
            have htake:(List.map frE ((m,d)::fs).reverse).take fs.length=List.map frE fs.reverse:=by simp
            have hlb:fs.length+1≤2*n.cnt+1:=by simp only[List.length_cons] at hml;omega
            have hgs:TZ σ1:=hG.sub.2.2 _ _ hg;simp only[am,amo,hrl,show decide ((0:Int)<((fs.length+1:Nat):Int))=true from decide_eq_true (by omega)];refine hO.len ?_;simp only[am,amo,hrl];rw[wrap_i64 (by omega) (by omega),show ((fs.length+1:Nat):Int) - 1=(fs.length:Nat) by omega];refine hO.idx (by omega) (j:=(fs.length:Nat)) (c:=frE (m,d)) (by rw[Int.toNat_natCast];exact hat) fun b cs rest hb hcs hdr=>?_
            rw[Int.toNat_natCast] at hdr ⊢;have hld:takeN 6 (cs.drop (fs.length*6))=some (frE (m,d)):=by rw[hdr];exact takeN_app fr_len
            simp only[am,Nat.reduceAdd,hcs,hld,fr_rec]
            by_cases hk:m.kind=1∨m.kind=7
            · have hsel:(decide (m.kind=1)=true)∨(decide (m.kind=1)=false∧decide (m.kind=7)=true):=by
                by_cases h1:m.kind=1
                · exact .inl (decide_eq_true h1)
                · exact .inr ⟨decide_eq_false h1,decide_eq_true (by simpa [h1] using hk)⟩
              have hlf:=restF_leaf (s:=s) (lat:=lat) (d:=d) (fs:=fs) (out:=out) hk;rw[hlf] at hfin
              rcases hsel with e1 | ⟨e1,e2⟩
              case' inl=>simp only[am,Nd.rec_,Scp.rec_,e1,fr_rec]
              case' inr=>simp only[am,Nd.rec_,Scp.rec_,e1,e2,fr_rec]
              all_goals
                refine(leaf_calls14 s lat m hgs hs hlt (by omega) (by omega) hml1 hk).mono ?_;rintro v' σ' ⟨⟨i,rfl,hi⟩,rfl⟩;simp only[am,Nat.reduceAdd,Ins.rec_];cases hleaf:leafF s lat m with
                | none =>
                  rw[hleaf] at hfin;simp only[am,amc,Option.isSome_none];exact no _ _ _ (by rw[hR,←hfin]) hG.sub
                | some j =>
                  obtain rfl:=hi j hleaf;rw[hleaf] at hfin;simp only[am,Ins.rec_,Option.isSome_some];refine Gr.app (by simpa using hG) (by simp only[mesF] at hmes;simp[big];omega) fun tk' σ2 hG' hB _=>?_
                  simp only[am,amo];refine(own_boxes hO hB).take (m:=fs.length) (by omega) (Int.toNat_natCast _) (by rw[hrl];omega) fun v2 hO2 hb2=>?_
                  rw[htake] at hO2;simp only[am,amc,Nat.reduceEqDiff,reduceCtorEq];refine Upd.againD (I:=I) ⟨fs,out++[i],v2,tk',σ2,hfin,fun f hf=>hall f (List.mem_cons_of_mem _ hf),by simp only[mesF] at hmes;rw[List.length_append,List.length_singleton];omega,hO2,⟨hG'.sub,fun b hb=>hS.new b (by rw[←hb2];exact hb)⟩,by simpa using hG'⟩ (by simp only[mesF];omega) ?_ ?_ ?_ ?_ ?_
                  all_goals simp[hI,invCF,List.replicate,am,lle_self,loL,loLL,V.lo,Scp.r_lo,Nd.r_lo,own_lo hO2]
            · have e1:decide (m.kind=1)=false:=decide_eq_false fun h=>hk (.inl h)
              have e7:decide (m.kind=7)=false:=decide_eq_false fun h=>hk (.inr h)
              simp only[am,e1,e7];have hkids:=label_kids hml1 hk;have hkc:=cnt_kids m
              by_cases h9:m.kind=9
              case' pos =>
                have eo:opF m=⟨4,m.kids.length,.zero⟩:=by rw[opF,if_pos h9]
                simp only[am,List.length_map,List.length_map,decide_eq_true h9,fr_rec]
              case' neg =>
                have eo:opF m=⟨3,m.kids.length,.zero⟩:=by rw[opF,if_neg h9]
                simp only[am,List.length_map,List.length_map,decide_eq_false h9,fr_rec]
              all_goals
                by_cases hd:d<m.kids.length
                · have hdr5:cs.drop (fs.length*6+5)=(frE (m,d)).drop 5++rest:=by
                    rw[←List.drop_drop,hdr,List.drop_append_of_le_length (by rw[fr_len];omega)]
                  have h5:(frE (m,d)).drop 5=[.int .i64 (d:Nat)]:=by rw[fr_ex];rfl
                  have hld5:ldC false 1 (cs.drop (fs.length*6+5))=some (.int .i64 (d:Nat)):=by rw[hdr5,h5];rfl
                  have hhas5:hasN 1 (cs.drop (fs.length*6+5))=true:=by rw[hdr5,h5];rfl
                  obtain⟨hO2,hF2⟩:=hO.put (off:=5) (x:=[.int .i64 ((d+1:Nat):Int)]) hat hb hcs (by simp);have hset:(List.map frE ((m,d)::fs).reverse).set fs.length (setAt (frE (m,d)) 5 [.int .i64 ((d+1:Nat):Int)])=List.map frE ((m,d+1)::fs).reverse:=by
                    rw[fr_st];simp
                  rw[hset] at hO2;have hmm:m.kids[d]∈m.kids:=List.getElem_mem hd;have hkw:=kid_wt hmm;have hkc2:=cnt_kid hmm;simp only[am,amo,dlt hd];refine hO.idx (by omega) (j:=(fs.length:Nat)) (c:=frE (m,d)) (by rw[Int.toNat_natCast];exact hat) fun b2 cs2 rest2 hb2 hcs2 _=>?_
                  obtain rfl:b=b2:=by rw[hb] at hb2;exact Option.some.inj hb2
                  rw[Int.toNat_natCast];simp only[am,amo,hcs,hld5,winc hd (by omega)];refine hO.idx (by omega) (j:=(fs.length:Nat)) (c:=frE (m,d)) (by rw[Int.toNat_natCast];exact hat) fun b2 cs2 rest2 hb2 hcs2 _=>?_
                  obtain rfl:b=b2:=by rw[hb] at hb2;exact Option.some.inj hb2
                  rw[Int.toNat_natCast];simp only[am,hcs,hhas5,fr_rec];refine idxL_intro (by omega) (nencs_at (List.getElem?_eq_getElem hd)) ?_;simp only[am,amo,Nd.rec_,fr_rec];refine hO2.app (m:=[frE (m.kids[d],0)]) (by simp[fr_len]) (by simp[fr_nol]) (by simp[big];omega) fun v3 σ3 hO3 hF3=>?_
                  have hS3:=(hS.step hF2).step hF3;have hG3:=gr_tips hG hS3.sub (hF3.tip.trans hF2.tip);simp only[am,amc,reduceCtorEq];refine Upd.againD (I:=I) ⟨(m.kids[d],0)::(m,d+1)::fs,out,v3,tk,σ3,by rw[←restF_kid hk hd];exact hfin,?_,?_,by simpa using hO3,hS3,hG3⟩ (mes_kid hd) ?_ ?_ ?_ ?_ ?_
                  · intro f hf
                    rcases List.mem_cons.1 hf with rfl | hf
                    · exact⟨hkids _ hmm,by simp only;omega,by simp only;omega⟩
                    · rcases List.mem_cons.1 hf with rfl | hf
                      · exact⟨hml1,hmw,hmc⟩
                      · exact hall f (List.mem_cons_of_mem _ hf)
                  · have:=mes_kid (fs:=fs) hd;omega
                  all_goals simp[hI,invCF,List.replicate,am,lle_self,loL,loLL,V.lo,Scp.r_lo,Nd.r_lo,own_lo hO3]
                · simp only[am,List.length_map,Ins.rec_,List.length_map,decide_eq_false (show ¬(d:Int)<(m.kids.length:Nat) by omega),fr_rec];refine Gr.app (by simpa using hG) (by simp only[mesF] at hmes;simp[big];omega) fun tk' σ2 hG' hB _=>?_
                  simp only[am,amo];refine(own_boxes hO hB).take (m:=fs.length) (by omega) (Int.toNat_natCast _) (by rw[hrl];omega) fun v2 hO2 hb2=>?_
                  rw[htake] at hO2;simp only[am];refine Upd.againD (I:=I) ⟨fs,out++[opF m],v2,tk',σ2,by rw[←restF_end hk (Nat.le_of_not_lt hd)];exact hfin,fun f hf=>hall f (List.mem_cons_of_mem _ hf),by simp only[mesF] at hmes;rw[List.length_append,List.length_singleton];omega,hO2,⟨hG'.sub,fun b hb=>hS.new b (by rw[←hb2];exact hb)⟩,by simpa using hG'⟩ (by simp only[mesF];omega) ?_ ?_ ?_ ?_ ?_
                  all_goals simp[hI,invCF,List.replicate,am,lle_self,loL,loLL,V.lo,Scp.r_lo,Nd.r_lo,eo,Ins.zero,own_lo hO2]
end Go.Proofs.Tryz

namespace Go.Proofs.Tryz
open Go.Am
set_option maxRecDepth 4000
set_option maxHeartbeats 4000000
def ac6:AC:=.seq (.reg [⟨(some 1),.box 2 (.s 0),none⟩,⟨(some 2),.mv (.c (.bool false)),none⟩])
 (.seq (.seq (.reg [xf 0 7 1,xo 8 7,xL 9 8,xB .gtr 10 9 20,xm 11 10,xh 11 (xf 1 12 1),xh 11 (xo 13 12),xh 11 (xL 14 13),xh 11 (xB .gtr 15 14 80),⟨(some 16),.pick (.s 11) (.c (.bool true)) (.s 15),none⟩])
 (.cond (.s 16) (.seq (.reg [⟨(some 2),.mv (.c (.bool true)),none⟩])
 (.ret))
 (.skip)))
 (.seq (.seq (.reg [xf 0 17 1,xo 18 17,xL 19 18,xi 20 0])
 (.block 0 (.loop (.seq (.reg [xb .lss 21 20 19])
 (.seq (.cond (.s 21) (.skip)
 (.exit 0))
 (.seq (.block 1 (.seq (.reg [xA 3 22 18 20,xl 3 23 22,⟨(some 4),.alloc [(.str []),(.bool false),(.sl .full 67 [])],none⟩,xs 3 4 23])
 (.seq (.reg [xf 1 24 4,xl 2 25 24,xc 18 26 [.s 25],xm 27 26,xh 27 (xf 0 28 4),xh 27 (xo 29 28),xh 27 (xT 30 29),xh 27 (xB .gtr 31 30 40),⟨(some 32),.pick (.s 27) (.c (.bool true)) (.s 31),none⟩])
 (.cond (.s 32) (.seq (.reg [⟨(some 2),.mv (.c (.bool true)),none⟩])
 (.ret))
 (.skip)))))
 (.reg [xB .add 33 20 1,xm 20 33])))))))
 (.seq (.seq (.reg [xf 1 34 1,xo 35 34,xL 36 35,xi 37 0])
 (.block 2 (.loop (.seq (.reg [xb .lss 38 37 36])
 (.seq (.cond (.s 38) (.skip)
 (.exit 2))
 (.seq (.block 3 (.seq (.reg [xA 3 39 35 37,xl 3 40 39,⟨(some 6),.alloc [(.str []),(.int .i64 0),(.int .i64 0)],none⟩,xs 3 6 40])
 (.seq (.reg [xf 0 41 6,xo 42 41,xT 43 42,xB .gtr 44 43 40])
 (.cond (.s 44) (.seq (.reg [⟨(some 2),.mv (.c (.bool true)),none⟩])
 (.ret))
 (.skip)))))
 (.reg [xB .add 45 37 1,xm 37 45])))))))
 (.seq (.reg [⟨(some 2),.mv (.c (.bool false)),none⟩])
 (.ret)))))
theorem fn6:IsFn prog 6 ac6 [.tmp 2] 46:=⟨f6,⟨[],[],[]⟩,func6,by kernel_rfl,by kernel_rfl,by kernel_rfl,by kernel_rfl⟩
def ac18:AC:=.seq (.reg [⟨(some 1),.box 2 (.s 0),none⟩,⟨(some 2),.mv (.c (.bool false)),none⟩])
 (.seq (.seq (.reg [xf 1 6 1,xo 7 6,xL 8 7,xB .gtr 9 8 12])
 (.cond (.s 9) (.seq (.reg [⟨(some 2),.mv (.c (.bool true)),none⟩])
 (.ret))
 (.skip)))
 (.seq (.seq (.reg [xi 3 0])
 (.block 0 (.loop (.seq (.seq (.reg [xm 10 3,xf 1 11 1,xo 12 11,xL 13 12,xb .lss 14 10 13])
 (.cond (.s 14) (.skip)
 (.exit 0)))
 (.seq (.block 1 (.seq (.reg [xf 1 17 1,xo 18 17,xm 19 3,xA 67 20 18 19,xl 67 21 20,⟨(some 4),.alloc facZ,none⟩,xs 67 4 21])
 (.seq (.seq (.reg [xf 1 22 4,xo 23 22,xL 24 23,xB .gtr 25 24 70])
 (.cond (.s 25) (.seq (.reg [⟨(some 2),.mv (.c (.bool true)),none⟩])
 (.ret))
 (.skip)))
 (.seq (.reg [xi 5 0])
 (.block 2 (.loop (.seq (.seq (.reg [xm 26 5,xf 1 27 4,xo 28 27,xL 29 28,xb .lss 30 26 29])
 (.cond (.s 30) (.skip)
 (.exit 2)))
 (.seq (.block 3 (.seq (.reg [xf 1 33 4,xo 34 33,xm 35 5,xA 1 36 34 35,xo 37 36,xT 38 37,xB .gtr 39 38 40])
 (.cond (.s 39) (.seq (.reg [⟨(some 2),.mv (.c (.bool true)),none⟩])
 (.ret))
 (.skip))))
 (.reg [xm 31 5,xB .add 32 31 1,xm 5 32])))))))))
 (.reg [xm 15 3,xB .add 16 15 1,xm 3 16]))))))
 (.seq (.reg [⟨(some 2),.mv (.c (.bool false)),none⟩])
 (.ret))))
theorem fn18:IsFn prog 18 ac18 [.tmp 2] 40:=⟨f18,⟨[],[],[]⟩,func18,by kernel_rfl,by kernel_rfl,by kernel_rfl,by kernel_rfl⟩
def facBig (f:Fct):Bool:=decide (70<f.names.length)||f.names.any fun t=>decide (40<t.length)
theorem big7_eq (s:Shp):big7 s=(decide (12<s.facs.length)||s.facs.any facBig):=rfl
theorem any_at {α:Type} {l:List α} {p:α→Bool} {i:Nat} (hi:i<l.length) (h:p l[i]=true):l.any p=true:=List.any_eq_true.2 ⟨_,List.getElem_mem hi,h⟩
theorem any_no {α:Type} {l:List α} {p:α→Bool} (h:∀k∈l,p k=false):l.any p=false:=by
  rw[List.any_eq_false];exact fun k hk=>by rw[h k hk];simp
def z28_:=And.intro @am <| And.intro @aml <| And.intro @Fct.rec_ @sCells_len
theorem big7_calls (s:Shp) (σ:Store):PCalls prog 18 [.agg s.enc] σ fun v σ' => v = .bool (big7 s)∧σ' = σ:=by
  refine fn18.calls ?_;simp only[slots,ac18,am,ams,Shp.rec_,List.length_map];rw[big7_eq]
  by_cases h1:12<s.facs.length
  · simp only[am,decide_eq_true (show (12:Int)<s.facs.length by omega)];refine retS ?_;simp[V.erase,h1]
  · simp only[am,decide_eq_false (show ¬(12:Int)<s.facs.length by omega)];rw[decide_eq_false h1,Bool.false_or];obtain⟨F,hF⟩:∃F:Nat→Unit→St,∀i x,F i x=⟨[.any,.ptr (.loc 0) 0,.any,.int .i64 (i:Nat)]++List.replicate 36 .any,[s.enc],σ⟩:=⟨_,fun _ _=>rfl⟩;obtain⟨JF,hJF⟩:∃JF:Nat→Unit→Prop,∀i x,JF i x=(∀f∈s.facs.take i,facBig f=false):=⟨_,fun _ _=>rfl⟩;refine vc_count (s.facs.length) F JF _ hJF ?_ ?_ ?_
    · refine ent (()) ?_ ?_ ?_ ?_
      · exact Eq.mpr (hJF _ _) (by simp)
      all_goals simp[hF,List.replicate,am,lle_self]
    · rintro i x hi hJ;simp only[hF,List.replicate,am,dlt hi,Shp.rec_,List.length_map];refine idxL_intro (by omega) (facs_at hi) ?_;simp only[am,Fct.rec_,sCells_len]
      by_cases h2:70<s.facs[i].names.length
      · simp only[am,aml,decide_eq_true (show (70:Int)<s.facs[i].names.length by omega)];refine retS ?_;simp[V.erase,any_at hi (show facBig s.facs[i]=true by rw[facBig,decide_eq_true h2];rfl)]
      · simp only[am,decide_eq_false (show ¬(70:Int)<s.facs[i].names.length by omega)];obtain⟨F2,hF2⟩:∃F2:Nat→Unit→St,∀j y,F2 j y=⟨[.any,.ptr (.loc 0) 0,.any,.int .i64 (i:Nat),.ptr (.loc 1) 0,.int .i64 (j:Nat)]++List.replicate 34 .any,[s.enc,s.facs[i].enc],σ⟩:=⟨_,fun _ _=>rfl⟩;obtain⟨JF2,hJF2⟩:∃JF2:Nat→Unit→Prop,∀j y,JF2 j y=(∀t∈s.facs[i].names.take j,decide (40<t.length)=false):=⟨_,fun _ _=>rfl⟩;refine vc_count (s.facs[i].names.length) F2 JF2 _ hJF2 ?_ ?_ ?_
        · refine ent (()) ?_ ?_ ?_ ?_
          · exact Eq.mpr (hJF2 _ _) (by simp)
          all_goals simp[hF2,List.replicate,am,lle_self]
        · rintro j y hj hJ2;simp only[hF2,List.replicate,am,dlt hj,Fct.rec_,sCells_len];refine idxL_intro (by omega) (sCells_at hj) ?_;simp only[am,getD_at hj]
          by_cases h3:40<s.facs[i].names[j].length
          · simp only[am,aml,decide_eq_true (show (40:Int)<s.facs[i].names[j].length by omega)];refine retS ?_;simp[V.erase,any_at hi (show facBig s.facs[i]=true by rw[facBig,any_at hj (decide_eq_true h3)];simp)]
          · simp only[am,aml,decide_eq_false (show ¬(40:Int)<s.facs[i].names[j].length by omega),winc hj (by omega)];refine nxt (()) hj ?_ ?_ ?_ ?_
            · exact Eq.mpr (hJF2 _ _) (take_all hJ2 hj (decide_eq_false h3))
            all_goals simp[hF2,List.replicate,am,lle_self]
        · rintro y hJ2;rw[List.take_length] at hJ2;simp only[hF2,List.replicate,z28_,dnl,Nat.reduceEqDiff,reduceCtorEq];simp only[winc hi (by omega)];refine nxtD (()) hi ?_ ?_ ?_ ?_ ?_ ?_
          · exact Eq.mpr (hJF _ _) (take_all hJ hi (show facBig s.facs[i]=false by rw[facBig,decide_eq_false h2,any_no hJ2];rfl))
          all_goals simp[hF,List.replicate,am,lle_self,loL,loLL,V.lo,Shp.r_lo]
    · rintro x hJ;rw[List.take_length] at hJ;simp only[hF,List.replicate,am,aml,dnl,aml,Shp.rec_,List.length_map];refine retS ?_;simp[V.erase,any_no hJ]
section
variable {l:Ltc} {v:Vrb} {a b c:V} {m:Nat}
theorem Ltc.q_tk:takeN 3 l.enc=some l.enc:=rfl
theorem Ltc.q_ov:over [a,b,c] l.enc=l.enc:=rfl
theorem Ltc.q_len:l.enc.length=3:=rfl
theorem Ltc.q_one:oneL l.enc=true:=rfl
theorem Vrb.q_len:v.enc.length=3:=rfl
theorem Vrb.q_one:oneL v.enc=true:=rfl
theorem Vrb.q_tk:takeN 3 v.enc=some v.enc:=rfl
theorem Vrb.q_ov:over [a,b,c] v.enc=v.enc:=rfl
end
def ltcBig (l:Ltc):Bool:=big7 l.shape||decide (40<l.name.length)
def vrbBig (v:Vrb):Bool:=decide (40<v.name.length)
theorem big13_eq (s:Scp):big13 s=(decide (20<s.lats.length)||decide (80<s.vars.length)||s.lats.any ltcBig||s.vars.any vrbBig):=rfl
theorem big13_calls (s:Scp) (σ:Store):PCalls prog 6 [.agg s.enc] σ fun v σ' => v = .bool (big13 s)∧σ' = σ:=by
  refine fn6.calls ?_;simp only[slots,ac6,am,ams,Scp.rec_,List.length_map,Scp.rec_,List.length_map];rw[big13_eq]
  by_cases h1:20<s.lats.length
  · simp only[am,decide_eq_true (show (20:Int)<s.lats.length by omega)];refine retS ?_;simp[V.erase,h1]
  · simp only[am,List.length_map,Scp.rec_,List.length_map,Scp.rec_,List.length_map,decide_eq_false (show ¬(20:Int)<s.lats.length by omega)]
    by_cases h2:80<s.vars.length
    · simp only[am,decide_eq_true (show (80:Int)<s.vars.length by omega)];refine retS ?_;simp[V.erase,h2]
    · simp only[am,List.length_map,Scp.rec_,List.length_map,Scp.rec_,List.length_map,decide_eq_false (show ¬(80:Int)<s.vars.length by omega)];rw[decide_eq_false h1,decide_eq_false h2,Bool.or_self,Bool.false_or];obtain⟨F,hF⟩:∃F:Nat→Unit→St,∀i x,F i x=⟨[.any,.ptr (.loc 0) 0,.any,.any,.any,.any,.any,.any,.any,.any,.any,.any,.any,.any,.any,.any,.any,.any,.sl .no 3 (s.lats.map Ltc.enc),.int .i64 (s.lats.length:Nat),.int .i64 (i:Nat)]++List.replicate 25 .any,[s.enc],σ⟩:=⟨_,fun _ _=>rfl⟩;obtain⟨JF,hJF⟩:∃JF:Nat→Unit→Prop,∀i x,JF i x=(∀f∈s.lats.take i,ltcBig f=false):=⟨_,fun _ _=>rfl⟩;refine vc_count (s.lats.length) F JF _ hJF ?_ ?_ ?_
      · refine ent (()) ?_ ?_ ?_ ?_
        · exact Eq.mpr (hJF _ _) (by simp)
        all_goals simp[hF,List.replicate,am,lle_self]
      · rintro i x hi hJ;simp only[hF,List.replicate,am,dlt hi];refine idxL_intro (by omega) (lats_at hi) ?_;simp only[am,Shp.rec_,Scp.rec_,Shp.rec_,Scp.rec_,Ltc.q_len,Ltc.q_one,Ltc.q_tk,Ltc.q_ov];refine cl (big7_calls s.lats[i].shape σ) ?_;cases h3:big7 s.lats[i].shape with
        | true =>
          simp only[am,aml,aml];refine retS ?_;simp[V.erase,any_at hi (show ltcBig s.lats[i]=true by rw[ltcBig,h3];rfl)]
        | false =>
          simp only[am,Scp.rec_,Scp.rec_]
          by_cases h4:40<s.lats[i].name.length
          · simp only[am,aml,aml,decide_eq_true (show (40:Int)<s.lats[i].name.length by omega)];refine retS ?_;simp[V.erase,any_at hi (show ltcBig s.lats[i]=true by rw[ltcBig,decide_eq_true h4,Bool.or_true])]
          · simp only[am,aml,aml,decide_eq_false (show ¬(40:Int)<s.lats[i].name.length by omega),winc hi (by omega)];refine nxtD (()) hi ?_ ?_ ?_ ?_ ?_ ?_
            · exact Eq.mpr (hJF _ _) (take_all hJ hi (show ltcBig s.lats[i]=false by rw[ltcBig,decide_eq_false h4,h3];rfl))
            all_goals simp[hF,List.replicate,am,lle_self,loL,loLL,V.lo,Scp.r_lo]
      · rintro x hJ;rw[List.take_length] at hJ;simp only[hF,List.replicate,am,aml,dnl,aml,Scp.rec_,List.length_map,aml,Scp.rec_,List.length_map];obtain⟨F2,hF2⟩:∃F2:Nat→Unit→St,∀j y,F2 j y=⟨[.any,.ptr (.loc 0) 0,.any,.any,.any,.any,.any,.any,.any,.any,.any,.any,.any,.any,.any,.any,.any,.any,.any,.any,.any,.any,.any,.any,.any,.any,.any,.any,.any,.any,.any,.any,.any,.any,.any,.sl .no 3 (s.vars.map Vrb.enc),.int .i64 (s.vars.length:Nat),.int .i64 (j:Nat)]++List.replicate 8 .any,[s.enc],σ⟩:=⟨_,fun _ _=>rfl⟩;obtain⟨JF2,hJF2⟩:∃JF2:Nat→Unit→Prop,∀j y,JF2 j y=(∀f∈s.vars.take j,vrbBig f=false):=⟨_,fun _ _=>rfl⟩;refine vc_count (s.vars.length) F2 JF2 _ hJF2 ?_ ?_ ?_
        · refine ent (()) ?_ ?_ ?_ ?_
          · exact Eq.mpr (hJF2 _ _) (by simp)
          all_goals simp[hF2,List.replicate,am,lle_self]
        · rintro j y hj hJ2;simp only[hF2,List.replicate,am,dlt hj];refine idxL_intro (by omega) (vars_at hj) ?_;simp only[am,Scp.rec_,Scp.rec_,Vrb.q_len,Vrb.q_one,Vrb.q_tk,Vrb.q_ov]
          by_cases h4:40<s.vars[j].name.length
          · simp only[am,aml,aml,decide_eq_true (show (40:Int)<s.vars[j].name.length by omega)];refine retS ?_;simp[V.erase,any_at hj (show vrbBig s.vars[j]=true from decide_eq_true h4)]
          · simp only[am,aml,aml,decide_eq_false (show ¬(40:Int)<s.vars[j].name.length by omega),winc hj (by omega)];refine nxtD (()) hj ?_ ?_ ?_ ?_ ?_ ?_
            · exact Eq.mpr (hJF2 _ _) (take_all hJ2 hj (show vrbBig s.vars[j]=false from decide_eq_false h4))
            all_goals simp[hF2,List.replicate,am,lle_self,loL,loLL,V.lo,Scp.r_lo]
        · rintro y hJ2;rw[List.take_length] at hJ2;simp only[hF2,List.replicate,am,aml,dnl,aml,aml];refine retS ?_;simp[V.erase,any_no hJ,any_no hJ2]
end Go.Proofs.Tryz

namespace Go.Proofs.Tryz
open Go.Am
set_option maxRecDepth 4000
set_option maxHeartbeats 4000000
def ac51:AC:=.seq (.reg [xm 12 0,xk 13 12,xf 1 14 13,xl 2 15 14,xm 16 1,xc 21 17 [.s 15,.s 16],xm 11 17,xe 18 11 0,xe 19 11 1,xm 8 18,xm 9 19])
 (.seq (.reg [xm 20 0,xk 21 20,xf 0 22 21,xm 23 8,xB .lss 24 23 0,xm 25 24,xg 25 (xm 26 9),xg 25 (xB .lss 27 26 0),⟨(some 28),.pick (.s 25) (.s 27) (.c (.bool false)),none⟩,xm 29 2,xc 54 30 [.s 22,.s 28,.c (.int .i64 3),.s 29]])
 (.seq (.seq (.reg [xm 31 9,xB .lss 32 31 0])
 (.cond (.s 32) (.seq (.reg [xm 33 0,xk 34 33,xf 0 35 34,xm 36 8,xB .geq 37 36 0,xm 38 2,xc 54 39 [.s 35,.s 37,.c (.int .i64 4),.s 38]])
 (.ret))
 (.skip)))
 (.seq (.reg [xm 40 0,xk 41 40,xf 1 42 41,xf 1 43 42,xo 44 43,xm 45 9,xA 3 46 44 45,xl 3 47 46,⟨(some 10),.alloc [(.str []),(.int .i64 0),(.int .i64 0)],none⟩,xs 3 10 47])
 (.draw [(xm 48 0,[]),(xk 49 48,[]),(xf 0 50 49,[]),(xf 1 51 10,[]),(xo 52 51,[]),(xm 53 3,[]),(xb .neq 54 52 53,[]),(xm 55 54,[]),(xh 55 (xm 56 0),[]),(xh 55 (xk 57 56),[]),(xh 55 (xf 3 58 57),[]),(xh 55 (xo 59 58),[]),(xh 55 (xB .geq 60 59 0),[]),(xh 55 (xm 61 60),[]),(xg 61 (xf 2 62 10),[]),(xg 61 (xo 63 62),[]),(xg 61 (xm 64 0),[]),(xg 61 (xk 65 64),[]),(xg 61 (xf 3 66 65),[]),(xg 61 (xo 67 66),[]),(xg 61 (xb .neq 68 63 67),[]),(⟨(some 69),.pick (.s 61) (.s 68) (.c (.bool false)),(some (55,false))⟩,[]),(⟨(some 70),.pick (.s 55) (.c (.bool true)) (.s 69),none⟩,[]),(xm 71 2,[]),(xc 54 72 [.s 50,.s 70,.c (.int .i64 4),.s 71],[])]))))
theorem fn51:IsFn prog 51 ac51 [] 73:=⟨f51,⟨[],[],[]⟩,func51,by kernel_rfl,by kernel_rfl,by kernel_rfl,by kernel_rfl⟩
def ac52:AC:=.seq (.reg [⟨(some 3),.box 2 (.s 1),none⟩])
 (.seq (.draw [(xm 7 0,[]),(xk 8 7,[]),(xf 1 9 8,[]),(xl 2 10 9,[]),(xf 0 11 3,[]),(xo 12 11,[]),(xc 21 13 [.s 10,.s 12],[]),(xm 6 13,[]),(xe 14 6 0,[]),(xe 15 6 1,[]),(xm 4 14,[]),(xm 5 15,[])])
 (.seq (.reg [xm 16 0,xm 17 4,xk 18 16,xf 3 19 18,xs 1 19 17])
 (.seq (.draw [(xm 20 0,[]),(xk 21 20,[]),(xf 0 22 21,[]),(xm 23 4,[]),(xB .lss 24 23 0,[]),(xm 25 24,[]),(xg 25 (xm 26 5),[]),(xg 25 (xB .lss 27 26 0),[]),(⟨(some 28),.pick (.s 25) (.s 27) (.c (.bool false)),none⟩,[]),(xf 1 29 3,[]),(xo 30 29,[]),(xc 54 31 [.s 22,.s 28,.c (.int .i64 3),.s 30],[])])
 (.draw [(xm 32 0,[]),(xk 33 32,[]),(xf 0 34 33,[]),(xm 35 4,[]),(xB .lss 36 35 0,[]),(xm 37 36,[]),(xg 37 (xm 38 5),[]),(xg 37 (xB .geq 39 38 0),[]),(⟨(some 40),.pick (.s 37) (.s 39) (.c (.bool false)),none⟩,[]),(xf 1 41 3,[]),(xo 42 41,[]),(xc 54 43 [.s 34,.s 40,.c (.int .i64 4),.s 42],[])]))))
theorem fn52:IsFn prog 52 ac52 [] 44:=⟨f52,⟨[],[],[]⟩,func52,by kernel_rfl,by kernel_rfl,by kernel_rfl,by kernel_rfl⟩
def ac54:AC:=.seq (.reg [xm 8 1])
 (.cond (.s 8) (.reg [xm 9 0,xm 10 0,xk 11 10,xf 0 12 11,xo 13 12,xm 14 2,xm 15 3,⟨(some 16),.build [(.int .i64 0),(.int .i64 0)] [(0,1,(.s 14)),(1,1,(.s 15))],none⟩,⟨(some 17),.bslice 2 [(.s 16)],none⟩,xa 2 18 13 17,xk 19 9,xf 0 20 19,xs 1 20 18])
 (.skip))
theorem fn54:IsFn prog 54 ac54 [] 21:=⟨f54,⟨[],[],[]⟩,func54,by kernel_rfl,by kernel_rfl,by kernel_rfl,by kernel_rfl⟩
def ac84:AC:=.seq (.reg [⟨(some 3),.box 5 (.s 1),none⟩])
 (.seq (.reg [xf 0 6 3,xo 7 6])
 (.block 0 (.seq (.reg [xB .eql 9 7 1,xm 8 9])
 (.cond (.s 8) (.reg [xm 10 0,xf 2 11 3,xo 12 11,xf 1 13 3,xo 14 13,xc 51 15 [.s 10,.s 12,.s 14,.c (.int .i64 1)]])
 (.seq (.reg [xB .eql 17 7 7,xm 16 17])
 (.cond (.s 16) (.seq (.reg [xf 4 18 3,xo 19 18,xL 20 19,xB .gtr 21 20 0,xm 22 21,xg 22 (xm 23 0),xg 22 (xk 24 23),xg 22 (xf 3 25 24),xg 22 (xo 26 25),xg 22 (xB .geq 27 26 0),⟨(some 28),.pick (.s 22) (.s 27) (.c (.bool false)),none⟩])
 (.cond (.s 28) (.seq (.drawA [4,5] [(xm 30 0,[]),(xk 31 30,[]),(xf 1 32 31,[]),(xf 0 33 32,[]),(xo 34 33,[]),(xm 35 0,[]),(xk 36 35,[]),(xf 3 37 36,[]),(xo 38 37,[]),(xA 3 39 34 38,[]),(xf 1 40 39,[]),(xl 2 41 40,[]),(xf 4 42 3,[]),(xo 43 42,[]),(⟨(some 44),.idxA 5 (.s 43) (.c (.int .i64 0)),none⟩,[]),(xl 5 45 44,[]),(xc 64 46 [.s 41,.s 45],[]),(xm 29 46,[]),(xe 47 29 0,[]),(xe 48 29 1,[]),(⟨none,.mv (.c .any),none⟩,[]),(⟨none,.mv (.c .any),none⟩,[]),(⟨(some 4),.boxS 8 (.s 47),none⟩,[]),(⟨(some 5),.boxS 2 (.s 48),none⟩,[])])
 (.draw [(xm 49 0,[]),(xk 50 49,[]),(xf 0 51 50,[]),(xf 0 52 5,[]),(xo 53 52,[]),(xB .neq 54 53 0,[]),(xf 0 55 5,[]),(xo 56 55,[]),(xf 1 57 5,[]),(xo 58 57,[]),(xc 54 59 [.s 51,.s 54,.s 56,.s 58],[])]))
 (.skip)))
 (.skip)))))))
theorem fn84:IsFn prog 84 ac84 [] 60:=⟨f84,⟨[],[],[]⟩,func84,by kernel_rfl,by kernel_rfl,by kernel_rfl,by kernel_rfl⟩
theorem tell_calls (σ:Store) (b τ:Nat) (l:List Flt) (s:Scp) (lat p x y:Int) (is:Bool) (hl:l.length≤1000000) :
    PCalls prog 54 [.ptr (.out b) 0,.bool is,.int .i64 x,.int .i64 y] (wput σ b τ l s lat p) fun v σ' => v = .tup []∧σ' = wput σ b τ (l++if is then [⟨x,y⟩] else []) s lat p:=by
  refine fn54.calls ?_;simp only[slots,ac54,am,ams,Nat.reduceAdd];cases is with
  | false =>
    simp only[am,List.append_nil,List.append_nil];exact retK_intro rfl (Store.sub_refl _) ⟨rfl,by simp⟩
  | true =>
    simp only[am,Nat.reduceAdd,wr_];refine app_tk (by simp[big];omega) (by rw[List.length_map];exact wput_tip) ?_;simp only[am,List.length_map,wr_,List.length_map,List.length_singleton,wput_app];exact retK_intro rfl (Store.sub_refl _) ⟨rfl,by simp⟩
theorem svar_calls (σ:Store) (b τ:Nat) (l:List Flt) (s:Scp) (lat p y k:Int) (t:List UInt8) (hl:l.length≤900000) (hs:s.ok) :
    PCalls prog 51 [.ptr (.out b) 0,.str t,.int .i64 y,.int .i64 k] (wput σ b τ l s lat p) fun v σ' => v = .tup []∧σ' = wput σ b τ (l++varFl s lat t y k) s lat p:=by
  refine fn51.calls ?_;simp only[slots,ac51,am,ams,Nat.reduceAdd,wr_,Scp.rec_];refine cl (scfind_calls s t _ hs.1 hs.2.1) ?_;cases hV:findV s.vars t with
  | none =>
    cases hL:findL s.lats t with
    | none =>
      have e:varFl s lat t y k=[⟨3,y⟩]:=by rw[varFl,hV,hL];rfl
      simp only[am,decide_true,Int.reduceNeg,optI,Int.reduceLT];refine cl (tell_calls σ b τ l s lat p 3 y true (by omega)) ?_;simp only[am,decide_true,decide_false,Int.reduceNeg,Int.reduceLT,Int.reduceLE];refine cl (tell_calls σ b τ (l++[⟨3,y⟩]) s lat p 4 y false (by simp;omega)) ?_;simp only[am,Int.reduceNeg,List.append_nil];exact retK_intro rfl (Store.sub_refl _) ⟨rfl,by rw[e]⟩
    | some j =>
      have e:varFl s lat t y k=[⟨4,y⟩]:=by rw[varFl,hV,hL];rfl
      simp only[am,Int.reduceNeg,optI,decide_eq_false (show ¬((j:Nat):Int)<0 by omega)];refine cl (tell_calls σ b τ l s lat p 3 y false (by omega)) ?_;simp only[am,decide_true,Int.reduceNeg,List.append_nil,Int.reduceLT,decide_eq_true (show (0:Int)≤((j:Nat):Int) by omega)];refine cl (tell_calls σ b τ l s lat p 4 y true (by omega)) ?_;simp only[am,Int.reduceNeg];exact retK_intro rfl (Store.sub_refl _) ⟨rfl,by rw[e]⟩
  | some v =>
    have hv:=findV_lt hV;have hx:s.vars[v]?=some s.vars[v]:=List.getElem?_eq_getElem hv;have e:varFl s lat t y k=if s.vars[v].kind≠k∨(0≤lat∧s.vars[v].lat≠lat) then [⟨4,y⟩] else []:=by rw[varFl,hV];simp only[hx]
    have nv:decide (((v:Nat):Int)<0)=false:=decide_eq_false (by omega);have mid:PCalls prog 54 [.ptr (.out b) 0,.bool false,.int .i64 3,.int .i64 y] (wput σ b τ l s lat p) fun u σ' => u = .tup []∧σ' = wput σ b τ l s lat p:=by
      simpa using tell_calls σ b τ l s lat p 3 y false (by omega)
    have fin:∀is:Bool,is=decide (s.vars[v].kind≠k∨(0≤lat∧s.vars[v].lat≠lat))→PCalls prog 54 [.ptr (.out b) 0,.bool is,.int .i64 4,.int .i64 y] (wput σ b τ l s lat p) fun u σ' => u = .tup []∧σ' = wput σ b τ (l++varFl s lat t y k) s lat p:=fun is he=>by
      have:=tell_calls σ b τ l s lat p 4 y is (by omega)
      rw[he] at this ⊢;rw[e];simpa using this
    cases hL:findL s.lats t
    case' none=>simp only[am,decide_true,Int.reduceNeg,optI,Int.reduceLT,nv]
    case' some j =>
      simp only[am,optI,decide_eq_false (show ¬((j:Nat):Int)<0 by omega)]
    all_goals
      refine cl mid ?_;simp only[am,Nat.reduceAdd,Int.reduceNeg,wr_,nv];refine idxL_intro (by omega) (vars_at hv) ?_;simp only[am,Int.reduceNeg,Scp.rec_,Vrb.q_len,Vrb.q_one,Vrb.q_tk,Vrb.q_ov]
      by_cases hk:s.vars[v].kind=k
      case neg =>
        simp only[am,Int.reduceNeg,decide_eq_false hk];refine CallD.intro (fin true (by simp[hk])) ?_;simp only[am,Int.reduceNeg];exact retK_intro rfl (Store.sub_refl _) ⟨rfl,rfl⟩
      simp only[am,Int.reduceNeg,wr_,decide_eq_true hk]
      by_cases h0:0≤lat
      case neg =>
        simp only[am,Int.reduceNeg,decide_eq_false h0];refine CallD.intro (fin false (by simp[hk,h0])) ?_;simp only[am,Int.reduceNeg];exact retK_intro rfl (Store.sub_refl _) ⟨rfl,rfl⟩
      simp only[am,Int.reduceNeg,wr_,Scp.rec_,decide_eq_true h0]
      by_cases h1:s.vars[v].lat=lat
      case neg =>
        simp only[am,Int.reduceNeg,decide_eq_false h1];refine CallD.intro (fin true (by simp[h0,h1])) ?_;simp only[am,Int.reduceNeg];exact retK_intro rfl (Store.sub_refl _) ⟨rfl,rfl⟩
      simp only[am,Int.reduceNeg,decide_eq_true h1];refine CallD.intro (fin false (by simp[hk,h1])) ?_;simp only[am,Int.reduceNeg];exact retK_intro rfl (Store.sub_refl _) ⟨rfl,rfl⟩
theorem tell_id (σ:Store) (b τ:Nat) (l:List Flt) (s:Scp) (lat p x y:Int) (hl:l.length≤1000000):PCalls prog 54 [.ptr (.out b) 0,.bool false,.int .i64 x,.int .i64 y] (wput σ b τ l s lat p) fun u σ' => u = .tup []∧σ' = wput σ b τ l s lat p:=by
  simpa using tell_calls σ b τ l s lat p x y false hl
theorem tell_add (σ:Store) (b τ:Nat) (l:List Flt) (s:Scp) (lat p x y:Int) (hl:l.length≤1000000):PCalls prog 54 [.ptr (.out b) 0,.bool true,.int .i64 x,.int .i64 y] (wput σ b τ l s lat p) fun u σ' => u = .tup []∧σ' = wput σ b τ (l++[⟨x,y⟩]) s lat p:=by
  simpa using tell_calls σ b τ l s lat p x y true hl
def z29_:=And.intro @am <| And.intro @ams <| And.intro @Scp.rec_ @Word.rec_
theorem slat_calls (σ:Store) (b τ:Nat) (l:List Flt) (s:Scp) (lat p:Int) (w:Word) (hl:l.length≤900000) (hs:s.ok) :
    PCalls prog 52 [.ptr (.out b) 0,.agg w.enc] (wput σ b τ l s lat p) fun v σ' => v = .tup []∧σ' = wput σ b τ (l++latFl s w) s (optI (findL s.lats w.text)) p:=by
  refine fn52.calls ?_;simp only[slots,ac52,z29_,Nat.reduceAdd,Int.reduceNeg,optI,wr_];refine CallD.intro (scfind_calls s w.text (wput σ b τ l s lat p) hs.1 hs.2.1) ?_;simp only[am,Int.reduceNeg,optI,wr_,wput_lat];cases hL:findL s.lats w.text with
  | none =>
    cases hV:findV s.vars w.text with
    | none =>
      have e:latFl s w=[⟨3,w.pos⟩]:=by rw[latFl,hL,hV];rfl
      simp only[am,decide_true,Int.reduceNeg,Int.reduceLT,wr_];refine CallD.intro (tell_add σ b τ l s (-1) p 3 w.pos (by omega)) ?_;simp only[am,decide_true,decide_false,Int.reduceNeg,Int.reduceLT,Int.reduceLE,wr_];refine CallD.intro (tell_id σ b τ (l++[⟨3,w.pos⟩]) s (-1) p 4 w.pos (by simp;omega)) ?_;simp only[am,Int.reduceNeg];exact retK_intro rfl (Store.sub_refl _) ⟨rfl,by rw[e]⟩
    | some j =>
      have e:latFl s w=[⟨4,w.pos⟩]:=by rw[latFl,hL,hV];rfl
      simp only[am,decide_true,Int.reduceNeg,Int.reduceLT,wr_,decide_eq_false (show ¬((j:Nat):Int)<0 by omega)];refine CallD.intro (tell_id σ b τ l s (-1) p 3 w.pos (by omega)) ?_;simp only[am,decide_true,Int.reduceNeg,Int.reduceLT,wr_,decide_eq_true (show (0:Int)≤((j:Nat):Int) by omega)];refine CallD.intro (tell_add σ b τ l s (-1) p 4 w.pos (by omega)) ?_;simp only[am,Int.reduceNeg];exact retK_intro rfl (Store.sub_refl _) ⟨rfl,by rw[e]⟩
  | some j =>
    have e:latFl s w=[]:=by rw[latFl,hL];rfl
    simp only[am,Int.reduceNeg,wr_,decide_eq_false (show ¬((j:Nat):Int)<0 by omega)];refine CallD.intro (tell_id σ b τ l s (j:Nat) p 3 w.pos (by omega)) ?_;simp only[am,Int.reduceNeg,wr_,decide_eq_false (show ¬((j:Nat):Int)<0 by omega)];refine CallD.intro (tell_id σ b τ l s (j:Nat) p 4 w.pos (by omega)) ?_;simp only[am,Int.reduceNeg];exact retK_intro rfl (Store.sub_refl _) ⟨rfl,by rw[e,List.append_nil]⟩
theorem wput_TZ {σ:Store} {b τ:Nat} {l:List Flt} {s:Scp} {lat p:Int} (hg:TZ σ) (hb:σ.box b=none):TZ (wput σ b τ l s lat p):=hg
theorem satom_calls (σ:Store) (b τ:Nat) (l:List Flt) (s:Scp) (lat p:Int) (n:Nd) (hl:l.length≤900000) (hs:s.ok) (hg:TZ σ) (hb:σ.box b=none) (hlat:lat<s.lats.length) (hc:n.cnt≤100000) (hw:n.wt≤big) :
    PCalls prog 84 [.ptr (.out b) 0,.agg n.enc] (wput σ b τ l s lat p) fun v σ' => v = .tup []∧σ' = wput σ b τ (l++atmFl s lat n) s lat p:=by
  refine fn84.calls ?_;simp only[slots,ac84,z19_,Nat.reduceAdd]
  by_cases h1:n.kind=1
  · simp only[am,Nd.fl,decide_eq_true h1];refine cl (svar_calls σ b τ l s lat p n.pos 1 n.text hl hs) ?_;simp only[am];exact retK_intro rfl (Store.sub_refl _) ⟨rfl,by rw[atmFl,if_pos h1]⟩
  simp only[am,decide_eq_false h1]
  by_cases h7:n.kind=7
  case neg =>
    simp only[am,decide_eq_false h7];exact retK_intro rfl (Store.sub_refl _) ⟨rfl,by rw[atmFl,if_neg h1,if_neg h7,List.append_nil]⟩
  simp only[am,List.length_map,Nd.fl,List.length_map,decide_eq_true h7];have ea:atmFl s lat n=elmFl s lat n:=by rw[atmFl,if_neg h1,if_pos h7]
  by_cases hk:0<n.kids.length
  case neg =>
    simp only[am,decide_eq_false (show ¬(0:Int)<(n.kids.length:Nat) by omega)];exact retK_intro rfl (Store.sub_refl _) ⟨rfl,by rw[ea,elmFl,if_neg (fun h=>hk h.1),List.append_nil]⟩
  simp only[am,wr_,decide_eq_true (show (0:Int)<(n.kids.length:Nat) by omega)]
  by_cases h0:0≤lat
  case neg =>
    simp only[am,decide_eq_false h0];exact retK_intro rfl (Store.sub_refl _) ⟨rfl,by rw[ea,elmFl,if_neg (fun h=>h0 h.2),List.append_nil]⟩
  simp only[am,Nat.reduceAdd,decide_true,Nat.reduceLT,wr_,decide_eq_true h0];obtain⟨k,rfl⟩:∃k:Nat,lat=k:=⟨lat.toNat,by omega⟩;have hkl:k<s.lats.length:=by omega
  have hm:n.kids[0]∈n.kids:=List.getElem_mem _;have hmc:=cnt_kid hm;have hmw:=kid_wt hm;refine idxL_intro (by omega) (lats_at hkl) ?_;simp only[am,Scp.rec_,Nd.fl];refine idxL_intro (n:=0) (by omega) (nencs_at (j:=0) (List.getElem?_eq_getElem hk)) ?_;simp only[am,Shp.rec_,Nd.rec_];refine CallD.intro (elem_calls s.lats[k].shape n.kids[0] (wput_TZ hg hb) (hs.2.2 _ (List.getElem_mem hkl)) (fun m hm=>by obtain⟨a,b,c⟩:=parts_ok (n:=n.kids[0]) (by omega) m hm;exact⟨by omega,by omega,fun q hq=>by have:=c q hq;omega⟩) (by omega)) ?_;have eo:elmO s (k:Nat) n=(elemF s.lats[k].shape n.kids[0]).2:=by rw[elmO,Int.toNat_natCast,shapeF_at hkl,getD_at hk]
  have ee:atmFl s (k:Nat) n=match (elemF s.lats[k].shape n.kids[0]).2 with | some q=>[⟨4,q⟩] | none=>[]:=by rw[ea,elmFl,if_pos ⟨hk,h0⟩,eo];cases (elemF s.lats[k].shape n.kids[0]).2<;>rfl
  generalize elemF s.lats[k].shape n.kids[0]=g at ee;obtain⟨e,o⟩:=g;cases o with
  | none =>
    simp only[am,Nat.reduceAdd,decide_true,Elm.rec_,show fltV none=[.int .i64 0,.int .i64 0] from rfl];refine CallD.intro (tell_id σ b τ l s (k:Nat) p 0 0 (by omega)) ?_;simp only[am];exact retK_intro rfl (Store.sub_refl _) ⟨rfl,by rw[ee,List.append_nil]⟩
  | some q =>
    simp only[am,Nat.reduceAdd,decide_false,Int.reduceEq,Elm.rec_,show fltV (some q)=[.int .i64 4,.int .i64 q] from rfl];refine CallD.intro (tell_add σ b τ l s (k:Nat) p 4 q (by omega)) ?_;simp only[am];exact retK_intro rfl (Store.sub_refl _) ⟨rfl,by rw[ee]⟩
end Go.Proofs.Tryz

namespace Go.Proofs.Tryz
open Go.Am
set_option maxRecDepth 4000
set_option maxHeartbeats 4000000
def ac53:AC:=.seq (.reg [⟨(some 2),.boxO 1 (.s 0),none⟩,⟨(some 3),.box 5 (.s 1),none⟩])
 (.seq (.reg [⟨(some 4),.allocO [(.raw .nilFunc)],none⟩])
 (.seq (.reg [⟨(some 5),.mkfn (.func 83) [] [(.s 2),(.s 4)],none⟩,xs 1 4 5])
 (.reg [xo 6 4,xl 5 7 3,⟨(some 8),.callv (.s 6) [(.s 7)],none⟩])))
theorem fn53:IsFn prog 53 ac53 [] 9:=⟨f53,⟨[2,4],[],[]⟩,func53,by kernel_rfl,by kernel_rfl,by kernel_rfl,by kernel_rfl⟩
def ac83:AC:=.seq (.reg [⟨(some 3),.box 5 (.s 0),none⟩])
 (.seq (.reg [xo 6 1,xl 5 7 3,xc 84 8 [.s 6,.s 7]])
 (.seq (.seq (.reg [xf 0 9 3,xo 10 9,xB .eql 11 10 1,xm 12 11,xh 12 (xf 0 13 3),xh 12 (xo 14 13),xh 12 (xB .eql 15 14 7),⟨(some 16),.pick (.s 12) (.c (.bool true)) (.s 15),none⟩])
 (.cond (.s 16) (.ret)
 (.skip)))
 (.seq (.reg [xf 4 17 3,xo 18 17,xL 19 18,xi 20 0])
 (.block 0 (.loop (.seq (.reg [xb .lss 21 20 19])
 (.seq (.cond (.s 21) (.skip)
 (.exit 0))
 (.seq (.block 1 (.seq (.reg [xA 5 22 18 20,xl 5 23 22,⟨(some 5),.alloc [(.int .i64 0),(.int .i64 0),(.str []),(.sl .full 2 []),(.sl .full 5 [])],none⟩,xs 5 5 23])
 (.reg [xo 24 2,xl 5 25 5,⟨(some 26),.callv (.s 24) [(.s 25)],none⟩])))
 (.reg [xB .add 27 20 1,xm 20 27])))))))))
theorem fn83:IsFn prog 83 ac83 [] 28:=⟨f83,⟨[],[],[]⟩,func83,by kernel_rfl,by kernel_rfl,by kernel_rfl,by kernel_rfl⟩
theorem slab1_calls (σ:Store) (b τ b2 b4:Nat) (s:Scp) (lat p:Int) (hs:s.ok) (hg:TZ σ) (hb:σ.box b=none) (hlat:lat<s.lats.length) (n2:b2≠b) (n4:b4≠b) (h2:σ.box b2=some [.ptr (.out b) 0]) (h4:σ.box b4=some [.fn (.func 83) [] [.ptr (.out b2) 0,.ptr (.out b4) 0]]) :
    ∀(k:Nat) (n:Nd) (l:List Flt),n.wt≤k→l.length+n.cnt≤900000→n.cnt≤100000→n.wt≤big →
    PCalls prog 83 [.agg n.enc,.ptr (.out b2) 0,.ptr (.out b4) 0] (wput σ b τ l s lat p) fun v σ' => v = .tup []∧σ' = wput σ b τ (l++labFl s lat n) s lat p:=by
  have e2:∀l,(wput σ b τ l s lat p).box b2=some [.ptr (.out b) 0]:=fun l=>by rw[wput_ne n2];exact h2
  have e4:∀l,(wput σ b τ l s lat p).box b4=some [.fn (.func 83) [] [.ptr (.out b2) 0,.ptr (.out b4) 0]]:=fun l=>by rw[wput_ne n4];exact h4
  intro k;induction k with
  | zero=>intro n l h;have:=Nd.cnt_pos n;have:=cnt_wt n;omega
  | succ k ih =>
    intro n l hk hl hc hw;refine fn83.calls ?_;simp only[slots,ac83,am,ams,Nat.reduceAdd,Nd.rec_];simp only[am,Nd.rec_,e2];refine cl (satom_calls σ b τ l s lat p n (by omega) hs hg hb hlat hc hw) ?_;have ha:=@atmFl_len s lat n;simp only[am,Nd.fl]
    by_cases h17:n.kind=1∨n.kind=7
    · have e:labFl s lat n=atmFl s lat n:=by rw[labFl_eq,if_pos h17,List.append_nil]
      have hsel:(decide (n.kind=1)=true)∨(decide (n.kind=1)=false∧decide (n.kind=7)=true):=by
        by_cases h:n.kind=1
        · exact .inl (decide_eq_true h)
        · exact .inr ⟨decide_eq_false h,decide_eq_true (by simpa [h] using h17)⟩
      rcases hsel with e1 | ⟨e1,e7⟩
      case' inl=>simp only[am,e1]
      case' inr=>simp only[am,Nd.fl,e1,e7]
      all_goals exact retK_intro rfl (Store.sub_refl _) ⟨rfl,by rw[e]⟩
    have e:labFl s lat n=atmFl s lat n++n.kids.flatMap (labFl s lat):=by rw[labFl_eq,if_neg h17]
    simp only[am,List.length_map,Nd.fl,List.length_map,decide_eq_false (fun h=>h17 (.inl h)),decide_eq_false (fun h=>h17 (.inr h))];have hkc:=cnt_kids n;have hnc:=Nd.cnt_pos n;obtain⟨F,hF⟩:∃F:Nat→Unit→St,∀i x,F i x=⟨[.any,.ptr (.out b2) 0,.ptr (.out b4) 0,.ptr (.loc 0) 0,.any,.any,.any,.any,.any,.any,.any,.any,.any,.any,.any,.any,.any,.any,.sl .no 5 (n.kids.map Nd.enc),.int .i64 (n.kids.length:Nat),.int .i64 (i:Nat)]++List.replicate 7 .any,[n.enc],wput σ b τ (l++atmFl s lat n++(n.kids.take i).flatMap (labFl s lat)) s lat p⟩:=⟨_,fun _ _=>rfl⟩;obtain⟨JF,hJF⟩:∃JF:Nat→Unit→Prop,∀i x,JF i x=(True):=⟨_,fun _ _=>rfl⟩;refine vc_count (n.kids.length) F JF _ hJF ?_ ?_ ?_
    · refine ent (()) ?_ ?_ ?_ ?_
      · exact Eq.mpr (hJF _ _) (trivial)
      all_goals simp[hF,List.replicate,am,lle_self]
    · rintro i x hi -;have hm:n.kids[i]∈n.kids:=List.getElem_mem _;have hmc:=cnt_kid hm;have hmw:=kid_wt hm;have hlen:=labs_take (s:=s) (lat:=lat) hi;simp only[hF,List.replicate,am,dlt hi];refine idxL_intro (by omega) (nencs_at (List.getElem?_eq_getElem hi)) ?_;simp only[am,Nd.rec_,e4];refine cl (ih n.kids[i] _ (by omega) (by simp only[List.length_append];omega) (by omega) (by omega)) ?_;simp only[am,aml,winc hi (by omega),List.append_assoc];refine nxtD (()) hi ?_ ?_ ?_ ?_ ?_ ?_
      · exact Eq.mpr (hJF _ _) (trivial)
      all_goals simp[hF,List.replicate,am,lle_self,loL,loLL,V.lo,flat_take hi,List.append_assoc,Nd.r_lo]
    · rintro x -;simp only[hF,List.replicate,am,aml,dnl,aml,List.take_length];exact retK_intro rfl (Store.sub_refl _) ⟨rfl,by rw[e,List.append_assoc]⟩
theorem slabel_calls (σ:Store) (b τ:Nat) (l:List Flt) (s:Scp) (lat p:Int) (n:Nd) (hs:s.ok) (hg:TZ σ) (hb:σ.box b=none) (hlat:lat<s.lats.length) (hl:l.length+n.cnt≤900000) (hc:n.cnt≤100000) (hw:n.wt≤big) :
    PCalls prog 53 [.ptr (.out b) 0,.agg n.enc] (wput σ b τ l s lat p) fun v σ' => v = .tup []∧σ' = wput σ b τ (l++labFl s lat n) s lat p:=by
  have fresh:∀{x:Nat} {σ0:Store},(wput σ0 b τ l s lat p).box x=none→x≠b:=fun {x σ0} h=>by rintro rfl;rw[wput_box] at h;simp at h
  refine fn53.calls ?_;simp only[slots,ac53,am,ams,Nat.reduceAdd];intro b2 hb2;have n2:=fresh hb2;rw[wput_ne n2] at hb2;simp only[am,Nd.rec_];rw[wput_setne n2];intro b4 hb4;have n4:=fresh hb4;rw[wput_ne n4] at hb4;have n24:b4≠b2:=by rintro rfl;simp[Store.set] at hb4
  have hb4' : σ.box b4=none:=by simpa [Store.set,n24] using hb4
  simp only[am,Nd.rec_];rw[wput_setne n4];have hg2:TZ ((σ.set b2 [V.ptr (Pl.out b) 0]).set b4 [V.fn (Fn.func 83) [] [V.ptr (Pl.out b2) 0,V.ptr (Pl.out b4) 0]]):=hg;refine cl (slab1_calls _ b τ b2 b4 s lat p hs hg2 (by rw[set_box_ne n4.symm,set_box_ne n2.symm];exact hb) hlat n2 n4 (by rw[set_box_ne n24.symm,set_box]) set_box n.wt n l (Nat.le_refl _) hl hc hw) ?_;simp only[am];exact retK_intro rfl (Store.subT (wput_new n2 hb2) (wput_new n4 hb4)) ⟨rfl,rfl⟩
end Go.Proofs.Tryz

namespace Go.Proofs.Tryz
open Go.Am
set_option maxRecDepth 4000
set_option maxHeartbeats 4000000
def ac55:AC:=.seq (.reg [⟨(some 3),.box 5 (.s 1),none⟩])
 (.seq (.seq (.reg [xf 0 11 3,xo 12 11,xB .eql 13 12 1])
 (.cond (.s 13) (.reg [xm 14 0,xf 2 15 3,xo 16 15,xf 1 17 3,xo 18 17,xc 51 19 [.s 14,.s 16,.s 18,.c (.int .i64 2)]])
 (.skip)))
 (.seq (.seq (.reg [xf 0 20 3,xo 21 20,xB .neq 22 21 10])
 (.cond (.s 22) (.ret)
 (.skip)))
 (.seq (.reg [⟨(some 4),.mv (.c (.sl .full 1 [])),none⟩])
 (.seq (.seq (.reg [xf 4 23 3,xo 24 23,xL 25 24,xi 26 0])
 (.block 0 (.loop (.seq (.reg [xb .lss 27 26 25])
 (.seq (.cond (.s 27) (.skip)
 (.exit 0))
 (.seq (.block 1 (.seq (.reg [xA 5 28 24 26,xl 5 29 28,⟨(some 6),.alloc [(.int .i64 0),(.int .i64 0),(.str []),(.sl .full 2 []),(.sl .full 5 [])],none⟩,xs 5 6 29])
 (.seq (.draw [(xm 30 0,[]),(xk 31 30,[]),(xf 0 32 31,[]),(xm 33 4,[]),(xf 2 34 6,[]),(xo 35 34,[]),(xc 85 36 [.s 33,.s 35],[]),(xB .geq 37 36 0,[]),(xf 1 38 6,[]),(xo 39 38,[0]),(xc 54 40 [.s 32,.s 37,.c (.int .i64 4),.s 39],[])])
 (.seq (.reg [xm 41 4,xf 2 42 6,xo 43 42,⟨(some 44),.bslice 1 [(.s 43)],none⟩,xa 1 45 41 44,xm 4 45])
 (.seq (.reg [xf 4 46 6,xo 47 46,xL 48 47,xi 49 0])
 (.block 2 (.loop (.seq (.reg [xb .lss 50 49 48])
 (.seq (.cond (.s 50) (.skip)
 (.exit 2))
 (.seq (.block 3 (.seq (.reg [xA 5 51 47 49,xl 5 52 51,⟨(some 8),.alloc [(.int .i64 0),(.int .i64 0),(.str []),(.sl .full 2 []),(.sl .full 5 [])],none⟩,xs 5 8 52])
 (.reg [xm 53 0,xl 5 54 8,xc 84 55 [.s 53,.s 54]])))
 (.reg [xB .add 56 49 1,xm 49 56])))))))))))
 (.reg [xB .add 57 26 1,xm 26 57])))))))
 (.seq (.seq (.reg [xf 3 58 3,xo 59 58,xL 60 59,xi 61 0])
 (.block 4 (.loop (.seq (.reg [xb .lss 62 61 60])
 (.seq (.cond (.s 62) (.skip)
 (.exit 4))
 (.seq (.block 5 (.seq (.reg [xA 2 63 59 61,xl 2 64 63,⟨(some 10),.alloc [(.str []),(.int .i64 0)],none⟩,xs 2 10 64])
 (.reg [xm 65 0,xf 0 66 10,xo 67 66,xf 1 68 10,xo 69 68,xc 51 70 [.s 65,.s 67,.s 69,.c (.int .i64 2)]])))
 (.reg [xB .add 71 61 1,xm 61 71])))))))
 (.draw [(xm 72 0,[]),(xk 73 72,[]),(xf 0 74 73,[]),(xf 4 75 3,[]),(xo 76 75,[]),(xL 77 76,[]),(xB .gtr 78 77 16,[]),(xm 79 0,[]),(xk 80 79,[]),(xf 4 81 80,[]),(xo 82 81,[]),(xc 54 83 [.s 74,.s 78,.c (.int .i64 7),.s 82],[])]))))))
theorem fn55:IsFn prog 55 ac55 [] 84:=⟨f55,⟨[],[],[]⟩,func55,by kernel_rfl,by kernel_rfl,by kernel_rfl,by kernel_rfl⟩
theorem sCells_app {l:List (List UInt8)} {x:List UInt8}:sCells (l++[x])=sCells l++[[.str x]]:=by simp[sCells]
theorem words_at {l:List Word} {j:Nat} (h:j<l.length):(l.map Word.enc)[((j:Nat):Int).toNat]?=some l[j].enc:=by simp[h]
theorem srow_calls (σ:Store) (b τ:Nat) (l:List Flt) (s:Scp) (lat p:Int) (n:Nd) (hs:s.ok) (hg:TZ σ) (hb:σ.box b=none) (hlat:lat<s.lats.length) (hl:l.length≤300000) (hc:n.cnt≤500) (hw:n.wt≤big) :
    PCalls prog 55 [.ptr (.out b) 0,.agg n.enc] (wput σ b τ l s lat p) fun v σ' => v = .tup []∧σ' = wput σ b τ (l++rowFl s lat p n) s lat p:=by
  refine fn55.calls ?_;simp only[slots,ac55,z19_,Nat.reduceAdd]
  by_cases h1:n.kind=1
  · simp only[am,Nd.fl,decide_eq_true h1];refine cl (svar_calls σ b τ l s lat p n.pos 2 n.text (by omega) hs) ?_;simp only[am,Nd.fl,decide_eq_false (show ¬n.kind=10 by omega)];exact retK_intro rfl (Store.sub_refl _) ⟨rfl,by rw[rowFl,if_pos h1]⟩
  simp only[am,Nd.fl,decide_eq_false h1]
  by_cases h10:n.kind=10
  case neg =>
    simp only[am,decide_eq_false h10];exact retK_intro rfl (Store.sub_refl _) ⟨rfl,by rw[rowFl,if_neg h1,if_neg h10,List.append_nil]⟩
  simp only[am,List.length_map,Nd.fl,List.length_map,decide_eq_true h10];have hrow:rowFl s lat p n=fldsFl s lat n.kids n.kids.length++tailFl s lat n.names++(if 16<n.kids.length then [⟨7,p⟩] else []):=by rw[rowFl,if_neg h1,if_pos h10]
  have hkc:=cnt_kids n;have hnc:=cnt_names n;have hkk:∀k∈n.kids,k.kids.length≤500:=fun k hk=>by have:=cnt_kids k;have:=cnt_kid hk;omega
  have hfl:∀{i:Nat},i≤n.kids.length→(fldsFl s lat n.kids i).length≤500*501:=fun {i} hi=>by
    have:=fldsFl_len (s:=s) (lat:=lat) hkk hi
    have:=Nat.mul_le_mul_right (1+500) (show i≤500 by omega)
    omega
  obtain⟨F,hF⟩:∃F:Nat→Tk × Store→St,∀i x,F i x=⟨[.ptr (.out b) 0,.any,.any,.ptr (.loc 0) 0,.sl x.1 1 (sCells ((n.kids.take i).map Nd.text)),.any,.any,.any,.any,.any,.any,.any,.any,.any,.any,.any,.any,.any,.any,.any,.any,.any,.any,.any,.sl .no 5 (n.kids.map Nd.enc),.int .i64 (n.kids.length:Nat),.int .i64 (i:Nat)]++List.replicate 57 .any,[n.enc],wput x.2 b τ (l++fldsFl s lat n.kids i) s lat p⟩:=⟨_,fun _ _=>rfl⟩;obtain⟨JF,hJF⟩:∃JF:Nat→Tk × Store→Prop,∀i x,JF i x=(Ah σ x.2 τ x.1 i):=⟨_,fun _ _=>rfl⟩;refine vc_count (n.kids.length) F JF _ hJF ?_ ?_ ?_
  · refine ent ((.full,σ)) ?_ ?_ ?_ ?_
    · exact Eq.mpr (hJF _ _) (Ah.nil)
    all_goals simp[hF,List.replicate,am,lle_self,fldsFl,sCells]
  · rintro i ⟨tk,σ1⟩ hi hA;simp only at hA;have hm:n.kids[i]∈n.kids:=List.getElem_mem _;have hmc:=cnt_kid hm;have hmw:=kid_wt hm;have hk2:=hkk _ hm;have hL:=hfl (Nat.le_of_lt hi);have hg1:TZ σ1:=hA.sub.2.2 _ _ hg;have hb1:σ1.box b=none:=by rw[hA.box];exact hb
    have htx:((n.kids.take i).map Nd.text).length=i:=by simp;omega
    have hgk:n.kids.getD i nd0=n.kids[i]:=getD_at hi;simp only[hF,List.replicate,am,dlt hi];refine idxL_intro (by omega) (nencs_at (List.getElem?_eq_getElem hi)) ?_;simp only[am,Nd.rec_,Nd.fl];refine CallD.intro (PCalls.weak (as' := [.sl .no 1 (sCells ((n.kids.take i).map Nd.text)),.str n.kids[i].text]) (find_calls ((n.kids.take i).map Nd.text) n.kids[i].text _ (by omega)) ⟨VLe.no,VLe.rfl,trivial⟩ OLe.rfl) ?_;simp only[am,Nd.fl,optI_nn];have ed:dupFl n.kids i=if (findS ((n.kids.take i).map Nd.text) n.kids[i].text).isSome then [⟨4,n.kids[i].pos⟩] else []:=by rw[dupFl,hgk]
    have hdl:(dupFl n.kids i).length≤1:=by rw[ed];split<;>simp
    refine CallD.intro (tell_calls σ1 b τ (l++fldsFl s lat n.kids i) s lat p 4 n.kids[i].pos _ (by simp only[List.length_append];omega)) ?_;rw[←ed];simp only[am,Nd.fl];refine Ah.app (by rw[sCells_len,htx];exact hA) (by simp[sCells_len,big];omega) fun tk' σ2 hA2=>?_
    have hA2:Ah σ σ2 τ tk' (i+1):=by rw[List.length_append,sCells_len,htx] at hA2;exact hA2
    have hg2:TZ σ2:=hA2.sub.2.2 _ _ hg;have hb2:σ2.box b=none:=by rw[hA2.box];exact hb
    simp only[am,List.length_map,Nd.fl,List.length_map];obtain⟨F2,hF2⟩:∃F2:Nat→Unit→St,∀j y,F2 j y=⟨[.ptr (.out b) 0,.any,.any,.ptr (.loc 0) 0,.sl tk' 1 (sCells ((n.kids.take i).map Nd.text)++[[.str n.kids[i].text]]),.any,.any,.any,.any,.any,.any,.any,.any,.any,.any,.any,.any,.any,.any,.any,.any,.any,.any,.any,.sl .no 5 (n.kids.map Nd.enc),.int .i64 (n.kids.length:Nat),.int .i64 (i:Nat),.any,.any,.any,.any,.any,.any,.any,.any,.any,.any,.any,.any,.any,.any,.any,.any,.any,.any,.any,.any,.sl .no 5 (n.kids[i].kids.map Nd.enc),.int .i64 (n.kids[i].kids.length:Nat),.int .i64 (j:Nat)]++List.replicate 34 .any,[n.enc,n.kids[i].enc],wput σ2 b τ (l++fldsFl s lat n.kids i++dupFl n.kids i++(n.kids[i].kids.take j).flatMap (atmFl s lat)) s lat p⟩:=⟨_,fun _ _=>rfl⟩;obtain⟨JF2,hJF2⟩:∃JF2:Nat→Unit→Prop,∀j y,JF2 j y=(True):=⟨_,fun _ _=>rfl⟩;refine vc_count (n.kids[i].kids.length) F2 JF2 _ hJF2 ?_ ?_ ?_
    · refine ent (()) ?_ ?_ ?_ ?_
      · exact Eq.mpr (hJF2 _ _) (trivial)
      all_goals simp[hF2,List.replicate,am,lle_self]
    · rintro j y hj -;have hm2:n.kids[i].kids[j]∈n.kids[i].kids:=List.getElem_mem _;have hmc2:=cnt_kid hm2;have hmw2:=kid_wt hm2;have hL2:((n.kids[i].kids.take j).flatMap (atmFl s lat)).length≤500:=by
        have:=flat_len (f:=atmFl s lat) (m:=1) (l:=n.kids[i].kids.take j) fun _ _=>atmFl_len
        rw[Nat.mul_one,List.length_take] at this;omega
      simp only[hF2,List.replicate,am,dlt hj];refine idxL_intro (by omega) (nencs_at (List.getElem?_eq_getElem hj)) ?_;simp only[am,Nat.reduceAdd,Nd.rec_];refine cl (satom_calls σ2 b τ _ s lat p n.kids[i].kids[j] (by simp only[List.length_append];omega) hs hg2 hb2 hlat (by omega) (by omega)) ?_;simp only[am,aml,winc hj (by omega)];refine nxtD (()) hj ?_ ?_ ?_ ?_ ?_ ?_
      · exact Eq.mpr (hJF2 _ _) (trivial)
      all_goals simp[hF2,List.replicate,am,lle_self,loL,loLL,V.lo,flat_take hj,List.append_assoc,Nd.r_lo]
    · rintro y -;simp only[hF2,List.replicate,am,aml,dnl,Nat.reduceEqDiff,aml,reduceCtorEq,Nd.fl,List.length_map,List.take_length,winc hi (by omega)];have ef:fldsFl s lat n.kids (i+1)=fldsFl s lat n.kids i++(dupFl n.kids i++n.kids[i].kids.flatMap (atmFl s lat)):=by rw[fldsFl_succ,fldFl,hgk]
      have et:(n.kids.take (i+1)).map Nd.text=(n.kids.take i).map Nd.text++[n.kids[i].text]:=by rw[List.take_succ_eq_append_getElem hi,List.map_append];rfl
      refine nxtD ((tk',σ2)) hi ?_ ?_ ?_ ?_ ?_ ?_
      · exact Eq.mpr (hJF _ _) (hA2)
      all_goals simp[hF,List.replicate,am,lle_self,loL,loLL,V.lo,ef,et,sCells_app,List.append_assoc,Nd.r_lo]
  · rintro⟨tk,σ1⟩ hA;simp only at hA;have hL:=hfl (Nat.le_refl _);simp only[hF,List.replicate,am,aml,dnl,aml,Nd.fl,List.length_map];obtain⟨F3,hF3⟩:∃F3:Nat→Unit→St,∀j y,F3 j y=⟨[.ptr (.out b) 0,.any,.any,.ptr (.loc 0) 0,.any,.any,.any,.any,.any,.any,.any,.any,.any,.any,.any,.any,.any,.any,.any,.any,.any,.any,.any,.any,.any,.any,.any,.any,.any,.any,.any,.any,.any,.any,.any,.any,.any,.any,.any,.any,.any,.any,.any,.any,.any,.any,.any,.any,.any,.any,.any,.any,.any,.any,.any,.any,.any,.any,.any,.sl .no 2 (n.names.map Word.enc),.int .i64 (n.names.length:Nat),.int .i64 (j:Nat)]++List.replicate 22 .any,[n.enc],wput σ1 b τ (l++fldsFl s lat n.kids n.kids.length++tailFl s lat (n.names.take j)) s lat p⟩:=⟨_,fun _ _=>rfl⟩;obtain⟨JF3,hJF3⟩:∃JF3:Nat→Unit→Prop,∀j y,JF3 j y=(True):=⟨_,fun _ _=>rfl⟩;refine vc_count (n.names.length) F3 JF3 _ hJF3 ?_ ?_ ?_
    · refine ent (()) ?_ ?_ ?_ ?_
      · exact Eq.mpr (hJF3 _ _) (trivial)
      all_goals simp[hF3,List.replicate,am,lle_self,tailFl]
    · rintro j y hk -;have hL3:=@tailFl_len s lat (n.names.take j);rw[List.length_take] at hL3;simp only[hF3,List.replicate,am,dlt hk];refine idxL_intro (by omega) (words_at hk) ?_;simp only[am,wr_,Word.rec_];refine cl (svar_calls σ1 b τ _ s lat p n.names[j].pos 2 n.names[j].text (by simp only[List.length_append];omega) hs) ?_;simp only[am,aml,winc hk (by omega)];have ef:tailFl s lat (n.names.take (j+1))=tailFl s lat (n.names.take j)++varFl s lat n.names[j].text n.names[j].pos 2:=by rw[tailFl,flat_take hk];rfl
      refine nxtD (()) hk ?_ ?_ ?_ ?_ ?_ ?_
      · exact Eq.mpr (hJF3 _ _) (trivial)
      all_goals simp[hF3,List.replicate,am,lle_self,loL,loLL,V.lo,ef,List.append_assoc,Nd.r_lo]
    · rintro y -;have hL3:=@tailFl_len s lat n.names;simp only[hF3,List.replicate,am,aml,dnl,aml,wr_,Nd.fl,List.length_map,List.take_length];have bound:(l++fldsFl s lat n.kids n.kids.length++tailFl s lat n.names).length≤1000000:=by simp only[List.length_append];omega
      by_cases h16:16<n.kids.length
      · rw[decide_eq_true (show (16:Int)<(n.kids.length:Nat) by omega)];refine CallD.intro (tell_add σ1 b τ _ s lat p 7 p bound) ?_;simp only[am];exact retK_intro rfl (wput_mono hA.sub) ⟨rfl,by rw[hrow,if_pos h16];simp only[List.append_assoc]⟩
      · rw[decide_eq_false (show ¬(16:Int)<(n.kids.length:Nat) by omega)];refine CallD.intro (tell_id σ1 b τ _ s lat p 7 p bound) ?_;simp only[am];exact retK_intro rfl (wput_mono hA.sub) ⟨rfl,by rw[hrow,if_neg h16,List.append_nil,List.append_assoc]⟩
end Go.Proofs.Tryz

namespace Go.Proofs.Tryz
open Go.Am
set_option maxRecDepth 4000
set_option maxHeartbeats 4000000
def ac74:AC:=.seq (.reg [⟨(some 2),.mv (.c (.bool false)),none⟩])
 (.seq (.reg [xi 3 0])
 (.seq (.seq (.reg [xm 6 0,xL 7 6,xi 8 0])
 (.block 0 (.loop (.seq (.reg [xb .lss 9 8 7])
 (.seq (.cond (.s 9) (.skip)
 (.exit 0))
 (.seq (.block 1 (.seq (.reg [xA 10 10 6 8,xl 10 11 10,⟨(some 5),.alloc insZ,none⟩,xs 10 5 11])
 (.seq (.reg [xf 0 12 5,xo 13 12])
 (.block 2 (.seq (.seq (.reg [xB .eql 15 13 1,xm 14 15])
 (.cond (.s 14) (.skip)
 (.reg [xB .eql 16 13 2,xm 14 16])))
 (.cond (.s 14) (.reg [xm 17 3,xB .add 18 17 1,xm 3 18])
 (.seq (.seq (.reg [xB .eql 20 13 3,xm 19 20])
 (.cond (.s 19) (.skip)
 (.reg [xB .eql 21 13 4,xm 19 21])))
 (.cond (.s 19) (.seq (.seq (.reg [xf 1 22 5,xo 23 22,xB .lss 24 23 1,xm 25 24,xh 25 (xf 1 26 5),xh 25 (xo 27 26),xh 25 (xm 28 3),xh 25 (xb .gtr 29 27 28),⟨(some 30),.pick (.s 25) (.c (.bool true)) (.s 29),none⟩])
 (.cond (.s 30) (.seq (.reg [⟨(some 2),.mv (.c (.bool false)),none⟩])
 (.ret))
 (.skip)))
 (.reg [xm 31 3,xf 1 32 5,xo 33 32,xB .sub 34 33 1,xb .sub 35 31 34,xm 3 35]))
 (.seq (.reg [⟨(some 2),.mv (.c (.bool false)),none⟩])
 (.ret))))))))))
 (.reg [xB .add 36 8 1,xm 8 36])))))))
 (.seq (.reg [xm 37 3,xB .eql 38 37 1,xm 2 38])
 (.ret))))
theorem fn74:IsFn prog 74 ac74 [.tmp 2] 39:=⟨f74,⟨[],[],[]⟩,func74,by kernel_rfl,by kernel_rfl,by kernel_rfl,by kernel_rfl⟩
theorem cright_calls (l:List Ins) (σ:Store) (hl:l.length≤100000):PCalls prog 74 [.sl .no 10 (l.map Ins.enc)] σ fun v σ' => v = .bool (rightC l)∧σ' = σ:=by
  refine fn74.calls ?_;simp only[slots,ac74,am,ams,Ins.rec_,List.length_map];obtain⟨F,hF⟩:∃F:Nat→Nat→St,∀i d,F i d=⟨[.any,.any,.bool false,.int .i64 (d:Nat),.any,.any,.sl .no 10 (l.map Ins.enc),.int .i64 (l.length:Nat),.int .i64 (i:Nat)]++List.replicate 30 .any,[],σ⟩:=⟨_,fun _ _=>rfl⟩;obtain⟨JF,hJF⟩:∃JF:Nat→Nat→Prop,∀i d,JF i d=(deepF l 0=deepF (l.drop i) d∧d≤i):=⟨_,fun _ _=>rfl⟩;refine vc_count (l.length) F JF _ hJF ?_ ?_ ?_
  · refine ent (0) ?_ ?_ ?_ ?_
    · exact Eq.mpr (hJF _ _) (⟨rfl,Nat.le_refl _⟩)
    all_goals simp[hF,List.replicate,am,lle_self]
  · rintro i d hi ⟨hJ,hd⟩;rw[List.drop_eq_getElem_cons hi,deepF] at hJ;have no:deepF l 0=none→rightC l=false:=fun h=>by rw[rightC,h];rfl
    simp only[hF,List.replicate,am,dlt hi];refine idxL_intro (by omega) (codes_at hi) ?_;simp only[am,Ins.rec_]
    by_cases h1:l[i].op=1∨l[i].op=2
    · rw[if_pos h1] at hJ;have hsel:(decide (l[i].op=1)=true)∨(decide (l[i].op=1)=false∧decide (l[i].op=2)=true):=by
        by_cases h:l[i].op=1
        · exact .inl (decide_eq_true h)
        · exact .inr ⟨decide_eq_false h,decide_eq_true (by simpa [h] using h1)⟩
      rcases hsel with e1 | ⟨e1,e2⟩
      case' inl=>simp only[am,aml,e1,winc hi (by omega),winc (n:=d+1) (Nat.lt_succ_self d) (by omega)]
      case' inr=>simp only[am,aml,e1,e2,winc hi (by omega),winc (n:=d+1) (Nat.lt_succ_self d) (by omega)]
      all_goals
        refine nxtD (d+1) hi ?_ ?_ ?_ ?_ ?_ ?_
        · exact Eq.mpr (hJF _ _) (⟨hJ,by omega⟩)
        all_goals simp[hF,List.replicate,am,lle_self,loL,loLL,V.lo]
    · rw[if_neg h1] at hJ;have e1:decide (l[i].op=1)=false:=decide_eq_false fun h=>h1 (.inl h)
      have e2:decide (l[i].op=2)=false:=decide_eq_false fun h=>h1 (.inr h)
      by_cases h3:l[i].op=3∨l[i].op=4
      · rw[if_pos h3] at hJ;have hsel:(decide (l[i].op=3)=true)∨(decide (l[i].op=3)=false∧decide (l[i].op=4)=true):=by
          by_cases h:l[i].op=3
          · exact .inl (decide_eq_true h)
          · exact .inr ⟨decide_eq_false h,decide_eq_true (by simpa [h] using h3)⟩
        rcases hsel with e3 | ⟨e3,e4⟩
        case' inl=>simp only[am,Ins.rec_,e1,e2,e3]
        case' inr=>simp only[am,Ins.rec_,e1,e2,e3,e4]
        all_goals
          by_cases hb:l[i].n<1
          · rw[if_pos (.inl hb)] at hJ;simp only[am,aml,decide_eq_true hb];refine retS ?_;simp[V.erase,no hJ]
          · simp only[am,Ins.rec_,decide_eq_false hb]
            by_cases hb2:((d:Nat):Int)<l[i].n
            · rw[if_pos (.inr hb2)] at hJ;simp only[am,aml,decide_eq_true hb2];refine retS ?_;simp[V.erase,no hJ]
            · rw[if_neg (by omega)] at hJ;simp only[am,aml,Ins.rec_,decide_eq_false hb2];rw[wrap_i64 (x:=l[i].n - 1) (by omega) (by omega),wrap_i64 (x:=((d:Nat):Int) - (l[i].n - 1)) (by omega) (by omega),show ((d:Nat):Int) - (l[i].n - 1)=((d - (l[i].n.toNat - 1):Nat):Int) by omega];simp only[winc hi (by omega)];refine nxtD (d - (l[i].n.toNat - 1)) hi ?_ ?_ ?_ ?_ ?_ ?_
              · exact Eq.mpr (hJF _ _) (⟨hJ,by omega⟩)
              all_goals simp[hF,List.replicate,am,lle_self,loL,loLL,V.lo]
      · rw[if_neg h3] at hJ;have e3:decide (l[i].op=3)=false:=decide_eq_false fun h=>h3 (.inl h)
        have e4:decide (l[i].op=4)=false:=decide_eq_false fun h=>h3 (.inr h)
        simp only[am,aml,e1,e2,e3,e4];refine retS ?_;simp[V.erase,no hJ]
  · rintro d ⟨hJ,hd⟩;rw[List.drop_length,deepF] at hJ;simp only[hF,List.replicate,am,aml,dnl,aml];refine retS ?_;simp[V.erase,rightC,hJ];omega
end Go.Proofs.Tryz

namespace Go.Proofs.Tryz
open Go.Am
set_option maxRecDepth 4000
set_option maxHeartbeats 4000000
def ac13:AC:=.seq (.reg [⟨(some 2),.box 2 (.s 0),none⟩,⟨(some 3),.box 18 (.s 1),none⟩,⟨(some 4),.mv (.c (.bool false)),none⟩])
 (.seq (.reg [xf 1 6 3,xo 7 6,xB .geq 8 7 0,xm 9 8,xg 9 (xf 1 10 3),xg 9 (xo 11 10),xg 9 (xf 0 12 2),xg 9 (xo 13 12),xg 9 (xL 14 13),xg 9 (xb .lss 15 11 14),⟨(some 16),.pick (.s 9) (.s 15) (.c (.bool false)),none⟩,xm 5 16])
 (.seq (.seq (.reg [xf 0 17 3,xo 18 17])
 (.block 0 (.seq (.reg [xB .eql 20 18 10,xm 19 20])
 (.cond (.s 19) (.seq (.reg [xl 2 21 2,xf 16 22 3,xo 23 22,xf 1 24 3,xo 25 24,xc 33 26 [.s 21,.s 23,.c (.int .i64 2),.s 25],xm 27 26,xg 27 (xf 17 28 3),xg 27 (xo 29 28),xg 27 (xc 34 30 [.s 29]),⟨(some 31),.pick (.s 27) (.s 30) (.c (.bool false)),none⟩,xm 4 31])
 (.ret))
 (.seq (.reg [xB .eql 33 18 9,xm 32 33])
 (.cond (.s 32) (.seq (.reg [xm 34 5,xm 35 34,xg 35 (xl 2 36 2),xg 35 (xf 1 37 3),xg 35 (xo 38 37),xg 35 (xf 12 39 3),xg 35 (xl 2 40 39),xg 35 (xc 35 41 [.s 36,.s 38,.s 40]),⟨(some 42),.pick (.s 35) (.s 41) (.c (.bool false)),none⟩,xm 43 42,xg 43 (xl 2 44 2),xg 43 (xf 1 45 3),xg 43 (xo 46 45),xg 43 (xf 14 47 3),xg 43 (xl 2 48 47),xg 43 (xc 35 49 [.s 44,.s 46,.s 48]),⟨(some 50),.pick (.s 43) (.s 49) (.c (.bool false)),none⟩,xm 4 50])
 (.ret))
 (.seq (.reg [xB .eql 52 18 8,xm 51 52])
 (.cond (.s 51) (.seq (.reg [xm 53 5,xm 54 53,xg 54 (xl 2 55 2),xg 54 (xf 1 56 3),xg 54 (xo 57 56),xg 54 (xf 2 58 3),xg 54 (xo 59 58),xg 54 (xc 36 60 [.s 55,.s 57,.s 59]),⟨(some 61),.pick (.s 54) (.s 60) (.c (.bool false)),none⟩,xm 62 61,xg 62 (xl 2 63 2),xg 62 (xf 1 64 3),xg 62 (xo 65 64),xg 62 (xf 3 66 3),xg 62 (xl 9 67 66),xg 62 (xc 37 68 [.s 63,.s 65,.s 67]),⟨(some 69),.pick (.s 62) (.s 68) (.c (.bool false)),none⟩,xm 4 69])
 (.ret))
 (.skip)))))))))
 (.seq (.reg [⟨(some 4),.mv (.c (.bool false)),none⟩])
 (.ret))))
theorem fn13:IsFn prog 13 ac13 [.tmp 4] 70:=⟨f13,⟨[],[],[]⟩,func13,by kernel_rfl,by kernel_rfl,by kernel_rfl,by kernel_rfl⟩
def ac33:AC:=.seq (.reg [⟨(some 4),.box 2 (.s 0),none⟩,⟨(some 8),.mv (.c (.bool false)),none⟩])
 (.seq (.reg [xm 9 1,xB .geq 10 9 0,xm 11 10,xg 11 (xm 12 1),xg 11 (xf 1 13 4),xg 11 (xo 14 13),xg 11 (xL 15 14),xg 11 (xb .lss 16 12 15),⟨(some 17),.pick (.s 11) (.s 16) (.c (.bool false)),none⟩,xm 18 17,xg 18 (xf 1 19 4),xg 18 (xo 20 19),xg 18 (xm 21 1),xg 18 (xA 3 22 20 21),xg 18 (xf 1 23 22),xg 18 (xo 24 23),xg 18 (xm 25 2),xg 18 (xb .eql 26 24 25),⟨(some 27),.pick (.s 18) (.s 26) (.c (.bool false)),none⟩,xm 28 27,xg 28 (xf 1 29 4),xg 28 (xo 30 29),xg 28 (xm 31 1),xg 28 (xA 3 32 30 31),xg 28 (xf 2 33 32),xg 28 (xo 34 33),xg 28 (xm 35 3),xg 28 (xb .eql 36 34 35),⟨(some 37),.pick (.s 28) (.s 36) (.c (.bool false)),none⟩,xm 8 37])
 (.ret))
theorem fn33:IsFn prog 33 ac33 [.tmp 8] 38:=⟨f33,⟨[],[],[]⟩,func33,by kernel_rfl,by kernel_rfl,by kernel_rfl,by kernel_rfl⟩
def ac35:AC:=.seq (.reg [⟨(some 3),.box 2 (.s 0),none⟩,⟨(some 5),.box 2 (.s 2),none⟩,⟨(some 6),.mv (.c (.bool false)),none⟩])
 (.seq (.seq (.reg [xf 0 10 5,xo 11 10,xL 12 11,xB .gtr 13 12 16,xm 14 13,xh 14 (xf 1 15 5),xh 14 (xo 16 15),xh 14 (xB .geq 17 16 0),xh 14 (xm 18 17),xg 18 (xl 2 19 3),xg 18 (xf 1 20 5),xg 18 (xo 21 20),xg 18 (xm 22 1),xg 18 (xc 33 23 [.s 19,.s 21,.c (.int .i64 2),.s 22]),⟨(some 24),.not (.s 23),(some (18,true))⟩,⟨(some 25),.pick (.s 18) (.s 24) (.c (.bool false)),(some (14,false))⟩,⟨(some 26),.pick (.s 14) (.c (.bool true)) (.s 25),none⟩])
 (.cond (.s 26) (.seq (.reg [⟨(some 6),.mv (.c (.bool false)),none⟩])
 (.ret))
 (.skip)))
 (.seq (.reg [⟨(some 7),.mv (.c (.sl .full 1 [])),none⟩])
 (.seq (.seq (.reg [xf 0 27 5,xo 28 27,xL 29 28,xi 30 0])
 (.block 0 (.loop (.seq (.reg [xb .lss 31 30 29])
 (.seq (.cond (.s 31) (.skip)
 (.exit 0))
 (.seq (.block 1 (.seq (.reg [xA 10 32 28 30,xl 10 33 32,⟨(some 9),.alloc fldZ,none⟩,xs 10 9 33])
 (.seq (.seq (.reg [xf 0 34 9,xo 35 34,xc 34 36 [.s 35],⟨(some 37),.not (.s 36),none⟩,xm 38 37,xh 38 (xl 2 39 3),xh 38 (xm 40 1),xh 38 (xf 1 41 9),xh 38 (xl 9 42 41),xh 38 (xc 37 43 [.s 39,.s 40,.s 42]),⟨(some 44),.not (.s 43),(some (38,false))⟩,⟨(some 45),.pick (.s 38) (.c (.bool true)) (.s 44),none⟩])
 (.cond (.s 45) (.seq (.reg [⟨(some 6),.mv (.c (.bool false)),none⟩])
 (.ret))
 (.skip)))
 (.reg [xm 46 7,xf 0 47 9,xo 48 47,⟨(some 49),.bslice 1 [(.s 48)],none⟩,xa 1 50 46 49,xm 7 50]))))
 (.reg [xB .add 51 30 1,xm 30 51])))))))
 (.seq (.reg [xm 52 7,xc 72 53 [.s 52],xB .lss 54 53 0,xm 6 54])
 (.ret)))))
theorem fn35:IsFn prog 35 ac35 [.tmp 6] 55:=⟨f35,⟨[],[],[]⟩,func35,by kernel_rfl,by kernel_rfl,by kernel_rfl,by kernel_rfl⟩
def ac36:AC:=.seq (.reg [⟨(some 3),.box 2 (.s 0),none⟩,⟨(some 6),.mv (.c (.bool false)),none⟩])
 (.seq (.seq (.reg [xm 9 2,xL 10 9,xi 11 0])
 (.block 0 (.loop (.seq (.reg [xb .lss 12 11 10])
 (.seq (.cond (.s 12) (.skip)
 (.exit 0))
 (.seq (.block 1 (.seq (.reg [xA 10 13 9 11,xl 10 14 13,⟨(some 8),.alloc insZ,none⟩,xs 10 8 14])
 (.seq (.seq (.reg [xf 0 15 8,xo 16 15,xB .eql 17 16 1,xm 18 17,xg 18 (xl 2 19 3),xg 18 (xf 1 20 8),xg 18 (xo 21 20),xg 18 (xm 22 1),xg 18 (xc 33 23 [.s 19,.s 21,.c (.int .i64 1),.s 22]),⟨(some 24),.not (.s 23),(some (18,true))⟩,⟨(some 25),.pick (.s 18) (.s 24) (.c (.bool false)),none⟩])
 (.cond (.s 25) (.seq (.reg [⟨(some 6),.mv (.c (.bool false)),none⟩])
 (.ret))
 (.skip)))
 (.seq (.draw [(xf 0 26 8,[]),(xo 27 26,[]),(xB .eql 28 27 2,[]),(xm 29 28,[]),(xg 29 (xf 0 30 3),[]),(xg 29 (xo 31 30),[]),(xg 29 (xm 32 1),[]),(xg 29 (xA 3 33 31 32),[]),(xg 29 (xf 1 34 33),[]),(xg 29 (xl 2 35 34),[]),(xg 29 (xf 2 36 8),[]),(xg 29 (xl 8 37 36),[]),(xg 29 (xc 73 38 [.s 35,.s 37]),[]),(⟨(some 39),.not (.s 38),(some (29,true))⟩,[]),(⟨(some 40),.pick (.s 29) (.s 39) (.c (.bool false)),none⟩,[])])
 (.cond (.s 40) (.seq (.reg [⟨(some 6),.mv (.c (.bool false)),none⟩])
 (.ret))
 (.skip))))))
 (.reg [xB .add 41 11 1,xm 11 41])))))))
 (.seq (.reg [xm 42 2,xc 74 43 [.s 42],xm 6 43])
 (.ret)))
theorem fn36:IsFn prog 36 ac36 [.tmp 6] 44:=⟨f36,⟨[],[],[]⟩,func36,by kernel_rfl,by kernel_rfl,by kernel_rfl,by kernel_rfl⟩
def ac37:AC:=.seq (.reg [⟨(some 3),.box 2 (.s 0),none⟩,⟨(some 5),.box 9 (.s 2),none⟩,⟨(some 6),.mv (.c (.bool false)),none⟩])
 (.seq (.seq (.reg [xf 0 7 5,xo 8 7,xB .lss 9 8 0])
 (.cond (.s 9) (.seq (.draw [(xf 0 10 3,[]),(xo 11 10,[]),(xm 12 1,[]),(xA 3 13 11 12,[]),(xf 1 14 13,[]),(xl 2 15 14,[]),(xf 1 16 5,[]),(xl 8 17 16,[]),(xc 73 18 [.s 15,.s 17],[]),(xm 6 18,[])])
 (.ret))
 (.skip)))
 (.seq (.reg [xl 2 19 3,xf 0 20 5,xo 21 20,xm 22 1,xc 33 23 [.s 19,.s 21,.c (.int .i64 1),.s 22],xm 6 23])
 (.ret)))
theorem fn37:IsFn prog 37 ac37 [.tmp 6] 24:=⟨f37,⟨[],[],[]⟩,func37,by kernel_rfl,by kernel_rfl,by kernel_rfl,by kernel_rfl⟩
theorem fis_calls (s:Scp) (v kind lat:Int) (σ:Store):PCalls prog 33 [.agg s.enc,.int .i64 v,.int .i64 kind,.int .i64 lat] σ fun r σ' => r = .bool (isF s v kind lat)∧σ' = σ:=by
  refine fn33.calls ?_;simp only[slots,ac33,am,ams,Nat.reduceAdd,Scp.rec_]
  by_cases h0:0≤v
  case neg =>
    simp only[am,decide_eq_false h0];refine retS ?_;simp[V.erase,isF,h0]
  obtain⟨n,rfl⟩:=Int.eq_ofNat_of_zero_le h0;simp only[am,List.length_map,Scp.rec_,List.length_map,decide_eq_true h0]
  by_cases h1:n<s.vars.length
  case neg =>
    simp only[am,decide_eq_false (show ¬(n:Int)<s.vars.length by omega)];refine retS ?_;simp[V.erase,isF,h1]
  simp only[am,Scp.rec_,decide_eq_true (show (n:Int)<s.vars.length by omega)];refine idxL_intro (by omega) (vars_at h1) ?_;have e:isF s (n:Nat) kind lat=(decide (s.vars[n].kind=kind)&&decide (s.vars[n].lat=lat)):=by
    rw[isF,if_pos h0,Int.toNat_natCast,List.getElem?_eq_getElem h1]
  by_cases h2:s.vars[n].kind=kind
  case neg =>
    simp only[am,Scp.rec_,decide_eq_false h2];refine retS ?_;simp[V.erase,e,h2]
  simp only[am,Scp.rec_,decide_eq_true h2];refine idxL_intro (by omega) (vars_at h1) ?_;simp only[am,Scp.rec_];refine retS ?_;simp[V.erase,e,h2]
def z30_:=And.intro @am <| And.intro @Scp.rec_ <| And.intro @Shp.rec_ @Elm.rec_
theorem fisAtom_calls (s:Scp) (lat:Nat) (a:Atm) {σ:Store} (hs:s.ok) (hg:TZ σ) (hlat:lat<s.lats.length):PCalls prog 37 [.agg s.enc,.int .i64 (lat:Nat),.agg a.enc] σ fun r σ' => r = .bool (isAtmF s lat a)∧σ' = σ:=by
  refine fn37.calls ?_;simp only[slots,ac37,am,ams,Nat.reduceAdd,Scp.rec_,Atm.rec_]
  by_cases h0:a.v<0
  · simp only[am,Scp.rec_,decide_eq_true h0];refine idxL_intro (by omega) (lats_at hlat) ?_;simp only[z30_,Atm.rec_];refine CallD.intro (pfits_calls s.lats[lat].shape a.c hg (hs.2.2 _ (List.getElem_mem hlat))) ?_;simp only[am];refine retS ?_;simp[V.erase,isAtmF,h0,shapeF_at hlat]
  · simp only[am,Scp.rec_,Atm.rec_,decide_eq_false h0];refine cl (fis_calls s a.v 1 lat σ) ?_;simp only[am];refine retS ?_;simp[V.erase,isAtmF,h0]
def z31_:=And.intro @am <| And.intro @Scp.rec_ <| And.intro @Shp.rec_ <| And.intro @Elm.rec_ @Ins.rec_
theorem fisCode_calls (s:Scp) (lat:Nat) (l:List Ins) {σ:Store} (hs:s.ok) (hg:TZ σ) (hlat:lat<s.lats.length) (hl:l.length≤100000):PCalls prog 36 [.agg s.enc,.int .i64 (lat:Nat),.sl .no 10 (l.map Ins.enc)] σ fun r σ' => r = .bool (isCodeF s lat l)∧σ' = σ:=by
  refine fn36.calls ?_;simp only[slots,ac36,z25_,Nat.reduceAdd,List.length_map];have bad:∀i (hi:i<l.length),insF s lat l[i]=false→isCodeF s lat l=false:=fun i hi h=>by
    rw[isCodeF,List.all_eq_false.2 ⟨l[i],List.getElem_mem hi,by rw[h];simp⟩];rfl
  obtain⟨F,hF⟩:∃F:Nat→Unit→St,∀i x,F i x=⟨[.any,.int .i64 (lat:Nat),.sl .no 10 (l.map Ins.enc),.ptr (.loc 0) 0,.any,.any,.any,.any,.any,.sl .no 10 (l.map Ins.enc),.int .i64 (l.length:Nat),.int .i64 (i:Nat)]++List.replicate 32 .any,[s.enc],σ⟩:=⟨_,fun _ _=>rfl⟩;obtain⟨JF,hJF⟩:∃JF:Nat→Unit→Prop,∀i x,JF i x=(∀k (hk:k<l.length),k<i→insF s lat l[k]=true):=⟨_,fun _ _=>rfl⟩;refine vc_count (l.length) F JF _ hJF ?_ ?_ ?_
  · refine ent (()) ?_ ?_ ?_ ?_
    · exact Eq.mpr (hJF _ _) (by intro k _ h;omega)
    all_goals simp[hF,List.replicate,am,lle_self]
  · rintro i x hi hJ;have nx:∀(h:insF s lat l[i]=true) k (hk:k<l.length),k<i+1→insF s lat l[k]=true:=fun h k hk hlt=>by
      by_cases e:k=i
      · subst e;exact h
      · exact hJ k hk (by omega)
    simp only[hF,List.replicate,am,dlt hi];refine idxL_intro (by omega) (codes_at hi) ?_;simp only[am,Ins.rec_]
    by_cases h1:l[i].op=1
    · simp only[am,Scp.rec_,Ins.rec_,decide_eq_true h1];refine cl (fis_calls s l[i].n 1 lat σ) ?_;have e:insF s lat l[i]=isF s l[i].n 1 lat:=by simp[insF,h1]
      cases hb:isF s l[i].n 1 lat with
      | false =>
        simp only[am,aml];refine retS ?_;simp[V.erase,bad i hi (by rw[e,hb])]
      | true =>
        simp only[am,aml,Ins.rec_,decide_eq_false (show ¬l[i].op=2 by omega),winc hi (by omega)];refine nxtD (()) hi ?_ ?_ ?_ ?_ ?_ ?_
        · exact Eq.mpr (hJF _ _) (nx (by rw[e,hb]))
        all_goals simp[hF,List.replicate,am,lle_self,loL,loLL,V.lo,Scp.r_lo]
    · simp only[am,Ins.rec_,decide_eq_false h1]
      by_cases h2:l[i].op=2
      · simp only[am,Scp.rec_,decide_eq_true h2];refine idxL_intro (by omega) (lats_at hlat) ?_;simp only[z31_];refine CallD.intro (pfits_calls s.lats[lat].shape l[i].c hg (hs.2.2 _ (List.getElem_mem hlat))) ?_;have e:insF s lat l[i]=fitsE s.lats[lat].shape l[i].c:=by simp[insF,h2,shapeF_at hlat]
        cases hb:fitsE s.lats[lat].shape l[i].c with
        | false =>
          simp only[am,aml];refine retS ?_;simp[V.erase,bad i hi (by rw[e,hb])]
        | true =>
          simp only[am,aml,winc hi (by omega)];refine nxtD (()) hi ?_ ?_ ?_ ?_ ?_ ?_
          · exact Eq.mpr (hJF _ _) (nx (by rw[e,hb]))
          all_goals simp[hF,List.replicate,am,lle_self,loL,loLL,V.lo,Scp.r_lo]
      · simp only[am,aml,decide_eq_false h2,winc hi (by omega)];refine nxtD (()) hi ?_ ?_ ?_ ?_ ?_ ?_
        · exact Eq.mpr (hJF _ _) (nx (by simp[insF,h1,h2]))
        all_goals simp[hF,List.replicate,am,lle_self,loL,loLL,V.lo,Scp.r_lo]
  · rintro x hJ;have e:isCodeF s lat l=rightC l:=by
      rw[isCodeF,List.all_eq_true.2 fun y hy=>by obtain⟨k,hk,rfl⟩:=List.mem_iff_getElem.1 hy;exact hJ k hk hk];rfl
    simp only[hF,List.replicate,am,aml,dnl,aml];refine cl (cright_calls l σ hl) ?_;simp only[am];refine retS ?_;simp[V.erase,e]
theorem flds_at {l:List Fld} {j:Nat} (h:j<l.length):(l.map Fld.enc)[((j:Nat):Int).toNat]?=some l[j].enc:=by simp[h]
theorem fisRow_calls (s:Scp) (lat:Nat) (t:Rtm) {σ:Store} (hs:s.ok) (hg:TZ σ) (hlat:lat<s.lats.length):PCalls prog 35 [.agg s.enc,.int .i64 (lat:Nat),.agg t.enc] σ fun r σ' => r = .bool (isRowF s lat t)∧σ' = σ:=by
  have no:∀(u:List V) (lo:List (List V)) (σ1:Store),isRowF s lat t=false→σ.sub σ1→RetK (fun r σ' => r = .bool (isRowF s lat t)∧σ' = σ) ⟨u,lo,σ1⟩ (.bool false):=fun u lo σ1 h h' => by
    rw[h];exact retK_intro rfl h' ⟨rfl,rfl⟩
  refine fn35.calls ?_;simp only[slots,ac35,am,ams,Nat.reduceAdd,Scp.rec_,Fld.rec_,Rtm.rec_,List.length_map]
  by_cases h1:16<t.fs.length
  · simp only[am,decide_eq_true (show (16:Int)<t.fs.length by omega)];exact no _ _ _ (by simp[isRowF];omega) (Store.sub_refl _)
  simp only[am,Rtm.rec_,decide_eq_false (show ¬(16:Int)<t.fs.length by omega)];have h3:t.tail<0∨(0≤t.tail∧isF s t.tail 2 lat=true)∨(0≤t.tail∧isF s t.tail 2 lat=false):=by
    rcases Int.lt_or_le t.tail 0 with h | h
    · exact .inl h
    · cases hb:isF s t.tail 2 lat with
      | false=>exact .inr (.inr ⟨h,rfl⟩)
      | true=>exact .inr (.inl ⟨h,rfl⟩)
  rcases h3 with ht | ⟨ht,hb⟩ | ⟨ht,hb⟩
  rotate_left 2
  · simp only[am,Scp.rec_,Rtm.rec_,decide_eq_true ht];refine cl (fis_calls s t.tail 2 lat σ) ?_;simp only[am,hb];exact no _ _ _ (by simp[isRowF,hb,show ¬t.tail<0 by omega]) (Store.sub_refl _)
  case' inl=>simp only[am,List.length_map,Rtm.rec_,List.length_map,decide_eq_false (show ¬0≤t.tail by omega)]
  case' inr.inl =>
    simp only[am,Scp.rec_,Rtm.rec_,decide_eq_true ht];refine cl (fis_calls s t.tail 2 lat σ) ?_;simp only[am,List.length_map,Rtm.rec_,List.length_map,hb]
  all_goals
    have htl:(decide (t.tail<0)||isF s t.tail 2 lat)=true:=by first | simp[ht];done | simp[hb];done
    have bad:∀i (hi:i<t.fs.length),(nameR t.fs[i].name&&isAtmF s lat t.fs[i].a)=false→isRowF s lat t=false:=fun i hi h=>by
      rw[isRowF,List.all_eq_false.2 ⟨t.fs[i],List.getElem_mem hi,by rw[h];simp⟩];simp
    obtain⟨F,hF⟩:∃F:Nat→Tk × Store→St,∀i x,F i x=⟨[.any,.int .i64 (lat:Nat),.any,.ptr (.loc 0) 0,.any,.any,.any,.sl x.1 1 (sCells ((t.fs.take i).map Fld.name)),.any,.any,.any,.any,.any,.any,.any,.any,.any,.any,.any,.any,.any,.any,.any,.any,.any,.any,.any,.any,.sl .no 10 (t.fs.map Fld.enc),.int .i64 (t.fs.length:Nat),.int .i64 (i:Nat)]++List.replicate 24 .any,[s.enc,t.enc],x.2⟩:=⟨_,fun _ _=>rfl⟩;obtain⟨JF,hJF⟩:∃JF:Nat→Tk × Store→Prop,∀i x,JF i x=(Gr σ x.2 x.1 i∧∀k (hk:k<t.fs.length),k<i→(nameR t.fs[k].name&&isAtmF s lat t.fs[k].a)=true):=⟨_,fun _ _=>rfl⟩;refine vc_count (t.fs.length) F JF _ hJF ?_ ?_ ?_
    · refine ent ((.full,σ)) ?_ ?_ ?_ ?_
      · exact Eq.mpr (hJF _ _) (⟨Gr.nil,by intro k _ h;omega⟩)
      all_goals simp[hF,List.replicate,am,lle_self,sCells]
    · rintro i ⟨tk,σ1⟩ hi ⟨hG,hJ⟩;simp only at hG;have nx:∀(h:(nameR t.fs[i].name&&isAtmF s lat t.fs[i].a)=true) k (hk:k<t.fs.length),k<i+1→(nameR t.fs[k].name&&isAtmF s lat t.fs[k].a)=true:=fun h k hk hlt=>by
        by_cases e:k=i
        · subst e;exact h
        · exact hJ k hk (by omega)
      have hlen:((t.fs.take i).map Fld.name).length=i:=by simp;omega
      simp only[hF,List.replicate,am,dlt hi];refine idxL_intro (by omega) (flds_at hi) ?_;simp only[am,Nat.reduceAdd,Fld.rec_];refine cl (nright_calls t.fs[i].name σ1) ?_;cases hn:nameR t.fs[i].name with
      | false =>
        simp only[am,aml];exact no _ _ _ (bad i hi (by rw[hn];rfl)) hG.1
      | true =>
        simp only[am,Scp.rec_,Atm.rec_,Fld.rec_];refine cl (fisAtom_calls s lat t.fs[i].a hs (hG.1.2.2 _ _ hg) hlat) ?_;cases hb2:isAtmF s lat t.fs[i].a with
        | false =>
          simp only[am,aml];exact no _ _ _ (bad i hi (by rw[hn,hb2];rfl)) hG.1
        | true =>
          simp only[am,Fld.rec_];refine Gr.app (by rw[sCells_len,hlen];exact hG) (by simp[sCells_len,big];omega) fun tk' σ2 hG2 _ _=>?_
          have hG3:Gr σ σ2 tk' (i+1):=by rw[List.length_append,sCells_len,hlen] at hG2;exact hG2
          have et:(t.fs.take (i+1)).map Fld.name=(t.fs.take i).map Fld.name++[t.fs[i].name]:=by rw[List.take_succ_eq_append_getElem hi,List.map_append];rfl
          simp only[am,aml,winc hi (by omega)];refine nxtD ((tk',σ2)) hi ?_ ?_ ?_ ?_ ?_ ?_
          · exact Eq.mpr (hJF _ _) (⟨hG3,nx (by rw[hn,hb2];rfl)⟩)
          all_goals simp[hF,List.replicate,am,lle_self,loL,loLL,V.lo,et,sCells_app,Scp.r_lo,Rtm.r_lo]
    · rintro⟨tk,σ1⟩ ⟨hG,hJ⟩;have e:isRowF s lat t=(twiceS (t.fs.map Fld.name)).isNone:=by
        rw[isRowF,htl,decide_eq_true (by omega),List.all_eq_true.2 fun y hy=>by obtain⟨k,hk,rfl⟩:=List.mem_iff_getElem.1 hy;exact hJ k hk hk];rfl
      simp only[hF,List.replicate,am,aml,dnl,aml,List.take_length];refine cl (PCalls.weak (as' := [.sl .no 1 (sCells (t.fs.map Fld.name))]) (twice_calls (t.fs.map Fld.name) σ1 (by simp;omega)) ⟨VLe.no,trivial⟩ OLe.rfl) ?_;simp only[am,optI_neg];rw[e];exact retK_intro rfl hG.1 ⟨rfl,rfl⟩
theorem fright_calls (s:Scp) (a:Ast) {σ:Store} (hs:s.ok) (hg:TZ σ) (hl:a.code.length≤100000):PCalls prog 13 [.agg s.enc,.agg a.enc] σ fun r σ' => r = .bool (astR s a)∧σ' = σ:=by
  obtain⟨op,lat,code,to,ra,rb,v,f⟩:=a;simp only at hl;refine fn13.calls ?_;simp only[slots,ac13,am,ams,Nat.reduceAdd,Scp.rec_];have hth:lat<0∨(0≤lat∧¬lat<s.lats.length)∨∃k:Nat,lat=k∧k<s.lats.length:=by
    rcases Int.lt_or_le lat 0 with h | h
    · exact .inl h
    · obtain⟨k,rfl⟩:=Int.eq_ofNat_of_zero_le h
      by_cases hk:k<s.lats.length
      · exact .inr (.inr ⟨k,rfl,hk⟩)
      · exact .inr (.inl ⟨h,by omega⟩)
  simp only[Ast.enc]
  rcases hth with h | ⟨h,h'⟩ | ⟨k,rfl,hk⟩
  rotate_left 2
  · simp only[am,List.length_map,Scp.rec_,ast_,List.length_map,decide_eq_true (show (0:Int)≤(k:Nat) by omega),decide_eq_true (show (k:Int)<s.lats.length by omega)]
    by_cases h10:op=10
    · simp only[am,Scp.rec_,ast_,decide_eq_true h10];refine cl (fis_calls s v 2 k σ) ?_;cases hb:isF s v 2 k with
      | false =>
        simp only[am];refine retS ?_;simp[V.erase,astR,h10,hb]
      | true =>
        simp only[am,ast_];refine cl (nright_calls f σ) ?_;simp only[am];refine retS ?_;simp[V.erase,astR,h10,hb]
    simp only[am,decide_eq_false h10]
    by_cases h9:op=9
    · simp only[am,Scp.rec_,ast_,decide_eq_true h9];refine cl (fisRow_calls s k ra hs hg hk) ?_;have e:∀b,isRowF s k ra=b→astR s ⟨op,(k:Nat),code,to,ra,rb,v,f⟩=(b&&isRowF s k rb):=fun b hb=>by
        rw[astR,if_neg h10,if_pos h9,decide_eq_true (by simp),decide_eq_true (by simpa using hk)];simp[hb]
      cases hb:isRowF s k ra with
      | false =>
        simp only[am];refine retS ?_;simp[V.erase,e _ hb]
      | true =>
        simp only[am,Scp.rec_,ast_];refine cl (fisRow_calls s k rb hs hg hk) ?_;simp only[am];refine retS ?_;simp[V.erase,e _ hb]
    simp only[am,decide_eq_false h9]
    by_cases h8:op=8
    · simp only[am,Scp.rec_,ast_,decide_eq_true h8];refine cl (fisCode_calls s k code hs hg hk hl) ?_;have e:∀b,isCodeF s k code=b→astR s ⟨op,(k:Nat),code,to,ra,rb,v,f⟩=(b&&isAtmF s k to):=fun b hb=>by
        rw[astR,if_neg h10,if_neg h9,if_pos h8,decide_eq_true (by simp),decide_eq_true (by simpa using hk)];simp[hb]
      cases hb:isCodeF s k code with
      | false =>
        simp only[am];refine retS ?_;simp[V.erase,e _ hb]
      | true =>
        simp only[am,Scp.rec_,Atm.rec_,ast_];refine cl (fisAtom_calls s k to hs hg hk) ?_;simp only[am];refine retS ?_;simp[V.erase,e _ hb]
    simp only[am,decide_eq_false h8];refine retS ?_;simp[V.erase,astR,h10,h9,h8]
  case' inl=>simp only[am,ast_,decide_eq_false (show ¬0≤lat by omega)]
  case' inr.inl =>
    simp only[am,List.length_map,Scp.rec_,ast_,List.length_map,decide_eq_true h,decide_eq_false h']
  all_goals
    have hno:(decide (0≤lat)&&decide (lat<s.lats.length))=false:=by rw[←Bool.decide_and];exact decide_eq_false (by omega)
    by_cases h10:op=10
    · simp only[am,Scp.rec_,ast_,decide_eq_true h10];refine cl (fis_calls s v 2 lat σ) ?_;cases hb:isF s v 2 lat with
      | false =>
        simp only[am];refine retS ?_;simp[V.erase,astR,h10,hb]
      | true =>
        simp only[am,ast_];refine cl (nright_calls f σ) ?_;simp only[am];refine retS ?_;simp[V.erase,astR,h10,hb]
    simp only[am,decide_eq_false h10]
    by_cases h9:op=9
    · simp only[am,decide_eq_true h9];refine retS ?_;simp[V.erase,astR,h9,hno]
    simp only[am,decide_eq_false h9]
    by_cases h8:op=8
    · simp only[am,decide_eq_true h8];refine retS ?_;simp[V.erase,astR,h8,hno]
    simp only[am,decide_eq_false h8];refine retS ?_;simp[V.erase,astR,h10,h9,h8]
end Go.Proofs.Tryz

namespace Go.Proofs.Tryz
open Go.Am
set_option maxRecDepth 4000
set_option maxHeartbeats 4000000
end Go.Proofs.Tryz

namespace Go.Proofs.Tryz
open Go.Am
set_option maxRecDepth 4000
set_option maxHeartbeats 4000000
end Go.Proofs.Tryz

namespace Go.Proofs.Tryz
open Go.Am
set_option maxRecDepth 4000
set_option maxHeartbeats 4000000
end Go.Proofs.Tryz

namespace Go.Proofs.Tryz
open Go.Am
set_option maxRecDepth 4000
set_option maxHeartbeats 4000000
def ac79:AC:=.seq (.reg [⟨(some 2),.mv (.c (.str [])),none⟩])
 (.seq (.reg [⟨(some 4),.bslice 1 [(.c (.str [])),(.c (.str [110,119])),(.c (.str [110,119])),(.c (.str [110,119])),(.c (.str [110,119,112])),(.c (.str [110,119,112])),(.c (.str [110,119])),(.c (.str [110,119])),(.c (.str [110,116,116])),(.c (.str [110,114,114])),(.c (.str [110,102])),(.c (.str [])),(.c (.str [])),(.c (.str [])),(.c (.str [])),(.c (.str [110]))],none⟩,xm 3 4])
 (.seq (.seq (.reg [xm 5 0,xB .lss 6 5 0,xm 7 6,xh 7 (xm 8 0),xh 7 (xm 9 3),xh 7 (xL 10 9),xh 7 (xb .geq 11 8 10),⟨(some 12),.pick (.s 7) (.c (.bool true)) (.s 11),none⟩])
 (.cond (.s 12) (.seq (.reg [⟨(some 2),.mv (.c (.str [])),none⟩])
 (.ret))
 (.skip)))
 (.seq (.reg [xm 13 3,xm 14 0,xA 1 15 13 14,xo 16 15,xm 2 16])
 (.ret))))
theorem fn79:IsFn prog 79 ac79 [.tmp 2] 17:=⟨f79,⟨[],[],[]⟩,func79,by kernel_rfl,by kernel_rfl,by kernel_rfl,by kernel_rfl⟩
theorem form2_at {op:Int} (h0:0≤op) (h1:op<16):(formT.map fun p=>[V.str p.2])[op.toNat]?=some [V.str (formOf op).2]:=by
  have hl:op.toNat<formT.length:=by simp[formT];omega
  rw[List.getElem?_map,List.getElem?_eq_getElem hl];simp only[formOf,if_pos (show 0≤op∧op<16 from⟨h0,h1⟩),List.getD,List.getElem?_eq_getElem hl,Option.map_some,Option.getD_some]
theorem letters_calls (op:Int) (σ:Store):PCalls prog 79 [.int .i64 op] σ fun v σ' => v = .str (formOf op).2∧σ' = σ:=by
  refine fn79.calls ?_;simp only[slots,ac79,am,ams]
  by_cases h0:op<0
  · simp only[am,decide_eq_true h0];refine retS ?_;simp[V.erase,formOf,show ¬(0≤op∧op<16) by omega]
  · simp only[am,Nat.reduceAdd,decide_eq_false h0]
    by_cases h1:16≤op
    · simp only[am,decide_eq_true (show ((16:Nat):Int)≤op from h1)];refine retS ?_;simp[V.erase,formOf,show ¬(0≤op∧op<16) by omega]
    · simp only[am,decide_eq_false (show ¬((16:Nat):Int)≤op from h1)];refine idxL_intro (by omega) (form2_at (by omega) (by omega)) ?_;simp only[am];refine retS ?_;simp[V.erase]
end Go.Proofs.Tryz

namespace Go.Proofs.Tryz
open Go.Am
set_option maxRecDepth 4000
set_option maxHeartbeats 4000000
end Go.Proofs.Tryz

namespace Go.Proofs.Tryz
open Go.Am
set_option maxRecDepth 4000
set_option maxHeartbeats 4000000
section
variable {c:Cmd}
theorem c_len:c.enc.length=17:=rfl
theorem c_one:oneL c.enc=true:=rfl
theorem c_nol:nolL c.enc=true:=rfl
theorem c_er:eraseL c.enc=c.enc:=rfl
theorem c_tk:takeN 17 c.enc=some c.enc:=rfl
theorem c_ov {z0 z1 z2 z3 z4 z5 z6 z7 z8 z9 z10 z11 z12 z13 z14 z15 z16:V}:over [z0,z1,z2,z3,z4,z5,z6,z7,z8,z9,z10,z11,z12,z13,z14,z15,z16] c.enc=c.enc:=rfl
theorem c_lk:ldC false 1 (c.enc.drop 7)=some (.int .i64 c.left.kind):=rfl
theorem c_sname {w:Word}:setAt c.enc 2 w.enc=({c with name:=w}:Cmd).enc:=rfl
theorem c_hname:hasN 2 (c.enc.drop 2)=true:=rfl
theorem c_snames {ws:List Word}:setAt c.enc 4 [.sl .no 2 (ws.map Word.enc)]=({c with names:=ws}:Cmd).enc:=rfl
theorem c_hnames:hasN 1 (c.enc.drop 4)=true:=rfl
theorem c_spairs {ps:List (Word × Word)}:setAt c.enc 5 [.sl .no 4 (ps.map penc)]=({c with pairs:=ps}:Cmd).enc:=rfl
theorem c_hpairs:hasN 1 (c.enc.drop 5)=true:=rfl
theorem c_spat {n:Int}:setAt c.enc 6 [.int .i64 n]=({c with pairsAt:=n}:Cmd).enc:=rfl
theorem c_hpat:hasN 1 (c.enc.drop 6)=true:=rfl
theorem c_sl {n:Nd}:setAt c.enc 7 n.enc=({c with left:=n}:Cmd).enc:=by rw[Nd.enc_eq];rfl
theorem c_hl:hasN 5 (c.enc.drop 7)=true:=rfl
theorem c_sr {n:Nd}:setAt c.enc 12 n.enc=({c with right:=n}:Cmd).enc:=by rw[Nd.enc_eq];rfl
theorem c_hr:hasN 5 (c.enc.drop 12)=true:=rfl
def cfl:=And.intro @c_len <| And.intro @c_one <| And.intro @c_nol <| And.intro @c_er <| And.intro @c_tk <| And.intro @c_ov <| And.intro @c_lk <| And.intro @c_sname <| And.intro @c_hname <| And.intro @c_snames <| And.intro @c_hnames <| And.intro @c_spairs <| And.intro @c_hpairs <| And.intro @c_spat <| And.intro @c_hpat <| And.intro @c_sl <| And.intro @c_hl <| And.intro @c_sr @c_hr
end
end Go.Proofs.Tryz

namespace Go.Proofs.Tryz
open Go.Am
set_option maxRecDepth 4000
set_option maxHeartbeats 4000000
end Go.Proofs.Tryz

namespace Go.Proofs.Tryz
open Go.Am
set_option maxRecDepth 4000
set_option maxHeartbeats 4000000
end Go.Proofs.Tryz

namespace Go.Proofs.Tryz
open Go.Am
set_option maxRecDepth 4000
set_option maxHeartbeats 4000000
structure Lvl where
  tok:Tok
  tk:Tk
  ahead:List Tree
def Lvl.enc (x:Lvl):List V:=[.int .u8 x.tok.kind,.str x.tok.text,.int .i64 x.tok.pos,.sl x.tk 5 (encs x.ahead)]
def Lvl.pair (x:Lvl):Tok × List Tree:=(x.tok,x.ahead)
end Go.Proofs.Tryz

namespace Go.Proofs.Tryz
open Go.Am
set_option maxRecDepth 4000
set_option maxHeartbeats 4000000
end Go.Proofs.Tryz

namespace Go.Proofs.Tryz
open Go.Am
set_option maxRecDepth 4000
set_option maxHeartbeats 4000000
def ac113:AC:=.seq (.reg [⟨(some 2),.alloc [(.str []),(.str [])],none⟩])
 (.seq (.seq (.reg [xm 3 0,xB .lss 4 3 0,xm 5 4,xh 5 (xm 6 0),xh 5 (xB .geq 7 6 16),⟨(some 8),.pick (.s 5) (.c (.bool true)) (.s 7),none⟩])
 (.cond (.s 8) (.seq (.reg [⟨(some 9),.build [(.str []),(.str [])] [],none⟩,xs 2 2 9])
 (.ret))
 (.skip)))
 (.seq (.reg [xm 10 0,⟨(some 11),.idxP 16 2 (.c (.ptr (.glo 0) 0)) (.s 10),none⟩,xl 2 12 11,xs 2 2 12])
 (.ret)))
theorem fn113:IsFn prog 113 ac113 [.cell 2 true 2] 13:=⟨f113,⟨[],[],[]⟩,func113,by kernel_rfl,by kernel_rfl,by kernel_rfl,by kernel_rfl⟩
theorem form_drop {i:Nat} (h:i<16):formCells.drop (i*2)=[V.str (formT.getD i ([],[])).1,.str (formT.getD i ([],[])).2]++((formT.map fun p=>[V.str p.1,V.str p.2]).drop (i+1)).flatten:=by
  unfold formCells;rw[flatten_drop (k:=2) (by intro r hr;simp only[List.mem_map] at hr;obtain⟨p,_,rfl⟩:=hr;rfl),List.drop_eq_getElem_cons (by simpa [formT] using h)]
  have:i<formT.length:=by simpa [formT] using h
  simp[List.getD,this]
theorem of_calls (op:Int) {σ:Store} (hg:σ.con 0=some formCells):PCalls prog 113 [.int .i64 op] σ fun v σ' => v = .agg [.str (formOf op).1,.str (formOf op).2]∧σ' = σ:=by
  refine fn113.calls ?_;simp only[slots,ac113,am,ams]
  by_cases h0:op<0
  · simp only[am,Nat.reduceAdd,decide_eq_true h0];refine retK_intro rfl (Store.sub_refl _) ⟨?_,rfl⟩
    have:¬(0≤op∧op<16):=by omega
    simp[V.erase,eraseL,formOf,this]
  · simp only[am,decide_eq_false h0]
    by_cases h1:16≤op
    · simp only[am,Nat.reduceAdd,decide_eq_true h1];refine retK_intro rfl (Store.sub_refl _) ⟨?_,rfl⟩
      have:¬(0≤op∧op<16):=by omega
      simp[V.erase,eraseL,formOf,this]
    · simp only[am,amc,decide_eq_false h1];refine idxPL_ptr (by omega) (by omega) ?_;simp only[am,Nat.reduceAdd,hg,form_drop (show op.toNat<16 by omega)];refine retK_intro rfl (Store.sub_refl _) ⟨?_,rfl⟩
      have:0≤op∧op<16:=by omega
      simp[V.erase,eraseL,formOf,this]
end Go.Proofs.Tryz

namespace Go.Proofs.Tryz
open Go.Am
set_option maxRecDepth 4000
set_option maxHeartbeats 4000000
section
variable {σ:Store} {r q τ:Nat} {i i' rd:Rdr} {c:Cmd} {acc:List (Word × Word)}
end
end Go.Proofs.Tryz

namespace Go.Proofs.Tryz
open Go.Am
set_option maxRecDepth 4000
set_option maxHeartbeats 4000000
section
variable {rd:Rdr} {c:Cmd} {pc:V} {cs:List V}
end
end Go.Proofs.Tryz

namespace Go.Proofs.Tryz
open Go.Am
set_option maxRecDepth 4000
set_option maxHeartbeats 4000000
end Go.Proofs.Tryz

namespace Go.Proofs.Tryz
open Go.Am
set_option maxRecDepth 4000
set_option maxHeartbeats 4000000
section
variable {c:Cmd}
theorem c_lop:ldC false 1 c.enc=some (.int .i64 c.op):=rfl
theorem c_lop0:ldC false 1 (c.enc.drop 0)=some (.int .i64 c.op):=rfl
theorem c_lp:ldC false 1 (c.enc.drop 1)=some (.int .i64 c.pos):=rfl
def cfo:=And.intro @c_lop <| And.intro @c_lop0 @c_lp
end
theorem form_len (op:Int):(formOf op).2.length≤3:=by
  unfold formOf;split
  · rename_i h1;have hlt:op.toNat<16:=by omega
    generalize op.toNat=n at hlt ⊢;have key:∀n<16,(formT.getD n ([],[])).2.length≤3:=by decide
    exact key n hlt
  · simp
end Go.Proofs.Tryz

namespace Go.Proofs.Tryz
open Go.Am
set_option maxRecDepth 4000
set_option maxHeartbeats 4000000
end Go.Proofs.Tryz

namespace Go.Proofs.Tryz
open Go.Am
set_option maxRecDepth 4000
set_option maxHeartbeats 4000000
section
variable {c:Cmd}
theorem c_l2:ldC false 1 (c.enc.drop 2)=some (.str c.name.text):=rfl
theorem c_t2:takeN 2 (c.enc.drop 2)=some [.str c.name.text,.int .i64 c.name.pos]:=rfl
theorem c_l4:ldC false 1 (c.enc.drop 4)=some (.sl .no 2 (c.names.map Word.enc)):=rfl
theorem c_l5:ldC false 1 (c.enc.drop 5)=some (.sl .no 4 (c.pairs.map penc)):=rfl
theorem c_l6:ldC false 1 (c.enc.drop 6)=some (.int .i64 c.pairsAt):=rfl
theorem c_t7:takeN 5 (c.enc.drop 7)=some c.left.enc:=by rw[Nd.enc_eq];rfl
theorem c_t12:takeN 5 (c.enc.drop 12)=some c.right.enc:=by rw[Nd.enc_eq];rfl
def cfv:=And.intro @c_l2 <| And.intro @c_t2 <| And.intro @c_l4 <| And.intro @c_l5 <| And.intro @c_l6 <| And.intro @c_t7 @c_t12
end
theorem pencs_at {l:List (Word × Word)} {j:Nat} {p:Word × Word} (h:l[j]?=some p):(l.map penc)[(j:Int).toNat]?=some (penc p):=by simp[h]
end Go.Proofs.Tryz

namespace Go.Proofs.Tryz
open Go.Am
set_option maxRecDepth 4000
set_option maxHeartbeats 4000000
def ac17:AC:=.seq (.reg [⟨(some 2),.box 2 (.s 0),none⟩,⟨(some 3),.box 17 (.s 1),none⟩,⟨(some 4),.alloc [(.int .i64 0),(.int .i64 0)],none⟩])
 (.seq (.reg [xl 2 6 2,xf 1 7 3,xo 8 7,⟨(some 9),.build [(.sl .full 2 []),(.sl .full 3 []),(.sl .full 3 []),(.int .i64 0),(.int .i64 0)] [(1,2,(.s 6)),(3,1,(.c (.int .i64 (-1)))),(4,1,(.s 8))],none⟩,⟨(some 10),.boxO 5 (.s 9),none⟩,xm 5 10])
 (.seq (.seq (.upd (.reg [xf 0 11 3,xo 12 11]))
 (.block 0 (.seq (.reg [xB .eql 14 12 10,xm 13 14])
 (.cond (.s 13) (.reg [xm 15 5,xf 2 16 3,xf 0 17 16,xo 18 17,xf 2 19 3,xf 1 20 19,xo 21 20,xc 51 22 [.s 15,.s 18,.s 21,.c (.int .i64 2)]])
 (.seq (.reg [xB .eql 24 12 15,xm 23 24])
 (.cond (.s 23) (.reg [xm 25 5,xf 2 26 3,xf 0 27 26,xo 28 27,xf 2 29 3,xf 1 30 29,xo 31 30,xc 51 32 [.s 25,.s 28,.s 31,.c (.int .i64 1)]])
 (.seq (.reg [xB .eql 34 12 8,xm 33 34])
 (.cond (.s 33) (.seq (.reg [xm 35 5,xf 2 36 3,xl 2 37 36,xc 52 38 [.s 35,.s 37]])
 (.seq (.reg [xm 39 5,xf 7 40 3,xl 5 41 40,xc 53 42 [.s 39,.s 41]])
 (.seq (.reg [xm 43 5,xf 12 44 3,xl 5 45 44,xc 53 46 [.s 43,.s 45]])
 (.draw [(xm 47 5,[]),(xk 48 47,[]),(xf 0 49 48,[]),(xf 12 50 3,[]),(xf 0 51 50,[]),(xo 52 51,[]),(xB .eql 53 52 8,[]),(xm 54 53,[]),(xh 54 (xf 12 55 3),[]),(xh 54 (xf 0 56 55),[]),(xh 54 (xo 57 56),[]),(xh 54 (xB .eql 58 57 9),[]),(⟨(some 59),.pick (.s 54) (.c (.bool true)) (.s 58),none⟩,[]),(xf 12 60 3,[]),(xf 1 61 60,[]),(xo 62 61,[]),(xc 54 63 [.s 49,.s 59,.c (.int .i64 6),.s 62],[])]))))
 (.seq (.reg [xB .eql 65 12 9,xm 64 65])
 (.cond (.s 64) (.seq (.reg [xm 66 5,xf 2 67 3,xl 2 68 67,xc 52 69 [.s 66,.s 68]])
 (.seq (.reg [xm 70 5,xf 7 71 3,xl 5 72 71,xc 55 73 [.s 70,.s 72]])
 (.reg [xm 74 5,xf 12 75 3,xl 5 76 75,xc 55 77 [.s 74,.s 76]])))
 (.skip)))))))))))
 (.seq (.reg [xm 78 5,xk 79 78,xf 0 80 79,xf 0 81 80,xo 82 81,xc 56 83 [.s 82],xs 2 4 83])
 (.ret))))
theorem fn17:IsFn prog 17 ac17 [.cell 4 true 2] 84:=⟨f17,⟨[10],[2],[]⟩,func17,by kernel_rfl,by kernel_rfl,by kernel_rfl,by kernel_rfl⟩
def ac56:AC:=.seq (.reg [⟨(some 2),.alloc [(.int .i64 0),(.int .i64 0)],none⟩])
 (.seq (.reg [⟨(some 3),.alloc [(.int .i64 0),(.int .i64 0)],none⟩])
 (.seq (.seq (.reg [xm 6 0,xL 7 6,xi 8 0])
 (.block 0 (.loop (.seq (.reg [xb .lss 9 8 7])
 (.seq (.cond (.s 9) (.skip)
 (.exit 0))
 (.seq (.block 1 (.seq (.reg [xA 2 10 6 8,xl 2 11 10,⟨(some 5),.alloc [(.int .i64 0),(.int .i64 0)],none⟩,xs 2 5 11])
 (.seq (.seq (.reg [xf 0 12 5,xo 13 12,xB .eql 14 13 0])
 (.cond (.s 14) (.exit 1)
 (.skip)))
 (.seq (.reg [xf 0 15 3,xo 16 15,xB .eql 17 16 0,xm 18 17,xh 18 (xf 0 19 5),xh 18 (xo 20 19),xh 18 (xf 0 21 3),xh 18 (xo 22 21),xh 18 (xb .lss 23 20 22),⟨(some 24),.pick (.s 18) (.c (.bool true)) (.s 23),none⟩,xm 25 24,xh 25 (xf 0 26 5),xh 25 (xo 27 26),xh 25 (xf 0 28 3),xh 25 (xo 29 28),xh 25 (xb .eql 30 27 29),xh 25 (xm 31 30),xg 31 (xf 1 32 5),xg 31 (xo 33 32),xg 31 (xf 1 34 3),xg 31 (xo 35 34),xg 31 (xb .lss 36 33 35),⟨(some 37),.pick (.s 31) (.s 36) (.c (.bool false)),(some (25,false))⟩,⟨(some 38),.pick (.s 25) (.c (.bool true)) (.s 37),none⟩])
 (.cond (.s 38) (.reg [xl 2 39 5,xs 2 3 39])
 (.skip))))))
 (.reg [xB .add 40 8 1,xm 8 40])))))))
 (.seq (.reg [xl 2 41 3,xs 2 2 41])
 (.ret))))
theorem fn56:IsFn prog 56 ac56 [.cell 2 true 2] 42:=⟨f56,⟨[],[],[]⟩,func56,by kernel_rfl,by kernel_rfl,by kernel_rfl,by kernel_rfl⟩
section
variable {c:Cmd}
theorem c_l3:ldC false 1 (c.enc.drop 3)=some (.int .i64 c.name.pos):=rfl
theorem c_l12:ldC false 1 (c.enc.drop 12)=some (.int .i64 c.right.kind):=rfl
theorem c_l13:ldC false 1 (c.enc.drop 13)=some (.int .i64 c.right.pos):=rfl
def cfx:=And.intro @c_l3 <| And.intro @c_l12 @c_l13
end
theorem flts_at {l:List Flt} {j:Nat} (h:j<l.length):(l.map Flt.enc)[((j:Nat):Int).toNat]?=some l[j].enc:=by simp[h]
theorem least_calls (l:List Flt) (σ:Store) (hl:l.length≤1000000):PCalls prog 56 [.sl .no 2 (l.map Flt.enc)] σ fun v σ' => v = .agg (leastF l).enc∧σ' = σ:=by
  refine fn56.calls ?_;simp only[slots,ac56,am,ams,List.length_map];obtain⟨F,hF⟩:∃F:Nat→Unit→St,∀i x,F i x=⟨[.any,.any,.ptr (.loc 0) 0,.ptr (.loc 1) 0,.any,.any,.sl .no 2 (l.map Flt.enc),.int .i64 (l.length:Nat),.int .i64 (i:Nat)]++List.replicate 33 .any,[Flt.zero.enc,(leastF (l.take i)).enc],σ⟩:=⟨_,fun _ _=>rfl⟩;obtain⟨JF,hJF⟩:∃JF:Nat→Unit→Prop,∀i x,JF i x=(True):=⟨_,fun _ _=>rfl⟩;refine vc_count (l.length) F JF _ hJF ?_ ?_ ?_
  · refine ent (()) ?_ ?_ ?_ ?_
    · exact Eq.mpr (hJF _ _) (trivial)
    all_goals simp[hF,List.replicate,am,lle_self,leastF,Flt.zero,Flt.enc]
  · rintro i x hi -;have hT:=least_take hi;simp only[hF,List.replicate,am,dlt hi];refine idxL_intro (by omega) (flts_at hi) ?_;simp only[am,Nat.reduceAdd,Flt.rec_];generalize leastF (l.take i)=o at hT;generalize l[i]=f at hT
    by_cases h0:f.cls=0
    · rw[bestF,if_pos h0] at hT;simp only[am,aml,reduceCtorEq,Flt.rec_,decide_eq_true h0,winc hi (by omega)];refine nxtD (()) hi ?_ ?_ ?_ ?_ ?_ ?_
      · exact Eq.mpr (hJF _ _) (trivial)
      all_goals simp[hF,List.replicate,am,lle_self,loL,loLL,V.lo,hT,Flt.r_lo]
    rw[bestF,if_neg h0] at hT;simp only[am,Flt.rec_,decide_eq_false h0];have yes:lessF o f=true→leastF (l.take (i+1))=f:=fun h=>by rw[hT,h,if_pos rfl]
    have no:lessF o f=false→leastF (l.take (i+1))=o:=fun h=>by rw[hT,h];rfl
    by_cases h1:o.cls=0
    · have e:=yes (by simp[lessF,h1]);simp only[am,aml,Flt.rec_,decide_eq_true h1,winc hi (by omega)];refine nxtD (()) hi ?_ ?_ ?_ ?_ ?_ ?_
      · exact Eq.mpr (hJF _ _) (trivial)
      all_goals simp[hF,List.replicate,am,lle_self,loL,loLL,V.lo,e,Flt.r_lo]
    simp only[am,Flt.rec_,decide_eq_false h1]
    by_cases h2:f.cls<o.cls
    · have e:=yes (by simp[lessF,h2]);simp only[am,aml,Flt.rec_,decide_eq_true h2,winc hi (by omega)];refine nxtD (()) hi ?_ ?_ ?_ ?_ ?_ ?_
      · exact Eq.mpr (hJF _ _) (trivial)
      all_goals simp[hF,List.replicate,am,lle_self,loL,loLL,V.lo,e,Flt.r_lo]
    simp only[am,Flt.rec_,decide_eq_false h2]
    by_cases h3:f.cls=o.cls
    case neg =>
      have e:=no (by simp[lessF,h1,h2,h3]);simp only[am,aml,decide_eq_false h3,winc hi (by omega)];refine nxtD (()) hi ?_ ?_ ?_ ?_ ?_ ?_
      · exact Eq.mpr (hJF _ _) (trivial)
      all_goals simp[hF,List.replicate,am,lle_self,loL,loLL,V.lo,e,Flt.r_lo]
    simp only[am,Flt.rec_,decide_eq_true h3]
    by_cases h4:f.loc<o.loc
    · have e:=yes (by simp[lessF,h3,h4]);simp only[am,aml,Flt.rec_,decide_eq_true h4,winc hi (by omega)];refine nxtD (()) hi ?_ ?_ ?_ ?_ ?_ ?_
      · exact Eq.mpr (hJF _ _) (trivial)
      all_goals simp[hF,List.replicate,am,lle_self,loL,loLL,V.lo,e,Flt.r_lo]
    · have e:=no (by simp[lessF,h1,h2,h4]);simp only[am,aml,decide_eq_false h4,winc hi (by omega)];refine nxtD (()) hi ?_ ?_ ?_ ?_ ?_ ?_
      · exact Eq.mpr (hJF _ _) (trivial)
      all_goals simp[hF,List.replicate,am,lle_self,loL,loLL,V.lo,e,Flt.r_lo]
  · rintro x -;simp only[hF,List.replicate,am,aml,dnl,aml,Flt.rec_,List.take_length];refine retS ?_;simp[V.erase,Flt.r_er]
theorem fitfault_calls (s:Scp) (c:Cmd) {σ:Store} (hs:s.ok) (hg:TZ σ) (hl:c.left.cnt≤500) (hr:c.right.cnt≤500) (hwl:c.left.wt≤big) (hwr:c.right.wt≤big) :
    PCalls prog 17 [.agg s.enc,.agg c.enc] σ fun v σ' => v = .agg (faultC s c).enc∧σ' = σ:=by
  refine fn17.calls ?_;simp only[slots,ac17,am,ams,Nat.reduceAdd,Int.reduceNeg,wr_,Scp.rec_,cfl,cfo];intro b hb;simp only[am,Int.reduceNeg];refine Upd.tok 0 fun τ hτ=>⟨_,_,(σ.set b _).set b (wenc τ [] s (-1) c.pos),LTo.rfl,rfl,fun i c' hc=>⟨c',hc,LTo.rfl⟩,OTo.set set_box (by simp[wenc,lto]),?_⟩
  have hτ:σ.tip τ=none:=hτ;rw[Store.set_set,show (σ.set b (wenc τ [] s (-1) c.pos)).setTip τ 0=wput σ b τ [] s (-1) c.pos from rfl];have fin:∀(L:List Flt) (t:List V) (lo:List (List V)) (lat:Int),leastF L=faultC s c→RetK (fun v σ' => v = .agg (faultC s c).enc∧σ' = σ) ⟨t,lo,wput σ b τ L s lat c.pos⟩ (.agg (leastF L).enc):=fun L t lo lat h=>by
    rw[h];exact retK_intro rfl (wput_sub hb hτ) ⟨rfl,rfl⟩
  have hv:∀{t:List UInt8} {y k lat:Int},(varFl s lat t y k).length≤1:=varFl_len;have hlatl:=@latFl_len s c.name;have e1:optI (findL s.lats c.name.text)=latI s c:=rfl;have hlt:latI s c<s.lats.length:=by
    rw[latI];cases h:findL s.lats c.name.text with
    | none=>simp only[optI];omega
    | some k=>have:=(find_lt h).1;simp only[optI];omega
  simp only[am,Int.reduceNeg,cfo]
  by_cases h10:c.op=10
  · simp only[am,Nat.reduceAdd,Int.reduceNeg,cfv,cfx,decide_eq_true h10];refine cl (svar_calls σ b τ [] s (-1) c.pos c.name.pos 2 c.name.text (by simp) hs) ?_;simp only[am,Int.reduceNeg,wr_,List.nil_append];have hlen:=@varFl_len s (-1) c.name.text c.name.pos 2;refine cl (PCalls.weak (as' := [.sl .no 2 ((varFl s (-1) c.name.text c.name.pos 2).map Flt.enc)]) (least_calls (varFl s (-1) c.name.text c.name.pos 2) _ (by omega)) ⟨VLe.no,trivial⟩ OLe.rfl) ?_;simp only[am,Int.reduceNeg,Flt.rec_];exact fin _ _ _ _ (by rw[faultC,cmdFl];rw[if_pos h10])
  simp only[am,Int.reduceNeg,decide_eq_false h10]
  by_cases h15:c.op=15
  · simp only[am,Nat.reduceAdd,Int.reduceNeg,cfv,cfx,decide_eq_true h15];refine cl (svar_calls σ b τ [] s (-1) c.pos c.name.pos 1 c.name.text (by simp) hs) ?_;simp only[am,Int.reduceNeg,wr_,List.nil_append];have hlen:=@varFl_len s (-1) c.name.text c.name.pos 1;refine cl (PCalls.weak (as' := [.sl .no 2 ((varFl s (-1) c.name.text c.name.pos 1).map Flt.enc)]) (least_calls (varFl s (-1) c.name.text c.name.pos 1) _ (by omega)) ⟨VLe.no,trivial⟩ OLe.rfl) ?_;simp only[am,Int.reduceNeg,Flt.rec_];exact fin _ _ _ _ (by rw[faultC,cmdFl];rw[if_neg h10,if_pos h15])
  simp only[am,Int.reduceNeg,decide_eq_false h15]
  by_cases h8:c.op=8
  · simp only[am,Int.reduceNeg,cfv,decide_eq_true h8];have l1:=@labFl_len s (latI s c) c.left;have l2:=@labFl_len s (latI s c) c.right;refine cl (slat_calls σ b τ [] s (-1) c.pos c.name (by simp) hs) ?_;rw[e1,List.nil_append];simp only[am,Int.reduceNeg,Nd.rec_,cfv];refine cl (slabel_calls σ b τ (latFl s c.name) s (latI s c) c.pos c.left hs hg hb hlt (by omega) (by omega) hwl) ?_;simp only[am,Int.reduceNeg,Nd.rec_,cfv];refine cl (slabel_calls σ b τ (latFl s c.name++labFl s (latI s c) c.left) s (latI s c) c.pos c.right hs hg hb hlt (by simp only[List.length_append];omega) (by omega) hwr) ?_;simp only[am,Int.reduceNeg,cfx];have hlen:(latFl s c.name++labFl s (latI s c) c.left++labFl s (latI s c) c.right).length≤1001:=by simp only[List.length_append];omega
    have done:∀(d:List Flt) (t:List V) (lo:List (List V)),d=defFl c.right→RetK (fun v σ' => v = .agg (faultC s c).enc∧σ' = σ) ⟨t,lo,wput σ b τ ((latFl s c.name++labFl s (latI s c) c.left++labFl s (latI s c) c.right)++d) s (latI s c) c.pos⟩ (.agg (leastF ((latFl s c.name++labFl s (latI s c) c.left++labFl s (latI s c) c.right)++d)).enc):=fun d t lo hd=>fin _ _ _ _ (by rw[faultC,cmdFl,if_neg h10,if_neg h15,if_pos h8,hd])
    by_cases k8:c.right.kind=8∨c.right.kind=9
    · have hsel:(decide (c.right.kind=8)=true)∨(decide (c.right.kind=8)=false∧decide (c.right.kind=9)=true):=by
        by_cases h:c.right.kind=8
        · exact .inl (decide_eq_true h)
        · exact .inr ⟨decide_eq_false h,decide_eq_true (by simpa [h] using k8)⟩
      rcases hsel with q1 | ⟨q1,q2⟩
      case' inl=>simp only[am,Nat.reduceAdd,Int.reduceNeg,cfx,q1]
      case' inr=>simp only[am,Nat.reduceAdd,Int.reduceNeg,cfx,q1,q2]
      all_goals
        refine CallD.intro (tell_add σ b τ (latFl s c.name++labFl s (latI s c) c.left++labFl s (latI s c) c.right) s (latI s c) c.pos 6 c.right.pos (by omega)) ?_;simp only[am,Int.reduceNeg,wr_];refine cl (PCalls.weak (as' := [.sl .no 2 (((latFl s c.name++labFl s (latI s c) c.left++labFl s (latI s c) c.right)++[(⟨6,c.right.pos⟩:Flt)]).map Flt.enc)]) (least_calls ((latFl s c.name++labFl s (latI s c) c.left++labFl s (latI s c) c.right)++[(⟨6,c.right.pos⟩:Flt)]) _ (by simp only[List.length_append,List.length_singleton];omega)) ⟨VLe.no,trivial⟩ OLe.rfl) ?_;simp only[am,Int.reduceNeg,Flt.rec_];exact done _ _ _ (by rw[defFl,if_pos k8])
    · simp only[am,Nat.reduceAdd,Int.reduceNeg,cfx,decide_eq_false (fun h=>k8 (.inl h)),decide_eq_false (fun h=>k8 (.inr h))];refine CallD.intro (tell_id σ b τ (latFl s c.name++labFl s (latI s c) c.left++labFl s (latI s c) c.right) s (latI s c) c.pos 6 c.right.pos (by omega)) ?_;simp only[am,Int.reduceNeg,wr_];refine cl (PCalls.weak (as' := [.sl .no 2 ((latFl s c.name++labFl s (latI s c) c.left++labFl s (latI s c) c.right).map Flt.enc)]) (least_calls (latFl s c.name++labFl s (latI s c) c.left++labFl s (latI s c) c.right) _ (by omega)) ⟨VLe.no,trivial⟩ OLe.rfl) ?_;simp only[am,Int.reduceNeg,Flt.rec_]
      have:=done [] ?_ ?_ (by rw[defFl,if_neg k8])
      · rw[List.append_nil] at this;exact this
  simp only[am,Int.reduceNeg,decide_eq_false h8]
  by_cases h9:c.op=9
  · simp only[am,Int.reduceNeg,cfv,decide_eq_true h9];refine cl (slat_calls σ b τ [] s (-1) c.pos c.name (by simp) hs) ?_;rw[e1,List.nil_append];simp only[am,Int.reduceNeg,Nd.rec_,cfv];refine cl (srow_calls σ b τ (latFl s c.name) s (latI s c) c.pos c.left hs hg hb hlt (by omega) hl hwl) ?_;simp only[am,Int.reduceNeg,Nd.rec_,cfv];have r1:=@rowFl_len s (latI s c) c.pos c.left hl;have r2:=@rowFl_len s (latI s c) c.pos c.right hr;refine cl (srow_calls σ b τ (latFl s c.name++rowFl s (latI s c) c.pos c.left) s (latI s c) c.pos c.right hs hg hb hlt (by simp only[List.length_append];omega) hr hwr) ?_;simp only[am,Int.reduceNeg,wr_];refine cl (PCalls.weak (as' := [.sl .no 2 ((latFl s c.name++rowFl s (latI s c) c.pos c.left++rowFl s (latI s c) c.pos c.right).map Flt.enc)]) (least_calls (latFl s c.name++rowFl s (latI s c) c.pos c.left++rowFl s (latI s c) c.pos c.right) _ (by simp only[List.length_append];omega)) ⟨VLe.no,trivial⟩ OLe.rfl) ?_;simp only[am,Int.reduceNeg,Flt.rec_];exact fin _ _ _ _ (by rw[faultC,cmdFl];rw[if_neg h10,if_neg h15,if_neg h8,if_pos h9])
  simp only[am,Int.reduceNeg,wr_,decide_eq_false h9];refine cl (PCalls.weak (as' := [.sl .no 2 (([]:List Flt).map Flt.enc)]) (least_calls ([]:List Flt) _ (by simp)) ⟨VLe.no,trivial⟩ OLe.rfl) ?_;simp only[am,Int.reduceNeg,Flt.rec_];exact fin _ _ _ _ (by rw[faultC,cmdFl];rw[if_neg h10,if_neg h15,if_neg h8,if_neg h9])
end Go.Proofs.Tryz

namespace Go.Proofs.Tryz
open Go.Am
set_option maxRecDepth 4000
set_option maxHeartbeats 4000000
def ac88:AC:=.seq (.reg [⟨(some 2),.mv (.c (.sl .full 1 [])),none⟩])
 (.seq (.reg [⟨(some 3),.mv (.c (.sl .full 1 [])),none⟩])
 (.seq (.seq (.reg [xm 6 0,xL 7 6,xi 8 0])
 (.block 0 (.loop (.seq (.reg [xb .lss 9 8 7])
 (.seq (.cond (.s 9) (.skip)
 (.exit 0))
 (.seq (.block 1 (.seq (.reg [xA 2 10 6 8,xl 2 11 10,⟨(some 5),.alloc [(.str []),(.int .i64 0)],none⟩,xs 2 5 11])
 (.reg [xm 12 3,xf 0 13 5,xo 14 13,⟨(some 15),.bslice 1 [(.s 14)],none⟩,xa 1 16 12 15,xm 3 16])))
 (.reg [xB .add 17 8 1,xm 8 17])))))))
 (.seq (.reg [xm 18 3,xm 2 18])
 (.ret))))
theorem fn88:IsFn prog 88 ac88 [.tmp 2] 19:=⟨f88,⟨[],[],[]⟩,func88,by kernel_rfl,by kernel_rfl,by kernel_rfl,by kernel_rfl⟩
def encT (l:List (List UInt8)):List (List V):=l.map fun s=>[V.str s]
theorem encT_length {l:List (List UInt8)}:(encT l).length=l.length:=List.length_map ..
theorem encT_at {l:List (List UInt8)} {j:Nat} {s:List UInt8} (h:l[j]?=some s):(encT l)[(j:Int).toNat]?=some [.str s]:=by simp[encT,h]
def inv35 (l:List Word) (σ:Store) (i τ:Nat) (loc:List (List V)):St :=
  ⟨[.any,.any,.any,.sl (.tk τ) 1 (encT ((l.take i).map Word.text)),.any,.any,.sl .no 2 (l.map Word.enc),.int .i64 l.length,.int .i64 (i:Nat)]++List.replicate 10 .any,loc,σ.setTip τ i⟩
theorem encT_snoc {l:List (List UInt8)} {s:List UInt8}:encT l++[[.str s]]=encT (l++[s]):=by simp[encT]
theorem texts_calls (l:List Word) (σ:Store) (hl:l.length+1≤big):PCalls prog 88 [.sl .no 2 (l.map Word.enc)] σ fun v σ' => v = .sl .no 1 (encT (l.map Word.text))∧σ' = σ:=by
  refine fn88.calls ?_;simp only[slots,ac88,am,ams];refine vc_loop (fun p:{p:Nat × Nat // σ.tip p.2=none∧p.1≤l.length}=>inv35 l σ p.1.1 p.1.2 []) (fun p=>l.length - p.1.1) ?_ ?_
  · refine Upd.tokEnter 0 fun τ hτ=>⟨⟨(0,τ),hτ,by simp⟩,?_,rfl,rfl⟩
    simp[inv35,List.replicate,lto,encT]
  · rintro⟨⟨i,τ⟩,hτ,hi⟩;simp only at hτ hi;simp only[inv35,List.replicate,am];have wi:IntKind.i64.wrap ((i:Int)+1)=((i+1:Nat):Int):=by simp only[big] at hl;rw[wrap_i64 (by omega) (by omega)];simp
    by_cases hlt:i<l.length
    · have htl:((l.take i).map Word.text).length=i:=by simp;omega
      have hsn:(l.take i).map Word.text++[l[i].text]=(l.take (i+1)).map Word.text:=by rw[List.take_succ_eq_append_getElem hlt,List.map_append,List.map_singleton]
      simp only[am,decide_eq_true (show (i:Int)<l.length by omega)];refine idxL_intro (by omega) (wencs_at (List.getElem?_eq_getElem hlt)) ?_;simp only[am,Nat.reduceAdd,Word.enc];refine app_tk (by rw[encT_length,htl];simp;omega) (by rw[encT_length,htl,setTip_tip_same]) ?_;simp only[am,encT_length,setTip_setTip,wi,htl];rw[encT_snoc,hsn];exact Upd.againD (I:=fun p:{p:Nat × Nat // σ.tip p.2=none∧p.1≤l.length}=>inv35 l σ p.1.1 p.1.2 []) (μ:=fun p=>l.length - p.1.1) ⟨(i+1,τ),hτ,hlt⟩ (by simp;omega) (by simp[inv35,am,List.replicate]) (by simp[inv35,am]) OLe.rfl (by simp[inv35,List.replicate,loL,V.lo]) (by simp[inv35,loLL])
    · have hlt:i=l.length:=by omega
      subst hlt;simp only[am,decide_eq_false (show ¬(l.length:Int)<l.length by omega),List.take_length];refine retK_intro rfl (sub_tip hτ) ⟨?_,rfl⟩;simp[V.erase]
end Go.Proofs.Tryz

namespace Go.Proofs.Tryz
open Go.Am
set_option maxRecDepth 4000
set_option maxHeartbeats 4000000
end Go.Proofs.Tryz

namespace Go.Proofs.Tryz
open Go.Am
set_option maxRecDepth 4000
set_option maxHeartbeats 4000000
def ac58:AC:=.seq (.reg [⟨(some 1),.box 17 (.s 0),none⟩,⟨(some 2),.mv (.c (.bool false)),none⟩])
 (.seq (.seq (.reg [xf 0 3 1,xo 4 3,xc 86 5 [.s 4,.c (.int .i32 110)],xB .eql 6 5 0])
 (.cond (.s 6) (.seq (.reg [xf 2 7 1,xf 0 8 7,xo 9 8,⟨(some 10),.binS .eql (.s 9) (.c (.str [])),none⟩,xm 2 10])
 (.ret))
 (.skip)))
 (.seq (.reg [xf 2 11 1,xf 0 12 11,xo 13 12,xc 34 14 [.s 13],xm 2 14])
 (.ret)))
theorem fn58:IsFn prog 58 ac58 [.tmp 2] 15:=⟨f58,⟨[],[],[]⟩,func58,by kernel_rfl,by kernel_rfl,by kernel_rfl,by kernel_rfl⟩
def ac59:AC:=.seq (.reg [⟨(some 1),.box 17 (.s 0),none⟩,⟨(some 2),.mv (.c (.bool false)),none⟩])
 (.seq (.block 0 (.seq (.reg [xf 0 4 1,xo 5 4,xc 86 6 [.s 5,.c (.int .i32 119)],xB .gtr 7 6 0,xm 3 7])
 (.cond (.s 3) (.seq (.reg [xf 4 8 1,xo 9 8,xL 10 9,xB .gtr 11 10 0,xm 12 11,xg 12 (xf 4 13 1),xg 12 (xo 14 13),xg 12 (xc 88 15 [.s 14]),xg 12 (xc 87 16 [.s 15]),⟨(some 17),.pick (.s 12) (.s 16) (.c (.bool false)),none⟩,xm 2 17])
 (.ret))
 (.seq (.reg [xf 0 19 1,xo 20 19,xc 86 21 [.s 20,.c (.int .i32 102)],xB .gtr 22 21 0,xm 18 22])
 (.cond (.s 18) (.seq (.reg [xf 4 23 1,xo 24 23,xL 25 24,xB .eql 26 25 1,xm 27 26,xg 27 (xf 4 28 1),xg 27 (xo 29 28),xg 27 (xc 88 30 [.s 29]),xg 27 (xc 87 31 [.s 30]),⟨(some 32),.pick (.s 27) (.s 31) (.c (.bool false)),none⟩,xm 2 32])
 (.ret))
 (.skip))))))
 (.seq (.reg [xf 4 33 1,xo 34 33,xL 35 34,xB .eql 36 35 0,xm 2 36])
 (.ret)))
theorem fn59:IsFn prog 59 ac59 [.tmp 2] 37:=⟨f59,⟨[],[],[]⟩,func59,by kernel_rfl,by kernel_rfl,by kernel_rfl,by kernel_rfl⟩
def ac86:AC:=.seq (.reg [xi 4 0])
 (.seq (.reg [xi 5 0])
 (.seq (.rangeS [xm 8 0,xc 113 9 [.s 8],xw 1 10 9] (.s 10) 11 12 13 0 1
 (.seq (.reg [xe 14 12 2,xm 7 14])
 (.seq (.reg [xm 15 7,xm 16 1,xb .eql 17 15 16])
 (.cond (.s 17) (.reg [xm 18 5,xB .add 19 18 1,xm 5 19])
 (.skip)))))
 (.seq (.reg [xm 20 5,xm 4 20])
 (.ret))))
theorem fn86:IsFn prog 86 ac86 [.tmp 4] 21:=⟨f86,⟨[],[],[]⟩,func86,by kernel_rfl,by kernel_rfl,by kernel_rfl,by kernel_rfl⟩
def ac87:AC:=.seq (.reg [⟨(some 2),.mv (.c (.bool false)),none⟩])
 (.seq (.seq (.reg [xm 5 0,xL 6 5,xi 7 0])
 (.block 0 (.loop (.seq (.reg [xb .lss 8 7 6])
 (.seq (.cond (.s 8) (.skip)
 (.exit 0))
 (.seq (.block 1 (.seq (.reg [xA 1 9 5 7,xo 10 9,xm 4 10])
 (.seq (.reg [xm 11 4,xc 34 12 [.s 11],⟨(some 13),.not (.s 12),none⟩])
 (.cond (.s 13) (.seq (.reg [⟨(some 2),.mv (.c (.bool false)),none⟩])
 (.ret))
 (.skip)))))
 (.reg [xB .add 14 7 1,xm 7 14])))))))
 (.seq (.reg [⟨(some 2),.mv (.c (.bool true)),none⟩])
 (.ret)))
theorem fn87:IsFn prog 87 ac87 [.tmp 2] 15:=⟨f87,⟨[],[],[]⟩,func87,by kernel_rfl,by kernel_rfl,by kernel_rfl,by kernel_rfl⟩
def stC (ks:List UInt8) (k:UInt8) (σ:Store) (b i:Nat):St :=
  ⟨[.any,.int .i32 (k.toNat:Nat),.any,.any,.any,.int .i64 ((ks.take i).count k:Nat)]++List.replicate 5 .any++[.raw (.pointer (some ⟨b,0,none⟩))]++List.replicate 9 .any,[],σ⟩
theorem mcount_calls (op:Int) (k:UInt8) {σ:Store} (hg:σ.con 0=some formCells):PCalls prog 86 [.int .i64 op,.int .i32 (k.toNat:Nat)] σ fun v σ' => v = .int .i64 (cntN op k:Nat)∧σ' = σ:=by
  refine fn86.calls ?_;simp only[slots,ac86,am,ams,Nat.reduceAdd];refine vc_rangeS ?_;simp only[am];refine cl (of_calls op hg) ?_;simp only[am];have hkl:=form_len op;have hcn:cntN op k=(formOf op).2.count k:=rfl;generalize hks:(formOf op).2=ks at hkl hcn;refine⟨ks,rfl,by rw[←hks];exact form_ascii op,fun b i st' => st' = stC ks k σ b i,?_,?_,?_,?_⟩
  · intro b;refine Upd.weak (t' := (stC ks k σ b 0).t) ?_ LLLe.rfl OLe.rfl rfl;simp[stC,List.replicate,am]
  · rintro b i _ rfl;exact⟨rfl,by simp[stC],by simp[stC]⟩
  · rintro b i c _ hc rfl;have hi:i<ks.length:=(List.getElem?_eq_some_iff.1 hc).1;have hsn:(ks.take (i+1)).count k=(ks.take i).count k+(if c=k then 1 else 0):=by
      rw[take_succ_of hc,List.count_append,List.count_singleton];simp
    have hle:(ks.take i).count k≤3:=Nat.le_trans List.count_le_length (by rw[List.length_take];omega);have hkk:((c.toNat:Nat):Int)=(k.toNat:Nat)↔c=k:=by
      constructor
      · intro h;exact UInt8.toNat_inj.1 (by omega)
      · rintro rfl;rfl
    simp only[stC,List.replicate,am]
    by_cases e:c=k
    · rw[if_pos e] at hsn;simp only[am,amc,decide_eq_true (hkk.2 e)];rw[wrap_i64 (by omega) (by omega)];exact Upd.weak (by simp[am,hsn]) LLLe.rfl OLe.rfl rfl
    · rw[if_neg e] at hsn;simp only[am,amc,decide_eq_false (fun h=>e (hkk.1 h))];exact Upd.weak (by simp[am,hsn]) LLLe.rfl OLe.rfl rfl
  · rintro b _ rfl;simp only[stC,List.replicate,am];rw[List.take_length];refine retS ?_;simp[V.erase,hcn]
def invNm (l:List (List UInt8)) (σ:Store) (i:Nat):St :=
  ⟨[.any,.any,.any,.any,.any,.sl .no 1 (encT l),.int .i64 l.length,.int .i64 (i:Nat)]++List.replicate 7 .any,[],σ⟩
theorem cnamed_calls (l:List (List UInt8)) (σ:Store) (hl:l.length≤big):PCalls prog 87 [.sl .no 1 (encT l)] σ fun v σ' => v = .bool (namedQ l)∧σ' = σ:=by
  simp only[big] at hl;refine fn87.calls ?_;simp only[slots,ac87,am,ams,encT_length];refine vc_loop (fun p:{i:Nat // i≤l.length∧namedQ (l.take i)=true}=>invNm l σ p.1) (fun p=>l.length - p.1) ?_ ?_
  · refine Upd.enter ⟨0,by simp,by simp[namedQ]⟩ ?_ LLLe.rfl OLe.rfl;simp[invNm,List.replicate,am]
  rintro⟨i,hi,ha⟩;simp only[invNm,List.replicate,am]
  by_cases hlt:i<l.length
  · simp only[am,decide_eq_true (show (i:Int)<l.length by omega)];refine idxL_intro (by omega) (encT_at (List.getElem?_eq_getElem hlt)) ?_;simp only[am];refine cl (nright_calls l[i] σ) ?_;cases hr:nameR l[i]
    · simp only[am]
      have:namedQ l=false:=by
        rw[namedQ,List.all_eq_false];exact⟨l[i],List.getElem_mem hlt,by simp[hr]⟩
      refine retS ?_;simp[V.erase,this]
    · simp only[am];rw[wrap_i64 (by omega) (by omega)];refine Upd.again (I:=fun p:{i:Nat // i≤l.length∧namedQ (l.take i)=true}=>invNm l σ p.1) (μ:=fun p=>l.length - p.1) ⟨i+1,hlt,?_⟩ (by simp;omega) (by simp[invNm,am,List.replicate]) LLLe.rfl OLe.rfl;simp only[namedQ,List.take_succ_eq_append_getElem hlt,List.all_append,Bool.and_eq_true] at ha ⊢;exact⟨ha,by simp[hr]⟩
  · have:i=l.length:=by omega
    subst this;rw[List.take_length] at ha;simp only[am,decide_eq_false (show ¬(l.length:Int)<l.length by omega)];refine retS ?_;simp[V.erase,ha]
theorem nameQ_calls (c:Cmd) {σ:Store} (hg:σ.con 0=some formCells):PCalls prog 58 [.agg c.enc] σ fun v σ' => v = .bool c.nameQ∧σ' = σ:=by
  refine fn58.calls ?_;simp only[slots,ac58,am,ams,cfl,cfo];have h:=fun (σ:Store) (hg:σ.con 0=some formCells)=>mcount_calls c.op 110 hg
  refine cl (h σ hg) ?_;simp only[am]
  by_cases h0:cntN c.op 110=0
  · simp only[am,cfv,decide_eq_true (show ((cntN c.op 110:Nat):Int)=0 by omega)];refine retS ?_;simp[V.erase,Cmd.nameQ,h0]
  · simp only[am,cfv,decide_eq_false (show ¬((cntN c.op 110:Nat):Int)=0 by omega)];refine cl (nright_calls c.name.text σ) ?_;simp only[am];refine retS ?_;simp[V.erase,Cmd.nameQ,h0]
theorem namesQ_calls (c:Cmd) {σ:Store} (hg:σ.con 0=some formCells) (hn:c.names.length+1≤big):PCalls prog 59 [.agg c.enc] σ fun v σ' => v = .bool c.namesQ∧σ' = σ:=by
  have hnl:(c.names.map Word.text).length≤big:=by rw[List.length_map];omega
  have h:=fun (σ:Store) (hg:σ.con 0=some formCells)=>mcount_calls c.op 119 hg
  have h' := fun (σ:Store) (hg:σ.con 0=some formCells)=>mcount_calls c.op 102 hg
  refine fn59.calls ?_;simp only[slots,ac59,am,ams,cfl,cfo];refine cl (h σ hg) ?_;simp only[am]
  by_cases h0:0<cntN c.op 119
  · simp only[am,List.length_map,cfv,decide_eq_true (show (0:Int)<((cntN c.op 119:Nat):Int) by omega),List.length_map]
    by_cases h1:0<c.names.length
    · simp only[am,cfv,decide_eq_true (show (0:Int)<((c.names.length:Nat):Int) by omega)];refine cl (texts_calls c.names σ hn) ?_;simp only[am];refine cl (cnamed_calls (c.names.map Word.text) σ hnl) ?_;simp only[am];refine retS ?_;simp[V.erase,Cmd.namesQ,h0,h1]
    · simp only[am,decide_eq_false (show ¬(0:Int)<((c.names.length:Nat):Int) by omega)];refine retS ?_;simp[V.erase,Cmd.namesQ,h0,h1]
  · simp only[am,cfo,decide_eq_false (show ¬(0:Int)<((cntN c.op 119:Nat):Int) by omega)];refine cl (h' σ hg) ?_;simp only[am]
    by_cases h2:0<cntN c.op 102
    · simp only[am,List.length_map,cfv,decide_eq_true (show (0:Int)<((cntN c.op 102:Nat):Int) by omega),List.length_map]
      by_cases h1:c.names.length=1
      · simp only[am,cfv,decide_eq_true (show ((c.names.length:Nat):Int)=1 by omega)];refine cl (texts_calls c.names σ hn) ?_;simp only[am];refine cl (cnamed_calls (c.names.map Word.text) σ hnl) ?_;simp only[am];refine retS ?_;simp[V.erase,Cmd.namesQ,h0,h1,h2]
      · simp only[am,decide_eq_false (show ¬((c.names.length:Nat):Int)=1 by omega)];refine retS ?_;simp[V.erase,Cmd.namesQ,h0,h1,h2]
    · simp only[am,List.length_map,cfv,decide_eq_false (show ¬(0:Int)<((cntN c.op 102:Nat):Int) by omega),List.length_map];have he:decide (((c.names.length:Nat):Int)=0)=decide (c.names.length=0):=by simp
      refine retS ?_;simp[V.erase,Cmd.namesQ,h0,h2]
end Go.Proofs.Tryz

namespace Go.Proofs.Tryz
open Go.Am
set_option maxRecDepth 4000
set_option maxHeartbeats 4000000
def ac20:AC:=.seq (.reg [⟨(some 1),.box 17 (.s 0),none⟩,⟨(some 2),.mv (.c (.bool false)),none⟩])
 (.seq (.seq (.reg [xf 0 3 1,xo 4 3,xB .lss 5 4 0,xm 6 5,xh 6 (xf 0 7 1),xh 6 (xo 8 7),xh 6 (xB .gtr 9 8 15),⟨(some 10),.pick (.s 6) (.c (.bool true)) (.s 9),none⟩])
 (.cond (.s 10) (.seq (.reg [⟨(some 2),.mv (.c (.bool false)),none⟩])
 (.ret))
 (.skip)))
 (.seq (.reg [xl 17 11 1,xc 58 12 [.s 11],xm 13 12,xg 13 (xl 17 14 1),xg 13 (xc 59 15 [.s 14]),⟨(some 16),.pick (.s 13) (.s 15) (.c (.bool false)),none⟩,xm 17 16,xg 17 (xl 17 18 1),xg 17 (xc 60 19 [.s 18]),⟨(some 20),.pick (.s 17) (.s 19) (.c (.bool false)),none⟩,xm 21 20,xg 21 (xl 17 22 1),xg 21 (xc 61 23 [.s 22]),⟨(some 24),.pick (.s 21) (.s 23) (.c (.bool false)),none⟩,xm 2 24])
 (.ret)))
theorem fn20:IsFn prog 20 ac20 [.tmp 2] 25:=⟨f20,⟨[],[],[]⟩,func20,by kernel_rfl,by kernel_rfl,by kernel_rfl,by kernel_rfl⟩
def ac60:AC:=.seq (.reg [⟨(some 1),.box 17 (.s 0),none⟩,⟨(some 2),.mv (.c (.bool false)),none⟩])
 (.seq (.seq (.reg [xf 0 5 1,xo 6 5,xc 86 7 [.s 6,.c (.int .i32 112)],xB .eql 8 7 0])
 (.cond (.s 8) (.seq (.reg [xf 5 9 1,xo 10 9,xL 11 10,xB .eql 12 11 0,xm 2 12])
 (.ret))
 (.skip)))
 (.seq (.seq (.reg [xf 5 13 1,xo 14 13,xL 15 14,xi 16 0])
 (.block 0 (.loop (.seq (.reg [xb .lss 17 16 15])
 (.seq (.cond (.s 17) (.skip)
 (.exit 0))
 (.seq (.block 1 (.seq (.reg [xA 4 18 14 16,xl 4 19 18,⟨(some 4),.alloc [(.str []),(.int .i64 0),(.str []),(.int .i64 0)],none⟩,xs 4 4 19])
 (.seq (.reg [⟨(some 20),.idxP 2 2 (.s 4) (.c (.int .i64 0)),none⟩,xf 0 21 20,xo 22 21,xc 34 23 [.s 22],⟨(some 24),.not (.s 23),none⟩,xm 25 24,⟨(some 26),.idxP 2 2 (.s 4) (.c (.int .i64 1)),(some (25,false))⟩,xh 25 (xf 0 27 26),xh 25 (xo 28 27),xh 25 (xc 34 29 [.s 28]),⟨(some 30),.not (.s 29),(some (25,false))⟩,⟨(some 31),.pick (.s 25) (.c (.bool true)) (.s 30),none⟩])
 (.cond (.s 31) (.seq (.reg [⟨(some 2),.mv (.c (.bool false)),none⟩])
 (.ret))
 (.skip)))))
 (.reg [xB .add 32 16 1,xm 16 32])))))))
 (.seq (.reg [⟨(some 2),.mv (.c (.bool true)),none⟩])
 (.ret))))
theorem fn60:IsFn prog 60 ac60 [.tmp 2] 33:=⟨f60,⟨[],[],[]⟩,func60,by kernel_rfl,by kernel_rfl,by kernel_rfl,by kernel_rfl⟩
def ac61:AC:=.seq (.reg [⟨(some 1),.box 17 (.s 0),none⟩,⟨(some 2),.mv (.c (.bool false)),none⟩])
 (.seq (.seq (.reg [xf 0 3 1,xo 4 3,xc 86 5 [.s 4,.c (.int .i32 116)],xB .gtr 6 5 0])
 (.cond (.s 6) (.seq (.reg [xf 7 7 1,xl 5 8 7,xc 62 9 [.s 8],xm 10 9,xg 10 (xf 12 11 1),xg 10 (xl 5 12 11),xg 10 (xc 62 13 [.s 12]),⟨(some 14),.pick (.s 10) (.s 13) (.c (.bool false)),none⟩,xm 2 14])
 (.ret))
 (.skip)))
 (.seq (.seq (.reg [xf 0 15 1,xo 16 15,xc 86 17 [.s 16,.c (.int .i32 114)],xB .gtr 18 17 0])
 (.cond (.s 18) (.seq (.reg [xf 7 19 1,xl 5 20 19,xc 89 21 [.s 20],xm 22 21,xg 22 (xf 12 23 1),xg 22 (xl 5 24 23),xg 22 (xc 89 25 [.s 24]),⟨(some 26),.pick (.s 22) (.s 25) (.c (.bool false)),none⟩,xm 2 26])
 (.ret))
 (.skip)))
 (.seq (.reg [xf 7 27 1,xl 5 28 27,⟨(some 29),.build [(.int .i64 0),(.int .i64 0),(.str []),(.sl .full 2 []),(.sl .full 5 [])] [],none⟩,xc 90 30 [.s 28,.s 29],xm 31 30,xg 31 (xf 12 32 1),xg 31 (xl 5 33 32),⟨(some 34),.build [(.int .i64 0),(.int .i64 0),(.str []),(.sl .full 2 []),(.sl .full 5 [])] [],(some (31,true))⟩,xg 31 (xc 90 35 [.s 33,.s 34]),⟨(some 36),.pick (.s 31) (.s 35) (.c (.bool false)),none⟩,xm 2 36])
 (.ret))))
theorem fn61:IsFn prog 61 ac61 [.tmp 2] 37:=⟨f61,⟨[],[],[]⟩,func61,by kernel_rfl,by kernel_rfl,by kernel_rfl,by kernel_rfl⟩
def invPq (c:Cmd) (σ:Store) (i:Nat):St :=
  ⟨[.any,.ptr (.loc 0) 0]++List.replicate 12 .any++[.sl .no 4 (c.pairs.map penc),.int .i64 c.pairs.length,.int .i64 (i:Nat)]++List.replicate 16 .any,[c.enc],σ⟩
theorem pairsQ_calls (c:Cmd) {σ:Store} (hg:σ.con 0=some formCells) (hn:c.pairs.length+1≤big):PCalls prog 60 [.agg c.enc] σ fun v σ' => v = .bool c.pairsQ∧σ' = σ:=by
  have h:=fun (σ:Store) (hg:σ.con 0=some formCells)=>mcount_calls c.op 112 hg
  simp only[big] at hn;refine fn60.calls ?_;simp only[slots,ac60,am,ams,cfl,cfo];refine cl (h σ hg) ?_;simp only[am]
  by_cases h0:cntN c.op 112=0
  · simp only[am,List.length_map,cfv,List.length_map,decide_eq_true (show ((cntN c.op 112:Nat):Int)=0 by omega)];have he:decide (((c.pairs.length:Nat):Int)=0)=decide (c.pairs.length=0):=by simp
    refine retS ?_;simp[V.erase,Cmd.pairsQ,h0]
  simp only[am,List.length_map,cfv,List.length_map,decide_eq_false (show ¬((cntN c.op 112:Nat):Int)=0 by omega)];have hq:c.pairsQ=c.pairs.all pairQ:=by unfold Cmd.pairsQ;rw[if_neg h0]
  refine vc_loop (fun p:{i:Nat // i≤c.pairs.length∧(c.pairs.take i).all pairQ=true}=>invPq c σ p.1) (fun p=>c.pairs.length - p.1) ?_ ?_
  · refine Upd.enter ⟨0,by simp,by simp⟩ ?_ LLLe.rfl OLe.rfl;simp[invPq,List.replicate,am]
  rintro⟨i,hi,ha⟩;simp only[invPq,List.replicate,am]
  by_cases hlt:i<c.pairs.length
  · simp only[am,decide_eq_true (show (i:Int)<c.pairs.length by omega)];refine idxL_intro (by omega) (pencs_at (List.getElem?_eq_getElem hlt)) ?_;simp only[am,amc,Nat.reduceAdd,penc];refine idxPL_ptr (by omega) (by omega) ?_;simp only[am,Int.reduceToNat,Nat.reduceMul];refine cl (nright_calls c.pairs[i].1.text σ) ?_;have hno:pairQ c.pairs[i]=false→c.pairsQ=false:=fun hf=>by
      rw[hq,List.all_eq_false];exact⟨c.pairs[i],List.getElem_mem hlt,by simp[hf]⟩
    cases hr:nameR c.pairs[i].1.text
    · simp only[am];refine retS ?_;simp[V.erase,hno (by simp[pairQ,hr])]
    · simp only[am,amc];refine idxPL_ptr (by omega) (by omega) ?_;simp only[am,Int.reduceToNat,Nat.reduceMul];refine cl (nright_calls c.pairs[i].2.text σ) ?_;cases hr2:nameR c.pairs[i].2.text
      · simp only[am];refine retS ?_;simp[V.erase,hno (by simp[pairQ,hr2])]
      · simp only[am];rw[wrap_i64 (by omega) (by omega)];refine Upd.againD (I:=fun p:{i:Nat // i≤c.pairs.length∧(c.pairs.take i).all pairQ=true}=>invPq c σ p.1) (μ:=fun p=>c.pairs.length - p.1) ⟨i+1,hlt,?_⟩ (by simp;omega) (by simp[invPq,am,List.replicate]) (by simp[invPq,am]) OLe.rfl (by simp[invPq,List.replicate,loL,V.lo]) (by simp[invPq,Cmd.enc,Cmd.encP,loLL,loL,V.lo]);rw[List.take_succ_eq_append_getElem hlt,List.all_append,ha];simp[pairQ,hr,hr2]
  · have:i=c.pairs.length:=by omega
    subst this;rw[List.take_length] at ha;simp only[am,decide_eq_false (show ¬(c.pairs.length:Int)<c.pairs.length by omega)];refine retS ?_;simp[V.erase,hq,ha]
theorem zero_nd_enc:[V.int .i64 0,.int .i64 0,.str [],.sl .full 2 [],.sl .full 5 []].map V.erase=Nd.zero.enc:=by rw[Nd.enc_eq];rfl
theorem same_zero (n:Nd) (σ:Store) (hw:n.wt≤big):PCalls prog 90 [.agg n.enc,.agg [.int .i64 0,.int .i64 0,.str [],.sl .full 2 [],.sl .full 5 []]] σ fun v σ' => v = .bool (n.sameQ .zero)∧σ' = σ:=by
  refine PCalls.weak (same24_calls _ n .zero σ (Nat.le_refl _) hw) ?_ OLe.rfl;simp only[LLe,VLe.rfl,and_true,true_and];rw[←zero_nd_enc];exact VLe.erase (v:=.agg [.int .i64 0,.int .i64 0,.str [],.sl .full 2 [],.sl .full 5 []])
theorem termsQ_calls (c:Cmd) {σ:Store} (hg:σ.con 0=some formCells) (hl:c.left.wt≤big) (hr:c.right.wt≤big):PCalls prog 61 [.agg c.enc] σ fun v σ' => v = .bool c.termsQ∧σ' = σ:=by
  have h:=fun (σ:Store) (hg:σ.con 0=some formCells)=>mcount_calls c.op 116 hg
  have h' := fun (σ:Store) (hg:σ.con 0=some formCells)=>mcount_calls c.op 114 hg
  refine fn61.calls ?_;simp only[slots,ac61,am,ams,cfl,cfo];refine cl (h σ hg) ?_;simp only[am]
  by_cases h0:0<cntN c.op 116
  · simp only[am,Nd.rec_,cfv,decide_eq_true (show (0:Int)<((cntN c.op 116:Nat):Int) by omega)];refine cl (label_is_calls _ c.left σ (Nat.le_refl _) hl) ?_;cases hq:c.left.labelQ
    · simp only[am];refine retS ?_;simp[V.erase,Cmd.termsQ,h0,hq]
    · simp only[am,Nd.rec_,cfv];refine cl (label_is_calls _ c.right σ (Nat.le_refl _) hr) ?_;simp only[am];refine retS ?_;simp[V.erase,Cmd.termsQ,h0,hq]
  simp only[am,cfo,decide_eq_false (show ¬(0:Int)<((cntN c.op 116:Nat):Int) by omega)];refine cl (h' σ hg) ?_;simp only[am]
  by_cases h2:0<cntN c.op 114
  · simp only[am,Nd.rec_,cfv,decide_eq_true (show (0:Int)<((cntN c.op 114:Nat):Int) by omega)];refine cl (row_is_calls c.left σ hl) ?_;cases hq:c.left.rowQ
    · simp only[am];refine retS ?_;simp[V.erase,Cmd.termsQ,h0,h2,hq]
    · simp only[am,Nd.rec_,cfv];refine cl (row_is_calls c.right σ hr) ?_;simp only[am];refine retS ?_;simp[V.erase,Cmd.termsQ,h0,h2,hq]
  simp only[am,Nd.rec_,cfv,decide_eq_false (show ¬(0:Int)<((cntN c.op 114:Nat):Int) by omega)];refine cl (same_zero c.left σ hl) ?_;cases hq:c.left.sameQ .zero
  · simp only[am];refine retS ?_;simp[V.erase,Cmd.termsQ,h0,h2,hq]
  · simp only[am,Nd.rec_,cfv];refine cl (same_zero c.right σ hr) ?_;simp only[am];refine retS ?_;simp[V.erase,Cmd.termsQ,h0,h2,hq]
theorem cmdright_calls (c:Cmd) {σ:Store} (hg:σ.con 0=some formCells) (hn:c.names.length+1≤big) (hp:c.pairs.length+1≤big) (hl:c.left.wt≤big) (hr:c.right.wt≤big):PCalls prog 20 [.agg c.enc] σ fun v σ' => v = .bool c.rightQ∧σ' = σ:=by
  have h1:=fun (σ:Store) (hg:σ.con 0=some formCells)=>nameQ_calls c hg
  have h2:=fun (σ:Store) (hg:σ.con 0=some formCells)=>namesQ_calls c hg hn
  have h3:=fun (σ:Store) (hg:σ.con 0=some formCells)=>pairsQ_calls c hg hp
  have h4:=fun (σ:Store) (hg:σ.con 0=some formCells)=>termsQ_calls c hg hl hr
  refine fn20.calls ?_;simp only[slots,ac20,am,ams,cfl,cfo]
  by_cases k1:c.op<0
  · simp only[am,decide_eq_true k1];refine retS ?_;simp[V.erase,Cmd.rightQ,show ¬(0≤c.op∧c.op≤15) by omega]
  simp only[am,cfo,decide_eq_false k1]
  by_cases k2:15<c.op
  · simp only[am,decide_eq_true k2];refine retS ?_;simp[V.erase,Cmd.rightQ,show ¬(0≤c.op∧c.op≤15) by omega]
  have k3:0≤c.op∧c.op≤15:=by omega
  simp only[am,cfl,decide_eq_false k2];refine cl (h1 σ hg) ?_;cases q1:c.nameQ
  · simp only[am];refine retS ?_;simp[V.erase,Cmd.rightQ,q1]
  simp only[am,cfl];refine cl (h2 σ hg) ?_;cases q2:c.namesQ
  · simp only[am];refine retS ?_;simp[V.erase,Cmd.rightQ,q1,q2]
  simp only[am,cfl];refine cl (h3 σ hg) ?_;cases q3:c.pairsQ
  · simp only[am];refine retS ?_;simp[V.erase,Cmd.rightQ,q1,q2,q3]
  simp only[am,cfl];refine cl (h4 σ hg) ?_;simp only[am];refine retS ?_;simp[V.erase,Cmd.rightQ,q1,q2,q3,k3]
end Go.Proofs.Tryz

namespace Go.Proofs.Tryz
open Go.Am
set_option maxRecDepth 4000
set_option maxHeartbeats 4000000
def ac23:AC:=.seq (.reg [⟨(some 3),.box 2 (.s 0),none⟩,⟨(some 5),.box 5 (.s 2),none⟩,⟨(some 6),.alloc atmZ,none⟩])
 (.seq (.seq (.reg [xf 0 11 5,xo 12 11,xB .eql 13 12 1])
 (.cond (.s 13) (.seq (.reg [xl 2 15 3,xf 2 16 5,xo 17 16,xc 21 18 [.s 15,.s 17],xm 14 18,xe 19 14 0,xe 20 14 1,xm 7 19,xm 8 20])
 (.seq (.reg [xm 21 8,⟨(some 22),.build atmZ [(0,1,(.s 21))],none⟩,xs 9 6 22])
 (.ret)))
 (.skip)))
 (.seq (.drawA [9,10] [(xf 0 24 3,[]),(xo 25 24,[]),(xm 26 1,[]),(xA 3 27 25 26,[]),(xf 1 28 27,[]),(xl 2 29 28,[]),(xf 4 30 5,[]),(xo 31 30,[]),(⟨(some 32),.idxA 5 (.s 31) (.c (.int .i64 0)),none⟩,[]),(xl 5 33 32,[]),(xc 64 34 [.s 29,.s 33],[]),(xm 23 34,[]),(xe 35 23 0,[]),(xe 36 23 1,[]),(⟨none,.mv (.c .any),none⟩,[]),(⟨none,.mv (.c .any),none⟩,[]),(⟨(some 9),.boxS 8 (.s 35),none⟩,[]),(⟨(some 10),.boxS 2 (.s 36),none⟩,[])])
 (.seq (.reg [xl 8 37 9,⟨(some 38),.build atmZ [(0,1,(.c (.int .i64 (-1)))),(1,8,(.s 37))],none⟩,xs 9 6 38])
 (.ret))))
theorem fn23:IsFn prog 23 ac23 [.cell 6 true 9] 39:=⟨f23,⟨[],[],[]⟩,func23,by kernel_rfl,by kernel_rfl,by kernel_rfl,by kernel_rfl⟩
def ac24:AC:=.seq (.reg [⟨(some 3),.box 2 (.s 0),none⟩,⟨(some 5),.box 5 (.s 2),none⟩,⟨(some 6),.alloc [(.sl .full 10 []),(.int .i64 0)],none⟩])
 (.seq (.reg [⟨(some 12),.build [(.sl .full 10 []),(.int .i64 0)] [(1,1,(.c (.int .i64 (-1))))],none⟩,⟨(some 7),.alloc [(.sl .full 10 []),(.int .i64 0)],none⟩,xs 2 7 12])
 (.seq (.seq (.reg [xf 0 13 5,xo 14 13,xB .eql 15 14 1])
 (.cond (.s 15) (.seq (.reg [xl 2 17 3,xf 2 18 5,xo 19 18,xc 21 20 [.s 17,.s 19],xm 16 20,xe 21 16 0,xe 22 16 1,xf 1 23 7,xs 1 23 22])
 (.seq (.reg [xl 2 24 7,xs 2 6 24])
 (.ret)))
 (.skip)))
 (.seq (.seq (.reg [xf 4 25 5,xo 26 25,xL 27 26,xi 28 0])
 (.block 0 (.loop (.seq (.reg [xb .lss 29 28 27])
 (.seq (.cond (.s 29) (.skip)
 (.exit 0))
 (.seq (.block 1 (.seq (.reg [xA 5 30 26 28,xl 5 31 30,⟨(some 9),.alloc [(.int .i64 0),(.int .i64 0),(.str []),(.sl .full 2 []),(.sl .full 5 [])],none⟩,xs 5 9 31])
 (.draw [(xf 0 32 7,[]),(xo 33 32,[1]),(xf 2 34 9,[]),(xo 35 34,[1]),(xl 2 36 3,[]),(xm 37 1,[]),(xf 4 38 9,[]),(xo 39 38,[]),(⟨(some 40),.idxA 5 (.s 39) (.c (.int .i64 0)),none⟩,[]),(xl 5 41 40,[]),(xc 23 42 [.s 36,.s 37,.s 41],[]),(⟨(some 43),.build fldZ [(0,1,(.s 35)),(1,9,(.s 42))],none⟩,[]),(⟨(some 44),.bslice 10 [(.s 43)],none⟩,[]),(xa 10 45 33 44,[]),(xf 0 46 7,[]),(xs 1 46 45,[])])))
 (.reg [xB .add 47 28 1,xm 28 47])))))))
 (.seq (.seq (.reg [xf 3 48 5,xo 49 48,xL 50 49,xi 51 0])
 (.block 2 (.loop (.seq (.reg [xb .lss 52 51 50])
 (.seq (.cond (.s 52) (.skip)
 (.exit 2))
 (.seq (.block 3 (.seq (.reg [xA 2 53 49 51,xl 2 54 53,⟨(some 11),.alloc [(.str []),(.int .i64 0)],none⟩,xs 2 11 54])
 (.reg [xl 2 56 3,xf 0 57 11,xo 58 57,xc 21 59 [.s 56,.s 58],xm 55 59,xe 60 55 0,xe 61 55 1,xf 1 62 7,xs 1 62 61])))
 (.reg [xB .add 63 51 1,xm 51 63])))))))
 (.seq (.reg [xl 2 64 7,xs 2 6 64])
 (.ret))))))
theorem fn24:IsFn prog 24 ac24 [.cell 6 true 2] 65:=⟨f24,⟨[],[],[]⟩,func24,by kernel_rfl,by kernel_rfl,by kernel_rfl,by kernel_rfl⟩
theorem fatom_calls (s:Scp) (lat:Nat) (n:Nd) {σ:Store} (hs:s.ok) (hg:TZ σ) (hlat:lat<s.lats.length) (hk:n.kind=1∨0<n.kids.length) (hc:n.cnt≤100000) (hw:n.wt≤big) :
    PCalls prog 23 [.agg s.enc,.int .i64 (lat:Nat),.agg n.enc] σ fun v σ' => v = .agg (atmF s lat n).enc∧σ' = σ:=by
  refine fn23.calls ?_;simp only[slots,ac23,z26_,Nat.reduceAdd,Int.reduceNeg,Atm.rec_]
  by_cases h1:n.kind=1
  · simp only[am,Int.reduceNeg,Scp.rec_,Nd.fl,decide_eq_true h1];refine cl (scfind_calls s n.text σ hs.1 hs.2.1) ?_;simp only[am,Int.reduceNeg,Atm.rec_];exact retK_intro (v:=.agg (Atm.mk (optI (findV s.vars n.text)) .zero).enc) Atm.r_nol (Store.sub_refl _) ⟨by rw[atmF,if_pos h1];simp only[V.erase,Atm.r_er],rfl⟩
  have hk:0<n.kids.length:=hk.resolve_left h1;have hm:n.kids[0]∈n.kids:=List.getElem_mem _;have hmc:=cnt_kid hm;have hmw:=kid_wt hm;simp only[am,Nat.reduceAdd,decide_true,Int.reduceNeg,Nat.reduceLT,Scp.rec_,decide_eq_false h1];refine idxL_intro (by omega) (lats_at hlat) ?_;simp only[am,Int.reduceNeg,Scp.rec_,Nd.fl];refine idxL_intro (n:=0) (by omega) (nencs_at (j:=0) (List.getElem?_eq_getElem hk)) ?_;simp only[am,Int.reduceNeg,Shp.rec_,Nd.rec_];refine CallD.intro (elem_calls s.lats[lat].shape n.kids[0] hg (hs.2.2 _ (List.getElem_mem hlat)) (fun m hm=>by obtain⟨a,b,c⟩:=parts_ok (n:=n.kids[0]) (by omega) m hm;exact⟨by omega,by omega,fun q hq=>by have:=c q hq;omega⟩) (by omega)) ?_;have ee:atmF s lat n=⟨-1,(elemF s.lats[lat].shape n.kids[0]).1⟩:=by rw[atmF,if_neg h1,shapeF_at hlat,getD_at hk]
  generalize elemF s.lats[lat].shape n.kids[0]=g at ee;obtain⟨e,o⟩:=g;cases o with
  | none =>
    simp only[am,Nat.reduceAdd,Int.reduceNeg,Elm.rec_,Atm.rec_,show fltV none=[.int .i64 0,.int .i64 0] from rfl];exact retK_intro (v:=.agg (Atm.mk (-1) e).enc) Atm.r_nol (Store.sub_refl _) ⟨by rw[ee];simp only[V.erase,Atm.r_er],rfl⟩
  | some q =>
    simp only[am,Nat.reduceAdd,Int.reduceNeg,Elm.rec_,Atm.rec_,show fltV (some q)=[.int .i64 4,.int .i64 q] from rfl];exact retK_intro (v:=.agg (Atm.mk (-1) e).enc) Atm.r_nol (Store.sub_refl _) ⟨by rw[ee];simp only[V.erase,Atm.r_er],rfl⟩
def fldK (k:Nd):Prop:=0<k.kids.length∧∀a∈k.kids,a.kind=1∨0<a.kids.length
theorem frow_calls (s:Scp) (lat:Nat) (n:Nd) {σ:Store} (hs:s.ok) (hg:TZ σ) (hlat:lat<s.lats.length) (hk:∀k∈n.kids,fldK k) (hn1:n.names.length≤1) (hc:n.cnt≤100000) (hw:n.wt≤big) :
    PCalls prog 24 [.agg s.enc,.int .i64 (lat:Nat),.agg n.enc] σ fun v σ' => v = .agg (rtmF s lat n).enc∧σ' = σ:=by
  refine fn24.calls ?_;simp only[slots,ac24,z26_,Nat.reduceAdd,Int.reduceNeg,Fld.rec_]
  by_cases h1:n.kind=1
  · simp only[am,Int.reduceNeg,Scp.rec_,Nd.fl,decide_eq_true h1];refine cl (scfind_calls s n.text σ hs.1 hs.2.1) ?_;simp only[am,Nat.reduceAdd,Int.reduceNeg];exact retK_intro rfl (Store.sub_refl _) ⟨by rw[rtmF,if_pos h1];rfl,rfl⟩
  simp only[am,List.length_map,Int.reduceNeg,Nd.fl,List.length_map,decide_eq_false h1];have hkc:=cnt_kids n;obtain⟨Q,hQ⟩:∃Q:Nat→List (List V),∀i,Q i=((n.kids.take i).map (fldF s lat)).map Fld.enc:=⟨_,fun _=>rfl⟩;have hQ0:Q 0=[]:=by rw[hQ];rfl
  have hQn:Q n.kids.length=(n.kids.map (fldF s lat)).map Fld.enc:=by rw[hQ,List.take_length]
  have hQl:∀{i:Nat},i≤n.kids.length→(Q i).length=i:=fun {i} hi=>by rw[hQ];simp;omega
  have hQs:∀{i:Nat} (hi:i<n.kids.length) (h1:0<n.kids[i].kids.length),Q (i+1)=Q i++[(Fld.mk n.kids[i].text (atmF s lat n.kids[i].kids[0])).enc]:=fun {i} hi h1=>by
    rw[hQ,hQ,List.take_succ_eq_append_getElem hi,List.map_append,List.map_append,List.map_singleton,List.map_singleton,fldF,getD_at h1]
  obtain⟨F,hF⟩:∃F:Nat→Nat→St,∀i τ,F i τ=⟨[.any,.int .i64 (lat:Nat),.any,.ptr (.loc 0) 0,.any,.ptr (.loc 1) 0,.ptr (.loc 2) 0,.ptr (.loc 3) 0,.any,.any,.any,.any,.any,.any,.any,.any,.any,.any,.any,.any,.any,.any,.any,.any,.any,.any,.sl .no 5 (n.kids.map Nd.enc),.int .i64 (n.kids.length:Nat),.int .i64 (i:Nat)]++List.replicate 36 .any,[s.enc,n.enc,[.sl .full 10 [],.int .i64 0],[.sl (.tk τ) 10 (Q i),.int .i64 (-1)]],σ.setTip τ i⟩:=⟨_,fun _ _=>rfl⟩;obtain⟨JF,hJF⟩:∃JF:Nat→Nat→Prop,∀i τ,JF i τ=(σ.tip τ=none):=⟨_,fun _ _=>rfl⟩;refine vc_count (n.kids.length) F JF _ hJF ?_ ?_ ?_
  · refine entTL 0 fun τ hτ=>⟨τ,Eq.mpr (hJF _ _) hτ,?_,?_,?_⟩
    all_goals simp[hF,List.replicate,lto,llto,hQ0]
  · rintro i τ hi hτ;have hm:n.kids[i]∈n.kids:=List.getElem_mem _;have hmc:=cnt_kid hm;have hmw:=kid_wt hm;obtain⟨hk1,hk2⟩:=hk _ hm;have hm2:n.kids[i].kids[0]∈n.kids[i].kids:=List.getElem_mem _;have hmc2:=cnt_kid hm2;have hmw2:=kid_wt hm2;have hgs:TZ (σ.setTip τ i):=hg;have hlen:=hQl (Nat.le_of_lt hi);simp only[hF,List.replicate,am,dlt hi,Int.reduceNeg];refine idxL_intro (by omega) (nencs_at (List.getElem?_eq_getElem hi)) ?_;simp only[z26_,Nat.reduceAdd,Int.reduceNeg];refine idxL_intro (n:=0) (by omega) (nencs_at (j:=0) (List.getElem?_eq_getElem hk1)) ?_;simp only[am,Int.reduceNeg,Scp.rec_,Nd.rec_];refine CallD.intro (fatom_calls s lat n.kids[i].kids[0] hs hgs hlat (hk2 _ hm2) (by omega) (by omega)) ?_;simp only[am,Int.reduceNeg,Atm.rec_,Fld.rec_];refine appD_tk (by rw[hlen];simp[big];omega) (by rw[hlen];exact setTip_tip_same) ?_;rw[hlen];simp only[am,aml,Int.reduceNeg,Nd.fl,setTip_setTip,winc hi (by omega),List.length_singleton];refine nxtD (τ) hi ?_ ?_ ?_ ?_ ?_ ?_
    · exact Eq.mpr (hJF _ _) (hτ)
    all_goals simp[hF,List.replicate,am,lle_self,loL,loLL,V.lo,hQs hi hk1,Scp.r_lo,Nd.r_lo]
  · rintro τ hτ;have hlen:=hQl (Nat.le_refl _);have hnc:=cnt_names n;simp only[hF,List.replicate,am,aml,dnl,aml,Int.reduceNeg,Nd.fl,List.length_map];obtain⟨F2,hF2⟩:∃F2:Nat→Unit→St,∀j y,F2 j y=⟨[.any,.any,.any,.ptr (.loc 0) 0,.any,.any,.ptr (.loc 2) 0,.ptr (.loc 3) 0,.any,.any,.any,.any,.any,.any,.any,.any,.any,.any,.any,.any,.any,.any,.any,.any,.any,.any,.any,.any,.any,.any,.any,.any,.any,.any,.any,.any,.any,.any,.any,.any,.any,.any,.any,.any,.any,.any,.any,.any,.any,.sl .no 2 (n.names.map Word.enc),.int .i64 (n.names.length:Nat),.int .i64 (j:Nat)]++List.replicate 13 .any,[s.enc,n.enc,[.sl .full 10 [],.int .i64 0],[.sl (.tk τ) 10 (Q n.kids.length),.int .i64 (tailF s (n.names.take j))]],σ.setTip τ n.kids.length⟩:=⟨_,fun _ _=>rfl⟩;obtain⟨JF2,hJF2⟩:∃JF2:Nat→Unit→Prop,∀j y,JF2 j y=(True):=⟨_,fun _ _=>rfl⟩;refine vc_count (n.names.length) F2 JF2 _ hJF2 ?_ ?_ ?_
    · refine ent (()) ?_ ?_ ?_ ?_
      · exact Eq.mpr (hJF2 _ _) (trivial)
      all_goals simp[hF2,List.replicate,am,lle_self,tailF]
    · rintro j y hj -;obtain rfl:j=0:=by omega
      have et:=tailF_one (s:=s) hj;simp only[hF2,List.replicate,am,dlt hj];refine idxL_intro (by omega) (words_at hj) ?_;simp only[am,Nat.reduceAdd,wd_t,Scp.rec_,Word.rec_];refine cl (scfind_calls s n.names[0].text _ hs.1 hs.2.1) ?_;simp only[am,aml,winc hj (by omega)];refine nxtD (()) hj ?_ ?_ ?_ ?_ ?_ ?_
      · exact Eq.mpr (hJF2 _ _) (trivial)
      all_goals simp[hF2,List.replicate,am,lle_self,loL,loLL,V.lo,et,Scp.r_lo,Nd.r_lo]
    · rintro y -;simp only[hF2,List.replicate,am,aml,dnl,Nat.reduceAdd,aml,List.take_length,hQn];have e:rtmF s lat n=⟨n.kids.map (fldF s lat),tailF s n.names⟩:=by rw[rtmF,if_neg h1]
      refine retK_intro rfl (sub_tip hτ) ⟨by rw[e];rfl,rfl⟩
end Go.Proofs.Tryz

namespace Go.Proofs.Tryz
open Go.Am
set_option maxRecDepth 4000
set_option maxHeartbeats 4000000
def ac9:AC:=.seq (.reg [⟨(some 2),.box 2 (.s 0),none⟩,⟨(some 3),.box 17 (.s 1),none⟩,⟨(some 4),.alloc astZ,none⟩,⟨(some 5),.mv (.c (.bool false)),none⟩])
 (.seq (.seq (.reg [xf 0 9 3,xo 10 9,xB .lss 11 10 8,xm 12 11,xh 12 (xf 0 13 3),xh 12 (xo 14 13),xh 12 (xB .gtr 15 14 10),⟨(some 16),.pick (.s 12) (.c (.bool true)) (.s 15),none⟩,xm 17 16,xh 17 (xl 17 18 3),xh 17 (xc 20 19 [.s 18]),⟨(some 20),.not (.s 19),(some (17,false))⟩,⟨(some 21),.pick (.s 17) (.c (.bool true)) (.s 20),none⟩,xm 22 21,xh 22 (xl 2 23 2),xh 22 (xl 17 24 3),xh 22 (xc 17 25 [.s 23,.s 24]),xh 22 (xw 0 26 25),xh 22 (xB .neq 27 26 0),⟨(some 28),.pick (.s 22) (.c (.bool true)) (.s 27),none⟩])
 (.cond (.s 28) (.seq (.reg [⟨(some 29),.build astZ [],none⟩,xs 18 4 29,⟨(some 5),.mv (.c (.bool false)),none⟩])
 (.ret))
 (.skip)))
 (.seq (.reg [xl 2 31 2,xf 2 32 3,xf 0 33 32,xo 34 33,xc 21 35 [.s 31,.s 34],xm 30 35,xe 36 30 0,xe 37 30 1,xm 6 36,xm 7 37])
 (.seq (.reg [xf 0 38 3,xo 39 38,xm 40 6,⟨(some 41),.build astZ [(0,1,(.s 39)),(1,1,(.s 40))],none⟩,⟨(some 8),.alloc astZ,none⟩,xs 18 8 41])
 (.seq (.seq (.reg [xf 0 42 3,xo 43 42])
 (.block 0 (.seq (.reg [xB .eql 45 43 8,xm 44 45])
 (.cond (.s 44) (.seq (.reg [xl 2 47 2,xm 48 6,xf 7 49 3,xl 5 50 49,xc 22 51 [.s 47,.s 48,.s 50],xm 46 51,xe 52 46 0,xe 53 46 1,xf 2 54 8,xs 1 54 52])
 (.reg [xl 2 55 2,xm 56 6,xf 12 57 3,xl 5 58 57,xc 23 59 [.s 55,.s 56,.s 58],xf 3 60 8,xs 9 60 59]))
 (.seq (.reg [xB .eql 62 43 9,xm 61 62])
 (.cond (.s 61) (.draw [(xl 2 63 2,[]),(xm 64 6,[]),(xf 7 65 3,[]),(xl 5 66 65,[]),(xc 24 67 [.s 63,.s 64,.s 66],[]),(xl 2 68 2,[0]),(xm 69 6,[]),(xf 12 70 3,[]),(xl 5 71 70,[0]),(xc 24 72 [.s 68,.s 69,.s 71],[]),(xf 12 73 8,[]),(xs 2 73 67,[]),(xf 14 74 8,[]),(xs 2 74 72,[])])
 (.seq (.reg [xB .eql 76 43 10,xm 75 76])
 (.cond (.s 75) (.draw [(xm 77 7,[]),(xf 1 78 2,[]),(xo 79 78,[1]),(xm 80 7,[]),(xA 3 81 79 80,[]),(xf 2 82 81,[]),(xo 83 82,[1]),(xf 4 84 3,[]),(xo 85 84,[1,2]),(⟨(some 86),.idxA 2 (.s 85) (.c (.int .i64 0)),none⟩,[]),(xf 0 87 86,[]),(xo 88 87,[1,2]),(xf 16 89 8,[]),(xs 1 89 77,[]),(xf 1 90 8,[]),(xs 1 90 83,[]),(xf 17 91 8,[]),(xs 1 91 88,[])])
 (.skip)))))))))
 (.seq (.reg [xl 18 92 8,xs 18 4 92,⟨(some 5),.mv (.c (.bool true)),none⟩])
 (.ret))))))
theorem fn9:IsFn prog 9 ac9 [.cell 4 true 18,.tmp 5] 93:=⟨f9,⟨[],[],[]⟩,func9,by kernel_rfl,by kernel_rfl,by kernel_rfl,by kernel_rfl⟩
def astT (s:Scp) (c:Cmd):V:=.tup [.agg (if isAst s c then astF s c else .zero).enc,.bool (isAst s c)]
theorem rowQ_flds {n:Nd} (h:n.rowQ=true):∀k∈n.kids,fldK k:=by
  rcases row_spec h with ⟨_,_,_,hf⟩ | ⟨h1,h⟩
  · intro k hk;obtain⟨_,_,_,a,ha,hq⟩:=field_spec (hf k hk);refine⟨by rw[ha];simp,fun b hb=>?_⟩;rw[ha] at hb;obtain rfl:=List.mem_singleton.1 hb;have hl:=atom_label hq;simp only[Nd.atomQ,Bool.and_eq_true,Bool.or_eq_true,decide_eq_true_eq] at hq
    rcases hq.1 with h | h
    · exact .inl h
    · exact .inr (by rw[label_const hl h];omega)
  · rw[Nd.labelQ_eq,if_pos h1] at h;intro k hk;simp only[Nd.leafQ,Bool.and_eq_true,decide_eq_true_eq] at h
    have:n.kids.length=0:=by have:=h.2;omega
    exact absurd (List.length_pos_of_mem hk) (by omega)
theorem rowQ_one {n:Nd} (h:n.rowQ=true):n.names.length≤1:=by
  rcases row_spec h with ⟨_,_,hn,_⟩ | ⟨h1,h⟩
  · rcases hn with h | ⟨w,h,_⟩<;>rw[h]<;>simp
  · rw[Nd.labelQ_eq,if_pos h1] at h;simp only[Nd.leafQ,Bool.and_eq_true,decide_eq_true_eq] at h
    have:n.names.length=0:=by have:=h.2;omega
    omega
theorem fassert_calls (s:Scp) (c:Cmd) {σ:Store} (hs:s.ok) (hg:TZ σ) (hgf:σ.con 0=some formCells) (hn:c.names.length+1≤big) (hp:c.pairs.length+1≤big) (hl:c.left.cnt≤500) (hr:c.right.cnt≤500) (hwl:c.left.wt≤big) (hwr:c.right.wt≤big) :
    PCalls prog 9 [.agg s.enc,.agg c.enc] σ fun v σ' => v=astT s c∧σ' = σ:=by
  have no:∀(t:List V) (lo:List (List V)),isAst s c=false→RetK (fun v σ' => v=astT s c∧σ' = σ) ⟨t,lo,σ⟩ (.tup [.agg (astV 0 0 (.sl .full 10 []) .zero (.sl .full 10 []) 0 (.sl .full 10 []) 0 0 []),.bool false]):=fun t lo h=>by
    refine retK_intro (by simp only[V.nol,nolL,Bool.and_true];exact ast_nol rfl rfl rfl) (Store.sub_refl _) ⟨?_,rfl⟩;rw[astT,h];simp only[V.erase,eraseL,ast_er];rfl
  have yes:∀(t:List V) (lo:List (List V)) (op lat:Int) (cd:V) (to:Atm) (fa:V) (ta:Int) (fb:V) (tb v:Int) (f:List UInt8),isAst s c=true→cd.nol=true→fa.nol=true→fb.nol=true→astV op lat cd.erase to fa.erase ta fb.erase tb v f=(astF s c).enc→RetK (fun v σ' => v=astT s c∧σ' = σ) ⟨t,lo,σ⟩ (.tup [.agg (astV op lat cd to fa ta fb tb v f),.bool true]):=fun t lo op lat cd to fa ta fb tb v f h n1 n2 n3 hx=>by
    refine retK_intro (by simp only[V.nol,nolL,Bool.and_true];exact ast_nol n1 n2 n3) (Store.sub_refl _) ⟨?_,rfl⟩;rw[astT,h];simp only[V.erase,eraseL,ast_er,hx];rfl
  refine fn9.calls ?_;simp only[slots,ac9,am,ams,Nat.reduceAdd,Scp.rec_,astZ,cfl,cfo]
  by_cases o1:c.op<8
  · simp only[am,ast_,decide_eq_true o1];exact no _ _ (by simp[isAst];omega)
  simp only[am,cfo,decide_eq_false o1]
  by_cases o2:10<c.op
  · simp only[am,ast_,decide_eq_true o2];exact no _ _ (by simp[isAst];omega)
  simp only[am,cfl,decide_eq_false o2];refine cl (cmdright_calls c hgf hn hp hwl hwr) ?_;cases hq:c.rightQ with
  | false =>
    simp only[am,ast_];exact no _ _ (by simp[isAst,hq])
  | true =>
    simp only[am,Scp.rec_,cfl];refine cl (fitfault_calls s c hs hg hl hr hwl hwr) ?_;simp only[am,Flt.rec_]
    by_cases hf:(faultC s c).cls=0
    case neg =>
      simp only[am,ast_,decide_eq_false hf];exact no _ _ (by simp[isAst,hf])
    have hA:isAst s c=true:=by simp only[isAst,hq,hf,decide_true,Bool.and_true,Bool.and_eq_true,decide_eq_true_eq];omega
    have hF:=isAst_iff.1 hA;simp only[am,Scp.rec_,cfv,decide_eq_true hf];refine cl (scfind_calls s c.name.text σ hs.1 hs.2.1) ?_;simp only[am,Nat.reduceAdd,ast_,cfo,ast_one (op:=c.op) (lat:=optI (findL s.lats c.name.text)) (c:=.sl .full 10 []) (to:=.zero) (fa:=.sl .full 10 []) (ta:=0) (fb:=.sl .full 10 []) (tb:=0) (v:=0) (f:=[]) rfl rfl rfl]
    by_cases h8:c.op=8
    · simp only[am,Scp.rec_,Nd.rec_,cfv,decide_eq_true h8];obtain⟨k,hk,hlt⟩:=hF.latI (.inl h8);have hk' : optI (findL s.lats c.name.text)=(k:Nat):=hk;rw[hk'];refine cl (ccompile_calls s k c.left hg hs hwl (by omega)) ?_;simp only[am,Scp.rec_,ast_,Nd.rec_,cfv,codeT];refine cl (fatom_calls s k c.right hs hg hlt ?_ (by omega) hwr) ?_
      · rcases hF.right h8 with h | h
        · exact .inl h
        · exact .inr (by rw[label_const (hF.labels h8).2 h];omega)
      simp only[am,Atm.rec_,ast_,ast_one (op:=c.op) (lat:=k) (c:=.sl .no 10 (((compR s k c.left).getD []).map Ins.enc)) (to:=atmF s k c.right) (fa:=.sl .full 10 []) (ta:=0) (fb:=.sl .full 10 []) (tb:=0) (v:=0) (f:=[]) rfl rfl rfl];refine yes _ _ _ _ _ _ _ _ _ _ _ _ hA rfl rfl rfl ?_;rw[astF,if_pos h8,hk,h8];rfl
    simp only[am,decide_eq_false h8]
    by_cases h9:c.op=9
    · simp only[am,Scp.rec_,Nd.rec_,cfv,decide_eq_true h9];obtain⟨k,hk,hlt⟩:=hF.latI (.inr h9);have hk' : optI (findL s.lats c.name.text)=(k:Nat):=hk;rw[hk'];obtain⟨q1,q2⟩:=hF.rows h9;refine CallD.intro (frow_calls s k c.left hs hg hlt (rowQ_flds q1) (rowQ_one q1) (by omega) hwl) ?_;simp only[am,Scp.rec_,Nd.rec_,cfv];refine CallD.intro (frow_calls s k c.right hs hg hlt (rowQ_flds q2) (rowQ_one q2) (by omega) hwr) ?_;simp only[am,Scp.rec_,Rtm.rec_,ast_,cfv,ast_one (op:=c.op) (lat:=k) (c:=.sl .full 10 []) (to:=.zero) (fa:=.sl .no 10 ((rtmF s k c.left).fs.map Fld.enc)) (ta:=(rtmF s k c.left).tail) (fb:=.sl .no 10 ((rtmF s k c.right).fs.map Fld.enc)) (tb:=(rtmF s k c.right).tail) (v:=0) (f:=[]) rfl rfl rfl];refine yes _ _ _ _ _ _ _ _ _ _ _ _ hA rfl rfl rfl ?_;rw[astF,if_neg h8,if_pos h9,hk,h9];rfl
    have h10:c.op=10:=by omega
    simp only[am,Scp.rec_,decide_eq_false h9,decide_eq_true h10];obtain⟨v,hv,hv1,hv2⟩:=hF.var h10;obtain⟨w,hw,_⟩:=hF.one h10;rw[hv1];simp only[Int.reduceNeg,optI];refine idxL_intro (by omega) (vars_at hv) ?_;simp only[am,Int.reduceNeg,Scp.rec_,cfv];have hw1:0<c.names.length:=by rw[hw];simp
    refine idxL_intro (n:=0) (by omega) (words_at (l:=c.names) (j:=0) hw1) ?_;simp only[am,Int.reduceNeg,wd_t,Scp.rec_,ast_,cfv,ast_one (op:=c.op) (lat:=s.vars[v].lat) (c:=.sl .full 10 []) (to:=.zero) (fa:=.sl .full 10 []) (ta:=0) (fb:=.sl .full 10 []) (tb:=0) (v:=v) (f:=c.names[0].text) rfl rfl rfl];refine yes _ _ _ _ _ _ _ _ _ _ _ _ hA rfl rfl rfl ?_;rw[astF,if_neg h8,if_neg h9,hv1,varLat,List.getElem?_eq_getElem hv,getD_at hw1,h10];rfl
end Go.Proofs.Tryz

namespace Go.Proofs.Tryz
open Go.Am
set_option maxRecDepth 4000
set_option maxHeartbeats 4000000
theorem compR_len (s:Scp) (lat:Int) (n:Nd):((compR s lat n).getD []).length≤n.cnt:=by
  cases h:compR s lat n with
  | none=>simp
  | some l =>
    rw[compR] at h;split at h
    · exact compF_len n h
    · simp at h
end Go.Proofs.Tryz

namespace Go.Proofs.Tryz
open Go.Am
set_option maxRecDepth 4000
set_option maxHeartbeats 4000000
def ac8:AC:=.seq (.reg [⟨(some 0),.mv (.c (.bool false)),none⟩])
 (.seq (.reg [⟨(some 7),.bslice 1 [(.c (.str [108,111])),(.c (.str [104,105]))],none⟩,⟨(some 8),.build facZ [(0,1,(.c (.int .i64 1))),(1,1,(.s 7))],none⟩,⟨(some 9),.bslice 67 [(.s 8)],none⟩,⟨(some 10),.build [(.bool false),(.sl .full 67 [])] [(1,1,(.s 9))],none⟩,⟨(some 11),.build [(.str []),(.bool false),(.sl .full 67 [])] [(0,1,(.c (.str [107]))),(1,2,(.s 10))],none⟩,⟨(some 12),.bslice 3 [(.s 11)],none⟩,⟨(some 13),.build [(.str []),(.int .i64 0),(.int .i64 0)] [(0,1,(.c (.str [120]))),(1,1,(.c (.int .i64 1)))],none⟩,⟨(some 14),.build [(.str []),(.int .i64 0),(.int .i64 0)] [(0,1,(.c (.str [114]))),(1,1,(.c (.int .i64 2)))],none⟩,⟨(some 15),.bslice 3 [(.s 13),(.s 14)],none⟩,⟨(some 16),.build [(.sl .full 3 []),(.sl .full 3 [])] [(0,1,(.s 12)),(1,1,(.s 15))],none⟩,⟨(some 1),.alloc [(.sl .full 3 []),(.sl .full 3 [])],none⟩,xs 2 1 16])
 (.seq (.reg [⟨(some 17),.build [(.int .i64 0),(.int .i64 0),(.str []),(.sl .full 2 []),(.sl .full 5 [])] [(0,1,(.c (.int .i64 1))),(2,1,(.c (.str [120])))],none⟩,⟨(some 2),.alloc [(.int .i64 0),(.int .i64 0),(.str []),(.sl .full 2 []),(.sl .full 5 [])],none⟩,xs 5 2 17])
 (.seq (.reg [⟨(some 18),.build [(.str []),(.int .i64 0)] [(0,1,(.c (.str [107])))],none⟩,xl 5 19 2,⟨(some 20),.build [(.int .i64 0),(.int .i64 0),(.str []),(.sl .full 2 []),(.sl .full 5 [])] [(0,1,(.c (.int .i64 1))),(2,1,(.c (.str [114]))),(1,1,(.c (.int .i64 7)))],none⟩,⟨(some 21),.build [(.int .i64 0),(.int .i64 0),(.str []),(.int .i64 0),(.sl .full 2 []),(.sl .full 4 []),(.int .i64 0),(.int .i64 0),(.int .i64 0),(.str []),(.sl .full 2 []),(.sl .full 5 []),(.int .i64 0),(.int .i64 0),(.str []),(.sl .full 2 []),(.sl .full 5 [])] [(0,1,(.c (.int .i64 8))),(2,2,(.s 18)),(7,5,(.s 19)),(12,5,(.s 20))],none⟩,⟨(some 3),.alloc [(.int .i64 0),(.int .i64 0),(.str []),(.int .i64 0),(.sl .full 2 []),(.sl .full 4 []),(.int .i64 0),(.int .i64 0),(.int .i64 0),(.str []),(.sl .full 2 []),(.sl .full 5 []),(.int .i64 0),(.int .i64 0),(.str []),(.sl .full 2 []),(.sl .full 5 [])],none⟩,xs 17 3 21])
 (.seq (.reg [xl 2 22 1,xl 17 23 3,xc 17 24 [.s 22,.s 23],⟨(some 4),.alloc [(.int .i64 0),(.int .i64 0)],none⟩,xs 2 4 24])
 (.seq (.reg [xl 5 25 2,xf 12 26 3,xs 5 26 25])
 (.seq (.reg [xl 2 28 1,xl 17 29 3,xc 9 30 [.s 28,.s 29],xm 27 30,xe 31 27 0,xe 32 27 1,⟨(some 5),.alloc astZ,none⟩,xs 18 5 31,xm 6 32])
 (.seq (.reg [xl 2 33 4,⟨(some 34),.build [(.int .i64 0),(.int .i64 0)] [(0,1,(.c (.int .i64 4))),(1,1,(.c (.int .i64 7)))],none⟩,⟨(some 35),.eqA false [1,1] (.s 33) (.s 34),none⟩,xm 36 35,xg 36 (xm 37 6),⟨(some 38),.pick (.s 36) (.s 37) (.c (.bool false)),none⟩,xm 39 38,xg 39 (xf 2 40 5),xg 39 (xo 41 40),xg 39 (xL 42 41),xg 39 (xB .eql 43 42 1),⟨(some 44),.pick (.s 39) (.s 43) (.c (.bool false)),none⟩,xm 45 44,xg 45 (xf 3 46 5),xg 45 (xf 0 47 46),xg 45 (xo 48 47),xg 45 (xB .eql 49 48 0),⟨(some 50),.pick (.s 45) (.s 49) (.c (.bool false)),none⟩,xm 51 50,xg 51 (xl 2 52 1),xg 51 (xl 18 53 5),xg 51 (xc 13 54 [.s 52,.s 53]),⟨(some 55),.pick (.s 51) (.s 54) (.c (.bool false)),none⟩,xm 0 55])
 (.ret))))))))
theorem fn8:IsFn prog 8 ac8 [.tmp 0] 56:=⟨f8,⟨[],[],[]⟩,func8,by kernel_rfl,by kernel_rfl,by kernel_rfl,by kernel_rfl⟩
theorem er2_calls {f:FuncId} {u u' v v' : V} {σ:Store} {R' : V→Store→Prop} (h:PCalls prog f [u',v'] σ R') (e1:u.erase=u') (e2:v.erase=v'):PCalls prog f [u,v] σ R' :=
  h.weak (show LLe [u,v] [u',v'] from⟨e1▸VLe.erase,e2▸VLe.erase,trivial⟩) OLe.rfl
theorem alive15_calls {σ:Store} (hg:TZ σ) (hgf:σ.con 0=some formCells):PCalls prog 8 [] σ fun v σ' => v = .bool true∧σ' = σ:=by
  refine fn8.calls ?_;simp only[slots,ac8,am,ams,Nat.reduceAdd,fv_,astZ];refine cl (er2_calls (fitfault_calls exS5 (exC5 exR) ex5_ok hg (by decide +kernel) (by decide +kernel) (by decide +kernel) (by decide +kernel)) rfl rfl) ?_;rw[ex5_fault];simp only[am,Nat.reduceAdd,Flt.rec_];have k1:(exC5 exX).names.length+1≤big:=by decide +kernel
  have k2:(exC5 exX).pairs.length+1≤big:=by decide +kernel
  have h:=fassert_calls exS5 (exC5 exX) ex5_ok hg hgf k1 k2 (by decide +kernel) (by decide +kernel) (by decide +kernel) (by decide +kernel);have ea:∃A:Ast,astT exS5 (exC5 exX) = .tup [.agg A.enc,.bool true]∧A.code.length=1∧A.to.v=0∧astR exS5 A=true :=
    ⟨astF exS5 (exC5 exX),by rw[astT,ex5_is];rfl,ex5_len,ex5_to,ex5_right⟩
  obtain⟨A,ea,ea1,ea2,ea3⟩:=ea;rw[ea] at h;clear ea;refine cl (er2_calls h rfl rfl) ?_;obtain⟨op,lat,code,to,ra,rb,v,f⟩:=A;simp only at ea1 ea2;simp only[Ast.enc];simp only[am,Nat.reduceAdd,Flt.rec_,ast_,ast_one (op:=op) (lat:=lat) (c:=.sl .no 10 (code.map Ins.enc)) (to:=to) (fa:=.sl .no 10 (ra.fs.map Fld.enc)) (ta:=ra.tail) (fb:=.sl .no 10 (rb.fs.map Fld.enc)) (tb:=rb.tail) (v:=v) (f:=f) rfl rfl rfl];have q:eqC [1,1] (Flt.mk 4 7).enc [.int .i64 4,.int .i64 7]=some true:=by
    rw[show [V.int .i64 4,V.int .i64 7]=(Flt.mk 4 7).enc from rfl,Flt.r_eq,decide_eq_true rfl]
  have ld:ldC false 1 (List.drop 3 (astV op lat (.sl .no 10 (code.map Ins.enc)) to (.sl .no 10 (ra.fs.map Fld.enc)) ra.tail (.sl .no 10 (rb.fs.map Fld.enc)) rb.tail v f))=some (.int .i64 to.v):=rfl;simp only[am,List.length_map,ast_,List.length_map,q,ld,show decide ((code.length:Int)=1)=true from by rw[ea1];rfl,show decide (to.v=0)=true from decide_eq_true ea2];have h2:=fright_calls exS5 ⟨op,lat,code,to,ra,rb,v,f⟩ ex5_ok hg (by simp only;omega);rw[ea3] at h2;refine⟨ast_nol rfl rfl rfl,?_⟩;refine cl (er2_calls h2 ?_ ?_) ?_
  · rfl
  · simp only[V.erase,ast_er];rfl
  simp only[am];refine retS ?_;simp[V.erase]
end Go.Proofs.Tryz

namespace Go.Proofs.Tryz
open Go.Am
set_option maxRecDepth 4000
set_option maxHeartbeats 4000000
section
variable {op lat ta tb v:Int} {c fa fb:V} {to:Atm} {f:List UInt8}
end
end Go.Proofs.Tryz

namespace Go.Am
open Go.ChangeShapes Go.WideShapes Go.ChangeAt Go.RowKit
structure BulkFn {H:Type} (B:DataW H→Nat) (BA:List (DataW H)→Nat):Prop where
  str:∀b,B (.lit (.string b))=b.length+1
  int:∀k n,B (.lit (.int k n))=1
  bool:∀b,B (.lit (.bool b))=1
  nil:B .nil=1
  slice:∀e s,B (.slice e s)=BA e+BA s+1
  agg:∀p,B (.agg p)=BA p+1
  no:BA []=0
  cons:∀d r,BA (d::r)=B d+BA r
def envOf (W:World):Env:=⟨W,fun _=>.const,fun _=>none,fun _=>none⟩
section
variable {H:Type} {enc:TypeId × Value→H} {P:Program} {W:World} {sp:Nat→Bool} {B:DataW H→Nat} {BA:List (DataW H)→Nat}
theorem rd_int {t:TypeId} {k:IntKind} {n:Nat} {cs:List Value} {x:DataW H × List MemPlace} (ht:P.underlying t=some (.int k)) (hB:BulkFn B BA) (h:DataW.trod enc P W 0 sp true n t cs=some x) :
    ∃i:Int,RL (envOf W) [.int k i] cs∧(∀v∈cs,v.oneCell' = true)∧B x.1=1∧(Lit.int k i).wf=true:=by
  obtain⟨i,rfl,rfl,hw⟩:=DataW.trod_int ht h;exact⟨i,by simp[RL,R],by simp[Value.oneCell'],hB.int _ _,hw⟩
theorem rd_bool {t:TypeId} {n:Nat} {cs:List Value} {x:DataW H × List MemPlace} (ht:P.underlying t=some .bool) (hB:BulkFn B BA) (h:DataW.trod enc P W 0 sp true n t cs=some x) :
    ∃i:Bool,RL (envOf W) [.bool i] cs∧(∀v∈cs,v.oneCell' = true)∧B x.1=1:=by
  obtain⟨i,rfl,rfl⟩:=DataW.trod_bool ht h;exact⟨i,by simp[RL,R],by simp[Value.oneCell'],hB.bool _⟩
theorem rd_str {t:TypeId} {n:Nat} {cs:List Value} {x:DataW H × List MemPlace} (ht:P.underlying t=some .string) (hB:BulkFn B BA) (h:DataW.trod enc P W 0 sp true n t cs=some x) :
    ∃s:List UInt8,RL (envOf W) [.str s] cs∧(∀v∈cs,v.oneCell' = true)∧s.length+1=B x.1:=by
  obtain⟨s,rfl,rfl,_⟩:=DataW.trod_string ht h;exact⟨s.data.toList,by simp[RL,R],by simp[Value.oneCell'],(hB.str _).symm⟩
theorem rd_rows {α:Type} (ea:α→List V) (sz:α→Nat) {e:TypeId} {k n:Nat} (hB:BulkFn B BA) (hk:P.cellsOf e=k) (hlen:∀y,(ea y).length=k)
    (hel:∀cs x,DataW.trod enc P W 0 sp true n e cs=some x→∃y:α,RL (envOf W) (ea y) cs∧(∀v∈cs,v.oneCell' = true)∧sz y≤B x.1) {b o:Nat} :
    ∀(els:List (DataW H × List MemPlace)) (i:Nat),(∀j,j<els.length→(W.cells? 0 (Addr.add ⟨b,o,none⟩ ((i+j)*k)) k).bind (DataW.trod enc P W 0 sp true n e)=els[j]?) →
      ∃l:List α,l.length=els.length∧REs (envOf W).nl k (l.map ea) b (o+i*k)∧(l.map sz).sum≤BA (els.map (·.1))
  | [],i,_=>⟨[],rfl,by simp[REs],by simp⟩
  | x :: els, i, h => by
    obtain⟨l,h1,h2,h3⟩:=rd_rows ea sz hB hk hlen hel els (i+1) fun j hj=>by
      have:=h (j+1) (by simp;omega)
      rw[show i+(j+1)=i+1+j by omega] at this;simpa using this
    have h0:=h 0 (by simp);simp only[Nat.add_zero,List.getElem?_cons_zero] at h0;obtain⟨cs,hc,hr⟩:=Option.bind_eq_some_iff.1 h0;obtain⟨y,k1,k2,k3⟩:=hel cs x hr;obtain⟨_,hl,hcell⟩:=World.cells?_some hc;refine⟨y::l,by simp[h1],?_,?_⟩
    · simp only[List.map_cons,REs];refine⟨hlen y,RAs_mk k1 k2 (fun j v hv=>?_) (fun _ _=>trivial),by rw[show o+i*k+k=o+(i+1)*k by rw[Nat.add_mul];omega];exact h2⟩;have hj:j<k:=by have:=(List.getElem?_eq_some_iff.1 hv).1;omega
      have:=hcell j hj
      rw[addr_add,addr_add] at this;show W.cell? _=_;rw[this,hv]
    · simp only[List.map_cons,List.sum_cons,hB.cons];omega
theorem rd_slice {α:Type} (ea:α→List V) (sz:α→Nat) {t e:TypeId} {k fuel:Nat} (hB:BulkFn B BA) (ht:P.underlying t=some (.slice e)) (hk:P.cellsOf e=k) (hpos:0<k) (hlen:∀y,(ea y).length=k)
    (hel:∀n,n<fuel→∀cs x,DataW.trod enc P W 0 sp true n e cs=some x→∃y:α,RL (envOf W) (ea y) cs∧(∀v∈cs,v.oneCell' = true)∧sz y≤B x.1)
    {cs:List Value} {x:DataW H × List MemPlace} (h:DataW.trod enc P W 0 sp true fuel t cs=some x) :
    ∃l:List α,RL (envOf W) [.sl .no k (l.map ea)] cs∧(∀v∈cs,v.oneCell' = true)∧(l.map sz).sum+1≤B x.1:=by
  rcases DataW.trod_slice ht h with ⟨rfl,rfl⟩ | ⟨a,len,cap,elems,rest,n,rfl,rfl,rfl,_,hle,_,hl,hels,_,_⟩
  · refine⟨[],?_,by simp[Value.oneCell'],by simp[hB.nil]⟩;simp only[RL,R,List.map_nil,and_true];exact⟨none,0,rfl,by simp,by simp,trivial⟩
  · have ha:elems=[]∨∃b o,a=⟨b,o,none⟩:=by
      cases elems with
      | nil=>exact .inl rfl
      | cons y ys =>
        right;have h0:=hels 0 (by rw[←hl];simp);simp only[List.getElem?_cons_zero] at h0;obtain⟨cs',hc,_⟩:=Option.bind_eq_some_iff.1 h0;obtain⟨_,hl',hcell⟩:=World.cells?_some hc;have h1:=hcell 0 (by rw[hk];exact hpos);have h2:cs'[0]?=some (cs'[0]'(by rw[hl',hk];exact hpos)):=List.getElem?_eq_getElem _;rw[h2] at h1;obtain⟨b,o,s⟩:=a;refine⟨b,o,?_⟩;simp only[World.cell?] at h1;cases s with
        | none=>rfl
        | some s =>
          split at h1
          · simp[Addr.add] at h1
          · simp at h1
    rcases ha with rfl | ⟨b,o,rfl⟩
    · refine⟨[],?_,by simp[Value.oneCell'],by simp[hB.slice]⟩;simp only[List.length_nil] at hl;subst hl;simp only[RL,R,List.map_nil,and_true];exact⟨some a,cap,rfl,by simp,by simp,trivial⟩
    · obtain⟨l,h1,h2,h3⟩:=rd_rows (B:=B) (BA:=BA) (sp:=sp) (enc:=enc) (P:=P) (W:=W) (n:=n) ea sz hB hk hlen (hel n (Nat.lt_succ_self n)) elems 0 (fun j hj=>by
        have:=hels j (by omega)
        rw[hk] at this;rw[Nat.zero_add];exact this)
      refine⟨l,?_,by simp[Value.oneCell'],?_⟩
      · simp only[RL,R,List.length_map,and_true];exact⟨some ⟨b,o,none⟩,cap,by rw[h1,hl],by omega,.inr ⟨b,o,rfl,by simpa using h2⟩,trivial⟩
      · rw[hB.slice];omega
end
theorem post_am2 {H:Type} {enc:TypeId × Value→H} {P:Program} {f:Func} {s:ChangeSpec} {W:World} {args:Array Value} {ds:List (DataW H)} {before:List MemPlace} {tb:TypeId}
    (hl:laidOutB P=true) (hm:mapsRowed P=true) (hz:((List.range P.types.size).all fun t=>match P.underlying t with | some (.slice e)=>decide (0<P.cellsOf e) | _=>true)=true)
    (hres:f.resultTypes=#[tb]) (htb:P.underlying tb=some .bool) (hpar:∀t∈f.params.toList,t<P.types.size) (hvars:s.vars=[]) (hfn:(s.fn H ds).results=[.lit (.bool true)]∧(s.fn H ds).args=ds∧(s.fn H ds).vars=[])
    (hW:DataW.Whole enc P f.params.toList s.vars false W args.toList ds [] before) {W' : World} (hos:W'.os=W.os) (hout:W'.output=W.output) (hfrz:∀a,W'.frozen? a=W.frozen? a) (hsame:∀b,b<W.heap.size→W'.heap[b]?=W.heap[b]?) :
    s.post enc P f false true false false W args (.bool true) W' := by
  have hW' := hW;obtain⟨p,q,hA,hV,rfl,hfz,hnd⟩:=hW;rw[hvars] at hV;obtain⟨_,rfl⟩:=trodVars_none hV;have hkept:W.keptBut W' (fun _=>False):=by
    refine⟨hos,hout,fun i hi=>?_⟩;rw[hsame i hi];cases W.heap[i]? with
    | none=>rfl
    | some ob=>cases ob<;>simp
  simp only[List.append_nil] at hW';have hds:s.fn H (ds++[])=s.fn H ds:=by rw[List.append_nil]
  refine post_of_same (pa:=p) (pv:=[]) hW' (fun b sp' hd=>?_) (fun sp' hs=>?_) (fun sp' hs=>?_) (by simp) (World.keptBut_mono (fun _ h=>h.elim) hkept) ?_ (ok_one hres rfl (okWide_bool_mk htb _))
  · rw[hds,hfn.1,hres];exact trodAll_cons_mk (shut_bool htb _) trodAll_mk0
  · rw[hds,hfn.2.1];have hlt:=DataW.TrodAll.lt hA;have key:∀(ts:List TypeId) (vs:List Value) (ds:List (DataW H)) (ps:List MemPlace),(∀t∈ts,t<P.types.size)→DataW.TrodAll enc P W 0 (fun _=>true) true ts vs ds ps→(∀x∈ps,x.block<W.heap.size)→(∀x∈ps,sp' x.block=true)→DataW.TrodAll enc P W' 0 sp' true ts vs ds ps:=by
      intro ts;induction ts with
      | nil=>intro vs ds ps _ h _ _;cases vs<;>cases ds<;>first | exact h | exact h.elim
      | cons t ts ih =>
        intro vs ds ps hT h hlt hs;cases vs with
        | nil=>exact h.elim
        | cons v vs =>
          cases ds with
          | nil=>exact h.elim
          | cons d ds =>
            obtain⟨p,q,⟨n,h1⟩,h2,rfl⟩:=h;refine⟨p,q,⟨n,?_⟩,ih vs ds q (fun t ht=>hT t (by simp[ht])) h2 (fun x hx=>hlt x (by simp[hx])) (fun x hx=>hs x (by simp[hx])),rfl⟩;refine DataW.trod_stays (kids_rows hl hm) (fun {t e} ht he=>slices_full_of P hz t e ht he) (by simp) (hT t (by simp)) h1 (fun x hx=>?_) (fun x hx=>hs x (by simp[hx]));have hb:=hlt x (by simp[hx]);cases x with
            | cell b off=>exact cell_same (hsame b hb)
            | map b=>exact hsame b hb
    exact key _ _ _ _ hpar hA (fun x hx=>hlt x hx) (fun x hx=>hs x (by simpa using hx))
  · rw[hds,hfn.2.2,hvars];rfl
  · exact hfrz
theorem post_am {H:Type} {enc:TypeId × Value→H} {P:Program} {f:Func} {s:ChangeSpec} {W:World} {args:Array Value} {ds:List (DataW H)} {before:List MemPlace} {tb:TypeId}
    (hl:laidOutB P=true) (hm:mapsRowed P=true) (hz:((List.range P.types.size).all fun t=>match P.underlying t with | some (.slice e)=>decide (0<P.cellsOf e) | _=>true)=true)
    (hres:f.resultTypes=#[tb]) (htb:P.underlying tb=some .bool) (hpar:∀t∈f.params.toList,t<P.types.size) (hvars:s.vars=[]) (hfn:(s.fn H ds).results=[.lit (.bool true)]∧(s.fn H ds).args=ds∧(s.fn H ds).vars=[])
    (hW:DataW.Whole enc P f.params.toList s.vars false W args.toList ds [] before) {E' : Env} (hfr:Fr (envOf W) E') :
    s.post enc P f false true false false W args (.bool true) E'.w :=
  post_am2 hl hm hz hres htb hpar hvars hfn hW hfr.os hfr.output hfr.frz fun b hb=>(hfr.same b hb (.inl rfl)).1
section
variable {P:Program} {W:World} {r:Reach} {b:Nat} {t:TypeId} {v:Value} {E:Env}
theorem val_struct {fs:Array Field} {xs:List V} (ht:P.underlying t=some (.struct fs)) (hv:Value.okWide P W r b t v) (h:RL E xs v.cells.toList):R E (.agg xs) v:=by
  obtain⟨cs,rfl,_⟩:=okWide_struct ht hv;simp only[R];exact⟨cs,rfl,by simpa [Value.cells] using h⟩
end
end Go.Am

namespace Go.Am
open Go.ChangeShapes Go.WideShapes Go.ChangeAt Go.RowKit
def txtVal (s:List UInt8):Value:=.string ⟨s.toArray⟩
section
variable {H:Type} {enc:TypeId × Value→H} {P:Program} {W:World}
def pairsData (ps:List (List UInt8 × List UInt8)):DataW H:=.agg (ps.map fun p=>.agg [.lit (.string p.1),.lit (.string p.2)])
theorem list2 {α:Type} {l:List α} (h:l.length=2):∃a b,l=[a,b]:=by
  match l,h with
  | [a,b],_=>exact⟨a,b,rfl⟩
theorem txtVal_of {s:ByteArray} {l:List UInt8} (h:s.data.toList=l):Value.string s=txtVal l:=by subst h;simp[txtVal]
theorem chunks {α:Type} {k:Nat} (f:Nat→List α):∀(n:Nat) (cs:List α),cs.length=n*k→(∀i,i<n→(cs.drop (i*k)).take k=f i)→cs=((List.range n).map f).flatten
  | 0,cs,hl,_=>by simp at hl;simp[hl]
  | n + 1, cs, hl, h => by
    rw[Nat.succ_mul] at hl;have h1:=chunks (k:=k) f n (cs.take (n*k)) (by rw[List.length_take];omega) fun i hi=>by
      have:i*k+k≤n*k:=by rw[←Nat.succ_mul];exact Nat.mul_le_mul_right _ hi
      rw[List.drop_take,List.take_take,Nat.min_eq_left (by omega)];exact h i (by omega)
    have h2:=h n (by omega);rw[List.take_of_length_le (by rw[List.length_drop];omega)] at h2;rw[List.range_succ,List.map_append,List.flatten_append,←h1];simp only[List.map_cons,List.map_nil,List.flatten_cons,List.flatten_nil,List.append_nil];rw[←h2,List.take_append_drop]
theorem cells_of_pair {base:Nat} {sp:Nat→Bool} {held:Bool} {fuel:Nat} {e tf:TypeId} {fs:Array Field} {cs:List Value} {x:DataW H × List MemPlace} {a b:List UInt8}
    (he:P.underlying e=some (.struct fs)) (hs:fs.size=2) (hf0:(fs[0]?).map (fun f=>(f.type,f.offset))=some (tf,0)) (hf1:(fs[1]?).map (fun f=>(f.type,f.offset))=some (tf,1))
    (htf:P.underlying tf=some .string) (hct:P.cellsOf tf=1) (hce:P.cellsOf e=2)
    (h:DataW.trod enc P W base sp held fuel e cs=some x) (hx:x.1 = .agg [.lit (.string a),.lit (.string b)]):cs=[txtVal a,txtVal b]:=by
  obtain⟨xs,m,rfl,rfl,hl,hxl,hf⟩:=DataW.trod_struct he h;rw[hce] at hl;rw[hs] at hxl;obtain⟨u,v,rfl⟩:=list2 hl;obtain⟨x0,x1,rfl⟩:=list2 hxl;obtain⟨f0,g0,g1⟩:=Option.map_eq_some_iff.1 hf0;obtain⟨f1,g2,g3⟩:=Option.map_eq_some_iff.1 hf1;simp only[Prod.mk.injEq] at g1 g3;have h0:=hf 0 f0 g0;have h1:=hf 1 f1 g2;rw[g1.1,g1.2,hct] at h0;rw[g3.1,g3.2,hct] at h1;obtain⟨s0,p0,q0,_⟩:=DataW.trod_string htf h0;obtain⟨s1,p1,q1,_⟩:=DataW.trod_string htf h1;simp only[List.drop_zero,List.drop_succ_cons,List.take_succ_cons,List.take_zero,List.cons.injEq,and_true] at p0 p1;subst p0 p1 q0 q1;simp only[List.map_cons,List.map_nil,DataW.agg.injEq,List.cons.injEq,DataW.lit.injEq,Lit.string.injEq,and_true] at hx;rw[txtVal_of hx.1,txtVal_of hx.2]
theorem cells_of_pairs {base:Nat} {sp:Nat→Bool} {held:Bool} {fuel:Nat} {t e tf:TypeId} {n:Nat} {fs:Array Field} {cs:List Value} {ps:List (List UInt8 × List UInt8)} {p:List MemPlace}
    (ht:P.underlying t=some (.array n e)) (he:P.underlying e=some (.struct fs)) (hs:fs.size=2) (hf0:(fs[0]?).map (fun f=>(f.type,f.offset))=some (tf,0)) (hf1:(fs[1]?).map (fun f=>(f.type,f.offset))=some (tf,1))
    (htf:P.underlying tf=some .string) (hctf:P.cellsOf tf=1) (hce:P.cellsOf e=2) (hct:P.cellsOf t=n*2)
    (h:DataW.trod enc P W base sp held fuel t cs=some (pairsData ps,p)):cs=(ps.flatMap fun p=>[p.1,p.2]).map txtVal:=by
  obtain⟨xs,m,rfl,hx,hl,hxl,hi⟩:=DataW.trod_array ht h;rw[hct] at hl;have hxs:xs.map (·.1)=ps.map fun p=>(.agg [.lit (.string p.1),.lit (.string p.2)]:DataW H):=by
    have:=congrArg Prod.fst hx
    simpa [pairsData] using this.symm
  have hpl:ps.length=n:=by
    have:=congrArg List.length hxs
    simp at this;omega
  have hc:=chunks (fun i=>match ps[i]? with | some p=>[txtVal p.1,txtVal p.2] | none=>[]) n cs hl (fun i hin=>by
    have h1:=hi i hin;rw[hce] at h1;have hxi:xs[i]?=some xs[i]:=by simp[hxl,hin]
    have hpi:ps[i]?=some ps[i]:=by simp[hpl,hin]
    rw[hxi] at h1;have h2:=congrArg (·[i]?) hxs;simp only[List.getElem?_map,hxi,hpi,Option.map_some,Option.some.injEq] at h2;rw[hpi];exact cells_of_pair he hs hf0 hf1 htf hctf hce h1 h2)
  rw[hc,←hpl];clear hc hi hxl hl hx hxs h hpl;have key:∀qs:List (List UInt8 × List UInt8),((List.range qs.length).map fun i=>match qs[i]? with | some p=>[txtVal p.1,txtVal p.2] | none=>[])=qs.map fun p=>[txtVal p.1,txtVal p.2]:=fun qs=>by
    apply List.ext_getElem?;intro i
    by_cases hi:i<qs.length
    · simp[hi]
    · simp[hi]
  rw[key,List.map_flatMap,List.flatMap_def];rfl
end
end Go.Am

namespace Go.Am
open Go.ChangeShapes Go.WideShapes Go.ChangeAt Go.RowKit
def litV:V→Value
  | .str s=>txtVal s
  | .int k n=>.int k n
  | _=>.bool false
def isLit:V→Bool
  | .str _=>true
  | .int _ _=>true
  | _=>false
theorem litR {E:Env} {x:V} (h:isLit x=true) (v:Value):R E x v↔v=litV x:=by
  cases x<;>simp[isLit] at h<;>simp[R,litV,txtVal]
def mStore (B:Nat→Option (List V)):Store:=⟨fun _=>none,fun _=>none,B⟩
def MGlob (W:World) (B:Nat→Option (List V)):Prop:=∀b cs,B b=some cs→(∃e,W.heap[b]?=some (.cells (cs.map litV).toArray e (0,0)))∧∀x∈cs,isLit x=true
theorem lits_RL {E:Env}:∀{cs:List V},(∀x∈cs,isLit x=true)→RL E cs (cs.map litV)
  | [],_=>by simp[RL]
  | x :: cs, h => by
    simp only[List.map_cons,RL];exact⟨(litR (h x (by simp)) _).2 rfl,lits_RL fun y hy=>h y (by simp[hy])⟩
theorem mGlob_ok {W:World} {B:Nat→Option (List V)} (h:MGlob W B):(envOf W).ok (mStore B):=by
  refine⟨fun _ _ h=>by simp[mStore] at h,fun _ _ h=>by simp[mStore] at h,fun _ _=>rfl,⟨0,fun _ _=>rfl⟩,fun b cs hb=>?_⟩;obtain⟨⟨e,he⟩,hl⟩:=h b cs hb;refine RAs_mk (vs:=cs.map litV) (lits_RL hl) (fun v hv=>?_) (fun j v hj=>?_) fun _ _=>trivial
  · obtain⟨x,hx,rfl⟩:=List.mem_map.1 hv
    have:=hl x hx
    cases x<;>simp[isLit] at this<;>rfl
  · show W.cell? _=_;simp only[World.cell?,he,Nat.zero_add];simpa using hj
theorem law_callsM {H:Type} {enc:TypeId × Value→H} {P:Program} {n:FuncId} {f:Func} {s:ChangeSpec} {W:World} {args:Array Value} {vs:List V} {ds:List (DataW H)} {before:List MemPlace} {tb:TypeId} {B:Nat→Option (List V)}
    (hP:PCalls P n vs (mStore B) fun v σ' => v = .bool true∧σ' = mStore B) (hg:MGlob W B) (hR:RL (envOf W) vs args.toList)
    (hl:laidOutB P=true) (hm:mapsRowed P=true) (hz:((List.range P.types.size).all fun t=>match P.underlying t with | some (.slice e)=>decide (0<P.cellsOf e) | _=>true)=true)
    (hres:f.resultTypes=#[tb]) (htb:P.underlying tb=some .bool) (hpar:∀t∈f.params.toList,t<P.types.size) (hvars:s.vars=[]) (hfn:(s.fn H ds).results=[.lit (.bool true)]∧(s.fn H ds).args=ds∧(s.fn H ds).vars=[])
    (hW:DataW.Whole enc P f.params.toList s.vars false W args.toList ds [] before) :
    Calls P n args W fun e W' => ∃v,e = .returned v∧s.post enc P f false true false false W args v W' := by
  refine(hP.2 (envOf W) args (fun _=>rfl) (mGlob_ok hg) hR).mono ?_;rintro e w' ⟨v,x,E',σ',rfl,rfl,_,_,hRv,hfr,rfl,_⟩;simp only[R] at hRv;subst hRv;exact⟨_,rfl,post_am hl hm hz hres htb hpar hvars hfn hW hfr⟩
end Go.Am

namespace Go.Am
open Go.ChangeShapes Go.WideShapes Go.ChangeAt Go.RowKit
section
variable {H:Type} {enc:TypeId × Value→H} {P:Program} {W:World}
theorem laid_at {name:String} {d:DataW Unit} {rest:List (String × DataW Unit)} {g:Nat} {t:TypeId} (h:laidMet P ((name,d)::rest) W) (hg:P.globalNamed name=some g) (ht:(P.globals[g]?).map (·.type)=some t) {vs:List Value}
    (hc:∀(cs:List Value) (fuel:Nat) (p:List MemPlace),DataW.trod (fun _=>()) P W 0 (fun _=>true) false fuel t cs=some (d,p)→cs=vs) (hv:vs≠[]):∃e,W.heap[g]?=some (.cells vs.toArray e (0,0)):=by
  obtain⟨ps,⟨g',t',cs,fuel,p,q,hg',ht',hv',hd,_,hps⟩,_,hb⟩:=h;obtain rfl:g' = g:=Option.some.inj (hg'.symm.trans hg);obtain rfl:t' = t:=Option.some.inj (ht'.symm.trans ht);have hcs:=hc _ _ _ hd;have hcs' : cs=vs.toArray:=by rw[←hcs]
  obtain⟨⟨c,e,hce⟩,_⟩:=hb g' 0 (by
    rw[hps];refine List.mem_append_left _ (List.mem_append_left _ ?_);rw[hcs'];cases vs with
    | nil=>exact absurd rfl hv
    | cons a l=>simp[MemPlace.row])
  refine⟨e,?_⟩;rw[hce];simp only[World.var?,hg,Option.bind_some,hce,Option.some.injEq] at hv';rw[hv',hcs']
end
end Go.Am
