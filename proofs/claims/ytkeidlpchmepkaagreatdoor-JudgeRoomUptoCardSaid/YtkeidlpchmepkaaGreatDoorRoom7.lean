/-
  For every scope, two rooms and a line: more room never makes a line wrong that was right; less room makes it wrong by its limits alone (JudgeRoom), where what comes in is of bulk at most 1048576.
-/
import Derived.Test.YtkeidlpchmepkaaGreatDoorProg
import Derived.ProofKit
import Derived.OpenShut
import Derived.JoinedCond
import Derived.ChangeStays
import Derived.ReadAgain
import Derived.Deep.DeepHandedRow
import Derived.Lib.LaidTab
import Derived.Stop.LaidErr
import Derived.Test.YtkeidlpchmepkaaGreatDoorCards
import Derived.Test.YtkeidlpchmepkaaGreatDoorTie
import Derived.Test.YtkeidlpchmepkaaGreatDoorRoom6
set_option linter.unusedVariables false
set_option linter.unusedSimpArgs false
set_option linter.defProp false
set_option linter.unusedSectionVars false

namespace Go.Proofs.Tryz
open Go.Am
set_option maxRecDepth 4000
set_option maxHeartbeats 4000000
def ac111:AC:=.seq (.reg [⟨(some 2),.mv (.c (.sl .full 1 [])),none⟩])
 (.seq (.reg [⟨(some 3),.mv (.c (.sl .full 1 [])),none⟩])
 (.seq (.seq (.reg [xm 6 0,xL 7 6,xi 8 0])
 (.block 0 (.loop (.seq (.reg [xb .lss 9 8 7])
 (.seq (.cond (.s 9) (.skip)
 (.exit 0))
 (.seq (.block 1 (.seq (.reg [xA 2 10 6 8,xl 2 11 10,⟨(some 5),.alloc [(.str []),(.int .i64 0)],none⟩,xs 2 5 11])
 (.reg [xm 12 3,xf 0 13 5,xo 14 13,⟨(some 15),.bslice 1 [(.s 14)],none⟩,xa 1 16 12 15,xm 3 16])))
 (.reg [xB .add 17 8 1,xm 8 17])))))))
 (.seq (.reg [xm 18 3,xm 2 18])
 (.ret))))
theorem fn111:IsFn prog 111 ac111 [.tmp 2] 19:=⟨f111,⟨[],[],[]⟩,func111,by kernel_rfl,by kernel_rfl,by kernel_rfl,by kernel_rfl⟩
def ac115:AC:=.seq (.reg [⟨(some 1),.box 17 (.s 0),none⟩,⟨(some 2),.alloc relZ,none⟩])
 (.seq (.reg [xf 4 7 1,xo 8 7,xc 111 9 [.s 8],xm 3 9])
 (.seq (.reg [⟨(some 4),.mv (.c (.sl .full 2 [])),none⟩])
 (.seq (.seq (.reg [xf 5 10 1,xo 11 10,xL 12 11,xi 13 0])
 (.block 0 (.loop (.seq (.reg [xb .lss 14 13 12])
 (.seq (.cond (.s 14) (.skip)
 (.exit 0))
 (.seq (.block 1 (.seq (.reg [xA 4 15 11 13,xl 4 16 15,⟨(some 6),.alloc [(.str []),(.int .i64 0),(.str []),(.int .i64 0)],none⟩,xs 4 6 16])
 (.draw [(xm 17 4,[]),(xm 18 3,[]),(⟨(some 19),.idxP 2 2 (.s 6) (.c (.int .i64 0)),none⟩,[]),(xf 0 20 19,[]),(xo 21 20,[]),(xc 112 22 [.s 18,.s 21],[]),(xm 23 3,[]),(⟨(some 24),.idxP 2 2 (.s 6) (.c (.int .i64 1)),none⟩,[]),(xf 0 25 24,[]),(xo 26 25,[0]),(xc 112 27 [.s 23,.s 26],[]),(⟨(some 28),.build [(.int .i64 0),(.int .i64 0)] [(0,1,(.s 22)),(1,1,(.s 27))],none⟩,[]),(⟨(some 29),.bslice 2 [(.s 28)],none⟩,[]),(xa 2 30 17 29,[]),(xm 4 30,[])])))
 (.reg [xB .add 31 13 1,xm 13 31])))))))
 (.seq (.reg [xm 32 3,xL 33 32,xm 34 4,xc 165 35 [.s 33,.s 34],xc 164 36 [.s 35],xs 65 2 36])
 (.ret)))))
theorem fn115:IsFn prog 115 ac115 [.cell 2 true 65] 37:=⟨f115,⟨[],[],[]⟩,func115,by kernel_rfl,by kernel_rfl,by kernel_rfl,by kernel_rfl⟩
def ac165:AC:=.seq (.reg [⟨(some 4),.alloc relZ,none⟩])
 (.seq (.reg [xm 8 0,xc 222 9 [.s 8],⟨(some 5),.alloc relZ,none⟩,xs 65 5 9])
 (.seq (.seq (.reg [xm 10 1,xL 11 10,xi 12 0])
 (.block 0 (.loop (.seq (.reg [xb .lss 13 12 11])
 (.seq (.cond (.s 13) (.skip)
 (.exit 0))
 (.seq (.block 1 (.seq (.reg [xA 2 14 10 12,xl 2 15 14,⟨(some 7),.alloc [(.int .i64 0),(.int .i64 0)],none⟩,xs 2 7 15])
 (.seq (.reg [xl 65 16 5,xf 0 17 7,xo 18 17,xc 223 19 [.s 16,.s 18],xm 20 19,xg 20 (xl 65 21 5),xg 20 (xf 1 22 7),xg 20 (xo 23 22),xg 20 (xc 223 24 [.s 21,.s 23]),⟨(some 25),.pick (.s 20) (.s 24) (.c (.bool false)),none⟩])
 (.cond (.s 25) (.draw [(xf 0 26 7,[]),(xo 27 26,[1]),(xf 0 28 7,[]),(xo 29 28,[]),(xf 1 30 5,[]),(⟨(some 31),.idxP 64 1 (.s 30) (.s 29),none⟩,[]),(xo 32 31,[]),(xf 1 33 7,[]),(xo 34 33,[]),(xc 220 35 [.s 32,.s 34],[]),(xf 1 36 5,[]),(⟨(some 37),.idxP 64 1 (.s 36) (.s 27),none⟩,[]),(xs 1 37 35,[])])
 (.skip)))))
 (.reg [xB .add 38 12 1,xm 12 38])))))))
 (.seq (.reg [xl 65 39 5,xs 65 4 39])
 (.ret))))
theorem fn165:IsFn prog 165 ac165 [.cell 4 true 65] 40:=⟨f165,⟨[],[],[]⟩,func165,by kernel_rfl,by kernel_rfl,by kernel_rfl,by kernel_rfl⟩
def ac223:AC:=.seq (.reg [⟨(some 2),.box 65 (.s 0),none⟩,⟨(some 4),.mv (.c (.bool false)),none⟩])
 (.seq (.reg [xm 5 1,xB .geq 6 5 0,xm 7 6,xg 7 (xm 8 1),xg 7 (xl 65 9 2),xg 7 (xc 213 10 [.s 9]),xg 7 (xb .lss 11 8 10),⟨(some 12),.pick (.s 7) (.s 11) (.c (.bool false)),none⟩,xm 4 12])
 (.ret))
theorem fn223:IsFn prog 223 ac223 [.tmp 4] 13:=⟨f223,⟨[],[],[]⟩,func223,by kernel_rfl,by kernel_rfl,by kernel_rfl,by kernel_rfl⟩
def prE (p:Int × Int):List V:=[.int .i64 p.1,.int .i64 p.2]
theorem ris_calls (r:Rl) (i:Int) (σ:Store):PCalls prog 223 [.agg r.enc,.int .i64 i] σ fun v σ' => v = .bool (decide (0≤i)&&decide (i<(pts r:Nat)))∧σ' = σ:=by
  refine fn223.calls ?_;simp only[slots,ac223,am,ams,Nat.reduceAdd,Rl.rec_]
  by_cases h:0≤i
  · simp only[am,Rl.rec_,decide_eq_true h];refine cl (points_calls r σ) ?_;simp only[am];refine retS ?_;simp[V.erase]
  · simp only[am,decide_eq_false h];refine retS ?_;simp[V.erase]
theorem prs_at {l:List (Int × Int)} {j:Nat} (h:j<l.length):(l.map prE)[((j:Nat):Int).toNat]?=some (prE l[j]):=by simp[h]
theorem of_n {n:Int} {l:List (Int × Int)}:pts (ofR n l)≤64:=pts_le
theorem rof_calls (n:Int) (l:List (Int × Int)) (σ:Store) (hl:l.length≤100000):PCalls prog 165 [.int .i64 n,.sl .no 2 (l.map prE)] σ fun v σ' => v = .agg (ofR n l).enc∧σ' = σ:=by
  refine fn165.calls ?_;simp only[slots,ac165,am,ams,Nat.reduceAdd,Rl.rec_];refine cl (new_calls n σ) ?_;simp only[am,List.length_map,Rl.rec_,List.length_map];obtain⟨F,hF⟩:∃F:Nat→Unit→St,∀i x,F i x=⟨[.any,.any,.any,.any,.ptr (.loc 0) 0,.ptr (.loc 1) 0,.any,.any,.any,.any,.sl .no 2 (l.map prE),.int .i64 (l.length:Nat),.int .i64 (i:Nat)]++List.replicate 27 .any,[Rl.zero.enc,(ofR n (l.take i)).enc],σ⟩:=⟨_,fun _ _=>rfl⟩;obtain⟨JF,hJF⟩:∃JF:Nat→Unit→Prop,∀i x,JF i x=(True):=⟨_,fun _ _=>rfl⟩;refine vc_count (l.length) F JF _ hJF ?_ ?_ ?_
  · refine ent (()) ?_ ?_ ?_ ?_
    · exact Eq.mpr (hJF _ _) (trivial)
    all_goals simp[hF,List.replicate,am,lle_self,ofR]
  · rintro i x hi -;have hT:=ofR_take (n:=n) hi;generalize hr:ofR n (l.take i)=r at hT;have hp:=@pts_le r;obtain⟨p,hp1⟩:∃p,l[i]=p:=⟨_,rfl⟩;rw[hp1] at hT;simp only[hF,List.replicate,am,dlt hi];refine idxL_intro (by omega) (prs_at hi) ?_;rw[hp1,hr];obtain⟨a,b⟩:=p;simp only[am,Nat.reduceAdd,Rl.rec_,prE];refine cl (ris_calls r a σ) ?_
    by_cases ha:0≤a∧a<(pts r:Nat)
    · simp only[am,Rl.rec_,decide_eq_true ha.1,decide_eq_true ha.2];refine cl (ris_calls r b σ) ?_
      by_cases hb:0≤b∧b<(pts r:Nat)
      · obtain⟨k,rfl⟩:∃k:Nat,a=k:=⟨a.toNat,by omega⟩;have hk:k<64:=by omega
        have e:ofR n (l.take (i+1))=r.put k (withB (r.get k) b):=by rw[hT,ofStep,if_pos ⟨ha,hb⟩];rfl
        simp only[am,amc,decide_eq_true hb.1,decide_eq_true hb.2];refine idxPL_ptr (by omega) (by omega) ?_;simp only[am,Int.toNat_natCast,Nat.mul_one,Rl.u_ld hk];refine CallD.intro (mask_with_calls (r.get k) b σ) ?_;simp only[am,amc];refine idxPL_ptr (by omega) (by omega) ?_;simp only[z8_,Rl.u_has hk,Rl.u_st hk,winc hi (by omega)];refine nxtD (()) hi ?_ ?_ ?_ ?_ ?_ ?_
        · exact Eq.mpr (hJF _ _) (trivial)
        all_goals simp[hF,List.replicate,am,lle_self,loL,loLL,V.lo,e,Rl.r_lo]
      · have e:ofR n (l.take (i+1))=r:=by rw[hT,ofStep,if_neg fun h=>hb h.2]
        have hb' : (decide (0≤b)&&decide (b<(pts r:Nat)))=false:=by rw[←Bool.decide_and];exact decide_eq_false hb
        simp only[am,aml,hb',winc hi (by omega)];refine nxtD (()) hi ?_ ?_ ?_ ?_ ?_ ?_
        · exact Eq.mpr (hJF _ _) (trivial)
        all_goals simp[hF,List.replicate,am,lle_self,loL,loLL,V.lo,e,Rl.r_lo]
    · have e:ofR n (l.take (i+1))=r:=by rw[hT,ofStep,if_neg fun h=>ha h.1]
      have ha' : (decide (0≤a)&&decide (a<(pts r:Nat)))=false:=by rw[←Bool.decide_and];exact decide_eq_false ha
      simp only[am,aml,ha',winc hi (by omega)];refine nxtD (()) hi ?_ ?_ ?_ ?_ ?_ ?_
      · exact Eq.mpr (hJF _ _) (trivial)
      all_goals simp[hF,List.replicate,am,lle_self,loL,loLL,V.lo,e,Rl.r_lo]
  · rintro x -;simp only[hF,List.replicate,am,aml,dnl,aml,Rl.rec_,List.take_length];exact retK_intro (v:=.agg (ofR n l).enc) Rl.r_nol (Store.sub_refl _) ⟨by simp only[V.erase,Rl.r_er],rfl⟩
theorem stexts_calls (l:List Word) (σ:Store) (hl:l.length≤100000):PCalls prog 111 [.sl .no 2 (l.map Word.enc)] σ fun v σ' => v = .sl .no 1 (sCells (wtx l))∧σ' = σ:=by
  refine fn111.calls ?_;simp only[slots,ac111,am,ams,List.length_map];obtain⟨F,hF⟩:∃F:Nat→Nat→St,∀i τ,F i τ=⟨[.any,.any,.any,.sl (.tk τ) 1 (sCells (wtx (l.take i))),.any,.any,.sl .no 2 (l.map Word.enc),.int .i64 (l.length:Nat),.int .i64 (i:Nat)]++List.replicate 10 .any,[],σ.setTip τ i⟩:=⟨_,fun _ _=>rfl⟩;obtain⟨JF,hJF⟩:∃JF:Nat→Nat→Prop,∀i τ,JF i τ=(σ.tip τ=none):=⟨_,fun _ _=>rfl⟩;refine vc_count (l.length) F JF _ hJF ?_ ?_ ?_
  · refine entT 0 fun τ hτ=>⟨τ,Eq.mpr (hJF _ _) hτ,?_,?_,?_⟩
    all_goals simp[hF,List.replicate,lto,wtx,sCells]
  · rintro i τ hi hτ;have hlen:(sCells (wtx (l.take i))).length=i:=by rw[sCells_len,wtx_len,List.length_take];omega
    have hs:sCells (wtx (l.take (i+1)))=sCells (wtx (l.take i))++[[.str l[i].text]]:=by rw[List.take_succ_eq_append_getElem hi];simp only[wtx,sCells,List.map_append,List.map_cons,List.map_nil]
    simp only[hF,List.replicate,am,dlt hi];refine idxL_intro (by omega) (words_at hi) ?_;simp only[am,Word.rec_,wd_t];refine app_tk (by rw[hlen];simp[big];omega) (by rw[hlen];exact setTip_tip_same) ?_;rw[hlen];simp only[am,aml,setTip_setTip,winc hi (by omega),List.length_singleton];refine nxtD (τ) hi ?_ ?_ ?_ ?_ ?_ ?_
    · exact Eq.mpr (hJF _ _) (hτ)
    all_goals simp[hF,List.replicate,am,lle_self,loL,loLL,V.lo,hs]
  · rintro τ hτ;simp only[hF,List.replicate,am,aml,dnl,aml,List.take_length];refine retK_intro rfl (sub_tip hτ) ⟨rfl,rfl⟩
def prL (P:Word × Word→Int × Int) (l:List (Word × Word)):List (List V):=(l.map P).map prE
theorem prL_len {P:Word × Word→Int × Int} {l:List (Word × Word)}:(prL P l).length=l.length:=by simp[prL]
theorem pencs_at' {l:List (Word × Word)} {j:Nat} (h:j<l.length):(l.map penc)[((j:Nat):Int).toNat]?=some (penc l[j]):=by simp[h]
theorem related_calls (c:Cmd) (σ:Store) (hn:c.names.length≤100000) (hp:c.pairs.length≤100000):PCalls prog 115 [.agg c.enc] σ fun v σ' => v = .agg (relC c).enc∧σ' = σ:=by
  refine fn115.calls ?_;simp only[slots,ac115,am,ams,Rl.rec_];simp only[am,cfl,cfv];refine cl (stexts_calls c.names σ hn) ?_;simp only[am,List.length_map,List.length_map,cfv];have hw:(wtx c.names).length≤100000:=by rw[wtx_len];exact hn
  generalize hP:pairI (wtx c.names)=P;obtain⟨F,hF⟩:∃F:Nat→Nat→St,∀i τ,F i τ=⟨[.any,.ptr (.loc 0) 0,.ptr (.loc 1) 0,.sl .no 1 (sCells (wtx c.names)),.sl (.tk τ) 2 (prL P (c.pairs.take i)),.any,.any,.any,.any,.any,.any,.sl .no 4 (c.pairs.map penc),.int .i64 (c.pairs.length:Nat),.int .i64 (i:Nat)]++List.replicate 23 .any,[c.enc,Rl.zero.enc],σ.setTip τ i⟩:=⟨_,fun _ _=>rfl⟩;obtain⟨JF,hJF⟩:∃JF:Nat→Nat→Prop,∀i τ,JF i τ=(σ.tip τ=none):=⟨_,fun _ _=>rfl⟩;refine vc_count (c.pairs.length) F JF _ hJF ?_ ?_ ?_
  · refine entT 0 fun τ hτ=>⟨τ,Eq.mpr (hJF _ _) hτ,?_,?_,?_⟩
    all_goals simp[hF,List.replicate,lto,prL]
  · rintro i τ hi hτ;have hlen:(prL P (c.pairs.take i)).length=i:=by rw[prL_len,List.length_take];omega
    have hs:prL P (c.pairs.take (i+1))=prL P (c.pairs.take i)++[prE (P c.pairs[i])]:=by rw[List.take_succ_eq_append_getElem hi];simp only[prL,List.map_append,List.map_cons,List.map_nil]
    simp only[hF,List.replicate,am,dlt hi];refine idxL_intro (by omega) (pencs_at' hi) ?_;simp only[am,amc,Nat.reduceAdd,penc];refine idxPL_ptr (by omega) (by omega) ?_;simp only[am,Int.reduceToNat,Nat.reduceMul];refine CallD.intro (find_calls (wtx c.names) c.pairs[i].1.text (σ.setTip τ i) hw) ?_;simp only[am,amc];refine idxPL_ptr (by omega) (by omega) ?_;simp only[am,Int.reduceToNat,Nat.reduceMul];refine CallD.intro (find_calls (wtx c.names) c.pairs[i].2.text (σ.setTip τ i) hw) ?_;simp only[am,Nat.reduceAdd];refine appD_tk (by rw[hlen];simp[big];omega) (by rw[hlen];exact setTip_tip_same) ?_;rw[hlen];have he:[V.int .i64 (optI (findS (wtx c.names) c.pairs[i].1.text)),.int .i64 (optI (findS (wtx c.names) c.pairs[i].2.text))]=prE (P c.pairs[i]):=by rw[←hP];rfl
    rw[he];simp only[am,aml,setTip_setTip,winc hi (by omega),List.length_singleton];refine nxtD (τ) hi ?_ ?_ ?_ ?_ ?_ ?_
    · exact Eq.mpr (hJF _ _) (hτ)
    all_goals simp[hF,List.replicate,am,lle_self,loL,loLL,V.lo,hs,Cmd.enc,Cmd.encP,Rl.r_lo]
  · rintro τ hτ;simp only[hF,List.replicate,am,aml,dnl,aml,sCells_len,List.take_length];rw[wtx_len];refine cl (PCalls.weak (as' := [.int .i64 (c.names.length:Nat),.sl .no 2 (prL P c.pairs)]) (show PCalls prog 165 [.int .i64 (c.names.length:Nat),.sl .no 2 (prL P c.pairs)] _ _ from rof_calls (c.names.length:Nat) (c.pairs.map P) _ (by simpa using hp)) ⟨VLe.rfl,VLe.no,trivial⟩ OLe.rfl) ?_;simp only[am,Rl.rec_];refine cl (closure_calls _ _) ?_;simp only[am,Rl.rec_];subst hP;exact retK_intro (v:=.agg (relC c).enc) Rl.r_nol (sub_tip hτ) ⟨by simp only[V.erase,Rl.r_er],rfl⟩
end Go.Proofs.Tryz

namespace Go.Proofs.Tryz
open Go.Am
set_option maxRecDepth 4000
set_option maxHeartbeats 4000000
def ac116:AC:=.seq (.reg [⟨(some 2),.box 2 (.s 0),none⟩,⟨(some 3),.box 17 (.s 1),none⟩,⟨(some 4),.alloc [(.bool false),(.sl .full 67 [])],none⟩])
 (.seq (.reg [⟨(some 5),.mv (.c (.sl .full 2 [])),none⟩])
 (.seq (.seq (.reg [xf 4 10 3,xo 11 10,xL 12 11,xi 13 0])
 (.block 0 (.loop (.seq (.reg [xb .lss 14 13 12])
 (.seq (.cond (.s 14) (.skip)
 (.exit 0))
 (.seq (.block 1 (.seq (.reg [xA 2 15 11 13,xl 2 16 15,⟨(some 7),.alloc [(.str []),(.int .i64 0)],none⟩,xs 2 7 16])
 (.seq (.reg [xl 2 18 2,xf 0 19 7,xo 20 19,xc 63 21 [.s 18,.s 20],xm 17 21,xe 22 17 0,xe 23 17 1,xm 8 22,xm 9 23])
 (.seq (.reg [xm 24 8,xB .geq 25 24 0])
 (.cond (.s 25) (.reg [xm 26 5,xf 0 27 2,xo 28 27,xm 29 8,xA 3 30 28 29,xf 1 31 30,xl 2 32 31,⟨(some 33),.bslice 2 [(.s 32)],none⟩,xa 2 34 26 33,xm 5 34])
 (.skip))))))
 (.reg [xB .add 35 13 1,xm 13 35])))))))
 (.seq (.reg [xm 36 5,xc 166 37 [.s 36],xs 2 4 37])
 (.ret))))
theorem fn116:IsFn prog 116 ac116 [.cell 4 true 2] 38:=⟨f116,⟨[],[],[]⟩,func116,by kernel_rfl,by kernel_rfl,by kernel_rfl,by kernel_rfl⟩
def ac166:AC:=.seq (.reg [⟨(some 2),.alloc [(.bool false),(.sl .full 67 [])],none⟩])
 (.seq (.reg [⟨(some 8),.build [(.bool false),(.sl .full 67 [])] [(0,1,(.c (.bool true)))],none⟩,⟨(some 3),.alloc [(.bool false),(.sl .full 67 [])],none⟩,xs 2 3 8])
 (.seq (.seq (.reg [xm 9 0,xL 10 9,xi 11 0])
 (.block 0 (.loop (.seq (.reg [xb .lss 12 11 10])
 (.seq (.cond (.s 12) (.skip)
 (.exit 0))
 (.seq (.block 1 (.seq (.reg [xA 2 13 9 11,xl 2 14 13,⟨(some 5),.alloc [(.bool false),(.sl .full 67 [])],none⟩,xs 2 5 14])
 (.seq (.reg [xf 1 15 5,xo 16 15,xL 17 16,xi 18 0])
 (.block 2 (.loop (.seq (.reg [xb .lss 19 18 17])
 (.seq (.cond (.s 19) (.skip)
 (.exit 2))
 (.seq (.block 3 (.seq (.reg [xA 67 20 16 18,xl 67 21 20,⟨(some 7),.alloc facZ,none⟩,xs 67 7 21])
 (.draw [(xf 1 22 3,[]),(xo 23 22,[1]),(xl 67 24 7,[]),(xc 224 25 [.s 24],[]),(⟨(some 26),.bslice 67 [(.s 25)],none⟩,[]),(xa 67 27 23 26,[]),(xf 1 28 3,[]),(xs 1 28 27,[])])))
 (.reg [xB .add 29 18 1,xm 18 29])))))))))
 (.reg [xB .add 30 11 1,xm 11 30])))))))
 (.seq (.reg [xl 2 31 3,xs 2 2 31])
 (.ret))))
theorem fn166:IsFn prog 166 ac166 [.cell 2 true 2] 32:=⟨f166,⟨[],[],[]⟩,func166,by kernel_rfl,by kernel_rfl,by kernel_rfl,by kernel_rfl⟩
def ac224:AC:=.seq (.reg [⟨(some 1),.box 67 (.s 0),none⟩,⟨(some 2),.alloc facZ,none⟩])
 (.seq (.reg [⟨(some 3),.bslice 1 [],none⟩,xf 1 4 1,xo 5 4,xa 1 6 3 5,xf 1 7 1,xs 1 7 6])
 (.seq (.reg [xl 67 8 1,xs 67 2 8])
 (.ret)))
theorem fn224:IsFn prog 224 ac224 [.cell 2 true 67] 9:=⟨f224,⟨[],[],[]⟩,func224,by kernel_rfl,by kernel_rfl,by kernel_rfl,by kernel_rfl⟩
theorem fct_h1 {f:Fct}:hasN 1 (f.enc.drop 1)=true:=rfl
theorem fct_s1 {f:Fct}:setAt f.enc 1 [.sl .no 1 (sCells f.names)]=f.enc:=by rw[Fct.enc,setAt_succ,setAt_zero,over_cons,over_nil]
theorem clone_calls (f:Fct) (σ:Store) (hf:f.names.length≤100000):PCalls prog 224 [.agg f.enc] σ fun v σ' => v = .agg f.enc∧σ' = σ:=by
  refine fn224.calls ?_;simp only[slots,ac224,am,ams,Fct.rec_];refine app_full_no (by simp[sCells_len,big];omega) ?_;simp only[am,Fct.rec_,fct_h1,List.nil_append,fct_s1];exact retK_intro (v:=.agg f.enc) Fct.r_nol (Store.sub_refl _) ⟨by simp only[V.erase,Fct.r_er],rfl⟩
theorem shps_at {l:List Shp} {j:Nat} (h:j<l.length):(l.map Shp.enc)[((j:Nat):Int).toNat]?=some l[j].enc:=by simp[h]
theorem fcts_at {l:List Fct} {j:Nat} (h:j<l.length):(l.map Fct.enc)[((j:Nat):Int).toNat]?=some l[j].enc:=by simp[h]
def fcC (l:List Fct):List (List V):=l.map Fct.enc
theorem fcC_len {l:List Fct}:(fcC l).length=l.length:=by simp[fcC]
theorem fcC_app {l:List Fct} {f:Fct}:fcC (l++[f])=fcC l++[f.enc]:=by simp[fcC]
theorem product_calls (l:List Shp) (σ:Store) (hl:l.length≤100000) (hs:∀s∈l,s.facs.length≤100000∧∀f∈s.facs,f.names.length≤100000) (hb:(l.flatMap Shp.facs).length≤100000000) :
    PCalls prog 166 [.sl .no 2 (l.map Shp.enc)] σ fun v σ' => v = .agg (prodS l).enc∧σ' = σ:=by
  have hT:∀{i:Nat} (hi:i<l.length),(l.take (i+1)).flatMap Shp.facs=(l.take i).flatMap Shp.facs++l[i].facs:=fun {i} hi=>by rw[List.take_succ_eq_append_getElem hi,List.flatMap_append];simp
  have hL:∀{i:Nat} (hi:i<l.length),((l.take i).flatMap Shp.facs).length+l[i].facs.length≤100000000:=fun {i} hi=>by
    have h1:(l.take (i+1)++l.drop (i+1)).flatMap Shp.facs=l.flatMap Shp.facs:=by rw[List.take_append_drop]
    rw[←h1,List.flatMap_append,hT hi] at hb;simp only[List.length_append] at hb;omega
  refine fn166.calls ?_;simp only[slots,ac166,am,ams,Nat.reduceAdd,List.length_map];obtain⟨Q,hQ⟩:∃Q:Nat→List Fct,∀i,Q i=(l.take i).flatMap Shp.facs:=⟨_,fun _=>rfl⟩;have hQ0:Q 0=[]:=by rw[hQ];rfl
  have hQn:Q l.length=(prodS l).facs:=by rw[hQ,List.take_length];rfl
  obtain⟨F,hF⟩:∃F:Nat→Nat→St,∀i τ,F i τ=⟨[.any,.any,.ptr (.loc 0) 0,.ptr (.loc 1) 0,.any,.any,.any,.any,.any,.sl .no 2 (l.map Shp.enc),.int .i64 (l.length:Nat),.int .i64 (i:Nat)]++List.replicate 20 .any,[[.bool false,.sl .full 67 []],[.bool true,.sl (.tk τ) 67 (fcC (Q i))]],σ.setTip τ (Q i).length⟩:=⟨_,fun _ _=>rfl⟩;obtain⟨JF,hJF⟩:∃JF:Nat→Nat→Prop,∀i τ,JF i τ=(σ.tip τ=none):=⟨_,fun _ _=>rfl⟩;refine vc_count (l.length) F JF _ hJF ?_ ?_ ?_
  · refine entTL 0 fun τ hτ=>⟨τ,Eq.mpr (hJF _ _) hτ,?_,?_,?_⟩
    all_goals simp[hF,List.replicate,lto,llto,hQ0,fcC]
  · rintro i τ hi hτ;have hsi:=hs _ (List.getElem_mem hi);have hLi:=hL hi;rw[←hQ] at hLi;have hQs:Q (i+1)=Q i++l[i].facs:=by rw[hQ,hQ,hT hi]
    simp only[hF,List.replicate,am,dlt hi];refine idxL_intro (by omega) (shps_at hi) ?_;simp only[am,Nat.reduceAdd,List.length_map,Shp.rec_,List.length_map];generalize Q i=q at hLi hQs;obtain⟨W,hW⟩:∃W:Nat→List Fct,∀j,W j=q++l[i].facs.take j:=⟨_,fun _=>rfl⟩;have hW0:q=W 0:=by rw[hW];simp
    have hWn:W l[i].facs.length=Q (i+1):=by rw[hW,List.take_length,hQs]
    rw[hW0];obtain⟨F2,hF2⟩:∃F2:Nat→Unit→St,∀j x,F2 j x=⟨[.any,.any,.ptr (.loc 0) 0,.ptr (.loc 1) 0,.any,.any,.any,.any,.any,.sl .no 2 (l.map Shp.enc),.int .i64 (l.length:Nat),.int .i64 (i:Nat),.any,.any,.any,.any,.sl .no 67 (l[i].facs.map Fct.enc),.int .i64 (l[i].facs.length:Nat),.int .i64 (j:Nat)]++List.replicate 13 .any,[[.bool false,.sl .full 67 []],[.bool true,.sl (.tk τ) 67 (fcC (W j))],l[i].enc],σ.setTip τ (W j).length⟩:=⟨_,fun _ _=>rfl⟩;obtain⟨JF2,hJF2⟩:∃JF2:Nat→Unit→Prop,∀j x,JF2 j x=(True):=⟨_,fun _ _=>rfl⟩;refine vc_count (l[i].facs.length) F2 JF2 _ hJF2 ?_ ?_ ?_
    · refine ent (()) ?_ ?_ ?_ ?_
      · exact Eq.mpr (hJF2 _ _) (trivial)
      all_goals simp[hF2,List.replicate,am,lle_self]
    · rintro j x hj -;have hWs:W (j+1)=W j++[l[i].facs[j]]:=by rw[hW,hW,List.take_succ_eq_append_getElem hj,List.append_assoc]
      have hWl:(W j).length+1≤100000000:=by rw[hW];simp only[List.length_append,List.length_take];omega
      have hlen:(fcC (W j)).length=(W j).length:=fcC_len;have hWl2:(W (j+1)).length=(W j).length+1:=by rw[hWs];simp
      simp only[hF2,List.replicate,am,dlt hj];refine idxL_intro (by omega) (fcts_at hj) ?_;simp only[am,Nat.reduceAdd,Fct.rec_];refine CallD.intro (clone_calls l[i].facs[j] (σ.setTip τ (W j).length) (hsi.2 _ (List.getElem_mem hj))) ?_;simp only[am,Fct.rec_];refine appD_tk (by rw[hlen];simp[big];omega) (by rw[hlen];exact setTip_tip_same) ?_;rw[hlen];simp only[am,aml,setTip_setTip,winc hj (by omega),List.length_singleton];rw[←fcC_app,←hWs,←hWl2];refine nxtD (()) hj ?_ ?_ ?_ ?_ ?_ ?_
      · exact Eq.mpr (hJF2 _ _) (trivial)
      all_goals simp[hF2,List.replicate,am,lle_self,loL,loLL,V.lo,Shp.r_lo]
    · rintro x -;simp only[hF2,List.replicate,am,aml,dnl,Nat.reduceAdd,Nat.reduceEqDiff,aml,reduceCtorEq,winc hi (by omega),hWn];refine nxtD (τ) hi ?_ ?_ ?_ ?_ ?_ ?_
      · exact Eq.mpr (hJF _ _) (hτ)
      all_goals simp[hF,List.replicate,am,lle_self,loL,loLL,V.lo]
  · rintro τ hτ;simp only[hF,List.replicate,am,aml,dnl,Nat.reduceAdd,aml,hQn];refine retK_intro rfl (sub_tip hτ) ⟨rfl,rfl⟩
theorem latO_len {s:Scp} {w:Word}:(latO s w).length≤1:=by
  unfold latO;split
  · split<;>simp
  · simp
def shC (l:List Shp):List (List V):=l.map Shp.enc
theorem shC_app {l:List Shp} {s:Shp}:shC (l++[s])=shC l++[s.enc]:=by simp[shC]
theorem flatS_len {f:Word→List Shp} (h:∀w,(f w).length≤1):∀{l:List Word},(l.flatMap f).length≤l.length
  | []=>by simp
  | w::ws=>by have:=flatS_len h (l:=ws);have:=h w;simp only[List.flatMap_cons,List.length_append,List.length_cons];omega
theorem facs_len {N:Nat}:∀{l:List Shp},(∀s∈l,s.facs.length≤N)→(l.flatMap Shp.facs).length≤l.length*N
  | [],_=>by simp
  | s :: ss, h => by
    have h1:=facs_len (N:=N) (l:=ss) fun x hx=>h x (by simp[hx])
    have h2:=h s (by simp);simp only[List.flatMap_cons,List.length_append,List.length_cons,Nat.succ_mul];omega
theorem latO_mem {s:Scp} {w:Word} {x:Shp} (h:x∈latO s w):∃l∈s.lats,x=l.shape:=by
  unfold latO at h;split at h
  · split at h
    · rename_i y hy;exact⟨y,List.mem_of_getElem? hy,by simpa using h⟩
    · simp at h
  · simp at h
theorem latO_some {s:Scp} {w:Word} {k:Nat} (h:findL s.lats w.text=some k) (hk:k<s.lats.length):latO s w=[s.lats[k].shape]:=by
  simp only[latO,h,List.getElem?_eq_getElem hk]
theorem latO_none {s:Scp} {w:Word} (h:findL s.lats w.text=none):latO s w=[]:=by simp only[latO,h]
theorem product13_calls (s:Scp) (c:Cmd) (σ:Store) (hs:s.ok2) (hn:c.names.length≤100000):PCalls prog 116 [.agg s.enc,.agg c.enc] σ fun v σ' => v = .agg (prodC s c).enc∧σ' = σ:=by
  refine fn116.calls ?_;simp only[slots,ac116,am,ams,Nat.reduceAdd,Scp.rec_];simp only[am,List.length_map,List.length_map,cfl,cfv];obtain⟨Q,hQ⟩:∃Q:Nat→List Shp,∀i,Q i=(c.names.take i).flatMap (latO s):=⟨_,fun _=>rfl⟩;have hQ0:Q 0=[]:=by rw[hQ];rfl
  have hQl:∀i,(Q i).length≤100000:=fun i=>by
    rw[hQ]
    have:=flatS_len (f:=latO s) (fun _=>latO_len) (l:=c.names.take i)
    rw[List.length_take] at this;omega
  obtain⟨F,hF⟩:∃F:Nat→Nat→St,∀i τ,F i τ=⟨[.any,.any,.ptr (.loc 0) 0,.ptr (.loc 1) 0,.ptr (.loc 2) 0,.sl (.tk τ) 2 (shC (Q i)),.any,.any,.any,.any,.any,.sl .no 2 (c.names.map Word.enc),.int .i64 (c.names.length:Nat),.int .i64 (i:Nat)]++List.replicate 24 .any,[s.enc,c.enc,[.bool false,.sl .full 67 []]],σ.setTip τ (Q i).length⟩:=⟨_,fun _ _=>rfl⟩;obtain⟨JF,hJF⟩:∃JF:Nat→Nat→Prop,∀i τ,JF i τ=(σ.tip τ=none):=⟨_,fun _ _=>rfl⟩;refine vc_count (c.names.length) F JF _ hJF ?_ ?_ ?_
  · refine entT 0 fun τ hτ=>⟨τ,Eq.mpr (hJF _ _) hτ,?_,?_,?_⟩
    all_goals simp[hF,List.replicate,lto,hQ0,shC]
  · rintro i τ hi hτ;have hQs:Q (i+1)=Q i++latO s c.names[i]:=by rw[hQ,hQ,List.take_succ_eq_append_getElem hi,List.flatMap_append];simp
    have hlq:=hQl i;simp only[hF,List.replicate,am,dlt hi];refine idxL_intro (by omega) (words_at hi) ?_;simp only[am,Nat.reduceAdd,Scp.rec_,Word.rec_,wd_t];refine cl (scfind_calls s c.names[i].text _ hs.1.1 hs.1.2.1) ?_;cases hf:findL s.lats c.names[i].text with
    | none =>
      have e:Q (i+1)=Q i:=by rw[hQs,latO_none hf,List.append_nil]
      simp only[am,decide_false,aml,Int.reduceNeg,Int.reduceLE,optI,winc hi (by omega)];refine nxtD (τ) hi ?_ ?_ ?_ ?_ ?_ ?_
      · exact Eq.mpr (hJF _ _) (hτ)
      all_goals simp[hF,List.replicate,am,lle_self,loL,loLL,V.lo,e,Scp.r_lo,Cmd.enc,Cmd.encP]
    | some k =>
      have hk:=(find_lt hf).1;have e:Q (i+1)=Q i++[s.lats[k].shape]:=by rw[hQs,latO_some hf hk]
      have hlen:(shC (Q i)).length=(Q i).length:=by simp[shC]
      have e2:(Q (i+1)).length=(Q i).length+1:=by rw[e];simp
      simp only[am,Int.reduceNeg,Scp.rec_,optI,decide_eq_true (show (0:Int)≤((k:Nat):Int) by omega)];refine idxL_intro (by omega) (lats_at hk) ?_;simp only[am,Int.reduceNeg,Scp.rec_,Shp.rec_];refine app_tk (by rw[hlen];simp[big];omega) (by rw[hlen];exact setTip_tip_same) ?_;rw[hlen];simp only[am,aml,Int.reduceNeg,setTip_setTip,winc hi (by omega),List.length_singleton];rw[←shC_app,←e,←e2];refine nxtD (τ) hi ?_ ?_ ?_ ?_ ?_ ?_
      · exact Eq.mpr (hJF _ _) (hτ)
      all_goals simp[hF,List.replicate,am,lle_self,loL,loLL,V.lo,Scp.r_lo,Cmd.enc,Cmd.encP]
  · rintro τ hτ;have hq:=hQl c.names.length;have e:Q c.names.length=c.names.flatMap (latO s):=by rw[hQ,List.take_length]
    have hm:∀x∈Q c.names.length,∃l∈s.lats,x=l.shape:=fun x hx=>by
      rw[e] at hx;obtain⟨w,_,hx⟩:=List.mem_flatMap.1 hx;exact latO_mem hx
    have hlf:=facs_len (N:=100) (l:=Q c.names.length) fun x hx=>by obtain⟨l,hl,rfl⟩:=hm x hx;exact hs.2 l hl
    have hpc:prodC s c=prodS (Q c.names.length):=by rw[prodC,e]
    simp only[hF,List.replicate,am,aml,dnl,aml];refine cl (PCalls.weak (as' := [.sl .no 2 (shC (Q c.names.length))]) (product_calls (Q c.names.length) _ (by omega) (fun x hx=>by obtain⟨l,hl,rfl⟩:=hm x hx;exact hs.1.2.2 l hl) (by omega)) ⟨VLe.no,trivial⟩ OLe.rfl) ?_;simp only[am,Shp.rec_];refine retK_intro rfl (sub_tip hτ) ⟨by rw[hpc];rfl,rfl⟩
end Go.Proofs.Tryz

namespace Go.Proofs.Tryz
open Go.Am
set_option maxRecDepth 4000
set_option maxHeartbeats 4000000
def ac50:AC:=.seq (.reg [⟨(some 2),.mv (.c (.bool false)),none⟩])
 (.seq (.reg [xm 3 0,xB .geq 4 3 1,xm 5 4,xg 5 (xm 6 0),xg 5 (xB .leq 7 6 5),⟨(some 8),.pick (.s 5) (.s 7) (.c (.bool false)),none⟩,xm 2 8])
 (.ret))
theorem fn50:IsFn prog 50 ac50 [.tmp 2] 9:=⟨f50,⟨[],[],[]⟩,func50,by kernel_rfl,by kernel_rfl,by kernel_rfl,by kernel_rfl⟩
def ac51:AC:=.seq (.reg [⟨(some 2),.mv (.c (.bool false)),none⟩])
 (.seq (.reg [xm 3 0,xB .eql 4 3 6,xm 5 4,xh 5 (xm 6 0),xh 5 (xB .eql 7 6 7),⟨(some 8),.pick (.s 5) (.c (.bool true)) (.s 7),none⟩,xm 2 8])
 (.ret))
theorem fn51:IsFn prog 51 ac51 [.tmp 2] 9:=⟨f51,⟨[],[],[]⟩,func51,by kernel_rfl,by kernel_rfl,by kernel_rfl,by kernel_rfl⟩
def ac52:AC:=.seq (.reg [xm 6 0,xm 7 0,xk 8 7,xf 2 9 8,xf 2 10 9,xf 0 11 10,xo 12 11,xc 109 13 [.s 6,.s 12],xm 5 13,xe 14 5 0,xe 15 5 1,xm 2 14,xm 3 15])
 (.seq (.reg [xm 16 0,xk 17 16,xf 2 18 17,xf 2 19 18,xf 1 20 19,xo 21 20,xm 4 21])
 (.seq (.seq (.reg [xm 22 0,xk 23 22,xf 2 24 23,xf 0 25 24,xo 26 25,xc 50 27 [.s 26]])
 (.cond (.s 27) (.seq (.reg [xm 28 0,xm 29 3,xm 30 4,xc 110 31 [.s 28,.s 29,.c (.int .i64 3),.s 30]])
 (.ret))
 (.skip)))
 (.seq (.reg [xm 32 0,xm 33 3,⟨(some 34),.not (.s 33),none⟩,xm 35 4,xc 110 36 [.s 32,.s 34,.c (.int .i64 3),.s 35]])
 (.reg [xm 37 0,xm 38 3,xm 39 38,xg 39 (xm 40 2),⟨(some 41),.not (.s 40),(some (39,true))⟩,⟨(some 42),.pick (.s 39) (.s 41) (.c (.bool false)),none⟩,xm 43 4,xc 110 44 [.s 37,.s 42,.c (.int .i64 4),.s 43]]))))
theorem fn52:IsFn prog 52 ac52 [] 45:=⟨f52,⟨[],[],[]⟩,func52,by kernel_rfl,by kernel_rfl,by kernel_rfl,by kernel_rfl⟩
def ac53:AC:=.seq (.reg [xm 8 0,xk 9 8,xf 2 10 9,xf 4 11 10,xo 12 11,xc 111 13 [.s 12],xm 2 13])
 (.seq (.reg [xm 14 0,xk 15 14,xf 2 16 15,xf 4 17 16,xo 18 17,xL 19 18,xi 20 0])
 (.block 0 (.loop (.seq (.reg [xb .lss 21 20 19])
 (.seq (.cond (.s 21) (.skip)
 (.exit 0))
 (.seq (.block 1 (.seq (.reg [xm 22 20,xA 2 23 18 20,xl 2 24 23,⟨(some 4),.alloc [(.str []),(.int .i64 0)],none⟩,xm 3 22,xs 2 4 24])
 (.seq (.reg [xm 26 0,xf 0 27 4,xo 28 27,xc 109 29 [.s 26,.s 28],xm 25 29,xe 30 25 0,xe 31 25 1,xm 5 30,xm 6 31])
 (.seq (.seq (.reg [xm 32 0,xk 33 32,xf 2 34 33,xf 0 35 34,xo 36 35,xB .eql 37 36 3])
 (.cond (.s 37) (.seq (.reg [xm 38 0,xm 39 6,⟨(some 40),.not (.s 39),none⟩,xf 1 41 4,xo 42 41,xc 110 43 [.s 38,.s 40,.c (.int .i64 3),.s 42]])
 (.seq (.reg [xm 44 0,xm 45 6,xm 46 45,xg 46 (xm 47 5),⟨(some 48),.not (.s 47),(some (46,true))⟩,⟨(some 49),.pick (.s 46) (.s 48) (.c (.bool false)),none⟩,xf 1 50 4,xo 51 50,xc 110 52 [.s 44,.s 49,.c (.int .i64 4),.s 51]])
 (.exit 1)))
 (.skip)))
 (.seq (.draw [(xm 53 2,[]),(xm 54 3,[]),(⟨(some 55),.slc 1 (.s 53) none (some (.s 54)) none,none⟩,[]),(xf 0 56 4,[]),(xo 57 56,[]),(xc 112 58 [.s 55,.s 57],[]),(xB .geq 59 58 0,[]),(xm 7 59,[])])
 (.draw [(xm 60 0,[]),(xm 61 7,[]),(xm 62 61,[]),(xh 62 (xm 63 0),[]),(xh 62 (xk 64 63),[]),(xh 62 (xf 2 65 64),[]),(xh 62 (xf 0 66 65),[]),(xh 62 (xo 67 66),[]),(xh 62 (xc 51 68 [.s 67]),[]),(xh 62 (xm 69 68),[]),(xg 69 (xm 70 6),[]),(⟨(some 71),.pick (.s 69) (.s 70) (.c (.bool false)),(some (62,false))⟩,[]),(⟨(some 72),.pick (.s 62) (.c (.bool true)) (.s 71),none⟩,[]),(xf 1 73 4,[]),(xo 74 73,[0]),(xc 110 75 [.s 60,.s 72,.c (.int .i64 3),.s 74],[])]))))))
 (.reg [xB .add 76 20 1,xm 20 76])))))))
theorem fn53:IsFn prog 53 ac53 [] 77:=⟨f53,⟨[],[],[]⟩,func53,by kernel_rfl,by kernel_rfl,by kernel_rfl,by kernel_rfl⟩
def ac109:AC:=.seq (.reg [⟨(some 4),.mv (.c (.bool false)),none⟩,⟨(some 5),.mv (.c (.bool false)),none⟩])
 (.seq (.reg [xm 9 0,xk 10 9,xf 0 11 10,xl 2 12 11,xm 13 1,xc 63 14 [.s 12,.s 13],xm 8 14,xe 15 8 0,xe 16 8 1,xm 6 15,xm 7 16])
 (.seq (.reg [xm 17 6,xB .geq 18 17 0,xm 19 6,xB .geq 20 19 0,xm 21 20,xh 21 (xm 22 7),xh 21 (xB .geq 23 22 0),⟨(some 24),.pick (.s 21) (.c (.bool true)) (.s 23),none⟩,xm 4 18,xm 5 24])
 (.ret)))
theorem fn109:IsFn prog 109 ac109 [.tmp 4,.tmp 5] 25:=⟨f109,⟨[],[],[]⟩,func109,by kernel_rfl,by kernel_rfl,by kernel_rfl,by kernel_rfl⟩
def ac110:AC:=.seq (.reg [xm 8 1])
 (.cond (.s 8) (.reg [xm 9 0,xm 10 0,xk 11 10,xf 19 12 11,xo 13 12,xm 14 2,xm 15 3,⟨(some 16),.build [(.int .i64 0),(.int .i64 0)] [(0,1,(.s 14)),(1,1,(.s 15))],none⟩,⟨(some 17),.bslice 2 [(.s 16)],none⟩,xa 2 18 13 17,xk 19 9,xf 19 20 19,xs 1 20 18])
 (.skip))
theorem fn110:IsFn prog 110 ac110 [] 21:=⟨f110,⟨[],[],[]⟩,func110,by kernel_rfl,by kernel_rfl,by kernel_rfl,by kernel_rfl⟩
theorem jtell_calls (σ:Store) (b τ:Nat) (l:List Flt) (s:Scp) (c:Cmd) (x y:Int) (is:Bool) (hl:l.length≤100000000) :
    PCalls prog 110 [.ptr (.out b) 0,.bool is,.int .i64 x,.int .i64 y] (jput σ b τ l s c) fun v σ' => v = .tup []∧σ' = jput σ b τ (l++tellF is x y) s c:=by
  refine fn110.calls ?_;simp only[slots,ac110,am,ams,Nat.reduceAdd];cases is with
  | false =>
    simp only[am];exact retK_intro rfl (Store.sub_refl _) ⟨rfl,by simp[tellF]⟩
  | true =>
    simp only[am,Nat.reduceAdd,jr_];refine app_tk (by simp[big];omega) (by rw[List.length_map];exact jput_tip) ?_;simp only[am,List.length_map,List.length_map,jr_,List.length_singleton,jput_app];exact retK_intro rfl (Store.sub_refl _) ⟨rfl,by simp[tellF]⟩
theorem optI_pos {o:Option Nat}:decide (0≤optI o)=o.isSome:=by cases o<;>simp[optI]
theorem optI_neg0 {o:Option Nat}:decide (optI o<0)=o.isNone:=by cases o with
  | none=>rfl
  | some k=>exact decide_eq_false (by simp only[optI];omega)
theorem jlive_calls (σ:Store) (b τ:Nat) (l:List Flt) (s:Scp) (c:Cmd) (t:List UInt8) (hs:s.ok) :
    PCalls prog 109 [.ptr (.out b) 0,.str t] (jput σ b τ l s c) fun v σ' => v = .tup [.bool (isL s t),.bool (livS s t)]∧σ' = jput σ b τ l s c:=by
  refine fn109.calls ?_;simp only[slots,ac109,am,ams,Nat.reduceAdd,Scp.rec_,jr_];refine cl (scfind_calls s t _ hs.1 hs.2.1) ?_;simp only[am,optI_pos];cases hL:(findL s.lats t).isSome with
  | true =>
    simp only[am];refine retS ?_;simp[V.erase,eraseL,isL,livS,hL]
  | false =>
    simp only[am,optI_pos];refine retS ?_;simp[V.erase,eraseL,isL,livS,hL]
theorem lat5_calls (op:Int) (σ:Store):PCalls prog 50 [.int .i64 op] σ fun v σ' => v = .bool (lat5 op)∧σ' = σ:=by
  refine fn50.calls ?_;simp only[slots,ac50,am,ams]
  by_cases h:1≤op
  · simp only[am,decide_eq_true h];refine retS ?_;simp[V.erase,lat5,h]
  · simp only[am,decide_eq_false h];refine retS ?_;simp[V.erase,lat5,h]
theorem var2_calls (op:Int) (σ:Store):PCalls prog 51 [.int .i64 op] σ fun v σ' => v = .bool (var2 op)∧σ' = σ:=by
  refine fn51.calls ?_;simp only[slots,ac51,am,ams]
  by_cases h:op=6
  · simp only[am,decide_eq_true h];refine retS ?_;simp[V.erase,var2,h]
  · simp only[am,decide_eq_false h];refine retS ?_;simp[V.erase,var2,h]
theorem jhead_calls (σ:Store) (b τ:Nat) (l:List Flt) (s:Scp) (c:Cmd) (hs:s.ok) (hl:l.length≤90000000) :
    PCalls prog 52 [.ptr (.out b) 0] (jput σ b τ l s c) fun v σ' => v = .tup []∧σ' = jput σ b τ (l++headFl s c) s c:=by
  refine fn52.calls ?_;simp only[slots,ac52,am,ams,Nat.reduceAdd,jr_];refine cl (jlive_calls σ b τ l s c c.name.text hs) ?_;simp only[am,Nat.reduceAdd,jr_];refine cl (lat5_calls c.op _) ?_;cases h5:lat5 c.op with
  | true =>
    simp only[am];refine cl (jtell_calls σ b τ l s c 3 c.name.pos (livS s c.name.text) (by omega)) ?_;simp only[am];exact retK_intro rfl (Store.sub_refl _) ⟨rfl,by rw[headFl,if_pos h5]⟩
  | false =>
    have e:headFl s c=tellF (!livS s c.name.text) 3 c.name.pos++tellF (livS s c.name.text&&!isL s c.name.text) 4 c.name.pos:=by rw[headFl,h5];rfl
    have hlen:=@tellF_len (!livS s c.name.text) 3 c.name.pos;simp only[am];refine cl (jtell_calls σ b τ l s c 3 c.name.pos (!livS s c.name.text) (by omega)) ?_;cases hv:livS s c.name.text with
    | true =>
      rw[hv] at hlen e;simp only[am];refine cl (jtell_calls σ b τ (l++tellF (!true) 3 c.name.pos) s c 4 c.name.pos (!isL s c.name.text) (by rw[List.length_append];omega)) ?_;simp only[am];exact retK_intro rfl (Store.sub_refl _) ⟨rfl,by rw[e,List.append_assoc,Bool.true_and];rfl⟩
    | false =>
      rw[hv] at hlen e;simp only[am];refine cl (jtell_calls σ b τ (l++tellF (!false) 3 c.name.pos) s c 4 c.name.pos false (by rw[List.length_append];omega)) ?_;simp only[am];exact retK_intro rfl (Store.sub_refl _) ⟨rfl,by rw[e,List.append_assoc,Bool.false_and];rfl⟩
theorem jnames_calls (σ:Store) (b τ:Nat) (l:List Flt) (s:Scp) (c:Cmd) (hs:s.ok) (hl:l.length≤80000000) (hn:c.names.length≤100000) :
    PCalls prog 53 [.ptr (.out b) 0] (jput σ b τ l s c) fun v σ' => v = .tup []∧σ' = jput σ b τ (l++nmsFl s c c.names.length) s c:=by
  refine fn53.calls ?_;simp only[slots,ac53,am,ams,Nat.reduceAdd,jr_];refine cl (stexts_calls c.names _ (by omega)) ?_;simp only[am,Nat.reduceAdd,List.length_map,List.length_map,jr_];have hw:(wtx c.names).length=c.names.length:=wtx_len;obtain⟨F,hF⟩:∃F:Nat→Unit→St,∀i x,F i x=⟨[.ptr (.out b) 0,.any,.sl .no 1 (sCells (wtx c.names)),.any,.any,.any,.any,.any,.any,.any,.any,.any,.any,.any,.any,.any,.any,.any,.sl .no 2 (c.names.map Word.enc),.int .i64 (c.names.length:Nat),.int .i64 (i:Nat)]++List.replicate 56 .any,[],jput σ b τ (l++nmsFl s c i) s c⟩:=⟨_,fun _ _=>rfl⟩;obtain⟨JF,hJF⟩:∃JF:Nat→Unit→Prop,∀i x,JF i x=(True):=⟨_,fun _ _=>rfl⟩;refine vc_count (c.names.length) F JF _ hJF ?_ ?_ ?_
  · refine ent (()) ?_ ?_ ?_ ?_
    · exact Eq.mpr (hJF _ _) (trivial)
    all_goals simp[hF,List.replicate,am,lle_self,nmsFl]
  · rintro i x hi -;have hN:=@nmsFl_len s c i;have hS:=@nmsFl_succ s c i;have hg:c.names.getD i ⟨[],0⟩=c.names[i]:=by simp[List.getD,hi]
    simp only[hF,List.replicate,am,dlt hi];refine idxL_intro (by omega) (words_at hi) ?_;simp only[am,Word.rec_,wd_t];refine cl (jlive_calls σ b τ (l++nmsFl s c i) s c c.names[i].text hs) ?_;simp only[am,jr_]
    by_cases h3:c.op=3
    · have e:nmFl s c i=tellF (!livS s c.names[i].text) 3 c.names[i].pos++tellF (livS s c.names[i].text&&!isL s c.names[i].text) 4 c.names[i].pos:=by rw[nmFl];simp only[hg];rw[if_pos h3]
      have hlen:=@tellF_len (!livS s c.names[i].text) 3 c.names[i].pos;simp only[am,wd_p,decide_eq_true h3];refine cl (jtell_calls σ b τ (l++nmsFl s c i) s c 3 c.names[i].pos (!livS s c.names[i].text) (by rw[List.length_append];omega)) ?_;cases hv:livS s c.names[i].text with
      | true =>
        rw[hv] at hlen e;simp only[am,wd_p];refine cl (jtell_calls σ b τ (l++nmsFl s c i++tellF (!true) 3 c.names[i].pos) s c 4 c.names[i].pos (!isL s c.names[i].text) (by simp only[List.length_append];omega)) ?_;simp only[am,aml,reduceCtorEq,winc hi (by omega)];rw[Bool.true_and] at e;refine nxtD (()) hi ?_ ?_ ?_ ?_ ?_ ?_
        · exact Eq.mpr (hJF _ _) (trivial)
        all_goals simp[hF,List.replicate,am,lle_self,loL,loLL,V.lo,hS,e]
      | false =>
        rw[hv] at hlen e;simp only[am,wd_p];refine cl (jtell_calls σ b τ (l++nmsFl s c i++tellF (!false) 3 c.names[i].pos) s c 4 c.names[i].pos false (by simp only[List.length_append];omega)) ?_;simp only[am,aml,reduceCtorEq,winc hi (by omega)];rw[Bool.false_and] at e;refine nxtD (()) hi ?_ ?_ ?_ ?_ ?_ ?_
        · exact Eq.mpr (hJF _ _) (trivial)
        all_goals simp[hF,List.replicate,am,lle_self,loL,loLL,V.lo,hS,e]
    · have e:nmFl s c i=tellF ((findS ((wtx c.names).take i) c.names[i].text).isSome||(var2 c.op&&livS s c.names[i].text)) 3 c.names[i].pos:=by rw[nmFl];simp only[hg];rw[if_neg h3]
      simp only[am,amc,decide_eq_false h3];refine slcL_to (b:=i) (by rw[sCells_len];omega) ?_;rw[sCells_take];simp only[am,wd_t];refine CallD.intro (find_calls ((wtx c.names).take i) c.names[i].text _ (by rw[List.length_take];omega)) ?_;simp only[am,optI_pos];cases hf:(findS ((wtx c.names).take i) c.names[i].text).isSome with
      | true =>
        rw[hf] at e;simp only[am,wd_p];refine CallD.intro (jtell_calls σ b τ (l++nmsFl s c i) s c 3 c.names[i].pos true (by rw[List.length_append];omega)) ?_;simp only[am,aml,wd_p,winc hi (by omega)];rw[Bool.true_or] at e;refine nxtD (()) hi ?_ ?_ ?_ ?_ ?_ ?_
        · exact Eq.mpr (hJF _ _) (trivial)
        all_goals simp[hF,List.replicate,am,lle_self,loL,loLL,V.lo,hS,e]
      | false =>
        rw[hf,Bool.false_or] at e;simp only[am,jr_];refine CallD.intro (var2_calls c.op _) ?_;cases hv:var2 c.op with
        | true =>
          rw[hv,Bool.true_and] at e;simp only[am,wd_p];refine CallD.intro (jtell_calls σ b τ (l++nmsFl s c i) s c 3 c.names[i].pos (livS s c.names[i].text) (by rw[List.length_append];omega)) ?_;simp only[am,aml,wd_p,winc hi (by omega)];refine nxtD (()) hi ?_ ?_ ?_ ?_ ?_ ?_
          · exact Eq.mpr (hJF _ _) (trivial)
          all_goals simp[hF,List.replicate,am,lle_self,loL,loLL,V.lo,hS,e]
        | false =>
          rw[hv,Bool.false_and] at e;simp only[am,wd_p];refine CallD.intro (jtell_calls σ b τ (l++nmsFl s c i) s c 3 c.names[i].pos false (by rw[List.length_append];omega)) ?_;simp only[am,aml,wd_p,winc hi (by omega)];refine nxtD (()) hi ?_ ?_ ?_ ?_ ?_ ?_
          · exact Eq.mpr (hJF _ _) (trivial)
          all_goals simp[hF,List.replicate,am,lle_self,loL,loLL,V.lo,hS,e]
  · rintro x -;simp only[hF,List.replicate,am,aml,dnl,aml];exact retK_intro rfl (Store.sub_refl _) ⟨rfl,rfl⟩
end Go.Proofs.Tryz

namespace Go.Proofs.Tryz
open Go.Am
set_option maxRecDepth 4000
set_option maxHeartbeats 4000000
def ac19:AC:=.seq (.reg [⟨(some 2),.box 2 (.s 0),none⟩,⟨(some 3),.box 17 (.s 1),none⟩,⟨(some 4),.alloc [(.int .i64 0),(.int .i64 0)],none⟩])
 (.seq (.seq (.reg [xf 0 6 3,xo 7 6,xc 50 8 [.s 7],⟨(some 9),.not (.s 8),none⟩,xm 10 9,xg 10 (xf 0 11 3),xg 10 (xo 12 11),xg 10 (xc 51 13 [.s 12]),⟨(some 14),.not (.s 13),(some (10,true))⟩,⟨(some 15),.pick (.s 10) (.s 14) (.c (.bool false)),none⟩])
 (.cond (.s 15) (.seq (.reg [⟨(some 16),.build [(.int .i64 0),(.int .i64 0)] [],none⟩,xs 2 4 16])
 (.ret))
 (.skip)))
 (.seq (.reg [xl 2 17 2,xl 17 18 3,⟨(some 19),.build [(.sl .full 3 []),(.sl .full 3 []),(.int .i64 0),(.int .i64 0),(.str []),(.int .i64 0),(.sl .full 2 []),(.sl .full 4 []),(.int .i64 0),(.int .i64 0),(.int .i64 0),(.str []),(.sl .full 2 []),(.sl .full 5 []),(.int .i64 0),(.int .i64 0),(.str []),(.sl .full 2 []),(.sl .full 5 []),(.sl .full 2 [])] [(0,2,(.s 17)),(2,17,(.s 18))],none⟩,⟨(some 20),.boxO 20 (.s 19),none⟩,xm 5 20])
 (.seq (.upd (.reg [xm 21 5,xc 52 22 [.s 21]]))
 (.seq (.reg [xm 23 5,xc 53 24 [.s 23]])
 (.seq (.reg [xm 25 5,xc 54 26 [.s 25]])
 (.seq (.reg [xm 27 5,xc 55 28 [.s 27]])
 (.seq (.reg [xm 29 5,xk 30 29,xf 19 31 30,xo 32 31,xc 22 33 [.s 32],xs 2 4 33])
 (.ret))))))))
theorem fn19:IsFn prog 19 ac19 [.cell 4 true 2] 34:=⟨f19,⟨[20],[4],[]⟩,func19,by kernel_rfl,by kernel_rfl,by kernel_rfl,by kernel_rfl⟩
def ac54:AC:=.seq (.reg [⟨(some 1),.boxO 1 (.s 0),none⟩])
 (.seq (.reg [xo 6 1,xk 7 6,xf 2 8 7,xf 4 9 8,xo 10 9,xc 111 11 [.s 10],⟨(some 2),.allocO [(.sl .full 1 [])],none⟩,xs 1 2 11])
 (.seq (.reg [⟨(some 12),.mkfn (.func 113) [] [(.s 1),(.s 2)],none⟩,xm 3 12])
 (.seq (.seq (.reg [xo 13 1,xk 14 13,xf 2 15 14,xf 5 16 15,xo 17 16,xL 18 17,xi 19 0])
 (.block 0 (.loop (.seq (.reg [xb .lss 20 19 18])
 (.seq (.cond (.s 20) (.skip)
 (.exit 0))
 (.seq (.block 1 (.seq (.reg [xA 4 21 17 19,xl 4 22 21,⟨(some 5),.alloc [(.str []),(.int .i64 0),(.str []),(.int .i64 0)],none⟩,xs 4 5 22])
 (.seq (.reg [xm 23 3,⟨(some 24),.idxP 2 2 (.s 5) (.c (.int .i64 0)),none⟩,xl 2 25 24,⟨(some 26),.callv (.s 23) [(.s 25)],none⟩])
 (.reg [xm 27 3,⟨(some 28),.idxP 2 2 (.s 5) (.c (.int .i64 1)),none⟩,xl 2 29 28,⟨(some 30),.callv (.s 27) [(.s 29)],none⟩]))))
 (.reg [xB .add 31 19 1,xm 19 31])))))))
 (.seq (.reg [xo 32 1,xk 33 32,xf 2 34 33,xf 0 35 34,xo 36 35,xB .eql 37 36 5,xm 38 37,xg 38 (xo 39 2),xg 38 (xL 40 39),xg 38 (xB .leq 41 40 64),⟨(some 42),.pick (.s 38) (.s 41) (.c (.bool false)),none⟩])
 (.cond (.s 42) (.draw [(xo 43 1,[1,2]),(xo 44 1,[]),(xk 45 44,[]),(xf 2 46 45,[]),(xl 17 47 46,[]),(xc 115 48 [.s 47],[]),(xc 114 49 [.s 48],[]),(⟨(some 50),.not (.s 49),none⟩,[]),(xo 51 1,[0,1]),(xk 52 51,[]),(xf 2 53 52,[]),(xf 6 54 53,[]),(xo 55 54,[0,1]),(xc 110 56 [.s 43,.s 50,.c (.int .i64 5),.s 55],[])])
 (.skip))))))
theorem fn54:IsFn prog 54 ac54 [] 57:=⟨f54,⟨[1,2],[],[]⟩,func54,by kernel_rfl,by kernel_rfl,by kernel_rfl,by kernel_rfl⟩
def ac55:AC:=.seq (.reg [xm 4 0,xk 5 4,xf 2 6 5,xf 4 7 6,xo 8 7,xL 9 8,xm 2 9,xi 3 64])
 (.seq (.seq (.reg [xm 10 0,xk 11 10,xf 2 12 11,xf 0 13 12,xo 14 13])
 (.block 0 (.seq (.seq (.reg [xB .eql 16 14 6,xm 15 16])
 (.cond (.s 15) (.skip)
 (.reg [xB .eql 17 14 7,xm 15 17])))
 (.cond (.s 15) (.seq (.draw [(xm 18 0,[]),(xm 19 2,[]),(xm 20 0,[]),(xk 21 20,[]),(xf 0 22 21,[]),(xf 1 23 22,[]),(xo 24 23,[]),(xL 25 24,[]),(⟨(some 26),.binI .sub (.c (.int .i64 64)) (.s 25),none⟩,[]),(xb .gtr 27 19 26,[]),(xm 28 0,[]),(xk 29 28,[]),(xf 2 30 29,[]),(xf 1 31 30,[]),(xo 32 31,[]),(xc 110 33 [.s 18,.s 27,.c (.int .i64 7),.s 32],[])])
 (.ret))
 (.seq (.reg [xB .eql 35 14 4,xm 34 35])
 (.cond (.s 34) (.reg [xi 3 8])
 (.seq (.reg [xB .eql 37 14 3,xm 36 37])
 (.cond (.s 36) (.draw [(xm 38 0,[]),(xk 39 38,[]),(xf 0 40 39,[]),(xl 2 41 40,[]),(xm 42 0,[]),(xk 43 42,[]),(xf 2 44 43,[]),(xl 17 45 44,[]),(xc 116 46 [.s 41,.s 45],[]),(xw 1 47 46,[]),(xL 48 47,[]),(xm 2 48,[]),(xi 3 8,[])])
 (.skip)))))))))
 (.draw [(xm 49 0,[]),(xm 50 2,[]),(xm 51 3,[]),(xb .gtr 52 50 51,[]),(xm 53 52,[]),(xh 53 (xm 54 0),[]),(xh 53 (xk 55 54),[]),(xh 53 (xf 0 56 55),[]),(xh 53 (xf 0 57 56),[]),(xh 53 (xo 58 57),[]),(xh 53 (xL 59 58),[]),(xh 53 (xB .geq 60 59 16),[]),(⟨(some 61),.pick (.s 53) (.c (.bool true)) (.s 60),none⟩,[]),(xm 62 0,[]),(xk 63 62,[]),(xf 2 64 63,[]),(xf 1 65 64,[]),(xo 66 65,[]),(xc 110 67 [.s 49,.s 61,.c (.int .i64 7),.s 66],[])]))
theorem fn55:IsFn prog 55 ac55 [] 68:=⟨f55,⟨[],[],[]⟩,func55,by kernel_rfl,by kernel_rfl,by kernel_rfl,by kernel_rfl⟩
def ac113:AC:=.seq (.reg [⟨(some 3),.box 2 (.s 0),none⟩])
 (.draw [(xo 4 1,[1]),(xo 5 2,[]),(xf 0 6 3,[]),(xo 7 6,[]),(xc 112 8 [.s 5,.s 7],[]),(xB .lss 9 8 0,[]),(xf 1 10 3,[]),(xo 11 10,[0]),(xc 110 12 [.s 4,.s 9,.c (.int .i64 3),.s 11],[])])
theorem fn113:IsFn prog 113 ac113 [] 13:=⟨f113,⟨[],[],[]⟩,func113,by kernel_rfl,by kernel_rfl,by kernel_rfl,by kernel_rfl⟩
theorem jnone_calls (σ:Store) (b τ b1 b2:Nat) (l:List Flt) (s:Scp) (c:Cmd) (w:Word) (n1:b1≠b) (n2:b2≠b) (h1:σ.box b1=some [.ptr (.out b) 0]) (h2:σ.box b2=some [.sl .no 1 (sCells (wtx c.names))]) (hl:l.length≤90000000) (hn:c.names.length≤100000) :
    PCalls prog 113 [.agg w.enc,.ptr (.out b1) 0,.ptr (.out b2) 0] (jput σ b τ l s c) fun v σ' => v = .tup []∧σ' = jput σ b τ (l++nonFl c w) s c:=by
  have e1:(jput σ b τ l s c).box b1=some [.ptr (.out b) 0]:=by rw[jput_ne n1];exact h1
  have e2:(jput σ b τ l s c).box b2=some [.sl .no 1 (sCells (wtx c.names))]:=by rw[jput_ne n2];exact h2
  refine fn113.calls ?_;simp only[slots,ac113,am,ams,Nat.reduceAdd,Word.rec_];simp only[am,wd_t,e1,e2];refine CallD.intro (find_calls (wtx c.names) w.text _ (by rw[wtx_len];omega)) ?_;simp only[am,wd_p,optI_neg0];refine CallD.intro (jtell_calls σ b τ l s c 3 w.pos (findS (wtx c.names) w.text).isNone (by omega)) ?_;simp only[am,wd_p,e1];exact retK_intro rfl (Store.sub_refl _) ⟨rfl,rfl⟩
theorem prs_succ {c:Cmd} {i:Nat} (hi:i<c.pairs.length):(c.pairs.take (i+1)).flatMap (prFl c)=(c.pairs.take i).flatMap (prFl c)++(nonFl c c.pairs[i].1++nonFl c c.pairs[i].2):=by rw[List.take_succ_eq_append_getElem hi,List.flatMap_append];simp[prFl]
theorem jpairs_calls (σ:Store) (b τ:Nat) (l:List Flt) (s:Scp) (c:Cmd) (hg:TZ σ) (hl:l.length≤80000000) (hn:c.names.length≤100000) (hp:c.pairs.length≤100000) :
    PCalls prog 54 [.ptr (.out b) 0] (jput σ b τ l s c) fun v σ' => v = .tup []∧σ' = jput σ b τ (l++prsFl c++ordFl c) s c:=by
  have fresh:∀{x:Nat} {σ0:Store},(jput σ0 b τ l s c).box x=none→x≠b:=fun {x σ0} h=>by rintro rfl;rw[jput_box] at h;simp at h
  refine fn54.calls ?_;simp only[slots,ac54,am,ams];intro b1 hb1;have n1:=fresh hb1;rw[jput_ne n1] at hb1;simp only[am,Nat.reduceAdd];rw[jput_setne n1];have e1:(jput (σ.set b1 [.ptr (.out b) 0]) b τ l s c).box b1=some [.ptr (.out b) 0]:=by rw[jput_ne n1,set_box]
  simp only[am,jr_];refine cl (stexts_calls c.names _ (by omega)) ?_;simp only[am];intro b2 hb2;have n2:=fresh hb2;rw[jput_ne n2] at hb2;have n12:b1≠b2:=by rintro rfl;rw[set_box] at hb2;simp at hb2
  rw[set_box_ne n12.symm] at hb2;simp only[am];rw[jput_setne n2];have f1:((σ.set b1 [.ptr (.out b) 0]).set b2 [.sl .no 1 (sCells (wtx c.names))]).box b1=some [.ptr (.out b) 0]:=by rw[set_box_ne n12,set_box]
  have f2:((σ.set b1 [.ptr (.out b) 0]).set b2 [.sl .no 1 (sCells (wtx c.names))]).box b2=some [.sl .no 1 (sCells (wtx c.names))]:=set_box;have hsub:∀{L:List Flt},(jput σ b τ L s c).sub (jput ((σ.set b1 [.ptr (.out b) 0]).set b2 [.sl .no 1 (sCells (wtx c.names))]) b τ L s c):=fun {L}=>Store.subT (jput_new n1 hb1) (jput_new n2 (by rw[set_box_ne n12.symm];exact hb2))
  generalize hσ:(σ.set b1 [V.ptr (Pl.out b) 0]).set b2 [V.sl .no 1 (sCells (wtx c.names))]=σ2 at f1 f2 hsub;have hg2:TZ σ2:=by rw[←hσ];exact hg
  have g1:∀{L:List Flt},(jput σ2 b τ L s c).box b1=some [.ptr (.out b) 0]:=fun {L}=>by rw[jput_ne n1];exact f1
  have g2:∀{L:List Flt},(jput σ2 b τ L s c).box b2=some [.sl .no 1 (sCells (wtx c.names))]:=fun {L}=>by rw[jput_ne n2];exact f2
  simp only[am,Nat.reduceAdd,List.length_map,List.length_map,jr_,g1];have hP:=fun (i:Nat)=>@prs_len c (c.pairs.take i)
  obtain⟨F,hF⟩:∃F:Nat→Unit→St,∀i x,F i x=⟨[.any,.ptr (.out b1) 0,.ptr (.out b2) 0,.fn (.func 113) [] [.ptr (.out b1) 0,.ptr (.out b2) 0],.any,.any,.any,.any,.any,.any,.any,.any,.any,.any,.any,.any,.any,.sl .no 4 (c.pairs.map penc),.int .i64 (c.pairs.length:Nat),.int .i64 (i:Nat)]++List.replicate 37 .any,[],jput σ2 b τ (l++(c.pairs.take i).flatMap (prFl c)) s c⟩:=⟨_,fun _ _=>rfl⟩;obtain⟨JF,hJF⟩:∃JF:Nat→Unit→Prop,∀i x,JF i x=(True):=⟨_,fun _ _=>rfl⟩;refine vc_count (c.pairs.length) F JF _ hJF ?_ ?_ ?_
  · refine ent (()) ?_ ?_ ?_ ?_
    · exact Eq.mpr (hJF _ _) (trivial)
    all_goals simp[hF,List.replicate,am,lle_self]
  · rintro i x hi -;have hPi:=hP i;rw[List.length_take] at hPi;have hS:=prs_succ hi;have hnl:(nonFl c c.pairs[i].1).length≤1:=tellF_len;simp only[hF,List.replicate,am,dlt hi];refine idxL_intro (by omega) (pencs_at' hi) ?_;simp only[am,amc,Nat.reduceAdd,penc];refine idxPL_ptr (by omega) (by omega) ?_;simp only[am,Int.reduceToNat,Nat.reduceMul];refine cl (jnone_calls σ2 b τ b1 b2 (l++(c.pairs.take i).flatMap (prFl c)) s c c.pairs[i].1 n1 n2 f1 f2 (by rw[List.length_append];omega) hn) ?_;simp only[am,amc];refine idxPL_ptr (by omega) (by omega) ?_;simp only[am,Int.reduceToNat,Nat.reduceMul];refine cl (jnone_calls σ2 b τ b1 b2 (l++(c.pairs.take i).flatMap (prFl c)++nonFl c c.pairs[i].1) s c c.pairs[i].2 n1 n2 f1 f2 (by simp only[List.length_append];omega) hn) ?_;simp only[am,aml,winc hi (by omega)];refine nxtD (()) hi ?_ ?_ ?_ ?_ ?_ ?_
    · exact Eq.mpr (hJF _ _) (trivial)
    all_goals simp[hF,List.replicate,am,lle_self,loL,loLL,V.lo,hS]
  · rintro x -;have hPn:=hP c.pairs.length;rw[List.length_take] at hPn;have hw:((wtx c.names).length:Int)=(c.names.length:Nat):=by rw[wtx_len]
    have hpf:(l++prsFl c).length≤90000000:=by rw[List.length_append,prsFl];rw[List.take_length] at hPn;omega
    simp only[hF,List.replicate,am,aml,dnl,aml,jr_,List.take_length,g1];have no:ordFl c=[]→jput σ b τ (l++prsFl c++ordFl c) s c=jput σ b τ (l++prsFl c) s c:=fun h=>by rw[h,List.append_nil]
    by_cases h5:c.op=5
    case neg =>
      simp only[am,decide_eq_false h5];exact retK_intro rfl hsub ⟨rfl,(no (by rw[ordFl,if_neg fun h=>h5 h.1])).symm⟩
    simp only[am,sCells_len,decide_eq_true h5,g2,hw]
    by_cases h64:c.names.length≤64
    case neg =>
      simp only[am,decide_eq_false (show ¬((c.names.length:Nat):Int)≤64 by omega)];exact retK_intro rfl hsub ⟨rfl,(no (by rw[ordFl,if_neg fun h=>h64 h.2])).symm⟩
    have e:ordFl c=tellF (!latH (relC c)) 5 c.pairsAt:=by rw[ordFl,if_pos ⟨h5,h64⟩]
    simp only[am,jr_,decide_eq_true (show ((c.names.length:Nat):Int)≤64 by omega),g1,cfl];refine CallD.intro (related_calls c _ (by omega) (by omega)) ?_;simp only[am,Rl.rec_];refine CallD.intro (lattice_calls (relC c) hg2) ?_;simp only[am,Nat.reduceAdd,jr_,g1];refine CallD.intro (jtell_calls σ2 b τ (l++prsFl c) s c 5 c.pairsAt (!latH (relC c)) (by omega)) ?_;simp only[am,jr_,g1];rw[←e];exact retK_intro rfl hsub ⟨rfl,rfl⟩
theorem jlimits_calls (σ:Store) (b τ:Nat) (l:List Flt) (s:Scp) (c:Cmd) (hs:s.ok2) (hl:l.length≤90000000) (hn:c.names.length≤100000) :
    PCalls prog 55 [.ptr (.out b) 0] (jput σ b τ l s c) fun v σ' => v = .tup []∧σ' = jput σ b τ (l++limFl s c) s c:=by
  have h1:=hs.1.1;have h2:=hs.1.2.1;have w64:IntKind.i64.wrap (64 - (s.vars.length:Int))=64 - (s.vars.length:Nat):=wrap_i64 (by omega) (by omega);refine fn55.calls ?_;simp only[slots,ac55,am,ams,Nat.reduceAdd,List.length_map,jr_];have hsel:(c.op=6∨c.op=7)→(decide (c.op=6)=true)∨(decide (c.op=6)=false∧decide (c.op=7)=true):=fun h=>by
    by_cases k:c.op=6
    · exact .inl (decide_eq_true k)
    · exact .inr ⟨decide_eq_false k,decide_eq_true (h.resolve_left k)⟩
  by_cases h67:c.op=6∨c.op=7
  · have e:limFl s c=tellF (decide ((64:Int) - (s.vars.length:Nat)<(c.names.length:Nat))) 7 c.pos:=by rw[limFl,if_pos h67]
    rcases hsel h67 with k | ⟨k,k2⟩
    case' inl=>simp only[am,Nat.reduceAdd,List.length_map,List.length_map,jr_,k,w64]
    case' inr=>simp only[am,Nat.reduceAdd,List.length_map,List.length_map,jr_,k,k2,w64]
    all_goals
      refine CallD.intro (jtell_calls σ b τ l s c 7 c.pos (decide ((64:Int) - (s.vars.length:Nat)<(c.names.length:Nat))) (by omega)) ?_;simp only[am];exact retK_intro rfl (Store.sub_refl _) ⟨rfl,by rw[e]⟩
  have e0:limFl s c=tellF (decide ((if c.op=3 then (8:Int) else if c.op=4 then 8 else 64)<((if c.op=3 then (prodC s c).facs.length else c.names.length):Nat))||decide (16≤s.lats.length)) 7 c.pos:=by rw[limFl,if_neg h67]
  have e16:decide ((16:Int)≤(s.lats.length:Nat))=decide (16≤s.lats.length):=decide_eq_decide.2 (by omega);simp only[am,decide_eq_false (fun h=>h67 (.inl h)),decide_eq_false (fun h=>h67 (.inr h))];have fin:∀(n:Nat) (m:Int),limFl s c=tellF (decide (m<(n:Nat))||decide (16≤s.lats.length)) 7 c.pos→∀B:Bool,B=(decide (m<(n:Nat))||decide (16≤s.lats.length)) →
      PCalls prog 110 [.ptr (.out b) 0,.bool B,.int .i64 7,.int .i64 c.pos] (jput σ b τ l s c) fun v σ' => v = .tup []∧σ' = jput σ b τ (l++limFl s c) s c:=fun n m e B hB=>by
    rw[e,hB];exact jtell_calls σ b τ l s c 7 c.pos _ (by omega)
  by_cases h4:c.op=4
  · have e:limFl s c=tellF (decide ((8:Int)<(c.names.length:Nat))||decide (16≤s.lats.length)) 7 c.pos:=by rw[e0,if_neg (by omega),if_pos h4,if_neg (by omega)]
    simp only[am,decide_eq_true h4];cases hb:decide ((8:Int)<(c.names.length:Nat)) with
    | true =>
      simp only[am,Nat.reduceAdd,jr_];refine CallD.intro (fin _ _ e true (by rw[hb];rfl)) ?_;simp only[am];exact retK_intro rfl (Store.sub_refl _) ⟨rfl,rfl⟩
    | false =>
      simp only[am,Nat.reduceAdd,List.length_map,List.length_map,jr_,e16];refine CallD.intro (fin _ _ e (decide (16≤s.lats.length)) (by rw[hb];rfl)) ?_;simp only[am];exact retK_intro rfl (Store.sub_refl _) ⟨rfl,rfl⟩
  simp only[am,decide_eq_false h4]
  by_cases h3:c.op=3
  · have e:limFl s c=tellF (decide ((8:Int)<((prodC s c).facs.length:Nat))||decide (16≤s.lats.length)) 7 c.pos:=by rw[e0,if_pos h3,if_pos h3]
    simp only[am,Scp.rec_,jr_,decide_eq_true h3,cfl];refine CallD.intro (product13_calls s c _ hs hn) ?_;simp only[am,List.length_map,Shp.rec_,List.length_map];cases hb:decide ((8:Int)<((prodC s c).facs.length:Nat)) with
    | true =>
      simp only[am,Nat.reduceAdd,jr_];refine CallD.intro (fin _ _ e true (by rw[hb];rfl)) ?_;simp only[am];exact retK_intro rfl (Store.sub_refl _) ⟨rfl,rfl⟩
    | false =>
      simp only[am,Nat.reduceAdd,List.length_map,List.length_map,jr_,e16];refine CallD.intro (fin _ _ e (decide (16≤s.lats.length)) (by rw[hb];rfl)) ?_;simp only[am];exact retK_intro rfl (Store.sub_refl _) ⟨rfl,rfl⟩
  · have e:limFl s c=tellF (decide ((64:Int)<(c.names.length:Nat))||decide (16≤s.lats.length)) 7 c.pos:=by rw[e0,if_neg h3,if_neg h4,if_neg h3]
    simp only[am,decide_eq_false h3];cases hb:decide ((64:Int)<(c.names.length:Nat)) with
    | true =>
      simp only[am,Nat.reduceAdd,jr_];refine CallD.intro (fin _ _ e true (by rw[hb];rfl)) ?_;simp only[am];exact retK_intro rfl (Store.sub_refl _) ⟨rfl,rfl⟩
    | false =>
      simp only[am,Nat.reduceAdd,List.length_map,List.length_map,jr_,e16];refine CallD.intro (fin _ _ e (decide (16≤s.lats.length)) (by rw[hb];rfl)) ?_;simp only[am];exact retK_intro rfl (Store.sub_refl _) ⟨rfl,rfl⟩
theorem scfault_calls (s:Scp) (c:Cmd) {σ:Store} (hs:s.ok2) (hg:TZ σ) (hn:c.names.length≤100000) (hp:c.pairs.length≤100000) :
    PCalls prog 19 [.agg s.enc,.agg c.enc] σ fun v σ' => v = .agg (scF s c).enc∧σ' = σ:=by
  refine fn19.calls ?_;simp only[slots,ac19,am,ams,Nat.reduceAdd,Scp.rec_];simp only[am,cfl,cfo];refine cl (lat5_calls c.op _) ?_;have hsel:(lat5 c.op=true)∨(lat5 c.op=false∧var2 c.op=false)∨(lat5 c.op=false∧var2 c.op=true):=by
    cases lat5 c.op<;>cases var2 c.op<;>simp
  rcases hsel with h5 | ⟨h5,h6⟩ | ⟨h5,h6⟩
  case' inl=>simp only[am,Scp.rec_,h5,cfl,jz_]
  case' inr.inl =>
    simp only[am,h5,cfo];refine cl (var2_calls c.op _) ?_;simp only[am,Nat.reduceAdd,h6];exact retK_intro rfl (Store.sub_refl _) ⟨by rw[scF,h5,h6];rfl,rfl⟩
  case' inr.inr =>
    simp only[am,h5,cfo];refine cl (var2_calls c.op _) ?_;simp only[am,Scp.rec_,h6,cfl,jz_]
  all_goals
    have e:leastF (scFl s c)=scF s c:=by rw[scF,h5];first | rfl | rw[h6];rfl
    intro b hb;have hb:σ.box b=none:=hb;simp only[am];refine Upd.tok 0 fun τ hτ=>⟨_,_,(σ.set b _).set b (jenc τ [] s c),LTo.rfl,rfl,fun i c' hc=>⟨c',hc,LTo.rfl⟩,OTo.set set_box (by simp[jz,jenc,lto]),?_⟩
    have hτ:σ.tip τ=none:=hτ;rw[Store.set_set,show (σ.set b (jenc τ [] s c)).setTip τ 0=jput σ b τ [] s c from rfl];have l1:=@headFl_len s c;have l2:=@nmsFl_len s c c.names.length;have l3:=@prs_len c c.pairs;have l4:=@ordFl_len c;have l5:=@limFl_len s c;simp only[am];refine cl (jhead_calls σ b τ [] s c hs.1 (by simp)) ?_;simp only[am,List.nil_append];refine cl (jnames_calls σ b τ (headFl s c) s c hs.1 (by omega) hn) ?_;simp only[am];refine cl (jpairs_calls σ b τ (headFl s c++nmsFl s c c.names.length) s c hg (by rw[List.length_append];omega) hn hp) ?_;simp only[am];refine cl (jlimits_calls σ b τ (headFl s c++nmsFl s c c.names.length++prsFl c++ordFl c) s c hs (by simp only[List.length_append,prsFl];omega) hn) ?_;simp only[am,jr_];refine cl (PCalls.weak (as' := [.sl .no 2 ((scFl s c).map Flt.enc)]) (least_calls (scFl s c) _ (by simp only[scFl,List.length_append,prsFl];omega)) ⟨VLe.no,trivial⟩ OLe.rfl) ?_;simp only[am,Flt.rec_];exact retK_intro rfl (jput_sub hb hτ) ⟨by rw[e];rfl,rfl⟩
end Go.Proofs.Tryz

namespace Go.Proofs.Tryz
open Go.Am
set_option maxRecDepth 4000
set_option maxHeartbeats 4000000
def ac119:AC:=.seq (.reg [⟨(some 1),.box 17 (.s 0),none⟩,⟨(some 2),.mv (.c (.bool false)),none⟩])
 (.seq (.seq (.reg [xf 0 3 1,xo 4 3,xc 167 5 [.s 4,.c (.int .i32 110)],xB .eql 6 5 0])
 (.cond (.s 6) (.seq (.reg [xf 2 7 1,xf 0 8 7,xo 9 8,⟨(some 10),.binS .eql (.s 9) (.c (.str [])),none⟩,xm 2 10])
 (.ret))
 (.skip)))
 (.seq (.reg [xf 2 11 1,xf 0 12 11,xo 13 12,xc 99 14 [.s 13],xm 2 14])
 (.ret)))
theorem fn119:IsFn prog 119 ac119 [.tmp 2] 15:=⟨f119,⟨[],[],[]⟩,func119,by kernel_rfl,by kernel_rfl,by kernel_rfl,by kernel_rfl⟩
def ac120:AC:=.seq (.reg [⟨(some 1),.box 17 (.s 0),none⟩,⟨(some 2),.mv (.c (.bool false)),none⟩])
 (.seq (.block 0 (.seq (.reg [xf 0 4 1,xo 5 4,xc 167 6 [.s 5,.c (.int .i32 119)],xB .gtr 7 6 0,xm 3 7])
 (.cond (.s 3) (.seq (.reg [xf 4 8 1,xo 9 8,xL 10 9,xB .gtr 11 10 0,xm 12 11,xg 12 (xf 4 13 1),xg 12 (xo 14 13),xg 12 (xc 37 15 [.s 14]),xg 12 (xc 168 16 [.s 15]),⟨(some 17),.pick (.s 12) (.s 16) (.c (.bool false)),none⟩,xm 2 17])
 (.ret))
 (.seq (.reg [xf 0 19 1,xo 20 19,xc 167 21 [.s 20,.c (.int .i32 102)],xB .gtr 22 21 0,xm 18 22])
 (.cond (.s 18) (.seq (.reg [xf 4 23 1,xo 24 23,xL 25 24,xB .eql 26 25 1,xm 27 26,xg 27 (xf 4 28 1),xg 27 (xo 29 28),xg 27 (xc 37 30 [.s 29]),xg 27 (xc 168 31 [.s 30]),⟨(some 32),.pick (.s 27) (.s 31) (.c (.bool false)),none⟩,xm 2 32])
 (.ret))
 (.skip))))))
 (.seq (.reg [xf 4 33 1,xo 34 33,xL 35 34,xB .eql 36 35 0,xm 2 36])
 (.ret)))
theorem fn120:IsFn prog 120 ac120 [.tmp 2] 37:=⟨f120,⟨[],[],[]⟩,func120,by kernel_rfl,by kernel_rfl,by kernel_rfl,by kernel_rfl⟩
def ac167:AC:=.seq (.reg [xi 4 0])
 (.seq (.reg [xi 5 0])
 (.seq (.rangeS [xm 8 0,xc 35 9 [.s 8],xw 1 10 9] (.s 10) 11 12 13 0 1
 (.seq (.reg [xe 14 12 2,xm 7 14])
 (.seq (.reg [xm 15 7,xm 16 1,xb .eql 17 15 16])
 (.cond (.s 17) (.reg [xm 18 5,xB .add 19 18 1,xm 5 19])
 (.skip)))))
 (.seq (.reg [xm 20 5,xm 4 20])
 (.ret))))
theorem fn167:IsFn prog 167 ac167 [.tmp 4] 21:=⟨f167,⟨[],[],[]⟩,func167,by kernel_rfl,by kernel_rfl,by kernel_rfl,by kernel_rfl⟩
def ac168:AC:=.seq (.reg [⟨(some 2),.mv (.c (.bool false)),none⟩])
 (.seq (.seq (.reg [xm 5 0,xL 6 5,xi 7 0])
 (.block 0 (.loop (.seq (.reg [xb .lss 8 7 6])
 (.seq (.cond (.s 8) (.skip)
 (.exit 0))
 (.seq (.block 1 (.seq (.reg [xA 1 9 5 7,xo 10 9,xm 4 10])
 (.seq (.reg [xm 11 4,xc 99 12 [.s 11],⟨(some 13),.not (.s 12),none⟩])
 (.cond (.s 13) (.seq (.reg [⟨(some 2),.mv (.c (.bool false)),none⟩])
 (.ret))
 (.skip)))))
 (.reg [xB .add 14 7 1,xm 7 14])))))))
 (.seq (.reg [⟨(some 2),.mv (.c (.bool true)),none⟩])
 (.ret)))
theorem fn168:IsFn prog 168 ac168 [.tmp 2] 15:=⟨f168,⟨[],[],[]⟩,func168,by kernel_rfl,by kernel_rfl,by kernel_rfl,by kernel_rfl⟩
def stC (ks:List UInt8) (k:UInt8) (σ:Store) (b i:Nat):St :=
  ⟨[.any,.int .i32 (k.toNat:Nat),.any,.any,.any,.int .i64 ((ks.take i).count k:Nat)]++List.replicate 5 .any++[.raw (.pointer (some ⟨b,0,none⟩))]++List.replicate 9 .any,[],σ⟩
theorem mcount_calls (op:Int) (k:UInt8) {σ:Store} (hg:σ.con 0=some formCells):PCalls prog 167 [.int .i64 op,.int .i32 (k.toNat:Nat)] σ fun v σ' => v = .int .i64 (cntN op k:Nat)∧σ' = σ:=by
  refine fn167.calls ?_;simp only[slots,ac167,am,ams,Nat.reduceAdd];refine vc_rangeS ?_;simp only[am];refine cl (of_calls op hg) ?_;simp only[am];have hkl:=form_len op;have hcn:cntN op k=(formOf op).2.count k:=rfl;generalize hks:(formOf op).2=ks at hkl hcn;refine⟨ks,rfl,by rw[←hks];exact form_ascii op,fun b i st' => st' = stC ks k σ b i,?_,?_,?_,?_⟩
  · intro b;refine Upd.weak (t' := (stC ks k σ b 0).t) ?_ LLLe.rfl OLe.rfl rfl;simp[stC,List.replicate,am]
  · rintro b i _ rfl;exact⟨rfl,by simp[stC],by simp[stC]⟩
  · rintro b i c _ hc rfl;have hi:i<ks.length:=(List.getElem?_eq_some_iff.1 hc).1;have hsn:(ks.take (i+1)).count k=(ks.take i).count k+(if c=k then 1 else 0):=by
      rw[take_succ_of hc,List.count_append,List.count_singleton];simp
    have hle:(ks.take i).count k≤3:=Nat.le_trans List.count_le_length (by rw[List.length_take];omega);have hkk:((c.toNat:Nat):Int)=(k.toNat:Nat)↔c=k:=by
      constructor
      · intro h;exact UInt8.toNat_inj.1 (by omega)
      · rintro rfl;rfl
    simp only[stC,List.replicate,am]
    by_cases e:c=k
    · rw[if_pos e] at hsn;simp only[am,amc,decide_eq_true (hkk.2 e)];rw[wrap_i64 (by omega) (by omega)];exact Upd.weak (by simp[am,hsn]) LLLe.rfl OLe.rfl rfl
    · rw[if_neg e] at hsn;simp only[am,amc,decide_eq_false (fun h=>e (hkk.1 h))];exact Upd.weak (by simp[am,hsn]) LLLe.rfl OLe.rfl rfl
  · rintro b _ rfl;simp only[stC,List.replicate,am];rw[List.take_length];refine retS ?_;simp[V.erase,hcn]
def invNm (l:List (List UInt8)) (σ:Store) (i:Nat):St :=
  ⟨[.any,.any,.any,.any,.any,.sl .no 1 (encT l),.int .i64 l.length,.int .i64 (i:Nat)]++List.replicate 7 .any,[],σ⟩
theorem cnamed_calls (l:List (List UInt8)) (σ:Store) (hl:l.length≤big):PCalls prog 168 [.sl .no 1 (encT l)] σ fun v σ' => v = .bool (namedQ l)∧σ' = σ:=by
  simp only[big] at hl;refine fn168.calls ?_;simp only[slots,ac168,am,ams,encT_length];refine vc_loop (fun p:{i:Nat // i≤l.length∧namedQ (l.take i)=true}=>invNm l σ p.1) (fun p=>l.length - p.1) ?_ ?_
  · refine Upd.enter ⟨0,by simp,by simp[namedQ]⟩ ?_ LLLe.rfl OLe.rfl;simp[invNm,List.replicate,am]
  rintro⟨i,hi,ha⟩;simp only[invNm,List.replicate,am]
  by_cases hlt:i<l.length
  · simp only[am,decide_eq_true (show (i:Int)<l.length by omega)];refine idxL_intro (by omega) (encT_at (List.getElem?_eq_getElem hlt)) ?_;simp only[am];refine cl (nright_calls l[i] σ) ?_;cases hr:nameR l[i]
    · simp only[am]
      have:namedQ l=false:=by
        rw[namedQ,List.all_eq_false];exact⟨l[i],List.getElem_mem hlt,by simp[hr]⟩
      refine retS ?_;simp[V.erase,this]
    · simp only[am];rw[wrap_i64 (by omega) (by omega)];refine Upd.again (I:=fun p:{i:Nat // i≤l.length∧namedQ (l.take i)=true}=>invNm l σ p.1) (μ:=fun p=>l.length - p.1) ⟨i+1,hlt,?_⟩ (by simp;omega) (by simp[invNm,am,List.replicate]) LLLe.rfl OLe.rfl;simp only[namedQ,List.take_succ_eq_append_getElem hlt,List.all_append,Bool.and_eq_true] at ha ⊢;exact⟨ha,by simp[hr]⟩
  · have:i=l.length:=by omega
    subst this;rw[List.take_length] at ha;simp only[am,decide_eq_false (show ¬(l.length:Int)<l.length by omega)];refine retS ?_;simp[V.erase,ha]
theorem nameQ_calls (c:Cmd) {σ:Store} (hg:σ.con 0=some formCells):PCalls prog 119 [.agg c.enc] σ fun v σ' => v = .bool c.nameQ∧σ' = σ:=by
  refine fn119.calls ?_;simp only[slots,ac119,am,ams,cfl,cfo];have h:=fun (σ:Store) (hg:σ.con 0=some formCells)=>mcount_calls c.op 110 hg
  refine cl (h σ hg) ?_;simp only[am]
  by_cases h0:cntN c.op 110=0
  · simp only[am,cfv,decide_eq_true (show ((cntN c.op 110:Nat):Int)=0 by omega)];refine retS ?_;simp[V.erase,Cmd.nameQ,h0]
  · simp only[am,cfv,decide_eq_false (show ¬((cntN c.op 110:Nat):Int)=0 by omega)];refine cl (nright_calls c.name.text σ) ?_;simp only[am];refine retS ?_;simp[V.erase,Cmd.nameQ,h0]
theorem namesQ_calls (c:Cmd) {σ:Store} (hg:σ.con 0=some formCells) (hn:c.names.length+1≤big):PCalls prog 120 [.agg c.enc] σ fun v σ' => v = .bool c.namesQ∧σ' = σ:=by
  have hnl:(c.names.map Word.text).length≤big:=by rw[List.length_map];omega
  have h:=fun (σ:Store) (hg:σ.con 0=some formCells)=>mcount_calls c.op 119 hg
  have h' := fun (σ:Store) (hg:σ.con 0=some formCells)=>mcount_calls c.op 102 hg
  refine fn120.calls ?_;simp only[slots,ac120,am,ams,cfl,cfo];refine cl (h σ hg) ?_;simp only[am]
  by_cases h0:0<cntN c.op 119
  · simp only[am,List.length_map,cfv,decide_eq_true (show (0:Int)<((cntN c.op 119:Nat):Int) by omega),List.length_map]
    by_cases h1:0<c.names.length
    · simp only[am,cfv,decide_eq_true (show (0:Int)<((c.names.length:Nat):Int) by omega)];refine cl (texts_calls c.names σ hn) ?_;simp only[am];refine cl (cnamed_calls (c.names.map Word.text) σ hnl) ?_;simp only[am];refine retS ?_;simp[V.erase,Cmd.namesQ,h0,h1]
    · simp only[am,decide_eq_false (show ¬(0:Int)<((c.names.length:Nat):Int) by omega)];refine retS ?_;simp[V.erase,Cmd.namesQ,h0,h1]
  · simp only[am,cfo,decide_eq_false (show ¬(0:Int)<((cntN c.op 119:Nat):Int) by omega)];refine cl (h' σ hg) ?_;simp only[am]
    by_cases h2:0<cntN c.op 102
    · simp only[am,List.length_map,cfv,decide_eq_true (show (0:Int)<((cntN c.op 102:Nat):Int) by omega),List.length_map]
      by_cases h1:c.names.length=1
      · simp only[am,cfv,decide_eq_true (show ((c.names.length:Nat):Int)=1 by omega)];refine cl (texts_calls c.names σ hn) ?_;simp only[am];refine cl (cnamed_calls (c.names.map Word.text) σ hnl) ?_;simp only[am];refine retS ?_;simp[V.erase,Cmd.namesQ,h0,h1,h2]
      · simp only[am,decide_eq_false (show ¬((c.names.length:Nat):Int)=1 by omega)];refine retS ?_;simp[V.erase,Cmd.namesQ,h0,h1,h2]
    · simp only[am,List.length_map,cfv,decide_eq_false (show ¬(0:Int)<((cntN c.op 102:Nat):Int) by omega),List.length_map];have he:decide (((c.names.length:Nat):Int)=0)=decide (c.names.length=0):=by simp
      refine retS ?_;simp[V.erase,Cmd.namesQ,h0,h2]
end Go.Proofs.Tryz

namespace Go.Proofs.Tryz
open Go.Am
set_option maxRecDepth 4000
set_option maxHeartbeats 4000000
def ac62:AC:=.seq (.reg [⟨(some 1),.box 17 (.s 0),none⟩,⟨(some 2),.mv (.c (.bool false)),none⟩])
 (.seq (.seq (.reg [xf 0 3 1,xo 4 3,xB .lss 5 4 0,xm 6 5,xh 6 (xf 0 7 1),xh 6 (xo 8 7),xh 6 (xB .gtr 9 8 15),⟨(some 10),.pick (.s 6) (.c (.bool true)) (.s 9),none⟩])
 (.cond (.s 10) (.seq (.reg [⟨(some 2),.mv (.c (.bool false)),none⟩])
 (.ret))
 (.skip)))
 (.seq (.reg [xl 17 11 1,xc 119 12 [.s 11],xm 13 12,xg 13 (xl 17 14 1),xg 13 (xc 120 15 [.s 14]),⟨(some 16),.pick (.s 13) (.s 15) (.c (.bool false)),none⟩,xm 17 16,xg 17 (xl 17 18 1),xg 17 (xc 121 19 [.s 18]),⟨(some 20),.pick (.s 17) (.s 19) (.c (.bool false)),none⟩,xm 21 20,xg 21 (xl 17 22 1),xg 21 (xc 122 23 [.s 22]),⟨(some 24),.pick (.s 21) (.s 23) (.c (.bool false)),none⟩,xm 2 24])
 (.ret)))
theorem fn62:IsFn prog 62 ac62 [.tmp 2] 25:=⟨f62,⟨[],[],[]⟩,func62,by kernel_rfl,by kernel_rfl,by kernel_rfl,by kernel_rfl⟩
def ac121:AC:=.seq (.reg [⟨(some 1),.box 17 (.s 0),none⟩,⟨(some 2),.mv (.c (.bool false)),none⟩])
 (.seq (.seq (.reg [xf 0 5 1,xo 6 5,xc 167 7 [.s 6,.c (.int .i32 112)],xB .eql 8 7 0])
 (.cond (.s 8) (.seq (.reg [xf 5 9 1,xo 10 9,xL 11 10,xB .eql 12 11 0,xm 2 12])
 (.ret))
 (.skip)))
 (.seq (.seq (.reg [xf 5 13 1,xo 14 13,xL 15 14,xi 16 0])
 (.block 0 (.loop (.seq (.reg [xb .lss 17 16 15])
 (.seq (.cond (.s 17) (.skip)
 (.exit 0))
 (.seq (.block 1 (.seq (.reg [xA 4 18 14 16,xl 4 19 18,⟨(some 4),.alloc [(.str []),(.int .i64 0),(.str []),(.int .i64 0)],none⟩,xs 4 4 19])
 (.seq (.reg [⟨(some 20),.idxP 2 2 (.s 4) (.c (.int .i64 0)),none⟩,xf 0 21 20,xo 22 21,xc 99 23 [.s 22],⟨(some 24),.not (.s 23),none⟩,xm 25 24,⟨(some 26),.idxP 2 2 (.s 4) (.c (.int .i64 1)),(some (25,false))⟩,xh 25 (xf 0 27 26),xh 25 (xo 28 27),xh 25 (xc 99 29 [.s 28]),⟨(some 30),.not (.s 29),(some (25,false))⟩,⟨(some 31),.pick (.s 25) (.c (.bool true)) (.s 30),none⟩])
 (.cond (.s 31) (.seq (.reg [⟨(some 2),.mv (.c (.bool false)),none⟩])
 (.ret))
 (.skip)))))
 (.reg [xB .add 32 16 1,xm 16 32])))))))
 (.seq (.reg [⟨(some 2),.mv (.c (.bool true)),none⟩])
 (.ret))))
theorem fn121:IsFn prog 121 ac121 [.tmp 2] 33:=⟨f121,⟨[],[],[]⟩,func121,by kernel_rfl,by kernel_rfl,by kernel_rfl,by kernel_rfl⟩
def ac122:AC:=.seq (.reg [⟨(some 1),.box 17 (.s 0),none⟩,⟨(some 2),.mv (.c (.bool false)),none⟩])
 (.seq (.seq (.reg [xf 0 3 1,xo 4 3,xc 167 5 [.s 4,.c (.int .i32 116)],xB .gtr 6 5 0])
 (.cond (.s 6) (.seq (.reg [xf 7 7 1,xl 5 8 7,xc 123 9 [.s 8],xm 10 9,xg 10 (xf 12 11 1),xg 10 (xl 5 12 11),xg 10 (xc 123 13 [.s 12]),⟨(some 14),.pick (.s 10) (.s 13) (.c (.bool false)),none⟩,xm 2 14])
 (.ret))
 (.skip)))
 (.seq (.seq (.reg [xf 0 15 1,xo 16 15,xc 167 17 [.s 16,.c (.int .i32 114)],xB .gtr 18 17 0])
 (.cond (.s 18) (.seq (.reg [xf 7 19 1,xl 5 20 19,xc 169 21 [.s 20],xm 22 21,xg 22 (xf 12 23 1),xg 22 (xl 5 24 23),xg 22 (xc 169 25 [.s 24]),⟨(some 26),.pick (.s 22) (.s 25) (.c (.bool false)),none⟩,xm 2 26])
 (.ret))
 (.skip)))
 (.seq (.reg [xf 7 27 1,xl 5 28 27,⟨(some 29),.build [(.int .i64 0),(.int .i64 0),(.str []),(.sl .full 2 []),(.sl .full 5 [])] [],none⟩,xc 43 30 [.s 28,.s 29],xm 31 30,xg 31 (xf 12 32 1),xg 31 (xl 5 33 32),⟨(some 34),.build [(.int .i64 0),(.int .i64 0),(.str []),(.sl .full 2 []),(.sl .full 5 [])] [],(some (31,true))⟩,xg 31 (xc 43 35 [.s 33,.s 34]),⟨(some 36),.pick (.s 31) (.s 35) (.c (.bool false)),none⟩,xm 2 36])
 (.ret))))
theorem fn122:IsFn prog 122 ac122 [.tmp 2] 37:=⟨f122,⟨[],[],[]⟩,func122,by kernel_rfl,by kernel_rfl,by kernel_rfl,by kernel_rfl⟩
def invPq (c:Cmd) (σ:Store) (i:Nat):St :=
  ⟨[.any,.ptr (.loc 0) 0]++List.replicate 12 .any++[.sl .no 4 (c.pairs.map penc),.int .i64 c.pairs.length,.int .i64 (i:Nat)]++List.replicate 16 .any,[c.enc],σ⟩
theorem pairsQ_calls (c:Cmd) {σ:Store} (hg:σ.con 0=some formCells) (hn:c.pairs.length+1≤big):PCalls prog 121 [.agg c.enc] σ fun v σ' => v = .bool c.pairsQ∧σ' = σ:=by
  have h:=fun (σ:Store) (hg:σ.con 0=some formCells)=>mcount_calls c.op 112 hg
  simp only[big] at hn;refine fn121.calls ?_;simp only[slots,ac121,am,ams,cfl,cfo];refine cl (h σ hg) ?_;simp only[am]
  by_cases h0:cntN c.op 112=0
  · simp only[am,List.length_map,cfv,List.length_map,decide_eq_true (show ((cntN c.op 112:Nat):Int)=0 by omega)];have he:decide (((c.pairs.length:Nat):Int)=0)=decide (c.pairs.length=0):=by simp
    refine retS ?_;simp[V.erase,Cmd.pairsQ,h0]
  simp only[am,List.length_map,cfv,List.length_map,decide_eq_false (show ¬((cntN c.op 112:Nat):Int)=0 by omega)];have hq:c.pairsQ=c.pairs.all pairQ:=by unfold Cmd.pairsQ;rw[if_neg h0]
  refine vc_loop (fun p:{i:Nat // i≤c.pairs.length∧(c.pairs.take i).all pairQ=true}=>invPq c σ p.1) (fun p=>c.pairs.length - p.1) ?_ ?_
  · refine Upd.enter ⟨0,by simp,by simp⟩ ?_ LLLe.rfl OLe.rfl;simp[invPq,List.replicate,am]
  rintro⟨i,hi,ha⟩;simp only[invPq,List.replicate,am]
  by_cases hlt:i<c.pairs.length
  · simp only[am,decide_eq_true (show (i:Int)<c.pairs.length by omega)];refine idxL_intro (by omega) (pencs_at (List.getElem?_eq_getElem hlt)) ?_;simp only[am,amc,Nat.reduceAdd,penc];refine idxPL_ptr (by omega) (by omega) ?_;simp only[am,Int.reduceToNat,Nat.reduceMul];refine cl (nright_calls c.pairs[i].1.text σ) ?_;have hno:pairQ c.pairs[i]=false→c.pairsQ=false:=fun hf=>by
      rw[hq,List.all_eq_false];exact⟨c.pairs[i],List.getElem_mem hlt,by simp[hf]⟩
    cases hr:nameR c.pairs[i].1.text
    · simp only[am];refine retS ?_;simp[V.erase,hno (by simp[pairQ,hr])]
    · simp only[am,amc];refine idxPL_ptr (by omega) (by omega) ?_;simp only[am,Int.reduceToNat,Nat.reduceMul];refine cl (nright_calls c.pairs[i].2.text σ) ?_;cases hr2:nameR c.pairs[i].2.text
      · simp only[am];refine retS ?_;simp[V.erase,hno (by simp[pairQ,hr2])]
      · simp only[am];rw[wrap_i64 (by omega) (by omega)];refine Upd.againD (I:=fun p:{i:Nat // i≤c.pairs.length∧(c.pairs.take i).all pairQ=true}=>invPq c σ p.1) (μ:=fun p=>c.pairs.length - p.1) ⟨i+1,hlt,?_⟩ (by simp;omega) (by simp[invPq,am,List.replicate]) (by simp[invPq,am]) OLe.rfl (by simp[invPq,List.replicate,loL,V.lo]) (by simp[invPq,Cmd.enc,Cmd.encP,loLL,loL,V.lo]);rw[List.take_succ_eq_append_getElem hlt,List.all_append,ha];simp[pairQ,hr,hr2]
  · have:i=c.pairs.length:=by omega
    subst this;rw[List.take_length] at ha;simp only[am,decide_eq_false (show ¬(c.pairs.length:Int)<c.pairs.length by omega)];refine retS ?_;simp[V.erase,hq,ha]
theorem zero_nd_enc:[V.int .i64 0,.int .i64 0,.str [],.sl .full 2 [],.sl .full 5 []].map V.erase=Nd.zero.enc:=by rw[Nd.enc_eq];rfl
theorem same_zero (n:Nd) (σ:Store) (hw:n.wt≤big):PCalls prog 43 [.agg n.enc,.agg [.int .i64 0,.int .i64 0,.str [],.sl .full 2 [],.sl .full 5 []]] σ fun v σ' => v = .bool (n.sameQ .zero)∧σ' = σ:=by
  refine PCalls.weak (same24_calls _ n .zero σ (Nat.le_refl _) hw) ?_ OLe.rfl;simp only[LLe,VLe.rfl,and_true,true_and];rw[←zero_nd_enc];exact VLe.erase (v:=.agg [.int .i64 0,.int .i64 0,.str [],.sl .full 2 [],.sl .full 5 []])
theorem termsQ_calls (c:Cmd) {σ:Store} (hg:σ.con 0=some formCells) (hl:c.left.wt≤big) (hr:c.right.wt≤big):PCalls prog 122 [.agg c.enc] σ fun v σ' => v = .bool c.termsQ∧σ' = σ:=by
  have h:=fun (σ:Store) (hg:σ.con 0=some formCells)=>mcount_calls c.op 116 hg
  have h' := fun (σ:Store) (hg:σ.con 0=some formCells)=>mcount_calls c.op 114 hg
  refine fn122.calls ?_;simp only[slots,ac122,am,ams,cfl,cfo];refine cl (h σ hg) ?_;simp only[am]
  by_cases h0:0<cntN c.op 116
  · simp only[am,Nd.rec_,cfv,decide_eq_true (show (0:Int)<((cntN c.op 116:Nat):Int) by omega)];refine cl (label_is_calls _ c.left σ (Nat.le_refl _) hl) ?_;cases hq:c.left.labelQ
    · simp only[am];refine retS ?_;simp[V.erase,Cmd.termsQ,h0,hq]
    · simp only[am,Nd.rec_,cfv];refine cl (label_is_calls _ c.right σ (Nat.le_refl _) hr) ?_;simp only[am];refine retS ?_;simp[V.erase,Cmd.termsQ,h0,hq]
  simp only[am,cfo,decide_eq_false (show ¬(0:Int)<((cntN c.op 116:Nat):Int) by omega)];refine cl (h' σ hg) ?_;simp only[am]
  by_cases h2:0<cntN c.op 114
  · simp only[am,Nd.rec_,cfv,decide_eq_true (show (0:Int)<((cntN c.op 114:Nat):Int) by omega)];refine cl (row_is_calls c.left σ hl) ?_;cases hq:c.left.rowQ
    · simp only[am];refine retS ?_;simp[V.erase,Cmd.termsQ,h0,h2,hq]
    · simp only[am,Nd.rec_,cfv];refine cl (row_is_calls c.right σ hr) ?_;simp only[am];refine retS ?_;simp[V.erase,Cmd.termsQ,h0,h2,hq]
  simp only[am,Nd.rec_,cfv,decide_eq_false (show ¬(0:Int)<((cntN c.op 114:Nat):Int) by omega)];refine cl (same_zero c.left σ hl) ?_;cases hq:c.left.sameQ .zero
  · simp only[am];refine retS ?_;simp[V.erase,Cmd.termsQ,h0,h2,hq]
  · simp only[am,Nd.rec_,cfv];refine cl (same_zero c.right σ hr) ?_;simp only[am];refine retS ?_;simp[V.erase,Cmd.termsQ,h0,h2,hq]
theorem cmdright_calls (c:Cmd) {σ:Store} (hg:σ.con 0=some formCells) (hn:c.names.length+1≤big) (hp:c.pairs.length+1≤big) (hl:c.left.wt≤big) (hr:c.right.wt≤big):PCalls prog 62 [.agg c.enc] σ fun v σ' => v = .bool c.rightQ∧σ' = σ:=by
  have h1:=fun (σ:Store) (hg:σ.con 0=some formCells)=>nameQ_calls c hg
  have h2:=fun (σ:Store) (hg:σ.con 0=some formCells)=>namesQ_calls c hg hn
  have h3:=fun (σ:Store) (hg:σ.con 0=some formCells)=>pairsQ_calls c hg hp
  have h4:=fun (σ:Store) (hg:σ.con 0=some formCells)=>termsQ_calls c hg hl hr
  refine fn62.calls ?_;simp only[slots,ac62,am,ams,cfl,cfo]
  by_cases k1:c.op<0
  · simp only[am,decide_eq_true k1];refine retS ?_;simp[V.erase,Cmd.rightQ,show ¬(0≤c.op∧c.op≤15) by omega]
  simp only[am,cfo,decide_eq_false k1]
  by_cases k2:15<c.op
  · simp only[am,decide_eq_true k2];refine retS ?_;simp[V.erase,Cmd.rightQ,show ¬(0≤c.op∧c.op≤15) by omega]
  have k3:0≤c.op∧c.op≤15:=by omega
  simp only[am,cfl,decide_eq_false k2];refine cl (h1 σ hg) ?_;cases q1:c.nameQ
  · simp only[am];refine retS ?_;simp[V.erase,Cmd.rightQ,q1]
  simp only[am,cfl];refine cl (h2 σ hg) ?_;cases q2:c.namesQ
  · simp only[am];refine retS ?_;simp[V.erase,Cmd.rightQ,q1,q2]
  simp only[am,cfl];refine cl (h3 σ hg) ?_;cases q3:c.pairsQ
  · simp only[am];refine retS ?_;simp[V.erase,Cmd.rightQ,q1,q2,q3]
  simp only[am,cfl];refine cl (h4 σ hg) ?_;simp only[am];refine retS ?_;simp[V.erase,Cmd.rightQ,q1,q2,q3,k3]
end Go.Proofs.Tryz

namespace Go.Proofs.Tryz
open Go.Am
set_option maxRecDepth 4000
set_option maxHeartbeats 4000000
def ac65:AC:=.seq (.reg [⟨(some 3),.box 2 (.s 0),none⟩,⟨(some 5),.box 5 (.s 2),none⟩,⟨(some 6),.alloc atmZ,none⟩])
 (.seq (.seq (.reg [xf 0 11 5,xo 12 11,xB .eql 13 12 1])
 (.cond (.s 13) (.seq (.reg [xl 2 15 3,xf 2 16 5,xo 17 16,xc 63 18 [.s 15,.s 17],xm 14 18,xe 19 14 0,xe 20 14 1,xm 7 19,xm 8 20])
 (.seq (.reg [xm 21 8,⟨(some 22),.build atmZ [(0,1,(.s 21))],none⟩,xs 9 6 22])
 (.ret)))
 (.skip)))
 (.seq (.drawA [9,10] [(xf 0 24 3,[]),(xo 25 24,[]),(xm 26 1,[]),(xA 3 27 25 26,[]),(xf 1 28 27,[]),(xl 2 29 28,[]),(xf 4 30 5,[]),(xo 31 30,[]),(⟨(some 32),.idxA 5 (.s 31) (.c (.int .i64 0)),none⟩,[]),(xl 5 33 32,[]),(xc 125 34 [.s 29,.s 33],[]),(xm 23 34,[]),(xe 35 23 0,[]),(xe 36 23 1,[]),(⟨none,.mv (.c .any),none⟩,[]),(⟨none,.mv (.c .any),none⟩,[]),(⟨(some 9),.boxS 8 (.s 35),none⟩,[]),(⟨(some 10),.boxS 2 (.s 36),none⟩,[])])
 (.seq (.reg [xl 8 37 9,⟨(some 38),.build atmZ [(0,1,(.c (.int .i64 (-1)))),(1,8,(.s 37))],none⟩,xs 9 6 38])
 (.ret))))
theorem fn65:IsFn prog 65 ac65 [.cell 6 true 9] 39:=⟨f65,⟨[],[],[]⟩,func65,by kernel_rfl,by kernel_rfl,by kernel_rfl,by kernel_rfl⟩
def ac66:AC:=.seq (.reg [⟨(some 3),.box 2 (.s 0),none⟩,⟨(some 5),.box 5 (.s 2),none⟩,⟨(some 6),.alloc [(.sl .full 10 []),(.int .i64 0)],none⟩])
 (.seq (.reg [⟨(some 12),.build [(.sl .full 10 []),(.int .i64 0)] [(1,1,(.c (.int .i64 (-1))))],none⟩,⟨(some 7),.alloc [(.sl .full 10 []),(.int .i64 0)],none⟩,xs 2 7 12])
 (.seq (.seq (.reg [xf 0 13 5,xo 14 13,xB .eql 15 14 1])
 (.cond (.s 15) (.seq (.reg [xl 2 17 3,xf 2 18 5,xo 19 18,xc 63 20 [.s 17,.s 19],xm 16 20,xe 21 16 0,xe 22 16 1,xf 1 23 7,xs 1 23 22])
 (.seq (.reg [xl 2 24 7,xs 2 6 24])
 (.ret)))
 (.skip)))
 (.seq (.seq (.reg [xf 4 25 5,xo 26 25,xL 27 26,xi 28 0])
 (.block 0 (.loop (.seq (.reg [xb .lss 29 28 27])
 (.seq (.cond (.s 29) (.skip)
 (.exit 0))
 (.seq (.block 1 (.seq (.reg [xA 5 30 26 28,xl 5 31 30,⟨(some 9),.alloc [(.int .i64 0),(.int .i64 0),(.str []),(.sl .full 2 []),(.sl .full 5 [])],none⟩,xs 5 9 31])
 (.draw [(xf 0 32 7,[]),(xo 33 32,[1]),(xf 2 34 9,[]),(xo 35 34,[1]),(xl 2 36 3,[]),(xm 37 1,[]),(xf 4 38 9,[]),(xo 39 38,[]),(⟨(some 40),.idxA 5 (.s 39) (.c (.int .i64 0)),none⟩,[]),(xl 5 41 40,[]),(xc 65 42 [.s 36,.s 37,.s 41],[]),(⟨(some 43),.build fldZ [(0,1,(.s 35)),(1,9,(.s 42))],none⟩,[]),(⟨(some 44),.bslice 10 [(.s 43)],none⟩,[]),(xa 10 45 33 44,[]),(xf 0 46 7,[]),(xs 1 46 45,[])])))
 (.reg [xB .add 47 28 1,xm 28 47])))))))
 (.seq (.seq (.reg [xf 3 48 5,xo 49 48,xL 50 49,xi 51 0])
 (.block 2 (.loop (.seq (.reg [xb .lss 52 51 50])
 (.seq (.cond (.s 52) (.skip)
 (.exit 2))
 (.seq (.block 3 (.seq (.reg [xA 2 53 49 51,xl 2 54 53,⟨(some 11),.alloc [(.str []),(.int .i64 0)],none⟩,xs 2 11 54])
 (.reg [xl 2 56 3,xf 0 57 11,xo 58 57,xc 63 59 [.s 56,.s 58],xm 55 59,xe 60 55 0,xe 61 55 1,xf 1 62 7,xs 1 62 61])))
 (.reg [xB .add 63 51 1,xm 51 63])))))))
 (.seq (.reg [xl 2 64 7,xs 2 6 64])
 (.ret))))))
theorem fn66:IsFn prog 66 ac66 [.cell 6 true 2] 65:=⟨f66,⟨[],[],[]⟩,func66,by kernel_rfl,by kernel_rfl,by kernel_rfl,by kernel_rfl⟩
theorem fatom_calls (s:Scp) (lat:Nat) (n:Nd) {σ:Store} (hs:s.ok) (hg:TZ σ) (hlat:lat<s.lats.length) (hk:n.kind=1∨0<n.kids.length) (hc:n.cnt≤100000) (hw:n.wt≤big) :
    PCalls prog 65 [.agg s.enc,.int .i64 (lat:Nat),.agg n.enc] σ fun v σ' => v = .agg (atmF s lat n).enc∧σ' = σ:=by
  refine fn65.calls ?_;simp only[slots,ac65,z22_,Nat.reduceAdd,Int.reduceNeg,Atm.rec_]
  by_cases h1:n.kind=1
  · simp only[am,Int.reduceNeg,Scp.rec_,Nd.fl,decide_eq_true h1];refine cl (scfind_calls s n.text σ hs.1 hs.2.1) ?_;simp only[am,Int.reduceNeg,Atm.rec_];exact retK_intro (v:=.agg (Atm.mk (optI (findV s.vars n.text)) .zero).enc) Atm.r_nol (Store.sub_refl _) ⟨by rw[atmF,if_pos h1];simp only[V.erase,Atm.r_er],rfl⟩
  have hk:0<n.kids.length:=hk.resolve_left h1;have hm:n.kids[0]∈n.kids:=List.getElem_mem _;have hmc:=cnt_kid hm;have hmw:=kid_wt hm;simp only[am,Nat.reduceAdd,decide_true,Int.reduceNeg,Nat.reduceLT,Scp.rec_,decide_eq_false h1];refine idxL_intro (by omega) (lats_at hlat) ?_;simp only[am,Int.reduceNeg,Scp.rec_,Nd.fl];refine idxL_intro (n:=0) (by omega) (nencs_at (j:=0) (List.getElem?_eq_getElem hk)) ?_;simp only[am,Int.reduceNeg,Shp.rec_,Nd.rec_];refine CallD.intro (elem_calls s.lats[lat].shape n.kids[0] hg (hs.2.2 _ (List.getElem_mem hlat)) (fun m hm=>by obtain⟨a,b,c⟩:=parts_ok (n:=n.kids[0]) (by omega) m hm;exact⟨by omega,by omega,fun q hq=>by have:=c q hq;omega⟩) (by omega)) ?_;have ee:atmF s lat n=⟨-1,(elemF s.lats[lat].shape n.kids[0]).1⟩:=by rw[atmF,if_neg h1,shapeF_at hlat,getD_at hk]
  generalize elemF s.lats[lat].shape n.kids[0]=g at ee;obtain⟨e,o⟩:=g;cases o with
  | none =>
    simp only[am,Nat.reduceAdd,Int.reduceNeg,Elm.rec_,Atm.rec_,show fltV none=[.int .i64 0,.int .i64 0] from rfl];exact retK_intro (v:=.agg (Atm.mk (-1) e).enc) Atm.r_nol (Store.sub_refl _) ⟨by rw[ee];simp only[V.erase,Atm.r_er],rfl⟩
  | some q =>
    simp only[am,Nat.reduceAdd,Int.reduceNeg,Elm.rec_,Atm.rec_,show fltV (some q)=[.int .i64 4,.int .i64 q] from rfl];exact retK_intro (v:=.agg (Atm.mk (-1) e).enc) Atm.r_nol (Store.sub_refl _) ⟨by rw[ee];simp only[V.erase,Atm.r_er],rfl⟩
theorem frow_calls (s:Scp) (lat:Nat) (n:Nd) {σ:Store} (hs:s.ok) (hg:TZ σ) (hlat:lat<s.lats.length) (hk:∀k∈n.kids,fldK k) (hn1:n.names.length≤1) (hc:n.cnt≤100000) (hw:n.wt≤big) :
    PCalls prog 66 [.agg s.enc,.int .i64 (lat:Nat),.agg n.enc] σ fun v σ' => v = .agg (rtmF s lat n).enc∧σ' = σ:=by
  refine fn66.calls ?_;simp only[slots,ac66,z22_,Nat.reduceAdd,Int.reduceNeg,Fld.rec_]
  by_cases h1:n.kind=1
  · simp only[am,Int.reduceNeg,Scp.rec_,Nd.fl,decide_eq_true h1];refine cl (scfind_calls s n.text σ hs.1 hs.2.1) ?_;simp only[am,Nat.reduceAdd,Int.reduceNeg];exact retK_intro rfl (Store.sub_refl _) ⟨by rw[rtmF,if_pos h1];rfl,rfl⟩
  simp only[am,List.length_map,Int.reduceNeg,Nd.fl,List.length_map,decide_eq_false h1];have hkc:=cnt_kids n;obtain⟨Q,hQ⟩:∃Q:Nat→List (List V),∀i,Q i=((n.kids.take i).map (fldF s lat)).map Fld.enc:=⟨_,fun _=>rfl⟩;have hQ0:Q 0=[]:=by rw[hQ];rfl
  have hQn:Q n.kids.length=(n.kids.map (fldF s lat)).map Fld.enc:=by rw[hQ,List.take_length]
  have hQl:∀{i:Nat},i≤n.kids.length→(Q i).length=i:=fun {i} hi=>by rw[hQ];simp;omega
  have hQs:∀{i:Nat} (hi:i<n.kids.length) (h1:0<n.kids[i].kids.length),Q (i+1)=Q i++[(Fld.mk n.kids[i].text (atmF s lat n.kids[i].kids[0])).enc]:=fun {i} hi h1=>by
    rw[hQ,hQ,List.take_succ_eq_append_getElem hi,List.map_append,List.map_append,List.map_singleton,List.map_singleton,fldF,getD_at h1]
  obtain⟨F,hF⟩:∃F:Nat→Nat→St,∀i τ,F i τ=⟨[.any,.int .i64 (lat:Nat),.any,.ptr (.loc 0) 0,.any,.ptr (.loc 1) 0,.ptr (.loc 2) 0,.ptr (.loc 3) 0,.any,.any,.any,.any,.any,.any,.any,.any,.any,.any,.any,.any,.any,.any,.any,.any,.any,.any,.sl .no 5 (n.kids.map Nd.enc),.int .i64 (n.kids.length:Nat),.int .i64 (i:Nat)]++List.replicate 36 .any,[s.enc,n.enc,[.sl .full 10 [],.int .i64 0],[.sl (.tk τ) 10 (Q i),.int .i64 (-1)]],σ.setTip τ i⟩:=⟨_,fun _ _=>rfl⟩;obtain⟨JF,hJF⟩:∃JF:Nat→Nat→Prop,∀i τ,JF i τ=(σ.tip τ=none):=⟨_,fun _ _=>rfl⟩;refine vc_count (n.kids.length) F JF _ hJF ?_ ?_ ?_
  · refine entTL 0 fun τ hτ=>⟨τ,Eq.mpr (hJF _ _) hτ,?_,?_,?_⟩
    all_goals simp[hF,List.replicate,lto,llto,hQ0]
  · rintro i τ hi hτ;have hm:n.kids[i]∈n.kids:=List.getElem_mem _;have hmc:=cnt_kid hm;have hmw:=kid_wt hm;obtain⟨hk1,hk2⟩:=hk _ hm;have hm2:n.kids[i].kids[0]∈n.kids[i].kids:=List.getElem_mem _;have hmc2:=cnt_kid hm2;have hmw2:=kid_wt hm2;have hgs:TZ (σ.setTip τ i):=hg;have hlen:=hQl (Nat.le_of_lt hi);simp only[hF,List.replicate,am,dlt hi,Int.reduceNeg];refine idxL_intro (by omega) (nencs_at (List.getElem?_eq_getElem hi)) ?_;simp only[z22_,Nat.reduceAdd,Int.reduceNeg];refine idxL_intro (n:=0) (by omega) (nencs_at (j:=0) (List.getElem?_eq_getElem hk1)) ?_;simp only[am,Int.reduceNeg,Scp.rec_,Nd.rec_];refine CallD.intro (fatom_calls s lat n.kids[i].kids[0] hs hgs hlat (hk2 _ hm2) (by omega) (by omega)) ?_;simp only[am,Int.reduceNeg,Atm.rec_,Fld.rec_];refine appD_tk (by rw[hlen];simp[big];omega) (by rw[hlen];exact setTip_tip_same) ?_;rw[hlen];simp only[am,aml,Int.reduceNeg,Nd.fl,setTip_setTip,winc hi (by omega),List.length_singleton];refine nxtD (τ) hi ?_ ?_ ?_ ?_ ?_ ?_
    · exact Eq.mpr (hJF _ _) (hτ)
    all_goals simp[hF,List.replicate,am,lle_self,loL,loLL,V.lo,hQs hi hk1,Scp.r_lo,Nd.r_lo]
  · rintro τ hτ;have hlen:=hQl (Nat.le_refl _);have hnc:=cnt_names n;simp only[hF,List.replicate,am,aml,dnl,aml,Int.reduceNeg,Nd.fl,List.length_map];obtain⟨F2,hF2⟩:∃F2:Nat→Unit→St,∀j y,F2 j y=⟨[.any,.any,.any,.ptr (.loc 0) 0,.any,.any,.ptr (.loc 2) 0,.ptr (.loc 3) 0,.any,.any,.any,.any,.any,.any,.any,.any,.any,.any,.any,.any,.any,.any,.any,.any,.any,.any,.any,.any,.any,.any,.any,.any,.any,.any,.any,.any,.any,.any,.any,.any,.any,.any,.any,.any,.any,.any,.any,.any,.any,.sl .no 2 (n.names.map Word.enc),.int .i64 (n.names.length:Nat),.int .i64 (j:Nat)]++List.replicate 13 .any,[s.enc,n.enc,[.sl .full 10 [],.int .i64 0],[.sl (.tk τ) 10 (Q n.kids.length),.int .i64 (tailF s (n.names.take j))]],σ.setTip τ n.kids.length⟩:=⟨_,fun _ _=>rfl⟩;obtain⟨JF2,hJF2⟩:∃JF2:Nat→Unit→Prop,∀j y,JF2 j y=(True):=⟨_,fun _ _=>rfl⟩;refine vc_count (n.names.length) F2 JF2 _ hJF2 ?_ ?_ ?_
    · refine ent (()) ?_ ?_ ?_ ?_
      · exact Eq.mpr (hJF2 _ _) (trivial)
      all_goals simp[hF2,List.replicate,am,lle_self,tailF]
    · rintro j y hj -;obtain rfl:j=0:=by omega
      have et:=tailF_one (s:=s) hj;simp only[hF2,List.replicate,am,dlt hj];refine idxL_intro (by omega) (words_at hj) ?_;simp only[am,Nat.reduceAdd,wd_t,Scp.rec_,Word.rec_];refine cl (scfind_calls s n.names[0].text _ hs.1 hs.2.1) ?_;simp only[am,aml,winc hj (by omega)];refine nxtD (()) hj ?_ ?_ ?_ ?_ ?_ ?_
      · exact Eq.mpr (hJF2 _ _) (trivial)
      all_goals simp[hF2,List.replicate,am,lle_self,loL,loLL,V.lo,et,Scp.r_lo,Nd.r_lo]
    · rintro y -;simp only[hF2,List.replicate,am,aml,dnl,Nat.reduceAdd,aml,List.take_length,hQn];have e:rtmF s lat n=⟨n.kids.map (fldF s lat),tailF s n.names⟩:=by rw[rtmF,if_neg h1]
      refine retK_intro rfl (sub_tip hτ) ⟨by rw[e];rfl,rfl⟩
end Go.Proofs.Tryz

namespace Go.Proofs.Tryz
open Go.Am
set_option maxRecDepth 4000
set_option maxHeartbeats 4000000
def ac23:AC:=.seq (.reg [⟨(some 2),.box 2 (.s 0),none⟩,⟨(some 3),.box 17 (.s 1),none⟩,⟨(some 4),.alloc astZ,none⟩,⟨(some 5),.mv (.c (.bool false)),none⟩])
 (.seq (.seq (.reg [xf 0 9 3,xo 10 9,xB .lss 11 10 8,xm 12 11,xh 12 (xf 0 13 3),xh 12 (xo 14 13),xh 12 (xB .gtr 15 14 10),⟨(some 16),.pick (.s 12) (.c (.bool true)) (.s 15),none⟩,xm 17 16,xh 17 (xl 17 18 3),xh 17 (xc 62 19 [.s 18]),⟨(some 20),.not (.s 19),(some (17,false))⟩,⟨(some 21),.pick (.s 17) (.c (.bool true)) (.s 20),none⟩,xm 22 21,xh 22 (xl 2 23 2),xh 22 (xl 17 24 3),xh 22 (xc 20 25 [.s 23,.s 24]),xh 22 (xw 0 26 25),xh 22 (xB .neq 27 26 0),⟨(some 28),.pick (.s 22) (.c (.bool true)) (.s 27),none⟩])
 (.cond (.s 28) (.seq (.reg [⟨(some 29),.build astZ [],none⟩,xs 18 4 29,⟨(some 5),.mv (.c (.bool false)),none⟩])
 (.ret))
 (.skip)))
 (.seq (.reg [xl 2 31 2,xf 2 32 3,xf 0 33 32,xo 34 33,xc 63 35 [.s 31,.s 34],xm 30 35,xe 36 30 0,xe 37 30 1,xm 6 36,xm 7 37])
 (.seq (.reg [xf 0 38 3,xo 39 38,xm 40 6,⟨(some 41),.build astZ [(0,1,(.s 39)),(1,1,(.s 40))],none⟩,⟨(some 8),.alloc astZ,none⟩,xs 18 8 41])
 (.seq (.seq (.reg [xf 0 42 3,xo 43 42])
 (.block 0 (.seq (.reg [xB .eql 45 43 8,xm 44 45])
 (.cond (.s 44) (.seq (.reg [xl 2 47 2,xm 48 6,xf 7 49 3,xl 5 50 49,xc 64 51 [.s 47,.s 48,.s 50],xm 46 51,xe 52 46 0,xe 53 46 1,xf 2 54 8,xs 1 54 52])
 (.reg [xl 2 55 2,xm 56 6,xf 12 57 3,xl 5 58 57,xc 65 59 [.s 55,.s 56,.s 58],xf 3 60 8,xs 9 60 59]))
 (.seq (.reg [xB .eql 62 43 9,xm 61 62])
 (.cond (.s 61) (.draw [(xl 2 63 2,[]),(xm 64 6,[]),(xf 7 65 3,[]),(xl 5 66 65,[]),(xc 66 67 [.s 63,.s 64,.s 66],[]),(xl 2 68 2,[0]),(xm 69 6,[]),(xf 12 70 3,[]),(xl 5 71 70,[0]),(xc 66 72 [.s 68,.s 69,.s 71],[]),(xf 12 73 8,[]),(xs 2 73 67,[]),(xf 14 74 8,[]),(xs 2 74 72,[])])
 (.seq (.reg [xB .eql 76 43 10,xm 75 76])
 (.cond (.s 75) (.draw [(xm 77 7,[]),(xf 1 78 2,[]),(xo 79 78,[1]),(xm 80 7,[]),(xA 3 81 79 80,[]),(xf 2 82 81,[]),(xo 83 82,[1]),(xf 4 84 3,[]),(xo 85 84,[1,2]),(⟨(some 86),.idxA 2 (.s 85) (.c (.int .i64 0)),none⟩,[]),(xf 0 87 86,[]),(xo 88 87,[1,2]),(xf 16 89 8,[]),(xs 1 89 77,[]),(xf 1 90 8,[]),(xs 1 90 83,[]),(xf 17 91 8,[]),(xs 1 91 88,[])])
 (.skip)))))))))
 (.seq (.reg [xl 18 92 8,xs 18 4 92,⟨(some 5),.mv (.c (.bool true)),none⟩])
 (.ret))))))
theorem fn23:IsFn prog 23 ac23 [.cell 4 true 18,.tmp 5] 93:=⟨f23,⟨[],[],[]⟩,func23,by kernel_rfl,by kernel_rfl,by kernel_rfl,by kernel_rfl⟩
def astT (s:Scp) (c:Cmd):V:=.tup [.agg (if isAst s c then astF s c else .zero).enc,.bool (isAst s c)]
theorem fassert_calls (s:Scp) (c:Cmd) {σ:Store} (hs:s.ok) (hg:TZ σ) (hgf:σ.con 0=some formCells) (hn:c.names.length+1≤big) (hp:c.pairs.length+1≤big) (hl:c.left.cnt≤100000) (hr:c.right.cnt≤100000) (hwl:c.left.wt≤big) (hwr:c.right.wt≤big) :
    PCalls prog 23 [.agg s.enc,.agg c.enc] σ fun v σ' => v=astT s c∧σ' = σ:=by
  have no:∀(t:List V) (lo:List (List V)),isAst s c=false→RetK (fun v σ' => v=astT s c∧σ' = σ) ⟨t,lo,σ⟩ (.tup [.agg (astV 0 0 (.sl .full 10 []) .zero (.sl .full 10 []) 0 (.sl .full 10 []) 0 0 []),.bool false]):=fun t lo h=>by
    refine retK_intro (by simp only[V.nol,nolL,Bool.and_true];exact ast_nol rfl rfl rfl) (Store.sub_refl _) ⟨?_,rfl⟩;rw[astT,h];simp only[V.erase,eraseL,ast_er];rfl
  have yes:∀(t:List V) (lo:List (List V)) (op lat:Int) (cd:V) (to:Atm) (fa:V) (ta:Int) (fb:V) (tb v:Int) (f:List UInt8),isAst s c=true→cd.nol=true→fa.nol=true→fb.nol=true→astV op lat cd.erase to fa.erase ta fb.erase tb v f=(astF s c).enc→RetK (fun v σ' => v=astT s c∧σ' = σ) ⟨t,lo,σ⟩ (.tup [.agg (astV op lat cd to fa ta fb tb v f),.bool true]):=fun t lo op lat cd to fa ta fb tb v f h n1 n2 n3 hx=>by
    refine retK_intro (by simp only[V.nol,nolL,Bool.and_true];exact ast_nol n1 n2 n3) (Store.sub_refl _) ⟨?_,rfl⟩;rw[astT,h];simp only[V.erase,eraseL,ast_er,hx];rfl
  refine fn23.calls ?_;simp only[slots,ac23,am,ams,Nat.reduceAdd,Scp.rec_,astZ,cfl,cfo]
  by_cases o1:c.op<8
  · simp only[am,ast_,decide_eq_true o1];exact no _ _ (by simp[isAst];omega)
  simp only[am,cfo,decide_eq_false o1]
  by_cases o2:10<c.op
  · simp only[am,ast_,decide_eq_true o2];exact no _ _ (by simp[isAst];omega)
  simp only[am,cfl,decide_eq_false o2];refine cl (cmdright_calls c hgf hn hp hwl hwr) ?_;cases hq:c.rightQ with
  | false =>
    simp only[am,ast_];exact no _ _ (by simp[isAst,hq])
  | true =>
    simp only[am,Scp.rec_,cfl];refine cl (fitfault_calls s c hs hg hl hr hwl hwr) ?_;simp only[am,Flt.rec_]
    by_cases hf:(faultC s c).cls=0
    case neg =>
      simp only[am,ast_,decide_eq_false hf];exact no _ _ (by simp[isAst,hf])
    have hA:isAst s c=true:=by simp only[isAst,hq,hf,decide_true,Bool.and_true,Bool.and_eq_true,decide_eq_true_eq];omega
    have hF:=isAst_iff.1 hA;simp only[am,Scp.rec_,cfv,decide_eq_true hf];refine cl (scfind_calls s c.name.text σ hs.1 hs.2.1) ?_;simp only[am,Nat.reduceAdd,ast_,cfo,ast_one (op:=c.op) (lat:=optI (findL s.lats c.name.text)) (c:=.sl .full 10 []) (to:=.zero) (fa:=.sl .full 10 []) (ta:=0) (fb:=.sl .full 10 []) (tb:=0) (v:=0) (f:=[]) rfl rfl rfl]
    by_cases h8:c.op=8
    · simp only[am,Scp.rec_,Nd.rec_,cfv,decide_eq_true h8];obtain⟨k,hk,hlt⟩:=hF.latI (.inl h8);have hk' : optI (findL s.lats c.name.text)=(k:Nat):=hk;rw[hk'];refine cl (ccompile_calls s k c.left hg hs hwl (by omega)) ?_;simp only[am,Scp.rec_,ast_,Nd.rec_,cfv,codeT];refine cl (fatom_calls s k c.right hs hg hlt ?_ (by omega) hwr) ?_
      · rcases hF.right h8 with h | h
        · exact .inl h
        · exact .inr (by rw[label_const (hF.labels h8).2 h];omega)
      simp only[am,Atm.rec_,ast_,ast_one (op:=c.op) (lat:=k) (c:=.sl .no 10 (((compR s k c.left).getD []).map Ins.enc)) (to:=atmF s k c.right) (fa:=.sl .full 10 []) (ta:=0) (fb:=.sl .full 10 []) (tb:=0) (v:=0) (f:=[]) rfl rfl rfl];refine yes _ _ _ _ _ _ _ _ _ _ _ _ hA rfl rfl rfl ?_;rw[astF,if_pos h8,hk,h8];rfl
    simp only[am,decide_eq_false h8]
    by_cases h9:c.op=9
    · simp only[am,Scp.rec_,Nd.rec_,cfv,decide_eq_true h9];obtain⟨k,hk,hlt⟩:=hF.latI (.inr h9);have hk' : optI (findL s.lats c.name.text)=(k:Nat):=hk;rw[hk'];obtain⟨q1,q2⟩:=hF.rows h9;refine CallD.intro (frow_calls s k c.left hs hg hlt (rowQ_flds q1) (rowQ_one q1) (by omega) hwl) ?_;simp only[am,Scp.rec_,Nd.rec_,cfv];refine CallD.intro (frow_calls s k c.right hs hg hlt (rowQ_flds q2) (rowQ_one q2) (by omega) hwr) ?_;simp only[am,Scp.rec_,Rtm.rec_,ast_,cfv,ast_one (op:=c.op) (lat:=k) (c:=.sl .full 10 []) (to:=.zero) (fa:=.sl .no 10 ((rtmF s k c.left).fs.map Fld.enc)) (ta:=(rtmF s k c.left).tail) (fb:=.sl .no 10 ((rtmF s k c.right).fs.map Fld.enc)) (tb:=(rtmF s k c.right).tail) (v:=0) (f:=[]) rfl rfl rfl];refine yes _ _ _ _ _ _ _ _ _ _ _ _ hA rfl rfl rfl ?_;rw[astF,if_neg h8,if_pos h9,hk,h9];rfl
    have h10:c.op=10:=by omega
    simp only[am,Scp.rec_,decide_eq_false h9,decide_eq_true h10];obtain⟨v,hv,hv1,hv2⟩:=hF.var h10;obtain⟨w,hw,_⟩:=hF.one h10;rw[hv1];simp only[Int.reduceNeg,optI];refine idxL_intro (by omega) (vars_at hv) ?_;simp only[am,Int.reduceNeg,Scp.rec_,cfv];have hw1:0<c.names.length:=by rw[hw];simp
    refine idxL_intro (n:=0) (by omega) (words_at (l:=c.names) (j:=0) hw1) ?_;simp only[am,Int.reduceNeg,wd_t,Scp.rec_,ast_,cfv,ast_one (op:=c.op) (lat:=s.vars[v].lat) (c:=.sl .full 10 []) (to:=.zero) (fa:=.sl .full 10 []) (ta:=0) (fb:=.sl .full 10 []) (tb:=0) (v:=v) (f:=c.names[0].text) rfl rfl rfl];refine yes _ _ _ _ _ _ _ _ _ _ _ _ hA rfl rfl rfl ?_;rw[astF,if_neg h8,if_neg h9,hv1,varLat,List.getElem?_eq_getElem hv,getD_at hw1,h10];rfl
end Go.Proofs.Tryz

namespace Go.Proofs.Tryz
open Go.Am
set_option maxRecDepth 4000
set_option maxHeartbeats 4000000
def ac9:AC:=.seq (.reg [⟨(some 3),.box 2 (.s 0),none⟩,⟨(some 4),.box 3 (.s 1),none⟩,⟨(some 6),.alloc [(.int .i64 0),(.int .i64 0),(.str []),(.int .i64 0),(.sl .full 2 []),(.sl .full 4 []),(.int .i64 0),(.int .i64 0),(.int .i64 0),(.str []),(.sl .full 2 []),(.sl .full 5 []),(.int .i64 0),(.int .i64 0),(.str []),(.sl .full 2 []),(.sl .full 5 [])],none⟩,⟨(some 7),.alloc astZ,none⟩,⟨(some 8),.alloc [(.int .i64 0),(.int .i64 0)],none⟩])
 (.seq (.reg [xm 15 2,xc 18 16 [.s 15],xm 14 16,xe 17 14 0,xe 18 14 1,⟨(some 9),.alloc [(.int .i64 0),(.int .i64 0),(.str []),(.int .i64 0),(.sl .full 2 []),(.sl .full 4 []),(.int .i64 0),(.int .i64 0),(.int .i64 0),(.str []),(.sl .full 2 []),(.sl .full 5 []),(.int .i64 0),(.int .i64 0),(.str []),(.sl .full 2 []),(.sl .full 5 [])],none⟩,⟨(some 10),.alloc [(.int .i64 0),(.int .i64 0)],none⟩,xs 17 9 17,xs 2 10 18])
 (.seq (.seq (.reg [xf 0 19 10,xo 20 19,xB .neq 21 20 0])
 (.cond (.s 21) (.seq (.draw [(⟨(some 22),.build [(.int .i64 0),(.int .i64 0),(.str []),(.int .i64 0),(.sl .full 2 []),(.sl .full 4 []),(.int .i64 0),(.int .i64 0),(.int .i64 0),(.str []),(.sl .full 2 []),(.sl .full 5 []),(.int .i64 0),(.int .i64 0),(.str []),(.sl .full 2 []),(.sl .full 5 [])] [],none⟩,[]),(⟨(some 23),.build astZ [],none⟩,[]),(xl 2 24 10,[1,2]),(xs 17 6 22,[]),(xs 18 7 23,[]),(xs 2 8 24,[])])
 (.ret))
 (.skip)))
 (.seq (.draw [(xl 2 25 3,[]),(xl 17 26 9,[]),(xc 19 27 [.s 25,.s 26],[]),(xl 2 28 3,[0]),(xl 17 29 9,[0]),(xc 20 30 [.s 28,.s 29],[]),(⟨(some 31),.bslice 2 [(.s 27),(.s 30)],none⟩,[]),(xm 11 31,[])])
 (.seq (.seq (.reg [xl 3 32 4,xl 17 33 9,xc 21 34 [.s 32,.s 33]])
 (.cond (.s 34) (.reg [xm 35 11,xf 1 36 9,xo 37 36,⟨(some 38),.build [(.int .i64 0),(.int .i64 0)] [(0,1,(.c (.int .i64 7))),(1,1,(.s 37))],none⟩,⟨(some 39),.bslice 2 [(.s 38)],none⟩,xa 2 40 35 39,xm 11 40])
 (.skip)))
 (.seq (.seq (.reg [xf 0 41 9,xo 42 41,xB .eql 43 42 12,xm 44 43,xg 44 (xf 2 45 4),xg 44 (xo 46 45),xg 44 (xB .leq 47 46 1),⟨(some 48),.pick (.s 44) (.s 47) (.c (.bool false)),none⟩])
 (.cond (.s 48) (.reg [xm 49 11,xf 1 50 9,xo 51 50,⟨(some 52),.build [(.int .i64 0),(.int .i64 0)] [(0,1,(.c (.int .i64 8))),(1,1,(.s 51))],none⟩,⟨(some 53),.bslice 2 [(.s 52)],none⟩,xa 2 54 49 53,xm 11 54])
 (.skip)))
 (.seq (.seq (.reg [xm 55 11,xc 22 56 [.s 55],xs 2 10 56])
 (.seq (.reg [xf 0 57 10,xo 58 57,xB .neq 59 58 0])
 (.cond (.s 59) (.seq (.draw [(⟨(some 60),.build [(.int .i64 0),(.int .i64 0),(.str []),(.int .i64 0),(.sl .full 2 []),(.sl .full 4 []),(.int .i64 0),(.int .i64 0),(.int .i64 0),(.str []),(.sl .full 2 []),(.sl .full 5 []),(.int .i64 0),(.int .i64 0),(.str []),(.sl .full 2 []),(.sl .full 5 [])] [],none⟩,[]),(⟨(some 61),.build astZ [],none⟩,[]),(xl 2 62 10,[1,2]),(xs 17 6 60,[]),(xs 18 7 61,[]),(xs 2 8 62,[])])
 (.ret))
 (.skip))))
 (.seq (.reg [xl 2 64 3,xl 17 65 9,xc 23 66 [.s 64,.s 65],xm 63 66,xe 67 63 0,xe 68 63 1,⟨(some 12),.alloc astZ,none⟩,xs 18 12 67,xm 13 68])
 (.seq (.draw [(xl 17 69 9,[]),(xl 18 70 12,[1]),(⟨(some 71),.build [(.int .i64 0),(.int .i64 0)] [],none⟩,[]),(xs 17 6 69,[]),(xs 18 7 70,[]),(xs 2 8 71,[])])
 (.ret)))))))))
theorem fn9:IsFn prog 9 ac9 [.cell 6 true 17,.cell 7 true 18,.cell 8 true 2] 72:=⟨f9,⟨[],[],[]⟩,func9,by kernel_rfl,by kernel_rfl,by kernel_rfl,by kernel_rfl⟩
def ac13:AC:=.seq (.reg [⟨(some 2),.mv (.c (.bool false)),none⟩])
 (.seq (.reg [xm 3 0,xB .geq 4 3 1,xm 5 4,xg 5 (xm 6 0),xg 5 (xB .leq 7 6 10),⟨(some 8),.pick (.s 5) (.s 7) (.c (.bool false)),none⟩,xm 2 8])
 (.ret))
theorem fn13:IsFn prog 13 ac13 [.tmp 2] 9:=⟨f13,⟨[],[],[]⟩,func13,by kernel_rfl,by kernel_rfl,by kernel_rfl,by kernel_rfl⟩
def ac21:AC:=.seq (.reg [⟨(some 2),.box 3 (.s 0),none⟩,⟨(some 3),.box 17 (.s 1),none⟩,⟨(some 4),.mv (.c (.bool false)),none⟩])
 (.seq (.seq (.reg [xf 0 6 3,xo 7 6,xc 13 8 [.s 7]])
 (.cond (.s 8) (.seq (.reg [xl 17 9 3,xc 15 10 [.s 9],xT 11 10,xm 5 11])
 (.seq (.reg [xm 12 5,xB .gtr 13 12 1024,xm 14 13,xh 14 (xf 0 15 2),xh 14 (xo 16 15),xh 14 (xm 17 5),⟨(some 18),.binI .sub (.c (.int .i64 16383)) (.s 17),(some (14,false))⟩,xh 14 (xb .gtr 19 16 18),⟨(some 20),.pick (.s 14) (.c (.bool true)) (.s 19),none⟩])
 (.cond (.s 20) (.seq (.reg [⟨(some 4),.mv (.c (.bool true)),none⟩])
 (.ret))
 (.skip))))
 (.skip)))
 (.seq (.reg [xf 0 21 3,xo 22 21,xc 61 23 [.s 22],xm 24 23,xg 24 (xf 1 25 2),xg 24 (xo 26 25),xg 24 (xB .geq 27 26 64),⟨(some 28),.pick (.s 24) (.s 27) (.c (.bool false)),none⟩,xm 29 28,xh 29 (xf 0 30 3),xh 29 (xo 31 30),xh 29 (xB .eql 32 31 11),xh 29 (xm 33 32),xg 33 (xf 2 34 2),xg 33 (xo 35 34),xg 33 (xB .geq 36 35 16),⟨(some 37),.pick (.s 33) (.s 36) (.c (.bool false)),(some (29,false))⟩,⟨(some 38),.pick (.s 29) (.c (.bool true)) (.s 37),none⟩,xm 4 38])
 (.ret)))
theorem fn21:IsFn prog 21 ac21 [.tmp 4] 39:=⟨f21,⟨[],[],[]⟩,func21,by kernel_rfl,by kernel_rfl,by kernel_rfl,by kernel_rfl⟩
def ac61:AC:=.seq (.reg [⟨(some 2),.mv (.c (.bool false)),none⟩])
 (.seq (.reg [xm 3 0,xB .geq 4 3 8,xm 5 4,xg 5 (xm 6 0),xg 5 (xB .leq 7 6 10),⟨(some 8),.pick (.s 5) (.s 7) (.c (.bool false)),none⟩,xm 2 8])
 (.ret))
theorem fn61:IsFn prog 61 ac61 [.tmp 2] 9:=⟨f61,⟨[],[],[]⟩,func61,by kernel_rfl,by kernel_rfl,by kernel_rfl,by kernel_rfl⟩
theorem stays_calls (op:Int) (σ:Store):PCalls prog 13 [.int .i64 op] σ fun v σ' => v = .bool (staysF op)∧σ' = σ:=by
  refine fn13.calls ?_;simp only[slots,ac13,am,ams]
  by_cases h:1≤op
  · simp only[am,decide_eq_true h];refine retS ?_;simp[V.erase,staysF,h]
  · simp only[am,decide_eq_false h];refine retS ?_;simp[V.erase,staysF,h]
theorem asserts_calls (op:Int) (σ:Store):PCalls prog 61 [.int .i64 op] σ fun v σ' => v = .bool (assF op)∧σ' = σ:=by
  refine fn61.calls ?_;simp only[slots,ac61,am,ams]
  by_cases h:8≤op
  · simp only[am,decide_eq_true h];refine retS ?_;simp[V.erase,assF,h]
  · simp only[am,decide_eq_false h];refine retS ?_;simp[V.erase,assF,h]
def z26_:=And.intro @am <| And.intro @amo <| And.intro @amc <| And.intro @encs_length <| And.intro @decide_true <| And.intro @decide_false <| And.intro @aml <| And.intro @Rl.rec_ <| And.intro @Fct.rec_ <| And.intro @Scp.rec_ <| And.intro @Shp.rec_ <| And.intro @Word.rec_ <| And.intro @Int.toNat_natCast <| And.intro @Nat.mul_one @Nat.add_zero
theorem limit_calls (r:Rm) (c:Cmd) {σ:Store} (hgf:σ.con 0=some formCells) (hw:16*c.wt+64≤big):PCalls prog 21 [.agg r.enc,.agg c.enc] σ fun v σ' => v = .bool (limitF r c)∧σ' = σ:=by
  have tail:∀B:Bool,(staysF c.op&&(decide (1024<((textC c).length:Int))||decide (IntKind.i64.wrap (16383 - (textC c).length)<r.bytes)))=false→B=((assF c.op&&decide (64≤r.asserts))||(decide (c.op=11)&&decide (16≤r.frames)))→B=limitF r c:=fun B h e=>by
    rw[e,limitF,h,Bool.false_or]
  refine fn21.calls ?_;simp only[slots,ac21,am,ams,Nat.reduceAdd,Rm.rec_,cfl,cfo];refine cl (stays_calls c.op σ) ?_;cases hs:staysF c.op with
  | true =>
    rw[hs,Bool.true_and] at tail;simp only[am,cfl];refine cl (ctext_calls c hgf hw) ?_;simp only[am];have yes:(decide (1024<((textC c).length:Int))||decide (IntKind.i64.wrap (16383 - (textC c).length)<r.bytes))=true→limitF r c=true:=fun h=>by rw[limitF,hs,h];rfl
    cases h1:decide (1024<((textC c).length:Int)) with
    | true =>
      simp only[am];refine retS ?_;simp[V.erase,yes (by rw[h1];rfl)]
    | false =>
      cases h2:decide (IntKind.i64.wrap (16383 - (textC c).length)<r.bytes) with
      | true =>
        simp only[am,Rm.rec_,h2];refine retS ?_;simp[V.erase,yes (by rw[h1,h2];rfl)]
      | false =>
        have tl:=fun B=>tail B (by rw[h1,h2];rfl)
        simp only[am,Rm.rec_,cfo,h2];refine cl (asserts_calls c.op σ) ?_;simp only[am]
        repeat' (first
          | (refine gL_split (fun h=>?_) (fun h=>?_)<;>simp only[am,h,Rm.rec_,cfo])
          | (refine vcIf_split (fun h=>?_) (fun h=>?_)<;>simp only[z26_,h,Nat.reduceAdd,Nat.reduceEqDiff,List.length_map,Int.reduceNeg,Bool.false_eq_true,if_true,List.append_nil,Int.reduceEq,Int.reduceLT,Int.reduceLE,Int.reduceGE,Nat.reduceLT,Int.reduceToNat,Nat.reduceMul,if_false,reduceCtorEq,Flt.rec_,Rm.rec_,cfl,cfo,cfv,cfx,ast_,astZ])
          | (refine pickL_split (fun h=>?_) (fun h=>?_)<;>simp only[z26_,h,Nat.reduceAdd,Nat.reduceEqDiff,List.length_map,Int.reduceNeg,Bool.false_eq_true,if_true,List.append_nil,Int.reduceEq,Int.reduceLT,Int.reduceLE,Int.reduceGE,Nat.reduceLT,Int.reduceToNat,Nat.reduceMul,if_false,reduceCtorEq,Flt.rec_,Rm.rec_,cfl,cfo,cfv,cfx,ast_,astZ])
        )
        all_goals refine retS ?_
        all_goals simp only[V.erase]
        all_goals refine congrArg V.bool (tl _ ?_)
        all_goals clear tl tail hw hgf
        all_goals simp[*]
  | false =>
    have tl:=fun B=>tail B (by rw[hs];rfl)
    simp only[am,cfo];refine cl (asserts_calls c.op σ) ?_;simp only[am]
    repeat' (first
      | (refine gL_split (fun h=>?_) (fun h=>?_)<;>simp only[am,h,Rm.rec_,cfo])
      | (refine vcIf_split (fun h=>?_) (fun h=>?_)<;>simp only[z26_,h,Nat.reduceAdd,Nat.reduceEqDiff,List.length_map,Int.reduceNeg,Bool.false_eq_true,if_true,List.append_nil,Int.reduceEq,Int.reduceLT,Int.reduceLE,Int.reduceGE,Nat.reduceLT,Int.reduceToNat,Nat.reduceMul,if_false,reduceCtorEq,Flt.rec_,Rm.rec_,cfl,cfo,cfv,cfx,ast_,astZ])
      | (refine pickL_split (fun h=>?_) (fun h=>?_)<;>simp only[z26_,h,Nat.reduceAdd,Nat.reduceEqDiff,List.length_map,Int.reduceNeg,Bool.false_eq_true,if_true,List.append_nil,Int.reduceEq,Int.reduceLT,Int.reduceLE,Int.reduceGE,Nat.reduceLT,Int.reduceToNat,Nat.reduceMul,if_false,reduceCtorEq,Flt.rec_,Rm.rec_,cfl,cfo,cfv,cfx,ast_,astZ])
    )
    all_goals refine retS ?_
    all_goals simp only[V.erase]
    all_goals refine congrArg V.bool (tl _ ?_)
    all_goals clear tl tail hw hgf
    all_goals simp[*]
theorem astZ_one:oneL (astV 0 0 (.sl .full 10 []) .zero (.sl .full 10 []) 0 (.sl .full 10 []) 0 0 [])=true:=ast_one rfl rfl rfl
theorem astZ_er:eraseL (astV 0 0 (.sl .full 10 []) .zero (.sl .full 10 []) 0 (.sl .full 10 []) 0 0 [])=Ast.zero.enc:=by rw[ast_er];rfl
theorem astZ_nol:nolL (astV 0 0 (.sl .full 10 []) .zero (.sl .full 10 []) 0 (.sl .full 10 []) 0 0 [])=true:=ast_nol rfl rfl rfl
theorem astX_one (x:Ast):oneL x.enc=true:=ast_one rfl rfl rfl
def judT (x:Cmd × Ast × Flt):V:=.tup [.agg x.1.enc,.agg x.2.1.enc,.agg x.2.2.enc]
structure Ok16 (c:Cmd):Prop where
  n:c.names.length≤100000
  p:c.pairs.length≤100000
  l:c.left.cnt≤100000
  r:c.right.cnt≤100000
  wl:c.left.wt≤big
  wr:c.right.wt≤big
  w:16*c.wt+64≤big
theorem ok16 {t:List UInt8} (ht:t.length≤3000):Ok16 (readP t).1:=by
  have hb:=read_cb t;generalize (readP t).1=c at hb;have h1:=hb.ns;have h2:=hb.ps;have h3:=hb.l;have h4:=hb.r;have h5:=hb.nm;have h6:=hb.pt;have h7:=(psum_word c.names).2;have h8:=cnt_wt c.left;have h9:=cnt_wt c.right;have hbig:big=268435456:=rfl;have hcw:c.wt=c.name.text.length+wsum c.names+psum c.pairs+c.left.wt+c.right.wt:=rfl;exact⟨by omega,by omega,by omega,by omega,by omega,by omega,by omega⟩
theorem jline_calls (s:Scp) (r:Rm) (t:List UInt8) {σ:Store} (hs:s.ok2) (hg:TZ σ) (hgf:σ.con 0=some formCells) (ht:t.length≤3000) :
    PCalls prog 9 [.agg s.enc,.agg r.enc,.str t] σ fun v σ' => v=judT (lineF s r t)∧σ' = σ:=by
  have hbig:big=268435456:=rfl;have hok:=ok16 ht;have hm:=line_many t;have hbad:=@lineF_bad s r t;have hno:=@lineF_no s r t;have hyes:=@lineF_ok s r t;refine fn9.calls ?_;simp only[slots,ac9,am,ams,Nat.reduceAdd,Scp.rec_,Rm.rec_,astZ];refine cl (cread_calls t hgf (by omega) (by rw[treeP_line];omega)) ?_;generalize readP t=R at hok hbad hno hyes;generalize lineF s r t=X at hbad hno hyes;obtain⟨c,k,a⟩:=R;simp only at hok hbad hno hyes;obtain⟨Y,hY⟩:∃Y:Ast,Y=(if isAst s c=true then astF s c else .zero):=⟨_,rfl⟩;rw[←hY] at hyes;obtain⟨A,hA⟩:∃A:List V,A=Y.enc:=⟨_,rfl⟩;have a1:A.length=18:=by rw[hA];exact ast_len
  have a2:takeN 18 A=some A:=by rw[hA];exact ast_tk
  have a3:oneL A=true:=by rw[hA];exact astX_one Y
  have a4:nolL A=true:=by rw[hA];exact Ast.r_nol
  have a5:over (astV 0 0 (.sl .full 10 []) .zero (.sl .full 10 []) 0 (.sl .full 10 []) 0 0 []) A=A:=by rw[hA];exact over_all (by rw[ast_len];exact ast_len.symm)
  have a6:eraseL A=Y.enc:=by rw[hA];exact Ast.r_er
  have hT:astT s c = .tup [.agg A,.bool (isAst s c)]:=by rw[astT,hA,hY]
  have cA:=fassert_calls s c (σ:=σ) hs.1 hg hgf (by have:=hok.n;omega) (by have:=hok.p;omega) hok.l hok.r hok.wl hok.wr;rw[hT] at cA;have bad:∀(t:List V) (lo:List (List V)) (f:Flt),X=(.zero,.zero,f)→RetK (fun v σ' => v=judT X∧σ' = σ) ⟨t,lo,σ⟩ (.tup [.agg zero17,.agg (astV 0 0 (.sl .full 10 []) .zero (.sl .full 10 []) 0 (.sl .full 10 []) 0 0 []),.agg f.enc]):=fun t lo f h=>by
    refine retK_intro (by simp only[V.nol,nolL,astZ_nol];rfl) (Store.sub_refl _) ⟨?_,rfl⟩;rw[h,judT];simp only[V.erase,eraseL,astZ_er];rfl
  simp only[am,Nat.reduceAdd,cfl,flt]
  by_cases hk:k=0
  case neg =>
    simp only[am,Nat.reduceAdd,ast_,decide_eq_false hk,astZ_one];exact bad _ _ ⟨k,a⟩ (hbad hk)
  simp only[am,Scp.rec_,cfl,decide_eq_true hk];refine CallD.intro (scfault_calls s c hs hg hok.n hok.p) ?_;simp only[am,Scp.rec_,cfl];refine CallD.intro (fitfault_calls s c hs.1 hg hok.l hok.r hok.wl hok.wr) ?_;simp only[am,Flt.rec_,Scp.rec_,Rm.rec_,cfl];refine cl (limit_calls r c hgf hok.w) ?_;have hsel:(∃L,lineFl s r c=L∧limitF r c=true∧c.op≠12∧L=[scF s c,faultC s c]++[⟨7,c.pos⟩])∨(∃L,lineFl s r c=L∧limitF r c=false∧c.op=12∧r.frames≤1∧L=[scF s c,faultC s c]++[⟨8,c.pos⟩]) ∨
      (∃L,lineFl s r c=L∧limitF r c=false∧c.op=12∧¬r.frames≤1∧L=[scF s c,faultC s c])∨(∃L,lineFl s r c=L∧limitF r c=false∧c.op≠12∧L=[scF s c,faultC s c]):=by
    cases hl:limitF r c with
    | true =>
      have hp:=limit_no_pop hl;exact .inl ⟨_,rfl,rfl,hp,by simp[lineFl,hl,tellF,hp]⟩
    | false =>
      by_cases h12:c.op=12
      · by_cases hf:r.frames≤1
        · exact .inr (.inl ⟨_,rfl,rfl,h12,hf,by simp[lineFl,hl,tellF,h12,hf]⟩)
        · exact .inr (.inr (.inl ⟨_,rfl,rfl,h12,hf,by simp[lineFl,hl,tellF,hf]⟩))
      · exact .inr (.inr (.inr ⟨_,rfl,rfl,h12,by simp[lineFl,hl,tellF,h12]⟩))
  rcases hsel with ⟨L,hL,e1,e2,e3⟩ | ⟨L,hL,e1,e2,e4,e3⟩ | ⟨L,hL,e1,e2,e4,e3⟩ | ⟨L,hL,e1,e2,e3⟩
  case' inl =>
    simp only[am,Nat.reduceAdd,cfo,e1];refine app_full_no (by simp[big]) ?_;simp only[am,cfo,decide_eq_false e2]
  case' inr.inl =>
    simp only[am,Nat.reduceAdd,Rm.rec_,cfo,e1,decide_eq_true e2,decide_eq_true e4];refine app_full_no (by simp[big]) ?_;simp only[am]
  case' inr.inr.inl =>
    simp only[am,Rm.rec_,cfo,e1,decide_eq_true e2,decide_eq_false e4]
  case' inr.inr.inr =>
    simp only[am,cfo,e1,decide_eq_false e2]
  all_goals
    rw[hL] at hno hyes;refine cl (PCalls.weak (as' := [.sl .no 2 (L.map Flt.enc)]) (least_calls L _ (by rw[e3];simp)) ⟨by rw[e3];exact VLe.no,trivial⟩ OLe.rfl) ?_;generalize leastF L=f at hno hyes;simp only[am,Flt.rec_]
    by_cases hf:f.cls=0
    · simp only[am,Scp.rec_,cfl,decide_eq_true hf];refine cl cA ?_;simp only[am,Nat.reduceAdd,cfl,ast_,a1,a2,a3,a5];refine retK_intro (by simp only[V.nol,nolL,a4];rfl) (Store.sub_refl _) ⟨?_,rfl⟩;rw[hyes hk hf,judT];simp only[V.erase,eraseL,a6];rfl
    · simp only[am,Nat.reduceAdd,Flt.rec_,ast_,decide_eq_false hf,astZ_one];exact bad _ _ f (hno hk hf)
end Go.Proofs.Tryz

namespace Go.Proofs.Tryz
open Go.Am
set_option maxRecDepth 4000
set_option maxHeartbeats 4000000
def ac41:AC:=.seq (.reg [⟨(some 2),.boxO 1 (.s 0),none⟩,⟨(some 3),.boxO 1 (.s 1),none⟩,⟨(some 4),.mv (.c (.bool false)),none⟩])
 (.seq (.reg [xo 5 2,xL 6 5,xo 7 3,xL 8 7,xb .eql 9 6 8,xm 10 9,xg 10 (xo 11 2),xg 10 (xL 12 11),⟨(some 13),.mkfn (.func 94) [] [(.s 2),(.s 3)],(some (10,true))⟩,xg 10 (xc 93 14 [.c (.int .i64 0),.s 12,.s 13]),xg 10 (xB .lss 15 14 0),⟨(some 16),.pick (.s 10) (.s 15) (.c (.bool false)),none⟩,xm 4 16])
 (.ret))
theorem fn41:IsFn prog 41 ac41 [.tmp 4] 17:=⟨f41,⟨[2,3],[],[]⟩,func41,by kernel_rfl,by kernel_rfl,by kernel_rfl,by kernel_rfl⟩
def ac94:AC:=.seq (.reg [⟨(some 4),.mv (.c (.bool false)),none⟩])
 (.seq (.draw [(xo 5 1,[]),(xm 6 0,[]),(xA 1 7 5 6,[]),(xo 8 7,[]),(xo 9 2,[]),(xm 10 0,[]),(xA 1 11 9 10,[]),(xo 12 11,[]),(⟨(some 13),.binS .neq (.s 8) (.s 12),none⟩,[]),(xm 4 13,[])])
 (.ret))
theorem fn94:IsFn prog 94 ac94 [.tmp 4] 14:=⟨f94,⟨[],[],[]⟩,func94,by kernel_rfl,by kernel_rfl,by kernel_rfl,by kernel_rfl⟩
theorem find_same {a b:List (List UInt8)} (h:a.length=b.length):decide (optI ((List.range a.length).find? fun i=>decide (a.getD i []≠b.getD i []))<0)=decide (a=b):=by
  have e:∀o:Option Nat,optI o<0↔o=none:=fun o=>by
    cases o with
    | none=>simp[optI]
    | some k=>simp only[optI,reduceCtorEq,iff_false];omega
  rw[decide_eq_decide,e,List.find?_eq_none];constructor
  · intro h';apply List.ext_getElem h;intro i h1 h2
    have:=h' i (by simpa using h1)
    simpa [h1,h2] using this
  · rintro rfl k _;simp
theorem nsame1_calls {a b:List (List UInt8)} {i r q:Nat} {σ:Store} (hi:i<a.length) (hab:a.length=b.length) (hr:σ.box r=some [.sl .no 1 (encT a)]) (hq:σ.box q=some [.sl .no 1 (encT b)]) :
    PCalls prog 94 [.int .i64 (i:Nat),.ptr (.out r) 0,.ptr (.out q) 0] σ fun v σ' => v = .bool (decide (a.getD i []≠b.getD i []))∧σ' = σ:=by
  refine fn94.calls ?_;simp only[slots,ac94,am,ams,Nat.reduceAdd];simp only[am,hr];refine idxL_intro (by omega) (encT_at (List.getElem?_eq_getElem hi)) ?_;simp only[am,hq];refine idxL_intro (by omega) (encT_at (List.getElem?_eq_getElem (show i<b.length by omega))) ?_;simp only[am];have e1:a.getD i []=a[i]:=by simp[hi]
  have e2:b.getD i []=b[i]:=by simp[show i<b.length by omega]
  rw[e1,e2];refine retS ?_;simp[V.erase]
theorem nsame_calls (a b:List (List UInt8)) (σ:Store) (ha:a.length≤100000):PCalls prog 41 [.sl .no 1 (encT a),.sl .no 1 (encT b)] σ fun v σ' => v = .bool (decide (a=b))∧σ' = σ:=by
  refine fn41.calls ?_;simp only[slots,ac41,am,ams,Nat.reduceAdd];refine kO_intro fun r hr=>?_
  simp only[am];refine kO_intro fun q hq=>?_
  have hrq:r≠q:=by rintro rfl;rw[Store.set_same] at hq;simp at hq
  have b1:((σ.set r [.sl .no 1 (encT a)]).set q [.sl .no 1 (encT b)]).box r=some [.sl .no 1 (encT a)]:=by rw[Store.set_other _ _ hrq,Store.set_same]
  have b2:((σ.set r [.sl .no 1 (encT a)]).set q [.sl .no 1 (encT b)]).box q=some [.sl .no 1 (encT b)]:=Store.set_same _ _ _;simp only[am,encT_length,b1];have hsub:σ.sub ((σ.set r [.sl .no 1 (encT a)]).set q [.sl .no 1 (encT b)]):=by
    have h1:=sub_set (cs:=[.sl .no 1 (encT a)]) hr;have h2:=sub_set (cs:=[.sl .no 1 (encT b)]) hq;exact Store.subT h1 h2
  by_cases hl:a.length=b.length
  · simp only[am,encT_length,decide_eq_true (show ((a.length:Nat):Int)=(b.length:Nat) by omega),b1];refine(place_calls a.length ha _ _ rfl (fun i=>decide (a.getD i []≠b.getD i [])) _ fun i hi=>nsame1_calls hi hl b1 b2).mono ?_;rintro v _ ⟨rfl,rfl⟩;simp only[am,find_same hl];refine retK_intro rfl hsub ⟨?_,rfl⟩;simp[V.erase]
  · simp only[am,decide_eq_false (show ¬((a.length:Nat):Int)=(b.length:Nat) by omega)];refine retK_intro rfl hsub ⟨?_,rfl⟩
    have:¬a=b:=fun e=>hl (by rw[e])
    simp[V.erase,this]
end Go.Proofs.Tryz

namespace Go.Proofs.Tryz
open Go.Am
set_option maxRecDepth 4000
set_option maxHeartbeats 4000000
def ac16:AC:=.seq (.reg [⟨(some 2),.box 17 (.s 0),none⟩,⟨(some 3),.box 17 (.s 1),none⟩,⟨(some 4),.mv (.c (.bool false)),none⟩])
 (.seq (.draw [(xf 0 5 2,[]),(xo 6 5,[]),(xf 0 7 3,[]),(xo 8 7,[]),(xb .eql 9 6 8,[]),(xm 10 9,[]),(xg 10 (xf 2 11 2),[]),(xg 10 (xf 0 12 11),[]),(xg 10 (xo 13 12),[]),(xg 10 (xf 2 14 3),[]),(xg 10 (xf 0 15 14),[]),(xg 10 (xo 16 15),[]),(⟨(some 17),.binS .eql (.s 13) (.s 16),(some (10,true))⟩,[]),(⟨(some 18),.pick (.s 10) (.s 17) (.c (.bool false)),none⟩,[]),(xm 19 18,[]),(xg 19 (xf 4 20 2),[]),(xg 19 (xo 21 20),[]),(xg 19 (xc 37 22 [.s 21]),[]),(xg 19 (xf 4 23 3),[]),(xg 19 (xo 24 23),[0]),(xg 19 (xc 37 25 [.s 24]),[]),(xg 19 (xc 41 26 [.s 22,.s 25]),[]),(⟨(some 27),.pick (.s 19) (.s 26) (.c (.bool false)),none⟩,[]),(xm 28 27,[]),(xg 28 (xf 5 29 2),[]),(xg 28 (xo 30 29),[]),(xg 28 (xf 5 31 3),[]),(xg 28 (xo 32 31),[]),(xg 28 (xc 42 33 [.s 30,.s 32]),[]),(⟨(some 34),.pick (.s 28) (.s 33) (.c (.bool false)),none⟩,[]),(xm 35 34,[]),(xg 35 (xf 7 36 2),[]),(xg 35 (xl 5 37 36),[]),(xg 35 (xf 7 38 3),[]),(xg 35 (xl 5 39 38),[]),(xg 35 (xc 43 40 [.s 37,.s 39]),[]),(⟨(some 41),.pick (.s 35) (.s 40) (.c (.bool false)),none⟩,[]),(xm 42 41,[]),(xg 42 (xf 12 43 2),[]),(xg 42 (xl 5 44 43),[]),(xg 42 (xf 12 45 3),[]),(xg 42 (xl 5 46 45),[]),(xg 42 (xc 43 47 [.s 44,.s 46]),[]),(⟨(some 48),.pick (.s 42) (.s 47) (.c (.bool false)),none⟩,[]),(xm 4 48,[])])
 (.ret))
theorem fn16:IsFn prog 16 ac16 [.tmp 4] 49:=⟨f16,⟨[],[],[]⟩,func16,by kernel_rfl,by kernel_rfl,by kernel_rfl,by kernel_rfl⟩
def ac42:AC:=.seq (.reg [⟨(some 4),.mv (.c (.bool false)),none⟩])
 (.seq (.seq (.reg [xm 6 0,xL 7 6,xm 8 1,xL 9 8,xb .neq 10 7 9])
 (.cond (.s 10) (.seq (.reg [⟨(some 4),.mv (.c (.bool false)),none⟩])
 (.ret))
 (.skip)))
 (.seq (.seq (.reg [xm 11 0,xL 12 11,xi 13 0])
 (.block 0 (.loop (.seq (.reg [xb .lss 14 13 12])
 (.seq (.cond (.s 14) (.skip)
 (.exit 0))
 (.seq (.block 1 (.seq (.reg [xm 15 13,xm 5 15])
 (.seq (.draw [(xm 16 0,[]),(xm 17 5,[]),(xA 4 18 16 17,[]),(⟨(some 19),.idxP 2 2 (.s 18) (.c (.int .i64 0)),none⟩,[]),(xf 0 20 19,[]),(xo 21 20,[]),(xm 22 1,[]),(xm 23 5,[]),(xA 4 24 22 23,[]),(⟨(some 25),.idxP 2 2 (.s 24) (.c (.int .i64 0)),none⟩,[]),(xf 0 26 25,[]),(xo 27 26,[]),(⟨(some 28),.binS .neq (.s 21) (.s 27),none⟩,[]),(xm 29 28,[]),(xh 29 (xm 30 0),[]),(xh 29 (xm 31 5),[]),(xh 29 (xA 4 32 30 31),[]),(⟨(some 33),.idxP 2 2 (.s 32) (.c (.int .i64 1)),(some (29,false))⟩,[]),(xh 29 (xf 0 34 33),[]),(xh 29 (xo 35 34),[]),(xh 29 (xm 36 1),[]),(xh 29 (xm 37 5),[]),(xh 29 (xA 4 38 36 37),[]),(⟨(some 39),.idxP 2 2 (.s 38) (.c (.int .i64 1)),(some (29,false))⟩,[]),(xh 29 (xf 0 40 39),[]),(xh 29 (xo 41 40),[]),(⟨(some 42),.binS .neq (.s 35) (.s 41),(some (29,false))⟩,[]),(⟨(some 43),.pick (.s 29) (.c (.bool true)) (.s 42),none⟩,[])])
 (.cond (.s 43) (.seq (.reg [⟨(some 4),.mv (.c (.bool false)),none⟩])
 (.ret))
 (.skip)))))
 (.reg [xB .add 44 13 1,xm 13 44])))))))
 (.seq (.reg [⟨(some 4),.mv (.c (.bool true)),none⟩])
 (.ret))))
theorem fn42:IsFn prog 42 ac42 [.tmp 4] 45:=⟨f42,⟨[],[],[]⟩,func42,by kernel_rfl,by kernel_rfl,by kernel_rfl,by kernel_rfl⟩
def invSp (a b:List (Word × Word)) (σ:Store) (i:Nat):St :=
  ⟨[.sl .no 4 (a.map penc),.sl .no 4 (b.map penc)]++List.replicate 10 .any++[.int .i64 a.length,.int .i64 (i:Nat)]++List.replicate 31 .any,[],σ⟩
theorem samePQ_calls (a b:List (Word × Word)) (σ:Store) (ha:a.length+1≤big):PCalls prog 42 [.sl .no 4 (a.map penc),.sl .no 4 (b.map penc)] σ fun v σ' => v = .bool (samePQ a b)∧σ' = σ:=by
  simp only[big] at ha;refine fn42.calls ?_;simp only[slots,ac42,am,ams,Nat.reduceAdd,List.length_map]
  by_cases hl:a.length=b.length
  case' neg =>
    have:samePQ a b=false:=by cases hs:samePQ a b with
      | false=>rfl
      | true=>exact absurd (samePQ_len hs) hl
    simp only[am,decide_eq_false (show ¬((a.length:Nat):Int)=(b.length:Nat) by omega)];refine retS ?_;simp[V.erase,this]
  simp only[am,List.length_map,List.length_map,decide_eq_true (show ((a.length:Nat):Int)=(b.length:Nat) by omega)];refine vc_loop (fun p:{i:Nat // i≤a.length∧samePQ (a.take i) (b.take i)=true}=>invSp a b σ p.1) (fun p=>a.length - p.1) ?_ ?_
  · refine Upd.enter ⟨0,by simp,by simp[samePQ]⟩ ?_ LLLe.rfl OLe.rfl;simp[invSp,List.replicate,am]
  rintro⟨i,hi,hs⟩;simp only[invSp,List.replicate,am]
  by_cases hlt:i<a.length
  · obtain⟨hat,hno⟩:=samePQ_at hlt (by omega) hl hs;have hltb:i<b.length:=by omega
    simp only[am,decide_eq_true (show (i:Int)<a.length by omega)];refine idxL_intro (by omega) (pencs_at (List.getElem?_eq_getElem hlt)) ?_;simp only[am,amc];refine idxPL_elt (by omega) (by omega) ?_;simp only[am,Int.reduceToNat,Nat.reduceMul,penc];refine idxL_intro (by omega) (pencs_at (List.getElem?_eq_getElem hltb)) ?_;simp only[am,amc];refine idxPL_elt (by omega) (by omega) ?_;simp only[am,Int.reduceToNat,Nat.reduceMul,penc]
    by_cases e1:a[i].1.text=b[i].1.text
    · simp only[am,decide_true,e1];refine idxL_intro (by omega) (pencs_at (List.getElem?_eq_getElem hlt)) ?_;simp only[am,amc];refine idxPL_elt (by omega) (by omega) ?_;simp only[am,Int.reduceToNat,Nat.reduceMul,penc];refine idxL_intro (by omega) (pencs_at (List.getElem?_eq_getElem hltb)) ?_;simp only[am,amc];refine idxPL_elt (by omega) (by omega) ?_;simp only[am,Int.reduceToNat,Nat.reduceMul,penc]
      by_cases e2:a[i].2.text=b[i].2.text
      · simp only[am,decide_true,e2];rw[wrap_i64 (by omega) (by omega)];exact Upd.again (I:=fun p:{i:Nat // i≤a.length∧samePQ (a.take i) (b.take i)=true}=>invSp a b σ p.1) (μ:=fun p=>a.length - p.1) ⟨i+1,hlt,by rw[hat];simp[e1,e2]⟩ (by simp;omega) (by simp[invSp,am,List.replicate]) LLLe.rfl OLe.rfl
      · simp only[am,decide_eq_false e2];refine retS ?_;simp[V.erase,hno (by simp[e2])]
    · simp only[am,amc,decide_eq_false e1];refine retS ?_;simp[V.erase,hno (by simp[e1])]
  · have:i=a.length:=by omega
    subst this;rw[List.take_length,hl,List.take_length] at hs;simp only[am,decide_eq_false (show ¬(a.length:Int)<a.length by omega)];refine retS ?_;simp[V.erase,hs]
theorem csame_calls (a b:Cmd) (σ:Store) (h1:a.names.length≤100000) (h2:b.names.length≤100000) (h3:a.pairs.length+1≤big) (h4:a.left.wt≤big) (h5:a.right.wt≤big) :
    PCalls prog 16 [.agg a.enc,.agg b.enc] σ fun v σ' => v = .bool (a.sameQ b)∧σ' = σ:=by
  refine fn16.calls ?_;simp only[slots,ac16,am,ams,Nat.reduceAdd,cfl,cfo];unfold Cmd.sameQ
  by_cases k1:a.op=b.op
  case' neg =>
    simp only[am,decide_eq_false k1];refine retS ?_;simp[V.erase]
  by_cases k2:a.name.text=b.name.text
  case' neg =>
    simp only[am,decide_true,cfv,k1,decide_eq_false k2];refine retS ?_;simp[V.erase]
  simp only[am,decide_true,cfv,k1,k2];refine CallD.intro (texts_calls a.names σ (by simp only[big];omega)) ?_;simp only[am,cfv];refine CallD.intro (texts_calls b.names σ (by simp only[big];omega)) ?_;simp only[am];refine CallD.intro (nsame_calls (a.names.map Word.text) (b.names.map Word.text) σ (by rw[List.length_map];omega)) ?_;rw[←sameW_eq];cases q1:sameW a.names b.names
  · simp only[am,cfv];refine retS ?_;simp[V.erase]
  simp only[am,cfv];refine CallD.intro (samePQ_calls a.pairs b.pairs σ h3) ?_;cases q2:samePQ a.pairs b.pairs
  · simp only[am,cfv];refine retS ?_;simp[V.erase]
  simp only[am,Nd.rec_,cfv];refine CallD.intro (same24_calls _ a.left b.left σ (Nat.le_refl _) h4) ?_;cases q3:a.left.sameQ b.left
  · simp only[am,cfv];refine retS ?_;simp[V.erase]
  simp only[am,Nd.rec_,cfv];refine CallD.intro (same24_calls _ a.right b.right σ (Nat.le_refl _) h5) ?_;simp only[am,cfv];refine retS ?_;simp[V.erase]
end Go.Proofs.Tryz

namespace Go.Proofs.Tryz
open Go.Am
set_option maxRecDepth 4000
set_option maxHeartbeats 4000000
def ac6:AC:=.seq (.reg [⟨(some 3),.box 2 (.s 0),none⟩,⟨(some 4),.box 6 (.s 1),none⟩,⟨(some 6),.mv (.c (.bool false)),none⟩])
 (.seq (.drawA [7,8] [(⟨(some 15),.idxP 2 3 (.s 4) (.c (.int .i64 0)),none⟩,[]),(xl 3 16 15,[]),(⟨(some 17),.idxP 2 3 (.s 4) (.c (.int .i64 1)),none⟩,[]),(xl 3 18 17,[1]),(⟨none,.mv (.c .any),none⟩,[]),(⟨none,.mv (.c .any),none⟩,[]),(⟨(some 7),.boxS 3 (.s 16),none⟩,[]),(⟨(some 8),.boxS 3 (.s 18),none⟩,[])])
 (.seq (.seq (.reg [xl 2 19 3,xc 7 20 [.s 19],xm 21 20,xh 21 (xm 22 2),xh 21 (xT 23 22),xh 21 (xB .gtr 24 23 1500),⟨(some 25),.pick (.s 21) (.c (.bool true)) (.s 24),none⟩,xm 26 25,xh 26 (xf 0 27 7),xh 26 (xo 28 27),xh 26 (xf 0 29 8),xh 26 (xo 30 29),xh 26 (xb .gtr 31 28 30),⟨(some 32),.pick (.s 26) (.c (.bool true)) (.s 31),none⟩,xm 33 32,xh 33 (xf 1 34 7),xh 33 (xo 35 34),xh 33 (xf 1 36 8),xh 33 (xo 37 36),xh 33 (xb .gtr 38 35 37),⟨(some 39),.pick (.s 33) (.c (.bool true)) (.s 38),none⟩,xm 40 39,xh 40 (xf 2 41 7),xh 40 (xo 42 41),xh 40 (xf 2 43 8),xh 40 (xo 44 43),xh 40 (xb .neq 45 42 44),⟨(some 46),.pick (.s 40) (.c (.bool true)) (.s 45),none⟩])
 (.cond (.s 46) (.seq (.reg [xc 8 47 [],xm 6 47])
 (.ret))
 (.skip)))
 (.seq (.reg [xl 2 49 3,xl 3 50 7,xm 51 2,xc 9 52 [.s 49,.s 50,.s 51],xm 48 52,xe 53 48 0,xe 54 48 1,xe 55 48 2,⟨(some 9),.alloc [(.int .i64 0),(.int .i64 0),(.str []),(.int .i64 0),(.sl .full 2 []),(.sl .full 4 []),(.int .i64 0),(.int .i64 0),(.int .i64 0),(.str []),(.sl .full 2 []),(.sl .full 5 []),(.int .i64 0),(.int .i64 0),(.str []),(.sl .full 2 []),(.sl .full 5 [])],none⟩,⟨(some 10),.alloc astZ,none⟩,⟨(some 11),.alloc [(.int .i64 0),(.int .i64 0)],none⟩,xs 17 9 53,xs 18 10 54,xs 2 11 55])
 (.seq (.reg [xl 2 57 3,xl 3 58 8,xm 59 2,xc 9 60 [.s 57,.s 58,.s 59],xm 56 60,xe 61 56 0,xe 62 56 1,xe 63 56 2,⟨(some 12),.alloc [(.int .i64 0),(.int .i64 0),(.str []),(.int .i64 0),(.sl .full 2 []),(.sl .full 4 []),(.int .i64 0),(.int .i64 0),(.int .i64 0),(.str []),(.sl .full 2 []),(.sl .full 5 []),(.int .i64 0),(.int .i64 0),(.str []),(.sl .full 2 []),(.sl .full 5 [])],none⟩,⟨(some 13),.alloc astZ,none⟩,⟨(some 14),.alloc [(.int .i64 0),(.int .i64 0)],none⟩,xs 17 12 61,xs 18 13 62,xs 2 14 63])
 (.seq (.seq (.reg [xl 2 64 11,⟨(some 65),.build [(.int .i64 0),(.int .i64 0)] [],none⟩,⟨(some 66),.eqA true [1,1] (.s 64) (.s 65),none⟩])
 (.cond (.s 66) (.seq (.reg [xl 2 67 11,xl 2 68 14,⟨(some 69),.eqA false [1,1] (.s 67) (.s 68),none⟩,xm 70 69,xg 70 (xc 8 71 []),⟨(some 72),.pick (.s 70) (.s 71) (.c (.bool false)),none⟩,xm 6 72])
 (.ret))
 (.skip)))
 (.seq (.reg [xl 2 73 14,⟨(some 74),.build [(.int .i64 0),(.int .i64 0)] [],none⟩,⟨(some 75),.eqA false [1,1] (.s 73) (.s 74),none⟩,xm 76 75,xg 76 (xl 17 77 9),xg 76 (xl 17 78 12),xg 76 (xc 16 79 [.s 77,.s 78]),⟨(some 80),.pick (.s 76) (.s 79) (.c (.bool false)),none⟩,xm 81 80,xh 81 (xl 2 82 14),xh 81 (xf 1 83 9),xh 81 (xo 84 83),⟨(some 85),.build [(.int .i64 0),(.int .i64 0)] [(0,1,(.c (.int .i64 7))),(1,1,(.s 84))],(some (81,false))⟩,⟨(some 86),.eqA false [1,1] (.s 82) (.s 85),(some (81,false))⟩,⟨(some 87),.pick (.s 81) (.c (.bool true)) (.s 86),none⟩,xm 88 87,xg 88 (xc 8 89 []),⟨(some 90),.pick (.s 88) (.s 89) (.c (.bool false)),none⟩,xm 6 90])
 (.ret)))))))
theorem fn6:IsFn prog 6 ac6 [.tmp 6] 91:=⟨f6,⟨[],[],[]⟩,func6,by kernel_rfl,by kernel_rfl,by kernel_rfl,by kernel_rfl⟩
def ac8:AC:=.seq (.reg [⟨(some 0),.mv (.c (.bool false)),none⟩])
 (.seq (.reg [⟨(some 8),.build [(.sl .full 3 []),(.sl .full 3 [])] [],none⟩,⟨(some 9),.build [(.int .i64 0),(.int .i64 0),(.int .i64 0)] [(2,1,(.c (.int .i64 1)))],none⟩,xc 9 10 [.s 8,.s 9,.c (.str [112,111,112])],xm 7 10,xe 11 7 0,xe 12 7 1,xe 13 7 2,⟨(some 1),.alloc [(.int .i64 0),(.int .i64 0),(.str []),(.int .i64 0),(.sl .full 2 []),(.sl .full 4 []),(.int .i64 0),(.int .i64 0),(.int .i64 0),(.str []),(.sl .full 2 []),(.sl .full 5 []),(.int .i64 0),(.int .i64 0),(.str []),(.sl .full 2 []),(.sl .full 5 [])],none⟩,⟨(some 2),.alloc astZ,none⟩,⟨(some 3),.alloc [(.int .i64 0),(.int .i64 0)],none⟩,xs 17 1 11,xs 18 2 12,xs 2 3 13])
 (.seq (.reg [⟨(some 15),.build [(.sl .full 3 []),(.sl .full 3 [])] [],none⟩,⟨(some 16),.build [(.int .i64 0),(.int .i64 0),(.int .i64 0)] [(2,1,(.c (.int .i64 1)))],none⟩,xc 9 17 [.s 15,.s 16,.c (.str [32,112,117,115,104])],xm 14 17,xe 18 14 0,xe 19 14 1,xe 20 14 2,⟨(some 4),.alloc [(.int .i64 0),(.int .i64 0),(.str []),(.int .i64 0),(.sl .full 2 []),(.sl .full 4 []),(.int .i64 0),(.int .i64 0),(.int .i64 0),(.str []),(.sl .full 2 []),(.sl .full 5 []),(.int .i64 0),(.int .i64 0),(.str []),(.sl .full 2 []),(.sl .full 5 [])],none⟩,⟨(some 5),.alloc astZ,none⟩,⟨(some 6),.alloc [(.int .i64 0),(.int .i64 0)],none⟩,xs 17 4 18,xs 18 5 19,xs 2 6 20])
 (.seq (.reg [xl 2 21 3,⟨(some 22),.build [(.int .i64 0),(.int .i64 0)] [(0,1,(.c (.int .i64 8)))],none⟩,⟨(some 23),.eqA false [1,1] (.s 21) (.s 22),none⟩,xm 24 23,xg 24 (xl 2 25 6),⟨(some 26),.build [(.int .i64 0),(.int .i64 0)] [],(some (24,true))⟩,⟨(some 27),.eqA false [1,1] (.s 25) (.s 26),(some (24,true))⟩,⟨(some 28),.pick (.s 24) (.s 27) (.c (.bool false)),none⟩,xm 29 28,xg 29 (xf 0 30 4),xg 29 (xo 31 30),xg 29 (xB .eql 32 31 11),⟨(some 33),.pick (.s 29) (.s 32) (.c (.bool false)),none⟩,xm 34 33,xg 34 (xf 1 35 4),xg 34 (xo 36 35),xg 34 (xB .eql 37 36 1),⟨(some 38),.pick (.s 34) (.s 37) (.c (.bool false)),none⟩,xm 0 38])
 (.ret))))
theorem fn8:IsFn prog 8 ac8 [.tmp 0] 39:=⟨f8,⟨[],[],[]⟩,func8,by kernel_rfl,by kernel_rfl,by kernel_rfl,by kernel_rfl⟩
structure AstE (A:List V):Prop where
  len:A.length=18
  tk:takeN 18 A=some A
  one:oneL A=true
  nol:nolL A=true
  ov:over (astV 0 0 (.sl .full 10 []) .zero (.sl .full 10 []) 0 (.sl .full 10 []) 0 0 []) A=A
theorem astE (x:Ast):AstE x.enc:=⟨ast_len,ast_tk,astX_one x,Ast.r_nol,over_all (by rw[ast_len];exact ast_len.symm)⟩
theorem flt_eqC {f:Flt} {x y:Int}:eqC [1,1] f.enc [.int .i64 x,.int .i64 y]=some (decide (f=⟨x,y⟩)):=Flt.r_eq (g:=⟨x,y⟩)
def scp0:Scp:=⟨[],[]⟩
def rm1:Rm:=⟨0,0,1⟩
theorem ex16_pop:(lineF scp0 rm1 [112,111,112]).2.2=⟨8,0⟩:=by decide +kernel
theorem ex16_push:(lineF scp0 rm1 [32,112,117,115,104]).2.2=⟨0,0⟩∧(lineF scp0 rm1 [32,112,117,115,104]).1.op=11∧(lineF scp0 rm1 [32,112,117,115,104]).1.pos=1:=by decide +kernel
theorem alive16_calls {σ:Store} (hg:TZ σ) (hgf:σ.con 0=some formCells):PCalls prog 8 [] σ fun v σ' => v = .bool true∧σ' = σ:=by
  have h0:scp0.ok2:=⟨⟨by simp[scp0],by simp[scp0],by simp[scp0]⟩,by simp[scp0]⟩;have c1:=jline_calls scp0 rm1 [112,111,112] h0 hg hgf (by simp);have c2:=jline_calls scp0 rm1 [32,112,117,115,104] h0 hg hgf (by simp);have e1:=ex16_pop;have e2:=ex16_push;generalize lineF scp0 rm1 [112,111,112]=X at c1 e1;generalize lineF scp0 rm1 [32,112,117,115,104]=Z at c2 e2;obtain⟨c,x,f⟩:=X;obtain⟨d,z,g⟩:=Z;simp only[judT] at c1 c2 e1 e2;obtain⟨e2,e3,e4⟩:=e2;subst e1;subst e2;obtain⟨a1,a2,a3,a4,a5⟩:=astE x;obtain⟨b1,b2,b3,b4,b5⟩:=astE z;generalize x.enc=A at c1 a1 a2 a3 a4 a5;generalize z.enc=B at c2 b1 b2 b3 b4 b5;refine fn8.calls ?_;simp only[slots,ac8,am,ams,astZ];refine cl (PCalls.weak c1 ⟨VLe.erase (v:=.agg [.sl .full 3 [],.sl .full 3 []]),VLe.rfl,VLe.rfl,trivial⟩ OLe.rfl) ?_;simp only[am,Nat.reduceAdd,Flt.rec_,cfl,ast_,a1,a3,a5];refine cl (PCalls.weak c2 ⟨VLe.erase (v:=.agg [.sl .full 3 [],.sl .full 3 []]),VLe.rfl,VLe.rfl,trivial⟩ OLe.rfl) ?_;simp only[am,Nat.reduceAdd,decide_true,Flt.rec_,cfl,cfo,ast_,b1,b3,b5,flt_eqC,e3,e4];refine retS ?_;simp[V.erase]
theorem big13_ok2 {s:Scp} (h:big13 s=false):s.ok2:=by
  refine⟨big13_ok h,fun l hl=>?_⟩;simp only[big13,big7,Bool.or_eq_false_iff,List.any_eq_false,decide_eq_false_iff_not,Bool.not_eq_true] at h
  have:=((h.1.2 l hl).1).1
  omega
theorem samePQ_self:∀l:List (Word × Word),samePQ l l=true
  | []=>rfl
  | p::ps=>by simp[samePQ,samePQ_self ps]
theorem sameC_self (c:Cmd):c.sameQ c=true:=by simp[Cmd.sameQ,sameW_refl,samePQ_self,Nd.sameQ_refl]
def rm2 (a b:Rm):List V:=[.int .i64 a.bytes,.int .i64 a.asserts,.int .i64 a.frames,.int .i64 b.bytes,.int .i64 b.asserts,.int .i64 b.frames]
def z27_:=And.intro @am <| And.intro @amc <| And.intro @ams <| And.intro @decide_true @Scp.rec_
theorem room_calls (s:Scp) (a b:Rm) (t:List UInt8) {σ:Store} (hg:TZ σ) (hgf:σ.con 0=some formCells) :
    PCalls prog 6 [.agg s.enc,.agg (rm2 a b),.str t] σ fun v σ' => v = .bool true∧σ' = σ:=by
  have alv:=alive16_calls hg hgf;have c1:=fun h1 h2=>jline_calls s a t (σ:=σ) h1 hg hgf h2
  have c2:=fun h1 h2=>jline_calls s b t (σ:=σ) h1 hg hgf h2
  have hlaw:=@room_law s a b t;have hok:=@ok16 t;generalize (readP t).1=r at hlaw hok;generalize lineF s a t=X at c1 hlaw;generalize lineF s b t=Z at c2 hlaw;obtain⟨c,x,f⟩:=X;obtain⟨d,z,g⟩:=Z;simp only[judT] at c1 c2;simp only at hlaw;obtain⟨a1,a2,a3,a4,a5⟩:=astE x;obtain⟨b1,b2,b3,b4,b5⟩:=astE z;generalize x.enc=A at c1 a1 a2 a3 a4 a5;generalize z.enc=B at c2 b1 b2 b3 b4 b5;refine fn6.calls ?_;simp only[slots,ac6,z27_,Nat.reduceAdd,Nat.reduceLT,astZ];simp only[am,Nat.reduceAdd,rm2];refine idxPL_ptr (by omega) (by omega) ?_;simp only[am,amc,Int.reduceToNat,Nat.reduceMul];refine idxPL_ptr (by omega) (by omega) ?_;simp only[am,Nat.reduceAdd,Int.reduceToNat,Nat.reduceMul,Scp.rec_];refine cl (big13_calls s σ) ?_;cases hb:big13 s with
  | true =>
    simp only[am];refine cl alv ?_;simp only[am];refine retS ?_;simp[V.erase]
  | false =>
    have hs:=big13_ok2 hb
    by_cases o1:1500<t.length
    · simp only[am,decide_eq_true (show (1500:Int)<t.length by omega)];refine cl alv ?_;simp only[am];refine retS ?_;simp[V.erase]
    simp only[am,decide_eq_false (show ¬(1500:Int)<t.length by omega)]
    by_cases o2:b.bytes<a.bytes
    · simp only[am,decide_eq_true o2];refine cl alv ?_;simp only[am];refine retS ?_;simp[V.erase]
    simp only[am,decide_eq_false o2]
    by_cases o3:b.asserts<a.asserts
    · simp only[am,decide_eq_true o3];refine cl alv ?_;simp only[am];refine retS ?_;simp[V.erase]
    simp only[am,decide_eq_false o3]
    by_cases o4:a.frames=b.frames
    case neg =>
      simp only[am,decide_eq_false o4];refine cl alv ?_;simp only[am];refine retS ?_;simp[V.erase]
    simp only[am,Scp.rec_,decide_eq_true o4];have hlaw:=hlaw (by omega) (by omega) o4;have hok:=hok (by omega);refine cl (c1 hs (by omega)) ?_;simp only[am,Nat.reduceAdd,Flt.rec_,Scp.rec_,cfl,ast_,a1,a3,a5];refine cl (c2 hs (by omega)) ?_;simp only[am,Nat.reduceAdd,Flt.rec_,cfl,ast_,b1,b3,b5,flt_eqC]
    rcases hlaw with ⟨h1,rfl⟩ | ⟨rfl,rfl,⟨rfl,rfl⟩ | rfl⟩
    · simp only[am,decide_true,Flt.rec_,decide_eq_false (show ¬f=⟨0,0⟩ from h1)];refine cl alv ?_;simp only[am];refine retS ?_;simp[V.erase]
    · simp only[am,decide_true,Flt.rec_,cfl,Flt.zero,flt_eqC];refine cl (csame_calls d d _ (by have:=hok.n;omega) (by have:=hok.n;omega) (by have:=hok.p;simp only[big];omega) hok.wl hok.wr) ?_;simp only[am,sameC_self];refine cl alv ?_;simp only[am];refine retS ?_;simp[V.erase]
    · have h7:decide ((⟨7,c.pos⟩:Flt)=⟨0,0⟩)=false:=decide_eq_false fun h=>by simp at h
      simp only[am,decide_true,Flt.rec_,cfo,Flt.zero,h7,flt_eqC];refine cl alv ?_;simp only[am];refine retS ?_;simp[V.erase]
end Go.Proofs.Tryz

namespace Go.Am
open Go.ChangeShapes Go.WideShapes Go.ChangeAt Go.RowKit
structure BulkFn {H:Type} (B:DataW H→Nat) (BA:List (DataW H)→Nat):Prop where
  str:∀b,B (.lit (.string b))=b.length+1
  int:∀k n,B (.lit (.int k n))=1
  bool:∀b,B (.lit (.bool b))=1
  nil:B .nil=1
  slice:∀e s,B (.slice e s)=BA e+BA s+1
  agg:∀p,B (.agg p)=BA p+1
  no:BA []=0
  cons:∀d r,BA (d::r)=B d+BA r
def envOf (W:World):Env:=⟨W,fun _=>.const,fun _=>none,fun _=>none⟩
section
variable {H:Type} {enc:TypeId × Value→H} {P:Program} {W:World} {sp:Nat→Bool} {B:DataW H→Nat} {BA:List (DataW H)→Nat}
theorem rd_int {t:TypeId} {k:IntKind} {n:Nat} {cs:List Value} {x:DataW H × List MemPlace} (ht:P.underlying t=some (.int k)) (hB:BulkFn B BA) (h:DataW.trod enc P W 0 sp true n t cs=some x) :
    ∃i:Int,RL (envOf W) [.int k i] cs∧(∀v∈cs,v.oneCell' = true)∧B x.1=1∧(Lit.int k i).wf=true:=by
  obtain⟨i,rfl,rfl,hw⟩:=DataW.trod_int ht h;exact⟨i,by simp[RL,R],by simp[Value.oneCell'],hB.int _ _,hw⟩
theorem rd_bool {t:TypeId} {n:Nat} {cs:List Value} {x:DataW H × List MemPlace} (ht:P.underlying t=some .bool) (hB:BulkFn B BA) (h:DataW.trod enc P W 0 sp true n t cs=some x) :
    ∃i:Bool,RL (envOf W) [.bool i] cs∧(∀v∈cs,v.oneCell' = true)∧B x.1=1:=by
  obtain⟨i,rfl,rfl⟩:=DataW.trod_bool ht h;exact⟨i,by simp[RL,R],by simp[Value.oneCell'],hB.bool _⟩
theorem rd_str {t:TypeId} {n:Nat} {cs:List Value} {x:DataW H × List MemPlace} (ht:P.underlying t=some .string) (hB:BulkFn B BA) (h:DataW.trod enc P W 0 sp true n t cs=some x) :
    ∃s:List UInt8,RL (envOf W) [.str s] cs∧(∀v∈cs,v.oneCell' = true)∧s.length+1=B x.1:=by
  obtain⟨s,rfl,rfl,_⟩:=DataW.trod_string ht h;exact⟨s.data.toList,by simp[RL,R],by simp[Value.oneCell'],(hB.str _).symm⟩
theorem rd_rows {α:Type} (ea:α→List V) (sz:α→Nat) {e:TypeId} {k n:Nat} (hB:BulkFn B BA) (hk:P.cellsOf e=k) (hlen:∀y,(ea y).length=k)
    (hel:∀cs x,DataW.trod enc P W 0 sp true n e cs=some x→∃y:α,RL (envOf W) (ea y) cs∧(∀v∈cs,v.oneCell' = true)∧sz y≤B x.1) {b o:Nat} :
    ∀(els:List (DataW H × List MemPlace)) (i:Nat),(∀j,j<els.length→(W.cells? 0 (Addr.add ⟨b,o,none⟩ ((i+j)*k)) k).bind (DataW.trod enc P W 0 sp true n e)=els[j]?) →
      ∃l:List α,l.length=els.length∧REs (envOf W).nl k (l.map ea) b (o+i*k)∧(l.map sz).sum≤BA (els.map (·.1))
  | [],i,_=>⟨[],rfl,by simp[REs],by simp⟩
  | x :: els, i, h => by
    obtain⟨l,h1,h2,h3⟩:=rd_rows ea sz hB hk hlen hel els (i+1) fun j hj=>by
      have:=h (j+1) (by simp;omega)
      rw[show i+(j+1)=i+1+j by omega] at this;simpa using this
    have h0:=h 0 (by simp);simp only[Nat.add_zero,List.getElem?_cons_zero] at h0;obtain⟨cs,hc,hr⟩:=Option.bind_eq_some_iff.1 h0;obtain⟨y,k1,k2,k3⟩:=hel cs x hr;obtain⟨_,hl,hcell⟩:=World.cells?_some hc;refine⟨y::l,by simp[h1],?_,?_⟩
    · simp only[List.map_cons,REs];refine⟨hlen y,RAs_mk k1 k2 (fun j v hv=>?_) (fun _ _=>trivial),by rw[show o+i*k+k=o+(i+1)*k by rw[Nat.add_mul];omega];exact h2⟩;have hj:j<k:=by have:=(List.getElem?_eq_some_iff.1 hv).1;omega
      have:=hcell j hj
      rw[addr_add,addr_add] at this;show W.cell? _=_;rw[this,hv]
    · simp only[List.map_cons,List.sum_cons,hB.cons];omega
theorem rd_slice {α:Type} (ea:α→List V) (sz:α→Nat) {t e:TypeId} {k fuel:Nat} (hB:BulkFn B BA) (ht:P.underlying t=some (.slice e)) (hk:P.cellsOf e=k) (hpos:0<k) (hlen:∀y,(ea y).length=k)
    (hel:∀n,n<fuel→∀cs x,DataW.trod enc P W 0 sp true n e cs=some x→∃y:α,RL (envOf W) (ea y) cs∧(∀v∈cs,v.oneCell' = true)∧sz y≤B x.1)
    {cs:List Value} {x:DataW H × List MemPlace} (h:DataW.trod enc P W 0 sp true fuel t cs=some x) :
    ∃l:List α,RL (envOf W) [.sl .no k (l.map ea)] cs∧(∀v∈cs,v.oneCell' = true)∧(l.map sz).sum+1≤B x.1:=by
  rcases DataW.trod_slice ht h with ⟨rfl,rfl⟩ | ⟨a,len,cap,elems,rest,n,rfl,rfl,rfl,_,hle,_,hl,hels,_,_⟩
  · refine⟨[],?_,by simp[Value.oneCell'],by simp[hB.nil]⟩;simp only[RL,R,List.map_nil,and_true];exact⟨none,0,rfl,by simp,by simp,trivial⟩
  · have ha:elems=[]∨∃b o,a=⟨b,o,none⟩:=by
      cases elems with
      | nil=>exact .inl rfl
      | cons y ys =>
        right;have h0:=hels 0 (by rw[←hl];simp);simp only[List.getElem?_cons_zero] at h0;obtain⟨cs',hc,_⟩:=Option.bind_eq_some_iff.1 h0;obtain⟨_,hl',hcell⟩:=World.cells?_some hc;have h1:=hcell 0 (by rw[hk];exact hpos);have h2:cs'[0]?=some (cs'[0]'(by rw[hl',hk];exact hpos)):=List.getElem?_eq_getElem _;rw[h2] at h1;obtain⟨b,o,s⟩:=a;refine⟨b,o,?_⟩;simp only[World.cell?] at h1;cases s with
        | none=>rfl
        | some s =>
          split at h1
          · simp[Addr.add] at h1
          · simp at h1
    rcases ha with rfl | ⟨b,o,rfl⟩
    · refine⟨[],?_,by simp[Value.oneCell'],by simp[hB.slice]⟩;simp only[List.length_nil] at hl;subst hl;simp only[RL,R,List.map_nil,and_true];exact⟨some a,cap,rfl,by simp,by simp,trivial⟩
    · obtain⟨l,h1,h2,h3⟩:=rd_rows (B:=B) (BA:=BA) (sp:=sp) (enc:=enc) (P:=P) (W:=W) (n:=n) ea sz hB hk hlen (hel n (Nat.lt_succ_self n)) elems 0 (fun j hj=>by
        have:=hels j (by omega)
        rw[hk] at this;rw[Nat.zero_add];exact this)
      refine⟨l,?_,by simp[Value.oneCell'],?_⟩
      · simp only[RL,R,List.length_map,and_true];exact⟨some ⟨b,o,none⟩,cap,by rw[h1,hl],by omega,.inr ⟨b,o,rfl,by simpa using h2⟩,trivial⟩
      · rw[hB.slice];omega
end
theorem post_am2 {H:Type} {enc:TypeId × Value→H} {P:Program} {f:Func} {s:ChangeSpec} {W:World} {args:Array Value} {ds:List (DataW H)} {before:List MemPlace} {tb:TypeId}
    (hl:laidOutB P=true) (hm:mapsRowed P=true) (hz:((List.range P.types.size).all fun t=>match P.underlying t with | some (.slice e)=>decide (0<P.cellsOf e) | _=>true)=true)
    (hres:f.resultTypes=#[tb]) (htb:P.underlying tb=some .bool) (hpar:∀t∈f.params.toList,t<P.types.size) (hvars:s.vars=[]) (hfn:(s.fn H ds).results=[.lit (.bool true)]∧(s.fn H ds).args=ds∧(s.fn H ds).vars=[])
    (hW:DataW.Whole enc P f.params.toList s.vars false W args.toList ds [] before) {W' : World} (hos:W'.os=W.os) (hout:W'.output=W.output) (hfrz:∀a,W'.frozen? a=W.frozen? a) (hsame:∀b,b<W.heap.size→W'.heap[b]?=W.heap[b]?) :
    s.post enc P f false true false false W args (.bool true) W' := by
  have hW' := hW;obtain⟨p,q,hA,hV,rfl,hfz,hnd⟩:=hW;rw[hvars] at hV;obtain⟨_,rfl⟩:=trodVars_none hV;have hkept:W.keptBut W' (fun _=>False):=by
    refine⟨hos,hout,fun i hi=>?_⟩;rw[hsame i hi];cases W.heap[i]? with
    | none=>rfl
    | some ob=>cases ob<;>simp
  simp only[List.append_nil] at hW';have hds:s.fn H (ds++[])=s.fn H ds:=by rw[List.append_nil]
  refine post_of_same (pa:=p) (pv:=[]) hW' (fun b sp' hd=>?_) (fun sp' hs=>?_) (fun sp' hs=>?_) (by simp) (World.keptBut_mono (fun _ h=>h.elim) hkept) ?_ (ok_one hres rfl (okWide_bool_mk htb _))
  · rw[hds,hfn.1,hres];exact trodAll_cons_mk (shut_bool htb _) trodAll_mk0
  · rw[hds,hfn.2.1];have hlt:=DataW.TrodAll.lt hA;have key:∀(ts:List TypeId) (vs:List Value) (ds:List (DataW H)) (ps:List MemPlace),(∀t∈ts,t<P.types.size)→DataW.TrodAll enc P W 0 (fun _=>true) true ts vs ds ps→(∀x∈ps,x.block<W.heap.size)→(∀x∈ps,sp' x.block=true)→DataW.TrodAll enc P W' 0 sp' true ts vs ds ps:=by
      intro ts;induction ts with
      | nil=>intro vs ds ps _ h _ _;cases vs<;>cases ds<;>first | exact h | exact h.elim
      | cons t ts ih =>
        intro vs ds ps hT h hlt hs;cases vs with
        | nil=>exact h.elim
        | cons v vs =>
          cases ds with
          | nil=>exact h.elim
          | cons d ds =>
            obtain⟨p,q,⟨n,h1⟩,h2,rfl⟩:=h;refine⟨p,q,⟨n,?_⟩,ih vs ds q (fun t ht=>hT t (by simp[ht])) h2 (fun x hx=>hlt x (by simp[hx])) (fun x hx=>hs x (by simp[hx])),rfl⟩;refine DataW.trod_stays (kids_rows hl hm) (fun {t e} ht he=>slices_full_of P hz t e ht he) (by simp) (hT t (by simp)) h1 (fun x hx=>?_) (fun x hx=>hs x (by simp[hx]));have hb:=hlt x (by simp[hx]);cases x with
            | cell b off=>exact cell_same (hsame b hb)
            | map b=>exact hsame b hb
    exact key _ _ _ _ hpar hA (fun x hx=>hlt x hx) (fun x hx=>hs x (by simpa using hx))
  · rw[hds,hfn.2.2,hvars];rfl
  · exact hfrz
theorem post_am {H:Type} {enc:TypeId × Value→H} {P:Program} {f:Func} {s:ChangeSpec} {W:World} {args:Array Value} {ds:List (DataW H)} {before:List MemPlace} {tb:TypeId}
    (hl:laidOutB P=true) (hm:mapsRowed P=true) (hz:((List.range P.types.size).all fun t=>match P.underlying t with | some (.slice e)=>decide (0<P.cellsOf e) | _=>true)=true)
    (hres:f.resultTypes=#[tb]) (htb:P.underlying tb=some .bool) (hpar:∀t∈f.params.toList,t<P.types.size) (hvars:s.vars=[]) (hfn:(s.fn H ds).results=[.lit (.bool true)]∧(s.fn H ds).args=ds∧(s.fn H ds).vars=[])
    (hW:DataW.Whole enc P f.params.toList s.vars false W args.toList ds [] before) {E' : Env} (hfr:Fr (envOf W) E') :
    s.post enc P f false true false false W args (.bool true) E'.w :=
  post_am2 hl hm hz hres htb hpar hvars hfn hW hfr.os hfr.output hfr.frz fun b hb=>(hfr.same b hb (.inl rfl)).1
section
variable {P:Program} {W:World} {r:Reach} {b:Nat} {t:TypeId} {v:Value} {E:Env}
theorem val_string {x:V} (ht:P.underlying t=some .string) (hv:Value.okWide P W r b t v) (h:RL E [x] v.cells.toList):R E x v:=by
  obtain⟨a,rfl⟩:=okWide_string ht hv;simpa [Value.cells,RL] using h
theorem val_struct {fs:Array Field} {xs:List V} (ht:P.underlying t=some (.struct fs)) (hv:Value.okWide P W r b t v) (h:RL E xs v.cells.toList):R E (.agg xs) v:=by
  obtain⟨cs,rfl,_⟩:=okWide_struct ht hv;simp only[R];exact⟨cs,rfl,by simpa [Value.cells] using h⟩
theorem val_array {n:Nat} {e:TypeId} {xs:List V} (ht:P.underlying t=some (.array n e)) (hv:Value.okWide P W r b t v) (h:RL E xs v.cells.toList):R E (.agg xs) v:=by
  simp only[Value.okWide,ht] at hv;obtain⟨cs,rfl,_⟩:=hv;simp only[R];exact⟨cs,rfl,by simpa [Value.cells] using h⟩
end
end Go.Am

namespace Go.Am
open Go.ChangeShapes Go.WideShapes Go.ChangeAt Go.RowKit
def txtVal (s:List UInt8):Value:=.string ⟨s.toArray⟩
section
variable {H:Type} {enc:TypeId × Value→H} {P:Program} {W:World}
def pairsData (ps:List (List UInt8 × List UInt8)):DataW H:=.agg (ps.map fun p=>.agg [.lit (.string p.1),.lit (.string p.2)])
theorem list2 {α:Type} {l:List α} (h:l.length=2):∃a b,l=[a,b]:=by
  match l,h with
  | [a,b],_=>exact⟨a,b,rfl⟩
theorem txtVal_of {s:ByteArray} {l:List UInt8} (h:s.data.toList=l):Value.string s=txtVal l:=by subst h;simp[txtVal]
theorem chunks {α:Type} {k:Nat} (f:Nat→List α):∀(n:Nat) (cs:List α),cs.length=n*k→(∀i,i<n→(cs.drop (i*k)).take k=f i)→cs=((List.range n).map f).flatten
  | 0,cs,hl,_=>by simp at hl;simp[hl]
  | n + 1, cs, hl, h => by
    rw[Nat.succ_mul] at hl;have h1:=chunks (k:=k) f n (cs.take (n*k)) (by rw[List.length_take];omega) fun i hi=>by
      have:i*k+k≤n*k:=by rw[←Nat.succ_mul];exact Nat.mul_le_mul_right _ hi
      rw[List.drop_take,List.take_take,Nat.min_eq_left (by omega)];exact h i (by omega)
    have h2:=h n (by omega);rw[List.take_of_length_le (by rw[List.length_drop];omega)] at h2;rw[List.range_succ,List.map_append,List.flatten_append,←h1];simp only[List.map_cons,List.map_nil,List.flatten_cons,List.flatten_nil,List.append_nil];rw[←h2,List.take_append_drop]
theorem cells_of_pair {base:Nat} {sp:Nat→Bool} {held:Bool} {fuel:Nat} {e tf:TypeId} {fs:Array Field} {cs:List Value} {x:DataW H × List MemPlace} {a b:List UInt8}
    (he:P.underlying e=some (.struct fs)) (hs:fs.size=2) (hf0:(fs[0]?).map (fun f=>(f.type,f.offset))=some (tf,0)) (hf1:(fs[1]?).map (fun f=>(f.type,f.offset))=some (tf,1))
    (htf:P.underlying tf=some .string) (hct:P.cellsOf tf=1) (hce:P.cellsOf e=2)
    (h:DataW.trod enc P W base sp held fuel e cs=some x) (hx:x.1 = .agg [.lit (.string a),.lit (.string b)]):cs=[txtVal a,txtVal b]:=by
  obtain⟨xs,m,rfl,rfl,hl,hxl,hf⟩:=DataW.trod_struct he h;rw[hce] at hl;rw[hs] at hxl;obtain⟨u,v,rfl⟩:=list2 hl;obtain⟨x0,x1,rfl⟩:=list2 hxl;obtain⟨f0,g0,g1⟩:=Option.map_eq_some_iff.1 hf0;obtain⟨f1,g2,g3⟩:=Option.map_eq_some_iff.1 hf1;simp only[Prod.mk.injEq] at g1 g3;have h0:=hf 0 f0 g0;have h1:=hf 1 f1 g2;rw[g1.1,g1.2,hct] at h0;rw[g3.1,g3.2,hct] at h1;obtain⟨s0,p0,q0,_⟩:=DataW.trod_string htf h0;obtain⟨s1,p1,q1,_⟩:=DataW.trod_string htf h1;simp only[List.drop_zero,List.drop_succ_cons,List.take_succ_cons,List.take_zero,List.cons.injEq,and_true] at p0 p1;subst p0 p1 q0 q1;simp only[List.map_cons,List.map_nil,DataW.agg.injEq,List.cons.injEq,DataW.lit.injEq,Lit.string.injEq,and_true] at hx;rw[txtVal_of hx.1,txtVal_of hx.2]
theorem cells_of_pairs {base:Nat} {sp:Nat→Bool} {held:Bool} {fuel:Nat} {t e tf:TypeId} {n:Nat} {fs:Array Field} {cs:List Value} {ps:List (List UInt8 × List UInt8)} {p:List MemPlace}
    (ht:P.underlying t=some (.array n e)) (he:P.underlying e=some (.struct fs)) (hs:fs.size=2) (hf0:(fs[0]?).map (fun f=>(f.type,f.offset))=some (tf,0)) (hf1:(fs[1]?).map (fun f=>(f.type,f.offset))=some (tf,1))
    (htf:P.underlying tf=some .string) (hctf:P.cellsOf tf=1) (hce:P.cellsOf e=2) (hct:P.cellsOf t=n*2)
    (h:DataW.trod enc P W base sp held fuel t cs=some (pairsData ps,p)):cs=(ps.flatMap fun p=>[p.1,p.2]).map txtVal:=by
  obtain⟨xs,m,rfl,hx,hl,hxl,hi⟩:=DataW.trod_array ht h;rw[hct] at hl;have hxs:xs.map (·.1)=ps.map fun p=>(.agg [.lit (.string p.1),.lit (.string p.2)]:DataW H):=by
    have:=congrArg Prod.fst hx
    simpa [pairsData] using this.symm
  have hpl:ps.length=n:=by
    have:=congrArg List.length hxs
    simp at this;omega
  have hc:=chunks (fun i=>match ps[i]? with | some p=>[txtVal p.1,txtVal p.2] | none=>[]) n cs hl (fun i hin=>by
    have h1:=hi i hin;rw[hce] at h1;have hxi:xs[i]?=some xs[i]:=by simp[hxl,hin]
    have hpi:ps[i]?=some ps[i]:=by simp[hpl,hin]
    rw[hxi] at h1;have h2:=congrArg (·[i]?) hxs;simp only[List.getElem?_map,hxi,hpi,Option.map_some,Option.some.injEq] at h2;rw[hpi];exact cells_of_pair he hs hf0 hf1 htf hctf hce h1 h2)
  rw[hc,←hpl];clear hc hi hxl hl hx hxs h hpl;have key:∀qs:List (List UInt8 × List UInt8),((List.range qs.length).map fun i=>match qs[i]? with | some p=>[txtVal p.1,txtVal p.2] | none=>[])=qs.map fun p=>[txtVal p.1,txtVal p.2]:=fun qs=>by
    apply List.ext_getElem?;intro i
    by_cases hi:i<qs.length
    · simp[hi]
    · simp[hi]
  rw[key,List.map_flatMap,List.flatMap_def];rfl
end
end Go.Am

namespace Go.Am
open Go.ChangeShapes Go.WideShapes Go.ChangeAt Go.RowKit
def litV:V→Value
  | .str s=>txtVal s
  | .int k n=>.int k n
  | _=>.bool false
def isLit:V→Bool
  | .str _=>true
  | .int _ _=>true
  | _=>false
theorem litR {E:Env} {x:V} (h:isLit x=true) (v:Value):R E x v↔v=litV x:=by
  cases x<;>simp[isLit] at h<;>simp[R,litV,txtVal]
def mStore (B:Nat→Option (List V)):Store:=⟨fun _=>none,fun _=>none,B⟩
def MGlob (W:World) (B:Nat→Option (List V)):Prop:=∀b cs,B b=some cs→(∃e,W.heap[b]?=some (.cells (cs.map litV).toArray e (0,0)))∧∀x∈cs,isLit x=true
theorem lits_RL {E:Env}:∀{cs:List V},(∀x∈cs,isLit x=true)→RL E cs (cs.map litV)
  | [],_=>by simp[RL]
  | x :: cs, h => by
    simp only[List.map_cons,RL];exact⟨(litR (h x (by simp)) _).2 rfl,lits_RL fun y hy=>h y (by simp[hy])⟩
theorem mGlob_ok {W:World} {B:Nat→Option (List V)} (h:MGlob W B):(envOf W).ok (mStore B):=by
  refine⟨fun _ _ h=>by simp[mStore] at h,fun _ _ h=>by simp[mStore] at h,fun _ _=>rfl,⟨0,fun _ _=>rfl⟩,fun b cs hb=>?_⟩;obtain⟨⟨e,he⟩,hl⟩:=h b cs hb;refine RAs_mk (vs:=cs.map litV) (lits_RL hl) (fun v hv=>?_) (fun j v hj=>?_) fun _ _=>trivial
  · obtain⟨x,hx,rfl⟩:=List.mem_map.1 hv
    have:=hl x hx
    cases x<;>simp[isLit] at this<;>rfl
  · show W.cell? _=_;simp only[World.cell?,he,Nat.zero_add];simpa using hj
theorem law_callsM {H:Type} {enc:TypeId × Value→H} {P:Program} {n:FuncId} {f:Func} {s:ChangeSpec} {W:World} {args:Array Value} {vs:List V} {ds:List (DataW H)} {before:List MemPlace} {tb:TypeId} {B:Nat→Option (List V)}
    (hP:PCalls P n vs (mStore B) fun v σ' => v = .bool true∧σ' = mStore B) (hg:MGlob W B) (hR:RL (envOf W) vs args.toList)
    (hl:laidOutB P=true) (hm:mapsRowed P=true) (hz:((List.range P.types.size).all fun t=>match P.underlying t with | some (.slice e)=>decide (0<P.cellsOf e) | _=>true)=true)
    (hres:f.resultTypes=#[tb]) (htb:P.underlying tb=some .bool) (hpar:∀t∈f.params.toList,t<P.types.size) (hvars:s.vars=[]) (hfn:(s.fn H ds).results=[.lit (.bool true)]∧(s.fn H ds).args=ds∧(s.fn H ds).vars=[])
    (hW:DataW.Whole enc P f.params.toList s.vars false W args.toList ds [] before) :
    Calls P n args W fun e W' => ∃v,e = .returned v∧s.post enc P f false true false false W args v W' := by
  refine(hP.2 (envOf W) args (fun _=>rfl) (mGlob_ok hg) hR).mono ?_;rintro e w' ⟨v,x,E',σ',rfl,rfl,_,_,hRv,hfr,rfl,_⟩;simp only[R] at hRv;subst hRv;exact⟨_,rfl,post_am hl hm hz hres htb hpar hvars hfn hW hfr⟩
end Go.Am

namespace Go.Am
open Go.ChangeShapes Go.WideShapes Go.ChangeAt Go.RowKit
section
variable {H:Type} {enc:TypeId × Value→H} {P:Program} {W:World}
theorem laid_at {name:String} {d:DataW Unit} {rest:List (String × DataW Unit)} {g:Nat} {t:TypeId} (h:laidMet P ((name,d)::rest) W) (hg:P.globalNamed name=some g) (ht:(P.globals[g]?).map (·.type)=some t) {vs:List Value}
    (hc:∀(cs:List Value) (fuel:Nat) (p:List MemPlace),DataW.trod (fun _=>()) P W 0 (fun _=>true) false fuel t cs=some (d,p)→cs=vs) (hv:vs≠[]):∃e,W.heap[g]?=some (.cells vs.toArray e (0,0)):=by
  obtain⟨ps,⟨g',t',cs,fuel,p,q,hg',ht',hv',hd,_,hps⟩,_,hb⟩:=h;obtain rfl:g' = g:=Option.some.inj (hg'.symm.trans hg);obtain rfl:t' = t:=Option.some.inj (ht'.symm.trans ht);have hcs:=hc _ _ _ hd;have hcs' : cs=vs.toArray:=by rw[←hcs]
  obtain⟨⟨c,e,hce⟩,_⟩:=hb g' 0 (by
    rw[hps];refine List.mem_append_left _ (List.mem_append_left _ ?_);rw[hcs'];cases vs with
    | nil=>exact absurd rfl hv
    | cons a l=>simp[MemPlace.row])
  refine⟨e,?_⟩;rw[hce];simp only[World.var?,hg,Option.bind_some,hce,Option.some.injEq] at hv';rw[hv',hcs']
end
end Go.Am

namespace Go.Am
open Go.ChangeShapes Go.WideShapes Go.ChangeAt Go.RowKit
section
variable {E:Env}
theorem RL_app:∀{l m:List V} {cs ds:List Value},RL E l cs→RL E m ds→RL E (l++m) (cs++ds)
  | [],_,[],_,_,h=>h
  | [],_,_::_,_,h,_=>by simp[RL] at h
  | _::_,_,[],_,h,_=>by simp[RL] at h
  | x :: l, m, c :: cs, ds, h, h2 => by
    simp only[RL,List.cons_append] at h ⊢;exact⟨h.1,RL_app h.2 h2⟩
def u64At:Value→B64
  | .int .u64 z=>BitVec.ofInt 64 z
  | _=>0#64
theorem RL_u64s:∀(cs:List Value),(∀v∈cs,∃z:Int,v = .int .u64 z∧0≤z∧z<18446744073709551616)→RL E (encW (cs.map u64At)) cs
  | [],_=>by simp[encW,RL]
  | v :: cs, h => by
    obtain⟨z,rfl,h0,h1⟩:=h v (by simp);have ih:=RL_u64s cs fun v hv=>h v (by simp[hv])
    simp only[encW,List.map_cons,RL] at ih ⊢;refine⟨?_,ih⟩;simp only[R,u64At,Value.int.injEq,true_and];rw[BitVec.toNat_ofInt];omega
end
section
variable {H:Type} (enc:TypeId × Value→H) (P:Program) (W:World) (B:DataW H→Nat)
def Tld (N:Nat) (t:TypeId) (F:List V→Nat→Prop):Prop :=
  ∀n,n<N→∀cs x,DataW.trod enc P W 0 (fun _=>true) true n t cs=some x→∃l,RL (envOf W) l cs∧(∀v∈cs,v.oneCell' = true)∧F l (B x.1)
def Flds (N:Nat):List Field→Nat→(List V→Nat→Prop)→Prop
  | [],_,F=>F [] 0
  | f::r,o,F=>f.offset=o∧∃G,Tld enc P W B N f.type G∧∀l b,G l b→Flds N r (o+P.cellsOf f.type) fun l' b' => F (l++l') (b+b')
end
section
variable {H:Type} {enc:TypeId × Value→H} {P:Program} {W:World} {B:DataW H→Nat} {BA:List (DataW H)→Nat} {N:Nat} {t:TypeId}
theorem Tld.mono {M:Nat} {F:List V→Nat→Prop} (h:Tld enc P W B N t F) (hM:M≤N):Tld enc P W B M t F:=fun n hn=>h n (Nat.lt_of_lt_of_le hn hM)
theorem Tld.to {F G:List V→Nat→Prop} (h:Tld enc P W B N t F) (hg:∀l b,F l b→G l b):Tld enc P W B N t G:=fun n hn cs x hx =>
  let ⟨l,h1,h2,h3⟩:=h n hn cs x hx
  ⟨l,h1,h2,hg _ _ h3⟩
theorem tld_int {k:IntKind} (ht:P.underlying t=some (.int k)) (hB:BulkFn B BA):Tld enc P W B N t fun l b=>∃i:Int,l=[.int k i]∧b=1∧(Lit.int k i).wf=true:=fun n _ cs x h =>
  let ⟨i,h1,h2,h3,h4⟩:=rd_int ht hB h
  ⟨_,h1,h2,i,rfl,h3,h4⟩
theorem tld_bool (ht:P.underlying t=some .bool) (hB:BulkFn B BA):Tld enc P W B N t fun l b=>∃i:Bool,l=[.bool i]∧b=1:=fun n _ cs x h =>
  let ⟨i,h1,h2,h3⟩:=rd_bool ht hB h
  ⟨_,h1,h2,i,rfl,h3⟩
theorem tld_str (ht:P.underlying t=some .string) (hB:BulkFn B BA):Tld enc P W B N t fun l b=>∃s:List UInt8,l=[.str s]∧b=s.length+1:=fun n _ cs x h =>
  let ⟨s,h1,h2,h3⟩:=rd_str ht hB h
  ⟨_,h1,h2,s,rfl,h3.symm⟩
theorem tld_u64s {e:TypeId} {n:Nat} (ht:P.underlying t=some (.array n e)) (he:P.underlying e=some (.int .u64)) (hce:P.cellsOf e=1) (hct:P.cellsOf t=n):Tld enc P W B N t fun l _=>∃w:List B64,w.length=n∧l=encW w:=by
  intro q _ cs x h;obtain⟨xs,m,rfl,rfl,hl,hx,hf⟩:=DataW.trod_array ht h;rw[hct] at hl;have all:∀v∈cs,∃z:Int,v = .int .u64 z∧0≤z∧z<18446744073709551616:=by
    intro v hv;obtain⟨i,hi,rfl⟩:=List.mem_iff_getElem.1 hv;have h1:=hf i (by omega);rw[hce,Nat.mul_one,List.getElem?_eq_getElem (show i<xs.length by omega),List.drop_eq_getElem_cons hi,List.take_succ_cons,List.take_zero] at h1;obtain⟨z,e1,_,hw⟩:=DataW.trod_int he h1;simp[Lit.wf,IntKind.min,IntKind.max,IntKind.signed,IntKind.bits] at hw;exact⟨z,by simpa using e1,by omega,by omega⟩
  refine⟨_,RL_u64s cs all,fun v hv=>?_,cs.map u64At,by simp[hl],rfl⟩;obtain⟨z,rfl,_⟩:=all v hv;rfl
theorem tld_slice {α:Type} (ea:α→List V) (sz:α→Nat) {e:TypeId} {k:Nat} (hB:BulkFn B BA) (ht:P.underlying t=some (.slice e)) (hk:P.cellsOf e=k) (hpos:0<k) (hlen:∀y,(ea y).length=k)
    (hel:Tld enc P W B N e fun l b=>∃y,l=ea y∧sz y≤b):Tld enc P W B (N+1) t fun l b=>∃ys:List α,l=[.sl .no k (ys.map ea)]∧(ys.map sz).sum+1≤b:=by
  intro n hn cs x h;obtain⟨ys,h1,h2,h3⟩:=rd_slice ea sz hB ht hk hpos hlen (fun m hm cs x h=>by
    obtain⟨l,k1,k2,y,rfl,k3⟩:=hel m (by omega) cs x h;exact⟨y,k1,k2,k3⟩) h
  exact⟨_,h1,h2,ys,rfl,h3⟩
theorem flds_read (hB:BulkFn B BA) {m:Nat} (hm:m<N) {cs:List Value}:∀(fs:List Field) (o:Nat) (F:List V→Nat→Prop) (xs:List (DataW H × List MemPlace)),Flds enc P W B N fs o F→xs.length=fs.length →
    (∀(i:Nat) (f:Field),fs[i]?=some f→DataW.trod enc P W 0 (fun _=>true) true m f.type ((cs.drop f.offset).take (P.cellsOf f.type))=xs[i]?)→cs.length=o+(fs.map fun f=>P.cellsOf f.type).sum →
    ∃l,RL (envOf W) l (cs.drop o)∧(∀v∈cs.drop o,v.oneCell' = true)∧F l (BA (xs.map (·.1)))
  | [], o, F, xs, h, hx, _, hl => by
    obtain rfl:=List.eq_nil_of_length_eq_zero (by simpa using hx);simp only[List.map_nil,List.sum_nil,Nat.add_zero] at hl;refine⟨[],?_,?_,?_⟩
    · rw[List.drop_of_length_le (by omega)];simp[RL]
    · rw[List.drop_of_length_le (by omega)];simp
    · rw[List.map_nil,hB.no];exact h
  | f :: fs, o, F, xs, h, hx, hf, hl => by
    obtain⟨h1,G,h2,h3⟩:=h;cases xs with
    | nil=>simp at hx
    | cons x xs =>
      have h0:=hf 0 f rfl;rw[List.getElem?_cons_zero,h1] at h0;obtain⟨l,k1,k2,k3⟩:=h2 m hm _ x h0;simp only[List.map_cons,List.sum_cons] at hl;obtain⟨l',g1,g2,g3⟩:=flds_read hB hm fs (o+P.cellsOf f.type) _ xs (h3 l _ k3) (by simpa using hx) (fun i f' hi=>by simpa using hf (i+1) f' (by simpa using hi)) (by omega);have e:(cs.drop o).take (P.cellsOf f.type)++cs.drop (o+P.cellsOf f.type)=cs.drop o:=by rw[←List.drop_drop,List.take_append_drop]
      refine⟨l++l',?_,fun v hv=>?_,?_⟩
      · rw[←e];exact RL_app k1 g1
      · rw[←e] at hv
        rcases List.mem_append.1 hv with hv | hv
        · exact k2 v hv
        · exact g2 v hv
      · rw[List.map_cons,hB.cons];exact g3
theorem tld_struct (hB:BulkFn B BA) {fs:Array Field} (ht:P.underlying t=some (.struct fs)) {F:List V→Nat→Prop} (h:Flds enc P W B N fs.toList 0 F) (hc:P.cellsOf t=(fs.toList.map fun f=>P.cellsOf f.type).sum) :
    Tld enc P W B (N+1) t fun l b=>∃b',F l b' ∧ b=b' + 1:=by
  intro n hn cs x hx;obtain⟨xs,m,rfl,rfl,hl,hlen,hf⟩:=DataW.trod_struct ht hx;obtain⟨l,h1,h2,h3⟩:=flds_read hB (show m<N by omega) (cs:=cs) fs.toList 0 F xs h (by simpa using hlen) (fun i f hi=>hf i f (by simpa using hi)) (by omega);exact⟨l,h1,h2,_,h3,hB.agg _⟩
theorem flds_nil {o:Nat} {F:List V→Nat→Prop} (h:F [] 0):Flds enc P W B N [] o F:=h
theorem flds_cons {f:Field} {r:List Field} {o:Nat} {F G:List V→Nat→Prop} (h1:f.offset=o) (h2:Tld enc P W B N f.type G) (h3:∀l b,G l b→Flds enc P W B N r (o+P.cellsOf f.type) fun l' b' => F (l++l') (b+b')):Flds enc P W B N (f::r) o F:=⟨h1,G,h2,h3⟩
theorem tld_struct1 (hB:BulkFn B BA) {fs:List Field} (ht:P.underlying t=some (.struct fs.toArray)) {F:List V→Nat→Prop} (hc:P.cellsOf t=(fs.map fun f=>P.cellsOf f.type).sum) (h:Flds enc P W B N fs 0 fun l b=>F l (b+1)):Tld enc P W B (N+1) t F :=
  (tld_struct hB ht (F:=fun l b=>F l (b+1)) (by simpa using h) (by simpa using hc)).to fun l b ⟨b',h1,h2⟩=>h2▸h1
theorem tld_struct0 (hB:BulkFn B BA) {fs:List Field} (ht:P.underlying t=some (.struct fs.toArray)) {F:List V→Nat→Prop} (hc:P.cellsOf t=(fs.map fun f=>P.cellsOf f.type).sum) (h:Flds enc P W B N fs 0 fun l b=>F l (b+1)):Tld enc P W B N t F :=
  (tld_struct1 hB ht hc h).mono (Nat.le_succ N)
theorem tld_slice0 {α:Type} (ea:α→List V) (sz:α→Nat) {e:TypeId} {k:Nat} (hB:BulkFn B BA) (ht:P.underlying t=some (.slice e)) (hk:P.cellsOf e=k) (hpos:0<k) (hlen:∀y,(ea y).length=k)
    (hel:Tld enc P W B N e fun l b=>∃y,l=ea y∧sz y≤b):Tld enc P W B N t fun l b=>∃ys:List α,l=[.sl .no k (ys.map ea)]∧(ys.map sz).sum+1≤b :=
  (tld_slice ea sz hB ht hk hpos hlen hel).mono (Nat.le_succ N)
theorem tld_two {e:TypeId} {k:Nat} {F G:List V→Nat→Prop} (hB:BulkFn B BA) (ht:P.underlying t=some (.array 2 e)) (hk:P.cellsOf e=k) (hct:P.cellsOf t=2*k) (hel:Tld enc P W B N e G) (hF:∀l b l' b',G l b→G l' b' → F (l++l') (b+b' + 1)):Tld enc P W B N t F:=by
  intro n hn cs x h;obtain⟨xs,m,rfl,rfl,hl,hx,hf⟩:=DataW.trod_array ht h;obtain⟨x0,x1,rfl⟩:=list2 hx;have h0:=hf 0 (by omega);have h1:=hf 1 (by omega);rw[hk] at h0 h1;rw[hct] at hl;simp only[Nat.zero_mul,List.drop_zero,Nat.one_mul,List.getElem?_cons_zero,List.getElem?_cons_succ] at h0 h1;rw[List.take_of_length_le (by simp;omega)] at h1;obtain⟨l,k1,k2,k3⟩:=hel m (by omega) _ _ h0;obtain⟨l',g1,g2,g3⟩:=hel m (by omega) _ _ h1;refine⟨l++l',?_,fun v hv=>?_,?_⟩
  · have:=RL_app k1 g1
    rwa [List.take_append_drop] at this
  · rw[←List.take_append_drop k cs] at hv
    rcases List.mem_append.1 hv with hv | hv
    · exact k2 v hv
    · exact g2 v hv
  · have:=hF _ _ _ _ k3 g3
    simpa [hB.agg,hB.cons,hB.no] using this
end
end Go.Am

namespace Go.Proofs.Tryz
open Go.Am Go.ChangeShapes Go.WideShapes Go.ChangeAt Go.RowKit
open Go.Proofs.YtkeidlpchmepkaaGreatDoor
theorem bulkFn (H:Type):BulkFn (H:=H) Rows.uptoBulk Rows.uptoBulkAll :=
  ⟨fun _=>by simp only[Rows.uptoBulk],fun _ _=>by simp only[Rows.uptoBulk],fun _=>by simp only[Rows.uptoBulk],by simp only[Rows.uptoBulk],fun _ _=>by simp only[Rows.uptoBulk],fun _=>by simp only[Rows.uptoBulk],by simp only[Rows.uptoBulkAll],fun _ _=>by simp only[Rows.uptoBulkAll]⟩
theorem laid:laidOutB prog=true:=by kernel_rfl
theorem rowed:mapsRowed prog=true:=by kernel_rfl
theorem fulls:((List.range prog.types.size).all fun t=>match prog.underlying t with | some (.slice e)=>decide (0<prog.cellsOf e) | _=>true)=true:=by kernel_rfl
theorem own:ownKnob prog.godebug=none:=by kernel_rfl
def gB:Nat→Option (List V):=fun b=>if b=0 then some formCells else if b=1 then some tzCells else none
theorem globs_at {W:World} (h:laidMetH prog Rows.judgeRoomRow.laid W):MGlob W gB:=by
  have h0:laidMet prog Rows.judgeRoomRow.laid W:=h;have h1:=laidMet.tail h0;obtain⟨e0,k0⟩:=laid_at (g:=0) (t:=155) (vs:=formCells.map litV) h0 (by kernel_rfl) (by kernel_rfl) (fun cs fuel p hd=>(cells_of_pairs (ps:=formT) underlying155 underlying88 (by kernel_rfl) (by kernel_rfl) (by kernel_rfl) underlying9 (by kernel_rfl) (by kernel_rfl) (by kernel_rfl) hd).trans rfl) (by simp[formCells,formT]);obtain⟨e1,k1⟩:=laid_at (g:=1) (t:=277) (vs:=tzCells.map litV) h1 (by kernel_rfl) (by kernel_rfl) (fun cs fuel p hd=>(Lib.cells_of_tab (zs:=tzTab) underlying277 underlying5 (by kernel_rfl) (by kernel_rfl) hd).trans rfl) (by simp[tzCells,tzTab]);intro b cs hb;simp only[gB] at hb;split at hb
  · rename_i hq;subst hq;obtain rfl:=Option.some.inj hb;exact⟨⟨e0,k0⟩,by decide⟩
  split at hb
  · rename_i hq;subst hq;obtain rfl:=Option.some.inj hb;exact⟨⟨e1,k1⟩,by decide⟩
  simp at hb
def lay1:DataW Unit→List Value
  | .lit (.int k n)=>[.int k n]
  | .lit (.string s)=>[txtVal s]
  | _=>[]
def lay2:DataW Unit→List Value
  | .agg ds=>ds.flatMap lay1
  | d=>lay1 d
def lay3:DataW Unit→List Value
  | .agg ds=>ds.flatMap lay2
  | d=>lay1 d
def layAt (h:Array Obj) (x:Nat × DataW Unit):Array Obj:=h.modify x.1 fun
  | .cells _ t frozen=>.cells (lay3 x.2).toArray t frozen
  | o=>o
noncomputable def laidWorld (os:Os):World :=
  {World.holding prog os ⟨#[],#[],[]⟩ with heap:=[(0,Rows.laid_clearance_command_forms),(1,Rows.laid_math_bits_deBruijn64tab)].foldl layAt (World.holding prog os ⟨#[],#[],[]⟩).heap}
set_option maxRecDepth 100000
section
variable {H:Type} {enc:TypeId × Value→H} {W:World} {N:Nat}
abbrev TL (enc:TypeId × Value→H) (W:World) (N:Nat) (t:TypeId) (F:List V→Nat→Prop):Prop:=Tld enc prog W (Rows.uptoBulk (H:=H)) N t F
theorem r_int:TL enc W N 3 fun l b=>∃y:Int,l=[.int .i64 y]∧1≤b:=(tld_int underlying3 (bulkFn H)).to fun _ _ ⟨y,h,k,_⟩=>⟨y,h,by omega⟩
theorem r_bool:TL enc W N 4 fun l b=>∃y:Bool,l=[.bool y]∧1≤b:=(tld_bool underlying4 (bulkFn H)).to fun _ _ ⟨y,h,k⟩=>⟨y,h,by omega⟩
theorem r_str:TL enc W N 9 fun l b=>∃y:List UInt8,l=[.str y]∧y.length+1≤b:=(tld_str underlying9 (bulkFn H)).to fun _ _ ⟨y,h,k⟩=>⟨y,h,by omega⟩
theorem r_names:TL enc W N 90 fun l b=>∃ys:List (List UInt8),l=[.sl .no 1 (sCells ys)]∧(ys.map fun s=>s.length+1).sum+1≤b :=
  tld_slice0 (fun s:List UInt8=>[V.str s]) (fun s=>s.length+1) (bulkFn H) underlying90 (show prog.cellsOf 9=1 by kernel_rfl) (by decide) (fun _=>rfl) (r_str.to fun _ _ ⟨y,h,k⟩=>⟨y,h,k⟩)
theorem r_rel:TL enc W N 100 fun l b=>∃y:Rl,l=y.enc∧0≤b:=by
  refine tld_struct0 (bulkFn H) underlying100 (by kernel_rfl) ?_;refine flds_cons (by kernel_rfl) r_int ?_;rintro _ b0 ⟨y0,rfl,h0⟩;refine flds_cons (by kernel_rfl) (tld_u64s underlying98 underlying40 (by kernel_rfl) (by kernel_rfl)) ?_;rintro _ b1 ⟨y1,h1,rfl⟩;exact flds_nil ⟨⟨y0,y1,h1⟩,by rw[List.append_nil];rfl,Nat.zero_le _⟩
theorem r_fct:TL enc W N 102 fun l b=>∃y:Fct,l=y.enc∧0≤b:=by
  refine tld_struct0 (bulkFn H) underlying102 (by kernel_rfl) ?_;refine flds_cons (by kernel_rfl) r_int ?_;rintro _ b0 ⟨y0,rfl,h0⟩;refine flds_cons (by kernel_rfl) r_names ?_;rintro _ b1 ⟨y1,rfl,h1⟩;refine flds_cons (by kernel_rfl) r_rel ?_;rintro _ b2 ⟨y2,rfl,h2⟩;exact flds_nil ⟨⟨y0,y1,y2⟩,by simp[Fct.enc],by exact Nat.zero_le _⟩
theorem r_fcts:TL enc W N 65 fun l b=>∃ys:List (Fct),l=[.sl .no 67 (ys.map Fct.enc)]∧(ys.map fun _=>0).sum+1≤b :=
  (tld_slice0 Fct.enc (fun _=>0) (bulkFn H) underlying65 (show prog.cellsOf 102=67 by kernel_rfl) (by decide) (fun _=>Fct.r_len) r_fct)
theorem r_shp:TL enc W N 67 fun l b=>∃y:Shp,l=y.enc∧0≤b:=by
  refine tld_struct0 (bulkFn H) underlying67 (by kernel_rfl) ?_;refine flds_cons (by kernel_rfl) r_bool ?_;rintro _ b0 ⟨y0,rfl,h0⟩;refine flds_cons (by kernel_rfl) r_fcts ?_;rintro _ b1 ⟨y1,rfl,h1⟩;exact flds_nil ⟨⟨y0,y1⟩,by rfl,by exact Nat.zero_le _⟩
theorem r_lat:TL enc W N 69 fun l b=>∃y:Ltc,l=y.enc∧0≤b:=by
  refine tld_struct0 (bulkFn H) underlying69 (by kernel_rfl) ?_;refine flds_cons (by kernel_rfl) r_str ?_;rintro _ b0 ⟨y0,rfl,h0⟩;refine flds_cons (by kernel_rfl) r_shp ?_;rintro _ b1 ⟨y1,rfl,h1⟩;exact flds_nil ⟨⟨y0,y1⟩,by rfl,by exact Nat.zero_le _⟩
theorem r_var:TL enc W N 72 fun l b=>∃y:Vrb,l=y.enc∧0≤b:=by
  refine tld_struct0 (bulkFn H) underlying72 (by kernel_rfl) ?_;refine flds_cons (by kernel_rfl) r_str ?_;rintro _ b0 ⟨y0,rfl,h0⟩;refine flds_cons (by kernel_rfl) r_int ?_;rintro _ b1 ⟨y1,rfl,h1⟩;refine flds_cons (by kernel_rfl) r_int ?_;rintro _ b2 ⟨y2,rfl,h2⟩;exact flds_nil ⟨⟨y0,y1,y2⟩,by rfl,by exact Nat.zero_le _⟩
theorem r_lats:TL enc W N 22 fun l b=>∃ys:List (Ltc),l=[.sl .no 3 (ys.map Ltc.enc)]∧(ys.map fun _=>0).sum+1≤b :=
  (tld_slice0 Ltc.enc (fun _=>0) (bulkFn H) underlying22 (show prog.cellsOf 69=3 by kernel_rfl) (by decide) (fun _=>rfl) r_lat)
theorem r_vars:TL enc W N 23 fun l b=>∃ys:List (Vrb),l=[.sl .no 3 (ys.map Vrb.enc)]∧(ys.map fun _=>0).sum+1≤b :=
  (tld_slice0 Vrb.enc (fun _=>0) (bulkFn H) underlying23 (show prog.cellsOf 72=3 by kernel_rfl) (by decide) (fun _=>rfl) r_var)
theorem r_scp:TL enc W N 25 fun l b=>∃y:Scp,l=y.enc∧0≤b:=by
  refine tld_struct0 (bulkFn H) underlying25 (by kernel_rfl) ?_;refine flds_cons (by kernel_rfl) r_lats ?_;rintro _ b0 ⟨y0,rfl,h0⟩;refine flds_cons (by kernel_rfl) r_vars ?_;rintro _ b1 ⟨y1,rfl,h1⟩;exact flds_nil ⟨⟨y0,y1⟩,by rfl,by exact Nat.zero_le _⟩
theorem r_rm:TL enc W N 27 fun l b=>∃y:Rm,l=y.enc∧0≤b:=by
  refine tld_struct0 (bulkFn H) underlying27 (by kernel_rfl) ?_;refine flds_cons (by kernel_rfl) r_int ?_;rintro _ b0 ⟨y0,rfl,h0⟩;refine flds_cons (by kernel_rfl) r_int ?_;rintro _ b1 ⟨y1,rfl,h1⟩;refine flds_cons (by kernel_rfl) r_int ?_;rintro _ b2 ⟨y2,rfl,h2⟩;exact flds_nil ⟨⟨y0,y1,y2⟩,by rfl,by exact Nat.zero_le _⟩
theorem r_rms:TL enc W N 63 fun l b=>∃y:Rm × Rm,l=rm2 y.1 y.2∧0≤b :=
  tld_two (bulkFn H) underlying63 (show prog.cellsOf 27=3 by kernel_rfl) (by kernel_rfl) r_rm fun _ _ _ _ ⟨y,e,_⟩ ⟨z,e',_⟩=>⟨(y,z),by subst e e';rfl,Nat.zero_le _⟩
end
end Go.Proofs.Tryz

namespace Go.Proofs.Tryz
open Go.Am Go.ChangeShapes Go.WideShapes Go.ChangeAt Go.RowKit
open Go.Proofs.YtkeidlpchmepkaaGreatDoor
set_option maxRecDepth 100000 in
theorem judgeRoom_contract (H:Type) (enc:TypeId × Value→H) (W:World) (base:Nat) (args:Array Value) (ds gs:List (DataW H)) (before:List MemPlace)
    (hval:∀(j:Nat) t v,f6.params[j]?=some t→args[j]?=some v→Value.okWide prog W .any base t v)
    (hW:DataW.Whole enc prog f6.params.toList Rows.judgeRoomSpec.vars false W args.toList ds gs before) (hk:Rows.uptoSmall H (ds++gs)=true) (hL:laidMetH prog Rows.judgeRoomRow.laid W) :
    Calls prog 6 args W fun e W' => ∃v,e = .returned v∧Rows.judgeRoomSpec.post enc prog f6 false true false false W args v W' := by
  have hW' := hW;obtain⟨p,q,hA0,hV,rfl,hfz,hnd⟩:=hW;have hA:DataW.TrodAll enc prog W 0 (fun _=>true) true f6.params.toList args.toList ds p:=hA0;rw[params6] at hA hval;obtain⟨v0,vs0,d0,ds0,p0,q0,hargs,rfl,rfl,⟨n0,h0⟩,r0⟩:=trodAll_cons hA;obtain⟨v1,vs1,d1,ds1,p1,q1,rfl,rfl,rfl,⟨n1,h1⟩,r1⟩:=trodAll_cons r0;obtain⟨v2,vs2,d2,ds2,p2,q2,rfl,rfl,rfl,⟨n2,h2⟩,r2⟩:=trodAll_cons r1;obtain⟨rfl,rfl,rfl⟩:=trodAll_nil r2;obtain rfl:args=#[v0,v1,v2]:=by cases args;simp_all
  obtain⟨rfl,rfl⟩:=trodVars_none hV;have hG:=globs_at hL;obtain⟨_,a0,_,y0,rfl,b0⟩:=r_scp n0 (Nat.lt_succ_self _) _ _ h0;obtain⟨_,a1,_,y1,rfl,b1⟩:=r_rms n1 (Nat.lt_succ_self _) _ _ h1;obtain⟨_,a2,_,y2,rfl,b2⟩:=r_str n2 (Nat.lt_succ_self _) _ _ h2;have hb:Rows.uptoBulkAll [d0,d1,d2]≤1048576:=by
    have h:=of_decide_eq_true hk;rw[List.append_nil] at h;exact h
  simp only[Rows.uptoBulkAll] at hb;simp only[List.append_nil] at hW';have s0:=val_struct underlying25 (hval 0 25 v0 rfl rfl) a0;have s1:=val_array underlying63 (hval 1 63 v1 rfl rfl) a1;have s2:=val_string underlying9 (hval 2 9 v2 rfl rfl) a2;refine law_callsM (room_calls y0 y1.1 y1.2 y2 rfl rfl) hG ?_ laid rowed fulls rfl underlying4 (by rw[params6];decide +kernel) rfl ⟨rfl,rfl,rfl⟩ hW';simp only[RL,and_true];exact⟨s0,s1,s2⟩
set_option maxRecDepth 100000 in
theorem judgeRoom_laid_met (os:Os):laidMet prog Rows.judgeRoomRow.laid ((laidWorld os).forCall (fun _ _=>0) ⟨#[],#[.agg #[.slice none 0 0,.slice none 0 0],.agg #[.int .i64 0,.int .i64 0,.int .i64 0,.int .i64 0,.int .i64 0,.int .i64 0],.string ⟨#[]⟩],[]⟩).memory :=
  laidMet_of_run' 8 (by kernel_rfl) (by kernel_rfl)
theorem judgeRoom_reads (os:Os) {H:Type} (enc:TypeId × Value→H):∃places,DataW.whole enc prog ((laidWorld os).forCall (fun _ _=>0) ⟨#[],#[.agg #[.slice none 0 0,.slice none 0 0],.agg #[.int .i64 0,.int .i64 0,.int .i64 0,.int .i64 0,.int .i64 0,.int .i64 0],.string ⟨#[]⟩],[]⟩).memory f6.params.toList Rows.judgeRoomSpec.vars false (#[.agg #[.slice none 0 0,.slice none 0 0],.agg #[.int .i64 0,.int .i64 0,.int .i64 0,.int .i64 0,.int .i64 0,.int .i64 0],.string ⟨#[]⟩]:Array Value).toList 8=some ([.agg [.nil,.nil],.agg [.agg [.lit (.int .i64 0),.lit (.int .i64 0),.lit (.int .i64 0)],.agg [.lit (.int .i64 0),.lit (.int .i64 0),.lit (.int .i64 0)]],.lit (.string [])],[],places) :=
  ⟨[],by kernel_rfl⟩
set_option maxRecDepth 100000 in
theorem judgeRoom_lifted (os:Os) (started:os.Started) (H:Type) (enc:TypeId × Value→H) (F:Stop.Interp) :
    ReturnsInHanded {} checked os 6 .any ((Rows.OpenSpec.upto Rows.judgeRoomSpec).preRow enc prog f6 Rows.judgeRoomUptoRow.domain false Rows.judgeRoomUptoRow.laid) (((Rows.OpenSpec.upto Rows.judgeRoomSpec).at F).post enc prog f6 false true false false):=by
  obtain⟨places,hx⟩:=judgeRoom_reads os enc;refine returnsInHanded_of_row (C:=checked) (s:=Rows.OpenSpec.upto Rows.judgeRoomSpec) own started (by kernel_rfl) func6
    (witness_row_at (enc:=enc) (C:=checked) false (laidWorld os) #[.agg #[.slice none 0 0,.slice none 0 0],.agg #[.int .i64 0,.int .i64 0,.int .i64 0,.int .i64 0,.int .i64 0,.int .i64 0],.string ⟨#[]⟩] rfl (by kernel_rfl) (by kernel_rfl) (by kernel_rfl)
      (OpenSpec.preRow_of_cond 8 hx (by kernel_rfl) (fun k hk=>by cases hk;kernel_rfl) (by kernel_rfl) (judgeRoom_laid_met os))) ?_
  intro W base args ds gs before hval hW _ hcond _ hL _ _;exact judgeRoom_contract H enc W base args ds gs before hval hW (hcond _ rfl) hL
theorem judgeRoom_proved:Rows.JudgeRoomUptoSaid :=
  OpenClaim.holds_of_cond 6 f6 rfl rfl rfl rfl rfl rfl rfl ⟨rfl,rfl,rfl,rfl,rfl⟩ rfl rfl rfl rfl rfl (by kernel_rfl) func6 (by kernel_rfl)
    (of_decide_eq_true (by kernel_rfl)) (by unfold Func.isWrapper;first | (rw[if_pos (by decide +kernel)];kernel_rfl) | (rw[if_neg (by decide +kernel)];exact⟨rfl,rfl⟩))
    (fun os started H enc _ F=>by rw[OpenClaim.pre_eq_preRow];exact judgeRoom_lifted os started H enc F)
theorem judgeRoom_plain (f:FuncId) (fn:Func) (hf:YtkeidlpchmepkaaGreatDoor.Tryz.pinned.checked.prog.funcNamed "clearance/clearancelaw16.JudgeRoom" = some f) (hfn:YtkeidlpchmepkaaGreatDoor.Tryz.pinned.checked.prog.funcs[f]?=some fn) :
    false=YtkeidlpchmepkaaGreatDoor.Tryz.pinned.checked.prog.looks []∧∀(j:Nat) t,fn.params[j]?=some t→YtkeidlpchmepkaaGreatDoor.Tryz.pinned.checked.prog.wantsStandIn t=false:=by
  obtain rfl:f=6:=Option.some.inj ((show prog.funcNamed "clearance/clearancelaw16.JudgeRoom" = some 6 by kernel_rfl).symm.trans hf) |>.symm;obtain rfl:fn=f6:=(Option.some.inj (func6.symm.trans hfn)).symm;refine⟨by kernel_rfl,fun j t ht=>?_⟩;rw[params6] at ht;have h:t=25∨t=63∨t=9:=by simpa using Array.mem_of_getElem? ht
  rcases h with rfl | rfl | rfl
  · exact(show prog.wantsStandIn 25=false by kernel_rfl)
  · exact(show prog.wantsStandIn 63=false by kernel_rfl)
  · exact(show prog.wantsStandIn 9=false by kernel_rfl)
theorem judgeRoom_card:Rows.JudgeRoomUptoCardSaid :=
  Claim7.holds_tied_plain_at .later [] _ _ _ _ judgeRoom_proved (fun _ h=>by cases h) (by kernel_rfl) (fun _ h=>by cases h) judgeRoomUpto_row_tie rfl ⟨rfl,rfl⟩ (by kernel_rfl) rfl judgeRoom_plain (by kernel_rfl)
end Go.Proofs.Tryz

namespace Go.Proofs.YtkeidlpchmepkaaGreatDoor
/-- For every scope, two rooms and a line: more room never makes a line wrong that was right; less room makes it wrong by its limits alone (JudgeRoom), where what comes in is of bulk at most 1048576. -/
theorem judgeRoom_card_holds : Rows.JudgeRoomUptoCardSaid := Go.Proofs.Tryz.judgeRoom_card
end Go.Proofs.YtkeidlpchmepkaaGreatDoor
