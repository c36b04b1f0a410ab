/-
  Part 7 of the proof of JudgeShiftsUptoCardSaid: a logic over the model, the forms of the functions that the law reaches, and what they compute.
-/
import Derived.Test.YtkeidlpchmepkaaGreatDoorProg
import Derived.ProofKit
import Derived.OpenShut
import Derived.JoinedCond
import Derived.ChangeStays
import Derived.ReadAgain
import Derived.Deep.DeepHandedRow
import Derived.Lib.LaidTab
import Derived.Stop.LaidErr
import Derived.Test.YtkeidlpchmepkaaGreatDoorCards
import Derived.Test.YtkeidlpchmepkaaGreatDoorTie
import Derived.Test.YtkeidlpchmepkaaGreatDoorShifts6
set_option linter.unusedVariables false
set_option linter.unusedSimpArgs false
set_option linter.defProp false
set_option linter.unusedSectionVars false
namespace Go.Proofs.Tryz
open Go.Am
set_option maxRecDepth 4000
set_option maxHeartbeats 4000000
def Lw:AC:=.seq (.aa [⟨(some 2),.mv (.c (.sl .full 1 [])),none⟩])
 (.seq (.aa [⟨(some 3),.mv (.c (.sl .full 1 [])),none⟩])
 (.seq (.seq (.aa [U 6 0,xL 7 6,xi 8 0])
 (.block 0 (.loop (.seq (.aa [xb .lss 9 8 7])
 (.seq (.cond (.s 9) (.skip)
 (.exit 0))
 (.seq (.block 1 (.seq (.aa [xA 2 10 6 8,xl 2 11 10,⟨(some 5),.alloc [(.str []),(.int .i64 0)],none⟩,xs 2 5 11])
 (.aa [U 12 3,xf 0 13 5,xo 14 13,⟨(some 15),.cB 1 [(.s 14)],none⟩,xa 1 16 12 15,U 3 16])))
 (.aa [xB .add 17 8 1,U 8 17])))))))
 (.seq (.aa [U 18 3,U 2 18])
 (.ret))))
theorem abX:aJ prog 111 Lw [.tmp 2] 19:=⟨f111,⟨[],[],[]⟩,func111,by kernel_rfl,by kernel_rfl,by kernel_rfl,by kernel_rfl⟩
def LA:AC:=.seq (.aa [⟨(some 1),.box 17 (.s 0),none⟩,⟨(some 2),.alloc mW,none⟩])
 (.seq (.aa [xf 4 7 1,xo 8 7,xc 111 9 [.s 8],U 3 9])
 (.seq (.aa [⟨(some 4),.mv (.c (.sl .full 2 [])),none⟩])
 (.seq (.seq (.aa [xf 5 10 1,xo 11 10,xL 12 11,xi 13 0])
 (.block 0 (.loop (.seq (.aa [xb .lss 14 13 12])
 (.seq (.cond (.s 14) (.skip)
 (.exit 0))
 (.seq (.block 1 (.seq (.aa [xA 4 15 11 13,xl 4 16 15,⟨(some 6),.alloc [(.str []),(.int .i64 0),(.str []),(.int .i64 0)],none⟩,xs 4 6 16])
 (.draw [(U 17 4,[]),(U 18 3,[]),(⟨(some 19),.eJ 2 2 (.s 6) (.c (.int .i64 0)),none⟩,[]),(xf 0 20 19,[]),(xo 21 20,[]),(xc 112 22 [.s 18,.s 21],[]),(U 23 3,[]),(⟨(some 24),.eJ 2 2 (.s 6) (.c (.int .i64 1)),none⟩,[]),(xf 0 25 24,[]),(xo 26 25,[0]),(xc 112 27 [.s 23,.s 26],[]),(⟨(some 28),.build [(.int .i64 0),(.int .i64 0)] [(0,1,(.s 22)),(1,1,(.s 27))],none⟩,[]),(⟨(some 29),.cB 2 [(.s 28)],none⟩,[]),(xa 2 30 17 29,[]),(U 4 30,[])])))
 (.aa [xB .add 31 13 1,U 13 31])))))))
 (.seq (.aa [U 32 3,xL 33 32,U 34 4,xc 165 35 [.s 33,.s 34],xc 164 36 [.s 35],xs 65 2 36])
 (.ret)))))
theorem ab1:aJ prog 115 LA [.cell 2 true 65] 37:=⟨f115,⟨[],[],[]⟩,func115,by kernel_rfl,by kernel_rfl,by kernel_rfl,by kernel_rfl⟩
def L6:AC:=.seq (.aa [⟨(some 4),.alloc mW,none⟩])
 (.seq (.aa [U 8 0,xc 222 9 [.s 8],⟨(some 5),.alloc mW,none⟩,xs 65 5 9])
 (.seq (.seq (.aa [U 10 1,xL 11 10,xi 12 0])
 (.block 0 (.loop (.seq (.aa [xb .lss 13 12 11])
 (.seq (.cond (.s 13) (.skip)
 (.exit 0))
 (.seq (.block 1 (.seq (.aa [xA 2 14 10 12,xl 2 15 14,⟨(some 7),.alloc [(.int .i64 0),(.int .i64 0)],none⟩,xs 2 7 15])
 (.seq (.aa [xl 65 16 5,xf 0 17 7,xo 18 17,xc 223 19 [.s 16,.s 18],U 20 19,xg 20 (xl 65 21 5),xg 20 (xf 1 22 7),xg 20 (xo 23 22),xg 20 (xc 223 24 [.s 21,.s 23]),⟨(some 25),.pick (.s 20) (.s 24) (.c (.bool false)),none⟩])
 (.cond (.s 25) (.draw [(xf 0 26 7,[]),(xo 27 26,[1]),(xf 0 28 7,[]),(xo 29 28,[]),(xf 1 30 5,[]),(⟨(some 31),.eJ 64 1 (.s 30) (.s 29),none⟩,[]),(xo 32 31,[]),(xf 1 33 7,[]),(xo 34 33,[]),(xc 220 35 [.s 32,.s 34],[]),(xf 1 36 5,[]),(⟨(some 37),.eJ 64 1 (.s 36) (.s 27),none⟩,[]),(xs 1 37 35,[])])
 (.skip)))))
 (.aa [xB .add 38 12 1,U 12 38])))))))
 (.seq (.aa [xl 65 39 5,xs 65 4 39])
 (.ret))))
theorem acw:aJ prog 165 L6 [.cell 4 true 65] 40:=⟨f165,⟨[],[],[]⟩,func165,by kernel_rfl,by kernel_rfl,by kernel_rfl,by kernel_rfl⟩
def ML:AC:=.seq (.aa [⟨(some 2),.box 65 (.s 0),none⟩,⟨(some 4),.mv (.c (.bool false)),none⟩])
 (.seq (.aa [U 5 1,xB .geq 6 5 0,U 7 6,xg 7 (U 8 1),xg 7 (xl 65 9 2),xg 7 (xc 213 10 [.s 9]),xg 7 (xb .lss 11 8 10),⟨(some 12),.pick (.s 7) (.s 11) (.c (.bool false)),none⟩,U 4 12])
 (.ret))
theorem adg:aJ prog 223 ML [.tmp 4] 13:=⟨f223,⟨[],[],[]⟩,func223,by kernel_rfl,by kernel_rfl,by kernel_rfl,by kernel_rfl⟩
def um (p:Int × Int):List V:=[.int .i64 p.1,.int .i64 p.2]
theorem T5 (r:Rl) (i:Int) (σ:ab):ak prog 223 [.agg r.enc,.int .i64 i] σ fun v σ' => v = .bool (decide (0≤i)&&decide (i<(bf r:Nat)))∧σ' = σ:=by
  refine adg.calls ?_;simp only[aI,ML,am,aP,Nat.reduceAdd,Rl.af]
  by_cases h:0≤i
  · simp only[am,Rl.af,aC h];refine cl (wb r σ) ?_;simp only[am];refine az ?_;simp[V.erase]
  · simp only[am,aA h];refine az ?_;simp[V.erase]
theorem alb {l:List (Int × Int)} {j:Nat} (h:j<l.length):(l.map um)[((j:Nat):Int).toNat]?=some (um l[j]):=by simp[h]
theorem DX {n:Int} {l:List (Int × Int)}:bf (mS n l)≤64:=kt
theorem amx (n:Int) (l:List (Int × Int)) (σ:ab) (hl:l.length≤100000):ak prog 165 [.int .i64 n,.sl .no 2 (l.map um)] σ fun v σ' => v = .agg (mS n l).enc∧σ' = σ:=by
  refine acw.calls ?_;simp only[aI,L6,am,aP,Nat.reduceAdd,Rl.af];refine cl (SM n σ) ?_;simp only[am,aD,Rl.af,aD];obtain⟨F,hF⟩:∃F:Nat→Unit→St,∀i x,F i x=⟨[.any,.any,.any,.any,.ptr (.loc 0) 0,.ptr (.loc 1) 0,.any,.any,.any,.any,.sl .no 2 (l.map um),.int .i64 (l.length:Nat),.int .i64 (i:Nat)]++List.replicate 27 .any,[Rl.zero.enc,(mS n (l.take i)).enc],σ⟩:=⟨_,fun _ _=>rfl⟩;obtain⟨JF,aO⟩:∃JF:Nat→Unit→Prop,∀i x,JF i x=(True):=⟨_,fun _ _=>rfl⟩;refine db (l.length) F JF _ aO ?_ ?_ ?_
  · refine dA (()) ?_ ?_ ?_ ?_
    · exact Eq.mpr (aO _ _) (trivial)
    all_goals simp[hF,List.replicate,am,bj,mS]
  · rintro i x hi -;have hT:=aj4 (n:=n) hi;generalize hr:mS n (l.take i)=r at hT;have hp:=@kt r;obtain⟨p,HB⟩:∃p,l[i]=p:=⟨_,rfl⟩;rw[HB] at hT;simp only[hF,List.replicate,am,c8 hi];refine bx (by omega) (alb hi) ?_;rw[HB,hr];obtain⟨a,b⟩:=p;simp only[am,Nat.reduceAdd,Rl.af,um];refine cl (T5 r a σ) ?_
    by_cases ha:0≤a∧a<(bf r:Nat)
    · simp only[am,Rl.af,aC ha.1,aC ha.2];refine cl (T5 r b σ) ?_
      by_cases hb:0≤b∧b<(bf r:Nat)
      · obtain⟨k,rfl⟩:∃k:Nat,a=k:=⟨a.toNat,by omega⟩;have hk:k<64:=by omega
        have e:mS n (l.take (i+1))=r.put k (im (r.get k) b):=by rw[hT,A7,aw ⟨ha,hb⟩];rfl
        simp only[am,bV,aC hb.1,aC hb.2];refine iH (by omega) (by omega) ?_;simp only[am,iv,og,Rl.sF hk];refine bh.intro (A5 (r.get k) b σ) ?_;simp only[am,bV];refine iH (by omega) (by omega) ?_;simp only[BJ,Rl.yQ hk,Rl.yR hk,ca hi (by omega)];refine eK (()) hi ?_ ?_ ?_ ?_ ?_ ?_
        · exact Eq.mpr (aO _ _) (trivial)
        all_goals simp[hF,List.replicate,am,bj,bn,cK,V.lo,e,Rl.bO]
      · have e:mS n (l.take (i+1))=r:=by rw[hT,A7,ah fun h=>hb h.2]
        have bl : (decide (0≤b)&&decide (b<(bf r:Nat)))=false:=by rw[←sK];exact aA hb
        simp only[am,aM,bl,ca hi (by omega)];refine eK (()) hi ?_ ?_ ?_ ?_ ?_ ?_
        · exact Eq.mpr (aO _ _) (trivial)
        all_goals simp[hF,List.replicate,am,bj,bn,cK,V.lo,e,Rl.bO]
    · have e:mS n (l.take (i+1))=r:=by rw[hT,A7,ah fun h=>ha h.1]
      have ha' : (decide (0≤a)&&decide (a<(bf r:Nat)))=false:=by rw[←sK];exact aA ha
      simp only[am,aM,ha',ca hi (by omega)];refine eK (()) hi ?_ ?_ ?_ ?_ ?_ ?_
      · exact Eq.mpr (aO _ _) (trivial)
      all_goals simp[hF,List.replicate,am,bj,bn,cK,V.lo,e,Rl.bO]
  · rintro x -;simp only[hF,List.replicate,am,aM,c9,aM,Rl.af,dv];exact aF (v:=.agg (mS n l).enc) Rl.cx (ab.aS _) ⟨by simp only[V.erase,Rl.cw],rfl⟩
theorem JY (l:List Word) (σ:ab) (hl:l.length≤100000):ak prog 111 [.sl .no 2 (l.map Word.enc)] σ fun v σ' => v = .sl .no 1 (cU (cW l))∧σ' = σ:=by
  refine abX.calls ?_;simp only[aI,Lw,am,aP,aD];obtain⟨F,hF⟩:∃F:Nat→Nat→St,∀i τ,F i τ=⟨[.any,.any,.any,.sl (.tk τ) 1 (cU (cW (l.take i))),.any,.any,.sl .no 2 (l.map Word.enc),.int .i64 (l.length:Nat),.int .i64 (i:Nat)]++List.replicate 10 .any,[],σ.aK τ i⟩:=⟨_,fun _ _=>rfl⟩;obtain⟨JF,aO⟩:∃JF:Nat→Nat→Prop,∀i τ,JF i τ=(σ.aB τ=none):=⟨_,fun _ _=>rfl⟩;refine db (l.length) F JF _ aO ?_ ?_ ?_
  · refine Gd 0 fun τ ba=>⟨τ,Eq.mpr (aO _ _) ba,?_,?_,?_⟩
    all_goals simp[hF,List.replicate,mQ,cW,cU]
  · rintro i τ hi ba;have hlen:(cU (cW (l.take i))).length=i:=by rw[jO,y5,gO];omega
    have hs:cU (cW (l.take (i+1)))=cU (cW (l.take i))++[[.str l[i].text]]:=by rw[jV hi];simp only[cW,cU,fw,bL,cX]
    simp only[hF,List.replicate,am,c8 hi];refine bx (by omega) (y4 hi) ?_;simp only[am,Word.af,uG];refine jt (by rw[hlen];simp[aE];omega) (by rw[hlen];exact kv) ?_;rw[hlen];simp only[am,aM,ji,ca hi (by omega),jn];refine eK (τ) hi ?_ ?_ ?_ ?_ ?_ ?_
    · exact Eq.mpr (aO _ _) (ba)
    all_goals simp[hF,List.replicate,am,bj,bn,cK,V.lo,hs]
  · rintro τ ba;simp only[hF,List.replicate,am,aM,c9,aM,dv];refine aF rfl (pY ba) ⟨rfl,rfl⟩
def q_ (P:Word × Word→Int × Int) (l:List (Word × Word)):List (List V):=(l.map P).map um
theorem ak9 {P:Word × Word→Int × Int} {l:List (Word × Word)}:(q_ P l).length=l.length:=by simp[q_]
theorem Tt {l:List (Word × Word)} {j:Nat} (h:j<l.length):(l.map dr)[((j:Nat):Int).toNat]?=some (dr l[j]):=by simp[h]
theorem amk (c:aj) (σ:ab) (hn:c.names.length≤100000) (hp:c.aY.length≤100000):ak prog 115 [.agg c.enc] σ fun v σ' => v = .agg (ra c).enc∧σ' = σ:=by
  refine ab1.calls ?_;simp only[aI,LA,am,aP,Rl.af];simp only[am,dx,cC];refine cl (JY c.names σ hn) ?_;simp only[am,aD,aD,cC];have hw:(cW c.names).length≤100000:=by rw[y5];exact hn
  generalize hP:D4 (cW c.names)=P;obtain⟨F,hF⟩:∃F:Nat→Nat→St,∀i τ,F i τ=⟨[.any,.ptr (.loc 0) 0,.ptr (.loc 1) 0,.sl .no 1 (cU (cW c.names)),.sl (.tk τ) 2 (q_ P (c.aY.take i)),.any,.any,.any,.any,.any,.any,.sl .no 4 (c.aY.map dr),.int .i64 (c.aY.length:Nat),.int .i64 (i:Nat)]++List.replicate 23 .any,[c.enc,Rl.zero.enc],σ.aK τ i⟩:=⟨_,fun _ _=>rfl⟩;obtain⟨JF,aO⟩:∃JF:Nat→Nat→Prop,∀i τ,JF i τ=(σ.aB τ=none):=⟨_,fun _ _=>rfl⟩;refine db (c.aY.length) F JF _ aO ?_ ?_ ?_
  · refine Gd 0 fun τ ba=>⟨τ,Eq.mpr (aO _ _) ba,?_,?_,?_⟩
    all_goals simp[hF,List.replicate,mQ,q_]
  · rintro i τ hi ba;have hlen:(q_ P (c.aY.take i)).length=i:=by rw[ak9,gO];omega
    have hs:q_ P (c.aY.take (i+1))=q_ P (c.aY.take i)++[um (P c.aY[i])]:=by rw[jV hi];simp only[q_,fw,bL,cX]
    simp only[hF,List.replicate,am,c8 hi];refine bx (by omega) (Tt hi) ?_;simp only[am,bV,Nat.reduceAdd,dr];refine iH (by omega) (by omega) ?_;simp only[am,Int.reduceToNat,Nat.reduceMul];refine bh.intro (rN (cW c.names) c.aY[i].1.text (σ.aK τ i) hw) ?_;simp only[am,bV];refine iH (by omega) (by omega) ?_;simp only[am,Int.reduceToNat,Nat.reduceMul];refine bh.intro (rN (cW c.names) c.aY[i].2.text (σ.aK τ i) hw) ?_;simp only[am,Nat.reduceAdd];refine zm (by rw[hlen];simp[aE];omega) (by rw[hlen];exact kv) ?_;rw[hlen];have he:[V.int .i64 (cp (fJ (cW c.names) c.aY[i].1.text)),.int .i64 (cp (fJ (cW c.names) c.aY[i].2.text))]=um (P c.aY[i]):=by rw[←hP];rfl
    rw[he];simp only[am,aM,ji,ca hi (by omega),jn];refine eK (τ) hi ?_ ?_ ?_ ?_ ?_ ?_
    · exact Eq.mpr (aO _ _) (ba)
    all_goals simp[hF,List.replicate,am,bj,bn,cK,V.lo,hs,aj.enc,aj.b7,Rl.bO]
  · rintro τ ba;simp only[hF,List.replicate,am,aM,c9,aM,jO,dv];rw[y5];refine cl (ak.dh (as' := [.int .i64 (c.names.length:Nat),.sl .no 2 (q_ P c.aY)]) (show ak prog 165 [.int .i64 (c.names.length:Nat),.sl .no 2 (q_ P c.aY)] _ _ from amx (c.names.length:Nat) (c.aY.map P) _ (by simpa using hp)) ⟨cz.rfl,cz.no,trivial⟩ bC.rfl) ?_;simp only[am,Rl.af];refine cl (O5 _ _) ?_;simp only[am,Rl.af];subst hP;exact aF (v:=.agg (ra c).enc) Rl.cx (pY ba) ⟨by simp only[V.erase,Rl.cw],rfl⟩
def LB:AC:=.seq (.aa [⟨(some 2),.box 2 (.s 0),none⟩,⟨(some 3),.box 17 (.s 1),none⟩,⟨(some 4),.alloc [(.bool false),(.sl .full 67 [])],none⟩])
 (.seq (.aa [⟨(some 5),.mv (.c (.sl .full 2 [])),none⟩])
 (.seq (.seq (.aa [xf 4 10 3,xo 11 10,xL 12 11,xi 13 0])
 (.block 0 (.loop (.seq (.aa [xb .lss 14 13 12])
 (.seq (.cond (.s 14) (.skip)
 (.exit 0))
 (.seq (.block 1 (.seq (.aa [xA 2 15 11 13,xl 2 16 15,⟨(some 7),.alloc [(.str []),(.int .i64 0)],none⟩,xs 2 7 16])
 (.seq (.aa [xl 2 18 2,xf 0 19 7,xo 20 19,xc 63 21 [.s 18,.s 20],U 17 21,xe 22 17 0,xe 23 17 1,U 8 22,U 9 23])
 (.seq (.aa [U 24 8,xB .geq 25 24 0])
 (.cond (.s 25) (.aa [U 26 5,xf 0 27 2,xo 28 27,U 29 8,xA 3 30 28 29,xf 1 31 30,xl 2 32 31,⟨(some 33),.cB 2 [(.s 32)],none⟩,xa 2 34 26 33,U 5 34])
 (.skip))))))
 (.aa [xB .add 35 13 1,U 13 35])))))))
 (.seq (.aa [U 36 5,xc 166 37 [.s 36],xs 2 4 37])
 (.ret))))
theorem ab2:aJ prog 116 LB [.cell 4 true 2] 38:=⟨f116,⟨[],[],[]⟩,func116,by kernel_rfl,by kernel_rfl,by kernel_rfl,by kernel_rfl⟩
def L7:AC:=.seq (.aa [⟨(some 2),.alloc [(.bool false),(.sl .full 67 [])],none⟩])
 (.seq (.aa [⟨(some 8),.build [(.bool false),(.sl .full 67 [])] [(0,1,(.c (.bool true)))],none⟩,⟨(some 3),.alloc [(.bool false),(.sl .full 67 [])],none⟩,xs 2 3 8])
 (.seq (.seq (.aa [U 9 0,xL 10 9,xi 11 0])
 (.block 0 (.loop (.seq (.aa [xb .lss 12 11 10])
 (.seq (.cond (.s 12) (.skip)
 (.exit 0))
 (.seq (.block 1 (.seq (.aa [xA 2 13 9 11,xl 2 14 13,⟨(some 5),.alloc [(.bool false),(.sl .full 67 [])],none⟩,xs 2 5 14])
 (.seq (.aa [xf 1 15 5,xo 16 15,xL 17 16,xi 18 0])
 (.block 2 (.loop (.seq (.aa [xb .lss 19 18 17])
 (.seq (.cond (.s 19) (.skip)
 (.exit 2))
 (.seq (.block 3 (.seq (.aa [xA 67 20 16 18,xl 67 21 20,⟨(some 7),.alloc rK,none⟩,xs 67 7 21])
 (.draw [(xf 1 22 3,[]),(xo 23 22,[1]),(xl 67 24 7,[]),(xc 224 25 [.s 24],[]),(⟨(some 26),.cB 67 [(.s 25)],none⟩,[]),(xa 67 27 23 26,[]),(xf 1 28 3,[]),(xs 1 28 27,[])])))
 (.aa [xB .add 29 18 1,U 18 29])))))))))
 (.aa [xB .add 30 11 1,U 11 30])))))))
 (.seq (.aa [xl 2 31 3,xs 2 2 31])
 (.ret))))
theorem acx:aJ prog 166 L7 [.cell 2 true 2] 32:=⟨f166,⟨[],[],[]⟩,func166,by kernel_rfl,by kernel_rfl,by kernel_rfl,by kernel_rfl⟩
def MN:AC:=.seq (.aa [⟨(some 1),.box 67 (.s 0),none⟩,⟨(some 2),.alloc rK,none⟩])
 (.seq (.aa [⟨(some 3),.cB 1 [],none⟩,xf 1 4 1,xo 5 4,xa 1 6 3 5,xf 1 7 1,xs 1 7 6])
 (.seq (.aa [xl 67 8 1,xs 67 2 8])
 (.ret)))
theorem adh:aJ prog 224 MN [.cell 2 true 67] 9:=⟨f224,⟨[],[],[]⟩,func224,by kernel_rfl,by kernel_rfl,by kernel_rfl,by kernel_rfl⟩
theorem abn {f:aV}:bD 1 (f.enc.drop 1)=true:=rfl
theorem abo {f:aV}:setAt f.enc 1 [.sl .no 1 (cU f.names)]=f.enc:=by rw[aV.enc,iO,ku,mT,kU]
theorem YD (f:aV) (σ:ab) (hf:f.names.length≤100000):ak prog 224 [.agg f.enc] σ fun v σ' => v = .agg f.enc∧σ' = σ:=by
  refine adh.calls ?_;simp only[aI,MN,am,aP,aV.af];refine FH (by simp[jO,aE];omega) ?_;simp only[am,aV.af,abn,iS,abo];exact aF (v:=.agg f.enc) aV.cx (ab.aS _) ⟨by simp only[V.erase,aV.cw],rfl⟩
theorem anA {l:List a_} {j:Nat} (h:j<l.length):(l.map a_.enc)[((j:Nat):Int).toNat]?=some l[j].enc:=by simp[h]
theorem abp {l:List aV} {j:Nat} (h:j<l.length):(l.map aV.enc)[((j:Nat):Int).toNat]?=some l[j].enc:=by simp[h]
def rM (l:List aV):List (List V):=l.map aV.enc
theorem abm {l:List aV}:(rM l).length=l.length:=by simp[rM]
theorem abl {l:List aV} {f:aV}:rM (l++[f])=rM l++[f.enc]:=by simp[rM]
theorem ala (l:List a_) (σ:ab) (hl:l.length≤100000) (hs:∀s∈l,s.a8.length≤100000∧∀f∈s.a8,f.names.length≤100000) (hb:(l.flatMap a_.a8).length≤100000000) :
    ak prog 166 [.sl .no 2 (l.map a_.enc)] σ fun v σ' => v = .agg (D_ l).enc∧σ' = σ:=by
  have hT:∀{i:Nat} (hi:i<l.length),(l.take (i+1)).flatMap a_.a8=(l.take i).flatMap a_.a8++l[i].a8:=fun {i} hi=>by rw[jV hi,uP];simp
  have hL:∀{i:Nat} (hi:i<l.length),((l.take i).flatMap a_.a8).length+l[i].a8.length≤100000000:=fun {i} hi=>by
    have h1:(l.take (i+1)++l.drop (i+1)).flatMap a_.a8=l.flatMap a_.a8:=by rw[my]
    rw[←h1,uP,hT hi] at hb;simp only[bz] at hb;omega
  refine acx.calls ?_;simp only[aI,L7,am,aP,Nat.reduceAdd,aD];obtain⟨Q,hQ⟩:∃Q:Nat→List aV,∀i,Q i=(l.take i).flatMap a_.a8:=⟨_,fun _=>rfl⟩;have zZ:Q 0=[]:=by rw[hQ];rfl
  have GQ:Q l.length=(D_ l).a8:=by rw[hQ,dv];rfl
  obtain⟨F,hF⟩:∃F:Nat→Nat→St,∀i τ,F i τ=⟨[.any,.any,.ptr (.loc 0) 0,.ptr (.loc 1) 0,.any,.any,.any,.any,.any,.sl .no 2 (l.map a_.enc),.int .i64 (l.length:Nat),.int .i64 (i:Nat)]++List.replicate 20 .any,[[.bool false,.sl .full 67 []],[.bool true,.sl (.tk τ) 67 (rM (Q i))]],σ.aK τ (Q i).length⟩:=⟨_,fun _ _=>rfl⟩;obtain⟨JF,aO⟩:∃JF:Nat→Nat→Prop,∀i τ,JF i τ=(σ.aB τ=none):=⟨_,fun _ _=>rfl⟩;refine db (l.length) F JF _ aO ?_ ?_ ?_
  · refine PL 0 fun τ ba=>⟨τ,Eq.mpr (aO _ _) ba,?_,?_,?_⟩
    all_goals simp[hF,List.replicate,mQ,Sp,zZ,rM]
  · rintro i τ hi ba;have hsi:=hs _ (eZ hi);have QL:=hL hi;rw[←hQ] at QL;have vo:Q (i+1)=Q i++l[i].a8:=by rw[hQ,hQ,hT hi]
    simp only[hF,List.replicate,am,c8 hi];refine bx (by omega) (anA hi) ?_;simp only[am,Nat.reduceAdd,aD,a_.af,aD];generalize Q i=q at QL vo;obtain⟨W,hW⟩:∃W:Nat→List aV,∀j,W j=q++l[i].a8.take j:=⟨_,fun _=>rfl⟩;have hW0:q=W 0:=by rw[hW];simp
    have hWn:W l[i].a8.length=Q (i+1):=by rw[hW,dv,vo]
    rw[hW0];obtain⟨F2,dG⟩:∃F2:Nat→Unit→St,∀j x,F2 j x=⟨[.any,.any,.ptr (.loc 0) 0,.ptr (.loc 1) 0,.any,.any,.any,.any,.any,.sl .no 2 (l.map a_.enc),.int .i64 (l.length:Nat),.int .i64 (i:Nat),.any,.any,.any,.any,.sl .no 67 (l[i].a8.map aV.enc),.int .i64 (l[i].a8.length:Nat),.int .i64 (j:Nat)]++List.replicate 13 .any,[[.bool false,.sl .full 67 []],[.bool true,.sl (.tk τ) 67 (rM (W j))],l[i].enc],σ.aK τ (W j).length⟩:=⟨_,fun _ _=>rfl⟩;obtain⟨ga,fT⟩:∃ga:Nat→Unit→Prop,∀j x,ga j x=(True):=⟨_,fun _ _=>rfl⟩;refine db (l[i].a8.length) F2 ga _ fT ?_ ?_ ?_
    · refine dA (()) ?_ ?_ ?_ ?_
      · exact Eq.mpr (fT _ _) (trivial)
      all_goals simp[dG,List.replicate,am,bj]
    · rintro j x hj -;have QS:W (j+1)=W j++[l[i].a8[j]]:=by rw[hW,hW,jV hj,eh]
      have hWl:(W j).length+1≤100000000:=by rw[hW];simp only[bz,gO];omega
      have hlen:(rM (W j)).length=(W j).length:=abm;have afo:(W (j+1)).length=(W j).length+1:=by rw[QS];simp
      simp only[dG,List.replicate,am,c8 hj];refine bx (by omega) (abp hj) ?_;simp only[am,Nat.reduceAdd,aV.af];refine bh.intro (YD l[i].a8[j] (σ.aK τ (W j).length) (hsi.2 _ (eZ hj))) ?_;simp only[am,aV.af];refine zm (by rw[hlen];simp[aE];omega) (by rw[hlen];exact kv) ?_;rw[hlen];simp only[am,aM,ji,ca hj (by omega),jn];rw[←abl,←QS,←afo];refine eK (()) hj ?_ ?_ ?_ ?_ ?_ ?_
      · exact Eq.mpr (fT _ _) (trivial)
      all_goals simp[dG,List.replicate,am,bj,bn,cK,V.lo,a_.bO]
    · rintro x -;simp only[dG,List.replicate,am,aM,c9,Nat.reduceAdd,Nat.reduceEqDiff,aM,reduceCtorEq,ca hi (by omega),hWn];refine eK (τ) hi ?_ ?_ ?_ ?_ ?_ ?_
      · exact Eq.mpr (aO _ _) (ba)
      all_goals simp[hF,List.replicate,am,bj,bn,cK,V.lo]
  · rintro τ ba;simp only[hF,List.replicate,am,aM,c9,Nat.reduceAdd,aM,GQ];refine aF rfl (pY ba) ⟨rfl,rfl⟩
theorem ahk {s:ar} {w:Word}:(nT s w).length≤1:=by
  unfold nT;split
  · split<;>simp
  · simp
def ux (l:List a_):List (List V):=l.map a_.enc
theorem anu {l:List a_} {s:a_}:ux (l++[s])=ux l++[s.enc]:=by simp[ux]
theorem P7 {f:Word→List a_} (h:∀w,(f w).length≤1):∀{l:List Word},(l.flatMap f).length≤l.length
  | []=>by simp
  | w::ws=>by have:=P7 h (l:=ws);have:=h w;simp only[qd,bz,cF];omega
theorem PX {N:Nat}:∀{l:List a_},(∀s∈l,s.a8.length≤N)→(l.flatMap a_.a8).length≤l.length*N
  | [],_=>by simp
  | s :: ss, h => by
    have h1:=PX (N:=N) (l:=ss) fun x hx=>h x (by simp[hx])
    have h2:=h s (by simp);simp only[qd,bz,cF,B4];omega
theorem ahl {s:ar} {w:Word} {x:a_} (h:x∈nT s w):∃l∈s.bc,x=l.shape:=by
  unfold nT at h;split at h
  · split at h
    · rename_i y hy;exact⟨y,wP hy,by simpa using h⟩
    · simp at h
  · simp at h
theorem ahn {s:ar} {w:Word} {k:Nat} (h:gR s.bc w.text=some k) (hk:k<s.bc.length):nT s w=[s.bc[k].shape]:=by
  simp only[nT,h,cc hk]
theorem ahm {s:ar} {w:Word} (h:gR s.bc w.text=none):nT s w=[]:=by simp only[nT,h]
theorem ak' (s:ar) (c:aj) (σ:ab) (hs:s.yC) (hn:c.names.length≤100000):ak prog 116 [.agg s.enc,.agg c.enc] σ fun v σ' => v = .agg (pQ s c).enc∧σ' = σ:=by
  refine ab2.calls ?_;simp only[aI,LB,am,aP,Nat.reduceAdd,ar.af];simp only[am,aD,aD,dx,cC];obtain⟨Q,hQ⟩:∃Q:Nat→List a_,∀i,Q i=(c.names.take i).flatMap (nT s):=⟨_,fun _=>rfl⟩;have zZ:Q 0=[]:=by rw[hQ];rfl
  have z_:∀i,(Q i).length≤100000:=fun i=>by
    rw[hQ]
    have:=P7 (f:=nT s) (fun _=>ahk) (l:=c.names.take i)
    rw[gO] at this;omega
  obtain⟨F,hF⟩:∃F:Nat→Nat→St,∀i τ,F i τ=⟨[.any,.any,.ptr (.loc 0) 0,.ptr (.loc 1) 0,.ptr (.loc 2) 0,.sl (.tk τ) 2 (ux (Q i)),.any,.any,.any,.any,.any,.sl .no 2 (c.names.map Word.enc),.int .i64 (c.names.length:Nat),.int .i64 (i:Nat)]++List.replicate 24 .any,[s.enc,c.enc,[.bool false,.sl .full 67 []]],σ.aK τ (Q i).length⟩:=⟨_,fun _ _=>rfl⟩;obtain⟨JF,aO⟩:∃JF:Nat→Nat→Prop,∀i τ,JF i τ=(σ.aB τ=none):=⟨_,fun _ _=>rfl⟩;refine db (c.names.length) F JF _ aO ?_ ?_ ?_
  · refine Gd 0 fun τ ba=>⟨τ,Eq.mpr (aO _ _) ba,?_,?_,?_⟩
    all_goals simp[hF,List.replicate,mQ,zZ,ux]
  · rintro i τ hi ba;have vo:Q (i+1)=Q i++nT s c.names[i]:=by rw[hQ,hQ,jV hi,uP];simp
    have hlq:=z_ i;simp only[hF,List.replicate,am,c8 hi];refine bx (by omega) (y4 hi) ?_;simp only[am,Nat.reduceAdd,ar.af,Word.af,uG];refine cl (sq s c.names[i].text _ hs.1.1 hs.1.2.1) ?_;cases hf:gR s.bc c.names[i].text with
    | none =>
      have e:Q (i+1)=Q i:=by rw[vo,ahm hf,dD]
      simp only[am,eT,aM,Int.reduceNeg,Int.reduceLE,cp,ca hi (by omega)];refine eK (τ) hi ?_ ?_ ?_ ?_ ?_ ?_
      · exact Eq.mpr (aO _ _) (ba)
      all_goals simp[hF,List.replicate,am,bj,bn,cK,V.lo,e,ar.bO,aj.enc,aj.b7]
    | some k =>
      have hk:=(CM hf).1;have e:Q (i+1)=Q i++[s.bc[k].shape]:=by rw[vo,ahn hf hk]
      have hlen:(ux (Q i)).length=(Q i).length:=by simp[ux]
      have e2:(Q (i+1)).length=(Q i).length+1:=by rw[e];simp
      simp only[am,Int.reduceNeg,ar.af,cp,aC (show (0:Int)≤((k:Nat):Int) by omega)];refine bx (by omega) (yw hk) ?_;simp only[am,Int.reduceNeg,ar.af,a_.af];refine jt (by rw[hlen];simp[aE];omega) (by rw[hlen];exact kv) ?_;rw[hlen];simp only[am,aM,Int.reduceNeg,ji,ca hi (by omega),jn];rw[←anu,←e,←e2];refine eK (τ) hi ?_ ?_ ?_ ?_ ?_ ?_
      · exact Eq.mpr (aO _ _) (ba)
      all_goals simp[hF,List.replicate,am,bj,bn,cK,V.lo,ar.bO,aj.enc,aj.b7]
  · rintro τ ba;have hq:=z_ c.names.length;have e:Q c.names.length=c.names.flatMap (nT s):=by rw[hQ,dv]
    have hm:∀x∈Q c.names.length,∃l∈s.bc,x=l.shape:=fun x hx=>by
      rw[e] at hx;obtain⟨w,_,hx⟩:=List.mem_flatMap.1 hx;exact ahl hx
    have tL:=PX (N:=100) (l:=Q c.names.length) fun x hx=>by obtain⟨l,hl,rfl⟩:=hm x hx;exact hs.2 l hl
    have HC:pQ s c=D_ (Q c.names.length):=by rw[pQ,e]
    simp only[hF,List.replicate,am,aM,c9,aM];refine cl (ak.dh (as' := [.sl .no 2 (ux (Q c.names.length))]) (ala (Q c.names.length) _ (by omega) (fun x hx=>by obtain⟨l,hl,rfl⟩:=hm x hx;exact hs.1.2.2 l hl) (by omega)) ⟨cz.no,trivial⟩ bC.rfl) ?_;simp only[am,a_.af];refine aF rfl (pY ba) ⟨by rw[HC];rfl,rfl⟩
def NN:AC:=.seq (.aa [⟨(some 2),.mv (.c (.bool false)),none⟩])
 (.seq (.aa [U 3 0,xB .geq 4 3 1,U 5 4,xg 5 (U 6 0),xg 5 (xB .leq 7 6 5),⟨(some 8),.pick (.s 5) (.s 7) (.c (.bool false)),none⟩,U 2 8])
 (.ret))
theorem aeb:aJ prog 50 NN [.tmp 2] 9:=⟨f50,⟨[],[],[]⟩,func50,by kernel_rfl,by kernel_rfl,by kernel_rfl,by kernel_rfl⟩
def NP:AC:=.seq (.aa [⟨(some 2),.mv (.c (.bool false)),none⟩])
 (.seq (.aa [U 3 0,xB .eql 4 3 6,U 5 4,xh 5 (U 6 0),xh 5 (xB .eql 7 6 7),⟨(some 8),.pick (.s 5) (.c (.bool true)) (.s 7),none⟩,U 2 8])
 (.ret))
theorem aec:aJ prog 51 NP [.tmp 2] 9:=⟨f51,⟨[],[],[]⟩,func51,by kernel_rfl,by kernel_rfl,by kernel_rfl,by kernel_rfl⟩
def NQ:AC:=.seq (.aa [U 6 0,U 7 0,xk 8 7,xf 2 9 8,xf 2 10 9,xf 0 11 10,xo 12 11,xc 109 13 [.s 6,.s 12],U 5 13,xe 14 5 0,xe 15 5 1,U 2 14,U 3 15])
 (.seq (.aa [U 16 0,xk 17 16,xf 2 18 17,xf 2 19 18,xf 1 20 19,xo 21 20,U 4 21])
 (.seq (.seq (.aa [U 22 0,xk 23 22,xf 2 24 23,xf 0 25 24,xo 26 25,xc 50 27 [.s 26]])
 (.cond (.s 27) (.seq (.aa [U 28 0,U 29 3,U 30 4,xc 110 31 [.s 28,.s 29,.c (.int .i64 3),.s 30]])
 (.ret))
 (.skip)))
 (.seq (.aa [U 32 0,U 33 3,⟨(some 34),.not (.s 33),none⟩,U 35 4,xc 110 36 [.s 32,.s 34,.c (.int .i64 3),.s 35]])
 (.aa [U 37 0,U 38 3,U 39 38,xg 39 (U 40 2),⟨(some 41),.not (.s 40),(some (39,true))⟩,⟨(some 42),.pick (.s 39) (.s 41) (.c (.bool false)),none⟩,U 43 4,xc 110 44 [.s 37,.s 42,.c (.int .i64 4),.s 43]]))))
theorem aed:aJ prog 52 NQ [] 45:=⟨f52,⟨[],[],[]⟩,func52,by kernel_rfl,by kernel_rfl,by kernel_rfl,by kernel_rfl⟩
def NR:AC:=.seq (.aa [U 8 0,xk 9 8,xf 2 10 9,xf 4 11 10,xo 12 11,xc 111 13 [.s 12],U 2 13])
 (.seq (.aa [U 14 0,xk 15 14,xf 2 16 15,xf 4 17 16,xo 18 17,xL 19 18,xi 20 0])
 (.block 0 (.loop (.seq (.aa [xb .lss 21 20 19])
 (.seq (.cond (.s 21) (.skip)
 (.exit 0))
 (.seq (.block 1 (.seq (.aa [U 22 20,xA 2 23 18 20,xl 2 24 23,⟨(some 4),.alloc [(.str []),(.int .i64 0)],none⟩,U 3 22,xs 2 4 24])
 (.seq (.aa [U 26 0,xf 0 27 4,xo 28 27,xc 109 29 [.s 26,.s 28],U 25 29,xe 30 25 0,xe 31 25 1,U 5 30,U 6 31])
 (.seq (.seq (.aa [U 32 0,xk 33 32,xf 2 34 33,xf 0 35 34,xo 36 35,xB .eql 37 36 3])
 (.cond (.s 37) (.seq (.aa [U 38 0,U 39 6,⟨(some 40),.not (.s 39),none⟩,xf 1 41 4,xo 42 41,xc 110 43 [.s 38,.s 40,.c (.int .i64 3),.s 42]])
 (.seq (.aa [U 44 0,U 45 6,U 46 45,xg 46 (U 47 5),⟨(some 48),.not (.s 47),(some (46,true))⟩,⟨(some 49),.pick (.s 46) (.s 48) (.c (.bool false)),none⟩,xf 1 50 4,xo 51 50,xc 110 52 [.s 44,.s 49,.c (.int .i64 4),.s 51]])
 (.exit 1)))
 (.skip)))
 (.seq (.draw [(U 53 2,[]),(U 54 3,[]),(⟨(some 55),.j_ 1 (.s 53) none (some (.s 54)) none,none⟩,[]),(xf 0 56 4,[]),(xo 57 56,[]),(xc 112 58 [.s 55,.s 57],[]),(xB .geq 59 58 0,[]),(U 7 59,[])])
 (.draw [(U 60 0,[]),(U 61 7,[]),(U 62 61,[]),(xh 62 (U 63 0),[]),(xh 62 (xk 64 63),[]),(xh 62 (xf 2 65 64),[]),(xh 62 (xf 0 66 65),[]),(xh 62 (xo 67 66),[]),(xh 62 (xc 51 68 [.s 67]),[]),(xh 62 (U 69 68),[]),(xg 69 (U 70 6),[]),(⟨(some 71),.pick (.s 69) (.s 70) (.c (.bool false)),(some (62,false))⟩,[]),(⟨(some 72),.pick (.s 62) (.c (.bool true)) (.s 71),none⟩,[]),(xf 1 73 4,[]),(xo 74 73,[0]),(xc 110 75 [.s 60,.s 72,.c (.int .i64 3),.s 74],[])]))))))
 (.aa [xB .add 76 20 1,U 20 76])))))))
theorem aee:aJ prog 53 NR [] 77:=⟨f53,⟨[],[],[]⟩,func53,by kernel_rfl,by kernel_rfl,by kernel_rfl,by kernel_rfl⟩
def Lu:AC:=.seq (.aa [⟨(some 4),.mv (.c (.bool false)),none⟩,⟨(some 5),.mv (.c (.bool false)),none⟩])
 (.seq (.aa [U 9 0,xk 10 9,xf 0 11 10,xl 2 12 11,U 13 1,xc 63 14 [.s 12,.s 13],U 8 14,xe 15 8 0,xe 16 8 1,U 6 15,U 7 16])
 (.seq (.aa [U 17 6,xB .geq 18 17 0,U 19 6,xB .geq 20 19 0,U 21 20,xh 21 (U 22 7),xh 21 (xB .geq 23 22 0),⟨(some 24),.pick (.s 21) (.c (.bool true)) (.s 23),none⟩,U 4 18,U 5 24])
 (.ret)))
theorem abV:aJ prog 109 Lu [.tmp 4,.tmp 5] 25:=⟨f109,⟨[],[],[]⟩,func109,by kernel_rfl,by kernel_rfl,by kernel_rfl,by kernel_rfl⟩
def Lv:AC:=.seq (.aa [U 8 1])
 (.cond (.s 8) (.aa [U 9 0,U 10 0,xk 11 10,xf 19 12 11,xo 13 12,U 14 2,U 15 3,⟨(some 16),.build [(.int .i64 0),(.int .i64 0)] [(0,1,(.s 14)),(1,1,(.s 15))],none⟩,⟨(some 17),.cB 2 [(.s 16)],none⟩,xa 2 18 13 17,xk 19 9,xf 19 20 19,xs 1 20 18])
 (.skip))
theorem abW:aJ prog 110 Lv [] 21:=⟨f110,⟨[],[],[]⟩,func110,by kernel_rfl,by kernel_rfl,by kernel_rfl,by kernel_rfl⟩
theorem mO (σ:ab) (b τ:Nat) (l:List au) (s:ar) (c:aj) (x y:Int) (is:Bool) (hl:l.length≤100000000) :
    ak prog 110 [.ptr (.out b) 0,.bool is,.int .i64 x,.int .i64 y] (cV σ b τ l s c) fun v σ' => v = .aT []∧σ' = cV σ b τ (l++c_ is x y) s c:=by
  refine abW.calls ?_;simp only[aI,Lv,am,aP,Nat.reduceAdd];cases is with
  | false =>
    simp only[am];exact aF rfl (ab.aS _) ⟨rfl,by simp[c_]⟩
  | true =>
    simp only[am,Nat.reduceAdd,gn];refine jt (by simp[aE];omega) (by rw[aD];exact RY) ?_;simp only[am,aD,aD,gn,jn,agT];exact aF rfl (ab.aS _) ⟨rfl,by simp[c_]⟩
theorem I1 {o:Option Nat}:decide (0≤cp o)=o.isSome:=by cases o<;>simp[cp]
theorem akj {o:Option Nat}:decide (cp o<0)=o.isNone:=by cases o with
  | none=>rfl
  | some k=>exact aA (by simp only[cp];omega)
theorem RR (σ:ab) (b τ:Nat) (l:List au) (s:ar) (c:aj) (t:List UInt8) (hs:s.ok) :
    ak prog 109 [.ptr (.out b) 0,.str t] (cV σ b τ l s c) fun v σ' => v = .aT [.bool (oS s t),.bool (fA s t)]∧σ' = cV σ b τ l s c:=by
  refine abV.calls ?_;simp only[aI,Lu,am,aP,Nat.reduceAdd,ar.af,gn];refine cl (sq s t _ hs.1 hs.2.1) ?_;simp only[am,I1];cases hL:(gR s.bc t).isSome with
  | true =>
    simp only[am];refine az ?_;simp[V.erase,aX,oS,fA,hL]
  | false =>
    simp only[am,I1];refine az ?_;simp[V.erase,aX,oS,fA,hL]
theorem R4 (op:Int) (σ:ab):ak prog 50 [.int .i64 op] σ fun v σ' => v = .bool (mP op)∧σ' = σ:=by
  refine aeb.calls ?_;simp only[aI,NN,am,aP]
  by_cases h:1≤op
  · simp only[am,aC h];refine az ?_;simp[V.erase,mP,h]
  · simp only[am,aA h];refine az ?_;simp[V.erase,mP,h]
theorem Kc (op:Int) (σ:ab):ak prog 51 [.int .i64 op] σ fun v σ' => v = .bool (o8 op)∧σ' = σ:=by
  refine aec.calls ?_;simp only[aI,NP,am,aP]
  by_cases h:op=6
  · simp only[am,aC h];refine az ?_;simp[V.erase,o8,h]
  · simp only[am,aA h];refine az ?_;simp[V.erase,o8,h]
theorem agI (σ:ab) (b τ:Nat) (l:List au) (s:ar) (c:aj) (hs:s.ok) (hl:l.length≤90000000) :
    ak prog 52 [.ptr (.out b) 0] (cV σ b τ l s c) fun v σ' => v = .aT []∧σ' = cV σ b τ (l++nL s c) s c:=by
  refine aed.calls ?_;simp only[aI,NQ,am,aP,Nat.reduceAdd,gn];refine cl (RR σ b τ l s c c.name.text hs) ?_;simp only[am,Nat.reduceAdd,gn];refine cl (R4 c.op _) ?_;cases h5:mP c.op with
  | true =>
    simp only[am];refine cl (mO σ b τ l s c 3 c.name.pos (fA s c.name.text) (by omega)) ?_;simp only[am];exact aF rfl (ab.aS _) ⟨rfl,by rw[nL,aw h5]⟩
  | false =>
    have e:nL s c=c_ (!fA s c.name.text) 3 c.name.pos++c_ (fA s c.name.text&&!oS s c.name.text) 4 c.name.pos:=by rw[nL,h5];rfl
    have hlen:=@n_ (!fA s c.name.text) 3 c.name.pos;simp only[am];refine cl (mO σ b τ l s c 3 c.name.pos (!fA s c.name.text) (by omega)) ?_;cases hv:fA s c.name.text with
    | true =>
      rw[hv] at hlen e;simp only[am];refine cl (mO σ b τ (l++c_ (!true) 3 c.name.pos) s c 4 c.name.pos (!oS s c.name.text) (by rw[bz];omega)) ?_;simp only[am];exact aF rfl (ab.aS _) ⟨rfl,by rw[e,eh,lJ];rfl⟩
    | false =>
      rw[hv] at hlen e;simp only[am];refine cl (mO σ b τ (l++c_ (!false) 3 c.name.pos) s c 4 c.name.pos false (by rw[bz];omega)) ?_;simp only[am];exact aF rfl (ab.aS _) ⟨rfl,by rw[e,eh,EX];rfl⟩
theorem agK (σ:ab) (b τ:Nat) (l:List au) (s:ar) (c:aj) (hs:s.ok) (hl:l.length≤80000000) (hn:c.names.length≤100000) :
    ak prog 53 [.ptr (.out b) 0] (cV σ b τ l s c) fun v σ' => v = .aT []∧σ' = cV σ b τ (l++jd s c c.names.length) s c:=by
  refine aee.calls ?_;simp only[aI,NR,am,aP,Nat.reduceAdd,gn];refine cl (JY c.names _ (by omega)) ?_;simp only[am,Nat.reduceAdd,aD,aD,gn];have hw:(cW c.names).length=c.names.length:=y5;obtain⟨F,hF⟩:∃F:Nat→Unit→St,∀i x,F i x=⟨[.ptr (.out b) 0,.any,.sl .no 1 (cU (cW c.names)),.any,.any,.any,.any,.any,.any,.any,.any,.any,.any,.any,.any,.any,.any,.any,.sl .no 2 (c.names.map Word.enc),.int .i64 (c.names.length:Nat),.int .i64 (i:Nat)]++List.replicate 56 .any,[],cV σ b τ (l++jd s c i) s c⟩:=⟨_,fun _ _=>rfl⟩;obtain⟨JF,aO⟩:∃JF:Nat→Unit→Prop,∀i x,JF i x=(True):=⟨_,fun _ _=>rfl⟩;refine db (c.names.length) F JF _ aO ?_ ?_ ?_
  · refine dA (()) ?_ ?_ ?_ ?_
    · exact Eq.mpr (aO _ _) (trivial)
    all_goals simp[hF,List.replicate,am,bj,jd]
  · rintro i x hi -;have hN:=@IK s c i;have hS:=@SU s c i;have hg:c.names.getD i ⟨[],0⟩=c.names[i]:=by simp[List.getD,hi]
    simp only[hF,List.replicate,am,c8 hi];refine bx (by omega) (y4 hi) ?_;simp only[am,Word.af,uG];refine cl (RR σ b τ (l++jd s c i) s c c.names[i].text hs) ?_;simp only[am,gn]
    by_cases h3:c.op=3
    · have e:oT s c i=c_ (!fA s c.names[i].text) 3 c.names[i].pos++c_ (fA s c.names[i].text&&!oS s c.names[i].text) 4 c.names[i].pos:=by rw[oT];simp only[hg];rw[aw h3]
      have hlen:=@n_ (!fA s c.names[i].text) 3 c.names[i].pos;simp only[am,o9,aC h3];refine cl (mO σ b τ (l++jd s c i) s c 3 c.names[i].pos (!fA s c.names[i].text) (by rw[bz];omega)) ?_;cases hv:fA s c.names[i].text with
      | true =>
        rw[hv] at hlen e;simp only[am,o9];refine cl (mO σ b τ (l++jd s c i++c_ (!true) 3 c.names[i].pos) s c 4 c.names[i].pos (!oS s c.names[i].text) (by simp only[bz];omega)) ?_;simp only[am,aM,reduceCtorEq,ca hi (by omega)];rw[lJ] at e;refine eK (()) hi ?_ ?_ ?_ ?_ ?_ ?_
        · exact Eq.mpr (aO _ _) (trivial)
        all_goals simp[hF,List.replicate,am,bj,bn,cK,V.lo,hS,e]
      | false =>
        rw[hv] at hlen e;simp only[am,o9];refine cl (mO σ b τ (l++jd s c i++c_ (!false) 3 c.names[i].pos) s c 4 c.names[i].pos false (by simp only[bz];omega)) ?_;simp only[am,aM,reduceCtorEq,ca hi (by omega)];rw[EX] at e;refine eK (()) hi ?_ ?_ ?_ ?_ ?_ ?_
        · exact Eq.mpr (aO _ _) (trivial)
        all_goals simp[hF,List.replicate,am,bj,bn,cK,V.lo,hS,e]
    · have e:oT s c i=c_ ((fJ ((cW c.names).take i) c.names[i].text).isSome||(o8 c.op&&fA s c.names[i].text)) 3 c.names[i].pos:=by rw[oT];simp only[hg];rw[ah h3]
      simp only[am,bV,aA h3];refine UZ (b:=i) (by rw[jO];omega) ?_;rw[Us];simp only[am,uG];refine bh.intro (rN ((cW c.names).take i) c.names[i].text _ (by rw[gO];omega)) ?_;simp only[am,I1];cases hf:(fJ ((cW c.names).take i) c.names[i].text).isSome with
      | true =>
        rw[hf] at e;simp only[am,o9];refine bh.intro (mO σ b τ (l++jd s c i) s c 3 c.names[i].pos true (by rw[bz];omega)) ?_;simp only[am,aM,o9,ca hi (by omega)];rw[Bool.true_or] at e;refine eK (()) hi ?_ ?_ ?_ ?_ ?_ ?_
        · exact Eq.mpr (aO _ _) (trivial)
        all_goals simp[hF,List.replicate,am,bj,bn,cK,V.lo,hS,e]
      | false =>
        rw[hf,wL] at e;simp only[am,gn];refine bh.intro (Kc c.op _) ?_;cases hv:o8 c.op with
        | true =>
          rw[hv,lJ] at e;simp only[am,o9];refine bh.intro (mO σ b τ (l++jd s c i) s c 3 c.names[i].pos (fA s c.names[i].text) (by rw[bz];omega)) ?_;simp only[am,aM,o9,ca hi (by omega)];refine eK (()) hi ?_ ?_ ?_ ?_ ?_ ?_
          · exact Eq.mpr (aO _ _) (trivial)
          all_goals simp[hF,List.replicate,am,bj,bn,cK,V.lo,hS,e]
        | false =>
          rw[hv,EX] at e;simp only[am,o9];refine bh.intro (mO σ b τ (l++jd s c i) s c 3 c.names[i].pos false (by rw[bz];omega)) ?_;simp only[am,aM,o9,ca hi (by omega)];refine eK (()) hi ?_ ?_ ?_ ?_ ?_ ?_
          · exact Eq.mpr (aO _ _) (trivial)
          all_goals simp[hF,List.replicate,am,bj,bn,cK,V.lo,hS,e]
  · rintro x -;simp only[hF,List.replicate,am,aM,c9,aM];exact aF rfl (ab.aS _) ⟨rfl,rfl⟩
def Mk:AC:=.seq (.aa [⟨(some 2),.box 2 (.s 0),none⟩,⟨(some 3),.box 17 (.s 1),none⟩,⟨(some 4),.alloc [(.int .i64 0),(.int .i64 0)],none⟩])
 (.seq (.seq (.aa [xf 0 6 3,xo 7 6,xc 50 8 [.s 7],⟨(some 9),.not (.s 8),none⟩,U 10 9,xg 10 (xf 0 11 3),xg 10 (xo 12 11),xg 10 (xc 51 13 [.s 12]),⟨(some 14),.not (.s 13),(some (10,true))⟩,⟨(some 15),.pick (.s 10) (.s 14) (.c (.bool false)),none⟩])
 (.cond (.s 15) (.seq (.aa [⟨(some 16),.build [(.int .i64 0),(.int .i64 0)] [],none⟩,xs 2 4 16])
 (.ret))
 (.skip)))
 (.seq (.aa [xl 2 17 2,xl 17 18 3,⟨(some 19),.build [(.sl .full 3 []),(.sl .full 3 []),(.int .i64 0),(.int .i64 0),(.str []),(.int .i64 0),(.sl .full 2 []),(.sl .full 4 []),(.int .i64 0),(.int .i64 0),(.int .i64 0),(.str []),(.sl .full 2 []),(.sl .full 5 []),(.int .i64 0),(.int .i64 0),(.str []),(.sl .full 2 []),(.sl .full 5 []),(.sl .full 2 [])] [(0,2,(.s 17)),(2,17,(.s 18))],none⟩,⟨(some 20),.eD 20 (.s 19),none⟩,U 5 20])
 (.seq (.lH (.aa [U 21 5,xc 52 22 [.s 21]]))
 (.seq (.aa [U 23 5,xc 53 24 [.s 23]])
 (.seq (.aa [U 25 5,xc 54 26 [.s 25]])
 (.seq (.aa [U 27 5,xc 55 28 [.s 27]])
 (.seq (.aa [U 29 5,xk 30 29,xf 19 31 30,xo 32 31,xc 22 33 [.s 32],xs 2 4 33])
 (.ret))))))))
theorem acL:aJ prog 19 Mk [.cell 4 true 2] 34:=⟨f19,⟨[20],[4],[]⟩,func19,by kernel_rfl,by kernel_rfl,by kernel_rfl,by kernel_rfl⟩
def NS:AC:=.seq (.aa [⟨(some 1),.eD 1 (.s 0),none⟩])
 (.seq (.aa [xo 6 1,xk 7 6,xf 2 8 7,xf 4 9 8,xo 10 9,xc 111 11 [.s 10],⟨(some 2),.lO [(.sl .full 1 [])],none⟩,xs 1 2 11])
 (.seq (.aa [⟨(some 12),.gG (.func 113) [] [(.s 1),(.s 2)],none⟩,U 3 12])
 (.seq (.seq (.aa [xo 13 1,xk 14 13,xf 2 15 14,xf 5 16 15,xo 17 16,xL 18 17,xi 19 0])
 (.block 0 (.loop (.seq (.aa [xb .lss 20 19 18])
 (.seq (.cond (.s 20) (.skip)
 (.exit 0))
 (.seq (.block 1 (.seq (.aa [xA 4 21 17 19,xl 4 22 21,⟨(some 5),.alloc [(.str []),(.int .i64 0),(.str []),(.int .i64 0)],none⟩,xs 4 5 22])
 (.seq (.aa [U 23 3,⟨(some 24),.eJ 2 2 (.s 5) (.c (.int .i64 0)),none⟩,xl 2 25 24,⟨(some 26),.fR (.s 23) [(.s 25)],none⟩])
 (.aa [U 27 3,⟨(some 28),.eJ 2 2 (.s 5) (.c (.int .i64 1)),none⟩,xl 2 29 28,⟨(some 30),.fR (.s 27) [(.s 29)],none⟩]))))
 (.aa [xB .add 31 19 1,U 19 31])))))))
 (.seq (.aa [xo 32 1,xk 33 32,xf 2 34 33,xf 0 35 34,xo 36 35,xB .eql 37 36 5,U 38 37,xg 38 (xo 39 2),xg 38 (xL 40 39),xg 38 (xB .leq 41 40 64),⟨(some 42),.pick (.s 38) (.s 41) (.c (.bool false)),none⟩])
 (.cond (.s 42) (.draw [(xo 43 1,[1,2]),(xo 44 1,[]),(xk 45 44,[]),(xf 2 46 45,[]),(xl 17 47 46,[]),(xc 115 48 [.s 47],[]),(xc 114 49 [.s 48],[]),(⟨(some 50),.not (.s 49),none⟩,[]),(xo 51 1,[0,1]),(xk 52 51,[]),(xf 2 53 52,[]),(xf 6 54 53,[]),(xo 55 54,[0,1]),(xc 110 56 [.s 43,.s 50,.c (.int .i64 5),.s 55],[])])
 (.skip))))))
theorem aef:aJ prog 54 NS [] 57:=⟨f54,⟨[1,2],[],[]⟩,func54,by kernel_rfl,by kernel_rfl,by kernel_rfl,by kernel_rfl⟩
def NT:AC:=.seq (.aa [U 4 0,xk 5 4,xf 2 6 5,xf 4 7 6,xo 8 7,xL 9 8,U 2 9,xi 3 64])
 (.seq (.seq (.aa [U 10 0,xk 11 10,xf 2 12 11,xf 0 13 12,xo 14 13])
 (.block 0 (.seq (.seq (.aa [xB .eql 16 14 6,U 15 16])
 (.cond (.s 15) (.skip)
 (.aa [xB .eql 17 14 7,U 15 17])))
 (.cond (.s 15) (.seq (.draw [(U 18 0,[]),(U 19 2,[]),(U 20 0,[]),(xk 21 20,[]),(xf 0 22 21,[]),(xf 1 23 22,[]),(xo 24 23,[]),(xL 25 24,[]),(⟨(some 26),.de .sub (.c (.int .i64 64)) (.s 25),none⟩,[]),(xb .gtr 27 19 26,[]),(U 28 0,[]),(xk 29 28,[]),(xf 2 30 29,[]),(xf 1 31 30,[]),(xo 32 31,[]),(xc 110 33 [.s 18,.s 27,.c (.int .i64 7),.s 32],[])])
 (.ret))
 (.seq (.aa [xB .eql 35 14 4,U 34 35])
 (.cond (.s 34) (.aa [xi 3 8])
 (.seq (.aa [xB .eql 37 14 3,U 36 37])
 (.cond (.s 36) (.draw [(U 38 0,[]),(xk 39 38,[]),(xf 0 40 39,[]),(xl 2 41 40,[]),(U 42 0,[]),(xk 43 42,[]),(xf 2 44 43,[]),(xl 17 45 44,[]),(xc 116 46 [.s 41,.s 45],[]),(xw 1 47 46,[]),(xL 48 47,[]),(U 2 48,[]),(xi 3 8,[])])
 (.skip)))))))))
 (.draw [(U 49 0,[]),(U 50 2,[]),(U 51 3,[]),(xb .gtr 52 50 51,[]),(U 53 52,[]),(xh 53 (U 54 0),[]),(xh 53 (xk 55 54),[]),(xh 53 (xf 0 56 55),[]),(xh 53 (xf 0 57 56),[]),(xh 53 (xo 58 57),[]),(xh 53 (xL 59 58),[]),(xh 53 (xB .geq 60 59 16),[]),(⟨(some 61),.pick (.s 53) (.c (.bool true)) (.s 60),none⟩,[]),(U 62 0,[]),(xk 63 62,[]),(xf 2 64 63,[]),(xf 1 65 64,[]),(xo 66 65,[]),(xc 110 67 [.s 49,.s 61,.c (.int .i64 7),.s 66],[])]))
theorem aeg:aJ prog 55 NT [] 68:=⟨f55,⟨[],[],[]⟩,func55,by kernel_rfl,by kernel_rfl,by kernel_rfl,by kernel_rfl⟩
def Ly:AC:=.seq (.aa [⟨(some 3),.box 2 (.s 0),none⟩])
 (.draw [(xo 4 1,[1]),(xo 5 2,[]),(xf 0 6 3,[]),(xo 7 6,[]),(xc 112 8 [.s 5,.s 7],[]),(xB .lss 9 8 0,[]),(xf 1 10 3,[]),(xo 11 10,[0]),(xc 110 12 [.s 4,.s 9,.c (.int .i64 3),.s 11],[])])
theorem abZ:aJ prog 113 Ly [] 13:=⟨f113,⟨[],[],[]⟩,func113,by kernel_rfl,by kernel_rfl,by kernel_rfl,by kernel_rfl⟩
theorem RS (σ:ab) (b τ b1 b2:Nat) (l:List au) (s:ar) (c:aj) (w:Word) (n1:b1≠b) (n2:b2≠b) (h1:σ.box b1=some [.ptr (.out b) 0]) (h2:σ.box b2=some [.sl .no 1 (cU (cW c.names))]) (hl:l.length≤90000000) (hn:c.names.length≤100000) :
    ak prog 113 [.agg w.enc,.ptr (.out b1) 0,.ptr (.out b2) 0] (cV σ b τ l s c) fun v σ' => v = .aT []∧σ' = cV σ b τ (l++oU c w) s c:=by
  have e1:(cV σ b τ l s c).box b1=some [.ptr (.out b) 0]:=by rw[sb n1];exact h1
  have e2:(cV σ b τ l s c).box b2=some [.sl .no 1 (cU (cW c.names))]:=by rw[sb n2];exact h2
  refine abZ.calls ?_;simp only[aI,Ly,am,aP,Nat.reduceAdd,Word.af];simp only[am,uG,e1,e2];refine bh.intro (rN (cW c.names) w.text _ (by rw[y5];omega)) ?_;simp only[am,o9,akj];refine bh.intro (mO σ b τ l s c 3 w.pos (fJ (cW c.names) w.text).isNone (by omega)) ?_;simp only[am,o9,e1];exact aF rfl (ab.aS _) ⟨rfl,rfl⟩
theorem alc {c:aj} {i:Nat} (hi:i<c.aY.length):(c.aY.take (i+1)).flatMap (mi c)=(c.aY.take i).flatMap (mi c)++(oU c c.aY[i].1++oU c c.aY[i].2):=by rw[jV hi,uP];simp[mi]
theorem agS (σ:ab) (b τ:Nat) (l:List au) (s:ar) (c:aj) (hg:TZ σ) (hl:l.length≤80000000) (hn:c.names.length≤100000) (hp:c.aY.length≤100000) :
    ak prog 54 [.ptr (.out b) 0] (cV σ b τ l s c) fun v σ' => v = .aT []∧σ' = cV σ b τ (l++oY c++kT c) s c:=by
  have fresh:∀{x:Nat} {ck:ab},(cV ck b τ l s c).box x=none→x≠b:=fun {x ck} h=>by rintro rfl;rw[H9] at h;simp at h
  refine aef.calls ?_;simp only[aI,NS,am,aP];intro b1 fK;have n1:=fresh fK;rw[sb n1] at fK;simp only[am,Nat.reduceAdd];rw[RX n1];have e1:(cV (σ.set b1 [.ptr (.out b) 0]) b τ l s c).box b1=some [.ptr (.out b) 0]:=by rw[sb n1,gU]
  simp only[am,gn];refine cl (JY c.names _ (by omega)) ?_;simp only[am];intro b2 cR;have n2:=fresh cR;rw[sb n2] at cR;have IE:b1≠b2:=by rintro rfl;rw[gU] at cR;simp at cR
  rw[pX IE.symm] at cR;simp only[am];rw[RX n2];have f1:((σ.set b1 [.ptr (.out b) 0]).set b2 [.sl .no 1 (cU (cW c.names))]).box b1=some [.ptr (.out b) 0]:=by rw[pX IE,gU]
  have f2:((σ.set b1 [.ptr (.out b) 0]).set b2 [.sl .no 1 (cU (cW c.names))]).box b2=some [.sl .no 1 (cU (cW c.names))]:=gU;have ko:∀{L:List au},(cV σ b τ L s c).sub (cV ((σ.set b1 [.ptr (.out b) 0]).set b2 [.sl .no 1 (cU (cW c.names))]) b τ L s c):=fun {L}=>ab.wy (RW n1 fK) (RW n2 (by rw[pX IE.symm];exact cR))
  generalize qS:(σ.set b1 [V.ptr (Pl.out b) 0]).set b2 [V.sl .no 1 (cU (cW c.names))]=ir at f1 f2 ko;have vu:TZ ir:=by rw[←qS];exact hg
  have g1:∀{L:List au},(cV ir b τ L s c).box b1=some [.ptr (.out b) 0]:=fun {L}=>by rw[sb n1];exact f1
  have g2:∀{L:List au},(cV ir b τ L s c).box b2=some [.sl .no 1 (cU (cW c.names))]:=fun {L}=>by rw[sb n2];exact f2
  simp only[am,Nat.reduceAdd,aD,aD,gn,g1];have hP:=fun (i:Nat)=>@TD c (c.aY.take i)
  obtain⟨F,hF⟩:∃F:Nat→Unit→St,∀i x,F i x=⟨[.any,.ptr (.out b1) 0,.ptr (.out b2) 0,.fn (.func 113) [] [.ptr (.out b1) 0,.ptr (.out b2) 0],.any,.any,.any,.any,.any,.any,.any,.any,.any,.any,.any,.any,.any,.sl .no 4 (c.aY.map dr),.int .i64 (c.aY.length:Nat),.int .i64 (i:Nat)]++List.replicate 37 .any,[],cV ir b τ (l++(c.aY.take i).flatMap (mi c)) s c⟩:=⟨_,fun _ _=>rfl⟩;obtain⟨JF,aO⟩:∃JF:Nat→Unit→Prop,∀i x,JF i x=(True):=⟨_,fun _ _=>rfl⟩;refine db (c.aY.length) F JF _ aO ?_ ?_ ?_
  · refine dA (()) ?_ ?_ ?_ ?_
    · exact Eq.mpr (aO _ _) (trivial)
    all_goals simp[hF,List.replicate,am,bj]
  · rintro i x hi -;have hPi:=hP i;rw[gO] at hPi;have hS:=alc hi;have mM:(oU c c.aY[i].1).length≤1:=n_;simp only[hF,List.replicate,am,c8 hi];refine bx (by omega) (Tt hi) ?_;simp only[am,bV,Nat.reduceAdd,dr];refine iH (by omega) (by omega) ?_;simp only[am,Int.reduceToNat,Nat.reduceMul];refine cl (RS ir b τ b1 b2 (l++(c.aY.take i).flatMap (mi c)) s c c.aY[i].1 n1 n2 f1 f2 (by rw[bz];omega) hn) ?_;simp only[am,bV];refine iH (by omega) (by omega) ?_;simp only[am,Int.reduceToNat,Nat.reduceMul];refine cl (RS ir b τ b1 b2 (l++(c.aY.take i).flatMap (mi c)++oU c c.aY[i].1) s c c.aY[i].2 n1 n2 f1 f2 (by simp only[bz];omega) hn) ?_;simp only[am,aM,ca hi (by omega)];refine eK (()) hi ?_ ?_ ?_ ?_ ?_ ?_
    · exact Eq.mpr (aO _ _) (trivial)
    all_goals simp[hF,List.replicate,am,bj,bn,cK,V.lo,hS]
  · rintro x -;have QN:=hP c.aY.length;rw[gO] at QN;have hw:((cW c.names).length:Int)=(c.names.length:Nat):=by rw[y5]
    have Ri:(l++oY c).length≤90000000:=by rw[bz,oY];rw[dv] at QN;omega
    simp only[hF,List.replicate,am,aM,c9,aM,gn,dv,g1];have no:kT c=[]→cV σ b τ (l++oY c++kT c) s c=cV σ b τ (l++oY c) s c:=fun h=>by rw[h,dD]
    by_cases h5:c.op=5
    case neg =>
      simp only[am,aA h5];exact aF rfl ko ⟨rfl,(no (by rw[kT,ah fun h=>h5 h.1])).symm⟩
    simp only[am,jO,aC h5,g2,hw]
    by_cases xU:c.names.length≤64
    case neg =>
      simp only[am,aA (show ¬((c.names.length:Nat):Int)≤64 by omega)];exact aF rfl ko ⟨rfl,(no (by rw[kT,ah fun h=>xU h.2])).symm⟩
    have e:kT c=c_ (!nS (ra c)) 5 c.jM:=by rw[kT,aw ⟨h5,xU⟩]
    simp only[am,gn,aC (show ((c.names.length:Nat):Int)≤64 by omega),g1,dx];refine bh.intro (amk c _ (by omega) (by omega)) ?_;simp only[am,Rl.af];refine bh.intro (R5 (ra c) vu) ?_;simp only[am,Nat.reduceAdd,gn,g1];refine bh.intro (mO ir b τ (l++oY c) s c 5 c.jM (!nS (ra c)) (by omega)) ?_;simp only[am,gn,g1];rw[←e];exact aF rfl ko ⟨rfl,rfl⟩
theorem agJ (σ:ab) (b τ:Nat) (l:List au) (s:ar) (c:aj) (hs:s.yC) (hl:l.length≤90000000) (hn:c.names.length≤100000) :
    ak prog 55 [.ptr (.out b) 0] (cV σ b τ l s c) fun v σ' => v = .aT []∧σ' = cV σ b τ (l++lC s c) s c:=by
  have h1:=hs.1.1;have h2:=hs.1.2.1;have Vw:IntKind.i64.wrap (64 - (s.vars.length:Int))=64 - (s.vars.length:Nat):=wrap_i64 (by omega) (by omega);refine aeg.calls ?_;simp only[aI,NT,am,aP,Nat.reduceAdd,aD,gn];have kQ:(c.op=6∨c.op=7)→(decide (c.op=6)=true)∨(decide (c.op=6)=false∧decide (c.op=7)=true):=fun h=>by
    by_cases k:c.op=6
    · exact .inl (aC k)
    · exact .inr ⟨aA k,aC (h.resolve_left k)⟩
  by_cases zW:c.op=6∨c.op=7
  · have e:lC s c=c_ (decide ((64:Int) - (s.vars.length:Nat)<(c.names.length:Nat))) 7 c.pos:=by rw[lC,aw zW]
    rcases kQ zW with k | ⟨k,k2⟩
    case' inl=>simp only[am,Nat.reduceAdd,aD,aD,gn,k,Vw]
    case' inr=>simp only[am,Nat.reduceAdd,aD,aD,gn,k,k2,Vw]
    all_goals
      refine bh.intro (mO σ b τ l s c 7 c.pos (decide ((64:Int) - (s.vars.length:Nat)<(c.names.length:Nat))) (by omega)) ?_;simp only[am];exact aF rfl (ab.aS _) ⟨rfl,by rw[e]⟩
  have e0:lC s c=c_ (decide ((if c.op=3 then (8:Int) else if c.op=4 then 8 else 64)<((if c.op=3 then (pQ s c).a8.length else c.names.length):Nat))||decide (16≤s.bc.length)) 7 c.pos:=by rw[lC,ah zW]
  have F_:decide ((16:Int)≤(s.bc.length:Nat))=decide (16≤s.bc.length):=nB.2 (by omega);simp only[am,aA (fun h=>zW (.inl h)),aA (fun h=>zW (.inr h))];have fin:∀(n:Nat) (m:Int),lC s c=c_ (decide (m<(n:Nat))||decide (16≤s.bc.length)) 7 c.pos→∀B:Bool,B=(decide (m<(n:Nat))||decide (16≤s.bc.length)) →
      ak prog 110 [.ptr (.out b) 0,.bool B,.int .i64 7,.int .i64 c.pos] (cV σ b τ l s c) fun v σ' => v = .aT []∧σ' = cV σ b τ (l++lC s c) s c:=fun n m e B hB=>by
    rw[e,hB];exact mO σ b τ l s c 7 c.pos _ (by omega)
  by_cases h4:c.op=4
  · have e:lC s c=c_ (decide ((8:Int)<(c.names.length:Nat))||decide (16≤s.bc.length)) 7 c.pos:=by rw[e0,ah (by omega),aw h4,ah (by omega)]
    simp only[am,aC h4];cases hb:decide ((8:Int)<(c.names.length:Nat)) with
    | true =>
      simp only[am,Nat.reduceAdd,gn];refine bh.intro (fin _ _ e true (by rw[hb];rfl)) ?_;simp only[am];exact aF rfl (ab.aS _) ⟨rfl,rfl⟩
    | false =>
      simp only[am,Nat.reduceAdd,aD,aD,gn,F_];refine bh.intro (fin _ _ e (decide (16≤s.bc.length)) (by rw[hb];rfl)) ?_;simp only[am];exact aF rfl (ab.aS _) ⟨rfl,rfl⟩
  simp only[am,aA h4]
  by_cases h3:c.op=3
  · have e:lC s c=c_ (decide ((8:Int)<((pQ s c).a8.length:Nat))||decide (16≤s.bc.length)) 7 c.pos:=by rw[e0,aw h3,aw h3]
    simp only[am,ar.af,gn,aC h3,dx];refine bh.intro (ak' s c _ hs hn) ?_;simp only[am,aD,a_.af,aD];cases hb:decide ((8:Int)<((pQ s c).a8.length:Nat)) with
    | true =>
      simp only[am,Nat.reduceAdd,gn];refine bh.intro (fin _ _ e true (by rw[hb];rfl)) ?_;simp only[am];exact aF rfl (ab.aS _) ⟨rfl,rfl⟩
    | false =>
      simp only[am,Nat.reduceAdd,aD,aD,gn,F_];refine bh.intro (fin _ _ e (decide (16≤s.bc.length)) (by rw[hb];rfl)) ?_;simp only[am];exact aF rfl (ab.aS _) ⟨rfl,rfl⟩
  · have e:lC s c=c_ (decide ((64:Int)<(c.names.length:Nat))||decide (16≤s.bc.length)) 7 c.pos:=by rw[e0,ah h3,ah h4,ah h3]
    simp only[am,aA h3];cases hb:decide ((64:Int)<(c.names.length:Nat)) with
    | true =>
      simp only[am,Nat.reduceAdd,gn];refine bh.intro (fin _ _ e true (by rw[hb];rfl)) ?_;simp only[am];exact aF rfl (ab.aS _) ⟨rfl,rfl⟩
    | false =>
      simp only[am,Nat.reduceAdd,aD,aD,gn,F_];refine bh.intro (fin _ _ e (decide (16≤s.bc.length)) (by rw[hb];rfl)) ?_;simp only[am];exact aF rfl (ab.aS _) ⟨rfl,rfl⟩
theorem anb (s:ar) (c:aj) {σ:ab} (hs:s.yC) (hg:TZ σ) (hn:c.names.length≤100000) (hp:c.aY.length≤100000) :
    ak prog 19 [.agg s.enc,.agg c.enc] σ fun v σ' => v = .agg (kY s c).enc∧σ' = σ:=by
  refine acL.calls ?_;simp only[aI,Mk,am,aP,Nat.reduceAdd,ar.af];simp only[am,dx,eQ];refine cl (R4 c.op _) ?_;have kQ:(mP c.op=true)∨(mP c.op=false∧o8 c.op=false)∨(mP c.op=false∧o8 c.op=true):=by
    cases mP c.op<;>cases o8 c.op<;>simp
  rcases kQ with h5 | ⟨h5,h6⟩ | ⟨h5,h6⟩
  case' inl=>simp only[am,ar.af,h5,dx,RZ]
  case' inr.inl =>
    simp only[am,h5,eQ];refine cl (Kc c.op _) ?_;simp only[am,Nat.reduceAdd,h6];exact aF rfl (ab.aS _) ⟨by rw[kY,h5,h6];rfl,rfl⟩
  case' inr.inr =>
    simp only[am,h5,eQ];refine cl (Kc c.op _) ?_;simp only[am,ar.af,h6,dx,RZ]
  all_goals
    have e:dg (oZ s c)=kY s c:=by rw[kY,h5];first | rfl | rw[h6];rfl
    intro b hb;have hb:σ.box b=none:=hb;simp only[am];refine aZ.tok 0 fun τ ba=>⟨_,_,(σ.set b _).set b (h_ τ [] s c),dc.rfl,rfl,fun i c' hc=>⟨c',hc,dc.rfl⟩,np.set gU (by simp[jz,h_,mQ]),?_⟩
    have ba:σ.aB τ=none:=ba;rw[ab.set_set,show (σ.set b (h_ τ [] s c)).aK τ 0=cV σ b τ [] s c from rfl];have l1:=@afJ s c;have l2:=@IK s c c.names.length;have l3:=@TD c c.aY;have l4:=@akp c;have l5:=@ahW s c;simp only[am];refine cl (agI σ b τ [] s c hs.1 (by simp)) ?_;simp only[am,iS];refine cl (agK σ b τ (nL s c) s c hs.1 (by omega) hn) ?_;simp only[am];refine cl (agS σ b τ (nL s c++jd s c c.names.length) s c hg (by rw[bz];omega) hn hp) ?_;simp only[am];refine cl (agJ σ b τ (nL s c++jd s c c.names.length++oY c++kT c) s c hs (by simp only[bz,oY];omega) hn) ?_;simp only[am,gn];refine cl (ak.dh (as' := [.sl .no 2 ((oZ s c).map au.enc)]) (tZ (oZ s c) _ (by simp only[oZ,bz,oY];omega)) ⟨cz.no,trivial⟩ bC.rfl) ?_;simp only[am,au.af];exact aF rfl (agU hb ba) ⟨by rw[e];rfl,rfl⟩
def LF:AC:=.seq (.aa [⟨(some 1),.box 17 (.s 0),none⟩,⟨(some 2),.mv (.c (.bool false)),none⟩])
 (.seq (.seq (.aa [xf 0 3 1,xo 4 3,xc 167 5 [.s 4,.c (.int .i32 110)],xB .eql 6 5 0])
 (.cond (.s 6) (.seq (.aa [xf 2 7 1,xf 0 8 7,xo 9 8,⟨(some 10),.gP .eql (.s 9) (.c (.str [])),none⟩,U 2 10])
 (.ret))
 (.skip)))
 (.seq (.aa [xf 2 11 1,xf 0 12 11,xo 13 12,xc 99 14 [.s 13],U 2 14])
 (.ret)))
theorem ab5:aJ prog 119 LF [.tmp 2] 15:=⟨f119,⟨[],[],[]⟩,func119,by kernel_rfl,by kernel_rfl,by kernel_rfl,by kernel_rfl⟩
def LH:AC:=.seq (.aa [⟨(some 1),.box 17 (.s 0),none⟩,⟨(some 2),.mv (.c (.bool false)),none⟩])
 (.seq (.block 0 (.seq (.aa [xf 0 4 1,xo 5 4,xc 167 6 [.s 5,.c (.int .i32 119)],xB .gtr 7 6 0,U 3 7])
 (.cond (.s 3) (.seq (.aa [xf 4 8 1,xo 9 8,xL 10 9,xB .gtr 11 10 0,U 12 11,xg 12 (xf 4 13 1),xg 12 (xo 14 13),xg 12 (xc 37 15 [.s 14]),xg 12 (xc 168 16 [.s 15]),⟨(some 17),.pick (.s 12) (.s 16) (.c (.bool false)),none⟩,U 2 17])
 (.ret))
 (.seq (.aa [xf 0 19 1,xo 20 19,xc 167 21 [.s 20,.c (.int .i32 102)],xB .gtr 22 21 0,U 18 22])
 (.cond (.s 18) (.seq (.aa [xf 4 23 1,xo 24 23,xL 25 24,xB .eql 26 25 1,U 27 26,xg 27 (xf 4 28 1),xg 27 (xo 29 28),xg 27 (xc 37 30 [.s 29]),xg 27 (xc 168 31 [.s 30]),⟨(some 32),.pick (.s 27) (.s 31) (.c (.bool false)),none⟩,U 2 32])
 (.ret))
 (.skip))))))
 (.seq (.aa [xf 4 33 1,xo 34 33,xL 35 34,xB .eql 36 35 0,U 2 36])
 (.ret)))
theorem ab7:aJ prog 120 LH [.tmp 2] 37:=⟨f120,⟨[],[],[]⟩,func120,by kernel_rfl,by kernel_rfl,by kernel_rfl,by kernel_rfl⟩
def L8:AC:=.seq (.aa [xi 4 0])
 (.seq (.aa [xi 5 0])
 (.seq (.yI [U 8 0,xc 35 9 [.s 8],xw 1 10 9] (.s 10) 11 12 13 0 1
 (.seq (.aa [xe 14 12 2,U 7 14])
 (.seq (.aa [U 15 7,U 16 1,xb .eql 17 15 16])
 (.cond (.s 17) (.aa [U 18 5,xB .add 19 18 1,U 5 19])
 (.skip)))))
 (.seq (.aa [U 20 5,U 4 20])
 (.ret))))
theorem acy:aJ prog 167 L8 [.tmp 4] 21:=⟨f167,⟨[],[],[]⟩,func167,by kernel_rfl,by kernel_rfl,by kernel_rfl,by kernel_rfl⟩
def L9:AC:=.seq (.aa [⟨(some 2),.mv (.c (.bool false)),none⟩])
 (.seq (.seq (.aa [U 5 0,xL 6 5,xi 7 0])
 (.block 0 (.loop (.seq (.aa [xb .lss 8 7 6])
 (.seq (.cond (.s 8) (.skip)
 (.exit 0))
 (.seq (.block 1 (.seq (.aa [xA 1 9 5 7,xo 10 9,U 4 10])
 (.seq (.aa [U 11 4,xc 99 12 [.s 11],⟨(some 13),.not (.s 12),none⟩])
 (.cond (.s 13) (.seq (.aa [⟨(some 2),.mv (.c (.bool false)),none⟩])
 (.ret))
 (.skip)))))
 (.aa [xB .add 14 7 1,U 7 14])))))))
 (.seq (.aa [⟨(some 2),.mv (.c (.bool true)),none⟩])
 (.ret)))
theorem acz:aJ prog 168 L9 [.tmp 2] 15:=⟨f168,⟨[],[],[]⟩,func168,by kernel_rfl,by kernel_rfl,by kernel_rfl,by kernel_rfl⟩
def wu (ks:List UInt8) (k:UInt8) (σ:ab) (b i:Nat):St :=
  ⟨[.any,.int .i32 (k.toNat:Nat),.any,.any,.any,.int .i64 ((ks.take i).count k:Nat)]++List.replicate 5 .any++[.raw (.pointer (some ⟨b,0,none⟩))]++List.replicate 9 .any,[],σ⟩
theorem yB (op:Int) (k:UInt8) {σ:ab} (hg:σ.bH 0=some fq):ak prog 167 [.int .i64 op,.int .i32 (k.toNat:Nat)] σ fun v σ' => v = .int .i64 (fm op k:Nat)∧σ' = σ:=by
  refine acy.calls ?_;simp only[aI,L8,am,aP,Nat.reduceAdd];refine Ke ?_;simp only[am];refine cl (IV op hg) ?_;simp only[am];have oC:=Ql op;have QX:fm op k=(cL op).2.count k:=rfl;generalize eU:(cL op).2=ks at oC QX;refine⟨ks,rfl,by rw[←eU];exact Gs op,fun b i al => al = wu ks k σ b i,?_,?_,?_,?_⟩
  · intro b;refine aZ.dh (t' := (wu ks k σ b 0).t) ?_ bY.rfl bC.rfl rfl;simp[wu,List.replicate,am]
  · rintro b i _ rfl;exact⟨rfl,by simp[wu],by simp[wu]⟩
  · rintro b i c _ hc rfl;have hi:i<ks.length:=(dj.1 hc).1;have nP:(ks.take (i+1)).count k=(ks.take i).count k+(if c=k then 1 else 0):=by
      rw[Br hc,List.count_append,List.count_singleton];simp
    have hle:(ks.take i).count k≤3:=sS List.count_le_length (by rw[gO];omega);have fV:((c.toNat:Nat):Int)=(k.toNat:Nat)↔c=k:=by
      constructor
      · intro h;exact Lk.1 (by omega)
      · rintro rfl;rfl
    simp only[wu,List.replicate,am]
    by_cases e:c=k
    · rw[aw e] at nP;simp only[am,bV,aC (fV.2 e)];rw[wrap_i64 (by omega) (by omega)];exact aZ.dh (by simp[am,nP]) bY.rfl bC.rfl rfl
    · rw[ah e] at nP;simp only[am,bV,aA (fun h=>e (fV.1 h))];exact aZ.dh (by simp[am,nP]) bY.rfl bC.rfl rfl
  · rintro b _ rfl;simp only[wu,List.replicate,am];rw[dv];refine az ?_;simp[V.erase,QX]
def AL (l:List (List UInt8)) (σ:ab) (i:Nat):St :=
  ⟨[.any,.any,.any,.any,.any,.sl .no 1 (eE l),.int .i64 l.length,.int .i64 (i:Nat)]++List.replicate 7 .any,[],σ⟩
theorem O8 (l:List (List UInt8)) (σ:ab) (hl:l.length≤aE):ak prog 168 [.sl .no 1 (eE l)] σ fun v σ' => v = .bool (qX l)∧σ' = σ:=by
  simp only[aE] at hl;refine acz.calls ?_;simp only[aI,L9,am,aP,pn];refine jj (fun p:{i:Nat // i≤l.length∧qX (l.take i)=true}=>AL l σ p.1) (fun p=>l.length - p.1) ?_ ?_
  · refine aZ.enter ⟨0,by simp,by simp[qX]⟩ ?_ bY.rfl bC.rfl;simp[AL,List.replicate,am]
  rintro⟨i,hi,ha⟩;simp only[AL,List.replicate,am]
  by_cases ag:i<l.length
  · simp only[am,aC (show (i:Int)<l.length by omega)];refine bx (by omega) (CD (cc ag)) ?_;simp only[am];refine cl (pI l[i] σ) ?_;cases hr:dZ l[i]
    · simp only[am]
      have:qX l=false:=by
        rw[qX,Fc];exact⟨l[i],eZ ag,by simp[hr]⟩
      refine az ?_;simp[V.erase,this]
    · simp only[am];rw[wrap_i64 (by omega) (by omega)];refine aZ.again (I:=fun p:{i:Nat // i≤l.length∧qX (l.take i)=true}=>AL l σ p.1) (μ:=fun p=>l.length - p.1) ⟨i+1,ag,?_⟩ (by simp;omega) (by simp[AL,am,List.replicate]) bY.rfl bC.rfl;simp only[qX,jV ag,Fb,bm] at ha ⊢;exact⟨ha,by simp[hr]⟩
  · have:i=l.length:=by omega
    subst this;rw[dv] at ha;simp only[am,aA (show ¬(l.length:Int)<l.length by omega)];refine az ?_;simp[V.erase,ha]
theorem aiT (c:aj) {σ:ab} (hg:σ.bH 0=some fq):ak prog 119 [.agg c.enc] σ fun v σ' => v = .bool c.ug∧σ' = σ:=by
  refine ab5.calls ?_;simp only[aI,LF,am,aP,dx,eQ];have h:=fun (σ:ab) (hg:σ.bH 0=some fq)=>yB c.op 110 hg
  refine cl (h σ hg) ?_;simp only[am]
  by_cases h0:fm c.op 110=0
  · simp only[am,cC,aC (show ((fm c.op 110:Nat):Int)=0 by omega)];refine az ?_;simp[V.erase,aj.ug,h0]
  · simp only[am,cC,aA (show ¬((fm c.op 110:Nat):Int)=0 by omega)];refine cl (pI c.name.text σ) ?_;simp only[am];refine az ?_;simp[V.erase,aj.ug,h0]
theorem aiX (c:aj) {σ:ab} (hg:σ.bH 0=some fq) (hn:c.names.length+1≤aE):ak prog 120 [.agg c.enc] σ fun v σ' => v = .bool c.nY∧σ' = σ:=by
  have mM:(c.names.map Word.text).length≤aE:=by rw[aD];omega
  have h:=fun (σ:ab) (hg:σ.bH 0=some fq)=>yB c.op 119 hg
  have h' := fun (σ:ab) (hg:σ.bH 0=some fq)=>yB c.op 102 hg
  refine ab7.calls ?_;simp only[aI,LH,am,aP,dx,eQ];refine cl (h σ hg) ?_;simp only[am]
  by_cases h0:0<fm c.op 119
  · simp only[am,aD,cC,aC (show (0:Int)<((fm c.op 119:Nat):Int) by omega),aD]
    by_cases h1:0<c.names.length
    · simp only[am,cC,aC (show (0:Int)<((c.names.length:Nat):Int) by omega)];refine cl (yO c.names σ hn) ?_;simp only[am];refine cl (O8 (c.names.map Word.text) σ mM) ?_;simp only[am];refine az ?_;simp[V.erase,aj.nY,h0,h1]
    · simp only[am,aA (show ¬(0:Int)<((c.names.length:Nat):Int) by omega)];refine az ?_;simp[V.erase,aj.nY,h0,h1]
  · simp only[am,eQ,aA (show ¬(0:Int)<((fm c.op 119:Nat):Int) by omega)];refine cl (h' σ hg) ?_;simp only[am]
    by_cases h2:0<fm c.op 102
    · simp only[am,aD,cC,aC (show (0:Int)<((fm c.op 102:Nat):Int) by omega),aD]
      by_cases h1:c.names.length=1
      · simp only[am,cC,aC (show ((c.names.length:Nat):Int)=1 by omega)];refine cl (yO c.names σ hn) ?_;simp only[am];refine cl (O8 (c.names.map Word.text) σ mM) ?_;simp only[am];refine az ?_;simp[V.erase,aj.nY,h0,h1,h2]
      · simp only[am,aA (show ¬((c.names.length:Nat):Int)=1 by omega)];refine az ?_;simp[V.erase,aj.nY,h0,h1,h2]
    · simp only[am,aD,cC,aA (show ¬(0:Int)<((fm c.op 102:Nat):Int) by omega),aD];have he:decide (((c.names.length:Nat):Int)=0)=decide (c.names.length=0):=by simp
      refine az ?_;simp[V.erase,aj.nY,h0,h2]
def N1:AC:=.seq (.aa [⟨(some 1),.box 17 (.s 0),none⟩,⟨(some 2),.mv (.c (.bool false)),none⟩])
 (.seq (.seq (.aa [xf 0 3 1,xo 4 3,xB .lss 5 4 0,U 6 5,xh 6 (xf 0 7 1),xh 6 (xo 8 7),xh 6 (xB .gtr 9 8 15),⟨(some 10),.pick (.s 6) (.c (.bool true)) (.s 9),none⟩])
 (.cond (.s 10) (.seq (.aa [⟨(some 2),.mv (.c (.bool false)),none⟩])
 (.ret))
 (.skip)))
 (.seq (.aa [xl 17 11 1,xc 119 12 [.s 11],U 13 12,xg 13 (xl 17 14 1),xg 13 (xc 120 15 [.s 14]),⟨(some 16),.pick (.s 13) (.s 15) (.c (.bool false)),none⟩,U 17 16,xg 17 (xl 17 18 1),xg 17 (xc 121 19 [.s 18]),⟨(some 20),.pick (.s 17) (.s 19) (.c (.bool false)),none⟩,U 21 20,xg 21 (xl 17 22 1),xg 21 (xc 122 23 [.s 22]),⟨(some 24),.pick (.s 21) (.s 23) (.c (.bool false)),none⟩,U 2 24])
 (.ret)))
theorem aen:aJ prog 62 N1 [.tmp 2] 25:=⟨f62,⟨[],[],[]⟩,func62,by kernel_rfl,by kernel_rfl,by kernel_rfl,by kernel_rfl⟩
def LI:AC:=.seq (.aa [⟨(some 1),.box 17 (.s 0),none⟩,⟨(some 2),.mv (.c (.bool false)),none⟩])
 (.seq (.seq (.aa [xf 0 5 1,xo 6 5,xc 167 7 [.s 6,.c (.int .i32 112)],xB .eql 8 7 0])
 (.cond (.s 8) (.seq (.aa [xf 5 9 1,xo 10 9,xL 11 10,xB .eql 12 11 0,U 2 12])
 (.ret))
 (.skip)))
 (.seq (.seq (.aa [xf 5 13 1,xo 14 13,xL 15 14,xi 16 0])
 (.block 0 (.loop (.seq (.aa [xb .lss 17 16 15])
 (.seq (.cond (.s 17) (.skip)
 (.exit 0))
 (.seq (.block 1 (.seq (.aa [xA 4 18 14 16,xl 4 19 18,⟨(some 4),.alloc [(.str []),(.int .i64 0),(.str []),(.int .i64 0)],none⟩,xs 4 4 19])
 (.seq (.aa [⟨(some 20),.eJ 2 2 (.s 4) (.c (.int .i64 0)),none⟩,xf 0 21 20,xo 22 21,xc 99 23 [.s 22],⟨(some 24),.not (.s 23),none⟩,U 25 24,⟨(some 26),.eJ 2 2 (.s 4) (.c (.int .i64 1)),(some (25,false))⟩,xh 25 (xf 0 27 26),xh 25 (xo 28 27),xh 25 (xc 99 29 [.s 28]),⟨(some 30),.not (.s 29),(some (25,false))⟩,⟨(some 31),.pick (.s 25) (.c (.bool true)) (.s 30),none⟩])
 (.cond (.s 31) (.seq (.aa [⟨(some 2),.mv (.c (.bool false)),none⟩])
 (.ret))
 (.skip)))))
 (.aa [xB .add 32 16 1,U 16 32])))))))
 (.seq (.aa [⟨(some 2),.mv (.c (.bool true)),none⟩])
 (.ret))))
theorem ab8:aJ prog 121 LI [.tmp 2] 33:=⟨f121,⟨[],[],[]⟩,func121,by kernel_rfl,by kernel_rfl,by kernel_rfl,by kernel_rfl⟩
def LJ:AC:=.seq (.aa [⟨(some 1),.box 17 (.s 0),none⟩,⟨(some 2),.mv (.c (.bool false)),none⟩])
 (.seq (.seq (.aa [xf 0 3 1,xo 4 3,xc 167 5 [.s 4,.c (.int .i32 116)],xB .gtr 6 5 0])
 (.cond (.s 6) (.seq (.aa [xf 7 7 1,xl 5 8 7,xc 123 9 [.s 8],U 10 9,xg 10 (xf 12 11 1),xg 10 (xl 5 12 11),xg 10 (xc 123 13 [.s 12]),⟨(some 14),.pick (.s 10) (.s 13) (.c (.bool false)),none⟩,U 2 14])
 (.ret))
 (.skip)))
 (.seq (.seq (.aa [xf 0 15 1,xo 16 15,xc 167 17 [.s 16,.c (.int .i32 114)],xB .gtr 18 17 0])
 (.cond (.s 18) (.seq (.aa [xf 7 19 1,xl 5 20 19,xc 169 21 [.s 20],U 22 21,xg 22 (xf 12 23 1),xg 22 (xl 5 24 23),xg 22 (xc 169 25 [.s 24]),⟨(some 26),.pick (.s 22) (.s 25) (.c (.bool false)),none⟩,U 2 26])
 (.ret))
 (.skip)))
 (.seq (.aa [xf 7 27 1,xl 5 28 27,⟨(some 29),.build [(.int .i64 0),(.int .i64 0),(.str []),(.sl .full 2 []),(.sl .full 5 [])] [],none⟩,xc 43 30 [.s 28,.s 29],U 31 30,xg 31 (xf 12 32 1),xg 31 (xl 5 33 32),⟨(some 34),.build [(.int .i64 0),(.int .i64 0),(.str []),(.sl .full 2 []),(.sl .full 5 [])] [],(some (31,true))⟩,xg 31 (xc 43 35 [.s 33,.s 34]),⟨(some 36),.pick (.s 31) (.s 35) (.c (.bool false)),none⟩,U 2 36])
 (.ret))))
theorem ab9:aJ prog 122 LJ [.tmp 2] 37:=⟨f122,⟨[],[],[]⟩,func122,by kernel_rfl,by kernel_rfl,by kernel_rfl,by kernel_rfl⟩
def tW (c:aj) (σ:ab) (i:Nat):St :=
  ⟨[.any,.ptr (.loc 0) 0]++List.replicate 12 .any++[.sl .no 4 (c.aY.map dr),.int .i64 c.aY.length,.int .i64 (i:Nat)]++List.replicate 16 .any,[c.enc],σ⟩
theorem akE (c:aj) {σ:ab} (hg:σ.bH 0=some fq) (hn:c.aY.length+1≤aE):ak prog 121 [.agg c.enc] σ fun v σ' => v = .bool c.pM∧σ' = σ:=by
  have h:=fun (σ:ab) (hg:σ.bH 0=some fq)=>yB c.op 112 hg
  simp only[aE] at hn;refine ab8.calls ?_;simp only[aI,LI,am,aP,dx,eQ];refine cl (h σ hg) ?_;simp only[am]
  by_cases h0:fm c.op 112=0
  · simp only[am,aD,cC,aD,aC (show ((fm c.op 112:Nat):Int)=0 by omega)];have he:decide (((c.aY.length:Nat):Int)=0)=decide (c.aY.length=0):=by simp
    refine az ?_;simp[V.erase,aj.pM,h0]
  simp only[am,aD,cC,aD,aA (show ¬((fm c.op 112:Nat):Int)=0 by omega)];have hq:c.pM=c.aY.all uj:=by unfold aj.pM;rw[ah h0]
  refine jj (fun p:{i:Nat // i≤c.aY.length∧(c.aY.take i).all uj=true}=>tW c σ p.1) (fun p=>c.aY.length - p.1) ?_ ?_
  · refine aZ.enter ⟨0,by simp,by simp⟩ ?_ bY.rfl bC.rfl;simp[tW,List.replicate,am]
  rintro⟨i,hi,ha⟩;simp only[tW,List.replicate,am]
  by_cases ag:i<c.aY.length
  · simp only[am,aC (show (i:Int)<c.aY.length by omega)];refine bx (by omega) (yH (cc ag)) ?_;simp only[am,bV,Nat.reduceAdd,dr];refine iH (by omega) (by omega) ?_;simp only[am,Int.reduceToNat,Nat.reduceMul];refine cl (pI c.aY[i].1.text σ) ?_;have gm:uj c.aY[i]=false→c.pM=false:=fun hf=>by
      rw[hq,Fc];exact⟨c.aY[i],eZ ag,by simp[hf]⟩
    cases hr:dZ c.aY[i].1.text
    · simp only[am];refine az ?_;simp[V.erase,gm (by simp[uj,hr])]
    · simp only[am,bV];refine iH (by omega) (by omega) ?_;simp only[am,Int.reduceToNat,Nat.reduceMul];refine cl (pI c.aY[i].2.text σ) ?_;cases Ro:dZ c.aY[i].2.text
      · simp only[am];refine az ?_;simp[V.erase,gm (by simp[uj,Ro])]
      · simp only[am];rw[wrap_i64 (by omega) (by omega)];refine aZ.qq (I:=fun p:{i:Nat // i≤c.aY.length∧(c.aY.take i).all uj=true}=>tW c σ p.1) (μ:=fun p=>c.aY.length - p.1) ⟨i+1,ag,?_⟩ (by simp;omega) (by simp[tW,am,List.replicate]) (by simp[tW,am]) bC.rfl (by simp[tW,List.replicate,bn,V.lo]) (by simp[tW,aj.enc,aj.b7,cK,bn,V.lo]);rw[jV ag,Fb,ha];simp[uj,hr,Ro]
  · have:i=c.aY.length:=by omega
    subst this;rw[dv] at ha;simp only[am,aA (show ¬(c.aY.length:Int)<c.aY.length by omega)];refine az ?_;simp[V.erase,hq,ha]
theorem aqb:[V.int .i64 0,.int .i64 0,.str [],.sl .full 2 [],.sl .full 5 []].map V.erase=Nd.zero.enc:=by rw[Nd.cm];rfl
theorem UG (n:Nd) (σ:ab) (hw:n.wt≤aE):ak prog 43 [.agg n.enc,.agg [.int .i64 0,.int .i64 0,.str [],.sl .full 2 [],.sl .full 5 []]] σ fun v σ' => v = .bool (n.eN .zero)∧σ' = σ:=by
  refine ak.dh (JD _ n .zero σ (bt _) hw) ?_ bC.rfl;simp only[bZ,cz.rfl,eC,o7];rw[←aqb];exact cz.erase (v:=.agg [.int .i64 0,.int .i64 0,.str [],.sl .full 2 [],.sl .full 5 []])
theorem aof (c:aj) {σ:ab} (hg:σ.bH 0=some fq) (hl:c.left.wt≤aE) (hr:c.right.wt≤aE):ak prog 122 [.agg c.enc] σ fun v σ' => v = .bool c.m_∧σ' = σ:=by
  have h:=fun (σ:ab) (hg:σ.bH 0=some fq)=>yB c.op 116 hg
  have h' := fun (σ:ab) (hg:σ.bH 0=some fq)=>yB c.op 114 hg
  refine ab9.calls ?_;simp only[aI,LJ,am,aP,dx,eQ];refine cl (h σ hg) ?_;simp only[am]
  by_cases h0:0<fm c.op 116
  · simp only[am,Nd.af,cC,aC (show (0:Int)<((fm c.op 116:Nat):Int) by omega)];refine cl (AR _ c.left σ (bt _) hl) ?_;cases hq:c.left.fg
    · simp only[am];refine az ?_;simp[V.erase,aj.m_,h0,hq]
    · simp only[am,Nd.af,cC];refine cl (AR _ c.right σ (bt _) hr) ?_;simp only[am];refine az ?_;simp[V.erase,aj.m_,h0,hq]
  simp only[am,eQ,aA (show ¬(0:Int)<((fm c.op 116:Nat):Int) by omega)];refine cl (h' σ hg) ?_;simp only[am]
  by_cases h2:0<fm c.op 114
  · simp only[am,Nd.af,cC,aC (show (0:Int)<((fm c.op 114:Nat):Int) by omega)];refine cl (T9 c.left σ hl) ?_;cases hq:c.left.jN
    · simp only[am];refine az ?_;simp[V.erase,aj.m_,h0,h2,hq]
    · simp only[am,Nd.af,cC];refine cl (T9 c.right σ hr) ?_;simp only[am];refine az ?_;simp[V.erase,aj.m_,h0,h2,hq]
  simp only[am,Nd.af,cC,aA (show ¬(0:Int)<((fm c.op 114:Nat):Int) by omega)];refine cl (UG c.left σ hl) ?_;cases hq:c.left.eN .zero
  · simp only[am];refine az ?_;simp[V.erase,aj.m_,h0,h2,hq]
  · simp only[am,Nd.af,cC];refine cl (UG c.right σ hr) ?_;simp only[am];refine az ?_;simp[V.erase,aj.m_,h0,h2,hq]
theorem YN (c:aj) {σ:ab} (hg:σ.bH 0=some fq) (hn:c.names.length+1≤aE) (hp:c.aY.length+1≤aE) (hl:c.left.wt≤aE) (hr:c.right.wt≤aE):ak prog 62 [.agg c.enc] σ fun v σ' => v = .bool c.mn∧σ' = σ:=by
  have h1:=fun (σ:ab) (hg:σ.bH 0=some fq)=>aiT c hg
  have h2:=fun (σ:ab) (hg:σ.bH 0=some fq)=>aiX c hg hn
  have h3:=fun (σ:ab) (hg:σ.bH 0=some fq)=>akE c hg hp
  have h4:=fun (σ:ab) (hg:σ.bH 0=some fq)=>aof c hg hl hr
  refine aen.calls ?_;simp only[aI,N1,am,aP,dx,eQ]
  by_cases k1:c.op<0
  · simp only[am,aC k1];refine az ?_;simp[V.erase,aj.mn,show ¬(0≤c.op∧c.op≤15) by omega]
  simp only[am,eQ,aA k1]
  by_cases k2:15<c.op
  · simp only[am,aC k2];refine az ?_;simp[V.erase,aj.mn,show ¬(0≤c.op∧c.op≤15) by omega]
  have k3:0≤c.op∧c.op≤15:=by omega
  simp only[am,dx,aA k2];refine cl (h1 σ hg) ?_;cases q1:c.ug
  · simp only[am];refine az ?_;simp[V.erase,aj.mn,q1]
  simp only[am,dx];refine cl (h2 σ hg) ?_;cases q2:c.nY
  · simp only[am];refine az ?_;simp[V.erase,aj.mn,q1,q2]
  simp only[am,dx];refine cl (h3 σ hg) ?_;cases q3:c.pM
  · simp only[am];refine az ?_;simp[V.erase,aj.mn,q1,q2,q3]
  simp only[am,dx];refine cl (h4 σ hg) ?_;simp only[am];refine az ?_;simp[V.erase,aj.mn,q1,q2,q3,k3]
def N4:AC:=.seq (.aa [⟨(some 3),.box 2 (.s 0),none⟩,⟨(some 5),.box 5 (.s 2),none⟩,⟨(some 6),.alloc Cl,none⟩])
 (.seq (.seq (.aa [xf 0 11 5,xo 12 11,xB .eql 13 12 1])
 (.cond (.s 13) (.seq (.aa [xl 2 15 3,xf 2 16 5,xo 17 16,xc 63 18 [.s 15,.s 17],U 14 18,xe 19 14 0,xe 20 14 1,U 7 19,U 8 20])
 (.seq (.aa [U 21 8,⟨(some 22),.build Cl [(0,1,(.s 21))],none⟩,xs 9 6 22])
 (.ret)))
 (.skip)))
 (.seq (.s_ [9,10] [(xf 0 24 3,[]),(xo 25 24,[]),(U 26 1,[]),(xA 3 27 25 26,[]),(xf 1 28 27,[]),(xl 2 29 28,[]),(xf 4 30 5,[]),(xo 31 30,[]),(⟨(some 32),.jH 5 (.s 31) (.c (.int .i64 0)),none⟩,[]),(xl 5 33 32,[]),(xc 125 34 [.s 29,.s 33],[]),(U 23 34,[]),(xe 35 23 0,[]),(xe 36 23 1,[]),(⟨none,.mv (.c .any),none⟩,[]),(⟨none,.mv (.c .any),none⟩,[]),(⟨(some 9),.kH 8 (.s 35),none⟩,[]),(⟨(some 10),.kH 2 (.s 36),none⟩,[])])
 (.seq (.aa [xl 8 37 9,⟨(some 38),.build Cl [(0,1,(.c (.int .i64 (-1)))),(1,8,(.s 37))],none⟩,xs 9 6 38])
 (.ret))))
theorem aeq:aJ prog 65 N4 [.cell 6 true 9] 39:=⟨f65,⟨[],[],[]⟩,func65,by kernel_rfl,by kernel_rfl,by kernel_rfl,by kernel_rfl⟩
def N5:AC:=.seq (.aa [⟨(some 3),.box 2 (.s 0),none⟩,⟨(some 5),.box 5 (.s 2),none⟩,⟨(some 6),.alloc [(.sl .full 10 []),(.int .i64 0)],none⟩])
 (.seq (.aa [⟨(some 12),.build [(.sl .full 10 []),(.int .i64 0)] [(1,1,(.c (.int .i64 (-1))))],none⟩,⟨(some 7),.alloc [(.sl .full 10 []),(.int .i64 0)],none⟩,xs 2 7 12])
 (.seq (.seq (.aa [xf 0 13 5,xo 14 13,xB .eql 15 14 1])
 (.cond (.s 15) (.seq (.aa [xl 2 17 3,xf 2 18 5,xo 19 18,xc 63 20 [.s 17,.s 19],U 16 20,xe 21 16 0,xe 22 16 1,xf 1 23 7,xs 1 23 22])
 (.seq (.aa [xl 2 24 7,xs 2 6 24])
 (.ret)))
 (.skip)))
 (.seq (.seq (.aa [xf 4 25 5,xo 26 25,xL 27 26,xi 28 0])
 (.block 0 (.loop (.seq (.aa [xb .lss 29 28 27])
 (.seq (.cond (.s 29) (.skip)
 (.exit 0))
 (.seq (.block 1 (.seq (.aa [xA 5 30 26 28,xl 5 31 30,⟨(some 9),.alloc [(.int .i64 0),(.int .i64 0),(.str []),(.sl .full 2 []),(.sl .full 5 [])],none⟩,xs 5 9 31])
 (.draw [(xf 0 32 7,[]),(xo 33 32,[1]),(xf 2 34 9,[]),(xo 35 34,[1]),(xl 2 36 3,[]),(U 37 1,[]),(xf 4 38 9,[]),(xo 39 38,[]),(⟨(some 40),.jH 5 (.s 39) (.c (.int .i64 0)),none⟩,[]),(xl 5 41 40,[]),(xc 65 42 [.s 36,.s 37,.s 41],[]),(⟨(some 43),.build P_ [(0,1,(.s 35)),(1,9,(.s 42))],none⟩,[]),(⟨(some 44),.cB 10 [(.s 43)],none⟩,[]),(xa 10 45 33 44,[]),(xf 0 46 7,[]),(xs 1 46 45,[])])))
 (.aa [xB .add 47 28 1,U 28 47])))))))
 (.seq (.seq (.aa [xf 3 48 5,xo 49 48,xL 50 49,xi 51 0])
 (.block 2 (.loop (.seq (.aa [xb .lss 52 51 50])
 (.seq (.cond (.s 52) (.skip)
 (.exit 2))
 (.seq (.block 3 (.seq (.aa [xA 2 53 49 51,xl 2 54 53,⟨(some 11),.alloc [(.str []),(.int .i64 0)],none⟩,xs 2 11 54])
 (.aa [xl 2 56 3,xf 0 57 11,xo 58 57,xc 63 59 [.s 56,.s 58],U 55 59,xe 60 55 0,xe 61 55 1,xf 1 62 7,xs 1 62 61])))
 (.aa [xB .add 63 51 1,U 51 63])))))))
 (.seq (.aa [xl 2 64 7,xs 2 6 64])
 (.ret))))))
theorem aer:aJ prog 66 N5 [.cell 6 true 2] 65:=⟨f66,⟨[],[],[]⟩,func66,by kernel_rfl,by kernel_rfl,by kernel_rfl,by kernel_rfl⟩
theorem PZ (s:ar) (lat:Nat) (n:Nd) {σ:ab} (hs:s.ok) (hg:TZ σ) (kK:lat<s.bc.length) (hk:n.kind=1∨0<n.kids.length) (hc:n.bI≤100000) (hw:n.wt≤aE) :
    ak prog 65 [.agg s.enc,.int .i64 (lat:Nat),.agg n.enc] σ fun v σ' => v = .agg (nw s lat n).enc∧σ' = σ:=by
  refine aeq.calls ?_;simp only[aI,N4,ER,Nat.reduceAdd,Int.reduceNeg,bg.af]
  by_cases h1:n.kind=1
  · simp only[am,Int.reduceNeg,ar.af,Nd.fl,aC h1];refine cl (sq s n.text σ hs.1 hs.2.1) ?_;simp only[am,Int.reduceNeg,bg.af];exact aF (v:=.agg (bg.mk (cp (iy s.vars n.text)) .zero).enc) bg.cx (ab.aS _) ⟨by rw[nw,aw h1];simp only[V.erase,bg.cw],rfl⟩
  have hk:0<n.kids.length:=hk.resolve_left h1;have hm:n.kids[0]∈n.kids:=eZ _;have tM:=ny hm;have tN:=l7 hm;simp only[am,Nat.reduceAdd,bQ,Int.reduceNeg,Nat.reduceLT,ar.af,aA h1];refine bx (by omega) (yw kK) ?_;simp only[am,Int.reduceNeg,ar.af,Nd.fl];refine bx (n:=0) (by omega) (l_ (j:=0) (cc hk)) ?_;simp only[am,Int.reduceNeg,a_.af,Nd.af];refine bh.intro (Gb s.bc[lat].shape n.kids[0] hg (hs.2.2 _ (eZ kK)) (fun m hm=>by obtain⟨a,b,c⟩:=I_ (n:=n.kids[0]) (by omega) m hm;exact⟨by omega,by omega,fun q hq=>by have:=c q hq;omega⟩) (by omega)) ?_;have ee:nw s lat n=⟨-1,(fS s.bc[lat].shape n.kids[0]).1⟩:=by rw[nw,ah h1,JS kK,nF hk]
  generalize fS s.bc[lat].shape n.kids[0]=g at ee;obtain⟨e,o⟩:=g;cases o with
  | none =>
    simp only[am,Nat.reduceAdd,Int.reduceNeg,aN.af,bg.af,show qD none=[.int .i64 0,.int .i64 0] from rfl];exact aF (v:=.agg (bg.mk (-1) e).enc) bg.cx (ab.aS _) ⟨by rw[ee];simp only[V.erase,bg.cw],rfl⟩
  | some q =>
    simp only[am,Nat.reduceAdd,Int.reduceNeg,aN.af,bg.af,show qD (some q)=[.int .i64 4,.int .i64 q] from rfl];exact aF (v:=.agg (bg.mk (-1) e).enc) bg.cx (ab.aS _) ⟨by rw[ee];simp only[V.erase,bg.cw],rfl⟩
theorem Qn (s:ar) (lat:Nat) (n:Nd) {σ:ab} (hs:s.ok) (hg:TZ σ) (kK:lat<s.bc.length) (hk:∀k∈n.kids,P9 k) (hn1:n.names.length≤1) (hc:n.bI≤100000) (hw:n.wt≤aE) :
    ak prog 66 [.agg s.enc,.int .i64 (lat:Nat),.agg n.enc] σ fun v σ' => v = .agg (j9 s lat n).enc∧σ' = σ:=by
  refine aer.calls ?_;simp only[aI,N5,ER,Nat.reduceAdd,Int.reduceNeg,bB.af]
  by_cases h1:n.kind=1
  · simp only[am,Int.reduceNeg,ar.af,Nd.fl,aC h1];refine cl (sq s n.text σ hs.1 hs.2.1) ?_;simp only[am,Nat.reduceAdd,Int.reduceNeg];exact aF rfl (ab.aS _) ⟨by rw[j9,aw h1];rfl,rfl⟩
  simp only[am,aD,Int.reduceNeg,Nd.fl,aD,aA h1];have Ao:=u9 n;obtain⟨Q,hQ⟩:∃Q:Nat→List (List V),∀i,Q i=((n.kids.take i).map (qC s lat)).map bB.enc:=⟨_,fun _=>rfl⟩;have zZ:Q 0=[]:=by rw[hQ];rfl
  have GQ:Q n.kids.length=(n.kids.map (qC s lat)).map bB.enc:=by rw[hQ,dv]
  have z_:∀{i:Nat},i≤n.kids.length→(Q i).length=i:=fun {i} hi=>by rw[hQ];simp;omega
  have vo:∀{i:Nat} (hi:i<n.kids.length) (h1:0<n.kids[i].kids.length),Q (i+1)=Q i++[(bB.mk n.kids[i].text (nw s lat n.kids[i].kids[0])).enc]:=fun {i} hi h1=>by
    rw[hQ,hQ,jV hi,fw,fw,BZ,BZ,qC,nF h1]
  obtain⟨F,hF⟩:∃F:Nat→Nat→St,∀i τ,F i τ=⟨[.any,.int .i64 (lat:Nat),.any,.ptr (.loc 0) 0,.any,.ptr (.loc 1) 0,.ptr (.loc 2) 0,.ptr (.loc 3) 0,.any,.any,.any,.any,.any,.any,.any,.any,.any,.any,.any,.any,.any,.any,.any,.any,.any,.any,.sl .no 5 (n.kids.map Nd.enc),.int .i64 (n.kids.length:Nat),.int .i64 (i:Nat)]++List.replicate 36 .any,[s.enc,n.enc,[.sl .full 10 [],.int .i64 0],[.sl (.tk τ) 10 (Q i),.int .i64 (-1)]],σ.aK τ i⟩:=⟨_,fun _ _=>rfl⟩;obtain⟨JF,aO⟩:∃JF:Nat→Nat→Prop,∀i τ,JF i τ=(σ.aB τ=none):=⟨_,fun _ _=>rfl⟩;refine db (n.kids.length) F JF _ aO ?_ ?_ ?_
  · refine PL 0 fun τ ba=>⟨τ,Eq.mpr (aO _ _) ba,?_,?_,?_⟩
    all_goals simp[hF,List.replicate,mQ,Sp,zZ]
  · rintro i τ hi ba;have hm:n.kids[i]∈n.kids:=eZ _;have tM:=ny hm;have tN:=l7 hm;obtain⟨tK,oB⟩:=hk _ hm;have yg:n.kids[i].kids[0]∈n.kids[i].kids:=eZ _;have af2:=ny yg;have af3:=l7 yg;have tI:TZ (σ.aK τ i):=hg;have hlen:=z_ (Fu hi);simp only[hF,List.replicate,am,c8 hi,Int.reduceNeg];refine bx (by omega) (l_ (cc hi)) ?_;simp only[ER,Nat.reduceAdd,Int.reduceNeg];refine bx (n:=0) (by omega) (l_ (j:=0) (cc tK)) ?_;simp only[am,Int.reduceNeg,ar.af,Nd.af];refine bh.intro (PZ s lat n.kids[i].kids[0] hs tI kK (oB _ yg) (by omega) (by omega)) ?_;simp only[am,Int.reduceNeg,bg.af,bB.af];refine zm (by rw[hlen];simp[aE];omega) (by rw[hlen];exact kv) ?_;rw[hlen];simp only[am,aM,Int.reduceNeg,Nd.fl,ji,ca hi (by omega),jn];refine eK (τ) hi ?_ ?_ ?_ ?_ ?_ ?_
    · exact Eq.mpr (aO _ _) (ba)
    all_goals simp[hF,List.replicate,am,bj,bn,cK,V.lo,vo hi tK,ar.bO,Nd.bO]
  · rintro τ ba;have hlen:=z_ (bt _);have hnc:=zz n;simp only[hF,List.replicate,am,aM,c9,aM,Int.reduceNeg,Nd.fl,aD];obtain⟨F2,dG⟩:∃F2:Nat→Unit→St,∀j y,F2 j y=⟨[.any,.any,.any,.ptr (.loc 0) 0,.any,.any,.ptr (.loc 2) 0,.ptr (.loc 3) 0,.any,.any,.any,.any,.any,.any,.any,.any,.any,.any,.any,.any,.any,.any,.any,.any,.any,.any,.any,.any,.any,.any,.any,.any,.any,.any,.any,.any,.any,.any,.any,.any,.any,.any,.any,.any,.any,.any,.any,.any,.any,.sl .no 2 (n.names.map Word.enc),.int .i64 (n.names.length:Nat),.int .i64 (j:Nat)]++List.replicate 13 .any,[s.enc,n.enc,[.sl .full 10 [],.int .i64 0],[.sl (.tk τ) 10 (Q n.kids.length),.int .i64 (wz s (n.names.take j))]],σ.aK τ n.kids.length⟩:=⟨_,fun _ _=>rfl⟩;obtain⟨ga,fT⟩:∃ga:Nat→Unit→Prop,∀j y,ga j y=(True):=⟨_,fun _ _=>rfl⟩;refine db (n.names.length) F2 ga _ fT ?_ ?_ ?_
    · refine dA (()) ?_ ?_ ?_ ?_
      · exact Eq.mpr (fT _ _) (trivial)
      all_goals simp[dG,List.replicate,am,bj,wz]
    · rintro j y hj -;obtain rfl:j=0:=by omega
      have et:=an5 (s:=s) hj;simp only[dG,List.replicate,am,c8 hj];refine bx (by omega) (y4 hj) ?_;simp only[am,Nat.reduceAdd,uG,ar.af,Word.af];refine cl (sq s n.names[0].text _ hs.1 hs.2.1) ?_;simp only[am,aM,ca hj (by omega)];refine eK (()) hj ?_ ?_ ?_ ?_ ?_ ?_
      · exact Eq.mpr (fT _ _) (trivial)
      all_goals simp[dG,List.replicate,am,bj,bn,cK,V.lo,et,ar.bO,Nd.bO]
    · rintro y -;simp only[dG,List.replicate,am,aM,c9,Nat.reduceAdd,aM,dv,GQ];have e:j9 s lat n=⟨n.kids.map (qC s lat),wz s n.names⟩:=by rw[j9,ah h1]
      refine aF rfl (pY ba) ⟨by rw[e];rfl,rfl⟩
def MT:AC:=.seq (.aa [⟨(some 2),.box 2 (.s 0),none⟩,⟨(some 3),.box 17 (.s 1),none⟩,⟨(some 4),.alloc ju,none⟩,⟨(some 5),.mv (.c (.bool false)),none⟩])
 (.seq (.seq (.aa [xf 0 9 3,xo 10 9,xB .lss 11 10 8,U 12 11,xh 12 (xf 0 13 3),xh 12 (xo 14 13),xh 12 (xB .gtr 15 14 10),⟨(some 16),.pick (.s 12) (.c (.bool true)) (.s 15),none⟩,U 17 16,xh 17 (xl 17 18 3),xh 17 (xc 62 19 [.s 18]),⟨(some 20),.not (.s 19),(some (17,false))⟩,⟨(some 21),.pick (.s 17) (.c (.bool true)) (.s 20),none⟩,U 22 21,xh 22 (xl 2 23 2),xh 22 (xl 17 24 3),xh 22 (xc 20 25 [.s 23,.s 24]),xh 22 (xw 0 26 25),xh 22 (xB .neq 27 26 0),⟨(some 28),.pick (.s 22) (.c (.bool true)) (.s 27),none⟩])
 (.cond (.s 28) (.seq (.aa [⟨(some 29),.build ju [],none⟩,xs 18 4 29,⟨(some 5),.mv (.c (.bool false)),none⟩])
 (.ret))
 (.skip)))
 (.seq (.aa [xl 2 31 2,xf 2 32 3,xf 0 33 32,xo 34 33,xc 63 35 [.s 31,.s 34],U 30 35,xe 36 30 0,xe 37 30 1,U 6 36,U 7 37])
 (.seq (.aa [xf 0 38 3,xo 39 38,U 40 6,⟨(some 41),.build ju [(0,1,(.s 39)),(1,1,(.s 40))],none⟩,⟨(some 8),.alloc ju,none⟩,xs 18 8 41])
 (.seq (.seq (.aa [xf 0 42 3,xo 43 42])
 (.block 0 (.seq (.aa [xB .eql 45 43 8,U 44 45])
 (.cond (.s 44) (.seq (.aa [xl 2 47 2,U 48 6,xf 7 49 3,xl 5 50 49,xc 64 51 [.s 47,.s 48,.s 50],U 46 51,xe 52 46 0,xe 53 46 1,xf 2 54 8,xs 1 54 52])
 (.aa [xl 2 55 2,U 56 6,xf 12 57 3,xl 5 58 57,xc 65 59 [.s 55,.s 56,.s 58],xf 3 60 8,xs 9 60 59]))
 (.seq (.aa [xB .eql 62 43 9,U 61 62])
 (.cond (.s 61) (.draw [(xl 2 63 2,[]),(U 64 6,[]),(xf 7 65 3,[]),(xl 5 66 65,[]),(xc 66 67 [.s 63,.s 64,.s 66],[]),(xl 2 68 2,[0]),(U 69 6,[]),(xf 12 70 3,[]),(xl 5 71 70,[0]),(xc 66 72 [.s 68,.s 69,.s 71],[]),(xf 12 73 8,[]),(xs 2 73 67,[]),(xf 14 74 8,[]),(xs 2 74 72,[])])
 (.seq (.aa [xB .eql 76 43 10,U 75 76])
 (.cond (.s 75) (.draw [(U 77 7,[]),(xf 1 78 2,[]),(xo 79 78,[1]),(U 80 7,[]),(xA 3 81 79 80,[]),(xf 2 82 81,[]),(xo 83 82,[1]),(xf 4 84 3,[]),(xo 85 84,[1,2]),(⟨(some 86),.jH 2 (.s 85) (.c (.int .i64 0)),none⟩,[]),(xf 0 87 86,[]),(xo 88 87,[1,2]),(xf 16 89 8,[]),(xs 1 89 77,[]),(xf 1 90 8,[]),(xs 1 90 83,[]),(xf 17 91 8,[]),(xs 1 91 88,[])])
 (.skip)))))))))
 (.seq (.aa [xl 18 92 8,xs 18 4 92,⟨(some 5),.mv (.c (.bool true)),none⟩])
 (.ret))))))
theorem adn:aJ prog 23 MT [.cell 4 true 18,.tmp 5] 93:=⟨f23,⟨[],[],[]⟩,func23,by kernel_rfl,by kernel_rfl,by kernel_rfl,by kernel_rfl⟩
def u0 (s:ar) (c:aj):V:=.aT [.agg (if iI s c then kF s c else .zero).enc,.bool (iI s c)]
theorem abi (s:ar) (c:aj) {σ:ab} (hs:s.ok) (hg:TZ σ) (lz:σ.bH 0=some fq) (hn:c.names.length+1≤aE) (hp:c.aY.length+1≤aE) (hl:c.left.bI≤100000) (hr:c.right.bI≤100000) (vH:c.left.wt≤aE) (r8:c.right.wt≤aE) :
    ak prog 23 [.agg s.enc,.agg c.enc] σ fun v σ' => v=u0 s c∧σ' = σ:=by
  have no:∀(t:List V) (lo:List (List V)),iI s c=false→mB (fun v σ' => v=u0 s c∧σ' = σ) ⟨t,lo,σ⟩ (.aT [.agg (bM 0 0 (.sl .full 10 []) .zero (.sl .full 10 []) 0 (.sl .full 10 []) 0 0 []),.bool false]):=fun t lo h=>by
    refine aF (by simp only[V.bS,bd,rq];exact Cj rfl rfl rfl) (ab.aS _) ⟨?_,rfl⟩;rw[u0,h];simp only[V.erase,aX,Ci];rfl
  have yes:∀(t:List V) (lo:List (List V)) (op lat:Int) (cd:V) (to:bg) (fa:V) (ta:Int) (fb:V) (tb v:Int) (f:List UInt8),iI s c=true→cd.bS=true→fa.bS=true→fb.bS=true→bM op lat cd.erase to fa.erase ta fb.erase tb v f=(kF s c).enc→mB (fun v σ' => v=u0 s c∧σ' = σ) ⟨t,lo,σ⟩ (.aT [.agg (bM op lat cd to fa ta fb tb v f),.bool true]):=fun t lo op lat cd to fa ta fb tb v f h n1 n2 n3 hx=>by
    refine aF (by simp only[V.bS,bd,rq];exact Cj n1 n2 n3) (ab.aS _) ⟨?_,rfl⟩;rw[u0,h];simp only[V.erase,aX,Ci,hx];rfl
  refine adn.calls ?_;simp only[aI,MT,am,aP,Nat.reduceAdd,ar.af,ju,dx,eQ]
  by_cases o1:c.op<8
  · simp only[am,gi,aC o1];exact no _ _ (by simp[iI];omega)
  simp only[am,eQ,aA o1]
  by_cases o2:10<c.op
  · simp only[am,gi,aC o2];exact no _ _ (by simp[iI];omega)
  simp only[am,dx,aA o2];refine cl (YN c lz hn hp vH r8) ?_;cases hq:c.mn with
  | false =>
    simp only[am,gi];exact no _ _ (by simp[iI,hq])
  | true =>
    simp only[am,ar.af,dx];refine cl (P6 s c hs hg hl hr vH r8) ?_;simp only[am,au.af]
    by_cases hf:(fI s c).cls=0
    case neg =>
      simp only[am,gi,aA hf];exact no _ _ (by simp[iI,hf])
    have hA:iI s c=true:=by simp only[iI,hq,hf,bQ,rq,bm,cq];omega
    have hF:=RQ.1 hA;simp only[am,ar.af,cC,aC hf];refine cl (sq s c.name.text σ hs.1 hs.2.1) ?_;simp only[am,Nat.reduceAdd,gi,eQ,w_ (op:=c.op) (lat:=cp (gR s.bc c.name.text)) (c:=.sl .full 10 []) (to:=.zero) (fa:=.sl .full 10 []) (ta:=0) (fb:=.sl .full 10 []) (tb:=0) (v:=0) (f:=[]) rfl rfl rfl]
    by_cases h8:c.op=8
    · simp only[am,ar.af,Nd.af,cC,aC h8];obtain⟨k,hk,ag⟩:=hF.bP (.inl h8);have iY : cp (gR s.bc c.name.text)=(k:Nat):=hk;rw[iY];refine cl (Yg s k c.left hg hs vH (by omega)) ?_;simp only[am,ar.af,gi,Nd.af,cC,FZ];refine cl (PZ s k c.right hs hg ag ?_ (by omega) r8) ?_
      · rcases hF.right h8 with h | h
        · exact .inl h
        · exact .inr (by rw[AQ (hF.labels h8).2 h];omega)
      simp only[am,bg.af,gi,w_ (op:=c.op) (lat:=k) (c:=.sl .no 10 (((kd s k c.left).getD []).map aW.enc)) (to:=nw s k c.right) (fa:=.sl .full 10 []) (ta:=0) (fb:=.sl .full 10 []) (tb:=0) (v:=0) (f:=[]) rfl rfl rfl];refine yes _ _ _ _ _ _ _ _ _ _ _ _ hA rfl rfl rfl ?_;rw[kF,aw h8,hk,h8];rfl
    simp only[am,aA h8]
    by_cases h9:c.op=9
    · simp only[am,ar.af,Nd.af,cC,aC h9];obtain⟨k,hk,ag⟩:=hF.bP (.inr h9);have iY : cp (gR s.bc c.name.text)=(k:Nat):=hk;rw[iY];obtain⟨q1,q2⟩:=hF.rows h9;refine bh.intro (Qn s k c.left hs hg ag (Ei q1) (T8 q1) (by omega) vH) ?_;simp only[am,ar.af,Nd.af,cC];refine bh.intro (Qn s k c.right hs hg ag (Ei q2) (T8 q2) (by omega) r8) ?_;simp only[am,ar.af,df.af,gi,cC,w_ (op:=c.op) (lat:=k) (c:=.sl .full 10 []) (to:=.zero) (fa:=.sl .no 10 ((j9 s k c.left).fs.map bB.enc)) (ta:=(j9 s k c.left).tail) (fb:=.sl .no 10 ((j9 s k c.right).fs.map bB.enc)) (tb:=(j9 s k c.right).tail) (v:=0) (f:=[]) rfl rfl rfl];refine yes _ _ _ _ _ _ _ _ _ _ _ _ hA rfl rfl rfl ?_;rw[kF,ah h8,aw h9,hk,h9];rfl
    have gd:c.op=10:=by omega
    simp only[am,ar.af,aA h9,aC gd];obtain⟨v,hv,Dp,qP⟩:=hF.var gd;obtain⟨w,hw,_⟩:=hF.one gd;rw[Dp];simp only[Int.reduceNeg,cp];refine bx (by omega) (yU hv) ?_;simp only[am,Int.reduceNeg,ar.af,cC];have Dq:0<c.names.length:=by rw[hw];simp
    refine bx (n:=0) (by omega) (y4 (l:=c.names) (j:=0) Dq) ?_;simp only[am,Int.reduceNeg,uG,ar.af,gi,cC,w_ (op:=c.op) (lat:=s.vars[v].lat) (c:=.sl .full 10 []) (to:=.zero) (fa:=.sl .full 10 []) (ta:=0) (fb:=.sl .full 10 []) (tb:=0) (v:=v) (f:=c.names[0].text) rfl rfl rfl];refine yes _ _ _ _ _ _ _ _ _ _ _ _ hA rfl rfl rfl ?_;rw[kF,ah h8,ah h9,Dp,Vu,cc hv,nF Dq,gd];rfl
def N9:AC:=.seq (.aa [⟨(some 3),.box 2 (.s 0),none⟩,⟨(some 4),.box 3 (.s 1),none⟩,⟨(some 6),.alloc [(.int .i64 0),(.int .i64 0),(.str []),(.int .i64 0),(.sl .full 2 []),(.sl .full 4 []),(.int .i64 0),(.int .i64 0),(.int .i64 0),(.str []),(.sl .full 2 []),(.sl .full 5 []),(.int .i64 0),(.int .i64 0),(.str []),(.sl .full 2 []),(.sl .full 5 [])],none⟩,⟨(some 7),.alloc ju,none⟩,⟨(some 8),.alloc [(.int .i64 0),(.int .i64 0)],none⟩])
 (.seq (.aa [U 15 2,xc 18 16 [.s 15],U 14 16,xe 17 14 0,xe 18 14 1,⟨(some 9),.alloc [(.int .i64 0),(.int .i64 0),(.str []),(.int .i64 0),(.sl .full 2 []),(.sl .full 4 []),(.int .i64 0),(.int .i64 0),(.int .i64 0),(.str []),(.sl .full 2 []),(.sl .full 5 []),(.int .i64 0),(.int .i64 0),(.str []),(.sl .full 2 []),(.sl .full 5 [])],none⟩,⟨(some 10),.alloc [(.int .i64 0),(.int .i64 0)],none⟩,xs 17 9 17,xs 2 10 18])
 (.seq (.seq (.aa [xf 0 19 10,xo 20 19,xB .neq 21 20 0])
 (.cond (.s 21) (.seq (.draw [(⟨(some 22),.build [(.int .i64 0),(.int .i64 0),(.str []),(.int .i64 0),(.sl .full 2 []),(.sl .full 4 []),(.int .i64 0),(.int .i64 0),(.int .i64 0),(.str []),(.sl .full 2 []),(.sl .full 5 []),(.int .i64 0),(.int .i64 0),(.str []),(.sl .full 2 []),(.sl .full 5 [])] [],none⟩,[]),(⟨(some 23),.build ju [],none⟩,[]),(xl 2 24 10,[1,2]),(xs 17 6 22,[]),(xs 18 7 23,[]),(xs 2 8 24,[])])
 (.ret))
 (.skip)))
 (.seq (.draw [(xl 2 25 3,[]),(xl 17 26 9,[]),(xc 19 27 [.s 25,.s 26],[]),(xl 2 28 3,[0]),(xl 17 29 9,[0]),(xc 20 30 [.s 28,.s 29],[]),(⟨(some 31),.cB 2 [(.s 27),(.s 30)],none⟩,[]),(U 11 31,[])])
 (.seq (.seq (.aa [xl 3 32 4,xl 17 33 9,xc 21 34 [.s 32,.s 33]])
 (.cond (.s 34) (.aa [U 35 11,xf 1 36 9,xo 37 36,⟨(some 38),.build [(.int .i64 0),(.int .i64 0)] [(0,1,(.c (.int .i64 7))),(1,1,(.s 37))],none⟩,⟨(some 39),.cB 2 [(.s 38)],none⟩,xa 2 40 35 39,U 11 40])
 (.skip)))
 (.seq (.seq (.aa [xf 0 41 9,xo 42 41,xB .eql 43 42 12,U 44 43,xg 44 (xf 2 45 4),xg 44 (xo 46 45),xg 44 (xB .leq 47 46 1),⟨(some 48),.pick (.s 44) (.s 47) (.c (.bool false)),none⟩])
 (.cond (.s 48) (.aa [U 49 11,xf 1 50 9,xo 51 50,⟨(some 52),.build [(.int .i64 0),(.int .i64 0)] [(0,1,(.c (.int .i64 8))),(1,1,(.s 51))],none⟩,⟨(some 53),.cB 2 [(.s 52)],none⟩,xa 2 54 49 53,U 11 54])
 (.skip)))
 (.seq (.seq (.aa [U 55 11,xc 22 56 [.s 55],xs 2 10 56])
 (.seq (.aa [xf 0 57 10,xo 58 57,xB .neq 59 58 0])
 (.cond (.s 59) (.seq (.draw [(⟨(some 60),.build [(.int .i64 0),(.int .i64 0),(.str []),(.int .i64 0),(.sl .full 2 []),(.sl .full 4 []),(.int .i64 0),(.int .i64 0),(.int .i64 0),(.str []),(.sl .full 2 []),(.sl .full 5 []),(.int .i64 0),(.int .i64 0),(.str []),(.sl .full 2 []),(.sl .full 5 [])] [],none⟩,[]),(⟨(some 61),.build ju [],none⟩,[]),(xl 2 62 10,[1,2]),(xs 17 6 60,[]),(xs 18 7 61,[]),(xs 2 8 62,[])])
 (.ret))
 (.skip))))
 (.seq (.aa [xl 2 64 3,xl 17 65 9,xc 23 66 [.s 64,.s 65],U 63 66,xe 67 63 0,xe 68 63 1,⟨(some 12),.alloc ju,none⟩,xs 18 12 67,U 13 68])
 (.seq (.draw [(xl 17 69 9,[]),(xl 18 70 12,[1]),(⟨(some 71),.build [(.int .i64 0),(.int .i64 0)] [],none⟩,[]),(xs 17 6 69,[]),(xs 18 7 70,[]),(xs 2 8 71,[])])
 (.ret)))))))))
theorem fn9:aJ prog 9 N9 [.cell 6 true 17,.cell 7 true 18,.cell 8 true 2] 72:=⟨f9,⟨[],[],[]⟩,func9,by kernel_rfl,by kernel_rfl,by kernel_rfl,by kernel_rfl⟩
def LN:AC:=.seq (.aa [⟨(some 2),.mv (.c (.bool false)),none⟩])
 (.seq (.aa [U 3 0,xB .geq 4 3 1,U 5 4,xg 5 (U 6 0),xg 5 (xB .leq 7 6 10),⟨(some 8),.pick (.s 5) (.s 7) (.c (.bool false)),none⟩,U 2 8])
 (.ret))
theorem acb:aJ prog 13 LN [.tmp 2] 9:=⟨f13,⟨[],[],[]⟩,func13,by kernel_rfl,by kernel_rfl,by kernel_rfl,by kernel_rfl⟩
def Mw:AC:=.seq (.aa [⟨(some 2),.box 3 (.s 0),none⟩,⟨(some 3),.box 17 (.s 1),none⟩,⟨(some 4),.mv (.c (.bool false)),none⟩])
 (.seq (.seq (.aa [xf 0 6 3,xo 7 6,xc 13 8 [.s 7]])
 (.cond (.s 8) (.seq (.aa [xl 17 9 3,xc 15 10 [.s 9],xT 11 10,U 5 11])
 (.seq (.aa [U 12 5,xB .gtr 13 12 1024,U 14 13,xh 14 (xf 0 15 2),xh 14 (xo 16 15),xh 14 (U 17 5),⟨(some 18),.de .sub (.c (.int .i64 16383)) (.s 17),(some (14,false))⟩,xh 14 (xb .gtr 19 16 18),⟨(some 20),.pick (.s 14) (.c (.bool true)) (.s 19),none⟩])
 (.cond (.s 20) (.seq (.aa [⟨(some 4),.mv (.c (.bool true)),none⟩])
 (.ret))
 (.skip))))
 (.skip)))
 (.seq (.aa [xf 0 21 3,xo 22 21,xc 61 23 [.s 22],U 24 23,xg 24 (xf 1 25 2),xg 24 (xo 26 25),xg 24 (xB .geq 27 26 64),⟨(some 28),.pick (.s 24) (.s 27) (.c (.bool false)),none⟩,U 29 28,xh 29 (xf 0 30 3),xh 29 (xo 31 30),xh 29 (xB .eql 32 31 11),xh 29 (U 33 32),xg 33 (xf 2 34 2),xg 33 (xo 35 34),xg 33 (xB .geq 36 35 16),⟨(some 37),.pick (.s 33) (.s 36) (.c (.bool false)),(some (29,false))⟩,⟨(some 38),.pick (.s 29) (.c (.bool true)) (.s 37),none⟩,U 4 38])
 (.ret)))
theorem acX:aJ prog 21 Mw [.tmp 4] 39:=⟨f21,⟨[],[],[]⟩,func21,by kernel_rfl,by kernel_rfl,by kernel_rfl,by kernel_rfl⟩
def N0:AC:=.seq (.aa [⟨(some 2),.mv (.c (.bool false)),none⟩])
 (.seq (.aa [U 3 0,xB .geq 4 3 8,U 5 4,xg 5 (U 6 0),xg 5 (xB .leq 7 6 10),⟨(some 8),.pick (.s 5) (.s 7) (.c (.bool false)),none⟩,U 2 8])
 (.ret))
theorem aem:aJ prog 61 N0 [.tmp 2] 9:=⟨f61,⟨[],[],[]⟩,func61,by kernel_rfl,by kernel_rfl,by kernel_rfl,by kernel_rfl⟩
theorem anS (op:Int) (σ:ab):ak prog 13 [.int .i64 op] σ fun v σ' => v = .bool (uB op)∧σ' = σ:=by
  refine acb.calls ?_;simp only[aI,LN,am,aP]
  by_cases h:1≤op
  · simp only[am,aC h];refine az ?_;simp[V.erase,uB,h]
  · simp only[am,aA h];refine az ?_;simp[V.erase,uB,h]
theorem Ou (op:Int) (σ:ab):ak prog 61 [.int .i64 op] σ fun v σ' => v = .bool (uZ op)∧σ' = σ:=by
  refine aem.calls ?_;simp only[aI,N0,am,aP]
  by_cases h:8≤op
  · simp only[am,aC h];refine az ?_;simp[V.erase,uZ,h]
  · simp only[am,aA h];refine az ?_;simp[V.erase,uZ,h]
def ES:=And.intro @am <| And.intro @lP <| And.intro @bV <| And.intro @ix <| And.intro @bQ <| And.intro @eT <| And.intro @aM <| And.intro @Rl.af <| And.intro @aV.af <| And.intro @ar.af <| And.intro @a_.af <| And.intro @Word.af <| And.intro @iv <| And.intro @og @qk
theorem ahX (r:Rm) (c:aj) {σ:ab} (lz:σ.bH 0=some fq) (hw:16*c.wt+64≤aE):ak prog 21 [.agg r.enc,.agg c.enc] σ fun v σ' => v = .bool (j4 r c)∧σ' = σ:=by
  have tail:∀B:Bool,(uB c.op&&(decide (1024<((na c).length:Int))||decide (IntKind.i64.wrap (16383 - (na c).length)<r.bytes)))=false→B=((uZ c.op&&decide (64≤r.Ch))||(decide (c.op=11)&&decide (16≤r.frames)))→B=j4 r c:=fun B h e=>by
    rw[e,j4,h,wL]
  refine acX.calls ?_;simp only[aI,Mw,am,aP,Nat.reduceAdd,Rm.af,dx,eQ];refine cl (anS c.op σ) ?_;cases hs:uB c.op with
  | true =>
    rw[hs,lJ] at tail;simp only[am,dx];refine cl (Zi c lz hw) ?_;simp only[am];have yes:(decide (1024<((na c).length:Int))||decide (IntKind.i64.wrap (16383 - (na c).length)<r.bytes))=true→j4 r c=true:=fun h=>by rw[j4,hs,h];rfl
    cases h1:decide (1024<((na c).length:Int)) with
    | true =>
      simp only[am];refine az ?_;simp[V.erase,yes (by rw[h1];rfl)]
    | false =>
      cases h2:decide (IntKind.i64.wrap (16383 - (na c).length)<r.bytes) with
      | true =>
        simp only[am,Rm.af,h2];refine az ?_;simp[V.erase,yes (by rw[h1,h2];rfl)]
      | false =>
        have tl:=fun B=>tail B (by rw[h1,h2];rfl)
        simp only[am,Rm.af,eQ,h2];refine cl (Ou c.op σ) ?_;simp only[am]
        repeat' (first
          | (refine iW (fun h=>?_) (fun h=>?_)<;>simp only[am,h,Rm.af,eQ])
          | (refine fk (fun h=>?_) (fun h=>?_)<;>simp only[ES,h,Nat.reduceAdd,Nat.reduceEqDiff,aD,Int.reduceNeg,fO,dP,dD,Int.reduceEq,Int.reduceLT,Int.reduceLE,Int.reduceGE,Nat.reduceLT,Int.reduceToNat,Nat.reduceMul,ey,reduceCtorEq,au.af,Rm.af,dx,eQ,cC,qv,gi,ju])
          | (refine je (fun h=>?_) (fun h=>?_)<;>simp only[ES,h,Nat.reduceAdd,Nat.reduceEqDiff,aD,Int.reduceNeg,fO,dP,dD,Int.reduceEq,Int.reduceLT,Int.reduceLE,Int.reduceGE,Nat.reduceLT,Int.reduceToNat,Nat.reduceMul,ey,reduceCtorEq,au.af,Rm.af,dx,eQ,cC,qv,gi,ju])
        )
        all_goals refine az ?_
        all_goals simp only[V.erase]
        all_goals refine gj V.bool (tl _ ?_)
        all_goals clear tl tail hw lz
        all_goals simp[*]
  | false =>
    have tl:=fun B=>tail B (by rw[hs];rfl)
    simp only[am,eQ];refine cl (Ou c.op σ) ?_;simp only[am]
    repeat' (first
      | (refine iW (fun h=>?_) (fun h=>?_)<;>simp only[am,h,Rm.af,eQ])
      | (refine fk (fun h=>?_) (fun h=>?_)<;>simp only[ES,h,Nat.reduceAdd,Nat.reduceEqDiff,aD,Int.reduceNeg,fO,dP,dD,Int.reduceEq,Int.reduceLT,Int.reduceLE,Int.reduceGE,Nat.reduceLT,Int.reduceToNat,Nat.reduceMul,ey,reduceCtorEq,au.af,Rm.af,dx,eQ,cC,qv,gi,ju])
      | (refine je (fun h=>?_) (fun h=>?_)<;>simp only[ES,h,Nat.reduceAdd,Nat.reduceEqDiff,aD,Int.reduceNeg,fO,dP,dD,Int.reduceEq,Int.reduceLT,Int.reduceLE,Int.reduceGE,Nat.reduceLT,Int.reduceToNat,Nat.reduceMul,ey,reduceCtorEq,au.af,Rm.af,dx,eQ,cC,qv,gi,ju])
    )
    all_goals refine az ?_
    all_goals simp only[V.erase]
    all_goals refine gj V.bool (tl _ ?_)
    all_goals clear tl tail hw lz
    all_goals simp[*]
theorem Oy:bA (bM 0 0 (.sl .full 10 []) .zero (.sl .full 10 []) 0 (.sl .full 10 []) 0 0 [])=true:=w_ rfl rfl rfl
theorem Wz:aX (bM 0 0 (.sl .full 10 []) .zero (.sl .full 10 []) 0 (.sl .full 10 []) 0 0 [])=iu.zero.enc:=by rw[Ci];rfl
theorem WA:bd (bM 0 0 (.sl .full 10 []) .zero (.sl .full 10 []) 0 (.sl .full 10 []) 0 0 [])=true:=Cj rfl rfl rfl
theorem Ox (x:iu):bA x.enc=true:=w_ rfl rfl rfl
def vQ (x:aj × iu × au):V:=.aT [.agg x.1.enc,.agg x.2.1.enc,.agg x.2.2.enc]
structure Wb (c:aj):Prop where
  n:c.names.length≤100000
  p:c.aY.length≤100000
  l:c.left.bI≤100000
  r:c.right.bI≤100000
  wl:c.left.wt≤aE
  wr:c.right.wt≤aE
  w:16*c.wt+64≤aE
theorem IX {t:List UInt8} (ht:t.length≤3000):Wb (cS t).1:=by
  have hb:=amh t;generalize (cS t).1=c at hb;have h1:=hb.ns;have h2:=hb.ps;have h3:=hb.l;have h4:=hb.r;have h5:=hb.nm;have h6:=hb.pt;have h7:=(Jf c.names).2;have h8:=Cx c.left;have h9:=Cx c.right;have hbig:aE=268435456:=rfl;have hcw:c.wt=c.name.text.length+di c.names+ig c.aY+c.left.wt+c.right.wt:=rfl;exact⟨by omega,by omega,by omega,by omega,by omega,by omega,by omega⟩
theorem Dy (s:ar) (r:Rm) (t:List UInt8) {σ:ab} (hs:s.yC) (hg:TZ σ) (lz:σ.bH 0=some fq) (ht:t.length≤3000) :
    ak prog 9 [.agg s.enc,.agg r.enc,.str t] σ fun v σ' => v=vQ (gF s r t)∧σ' = σ:=by
  have hbig:aE=268435456:=rfl;have bw:=IX ht;have hm:=Sj t;have dV:=@Im s r t;have gm:=@Io s r t;have vK:=@DN s r t;refine fn9.calls ?_;simp only[aI,N9,am,aP,Nat.reduceAdd,ar.af,Rm.af,ju];refine cl (Ze t lz (by omega) (by rw[Vn];omega)) ?_;generalize cS t=R at bw dV gm vK;generalize gF s r t=X at dV gm vK;obtain⟨c,k,a⟩:=R;simp only at bw dV gm vK;obtain⟨Y,hY⟩:∃Y:iu,Y=(if iI s c=true then kF s c else .zero):=⟨_,rfl⟩;rw[←hY] at vK;obtain⟨A,hA⟩:∃A:List V,A=Y.enc:=⟨_,rfl⟩;have a1:A.length=18:=by rw[hA];exact ph
  have a2:takeN 18 A=some A:=by rw[hA];exact FI
  have a3:bA A=true:=by rw[hA];exact Ox Y
  have a4:bd A=true:=by rw[hA];exact iu.cx
  have a5:over (bM 0 0 (.sl .full 10 []) .zero (.sl .full 10 []) 0 (.sl .full 10 []) 0 0 []) A=A:=by rw[hA];exact pK (by rw[ph];exact ph.symm)
  have a6:aX A=Y.enc:=by rw[hA];exact iu.cw
  have hT:u0 s c = .aT [.agg A,.bool (iI s c)]:=by rw[u0,hA,hY]
  have cA:=abi s c (σ:=σ) hs.1 hg lz (by have:=bw.n;omega) (by have:=bw.p;omega) bw.l bw.r bw.wl bw.wr;rw[hT] at cA;have bad:∀(t:List V) (lo:List (List V)) (f:au),X=(.zero,.zero,f)→mB (fun v σ' => v=vQ X∧σ' = σ) ⟨t,lo,σ⟩ (.aT [.agg fE,.agg (bM 0 0 (.sl .full 10 []) .zero (.sl .full 10 []) 0 (.sl .full 10 []) 0 0 []),.agg f.enc]):=fun t lo f h=>by
    refine aF (by simp only[V.bS,bd,WA];rfl) (ab.aS _) ⟨?_,rfl⟩;rw[h,vQ];simp only[V.erase,aX,Wz];rfl
  simp only[am,Nat.reduceAdd,dx,Gp]
  by_cases hk:k=0
  case neg =>
    simp only[am,Nat.reduceAdd,gi,aA hk,Oy];exact bad _ _ ⟨k,a⟩ (dV hk)
  simp only[am,ar.af,dx,aC hk];refine bh.intro (anb s c hs hg bw.n bw.p) ?_;simp only[am,ar.af,dx];refine bh.intro (P6 s c hs.1 hg bw.l bw.r bw.wl bw.wr) ?_;simp only[am,au.af,ar.af,Rm.af,dx];refine cl (ahX r c lz bw.w) ?_;have kQ:(∃L,gp s r c=L∧j4 r c=true∧c.op≠12∧L=[kY s c,fI s c]++[⟨7,c.pos⟩])∨(∃L,gp s r c=L∧j4 r c=false∧c.op=12∧r.frames≤1∧L=[kY s c,fI s c]++[⟨8,c.pos⟩]) ∨
      (∃L,gp s r c=L∧j4 r c=false∧c.op=12∧¬r.frames≤1∧L=[kY s c,fI s c])∨(∃L,gp s r c=L∧j4 r c=false∧c.op≠12∧L=[kY s c,fI s c]):=by
    cases hl:j4 r c with
    | true =>
      have hp:=ahY hl;exact .inl ⟨_,rfl,rfl,hp,by simp[gp,hl,c_,hp]⟩
    | false =>
      by_cases zT:c.op=12
      · by_cases hf:r.frames≤1
        · exact .inr (.inl ⟨_,rfl,rfl,zT,hf,by simp[gp,hl,c_,zT,hf]⟩)
        · exact .inr (.inr (.inl ⟨_,rfl,rfl,zT,hf,by simp[gp,hl,c_,hf]⟩))
      · exact .inr (.inr (.inr ⟨_,rfl,rfl,zT,by simp[gp,hl,c_,zT]⟩))
  rcases kQ with ⟨L,hL,e1,e2,e3⟩ | ⟨L,hL,e1,e2,e4,e3⟩ | ⟨L,hL,e1,e2,e4,e3⟩ | ⟨L,hL,e1,e2,e3⟩
  case' inl =>
    simp only[am,Nat.reduceAdd,eQ,e1];refine FH (by simp[aE]) ?_;simp only[am,eQ,aA e2]
  case' inr.inl =>
    simp only[am,Nat.reduceAdd,Rm.af,eQ,e1,aC e2,aC e4];refine FH (by simp[aE]) ?_;simp only[am]
  case' inr.inr.inl =>
    simp only[am,Rm.af,eQ,e1,aC e2,aA e4]
  case' inr.inr.inr =>
    simp only[am,eQ,e1,aA e2]
  all_goals
    rw[hL] at gm vK;refine cl (ak.dh (as' := [.sl .no 2 (L.map au.enc)]) (tZ L _ (by rw[e3];simp)) ⟨by rw[e3];exact cz.no,trivial⟩ bC.rfl) ?_;generalize dg L=f at gm vK;simp only[am,au.af]
    by_cases hf:f.cls=0
    · simp only[am,ar.af,dx,aC hf];refine cl cA ?_;simp only[am,Nat.reduceAdd,dx,gi,a1,a2,a3,a5];refine aF (by simp only[V.bS,bd,a4];rfl) (ab.aS _) ⟨?_,rfl⟩;rw[vK hk hf,vQ];simp only[V.erase,aX,a6];rfl
    · simp only[am,Nat.reduceAdd,au.af,gi,aA hf,Oy];exact bad _ _ f (gm hk hf)
def ND:AC:=.seq (.aa [⟨(some 2),.eD 1 (.s 0),none⟩,⟨(some 3),.eD 1 (.s 1),none⟩,⟨(some 4),.mv (.c (.bool false)),none⟩])
 (.seq (.aa [xo 5 2,xL 6 5,xo 7 3,xL 8 7,xb .eql 9 6 8,U 10 9,xg 10 (xo 11 2),xg 10 (xL 12 11),⟨(some 13),.gG (.func 94) [] [(.s 2),(.s 3)],(some (10,true))⟩,xg 10 (xc 93 14 [.c (.int .i64 0),.s 12,.s 13]),xg 10 (xB .lss 15 14 0),⟨(some 16),.pick (.s 10) (.s 15) (.c (.bool false)),none⟩,U 4 16])
 (.ret))
theorem ad5:aJ prog 41 ND [.tmp 4] 17:=⟨f41,⟨[2,3],[],[]⟩,func41,by kernel_rfl,by kernel_rfl,by kernel_rfl,by kernel_rfl⟩
def Od:AC:=.seq (.aa [⟨(some 4),.mv (.c (.bool false)),none⟩])
 (.seq (.draw [(xo 5 1,[]),(U 6 0,[]),(xA 1 7 5 6,[]),(xo 8 7,[]),(xo 9 2,[]),(U 10 0,[]),(xA 1 11 9 10,[]),(xo 12 11,[]),(⟨(some 13),.gP .neq (.s 8) (.s 12),none⟩,[]),(U 4 13,[])])
 (.ret))
theorem aex:aJ prog 94 Od [.tmp 4] 14:=⟨f94,⟨[],[],[]⟩,func94,by kernel_rfl,by kernel_rfl,by kernel_rfl,by kernel_rfl⟩
theorem abF {a b:List (List UInt8)} (h:a.length=b.length):decide (cp ((List.range a.length).find? fun i=>decide (a.getD i []≠b.getD i []))<0)=decide (a=b):=by
  have e:∀o:Option Nat,cp o<0↔o=none:=fun o=>by
    cases o with
    | none=>simp[cp]
    | some k=>simp only[cp,reduceCtorEq,iff_false];omega
  rw[nB,e,BS];constructor
  · intro h';apply Fh h;intro i h1 h2
    have:=h' i (by simpa using h1)
    simpa [h1,h2] using this
  · rintro rfl k _;simp
theorem ajs {a b:List (List UInt8)} {i r q:Nat} {σ:ab} (hi:i<a.length) (hab:a.length=b.length) (hr:σ.box r=some [.sl .no 1 (eE a)]) (hq:σ.box q=some [.sl .no 1 (eE b)]) :
    ak prog 94 [.int .i64 (i:Nat),.ptr (.out r) 0,.ptr (.out q) 0] σ fun v σ' => v = .bool (decide (a.getD i []≠b.getD i []))∧σ' = σ:=by
  refine aex.calls ?_;simp only[aI,Od,am,aP,Nat.reduceAdd];simp only[am,hr];refine bx (by omega) (CD (cc hi)) ?_;simp only[am,hq];refine bx (by omega) (CD (cc (show i<b.length by omega))) ?_;simp only[am];have e1:a.getD i []=a[i]:=by simp[hi]
  have e2:b.getD i []=b[i]:=by simp[show i<b.length by omega]
  rw[e1,e2];refine az ?_;simp[V.erase]
theorem ajt (a b:List (List UInt8)) (σ:ab) (ha:a.length≤100000):ak prog 41 [.sl .no 1 (eE a),.sl .no 1 (eE b)] σ fun v σ' => v = .bool (decide (a=b))∧σ' = σ:=by
  refine ad5.calls ?_;simp only[aI,ND,am,aP,Nat.reduceAdd];refine gE fun r hr=>?_
  simp only[am];refine gE fun q hq=>?_
  have hrq:r≠q:=by rintro rfl;rw[ab.cH] at hq;simp at hq
  have b1:((σ.set r [.sl .no 1 (eE a)]).set q [.sl .no 1 (eE b)]).box r=some [.sl .no 1 (eE a)]:=by rw[ab.cN _ _ hrq,ab.cH]
  have b2:((σ.set r [.sl .no 1 (eE a)]).set q [.sl .no 1 (eE b)]).box q=some [.sl .no 1 (eE b)]:=ab.cH _ _ _;simp only[am,pn,b1];have ko:σ.sub ((σ.set r [.sl .no 1 (eE a)]).set q [.sl .no 1 (eE b)]):=by
    have h1:=fv (cs:=[.sl .no 1 (eE a)]) hr;have h2:=fv (cs:=[.sl .no 1 (eE b)]) hq;exact ab.wy h1 h2
  by_cases hl:a.length=b.length
  · simp only[am,pn,aC (show ((a.length:Nat):Int)=(b.length:Nat) by omega),b1];refine(Jb a.length ha _ _ rfl (fun i=>decide (a.getD i []≠b.getD i [])) _ fun i hi=>ajs hi hl b1 b2).mono ?_;rintro v _ ⟨rfl,rfl⟩;simp only[am,abF hl];refine aF rfl ko ⟨?_,rfl⟩;simp[V.erase]
  · simp only[am,aA (show ¬((a.length:Nat):Int)=(b.length:Nat) by omega)];refine aF rfl ko ⟨?_,rfl⟩
    have:¬a=b:=fun e=>hl (by rw[e])
    simp[V.erase,this]
def L0:AC:=.seq (.aa [⟨(some 2),.box 17 (.s 0),none⟩,⟨(some 3),.box 17 (.s 1),none⟩,⟨(some 4),.mv (.c (.bool false)),none⟩])
 (.seq (.draw [(xf 0 5 2,[]),(xo 6 5,[]),(xf 0 7 3,[]),(xo 8 7,[]),(xb .eql 9 6 8,[]),(U 10 9,[]),(xg 10 (xf 2 11 2),[]),(xg 10 (xf 0 12 11),[]),(xg 10 (xo 13 12),[]),(xg 10 (xf 2 14 3),[]),(xg 10 (xf 0 15 14),[]),(xg 10 (xo 16 15),[]),(⟨(some 17),.gP .eql (.s 13) (.s 16),(some (10,true))⟩,[]),(⟨(some 18),.pick (.s 10) (.s 17) (.c (.bool false)),none⟩,[]),(U 19 18,[]),(xg 19 (xf 4 20 2),[]),(xg 19 (xo 21 20),[]),(xg 19 (xc 37 22 [.s 21]),[]),(xg 19 (xf 4 23 3),[]),(xg 19 (xo 24 23),[0]),(xg 19 (xc 37 25 [.s 24]),[]),(xg 19 (xc 41 26 [.s 22,.s 25]),[]),(⟨(some 27),.pick (.s 19) (.s 26) (.c (.bool false)),none⟩,[]),(U 28 27,[]),(xg 28 (xf 5 29 2),[]),(xg 28 (xo 30 29),[]),(xg 28 (xf 5 31 3),[]),(xg 28 (xo 32 31),[]),(xg 28 (xc 42 33 [.s 30,.s 32]),[]),(⟨(some 34),.pick (.s 28) (.s 33) (.c (.bool false)),none⟩,[]),(U 35 34,[]),(xg 35 (xf 7 36 2),[]),(xg 35 (xl 5 37 36),[]),(xg 35 (xf 7 38 3),[]),(xg 35 (xl 5 39 38),[]),(xg 35 (xc 43 40 [.s 37,.s 39]),[]),(⟨(some 41),.pick (.s 35) (.s 40) (.c (.bool false)),none⟩,[]),(U 42 41,[]),(xg 42 (xf 12 43 2),[]),(xg 42 (xl 5 44 43),[]),(xg 42 (xf 12 45 3),[]),(xg 42 (xl 5 46 45),[]),(xg 42 (xc 43 47 [.s 44,.s 46]),[]),(⟨(some 48),.pick (.s 42) (.s 47) (.c (.bool false)),none⟩,[]),(U 4 48,[])])
 (.ret))
theorem acp:aJ prog 16 L0 [.tmp 4] 49:=⟨f16,⟨[],[],[]⟩,func16,by kernel_rfl,by kernel_rfl,by kernel_rfl,by kernel_rfl⟩
def NF:AC:=.seq (.aa [⟨(some 4),.mv (.c (.bool false)),none⟩])
 (.seq (.seq (.aa [U 6 0,xL 7 6,U 8 1,xL 9 8,xb .neq 10 7 9])
 (.cond (.s 10) (.seq (.aa [⟨(some 4),.mv (.c (.bool false)),none⟩])
 (.ret))
 (.skip)))
 (.seq (.seq (.aa [U 11 0,xL 12 11,xi 13 0])
 (.block 0 (.loop (.seq (.aa [xb .lss 14 13 12])
 (.seq (.cond (.s 14) (.skip)
 (.exit 0))
 (.seq (.block 1 (.seq (.aa [U 15 13,U 5 15])
 (.seq (.draw [(U 16 0,[]),(U 17 5,[]),(xA 4 18 16 17,[]),(⟨(some 19),.eJ 2 2 (.s 18) (.c (.int .i64 0)),none⟩,[]),(xf 0 20 19,[]),(xo 21 20,[]),(U 22 1,[]),(U 23 5,[]),(xA 4 24 22 23,[]),(⟨(some 25),.eJ 2 2 (.s 24) (.c (.int .i64 0)),none⟩,[]),(xf 0 26 25,[]),(xo 27 26,[]),(⟨(some 28),.gP .neq (.s 21) (.s 27),none⟩,[]),(U 29 28,[]),(xh 29 (U 30 0),[]),(xh 29 (U 31 5),[]),(xh 29 (xA 4 32 30 31),[]),(⟨(some 33),.eJ 2 2 (.s 32) (.c (.int .i64 1)),(some (29,false))⟩,[]),(xh 29 (xf 0 34 33),[]),(xh 29 (xo 35 34),[]),(xh 29 (U 36 1),[]),(xh 29 (U 37 5),[]),(xh 29 (xA 4 38 36 37),[]),(⟨(some 39),.eJ 2 2 (.s 38) (.c (.int .i64 1)),(some (29,false))⟩,[]),(xh 29 (xf 0 40 39),[]),(xh 29 (xo 41 40),[]),(⟨(some 42),.gP .neq (.s 35) (.s 41),(some (29,false))⟩,[]),(⟨(some 43),.pick (.s 29) (.c (.bool true)) (.s 42),none⟩,[])])
 (.cond (.s 43) (.seq (.aa [⟨(some 4),.mv (.c (.bool false)),none⟩])
 (.ret))
 (.skip)))))
 (.aa [xB .add 44 13 1,U 13 44])))))))
 (.seq (.aa [⟨(some 4),.mv (.c (.bool true)),none⟩])
 (.ret))))
theorem ad6:aJ prog 42 NF [.tmp 4] 45:=⟨f42,⟨[],[],[]⟩,func42,by kernel_rfl,by kernel_rfl,by kernel_rfl,by kernel_rfl⟩
def AM (a b:List (Word × Word)) (σ:ab) (i:Nat):St :=
  ⟨[.sl .no 4 (a.map dr),.sl .no 4 (b.map dr)]++List.replicate 10 .any++[.int .i64 a.length,.int .i64 (i:Nat)]++List.replicate 31 .any,[],σ⟩
theorem am5 (a b:List (Word × Word)) (σ:ab) (ha:a.length+1≤aE):ak prog 42 [.sl .no 4 (a.map dr),.sl .no 4 (b.map dr)] σ fun v σ' => v = .bool (fu a b)∧σ' = σ:=by
  simp only[aE] at ha;refine ad6.calls ?_;simp only[aI,NF,am,aP,Nat.reduceAdd,aD]
  by_cases hl:a.length=b.length
  case' neg =>
    have:fu a b=false:=by cases hs:fu a b with
      | false=>rfl
      | true=>exact absurd (Ux hs) hl
    simp only[am,aA (show ¬((a.length:Nat):Int)=(b.length:Nat) by omega)];refine az ?_;simp[V.erase,this]
  simp only[am,aD,aD,aC (show ((a.length:Nat):Int)=(b.length:Nat) by omega)];refine jj (fun p:{i:Nat // i≤a.length∧fu (a.take i) (b.take i)=true}=>AM a b σ p.1) (fun p=>a.length - p.1) ?_ ?_
  · refine aZ.enter ⟨0,by simp,by simp[fu]⟩ ?_ bY.rfl bC.rfl;simp[AM,List.replicate,am]
  rintro⟨i,hi,hs⟩;simp only[AM,List.replicate,am]
  by_cases ag:i<a.length
  · obtain⟨fy,gm⟩:=Uw ag (by omega) hl hs;have Q9:i<b.length:=by omega
    simp only[am,aC (show (i:Int)<a.length by omega)];refine bx (by omega) (yH (cc ag)) ?_;simp only[am,bV];refine Dt (by omega) (by omega) ?_;simp only[am,Int.reduceToNat,Nat.reduceMul,dr];refine bx (by omega) (yH (cc Q9)) ?_;simp only[am,bV];refine Dt (by omega) (by omega) ?_;simp only[am,Int.reduceToNat,Nat.reduceMul,dr]
    by_cases e1:a[i].1.text=b[i].1.text
    · simp only[am,bQ,e1];refine bx (by omega) (yH (cc ag)) ?_;simp only[am,bV];refine Dt (by omega) (by omega) ?_;simp only[am,Int.reduceToNat,Nat.reduceMul,dr];refine bx (by omega) (yH (cc Q9)) ?_;simp only[am,bV];refine Dt (by omega) (by omega) ?_;simp only[am,Int.reduceToNat,Nat.reduceMul,dr]
      by_cases e2:a[i].2.text=b[i].2.text
      · simp only[am,bQ,e2];rw[wrap_i64 (by omega) (by omega)];exact aZ.again (I:=fun p:{i:Nat // i≤a.length∧fu (a.take i) (b.take i)=true}=>AM a b σ p.1) (μ:=fun p=>a.length - p.1) ⟨i+1,ag,by rw[fy];simp[e1,e2]⟩ (by simp;omega) (by simp[AM,am,List.replicate]) bY.rfl bC.rfl
      · simp only[am,aA e2];refine az ?_;simp[V.erase,gm (by simp[e2])]
    · simp only[am,bV,aA e1];refine az ?_;simp[V.erase,gm (by simp[e1])]
  · have:i=a.length:=by omega
    subst this;rw[dv,hl,dv] at hs;simp only[am,aA (show ¬(a.length:Int)<a.length by omega)];refine az ?_;simp[V.erase,hs]
theorem Zh (a b:aj) (σ:ab) (h1:a.names.length≤100000) (h2:b.names.length≤100000) (h3:a.aY.length+1≤aE) (h4:a.left.wt≤aE) (h5:a.right.wt≤aE) :
    ak prog 16 [.agg a.enc,.agg b.enc] σ fun v σ' => v = .bool (a.eN b)∧σ' = σ:=by
  refine acp.calls ?_;simp only[aI,L0,am,aP,Nat.reduceAdd,dx,eQ];unfold aj.eN
  by_cases k1:a.op=b.op
  case' neg =>
    simp only[am,aA k1];refine az ?_;simp[V.erase]
  by_cases k2:a.name.text=b.name.text
  case' neg =>
    simp only[am,bQ,cC,k1,aA k2];refine az ?_;simp[V.erase]
  simp only[am,bQ,cC,k1,k2];refine bh.intro (yO a.names σ (by simp only[aE];omega)) ?_;simp only[am,cC];refine bh.intro (yO b.names σ (by simp only[aE];omega)) ?_;simp only[am];refine bh.intro (ajt (a.names.map Word.text) (b.names.map Word.text) σ (by rw[aD];omega)) ?_;rw[←En];cases q1:fj a.names b.names
  · simp only[am,cC];refine az ?_;simp[V.erase]
  simp only[am,cC];refine bh.intro (am5 a.aY b.aY σ h3) ?_;cases q2:fu a.aY b.aY
  · simp only[am,cC];refine az ?_;simp[V.erase]
  simp only[am,Nd.af,cC];refine bh.intro (JD _ a.left b.left σ (bt _) h4) ?_;cases q3:a.left.eN b.left
  · simp only[am,cC];refine az ?_;simp[V.erase]
  simp only[am,Nd.af,cC];refine bh.intro (JD _ a.right b.right σ (bt _) h5) ?_;simp only[am,cC];refine az ?_;simp[V.erase]
def N7:AC:=.seq (.aa [⟨(some 0),.mv (.c (.bool false)),none⟩])
 (.seq (.aa [⟨(some 8),.build [(.sl .full 3 []),(.sl .full 3 [])] [],none⟩,⟨(some 9),.build [(.int .i64 0),(.int .i64 0),(.int .i64 0)] [(2,1,(.c (.int .i64 1)))],none⟩,xc 9 10 [.s 8,.s 9,.c (.str [112,111,112])],U 7 10,xe 11 7 0,xe 12 7 1,xe 13 7 2,⟨(some 1),.alloc [(.int .i64 0),(.int .i64 0),(.str []),(.int .i64 0),(.sl .full 2 []),(.sl .full 4 []),(.int .i64 0),(.int .i64 0),(.int .i64 0),(.str []),(.sl .full 2 []),(.sl .full 5 []),(.int .i64 0),(.int .i64 0),(.str []),(.sl .full 2 []),(.sl .full 5 [])],none⟩,⟨(some 2),.alloc ju,none⟩,⟨(some 3),.alloc [(.int .i64 0),(.int .i64 0)],none⟩,xs 17 1 11,xs 18 2 12,xs 2 3 13])
 (.seq (.aa [⟨(some 15),.build [(.sl .full 3 []),(.sl .full 3 [])] [],none⟩,⟨(some 16),.build [(.int .i64 0),(.int .i64 0),(.int .i64 0)] [(2,1,(.c (.int .i64 1)))],none⟩,xc 9 17 [.s 15,.s 16,.c (.str [32,112,117,115,104])],U 14 17,xe 18 14 0,xe 19 14 1,xe 20 14 2,⟨(some 4),.alloc [(.int .i64 0),(.int .i64 0),(.str []),(.int .i64 0),(.sl .full 2 []),(.sl .full 4 []),(.int .i64 0),(.int .i64 0),(.int .i64 0),(.str []),(.sl .full 2 []),(.sl .full 5 []),(.int .i64 0),(.int .i64 0),(.str []),(.sl .full 2 []),(.sl .full 5 [])],none⟩,⟨(some 5),.alloc ju,none⟩,⟨(some 6),.alloc [(.int .i64 0),(.int .i64 0)],none⟩,xs 17 4 18,xs 18 5 19,xs 2 6 20])
 (.seq (.aa [xl 2 21 3,⟨(some 22),.build [(.int .i64 0),(.int .i64 0)] [(0,1,(.c (.int .i64 8)))],none⟩,⟨(some 23),.jw false [1,1] (.s 21) (.s 22),none⟩,U 24 23,xg 24 (xl 2 25 6),⟨(some 26),.build [(.int .i64 0),(.int .i64 0)] [],(some (24,true))⟩,⟨(some 27),.jw false [1,1] (.s 25) (.s 26),(some (24,true))⟩,⟨(some 28),.pick (.s 24) (.s 27) (.c (.bool false)),none⟩,U 29 28,xg 29 (xf 0 30 4),xg 29 (xo 31 30),xg 29 (xB .eql 32 31 11),⟨(some 33),.pick (.s 29) (.s 32) (.c (.bool false)),none⟩,U 34 33,xg 34 (xf 1 35 4),xg 34 (xo 36 35),xg 34 (xB .eql 37 36 1),⟨(some 38),.pick (.s 34) (.s 37) (.c (.bool false)),none⟩,U 0 38])
 (.ret))))
theorem fn8:aJ prog 8 N7 [.tmp 0] 39:=⟨f8,⟨[],[],[]⟩,func8,by kernel_rfl,by kernel_rfl,by kernel_rfl,by kernel_rfl⟩
structure VZ (A:List V):Prop where
  len:A.length=18
  tk:takeN 18 A=some A
  one:bA A=true
  bS:bd A=true
  ov:over (bM 0 0 (.sl .full 10 []) .zero (.sl .full 10 []) 0 (.sl .full 10 []) 0 0 []) A=A
theorem zo (x:iu):VZ x.enc:=⟨ph,FI,Ox x,iu.cx,pK (by rw[ph];exact ph.symm)⟩
theorem Gq {f:au} {x y:Int}:dU [1,1] f.enc [.int .i64 x,.int .i64 y]=some (decide (f=⟨x,y⟩)):=au.ml (g:=⟨x,y⟩)
def n7:ar:=⟨[],[]⟩
def ur:Rm:=⟨0,0,1⟩
theorem aa_:(gF n7 ur [112,111,112]).2.2=⟨8,0⟩:=by decide +kernel
theorem aa':(gF n7 ur [32,112,117,115,104]).2.2=⟨0,0⟩∧(gF n7 ur [32,112,117,115,104]).1.op=11∧(gF n7 ur [32,112,117,115,104]).1.pos=1:=by decide +kernel
theorem Wk {σ:ab} (hg:TZ σ) (lz:σ.bH 0=some fq):ak prog 8 [] σ fun v σ' => v = .bool true∧σ' = σ:=by
  have h0:n7.yC:=⟨⟨by simp[n7],by simp[n7],by simp[n7]⟩,by simp[n7]⟩;have c1:=Dy n7 ur [112,111,112] h0 hg lz (by simp);have c2:=Dy n7 ur [32,112,117,115,104] h0 hg lz (by simp);have e1:=aa_;have e2:=aa';generalize gF n7 ur [112,111,112]=X at c1 e1;generalize gF n7 ur [32,112,117,115,104]=Z at c2 e2;obtain⟨c,x,f⟩:=X;obtain⟨d,z,g⟩:=Z;simp only[vQ] at c1 c2 e1 e2;obtain⟨e2,e3,e4⟩:=e2;subst e1;subst e2;obtain⟨a1,a2,a3,a4,a5⟩:=zo x;obtain⟨b1,b2,b3,b4,b5⟩:=zo z;generalize x.enc=A at c1 a1 a2 a3 a4 a5;generalize z.enc=B at c2 b1 b2 b3 b4 b5;refine fn8.calls ?_;simp only[aI,N7,am,aP,ju];refine cl (ak.dh c1 ⟨cz.erase (v:=.agg [.sl .full 3 [],.sl .full 3 []]),cz.rfl,cz.rfl,trivial⟩ bC.rfl) ?_;simp only[am,Nat.reduceAdd,au.af,dx,gi,a1,a3,a5];refine cl (ak.dh c2 ⟨cz.erase (v:=.agg [.sl .full 3 [],.sl .full 3 []]),cz.rfl,cz.rfl,trivial⟩ bC.rfl) ?_;simp only[am,Nat.reduceAdd,bQ,au.af,dx,eQ,gi,b1,b3,b5,Gq,e3,e4];refine az ?_;simp[V.erase]
theorem Xt {s:ar} (h:u1 s=false):s.yC:=by
  refine⟨Xs h,fun l hl=>?_⟩;simp only[u1,s5,wM,Fe,xC,KG] at h
  have:=((h.1.2 l hl).1).1
  omega
end Go.Proofs.Tryz
namespace Go.Am
open Go.ChangeShapes Go.WideShapes Go.ChangeAt Go.RowKit
structure lK {H:Type} (B:DataW H→Nat) (BA:List (DataW H)→Nat):Prop where
  str:∀b,B (.lit (.string b))=b.length+1
  int:∀k n,B (.lit (.int k n))=1
  bool:∀b,B (.lit (.bool b))=1
  nil:B .nil=1
  slice:∀e s,B (.slice e s)=BA e+BA s+1
  agg:∀p,B (.agg p)=BA p+1
  no:BA []=0
  cons:∀d r,BA (d::r)=B d+BA r
def nC (W:World):Env:=⟨W,fun _=>.const,fun _=>none,fun _=>none⟩
section
variable {H:Type} {enc:TypeId × Value→H} {P:Program} {W:World} {sp:Nat→Bool} {B:DataW H→Nat} {BA:List (DataW H)→Nat}
theorem ama {t:TypeId} {k:IntKind} {n:Nat} {cs:List Value} {x:DataW H × List MemPlace} (ht:P.underlying t=some (.int k)) (hB:lK B BA) (h:DataW.trod enc P W 0 sp true n t cs=some x) :
    ∃i:Int,RL (nC W) [.int k i] cs∧(∀v∈cs,v.oneCell' = true)∧B x.1=1∧(Lit.int k i).wf=true:=by
  obtain⟨i,rfl,rfl,hw⟩:=DataW.trod_int ht h;exact⟨i,by simp[RL,R],by simp[Value.oneCell'],hB.int _ _,hw⟩
theorem al' {t:TypeId} {n:Nat} {cs:List Value} {x:DataW H × List MemPlace} (ht:P.underlying t=some .bool) (hB:lK B BA) (h:DataW.trod enc P W 0 sp true n t cs=some x) :
    ∃i:Bool,RL (nC W) [.bool i] cs∧(∀v∈cs,v.oneCell' = true)∧B x.1=1:=by
  obtain⟨i,rfl,rfl⟩:=DataW.trod_bool ht h;exact⟨i,by simp[RL,R],by simp[Value.oneCell'],hB.bool _⟩
theorem amd {t:TypeId} {n:Nat} {cs:List Value} {x:DataW H × List MemPlace} (ht:P.underlying t=some .string) (hB:lK B BA) (h:DataW.trod enc P W 0 sp true n t cs=some x) :
    ∃s:List UInt8,RL (nC W) [.str s] cs∧(∀v∈cs,v.oneCell' = true)∧s.length+1=B x.1:=by
  obtain⟨s,rfl,rfl,_⟩:=DataW.trod_string ht h;exact⟨s.data.toList,by simp[RL,R],by simp[Value.oneCell'],(hB.str _).symm⟩
theorem TX {α:Type} (ea:α→List V) (sz:α→Nat) {e:TypeId} {k n:Nat} (hB:lK B BA) (hk:P.cellsOf e=k) (hlen:∀y,(ea y).length=k)
    (jy:∀cs x,DataW.trod enc P W 0 sp true n e cs=some x→∃y:α,RL (nC W) (ea y) cs∧(∀v∈cs,v.oneCell' = true)∧sz y≤B x.1) {b o:Nat} :
    ∀(qB:List (DataW H × List MemPlace)) (i:Nat),(∀j,j<qB.length→(W.cells? 0 (Addr.add ⟨b,o,none⟩ ((i+j)*k)) k).bind (DataW.trod enc P W 0 sp true n e)=qB[j]?) →
      ∃l:List α,l.length=qB.length∧dE (nC W).nl k (l.map ea) b (o+i*k)∧(l.map sz).sum≤BA (qB.map (·.1))
  | [],i,_=>⟨[],rfl,by simp[dE],by simp⟩
  | x :: qB, i, h => by
    obtain⟨l,h1,h2,h3⟩:=TX ea sz hB hk hlen jy qB (i+1) fun j hj=>by
      have:=h (j+1) (by simp;omega)
      rw[show i+(j+1)=i+1+j by omega] at this;simpa using this
    have h0:=h 0 (by simp);simp only[qk,BU] at h0;obtain⟨cs,hc,hr⟩:=fH.1 h0;obtain⟨y,k1,k2,k3⟩:=jy cs x hr;obtain⟨_,hl,oy⟩:=World.cells?_some hc;refine⟨y::l,by simp[h1],?_,?_⟩
    · simp only[bL,dE];refine⟨hlen y,wY k1 k2 (fun j v hv=>?_) (fun _ _=>trivial),by rw[show o+i*k+k=o+(i+1)*k by rw[gb];omega];exact h2⟩;have hj:j<k:=by have:=(dj.1 hv).1;omega
      have:=oy j hj
      rw[jq,jq] at this;show W.cell? _=_;rw[this,hv]
    · simp only[bL,oe,hB.cons];omega
theorem amb {α:Type} (ea:α→List V) (sz:α→Nat) {t e:TypeId} {k fuel:Nat} (hB:lK B BA) (ht:P.underlying t=some (.slice e)) (hk:P.cellsOf e=k) (iD:0<k) (hlen:∀y,(ea y).length=k)
    (jy:∀n,n<fuel→∀cs x,DataW.trod enc P W 0 sp true n e cs=some x→∃y:α,RL (nC W) (ea y) cs∧(∀v∈cs,v.oneCell' = true)∧sz y≤B x.1)
    {cs:List Value} {x:DataW H × List MemPlace} (h:DataW.trod enc P W 0 sp true fuel t cs=some x) :
    ∃l:List α,RL (nC W) [.sl .no k (l.map ea)] cs∧(∀v∈cs,v.oneCell' = true)∧(l.map sz).sum+1≤B x.1:=by
  rcases DataW.trod_slice ht h with ⟨rfl,rfl⟩ | ⟨a,len,cap,elems,rest,n,rfl,rfl,rfl,_,hle,_,hl,Q2,_,_⟩
  · refine⟨[],?_,by simp[Value.oneCell'],by simp[hB.nil]⟩;simp only[RL,R,cX,eC];exact⟨none,0,rfl,by simp,by simp,trivial⟩
  · have ha:elems=[]∨∃b o,a=⟨b,o,none⟩:=by
      cases elems with
      | nil=>exact .inl rfl
      | cons y ys =>
        right;have h0:=Q2 0 (by rw[←hl];simp);simp only[BU] at h0;obtain⟨cs',hc,_⟩:=fH.1 h0;obtain⟨_,fc,oy⟩:=World.cells?_some hc;have h1:=oy 0 (by rw[hk];exact iD);have h2:cs'[0]?=some (cs'[0]'(by rw[fc,hk];exact iD)):=cc _;rw[h2] at h1;obtain⟨b,o,s⟩:=a;refine⟨b,o,?_⟩;simp only[World.cell?] at h1;cases s with
        | none=>rfl
        | some s =>
          split at h1
          · simp[Addr.add] at h1
          · simp at h1
    rcases ha with rfl | ⟨b,o,rfl⟩
    · refine⟨[],?_,by simp[Value.oneCell'],by simp[hB.slice]⟩;simp only[dk] at hl;subst hl;simp only[RL,R,cX,eC];exact⟨some a,cap,rfl,by simp,by simp,trivial⟩
    · obtain⟨l,h1,h2,h3⟩:=TX (B:=B) (BA:=BA) (sp:=sp) (enc:=enc) (P:=P) (W:=W) (n:=n) ea sz hB hk hlen (jy n (Fv n)) elems 0 (fun j hj=>by
        have:=Q2 j (by omega)
        rw[hk] at this;rw[gh];exact this)
      refine⟨l,?_,by simp[Value.oneCell'],?_⟩
      · simp only[RL,R,aD,eC];exact⟨some ⟨b,o,none⟩,cap,by rw[h1,hl],by omega,.inr ⟨b,o,rfl,by simpa using h2⟩,trivial⟩
      · rw[hB.slice];omega
end
theorem ak7 {H:Type} {enc:TypeId × Value→H} {P:Program} {f:Func} {s:ChangeSpec} {W:World} {args:Array Value} {ds:List (DataW H)} {before:List MemPlace} {tb:TypeId}
    (hl:laidOutB P=true) (hm:mapsRowed P=true) (hz:((List.range P.types.size).all fun t=>match P.underlying t with | some (.slice e)=>decide (0<P.cellsOf e) | _=>true)=true)
    (fX:f.resultTypes=#[tb]) (yl:P.underlying tb=some .bool) (Ax:∀t∈f.params.toList,t<P.types.size) (yo:s.vars=[]) (rV:(s.fn H ds).results=[.lit (.bool true)]∧(s.fn H ds).args=ds∧(s.fn H ds).vars=[])
    (hW:DataW.Whole enc P f.params.toList s.vars false W args.toList ds [] before) {W' : World} (hos:W'.os=W.os) (aga:W'.output=W.output) (afM:∀a,W'.frozen? a=W.frozen? a) (jG:∀b,b<W.heap.size→W'.heap[b]?=W.heap[b]?) :
    s.post enc P f false true false false W args (.bool true) W' := by
  have Ab := hW;obtain⟨p,q,hA,hV,rfl,Hm,Au⟩:=hW;rw[yo] at hV;obtain⟨_,rfl⟩:=trodVars_none hV;have afX:W.keptBut W' (fun _=>False):=by
    refine⟨hos,aga,fun i hi=>?_⟩;rw[jG i hi];cases W.heap[i]? with
    | none=>rfl
    | some ob=>cases ob<;>simp
  simp only[dD] at Ab;have iX:s.fn H (ds++[])=s.fn H ds:=by rw[dD]
  refine post_of_same (pa:=p) (pv:=[]) Ab (fun b Es hd=>?_) (fun Es hs=>?_) (fun Es hs=>?_) (by simp) (World.keptBut_mono (fun _ h=>h.elim) afX) ?_ (ok_one fX rfl (okWide_bool_mk yl _))
  · rw[iX,rV.1,fX];exact trodAll_cons_mk (shut_bool yl _) trodAll_mk0
  · rw[iX,rV.2.1];have ag:=DataW.TrodAll.lt hA;have key:∀(ts:List TypeId) (vs:List Value) (ds:List (DataW H)) (ps:List MemPlace),(∀t∈ts,t<P.types.size)→DataW.TrodAll enc P W 0 (fun _=>true) true ts vs ds ps→(∀x∈ps,x.block<W.heap.size)→(∀x∈ps,Es x.block=true)→DataW.TrodAll enc P W' 0 Es true ts vs ds ps:=by
      intro ts;induction ts with
      | nil=>intro vs ds ps _ h _ _;cases vs<;>cases ds<;>first | exact h | exact h.elim
      | cons t ts ih =>
        intro vs ds ps hT h ag hs;cases vs with
        | nil=>exact h.elim
        | cons v vs =>
          cases ds with
          | nil=>exact h.elim
          | cons d ds =>
            obtain⟨p,q,⟨n,h1⟩,h2,rfl⟩:=h;refine⟨p,q,⟨n,?_⟩,ih vs ds q (fun t ht=>hT t (by simp[ht])) h2 (fun x hx=>ag x (by simp[hx])) (fun x hx=>hs x (by simp[hx])),rfl⟩;refine DataW.trod_stays (kids_rows hl hm) (fun {t e} ht he=>slices_full_of P hz t e ht he) (by simp) (hT t (by simp)) h1 (fun x hx=>?_) (fun x hx=>hs x (by simp[hx]));have hb:=ag x (by simp[hx]);cases x with
            | cell b off=>exact xx (jG b hb)
            | map b=>exact jG b hb
    exact key _ _ _ _ Ax hA (fun x hx=>ag x hx) (fun x hx=>hs x (by simpa using hx))
  · rw[iX,rV.2.2,yo];rfl
  · exact afM
theorem ak6 {H:Type} {enc:TypeId × Value→H} {P:Program} {f:Func} {s:ChangeSpec} {W:World} {args:Array Value} {ds:List (DataW H)} {before:List MemPlace} {tb:TypeId}
    (hl:laidOutB P=true) (hm:mapsRowed P=true) (hz:((List.range P.types.size).all fun t=>match P.underlying t with | some (.slice e)=>decide (0<P.cellsOf e) | _=>true)=true)
    (fX:f.resultTypes=#[tb]) (yl:P.underlying tb=some .bool) (Ax:∀t∈f.params.toList,t<P.types.size) (yo:s.vars=[]) (rV:(s.fn H ds).results=[.lit (.bool true)]∧(s.fn H ds).args=ds∧(s.fn H ds).vars=[])
    (hW:DataW.Whole enc P f.params.toList s.vars false W args.toList ds [] before) {E' : Env} (aQ:Fr (nC W) E') :
    s.post enc P f false true false false W args (.bool true) E'.w :=
  ak7 hl hm hz fX yl Ax yo rV hW aQ.os aQ.output aQ.ew fun b hb=>(aQ.same b hb (.inl rfl)).1
section
variable {P:Program} {W:World} {r:Reach} {b:Nat} {t:TypeId} {v:Value} {E:Env}
theorem Kb {fs:Array Field} {xs:List V} (ht:P.underlying t=some (.struct fs)) (hv:Value.okWide P W r b t v) (h:RL E xs v.cells.toList):R E (.agg xs) v:=by
  obtain⟨cs,rfl,_⟩:=okWide_struct ht hv;simp only[R];exact⟨cs,rfl,by simpa [Value.cells] using h⟩
end
def nh (s:List UInt8):Value:=.string ⟨s.toArray⟩
section
variable {H:Type} {enc:TypeId × Value→H} {P:Program} {W:World}
def Tc (ps:List (List UInt8 × List UInt8)):DataW H:=.agg (ps.map fun p=>.agg [.lit (.string p.1),.lit (.string p.2)])
theorem Sl {α:Type} {l:List α} (h:l.length=2):∃a b,l=[a,b]:=by
  match l,h with
  | [a,b],_=>exact⟨a,b,rfl⟩
theorem Vp {s:ByteArray} {l:List UInt8} (h:s.data.toList=l):Value.string s=nh l:=by subst h;simp[nh]
theorem chunks {α:Type} {k:Nat} (f:Nat→List α):∀(n:Nat) (cs:List α),cs.length=n*k→(∀i,i<n→(cs.drop (i*k)).take k=f i)→cs=((List.range n).map f).flatten
  | 0,cs,hl,_=>by simp at hl;simp[hl]
  | n + 1, cs, hl, h => by
    rw[B4] at hl;have h1:=chunks (k:=k) f n (cs.take (n*k)) (by rw[gO];omega) fun i hi=>by
      have:i*k+k≤n*k:=by rw[←B4];exact mA _ hi
      rw[Fg,List.take_take,qm (by omega)];exact h i (by omega)
    have h2:=h n (by omega);rw[wR (by rw[BX];omega)] at h2;rw[qj,fw,od,←h1];simp only[bL,cX,iQ,KS,dD];rw[←h2,my]
theorem Yt {base:Nat} {sp:Nat→Bool} {held:Bool} {fuel:Nat} {e tf:TypeId} {fs:Array Field} {cs:List Value} {x:DataW H × List MemPlace} {a b:List UInt8}
    (he:P.underlying e=some (.struct fs)) (hs:fs.size=2) (Hi:(fs[0]?).map (fun f=>(f.type,f.offset))=some (tf,0)) (x8:(fs[1]?).map (fun f=>(f.type,f.offset))=some (tf,1))
    (Dn:P.underlying tf=some .string) (x6:P.cellsOf tf=1) (pw:P.cellsOf e=2)
    (h:DataW.trod enc P W base sp held fuel e cs=some x) (hx:x.1 = .agg [.lit (.string a),.lit (.string b)]):cs=[nh a,nh b]:=by
  obtain⟨xs,m,rfl,rfl,hl,oP,hf⟩:=DataW.trod_struct he h;rw[pw] at hl;rw[hs] at oP;obtain⟨u,v,rfl⟩:=Sl hl;obtain⟨x0,x1,rfl⟩:=Sl oP;obtain⟨f0,g0,g1⟩:=cf.1 Hi;obtain⟨f1,g2,g3⟩:=cf.1 x8;simp only[jW] at g1 g3;have h0:=hf 0 f0 g0;have h1:=hf 1 f1 g2;rw[g1.1,g1.2,x6] at h0;rw[g3.1,g3.2,x6] at h1;obtain⟨s0,p0,q0,_⟩:=DataW.trod_string Dn h0;obtain⟨s1,p1,q1,_⟩:=DataW.trod_string Dn h1;simp only[BR,zb,nn,K3,eP,eC] at p0 p1;subst p0 p1 q0 q1;simp only[bL,cX,DataW.agg.injEq,eP,DataW.lit.injEq,Lit.string.injEq,eC] at hx;rw[Vp hx.1,Vp hx.2]
theorem Yu {base:Nat} {sp:Nat→Bool} {held:Bool} {fuel:Nat} {t e tf:TypeId} {n:Nat} {fs:Array Field} {cs:List Value} {ps:List (List UInt8 × List UInt8)} {p:List MemPlace}
    (ht:P.underlying t=some (.array n e)) (he:P.underlying e=some (.struct fs)) (hs:fs.size=2) (Hi:(fs[0]?).map (fun f=>(f.type,f.offset))=some (tf,0)) (x8:(fs[1]?).map (fun f=>(f.type,f.offset))=some (tf,1))
    (Dn:P.underlying tf=some .string) (afG:P.cellsOf tf=1) (pw:P.cellsOf e=2) (x6:P.cellsOf t=n*2)
    (h:DataW.trod enc P W base sp held fuel t cs=some (Tc ps,p)):cs=(ps.flatMap fun p=>[p.1,p.2]).map nh:=by
  obtain⟨xs,m,rfl,hx,hl,oP,hi⟩:=DataW.trod_array ht h;rw[x6] at hl;have kp:xs.map (·.1)=ps.map fun p=>(.agg [.lit (.string p.1),.lit (.string p.2)]:DataW H):=by
    have:=gj Prod.fst hx
    simpa [Tc] using this.symm
  have lA:ps.length=n:=by
    have:=gj List.length kp
    simp at this;omega
  have hc:=chunks (fun i=>match ps[i]? with | some p=>[nh p.1,nh p.2] | none=>[]) n cs hl (fun i eH=>by
    have h1:=hi i eH;rw[pw] at h1;have RC:xs[i]?=some xs[i]:=by simp[oP,eH]
    have yi:ps[i]?=some ps[i]:=by simp[lA,eH]
    rw[RC] at h1;have h2:=gj (·[i]?) kp;simp only[qg,RC,yi,pf,aG] at h2;rw[yi];exact Yt he hs Hi x8 Dn afG pw h1 h2)
  rw[hc,←lA];clear hc hi oP hl hx kp h lA;have key:∀qs:List (List UInt8 × List UInt8),((List.range qs.length).map fun i=>match qs[i]? with | some p=>[nh p.1,nh p.2] | none=>[])=qs.map fun p=>[nh p.1,nh p.2]:=fun qs=>by
    apply KQ;intro i
    by_cases hi:i<qs.length
    · simp[hi]
    · simp[hi]
  rw[key,List.map_flatMap,List.flatMap_def];rfl
end
def vZ:V→Value
  | .str s=>nh s
  | .int k n=>.int k n
  | _=>.bool false
def isLit:V→Bool
  | .str _=>true
  | .int _ _=>true
  | _=>false
theorem ah8 {E:Env} {x:V} (h:isLit x=true) (v:Value):R E x v↔v=vZ x:=by
  cases x<;>simp[isLit] at h<;>simp[R,vZ,nh]
def A2 (B:Nat→Option (List V)):ab:=⟨fun _=>none,fun _=>none,B⟩
def Fs (W:World) (B:Nat→Option (List V)):Prop:=∀b cs,B b=some cs→(∃e,W.heap[b]?=some (.cells (cs.map vZ).toArray e (0,0)))∧∀x∈cs,isLit x=true
theorem So {E:Env}:∀{cs:List V},(∀x∈cs,isLit x=true)→RL E cs (cs.map vZ)
  | [],_=>by simp[RL]
  | x :: cs, h => by
    simp only[bL,RL];exact⟨(ah8 (h x (by simp)) _).2 rfl,So fun y hy=>h y (by simp[hy])⟩
theorem aiB {W:World} {B:Nat→Option (List V)} (h:Fs W B):(nC W).ok (A2 B):=by
  refine⟨fun _ _ h=>by simp[A2] at h,fun _ _ h=>by simp[A2] at h,fun _ _=>rfl,⟨0,fun _ _=>rfl⟩,fun b cs hb=>?_⟩;obtain⟨⟨e,he⟩,hl⟩:=h b cs hb;refine wY (vs:=cs.map vZ) (So hl) (fun v hv=>?_) (fun j v hj=>?_) fun _ _=>trivial
  · obtain⟨x,hx,rfl⟩:=qh.1 hv
    have:=hl x hx
    cases x<;>simp[isLit] at this<;>rfl
  · show W.cell? _=_;simp only[World.cell?,he,gh];simpa using hj
theorem ahp {H:Type} {enc:TypeId × Value→H} {P:Program} {n:FuncId} {f:Func} {s:ChangeSpec} {W:World} {args:Array Value} {vs:List V} {ds:List (DataW H)} {before:List MemPlace} {tb:TypeId} {B:Nat→Option (List V)}
    (hP:ak P n vs (A2 B) fun v σ' => v = .bool true∧σ' = A2 B) (hg:Fs W B) (hR:RL (nC W) vs args.toList)
    (hl:laidOutB P=true) (hm:mapsRowed P=true) (hz:((List.range P.types.size).all fun t=>match P.underlying t with | some (.slice e)=>decide (0<P.cellsOf e) | _=>true)=true)
    (fX:f.resultTypes=#[tb]) (yl:P.underlying tb=some .bool) (Ax:∀t∈f.params.toList,t<P.types.size) (yo:s.vars=[]) (rV:(s.fn H ds).results=[.lit (.bool true)]∧(s.fn H ds).args=ds∧(s.fn H ds).vars=[])
    (hW:DataW.Whole enc P f.params.toList s.vars false W args.toList ds [] before) :
    Calls P n args W fun e W' => ∃v,e = .returned v∧s.post enc P f false true false false W args v W' := by
  refine(hP.2 (nC W) args (fun _=>rfl) (aiB hg) hR).mono ?_;rintro e w' ⟨v,x,E',σ',rfl,rfl,_,_,QO,aQ,rfl,_⟩;simp only[R] at QO;subst QO;exact⟨_,rfl,ak6 hl hm hz fX yl Ax yo rV hW aQ⟩
section
variable {H:Type} {enc:TypeId × Value→H} {P:Program} {W:World}
theorem R3 {name:String} {d:DataW Unit} {rest:List (String × DataW Unit)} {g:Nat} {t:TypeId} (h:laidMet P ((name,d)::rest) W) (hg:P.globalNamed name=some g) (ht:(P.globals[g]?).map (·.type)=some t) {vs:List Value}
    (hc:∀(cs:List Value) (fuel:Nat) (p:List MemPlace),DataW.trod (fun _=>()) P W 0 (fun _=>true) false fuel t cs=some (d,p)→cs=vs) (hv:vs≠[]):∃e,W.heap[g]?=some (.cells vs.toArray e (0,0)):=by
  obtain⟨ps,⟨g',t',cs,fuel,p,q,oz,yk,ff,hd,_,Ay⟩,_,hb⟩:=h;obtain rfl:g' = g:=lM (oz.symm.trans hg);obtain rfl:t' = t:=lM (yk.symm.trans ht);have hcs:=hc _ _ _ hd;have tD : cs=vs.toArray:=by rw[←hcs]
  obtain⟨⟨c,e,pw⟩,_⟩:=hb g' 0 (by
    rw[Ay];refine List.mem_append_left _ (List.mem_append_left _ ?_);rw[tD];cases vs with
    | nil=>exact absurd rfl hv
    | cons a l=>simp[MemPlace.row])
  refine⟨e,?_⟩;rw[pw];simp only[World.var?,hg,rz,pw,aG] at ff;rw[ff,tD]
end
section
variable {E:Env}
theorem Lc:∀{l m:List V} {cs ds:List Value},RL E l cs→RL E m ds→RL E (l++m) (cs++ds)
  | [],_,[],_,_,h=>h
  | [],_,_::_,_,h,_=>by simp[RL] at h
  | _::_,_,[],_,h,_=>by simp[RL] at h
  | x :: l, m, c :: cs, ds, h, h2 => by
    simp only[RL,gN] at h ⊢;exact⟨h.1,Lc h.2 h2⟩
def Ka:Value→aU
  | .int .u64 z=>BitVec.ofInt 64 z
  | _=>0#64
theorem Le:∀(cs:List Value),(∀v∈cs,∃z:Int,v = .int .u64 z∧0≤z∧z<18446744073709551616)→RL E (ei (cs.map Ka)) cs
  | [],_=>by simp[ei,RL]
  | v :: cs, h => by
    obtain⟨z,rfl,h0,h1⟩:=h v (by simp);have ih:=Le cs fun v hv=>h v (by simp[hv])
    simp only[ei,bL,RL] at ih ⊢;refine⟨?_,ih⟩;simp only[R,Ka,Value.int.injEq,o7];rw[BitVec.toNat_ofInt];omega
end
section
variable {H:Type} (enc:TypeId × Value→H) (P:Program) (W:World) (B:DataW H→Nat)
def jo (N:Nat) (t:TypeId) (F:List V→Nat→Prop):Prop :=
  ∀n,n<N→∀cs x,DataW.trod enc P W 0 (fun _=>true) true n t cs=some x→∃l,RL (nC W) l cs∧(∀v∈cs,v.oneCell' = true)∧F l (B x.1)
def sN (N:Nat):List Field→Nat→(List V→Nat→Prop)→Prop
  | [],_,F=>F [] 0
  | f::r,o,F=>f.offset=o∧∃G,jo enc P W B N f.type G∧∀l b,G l b→sN N r (o+P.cellsOf f.type) fun l' b' => F (l++l') (b+b')
end
section
variable {H:Type} {enc:TypeId × Value→H} {P:Program} {W:World} {B:DataW H→Nat} {BA:List (DataW H)→Nat} {N:Nat} {t:TypeId}
theorem jo.mono {M:Nat} {F:List V→Nat→Prop} (h:jo enc P W B N t F) (hM:M≤N):jo enc P W B M t F:=fun n hn=>h n (ql hn hM)
theorem jo.to {F G:List V→Nat→Prop} (h:jo enc P W B N t F) (hg:∀l b,F l b→G l b):jo enc P W B N t G:=fun n hn cs x hx =>
  let ⟨l,h1,h2,h3⟩:=h n hn cs x hx
  ⟨l,h1,h2,hg _ _ h3⟩
theorem Vl {k:IntKind} (ht:P.underlying t=some (.int k)) (hB:lK B BA):jo enc P W B N t fun l b=>∃i:Int,l=[.int k i]∧b=1∧(Lit.int k i).wf=true:=fun n _ cs x h =>
  let ⟨i,h1,h2,h3,h4⟩:=ama ht hB h
  ⟨_,h1,h2,i,rfl,h3,h4⟩
theorem aoj (ht:P.underlying t=some .bool) (hB:lK B BA):jo enc P W B N t fun l b=>∃i:Bool,l=[.bool i]∧b=1:=fun n _ cs x h =>
  let ⟨i,h1,h2,h3⟩:=al' ht hB h
  ⟨_,h1,h2,i,rfl,h3⟩
theorem aol (ht:P.underlying t=some .string) (hB:lK B BA):jo enc P W B N t fun l b=>∃s:List UInt8,l=[.str s]∧b=s.length+1:=fun n _ cs x h =>
  let ⟨s,h1,h2,h3⟩:=amd ht hB h
  ⟨_,h1,h2,s,rfl,h3.symm⟩
theorem aoo {e:TypeId} {n:Nat} (ht:P.underlying t=some (.array n e)) (he:P.underlying e=some (.int .u64)) (pw:P.cellsOf e=1) (x6:P.cellsOf t=n):jo enc P W B N t fun l _=>∃w:List aU,w.length=n∧l=ei w:=by
  intro q _ cs x h;obtain⟨xs,m,rfl,rfl,hl,hx,hf⟩:=DataW.trod_array ht h;rw[x6] at hl;have all:∀v∈cs,∃z:Int,v = .int .u64 z∧0≤z∧z<18446744073709551616:=by
    intro v hv;obtain⟨i,hi,rfl⟩:=Fo.1 hv;have h1:=hf i (by omega);rw[pw,og,cc (show i<xs.length by omega),jU hi,nn,K3] at h1;obtain⟨z,e1,_,hw⟩:=DataW.trod_int he h1;simp[Lit.wf,IntKind.min,IntKind.max,IntKind.signed,IntKind.bits] at hw;exact⟨z,by simpa using e1,by omega,by omega⟩
  refine⟨_,Le cs all,fun v hv=>?_,cs.map Ka,by simp[hl],rfl⟩;obtain⟨z,rfl,_⟩:=all v hv;rfl
theorem aok {α:Type} (ea:α→List V) (sz:α→Nat) {e:TypeId} {k:Nat} (hB:lK B BA) (ht:P.underlying t=some (.slice e)) (hk:P.cellsOf e=k) (iD:0<k) (hlen:∀y,(ea y).length=k)
    (jy:jo enc P W B N e fun l b=>∃y,l=ea y∧sz y≤b):jo enc P W B (N+1) t fun l b=>∃ys:List α,l=[.sl .no k (ys.map ea)]∧(ys.map sz).sum+1≤b:=by
  intro n hn cs x h;obtain⟨ys,h1,h2,h3⟩:=amb ea sz hB ht hk iD hlen (fun m hm cs x h=>by
    obtain⟨l,k1,k2,y,rfl,k3⟩:=jy m (by omega) cs x h;exact⟨y,k1,k2,k3⟩) h
  exact⟨_,h1,h2,ys,rfl,h3⟩
theorem Qc (hB:lK B BA) {m:Nat} (hm:m<N) {cs:List Value}:∀(fs:List Field) (o:Nat) (F:List V→Nat→Prop) (xs:List (DataW H × List MemPlace)),sN enc P W B N fs o F→xs.length=fs.length →
    (∀(i:Nat) (f:Field),fs[i]?=some f→DataW.trod enc P W 0 (fun _=>true) true m f.type ((cs.drop f.offset).take (P.cellsOf f.type))=xs[i]?)→cs.length=o+(fs.map fun f=>P.cellsOf f.type).sum →
    ∃l,RL (nC W) l (cs.drop o)∧(∀v∈cs.drop o,v.oneCell' = true)∧F l (BA (xs.map (·.1)))
  | [], o, F, xs, h, hx, _, hl => by
    obtain rfl:=nj (by simpa using hx);simp only[cX,pd,qk] at hl;refine⟨[],?_,?_,?_⟩
    · rw[BQ (by omega)];simp[RL]
    · rw[BQ (by omega)];simp
    · rw[cX,hB.no];exact h
  | f :: fs, o, F, xs, h, hx, hf, hl => by
    obtain⟨h1,G,h2,h3⟩:=h;cases xs with
    | nil=>simp at hx
    | cons x xs =>
      have h0:=hf 0 f rfl;rw[BU,h1] at h0;obtain⟨l,k1,k2,k3⟩:=h2 m hm _ x h0;simp only[bL,oe] at hl;obtain⟨l',g1,g2,g3⟩:=Qc hB hm fs (o+P.cellsOf f.type) _ xs (h3 l _ k3) (by simpa using hx) (fun i f' hi=>by simpa using hf (i+1) f' (by simpa using hi)) (by omega);have e:(cs.drop o).take (P.cellsOf f.type)++cs.drop (o+P.cellsOf f.type)=cs.drop o:=by rw[←sR,my]
      refine⟨l++l',?_,fun v hv=>?_,?_⟩
      · rw[←e];exact Lc k1 g1
      · rw[←e] at hv
        rcases gY.1 hv with hv | hv
        · exact k2 v hv
        · exact g2 v hv
      · rw[bL,hB.cons];exact g3
theorem aom (hB:lK B BA) {fs:Array Field} (ht:P.underlying t=some (.struct fs)) {F:List V→Nat→Prop} (h:sN enc P W B N fs.toList 0 F) (hc:P.cellsOf t=(fs.toList.map fun f=>P.cellsOf f.type).sum) :
    jo enc P W B (N+1) t fun l b=>∃b',F l b' ∧ b=b' + 1:=by
  intro n hn cs x hx;obtain⟨xs,m,rfl,rfl,hl,hlen,hf⟩:=DataW.trod_struct ht hx;obtain⟨l,h1,h2,h3⟩:=Qc hB (show m<N by omega) (cs:=cs) fs.toList 0 F xs h (by simpa using hlen) (fun i f hi=>hf i f (by simpa using hi)) (by omega);exact⟨l,h1,h2,_,h3,hB.agg _⟩
theorem tq {o:Nat} {F:List V→Nat→Prop} (h:F [] 0):sN enc P W B N [] o F:=h
theorem jX {f:Field} {r:List Field} {o:Nat} {F G:List V→Nat→Prop} (h1:f.offset=o) (h2:jo enc P W B N f.type G) (h3:∀l b,G l b→sN enc P W B N r (o+P.cellsOf f.type) fun l' b' => F (l++l') (b+b')):sN enc P W B N (f::r) o F:=⟨h1,G,h2,h3⟩
theorem aon (hB:lK B BA) {fs:List Field} (ht:P.underlying t=some (.struct fs.toArray)) {F:List V→Nat→Prop} (hc:P.cellsOf t=(fs.map fun f=>P.cellsOf f.type).sum) (h:sN enc P W B N fs 0 fun l b=>F l (b+1)):jo enc P W B (N+1) t F :=
  (aom hB ht (F:=fun l b=>F l (b+1)) (by simpa using h) (by simpa using hc)).to fun l b ⟨b',h1,h2⟩=>h2▸h1
theorem uF (hB:lK B BA) {fs:List Field} (ht:P.underlying t=some (.struct fs.toArray)) {F:List V→Nat→Prop} (hc:P.cellsOf t=(fs.map fun f=>P.cellsOf f.type).sum) (h:sN enc P W B N fs 0 fun l b=>F l (b+1)):jo enc P W B N t F :=
  (aon hB ht hc h).mono (Nat.le_succ N)
theorem Ew {α:Type} (ea:α→List V) (sz:α→Nat) {e:TypeId} {k:Nat} (hB:lK B BA) (ht:P.underlying t=some (.slice e)) (hk:P.cellsOf e=k) (iD:0<k) (hlen:∀y,(ea y).length=k)
    (jy:jo enc P W B N e fun l b=>∃y,l=ea y∧sz y≤b):jo enc P W B N t fun l b=>∃ys:List α,l=[.sl .no k (ys.map ea)]∧(ys.map sz).sum+1≤b :=
  (aok ea sz hB ht hk iD hlen jy).mono (Nat.le_succ N)
end
end Go.Am
namespace Go.Proofs.Tryz
open Go.Am Go.ChangeShapes Go.WideShapes Go.ChangeAt Go.RowKit
open Go.Proofs.YtkeidlpchmepkaaGreatDoor
theorem lg (H:Type):lK (H:=H) Rows.uptoBulk Rows.uptoBulkAll :=
  ⟨fun _=>by simp only[Rows.uptoBulk],fun _ _=>by simp only[Rows.uptoBulk],fun _=>by simp only[Rows.uptoBulk],by simp only[Rows.uptoBulk],fun _ _=>by simp only[Rows.uptoBulk],fun _=>by simp only[Rows.uptoBulk],by simp only[Rows.uptoBulkAll],fun _ _=>by simp only[Rows.uptoBulkAll]⟩
theorem laid:laidOutB prog=true:=by kernel_rfl
theorem amJ:mapsRowed prog=true:=by kernel_rfl
theorem aeQ:((List.range prog.types.size).all fun t=>match prog.underlying t with | some (.slice e)=>decide (0<prog.cellsOf e) | _=>true)=true:=by kernel_rfl
theorem own:ownKnob prog.godebug=none:=by kernel_rfl
def gB:Nat→Option (List V):=fun b=>if b=0 then some fq else if b=1 then some sE else none
theorem ae_ {W:World} (h:laidMetH prog Rows.judgeRoomRow.laid W):Fs W gB:=by
  have h0:laidMet prog Rows.judgeRoomRow.laid W:=h;have h1:=laidMet.tail h0;obtain⟨e0,k0⟩:=R3 (g:=0) (t:=155) (vs:=fq.map vZ) h0 (by kernel_rfl) (by kernel_rfl) (fun cs fuel p hd=>(Yu (ps:=iV) underlying155 underlying88 (by kernel_rfl) (by kernel_rfl) (by kernel_rfl) underlying9 (by kernel_rfl) (by kernel_rfl) (by kernel_rfl) hd).trans rfl) (by simp[fq,iV]);obtain⟨e1,k1⟩:=R3 (g:=1) (t:=277) (vs:=sE.map vZ) h1 (by kernel_rfl) (by kernel_rfl) (fun cs fuel p hd=>(Lib.cells_of_tab (zs:=EH) underlying277 underlying5 (by kernel_rfl) (by kernel_rfl) hd).trans rfl) (by simp[sE,EH]);intro b cs hb;simp only[gB] at hb;split at hb
  · rename_i hq;subst hq;obtain rfl:=lM hb;exact⟨⟨e0,k0⟩,by decide⟩
  split at hb
  · rename_i hq;subst hq;obtain rfl:=lM hb;exact⟨⟨e1,k1⟩,by decide⟩
  simp at hb
def Ii:DataW Unit→List Value
  | .lit (.int k n)=>[.int k n]
  | .lit (.string s)=>[nh s]
  | _=>[]
def ahq:DataW Unit→List Value
  | .agg ds=>ds.flatMap Ii
  | d=>Ii d
def ahr:DataW Unit→List Value
  | .agg ds=>ds.flatMap ahq
  | d=>Ii d
def ahs (h:Array Obj) (x:Nat × DataW Unit):Array Obj:=h.modify x.1 fun
  | .cells _ t frozen=>.cells (ahr x.2).toArray t frozen
  | o=>o
noncomputable def Ig (os:Os):World :=
  {World.holding prog os ⟨#[],#[],[]⟩ with heap:=[(0,Rows.laid_clearance_command_forms),(1,Rows.laid_math_bits_deBruijn64tab)].foldl ahs (World.holding prog os ⟨#[],#[],[]⟩).heap}
set_option maxRecDepth 100000
section
variable {H:Type} {enc:TypeId × Value→H} {W:World} {N:Nat}
abbrev TL (enc:TypeId × Value→H) (W:World) (N:Nat) (t:TypeId) (F:List V→Nat→Prop):Prop:=jo enc prog W (Rows.uptoBulk (H:=H)) N t F
theorem wh:TL enc W N 3 fun l b=>∃y:Int,l=[.int .i64 y]∧1≤b:=(Vl underlying3 (lg H)).to fun _ _ ⟨y,h,k,_⟩=>⟨y,h,by omega⟩
theorem alO:TL enc W N 4 fun l b=>∃y:Bool,l=[.bool y]∧1≤b:=(aoj underlying4 (lg H)).to fun _ _ ⟨y,h,k⟩=>⟨y,h,by omega⟩
theorem Ee:TL enc W N 9 fun l b=>∃y:List UInt8,l=[.str y]∧y.length+1≤b:=(aol underlying9 (lg H)).to fun _ _ ⟨y,h,k⟩=>⟨y,h,by omega⟩
theorem alV:TL enc W N 90 fun l b=>∃ys:List (List UInt8),l=[.sl .no 1 (cU ys)]∧(ys.map fun s=>s.length+1).sum+1≤b :=
  Ew (fun s:List UInt8=>[V.str s]) (fun s=>s.length+1) (lg H) underlying90 (show prog.cellsOf 9=1 by kernel_rfl) (by decide) (fun _=>rfl) (Ee.to fun _ _ ⟨y,h,k⟩=>⟨y,h,k⟩)
theorem alY:TL enc W N 100 fun l b=>∃y:Rl,l=y.enc∧0≤b:=by
  refine uF (lg H) underlying100 (by kernel_rfl) ?_;refine jX (by kernel_rfl) wh ?_;rintro _ b0 ⟨y0,rfl,h0⟩;refine jX (by kernel_rfl) (aoo underlying98 underlying40 (by kernel_rfl) (by kernel_rfl)) ?_;rintro _ b1 ⟨y1,h1,rfl⟩;exact tq ⟨⟨y0,y1,h1⟩,by rw[dD];rfl,pe _⟩
theorem alQ:TL enc W N 102 fun l b=>∃y:aV,l=y.enc∧0≤b:=by
  refine uF (lg H) underlying102 (by kernel_rfl) ?_;refine jX (by kernel_rfl) wh ?_;rintro _ b0 ⟨y0,rfl,h0⟩;refine jX (by kernel_rfl) alV ?_;rintro _ b1 ⟨y1,rfl,h1⟩;refine jX (by kernel_rfl) alY ?_;rintro _ b2 ⟨y2,rfl,h2⟩;exact tq ⟨⟨y0,y1,y2⟩,by simp[aV.enc],by exact pe _⟩
theorem alR:TL enc W N 65 fun l b=>∃ys:List (aV),l=[.sl .no 67 (ys.map aV.enc)]∧(ys.map fun _=>0).sum+1≤b :=
  (Ew aV.enc (fun _=>0) (lg H) underlying65 (show prog.cellsOf 102=67 by kernel_rfl) (by decide) (fun _=>aV.bR) alQ)
theorem al3:TL enc W N 67 fun l b=>∃y:a_,l=y.enc∧0≤b:=by
  refine uF (lg H) underlying67 (by kernel_rfl) ?_;refine jX (by kernel_rfl) alO ?_;rintro _ b0 ⟨y0,rfl,h0⟩;refine jX (by kernel_rfl) alR ?_;rintro _ b1 ⟨y1,rfl,h1⟩;exact tq ⟨⟨y0,y1⟩,by rfl,by exact pe _⟩
theorem alT:TL enc W N 69 fun l b=>∃y:dw,l=y.enc∧0≤b:=by
  refine uF (lg H) underlying69 (by kernel_rfl) ?_;refine jX (by kernel_rfl) Ee ?_;rintro _ b0 ⟨y0,rfl,h0⟩;refine jX (by kernel_rfl) al3 ?_;rintro _ b1 ⟨y1,rfl,h1⟩;exact tq ⟨⟨y0,y1⟩,by rfl,by exact pe _⟩
theorem al6:TL enc W N 72 fun l b=>∃y:cQ,l=y.enc∧0≤b:=by
  refine uF (lg H) underlying72 (by kernel_rfl) ?_;refine jX (by kernel_rfl) Ee ?_;rintro _ b0 ⟨y0,rfl,h0⟩;refine jX (by kernel_rfl) wh ?_;rintro _ b1 ⟨y1,rfl,h1⟩;refine jX (by kernel_rfl) wh ?_;rintro _ b2 ⟨y2,rfl,h2⟩;exact tq ⟨⟨y0,y1,y2⟩,by rfl,by exact pe _⟩
theorem alU:TL enc W N 22 fun l b=>∃ys:List (dw),l=[.sl .no 3 (ys.map dw.enc)]∧(ys.map fun _=>0).sum+1≤b :=
  (Ew dw.enc (fun _=>0) (lg H) underlying22 (show prog.cellsOf 69=3 by kernel_rfl) (by decide) (fun _=>rfl) alT)
theorem al7:TL enc W N 23 fun l b=>∃ys:List (cQ),l=[.sl .no 3 (ys.map cQ.enc)]∧(ys.map fun _=>0).sum+1≤b :=
  (Ew cQ.enc (fun _=>0) (lg H) underlying23 (show prog.cellsOf 72=3 by kernel_rfl) (by decide) (fun _=>rfl) al6)
theorem al1:TL enc W N 25 fun l b=>∃y:ar,l=y.enc∧0≤b:=by
  refine uF (lg H) underlying25 (by kernel_rfl) ?_;refine jX (by kernel_rfl) alU ?_;rintro _ b0 ⟨y0,rfl,h0⟩;refine jX (by kernel_rfl) al7 ?_;rintro _ b1 ⟨y1,rfl,h1⟩;exact tq ⟨⟨y0,y1⟩,by rfl,by exact pe _⟩
theorem alZ:TL enc W N 27 fun l b=>∃y:Rm,l=y.enc∧0≤b:=by
  refine uF (lg H) underlying27 (by kernel_rfl) ?_;refine jX (by kernel_rfl) wh ?_;rintro _ b0 ⟨y0,rfl,h0⟩;refine jX (by kernel_rfl) wh ?_;rintro _ b1 ⟨y1,rfl,h1⟩;refine jX (by kernel_rfl) wh ?_;rintro _ b2 ⟨y2,rfl,h2⟩;exact tq ⟨⟨y0,y1,y2⟩,by rfl,by exact pe _⟩
end
end Go.Proofs.Tryz
namespace Go.Proofs.Tryz
open Go.Am
set_option maxRecDepth 4000
set_option maxHeartbeats 4000000
def LG:AC:=.seq (.aa [⟨(some 2),.box 18 (.s 0),none⟩,⟨(some 3),.box 18 (.s 1),none⟩,⟨(some 4),.mv (.c (.bool false)),none⟩])
 (.seq (.aa [xf 0 5 2,xo 6 5,xf 0 7 3,xo 8 7,xb .eql 9 6 8,U 10 9,xg 10 (xf 1 11 2),xg 10 (xo 12 11),xg 10 (xf 1 13 3),xg 10 (xo 14 13),xg 10 (xb .eql 15 12 14),⟨(some 16),.pick (.s 10) (.s 15) (.c (.bool false)),none⟩,U 17 16,xg 17 (xf 2 18 2),xg 17 (xo 19 18),xg 17 (xf 2 20 3),xg 17 (xo 21 20),xg 17 (xc 33 22 [.s 19,.s 21]),⟨(some 23),.pick (.s 17) (.s 22) (.c (.bool false)),none⟩,U 24 23,xg 24 (xf 3 25 2),xg 24 (xl 9 26 25),xg 24 (xf 3 27 3),xg 24 (xl 9 28 27),⟨(some 29),.jw false [1,1,1,1,1,1,1,1,1] (.s 26) (.s 28),(some (24,true))⟩,⟨(some 30),.pick (.s 24) (.s 29) (.c (.bool false)),none⟩,U 31 30,xg 31 (xf 12 32 2),xg 31 (xl 2 33 32),xg 31 (xf 12 34 3),xg 31 (xl 2 35 34),xg 31 (xc 34 36 [.s 33,.s 35]),⟨(some 37),.pick (.s 31) (.s 36) (.c (.bool false)),none⟩,U 38 37,xg 38 (xf 14 39 2),xg 38 (xl 2 40 39),xg 38 (xf 14 41 3),xg 38 (xl 2 42 41),xg 38 (xc 34 43 [.s 40,.s 42]),⟨(some 44),.pick (.s 38) (.s 43) (.c (.bool false)),none⟩,U 45 44,xg 45 (xf 16 46 2),xg 45 (xo 47 46),xg 45 (xf 16 48 3),xg 45 (xo 49 48),xg 45 (xb .eql 50 47 49),⟨(some 51),.pick (.s 45) (.s 50) (.c (.bool false)),none⟩,U 52 51,xg 52 (xf 17 53 2),xg 52 (xo 54 53),xg 52 (xf 17 55 3),xg 52 (xo 56 55),⟨(some 57),.gP .eql (.s 54) (.s 56),(some (52,true))⟩,⟨(some 58),.pick (.s 52) (.s 57) (.c (.bool false)),none⟩,U 4 58])
 (.ret))
theorem ab6:aJ prog 12 LG [.tmp 4] 59:=⟨f12,⟨[],[],[]⟩,func12,by kernel_rfl,by kernel_rfl,by kernel_rfl,by kernel_rfl⟩
def Nw:AC:=.seq (.aa [⟨(some 2),.box 2 (.s 0),none⟩,⟨(some 3),.box 2 (.s 1),none⟩,⟨(some 4),.mv (.c (.bool false)),none⟩])
 (.seq (.seq (.aa [xf 1 6 2,xo 7 6,xf 1 8 3,xo 9 8,xb .neq 10 7 9,U 11 10,xh 11 (xf 0 12 2),xh 11 (xo 13 12),xh 11 (xL 14 13),xh 11 (xf 0 15 3),xh 11 (xo 16 15),xh 11 (xL 17 16),xh 11 (xb .neq 18 14 17),⟨(some 19),.pick (.s 11) (.c (.bool true)) (.s 18),none⟩])
 (.cond (.s 19) (.seq (.aa [⟨(some 4),.mv (.c (.bool false)),none⟩])
 (.ret))
 (.skip)))
 (.seq (.seq (.aa [xi 5 0])
 (.block 0 (.loop (.seq (.seq (.aa [U 20 5,xf 0 21 2,xo 22 21,xL 23 22,xb .lss 24 20 23])
 (.cond (.s 24) (.skip)
 (.exit 0)))
 (.seq (.block 1 (.seq (.draw [(xf 0 27 2,[]),(xo 28 27,[]),(U 29 5,[]),(xA 10 30 28 29,[]),(xl 10 31 30,[]),(xf 0 32 3,[]),(xo 33 32,[]),(U 34 5,[]),(xA 10 35 33 34,[]),(xl 10 36 35,[]),(⟨(some 37),.jw true [2,1,1,1,1,1,1,1,1,1] (.s 31) (.s 36),none⟩,[])])
 (.cond (.s 37) (.seq (.aa [⟨(some 4),.mv (.c (.bool false)),none⟩])
 (.ret))
 (.skip))))
 (.aa [U 25 5,xB .add 26 25 1,U 5 26]))))))
 (.seq (.aa [⟨(some 4),.mv (.c (.bool true)),none⟩])
 (.ret))))
theorem adY:aJ prog 34 Nw [.tmp 4] 38:=⟨f34,⟨[],[],[]⟩,func34,by kernel_rfl,by kernel_rfl,by kernel_rfl,by kernel_rfl⟩
theorem Qa {l:List bB} {j:Nat} (h:j<l.length):(l.map bB.enc)[((j:Nat):Int).toNat]?=some l[j].enc:=by simp[h]
theorem T4 (t:df) (σ:ab) (hl:t.fs.length≤100000):ak prog 34 [.agg t.enc,.agg t.enc] σ fun v σ' => v = .bool true∧σ' = σ:=by
  refine adY.calls ?_;simp only[aI,Nw,am,aP,Nat.reduceAdd,bQ,df.af,aD];obtain⟨F,hF⟩:∃F:Nat→Unit→St,∀i x,F i x=⟨[.any,.any,.ptr (.loc 0) 0,.ptr (.loc 1) 0,.any,.int .i64 (i:Nat)]++List.replicate 32 .any,[t.enc,t.enc],σ⟩:=⟨_,fun _ _=>rfl⟩;obtain⟨JF,aO⟩:∃JF:Nat→Unit→Prop,∀i x,JF i x=(True):=⟨_,fun _ _=>rfl⟩;refine db (t.fs.length) F JF _ aO ?_ ?_ ?_
  · refine dA (()) ?_ ?_ ?_ ?_
    · exact Eq.mpr (aO _ _) (trivial)
    all_goals simp[hF,List.replicate,am,bj]
  · rintro i x hi -;simp only[hF,List.replicate,am,c8 hi,df.af,aD];refine bx (by omega) (Qa hi) ?_;simp only[am,bB.af,df.af];refine bx (by omega) (Qa hi) ?_;simp only[am,bQ,aM,bB.af,ca hi (by omega)];refine nxt (()) hi ?_ ?_ ?_ ?_
    · exact Eq.mpr (aO _ _) (trivial)
    all_goals simp[hF,List.replicate,am,bj]
  · rintro x -;simp only[hF,List.replicate,am,aM,c9,aM,df.af,aD];refine az ?_;simp[V.erase]
theorem YO (s:ar) (c:aj) (hl:c.left.bI≤100000):(kF s c).code.length≤100000:=by
  rw[kF];split
  · have:=YS s (bP s c) c.left;simp only;omega
  · split<;>simp
theorem Uc {s:ar} {lat:Nat} {n:Nd} (h:n.bI≤100000):(j9 s lat n).fs.length≤100000:=by
  have:=u9 n
  rw[j9];split
  · simp
  · simp only[aD];omega
theorem Qb (s:ar) (c:aj) (hl:c.left.bI≤100000) (hr:c.right.bI≤100000):(kF s c).a.fs.length≤100000∧(kF s c).b.fs.length≤100000:=by
  rw[kF];split
  · simp[df.zero]
  · split
    · exact⟨Uc hl,Uc hr⟩
    · simp[df.zero]
theorem al_ (x:iu) (σ:ab) (hc:x.code.length≤100000) (ha:x.a.fs.length≤100000) (hb:x.b.fs.length≤100000):ak prog 12 [.agg x.enc,.agg x.enc] σ fun v σ' => v = .bool true∧σ' = σ:=by
  obtain⟨op,lat,code,to,a,b,v,field⟩:=x;show ak prog 12 [.agg (bM op lat (.sl .no 10 (code.map aW.enc)) to (.sl .no 10 (a.fs.map bB.enc)) a.tail (.sl .no 10 (b.fs.map bB.enc)) b.tail v field),.agg (bM op lat (.sl .no 10 (code.map aW.enc)) to (.sl .no 10 (a.fs.map bB.enc)) a.tail (.sl .no 10 (b.fs.map bB.enc)) b.tail v field)] σ _;refine ab6.calls ?_;simp only[aI,LG,am,aP,Nat.reduceAdd];simp only[am,bQ,gi];refine cl (am8 code code σ hc hc) ?_;simp only[am,bQ,bg.af,gi];refine cl (T4 a σ ha) ?_;simp only[am,gi];refine cl (T4 b σ hb) ?_;simp only[am,bQ,gi];refine az ?_;simp[V.erase]
theorem Ov (s:ar) (c:aj) (σ:ab) (hl:c.left.bI≤100000) (hr:c.right.bI≤100000):ak prog 12 [.agg (mC s c).enc,.agg (mC s c).enc] σ fun v σ' => v = .bool true∧σ' = σ:=by
  refine al_ _ σ ?_ ?_ ?_
  all_goals
    unfold mC;split
  · exact YO s c hl
  · simp[iu.zero]
  · exact(Qb s c hl hr).1
  · simp[iu.zero,df.zero]
  · exact(Qb s c hl hr).2
  · simp[iu.zero,df.zero]
def NM:AC:=.seq (.aa [⟨(some 3),.box 2 (.s 0),none⟩,⟨(some 4),.box 3 (.s 1),none⟩,⟨(some 5),.box 2 (.s 2),none⟩,⟨(some 6),.mv (.c (.bool false)),none⟩])
 (.seq (.seq (.aa [xl 2 14 3,xc 7 15 [.s 14],U 16 15,xh 16 (xf 1 17 5),xh 16 (xo 18 17),xh 16 (xT 19 18),xh 16 (xB .gtr 20 19 1200),⟨(some 21),.pick (.s 16) (.c (.bool true)) (.s 20),none⟩])
 (.cond (.s 21) (.seq (.aa [xc 8 22 [],U 6 22])
 (.ret))
 (.skip)))
 (.seq (.aa [⟨(some 7),.mv (.c (.str [])),none⟩])
 (.seq (.seq (.aa [xf 0 23 5,xo 24 23,⟨(some 25),.mv (.c (.int .u8 0)),none⟩])
 (.block 0 (.loop (.seq (.aa [xb .lss 26 25 24])
 (.seq (.cond (.s 26) (.skip)
 (.exit 0))
 (.seq (.block 1 (.aa [U 27 7,⟨(some 28),.cat (.s 27) (.c (.str [32])),none⟩,U 7 28]))
 (.aa [xu .add 29 25 1,U 25 29])))))))
 (.seq (.aa [xl 2 31 3,xl 3 32 4,xf 1 33 5,xo 34 33,xc 9 35 [.s 31,.s 32,.s 34],U 30 35,xe 36 30 0,xe 37 30 1,xe 38 30 2,⟨(some 8),.alloc [(.int .i64 0),(.int .i64 0),(.str []),(.int .i64 0),(.sl .full 2 []),(.sl .full 4 []),(.int .i64 0),(.int .i64 0),(.int .i64 0),(.str []),(.sl .full 2 []),(.sl .full 5 []),(.int .i64 0),(.int .i64 0),(.str []),(.sl .full 2 []),(.sl .full 5 [])],none⟩,⟨(some 9),.alloc ju,none⟩,⟨(some 10),.alloc [(.int .i64 0),(.int .i64 0)],none⟩,xs 17 8 36,xs 18 9 37,xs 2 10 38])
 (.seq (.aa [xl 2 40 3,xl 3 41 4,U 42 7,xf 1 43 5,xo 44 43,⟨(some 45),.cat (.s 42) (.s 44),none⟩,xc 9 46 [.s 40,.s 41,.s 45],U 39 46,xe 47 39 0,xe 48 39 1,xe 49 39 2,⟨(some 11),.alloc [(.int .i64 0),(.int .i64 0),(.str []),(.int .i64 0),(.sl .full 2 []),(.sl .full 4 []),(.int .i64 0),(.int .i64 0),(.int .i64 0),(.str []),(.sl .full 2 []),(.sl .full 5 []),(.int .i64 0),(.int .i64 0),(.str []),(.sl .full 2 []),(.sl .full 5 [])],none⟩,⟨(some 12),.alloc ju,none⟩,⟨(some 13),.alloc [(.int .i64 0),(.int .i64 0)],none⟩,xs 17 11 47,xs 18 12 48,xs 2 13 49])
 (.seq (.seq (.aa [xl 2 50 10,⟨(some 51),.build [(.int .i64 0),(.int .i64 0)] [],none⟩,⟨(some 52),.jw true [1,1] (.s 50) (.s 51),none⟩])
 (.cond (.s 52) (.seq (.aa [xl 2 53 13,xf 0 54 10,xo 55 54,xf 1 56 10,xo 57 56,xf 0 58 5,xo 59 58,⟨(some 60),.lS .i64 (.s 59),none⟩,xb .add 61 57 60,⟨(some 62),.build [(.int .i64 0),(.int .i64 0)] [(0,1,(.s 55)),(1,1,(.s 61))],none⟩,⟨(some 63),.jw false [1,1] (.s 53) (.s 62),none⟩,U 64 63,xg 64 (xc 8 65 []),⟨(some 66),.pick (.s 64) (.s 65) (.c (.bool false)),none⟩,U 6 66])
 (.ret))
 (.skip)))
 (.seq (.aa [xl 2 67 13,⟨(some 68),.build [(.int .i64 0),(.int .i64 0)] [],none⟩,⟨(some 69),.jw false [1,1] (.s 67) (.s 68),none⟩,U 70 69,xg 70 (xl 17 71 8),xg 70 (xl 17 72 11),xg 70 (xc 16 73 [.s 71,.s 72]),⟨(some 74),.pick (.s 70) (.s 73) (.c (.bool false)),none⟩,U 75 74,xg 75 (xl 18 76 9),xg 75 (xl 18 77 12),xg 75 (xc 12 78 [.s 76,.s 77]),⟨(some 79),.pick (.s 75) (.s 78) (.c (.bool false)),none⟩,U 80 79,xg 80 (xc 8 81 []),⟨(some 82),.pick (.s 80) (.s 81) (.c (.bool false)),none⟩,U 6 82])
 (.ret))))))))
theorem fn5:aJ prog 5 NM [.tmp 6] 83:=⟨f5,⟨[],[],[]⟩,func5,by kernel_rfl,by kernel_rfl,by kernel_rfl,by kernel_rfl⟩
theorem apj {i n:Nat} (h:i<n) (hn:n<256):IntKind.u8.wrap ((i:Int)+1)=((i+1:Nat):Int):=by
  simp[IntKind.wrap,IntKind.signed,IntKind.bits];omega
theorem anw (s:ar) (r:Rm) (m:Nat) (t:List UInt8) {σ:ab} (hm:m<256) (hg:TZ σ) (lz:σ.bH 0=some fq) :
    ak prog 5 [.agg s.enc,.agg r.enc,.agg [.int .u8 (m:Nat),.str t]] σ fun v σ' => v = .bool true∧σ' = σ:=by
  have Cf:=Wk hg lz;have c1:=fun h1 h2=>Dy s r t (σ:=σ) h1 hg lz h2
  have c2:=fun h1 h2=>Dy s r (List.replicate m 32++t) (σ:=σ) h1 hg lz h2
  have wm:IntKind.i64.wrap (m:Int)=m:=wrap_i64 (by omega) (by omega);refine fn5.calls ?_;simp only[aI,NM,am,aP,Nat.reduceAdd,ar.af,Rm.af,ju];refine cl (Xq s σ) ?_;cases hb:u1 s with
  | true =>
    simp only[am];refine cl Cf ?_;simp only[am];refine az ?_;simp[V.erase]
  | false =>
    have hs:=Xt hb
    by_cases o1:1200<t.length
    · simp only[am,aC (show (1200:Int)<t.length by omega)];refine cl Cf ?_;simp only[am];refine az ?_;simp[V.erase]
    simp only[am,aA (show ¬(1200:Int)<t.length by omega)];obtain⟨F,hF⟩:∃F:Nat→Unit→St,∀i x,F i x=⟨[.any,.any,.any,.ptr (.loc 0) 0,.ptr (.loc 1) 0,.ptr (.loc 2) 0,.bool false,.str (List.replicate i 32),.any,.any,.any,.any,.any,.any,.any,.any,.any,.any,.any,.any,.any,.any,.any,.any,.int .u8 (m:Nat),.int .u8 (i:Nat)]++List.replicate 57 .any,[s.enc,r.enc,[.int .u8 (m:Nat),.str t]],σ⟩:=⟨_,fun _ _=>rfl⟩;obtain⟨JF,aO⟩:∃JF:Nat→Unit→Prop,∀i x,JF i x=(True):=⟨_,fun _ _=>rfl⟩;refine db (m) F JF _ aO ?_ ?_ ?_
    · refine dA (()) ?_ ?_ ?_ ?_
      · exact Eq.mpr (aO _ _) (trivial)
      all_goals simp[hF,List.replicate,am,bj]
    · rintro i x hi -;simp only[hF,List.replicate,am,aM,c8 hi,aM,apj hi hm];refine⟨by simp[aE];omega,?_⟩;have er:List.replicate i (32:UInt8)++[32]=32::List.replicate i 32:=by rw[←List.replicate_succ',ry]
      refine nxt (()) hi ?_ ?_ ?_ ?_
      · exact Eq.mpr (aO _ _) (trivial)
      all_goals simp[hF,List.replicate,am,bj,er]
    · rintro x -;have afY:=@anv s r t m;have bw:=IX (t:=t) (by omega);have Re:=IX (t:=List.replicate m 32++t) (by simp;omega);have c3:=Ov s (cS t).1 σ bw.l bw.r;have h2:(List.replicate m 32++t).length≤3000:=by simp;omega
      have hbig:aE=268435456:=rfl
      rcases afY with ⟨h0,h1,h3,h4⟩ | ⟨h1,c,h3,h4,h5⟩
      · generalize gF s r t=X at c1 h0 h1 h3 h4;generalize gF s r (List.replicate m 32++t)=Z at c2 h1;obtain⟨c,x,f⟩:=X;obtain⟨d,z,g⟩:=Z;simp only[vQ] at c1 c2 h0 h1 h3 h4;subst h1;obtain⟨a1,a2,a3,a4,a5⟩:=zo x;obtain⟨b1,b2,b3,b4,b5⟩:=zo z;generalize x.enc=A at c1 a1 a2 a3 a4 a5;generalize z.enc=B at c2 b1 b2 b3 b4 b5;have wf:IntKind.i64.wrap (f.loc+m)=f.loc+m:=wrap_i64 (by omega) (by omega);simp only[hF,List.replicate,am,aM,c9,aM,ar.af,Rm.af];refine cl (c1 hs (by omega)) ?_;simp only[am,Nat.reduceAdd,au.af,ar.af,Rm.af,dx,gi,a1,a3,a5];refine⟨by rw[Fl];omega,?_⟩;refine cl (c2 hs h2) ?_;simp only[am,Nat.reduceAdd,bQ,au.af,dx,gi,b1,b3,b5,Gq,aA (show ¬f=⟨0,0⟩ from fun e=>h0 (by rw[e])),wm,wf];refine cl Cf ?_;simp only[am];refine az ?_;simp[V.erase]
      · rw[h1] at c1;rw[h3] at c2;generalize (cS t).1=d at *;simp only[vQ] at c1 c2;have c3:=Ov s d σ bw.l bw.r;rw[h5] at Re;obtain⟨a1,a2,a3,a4,a5⟩:=zo (mC s d);generalize (mC s d).enc=A at c1 c2 c3 a1 a2 a3 a4 a5;simp only[hF,List.replicate,am,aM,c9,aM,ar.af,Rm.af];refine cl (c1 hs (by omega)) ?_;simp only[am,Nat.reduceAdd,au.af,ar.af,Rm.af,dx,gi,a1,a3,a5];refine⟨by rw[Fl];omega,?_⟩;refine cl (c2 hs h2) ?_;simp only[am,Nat.reduceAdd,au.af,dx,gi,a1,a3,a5,Gq,show decide (au.zero=⟨0,0⟩)=true from rfl];refine cl (Zh d c _ bw.n Re.n (by have:=bw.p;simp only[aE];omega) bw.wl bw.wr) ?_;simp only[am,h4,a2,a4];refine cl c3 ?_;simp only[am];refine cl Cf ?_;simp only[am];refine az ?_;simp[V.erase]
end Go.Proofs.Tryz
namespace Go.Proofs.Tryz
open Go.Am Go.ChangeShapes Go.WideShapes Go.ChangeAt Go.RowKit
open Go.Proofs.YtkeidlpchmepkaaGreatDoor
set_option maxRecDepth 100000
section
variable {H:Type} {enc:TypeId × Value→H} {W:World} {N:Nat}
theorem al5:TL enc W N 5 fun l b=>∃y:Nat,l=[.int .u8 (y:Nat)]∧y<256∧1≤b:=(Vl underlying5 (lg H)).to fun _ _ ⟨y,h,k,hw⟩=>by
  simp[Lit.wf,IntKind.min,IntKind.max,IntKind.signed,IntKind.bits] at hw;obtain⟨n,rfl⟩:∃n:Nat,y=n:=⟨y.toNat,by omega⟩;exact⟨n,h,by omega,by omega⟩
theorem alN:TL enc W N 61 fun l b=>∃y:Nat × List UInt8,l=[.int .u8 (y.1:Nat),.str y.2]∧y.1<256∧0≤b:=by
  refine uF (lg H) underlying61 (by kernel_rfl) ?_;refine jX (by kernel_rfl) al5 ?_;rintro _ b0 ⟨y0,rfl,k0,h0⟩;refine jX (by kernel_rfl) Ee ?_;rintro _ b1 ⟨y1,rfl,h1⟩;exact tq ⟨(y0,y1),rfl,k0,pe _⟩
end
end Go.Proofs.Tryz
