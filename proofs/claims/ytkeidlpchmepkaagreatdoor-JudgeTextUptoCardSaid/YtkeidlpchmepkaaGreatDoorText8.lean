/-
  For every scope, room and line: the text of a line's command is judged as the line: it is the same command, and the same assertion (JudgeText), where what comes in is of bulk at most 1048576.
-/
import Derived.Test.YtkeidlpchmepkaaGreatDoorProg
import Derived.ProofKit
import Derived.OpenShut
import Derived.JoinedCond
import Derived.ChangeStays
import Derived.ReadAgain
import Derived.Deep.DeepHandedRow
import Derived.Lib.LaidTab
import Derived.Stop.LaidErr
import Derived.Test.YtkeidlpchmepkaaGreatDoorCards
import Derived.Test.YtkeidlpchmepkaaGreatDoorTie
import Derived.Test.YtkeidlpchmepkaaGreatDoorText7
set_option linter.unusedVariables false
set_option linter.unusedSimpArgs false
set_option linter.defProp false
set_option linter.unusedSectionVars false
namespace Go.Proofs.Tryz
open Go.Am
set_option maxRecDepth 4000
set_option maxHeartbeats 4000000
def Oc:AC:=.seq (.aa [⟨(some 2),.mv (.c (.sl .full 1 [])),none⟩])
 (.seq (.aa [⟨(some 3),.mv (.c (.sl .full 1 [])),none⟩])
 (.seq (.seq (.aa [xm 6 0,xL 7 6,xi 8 0])
 (.block 0 (.loop (.seq (.aa [xb .lss 9 8 7])
 (.seq (.cond (.s 9) (.skip)
 (.exit 0))
 (.seq (.block 1 (.seq (.aa [xA 2 10 6 8,xl 2 11 10,⟨(some 5),.alloc [(.str []),(.int .i64 0)],none⟩,xs 2 5 11])
 (.aa [xm 12 3,xf 0 13 5,xo 14 13,⟨(some 15),.cR 1 [(.s 14)],none⟩,xa 1 16 12 15,xm 3 16])))
 (.aa [xB .add 17 8 1,xm 8 17])))))))
 (.seq (.aa [xm 18 3,xm 2 18])
 (.ret))))
theorem afq:aK prog 111 Oc [.tmp 2] 19:=⟨f111,⟨[],[],[]⟩,func111,by kernel_rfl,by kernel_rfl,by kernel_rfl,by kernel_rfl⟩
def Oh:AC:=.seq (.aa [⟨(some 1),.box 17 (.s 0),none⟩,⟨(some 2),.alloc oo,none⟩])
 (.seq (.aa [xf 4 7 1,xo 8 7,xc 111 9 [.s 8],xm 3 9])
 (.seq (.aa [⟨(some 4),.mv (.c (.sl .full 2 [])),none⟩])
 (.seq (.seq (.aa [xf 5 10 1,xo 11 10,xL 12 11,xi 13 0])
 (.block 0 (.loop (.seq (.aa [xb .lss 14 13 12])
 (.seq (.cond (.s 14) (.skip)
 (.exit 0))
 (.seq (.block 1 (.seq (.aa [xA 4 15 11 13,xl 4 16 15,⟨(some 6),.alloc [(.str []),(.int .i64 0),(.str []),(.int .i64 0)],none⟩,xs 4 6 16])
 (.draw [(xm 17 4,[]),(xm 18 3,[]),(⟨(some 19),.fk 2 2 (.s 6) (.c (.int .i64 0)),none⟩,[]),(xf 0 20 19,[]),(xo 21 20,[]),(xc 112 22 [.s 18,.s 21],[]),(xm 23 3,[]),(⟨(some 24),.fk 2 2 (.s 6) (.c (.int .i64 1)),none⟩,[]),(xf 0 25 24,[]),(xo 26 25,[0]),(xc 112 27 [.s 23,.s 26],[]),(⟨(some 28),.build [(.int .i64 0),(.int .i64 0)] [(0,1,(.s 22)),(1,1,(.s 27))],none⟩,[]),(⟨(some 29),.cR 2 [(.s 28)],none⟩,[]),(xa 2 30 17 29,[]),(xm 4 30,[])])))
 (.aa [xB .add 31 13 1,xm 13 31])))))))
 (.seq (.aa [xm 32 3,xL 33 32,xm 34 4,xc 165 35 [.s 33,.s 34],xc 164 36 [.s 35],xs 65 2 36])
 (.ret)))))
theorem afu:aK prog 115 Oh [.cell 2 true 65] 37:=⟨f115,⟨[],[],[]⟩,func115,by kernel_rfl,by kernel_rfl,by kernel_rfl,by kernel_rfl⟩
def OS:AC:=.seq (.aa [⟨(some 4),.alloc oo,none⟩])
 (.seq (.aa [xm 8 0,xc 222 9 [.s 8],⟨(some 5),.alloc oo,none⟩,xs 65 5 9])
 (.seq (.seq (.aa [xm 10 1,xL 11 10,xi 12 0])
 (.block 0 (.loop (.seq (.aa [xb .lss 13 12 11])
 (.seq (.cond (.s 13) (.skip)
 (.exit 0))
 (.seq (.block 1 (.seq (.aa [xA 2 14 10 12,xl 2 15 14,⟨(some 7),.alloc [(.int .i64 0),(.int .i64 0)],none⟩,xs 2 7 15])
 (.seq (.aa [xl 65 16 5,xf 0 17 7,xo 18 17,xc 223 19 [.s 16,.s 18],xm 20 19,xg 20 (xl 65 21 5),xg 20 (xf 1 22 7),xg 20 (xo 23 22),xg 20 (xc 223 24 [.s 21,.s 23]),⟨(some 25),.pick (.s 20) (.s 24) (.c (.bool false)),none⟩])
 (.cond (.s 25) (.draw [(xf 0 26 7,[]),(xo 27 26,[1]),(xf 0 28 7,[]),(xo 29 28,[]),(xf 1 30 5,[]),(⟨(some 31),.fk 64 1 (.s 30) (.s 29),none⟩,[]),(xo 32 31,[]),(xf 1 33 7,[]),(xo 34 33,[]),(xc 220 35 [.s 32,.s 34],[]),(xf 1 36 5,[]),(⟨(some 37),.fk 64 1 (.s 36) (.s 27),none⟩,[]),(xs 1 37 35,[])])
 (.skip)))))
 (.aa [xB .add 38 12 1,xm 12 38])))))))
 (.seq (.aa [xl 65 39 5,xs 65 4 39])
 (.ret))))
theorem afY:aK prog 165 OS [.cell 4 true 65] 40:=⟨f165,⟨[],[],[]⟩,func165,by kernel_rfl,by kernel_rfl,by kernel_rfl,by kernel_rfl⟩
def Py:AC:=.seq (.aa [⟨(some 2),.box 65 (.s 0),none⟩,⟨(some 4),.mv (.c (.bool false)),none⟩])
 (.seq (.aa [xm 5 1,xB .geq 6 5 0,xm 7 6,xg 7 (xm 8 1),xg 7 (xl 65 9 2),xg 7 (xc 213 10 [.s 9]),xg 7 (xb .lss 11 8 10),⟨(some 12),.pick (.s 7) (.s 11) (.c (.bool false)),none⟩,xm 4 12])
 (.ret))
theorem agD:aK prog 223 Py [.tmp 4] 13:=⟨f223,⟨[],[],[]⟩,func223,by kernel_rfl,by kernel_rfl,by kernel_rfl,by kernel_rfl⟩
def vY (p:Int × Int):List V:=[.int .i64 p.1,.int .i64 p.2]
theorem Xa (r:Rl) (i:Int) (σ:ae):al prog 223 [.agg r.enc,.int .i64 i] σ fun v σ' => v = .bool (decide (0≤i)&&decide (i<(bp r:Nat)))∧σ' = σ:=by
  refine agD.calls ?_;simp only[aJ,Py,am,aR,Nat.reduceAdd,Rl.af]
  by_cases h:0≤i
  · simp only[am,Rl.af,aD h];refine cl (yp r σ) ?_;simp only[am];refine az ?_;simp[V.erase]
  · simp only[am,aB h];refine az ?_;simp[V.erase]
theorem aoW {l:List (Int × Int)} {j:Nat} (h:j<l.length):(l.map vY)[((j:Nat):Int).toNat]?=some (vY l[j]):=by simp[h]
theorem Gn {n:Int} {l:List (Int × Int)}:bp (oe n l)≤64:=lH
theorem ap7 (n:Int) (l:List (Int × Int)) (σ:ae) (hl:l.length≤100000):al prog 165 [.int .i64 n,.sl .no 2 (l.map vY)] σ fun v σ' => v = .agg (oe n l).enc∧σ' = σ:=by
  refine afY.calls ?_;simp only[aJ,OS,am,aR,Nat.reduceAdd,Rl.af];refine cl (VW n σ) ?_;simp only[am,aE,Rl.af,aE];obtain⟨F,hF⟩:∃F:Nat→Unit→St,∀i x,F i x=⟨[.any,.any,.any,.any,.ptr (.loc 0) 0,.ptr (.loc 1) 0,.any,.any,.any,.any,.sl .no 2 (l.map vY),.int .i64 (l.length:Nat),.int .i64 (i:Nat)]++List.replicate 27 .any,[Rl.zero.enc,(oe n (l.take i)).enc],σ⟩:=⟨_,fun _ _=>rfl⟩;obtain⟨JF,aQ⟩:∃JF:Nat→Unit→Prop,∀i x,JF i x=(True):=⟨_,fun _ _=>rfl⟩;refine dC (l.length) F JF _ aQ ?_ ?_ ?_
  · refine en (()) ?_ ?_ ?_ ?_
    · exact Eq.mpr (aQ _ _) (trivial)
    all_goals simp[hF,List.replicate,am,bu,oe]
  · rintro i x hi -;have hT:=anH (n:=n) hi;generalize hr:oe n (l.take i)=r at hT;have hp:=@lH r;obtain⟨p,J6⟩:∃p,l[i]=p:=⟨_,rfl⟩;rw[J6] at hT;simp only[hF,List.replicate,am,dB hi];refine bD (by omega) (aoW hi) ?_;rw[J6,hr];obtain⟨a,b⟩:=p;simp only[am,Nat.reduceAdd,Rl.af,vY];refine cl (Xa r a σ) ?_
    by_cases ha:0≤a∧a<(bp r:Nat)
    · simp only[am,Rl.af,aD ha.1,aD ha.2];refine cl (Xa r b σ) ?_
      by_cases hb:0≤b∧b<(bp r:Nat)
      · obtain⟨k,rfl⟩:∃k:Nat,a=k:=⟨a.toNat,by omega⟩;have hk:k<64:=by omega
        have e:oe n (l.take (i+1))=r.put k (jg (r.get k) b):=by rw[hT,CS,ak ⟨ha,hb⟩];rfl
        simp only[am,cf,aD hb.1,aD hb.2];refine jx (by omega) (by omega) ?_;simp only[am,iP,pJ,Rl.uG hk];refine br.intro (CQ (r.get k) b σ) ?_;simp only[am,cf];refine jx (by omega) (by omega) ?_;simp only[Dw,Rl.AH hk,Rl.AI hk,cu hi (by omega)];refine fm (()) hi ?_ ?_ ?_ ?_ ?_ ?_
        · exact Eq.mpr (aQ _ _) (trivial)
        all_goals simp[hF,List.replicate,am,bu,bx,c8,V.lo,e,Rl.bY]
      · have e:oe n (l.take (i+1))=r:=by rw[hT,CS,ah fun h=>hb h.2]
        have bz : (decide (0≤b)&&decide (b<(bp r:Nat)))=false:=by rw[←uM];exact aB hb
        simp only[am,aO,bz,cu hi (by omega)];refine fm (()) hi ?_ ?_ ?_ ?_ ?_ ?_
        · exact Eq.mpr (aQ _ _) (trivial)
        all_goals simp[hF,List.replicate,am,bu,bx,c8,V.lo,e,Rl.bY]
    · have e:oe n (l.take (i+1))=r:=by rw[hT,CS,ah fun h=>ha h.1]
      have E7 : (decide (0≤a)&&decide (a<(bp r:Nat)))=false:=by rw[←uM];exact aB ha
      simp only[am,aO,E7,cu hi (by omega)];refine fm (()) hi ?_ ?_ ?_ ?_ ?_ ?_
      · exact Eq.mpr (aQ _ _) (trivial)
      all_goals simp[hF,List.replicate,am,bu,bx,c8,V.lo,e,Rl.bY]
  · rintro x -;simp only[hF,List.replicate,am,aO,dG,aO,Rl.af,dW];exact aG (v:=.agg (oe n l).enc) Rl.cN (ae.aW _) ⟨by simp only[V.erase,Rl.cM],rfl⟩
theorem Mw (l:List Word) (σ:ae) (hl:l.length≤100000):al prog 111 [.sl .no 2 (l.map Word.enc)] σ fun v σ' => v = .sl .no 1 (di (dm l))∧σ' = σ:=by
  refine afq.calls ?_;simp only[aJ,Oc,am,aR,aE];obtain⟨F,hF⟩:∃F:Nat→Nat→St,∀i τ,F i τ=⟨[.any,.any,.any,.sl (.tk τ) 1 (di (dm (l.take i))),.any,.any,.sl .no 2 (l.map Word.enc),.int .i64 (l.length:Nat),.int .i64 (i:Nat)]++List.replicate 10 .any,[],σ.aL τ i⟩:=⟨_,fun _ _=>rfl⟩;obtain⟨JF,aQ⟩:∃JF:Nat→Nat→Prop,∀i τ,JF i τ=(σ.aC τ=none):=⟨_,fun _ _=>rfl⟩;refine dC (l.length) F JF _ aQ ?_ ?_ ?_
  · refine IF 0 fun τ bh=>⟨τ,Eq.mpr (aQ _ _) bh,?_,?_,?_⟩
    all_goals simp[hF,List.replicate,od,dm,di]
  · rintro i τ hi bh;have hlen:(di (dm (l.take i))).length=i:=by rw[kG,AX,gZ];omega
    have hs:di (dm (l.take (i+1)))=di (dm (l.take i))++[[.str l[i].text]]:=by rw[kP hi];simp only[dm,di,fE,bC,dp]
    simp only[hF,List.replicate,am,dB hi];refine bD (by omega) (AW hi) ?_;simp only[am,Word.af,wq];refine ke (by rw[hlen];simp[aF];omega) (by rw[hlen];exact lK) ?_;rw[hlen];simp only[am,aO,j5,cu hi (by omega),iE];refine fm (τ) hi ?_ ?_ ?_ ?_ ?_ ?_
    · exact Eq.mpr (aQ _ _) (bh)
    all_goals simp[hF,List.replicate,am,bu,bx,c8,V.lo,hs]
  · rintro τ bh;simp only[hF,List.replicate,am,aO,dG,aO,dW];refine aG rfl (rp bh) ⟨rfl,rfl⟩
def sL (P:Word × Word→Int × Int) (l:List (Word × Word)):List (List V):=(l.map P).map vY
theorem aoS {P:Word × Word→Int × Int} {l:List (Word × Word)}:(sL P l).length=l.length:=by simp[sL]
theorem Wy {l:List (Word × Word)} {j:Nat} (h:j<l.length):(l.map dT)[((j:Nat):Int).toNat]?=some (dT l[j]):=by simp[h]
theorem apZ (c:ag) (σ:ae) (hn:c.names.length≤100000) (hp:c.aV.length≤100000):al prog 115 [.agg c.enc] σ fun v σ' => v = .agg (sM c).enc∧σ' = σ:=by
  refine afu.calls ?_;simp only[aJ,Oh,am,aR,Rl.af];simp only[am,eg,cS];refine cl (Mw c.names σ hn) ?_;simp only[am,aE,aE,cS];have hw:(dm c.names).length≤100000:=by rw[AX];exact hn
  generalize hP:Gx (dm c.names)=P;obtain⟨F,hF⟩:∃F:Nat→Nat→St,∀i τ,F i τ=⟨[.any,.ptr (.loc 0) 0,.ptr (.loc 1) 0,.sl .no 1 (di (dm c.names)),.sl (.tk τ) 2 (sL P (c.aV.take i)),.any,.any,.any,.any,.any,.any,.sl .no 4 (c.aV.map dT),.int .i64 (c.aV.length:Nat),.int .i64 (i:Nat)]++List.replicate 23 .any,[c.enc,Rl.zero.enc],σ.aL τ i⟩:=⟨_,fun _ _=>rfl⟩;obtain⟨JF,aQ⟩:∃JF:Nat→Nat→Prop,∀i τ,JF i τ=(σ.aC τ=none):=⟨_,fun _ _=>rfl⟩;refine dC (c.aV.length) F JF _ aQ ?_ ?_ ?_
  · refine IF 0 fun τ bh=>⟨τ,Eq.mpr (aQ _ _) bh,?_,?_,?_⟩
    all_goals simp[hF,List.replicate,od,sL]
  · rintro i τ hi bh;have hlen:(sL P (c.aV.take i)).length=i:=by rw[aoS,gZ];omega
    have hs:sL P (c.aV.take (i+1))=sL P (c.aV.take i)++[vY (P c.aV[i])]:=by rw[kP hi];simp only[sL,fE,bC,dp]
    simp only[hF,List.replicate,am,dB hi];refine bD (by omega) (Wy hi) ?_;simp only[am,cf,Nat.reduceAdd,dT];refine jx (by omega) (by omega) ?_;simp only[am,Int.reduceToNat,Nat.reduceMul];refine br.intro (tE (dm c.names) c.aV[i].1.text (σ.aL τ i) hw) ?_;simp only[am,cf];refine jx (by omega) (by omega) ?_;simp only[am,Int.reduceToNat,Nat.reduceMul];refine br.intro (tE (dm c.names) c.aV[i].2.text (σ.aL τ i) hw) ?_;simp only[am,Nat.reduceAdd];refine Bj (by rw[hlen];simp[aF];omega) (by rw[hlen];exact lK) ?_;rw[hlen];have he:[V.int .i64 (cF (gn (dm c.names) c.aV[i].1.text)),.int .i64 (cF (gn (dm c.names) c.aV[i].2.text))]=vY (P c.aV[i]):=by rw[←hP];rfl
    rw[he];simp only[am,aO,j5,cu hi (by omega),iE];refine fm (τ) hi ?_ ?_ ?_ ?_ ?_ ?_
    · exact Eq.mpr (aQ _ _) (bh)
    all_goals simp[hF,List.replicate,am,bu,bx,c8,V.lo,hs,ag.enc,ag.cp,Rl.bY]
  · rintro τ bh;simp only[hF,List.replicate,am,aO,dG,aO,kG,dW];rw[AX];refine cl (al.dK (as' := [.int .i64 (c.names.length:Nat),.sl .no 2 (sL P c.aV)]) (show al prog 165 [.int .i64 (c.names.length:Nat),.sl .no 2 (sL P c.aV)] _ _ from ap7 (c.names.length:Nat) (c.aV.map P) _ (by simpa using hp)) ⟨cQ.rfl,cQ.no,trivial⟩ bG.rfl) ?_;simp only[am,Rl.af];refine cl (RM _ _) ?_;simp only[am,Rl.af];subst hP;exact aG (v:=.agg (sM c).enc) Rl.cN (rp bh) ⟨by simp only[V.erase,Rl.cM],rfl⟩
def Oi:AC:=.seq (.aa [⟨(some 2),.box 2 (.s 0),none⟩,⟨(some 3),.box 17 (.s 1),none⟩,⟨(some 4),.alloc [(.bool false),(.sl .full 67 [])],none⟩])
 (.seq (.aa [⟨(some 5),.mv (.c (.sl .full 2 [])),none⟩])
 (.seq (.seq (.aa [xf 4 10 3,xo 11 10,xL 12 11,xi 13 0])
 (.block 0 (.loop (.seq (.aa [xb .lss 14 13 12])
 (.seq (.cond (.s 14) (.skip)
 (.exit 0))
 (.seq (.block 1 (.seq (.aa [xA 2 15 11 13,xl 2 16 15,⟨(some 7),.alloc [(.str []),(.int .i64 0)],none⟩,xs 2 7 16])
 (.seq (.aa [xl 2 18 2,xf 0 19 7,xo 20 19,xc 63 21 [.s 18,.s 20],xm 17 21,xe 22 17 0,xe 23 17 1,xm 8 22,xm 9 23])
 (.seq (.aa [xm 24 8,xB .geq 25 24 0])
 (.cond (.s 25) (.aa [xm 26 5,xf 0 27 2,xo 28 27,xm 29 8,xA 3 30 28 29,xf 1 31 30,xl 2 32 31,⟨(some 33),.cR 2 [(.s 32)],none⟩,xa 2 34 26 33,xm 5 34])
 (.skip))))))
 (.aa [xB .add 35 13 1,xm 13 35])))))))
 (.seq (.aa [xm 36 5,xc 166 37 [.s 36],xs 2 4 37])
 (.ret))))
theorem afv:aK prog 116 Oi [.cell 4 true 2] 38:=⟨f116,⟨[],[],[]⟩,func116,by kernel_rfl,by kernel_rfl,by kernel_rfl,by kernel_rfl⟩
def OT:AC:=.seq (.aa [⟨(some 2),.alloc [(.bool false),(.sl .full 67 [])],none⟩])
 (.seq (.aa [⟨(some 8),.build [(.bool false),(.sl .full 67 [])] [(0,1,(.c (.bool true)))],none⟩,⟨(some 3),.alloc [(.bool false),(.sl .full 67 [])],none⟩,xs 2 3 8])
 (.seq (.seq (.aa [xm 9 0,xL 10 9,xi 11 0])
 (.block 0 (.loop (.seq (.aa [xb .lss 12 11 10])
 (.seq (.cond (.s 12) (.skip)
 (.exit 0))
 (.seq (.block 1 (.seq (.aa [xA 2 13 9 11,xl 2 14 13,⟨(some 5),.alloc [(.bool false),(.sl .full 67 [])],none⟩,xs 2 5 14])
 (.seq (.aa [xf 1 15 5,xo 16 15,xL 17 16,xi 18 0])
 (.block 2 (.loop (.seq (.aa [xb .lss 19 18 17])
 (.seq (.cond (.s 19) (.skip)
 (.exit 2))
 (.seq (.block 3 (.seq (.aa [xA 67 20 16 18,xl 67 21 20,⟨(some 7),.alloc tC,none⟩,xs 67 7 21])
 (.draw [(xf 1 22 3,[]),(xo 23 22,[1]),(xl 67 24 7,[]),(xc 224 25 [.s 24],[]),(⟨(some 26),.cR 67 [(.s 25)],none⟩,[]),(xa 67 27 23 26,[]),(xf 1 28 3,[]),(xs 1 28 27,[])])))
 (.aa [xB .add 29 18 1,xm 18 29])))))))))
 (.aa [xB .add 30 11 1,xm 11 30])))))))
 (.seq (.aa [xl 2 31 3,xs 2 2 31])
 (.ret))))
theorem afZ:aK prog 166 OT [.cell 2 true 2] 32:=⟨f166,⟨[],[],[]⟩,func166,by kernel_rfl,by kernel_rfl,by kernel_rfl,by kernel_rfl⟩
def Pz:AC:=.seq (.aa [⟨(some 1),.box 67 (.s 0),none⟩,⟨(some 2),.alloc tC,none⟩])
 (.seq (.aa [⟨(some 3),.cR 1 [],none⟩,xf 1 4 1,xo 5 4,xa 1 6 3 5,xf 1 7 1,xs 1 7 6])
 (.seq (.aa [xl 67 8 1,xs 67 2 8])
 (.ret)))
theorem agE:aK prog 224 Pz [.cell 2 true 67] 9:=⟨f224,⟨[],[],[]⟩,func224,by kernel_rfl,by kernel_rfl,by kernel_rfl,by kernel_rfl⟩
theorem aeO {f:aZ}:bI 1 (f.enc.drop 1)=true:=rfl
theorem aeP {f:aZ}:setAt f.enc 1 [.sl .no 1 (di f.names)]=f.enc:=by rw[aZ.enc,jH,lJ,oh,me]
theorem abV (f:aZ) (σ:ae) (hf:f.names.length≤100000):al prog 224 [.agg f.enc] σ fun v σ' => v = .agg f.enc∧σ' = σ:=by
  refine agE.calls ?_;simp only[aJ,Pz,am,aR,aZ.af];refine H6 (by simp[kG,aF];omega) ?_;simp only[am,aZ.af,aeO,gk,aeP];exact aG (v:=.agg f.enc) aZ.cN (ae.aW _) ⟨by simp only[V.erase,aZ.cM],rfl⟩
theorem aq8 {l:List bg} {j:Nat} (h:j<l.length):(l.map bg.enc)[((j:Nat):Int).toNat]?=some l[j].enc:=by simp[h]
theorem aeQ {l:List aZ} {j:Nat} (h:j<l.length):(l.map aZ.enc)[((j:Nat):Int).toNat]?=some l[j].enc:=by simp[h]
def tD (l:List aZ):List (List V):=l.map aZ.enc
theorem aeN {l:List aZ}:(tD l).length=l.length:=by simp[tD]
theorem aeM {l:List aZ} {f:aZ}:tD (l++[f])=tD l++[f.enc]:=by simp[tD]
theorem aoV (l:List bg) (σ:ae) (hl:l.length≤100000) (hs:∀s∈l,s.bd.length≤100000∧∀f∈s.bd,f.names.length≤100000) (hb:(l.flatMap bg.bd).length≤100000000) :
    al prog 166 [.sl .no 2 (l.map bg.enc)] σ fun v σ' => v = .agg (GF l).enc∧σ' = σ:=by
  have hT:∀{i:Nat} (hi:i<l.length),(l.take (i+1)).flatMap bg.bd=(l.take i).flatMap bg.bd++l[i].bd:=fun {i} hi=>by rw[kP hi,wC];simp
  have hL:∀{i:Nat} (hi:i<l.length),((l.take i).flatMap bg.bd).length+l[i].bd.length≤100000000:=fun {i} hi=>by
    have h1:(l.take (i+1)++l.drop (i+1)).flatMap bg.bd=l.flatMap bg.bd:=by rw[nR]
    rw[←h1,wC,hT hi] at hb;simp only[bw] at hb;omega
  refine afZ.calls ?_;simp only[aJ,OT,am,aR,Nat.reduceAdd,aE];obtain⟨Q,hQ⟩:∃Q:Nat→List aZ,∀i,Q i=(l.take i).flatMap bg.bd:=⟨_,fun _=>rfl⟩;have BR:Q 0=[]:=by rw[hQ];rfl
  have Jh:Q l.length=(GF l).bd:=by rw[hQ,dW];rfl
  obtain⟨F,hF⟩:∃F:Nat→Nat→St,∀i τ,F i τ=⟨[.any,.any,.ptr (.loc 0) 0,.ptr (.loc 1) 0,.any,.any,.any,.any,.any,.sl .no 2 (l.map bg.enc),.int .i64 (l.length:Nat),.int .i64 (i:Nat)]++List.replicate 20 .any,[[.bool false,.sl .full 67 []],[.bool true,.sl (.tk τ) 67 (tD (Q i))]],σ.aL τ (Q i).length⟩:=⟨_,fun _ _=>rfl⟩;obtain⟨JF,aQ⟩:∃JF:Nat→Nat→Prop,∀i τ,JF i τ=(σ.aC τ=none):=⟨_,fun _ _=>rfl⟩;refine dC (l.length) F JF _ aQ ?_ ?_ ?_
  · refine Su 0 fun τ bh=>⟨τ,Eq.mpr (aQ _ _) bh,?_,?_,?_⟩
    all_goals simp[hF,List.replicate,od,Vx,BR,tD]
  · rintro i τ hi bh;have hsi:=hs _ (fD hi);have TD:=hL hi;rw[←hQ] at TD;have xz:Q (i+1)=Q i++l[i].bd:=by rw[hQ,hQ,hT hi]
    simp only[hF,List.replicate,am,dB hi];refine bD (by omega) (aq8 hi) ?_;simp only[am,Nat.reduceAdd,aE,bg.af,aE];generalize Q i=q at TD xz;obtain⟨W,hW⟩:∃W:Nat→List aZ,∀j,W j=q++l[i].bd.take j:=⟨_,fun _=>rfl⟩;have hW0:q=W 0:=by rw[hW];simp
    have hWn:W l[i].bd.length=Q (i+1):=by rw[hW,dW,xz]
    rw[hW0];obtain⟨F2,ep⟩:∃F2:Nat→Unit→St,∀j x,F2 j x=⟨[.any,.any,.ptr (.loc 0) 0,.ptr (.loc 1) 0,.any,.any,.any,.any,.any,.sl .no 2 (l.map bg.enc),.int .i64 (l.length:Nat),.int .i64 (i:Nat),.any,.any,.any,.any,.sl .no 67 (l[i].bd.map aZ.enc),.int .i64 (l[i].bd.length:Nat),.int .i64 (j:Nat)]++List.replicate 13 .any,[[.bool false,.sl .full 67 []],[.bool true,.sl (.tk τ) 67 (tD (W j))],l[i].enc],σ.aL τ (W j).length⟩:=⟨_,fun _ _=>rfl⟩;obtain⟨gO,gG⟩:∃gO:Nat→Unit→Prop,∀j x,gO j x=(True):=⟨_,fun _ _=>rfl⟩;refine dC (l[i].bd.length) F2 gO _ gG ?_ ?_ ?_
    · refine en (()) ?_ ?_ ?_ ?_
      · exact Eq.mpr (gG _ _) (trivial)
      all_goals simp[ep,List.replicate,am,bu]
    · rintro j x hj -;have TN:W (j+1)=W j++[l[i].bd[j]]:=by rw[hW,hW,kP hj,dt]
      have hWl:(W j).length+1≤100000000:=by rw[hW];simp only[bw,gZ];omega
      have hlen:(tD (W j)).length=(W j).length:=aeN;have aiR:(W (j+1)).length=(W j).length+1:=by rw[TN];simp
      simp only[ep,List.replicate,am,dB hj];refine bD (by omega) (aeQ hj) ?_;simp only[am,Nat.reduceAdd,aZ.af];refine br.intro (abV l[i].bd[j] (σ.aL τ (W j).length) (hsi.2 _ (fD hj))) ?_;simp only[am,aZ.af];refine Bj (by rw[hlen];simp[aF];omega) (by rw[hlen];exact lK) ?_;rw[hlen];simp only[am,aO,j5,cu hj (by omega),iE];rw[←aeM,←TN,←aiR];refine fm (()) hj ?_ ?_ ?_ ?_ ?_ ?_
      · exact Eq.mpr (gG _ _) (trivial)
      all_goals simp[ep,List.replicate,am,bu,bx,c8,V.lo,bg.bY]
    · rintro x -;simp only[ep,List.replicate,am,aO,dG,Nat.reduceAdd,Nat.reduceEqDiff,aO,reduceCtorEq,cu hi (by omega),hWn];refine fm (τ) hi ?_ ?_ ?_ ?_ ?_ ?_
      · exact Eq.mpr (aQ _ _) (bh)
      all_goals simp[hF,List.replicate,am,bu,bx,c8,V.lo]
  · rintro τ bh;simp only[hF,List.replicate,am,aO,dG,Nat.reduceAdd,aO,Jh];refine aG rfl (rp bh) ⟨rfl,rfl⟩
theorem akQ {s:au} {w:Word}:(pq s w).length≤1:=by
  unfold pq;split
  · split<;>simp
  · simp
def wc (l:List bg):List (List V):=l.map bg.enc
theorem aq5 {l:List bg} {s:bg}:wc (l++[s])=wc l++[s.enc]:=by simp[wc]
theorem SQ {f:Word→List bg} (h:∀w,(f w).length≤1):∀{l:List Word},(l.flatMap f).length≤l.length
  | []=>by simp
  | w::ws=>by have:=SQ h (l:=ws);have:=h w;simp only[nQ,bw,cG];omega
theorem SB {N:Nat}:∀{l:List bg},(∀s∈l,s.bd.length≤N)→(l.flatMap bg.bd).length≤l.length*N
  | [],_=>by simp
  | s :: ss, h => by
    have h1:=SB (N:=N) (l:=ss) fun x hx=>h x (by simp[hx])
    have U:=h s (by simp);simp only[nQ,bw,cG,DU];omega
theorem akR {s:au} {w:Word} {x:bg} (h:x∈pq s w):∃l∈s.bj,x=l.shape:=by
  unfold pq at h;split at h
  · split at h
    · rename_i y hy;exact⟨y,pI hy,by simpa using h⟩
    · simp at h
  · simp at h
theorem akT {s:au} {w:Word} {k:Nat} (h:iI s.bj w.text=some k) (hk:k<s.bj.length):pq s w=[s.bj[k].shape]:=by
  simp only[pq,h,cw hk]
theorem akS {s:au} {w:Word} (h:iI s.bj w.text=none):pq s w=[]:=by simp only[pq,h]
theorem aoU (s:au) (c:ag) (σ:ae) (hs:s.Ak) (hn:c.names.length≤100000):al prog 116 [.agg s.enc,.agg c.enc] σ fun v σ' => v = .agg (rb s c).enc∧σ' = σ:=by
  refine afv.calls ?_;simp only[aJ,Oi,am,aR,Nat.reduceAdd,au.af];simp only[am,aE,aE,eg,cS];obtain⟨Q,hQ⟩:∃Q:Nat→List bg,∀i,Q i=(c.names.take i).flatMap (pq s):=⟨_,fun _=>rfl⟩;have BR:Q 0=[]:=by rw[hQ];rfl
  have BS:∀i,(Q i).length≤100000:=fun i=>by
    rw[hQ]
    have:=SQ (f:=pq s) (fun _=>akQ) (l:=c.names.take i)
    rw[gZ] at this;omega
  obtain⟨F,hF⟩:∃F:Nat→Nat→St,∀i τ,F i τ=⟨[.any,.any,.ptr (.loc 0) 0,.ptr (.loc 1) 0,.ptr (.loc 2) 0,.sl (.tk τ) 2 (wc (Q i)),.any,.any,.any,.any,.any,.sl .no 2 (c.names.map Word.enc),.int .i64 (c.names.length:Nat),.int .i64 (i:Nat)]++List.replicate 24 .any,[s.enc,c.enc,[.bool false,.sl .full 67 []]],σ.aL τ (Q i).length⟩:=⟨_,fun _ _=>rfl⟩;obtain⟨JF,aQ⟩:∃JF:Nat→Nat→Prop,∀i τ,JF i τ=(σ.aC τ=none):=⟨_,fun _ _=>rfl⟩;refine dC (c.names.length) F JF _ aQ ?_ ?_ ?_
  · refine IF 0 fun τ bh=>⟨τ,Eq.mpr (aQ _ _) bh,?_,?_,?_⟩
    all_goals simp[hF,List.replicate,od,BR,wc]
  · rintro i τ hi bh;have xz:Q (i+1)=Q i++pq s c.names[i]:=by rw[hQ,hQ,kP hi,wC];simp
    have hlq:=BS i;simp only[hF,List.replicate,am,dB hi];refine bD (by omega) (AW hi) ?_;simp only[am,Nat.reduceAdd,au.af,Word.af,wq];refine cl (uv s c.names[i].text _ hs.1.1 hs.1.2.1) ?_;cases hf:iI s.bj c.names[i].text with
    | none =>
      have e:Q (i+1)=Q i:=by rw[xz,akS hf,dn]
      simp only[am,fh,aO,Int.reduceNeg,Int.reduceLE,cF,cu hi (by omega)];refine fm (τ) hi ?_ ?_ ?_ ?_ ?_ ?_
      · exact Eq.mpr (aQ _ _) (bh)
      all_goals simp[hF,List.replicate,am,bu,bx,c8,V.lo,e,au.bY,ag.enc,ag.cp]
    | some k =>
      have hk:=(EI hf).1;have e:Q (i+1)=Q i++[s.bj[k].shape]:=by rw[xz,akT hf hk]
      have hlen:(wc (Q i)).length=(Q i).length:=by simp[wc]
      have e2:(Q (i+1)).length=(Q i).length+1:=by rw[e];simp
      simp only[am,Int.reduceNeg,au.af,cF,aD (show (0:Int)≤((k:Nat):Int) by omega)];refine bD (by omega) (Ad hk) ?_;simp only[am,Int.reduceNeg,au.af,bg.af];refine ke (by rw[hlen];simp[aF];omega) (by rw[hlen];exact lK) ?_;rw[hlen];simp only[am,aO,Int.reduceNeg,j5,cu hi (by omega),iE];rw[←aq5,←e,←e2];refine fm (τ) hi ?_ ?_ ?_ ?_ ?_ ?_
      · exact Eq.mpr (aQ _ _) (bh)
      all_goals simp[hF,List.replicate,am,bu,bx,c8,V.lo,au.bY,ag.enc,ag.cp]
  · rintro τ bh;have hq:=BS c.names.length;have e:Q c.names.length=c.names.flatMap (pq s):=by rw[hQ,dW]
    have hm:∀x∈Q c.names.length,∃l∈s.bj,x=l.shape:=fun x hx=>by
      rw[e] at hx;obtain⟨w,_,hx⟩:=List.mem_flatMap.1 hx;exact akR hx
    have vw:=SB (N:=100) (l:=Q c.names.length) fun x hx=>by obtain⟨l,hl,rfl⟩:=hm x hx;exact hs.2 l hl
    have J7:rb s c=GF (Q c.names.length):=by rw[rb,e]
    simp only[hF,List.replicate,am,aO,dG,aO];refine cl (al.dK (as' := [.sl .no 2 (wc (Q c.names.length))]) (aoV (Q c.names.length) _ (by omega) (fun x hx=>by obtain⟨l,hl,rfl⟩:=hm x hx;exact hs.1.2.2 l hl) (by omega)) ⟨cQ.no,trivial⟩ bG.rfl) ?_;simp only[am,bg.af];refine aG rfl (rp bh) ⟨by rw[J7];rfl,rfl⟩
def Qw:AC:=.seq (.aa [⟨(some 2),.mv (.c (.bool false)),none⟩])
 (.seq (.aa [xm 3 0,xB .geq 4 3 1,xm 5 4,xg 5 (xm 6 0),xg 5 (xB .leq 7 6 5),⟨(some 8),.pick (.s 5) (.s 7) (.c (.bool false)),none⟩,xm 2 8])
 (.ret))
theorem ahy:aK prog 50 Qw [.tmp 2] 9:=⟨f50,⟨[],[],[]⟩,func50,by kernel_rfl,by kernel_rfl,by kernel_rfl,by kernel_rfl⟩
def Qx:AC:=.seq (.aa [⟨(some 2),.mv (.c (.bool false)),none⟩])
 (.seq (.aa [xm 3 0,xB .eql 4 3 6,xm 5 4,xh 5 (xm 6 0),xh 5 (xB .eql 7 6 7),⟨(some 8),.pick (.s 5) (.c (.bool true)) (.s 7),none⟩,xm 2 8])
 (.ret))
theorem ahz:aK prog 51 Qx [.tmp 2] 9:=⟨f51,⟨[],[],[]⟩,func51,by kernel_rfl,by kernel_rfl,by kernel_rfl,by kernel_rfl⟩
def Qy:AC:=.seq (.aa [xm 6 0,xm 7 0,xk 8 7,xf 2 9 8,xf 2 10 9,xf 0 11 10,xo 12 11,xc 109 13 [.s 6,.s 12],xm 5 13,xe 14 5 0,xe 15 5 1,xm 2 14,xm 3 15])
 (.seq (.aa [xm 16 0,xk 17 16,xf 2 18 17,xf 2 19 18,xf 1 20 19,xo 21 20,xm 4 21])
 (.seq (.seq (.aa [xm 22 0,xk 23 22,xf 2 24 23,xf 0 25 24,xo 26 25,xc 50 27 [.s 26]])
 (.cond (.s 27) (.seq (.aa [xm 28 0,xm 29 3,xm 30 4,xc 110 31 [.s 28,.s 29,.c (.int .i64 3),.s 30]])
 (.ret))
 (.skip)))
 (.seq (.aa [xm 32 0,xm 33 3,⟨(some 34),.not (.s 33),none⟩,xm 35 4,xc 110 36 [.s 32,.s 34,.c (.int .i64 3),.s 35]])
 (.aa [xm 37 0,xm 38 3,xm 39 38,xg 39 (xm 40 2),⟨(some 41),.not (.s 40),(some (39,true))⟩,⟨(some 42),.pick (.s 39) (.s 41) (.c (.bool false)),none⟩,xm 43 4,xc 110 44 [.s 37,.s 42,.c (.int .i64 4),.s 43]]))))
theorem ahA:aK prog 52 Qy [] 45:=⟨f52,⟨[],[],[]⟩,func52,by kernel_rfl,by kernel_rfl,by kernel_rfl,by kernel_rfl⟩
def Qz:AC:=.seq (.aa [xm 8 0,xk 9 8,xf 2 10 9,xf 4 11 10,xo 12 11,xc 111 13 [.s 12],xm 2 13])
 (.seq (.aa [xm 14 0,xk 15 14,xf 2 16 15,xf 4 17 16,xo 18 17,xL 19 18,xi 20 0])
 (.block 0 (.loop (.seq (.aa [xb .lss 21 20 19])
 (.seq (.cond (.s 21) (.skip)
 (.exit 0))
 (.seq (.block 1 (.seq (.aa [xm 22 20,xA 2 23 18 20,xl 2 24 23,⟨(some 4),.alloc [(.str []),(.int .i64 0)],none⟩,xm 3 22,xs 2 4 24])
 (.seq (.aa [xm 26 0,xf 0 27 4,xo 28 27,xc 109 29 [.s 26,.s 28],xm 25 29,xe 30 25 0,xe 31 25 1,xm 5 30,xm 6 31])
 (.seq (.seq (.aa [xm 32 0,xk 33 32,xf 2 34 33,xf 0 35 34,xo 36 35,xB .eql 37 36 3])
 (.cond (.s 37) (.seq (.aa [xm 38 0,xm 39 6,⟨(some 40),.not (.s 39),none⟩,xf 1 41 4,xo 42 41,xc 110 43 [.s 38,.s 40,.c (.int .i64 3),.s 42]])
 (.seq (.aa [xm 44 0,xm 45 6,xm 46 45,xg 46 (xm 47 5),⟨(some 48),.not (.s 47),(some (46,true))⟩,⟨(some 49),.pick (.s 46) (.s 48) (.c (.bool false)),none⟩,xf 1 50 4,xo 51 50,xc 110 52 [.s 44,.s 49,.c (.int .i64 4),.s 51]])
 (.exit 1)))
 (.skip)))
 (.seq (.draw [(xm 53 2,[]),(xm 54 3,[]),(⟨(some 55),.lg 1 (.s 53) none (some (.s 54)) none,none⟩,[]),(xf 0 56 4,[]),(xo 57 56,[]),(xc 112 58 [.s 55,.s 57],[]),(xB .geq 59 58 0,[]),(xm 7 59,[])])
 (.draw [(xm 60 0,[]),(xm 61 7,[]),(xm 62 61,[]),(xh 62 (xm 63 0),[]),(xh 62 (xk 64 63),[]),(xh 62 (xf 2 65 64),[]),(xh 62 (xf 0 66 65),[]),(xh 62 (xo 67 66),[]),(xh 62 (xc 51 68 [.s 67]),[]),(xh 62 (xm 69 68),[]),(xg 69 (xm 70 6),[]),(⟨(some 71),.pick (.s 69) (.s 70) (.c (.bool false)),(some (62,false))⟩,[]),(⟨(some 72),.pick (.s 62) (.c (.bool true)) (.s 71),none⟩,[]),(xf 1 73 4,[]),(xo 74 73,[0]),(xc 110 75 [.s 60,.s 72,.c (.int .i64 3),.s 74],[])]))))))
 (.aa [xB .add 76 20 1,xm 20 76])))))))
theorem ahB:aK prog 53 Qz [] 77:=⟨f53,⟨[],[],[]⟩,func53,by kernel_rfl,by kernel_rfl,by kernel_rfl,by kernel_rfl⟩
def Oa:AC:=.seq (.aa [⟨(some 4),.mv (.c (.bool false)),none⟩,⟨(some 5),.mv (.c (.bool false)),none⟩])
 (.seq (.aa [xm 9 0,xk 10 9,xf 0 11 10,xl 2 12 11,xm 13 1,xc 63 14 [.s 12,.s 13],xm 8 14,xe 15 8 0,xe 16 8 1,xm 6 15,xm 7 16])
 (.seq (.aa [xm 17 6,xB .geq 18 17 0,xm 19 6,xB .geq 20 19 0,xm 21 20,xh 21 (xm 22 7),xh 21 (xB .geq 23 22 0),⟨(some 24),.pick (.s 21) (.c (.bool true)) (.s 23),none⟩,xm 4 18,xm 5 24])
 (.ret)))
theorem afo:aK prog 109 Oa [.tmp 4,.tmp 5] 25:=⟨f109,⟨[],[],[]⟩,func109,by kernel_rfl,by kernel_rfl,by kernel_rfl,by kernel_rfl⟩
def Ob:AC:=.seq (.aa [xm 8 1])
 (.cond (.s 8) (.aa [xm 9 0,xm 10 0,xk 11 10,xf 19 12 11,xo 13 12,xm 14 2,xm 15 3,⟨(some 16),.build [(.int .i64 0),(.int .i64 0)] [(0,1,(.s 14)),(1,1,(.s 15))],none⟩,⟨(some 17),.cR 2 [(.s 16)],none⟩,xa 2 18 13 17,xk 19 9,xf 19 20 19,xs 1 20 18])
 (.skip))
theorem afp:aK prog 110 Ob [] 21:=⟨f110,⟨[],[],[]⟩,func110,by kernel_rfl,by kernel_rfl,by kernel_rfl,by kernel_rfl⟩
theorem oc (σ:ae) (b τ:Nat) (l:List aA) (s:au) (c:ag) (x y:Int) (is:Bool) (hl:l.length≤100000000) :
    al prog 110 [.ptr (.out b) 0,.bool is,.int .i64 x,.int .i64 y] (dk σ b τ l s c) fun v σ' => v = .aX []∧σ' = dk σ b τ (l++dj is x y) s c:=by
  refine afp.calls ?_;simp only[aJ,Ob,am,aR,Nat.reduceAdd];cases is with
  | false =>
    simp only[am];exact aG rfl (ae.aW _) ⟨rfl,by simp[dj]⟩
  | true =>
    simp only[am,Nat.reduceAdd,hC];refine ke (by simp[aF];omega) (by rw[aE];exact U0) ?_;simp only[am,aE,aE,hC,iE,akl];exact aG rfl (ae.aW _) ⟨rfl,by simp[dj]⟩
theorem Lq {o:Option Nat}:decide (0≤cF o)=o.isSome:=by cases o<;>simp[cF]
theorem anZ {o:Option Nat}:decide (cF o<0)=o.isNone:=by cases o with
  | none=>rfl
  | some k=>exact aB (by simp only[cF];omega)
theorem UT (σ:ae) (b τ:Nat) (l:List aA) (s:au) (c:ag) (t:List UInt8) (hs:s.ok) :
    al prog 109 [.ptr (.out b) 0,.str t] (dk σ b τ l s c) fun v σ' => v = .aX [.bool (qi s t),.bool (fZ s t)]∧σ' = dk σ b τ l s c:=by
  refine afo.calls ?_;simp only[aJ,Oa,am,aR,Nat.reduceAdd,au.af,hC];refine cl (uv s t _ hs.1 hs.2.1) ?_;simp only[am,Lq];cases hL:(iI s.bj t).isSome with
  | true =>
    simp only[am];refine az ?_;simp[V.erase,a9,qi,fZ,hL]
  | false =>
    simp only[am,Lq];refine az ?_;simp[V.erase,a9,qi,fZ,hL]
theorem U8 (op:Int) (σ:ae):al prog 50 [.int .i64 op] σ fun v σ' => v = .bool (qj op)∧σ' = σ:=by
  refine ahy.calls ?_;simp only[aJ,Qw,am,aR]
  by_cases h:1≤op
  · simp only[am,aD h];refine az ?_;simp[V.erase,qj,h]
  · simp only[am,aB h];refine az ?_;simp[V.erase,qj,h]
theorem MJ (op:Int) (σ:ae):al prog 51 [.int .i64 op] σ fun v σ' => v = .bool (sW op)∧σ' = σ:=by
  refine ahz.calls ?_;simp only[aJ,Qx,am,aR]
  by_cases h:op=6
  · simp only[am,aD h];refine az ?_;simp[V.erase,sW,h]
  · simp only[am,aB h];refine az ?_;simp[V.erase,sW,h]
theorem aj' (σ:ae) (b τ:Nat) (l:List aA) (s:au) (c:ag) (hs:s.ok) (hl:l.length≤90000000) :
    al prog 52 [.ptr (.out b) 0] (dk σ b τ l s c) fun v σ' => v = .aX []∧σ' = dk σ b τ (l++o8 s c) s c:=by
  refine ahA.calls ?_;simp only[aJ,Qy,am,aR,Nat.reduceAdd,hC];refine cl (UT σ b τ l s c c.name.text hs) ?_;simp only[am,Nat.reduceAdd,hC];refine cl (U8 c.op _) ?_;cases h5:qj c.op with
  | true =>
    simp only[am];refine cl (oc σ b τ l s c 3 c.name.pos (fZ s c.name.text) (by omega)) ?_;simp only[am];exact aG rfl (ae.aW _) ⟨rfl,by rw[o8,ak h5]⟩
  | false =>
    have e:o8 s c=dj (!fZ s c.name.text) 3 c.name.pos++dj (fZ s c.name.text&&!qi s c.name.text) 4 c.name.pos:=by rw[o8,h5];rfl
    have hlen:=@pD (!fZ s c.name.text) 3 c.name.pos;simp only[am];refine cl (oc σ b τ l s c 3 c.name.pos (!fZ s c.name.text) (by omega)) ?_;cases hv:fZ s c.name.text with
    | true =>
      rw[hv] at hlen e;simp only[am];refine cl (oc σ b τ (l++dj (!true) 3 c.name.pos) s c 4 c.name.pos (!qi s c.name.text) (by rw[bw];omega)) ?_;simp only[am];exact aG rfl (ae.aW _) ⟨rfl,by rw[e,dt,mS];rfl⟩
    | false =>
      rw[hv] at hlen e;simp only[am];refine cl (oc σ b τ (l++dj (!false) 3 c.name.pos) s c 4 c.name.pos false (by rw[bw];omega)) ?_;simp only[am];exact aG rfl (ae.aW _) ⟨rfl,by rw[e,dt,Hs];rfl⟩
theorem akb (σ:ae) (b τ:Nat) (l:List aA) (s:au) (c:ag) (hs:s.ok) (hl:l.length≤80000000) (hn:c.names.length≤100000) :
    al prog 53 [.ptr (.out b) 0] (dk σ b τ l s c) fun v σ' => v = .aX []∧σ' = dk σ b τ (l++jY s c c.names.length) s c:=by
  refine ahB.calls ?_;simp only[aJ,Qz,am,aR,Nat.reduceAdd,hC];refine cl (Mw c.names _ (by omega)) ?_;simp only[am,Nat.reduceAdd,aE,aE,hC];have hw:(dm c.names).length=c.names.length:=AX;obtain⟨F,hF⟩:∃F:Nat→Unit→St,∀i x,F i x=⟨[.ptr (.out b) 0,.any,.sl .no 1 (di (dm c.names)),.any,.any,.any,.any,.any,.any,.any,.any,.any,.any,.any,.any,.any,.any,.any,.sl .no 2 (c.names.map Word.enc),.int .i64 (c.names.length:Nat),.int .i64 (i:Nat)]++List.replicate 56 .any,[],dk σ b τ (l++jY s c i) s c⟩:=⟨_,fun _ _=>rfl⟩;obtain⟨JF,aQ⟩:∃JF:Nat→Unit→Prop,∀i x,JF i x=(True):=⟨_,fun _ _=>rfl⟩;refine dC (c.names.length) F JF _ aQ ?_ ?_ ?_
  · refine en (()) ?_ ?_ ?_ ?_
    · exact Eq.mpr (aQ _ _) (trivial)
    all_goals simp[hF,List.replicate,am,bu,jY]
  · rintro i x hi -;have hN:=@Lf s c i;have hS:=@V1 s c i;have hg:c.names.getD i ⟨[],0⟩=c.names[i]:=by simp[List.getD,hi]
    simp only[hF,List.replicate,am,dB hi];refine bD (by omega) (AW hi) ?_;simp only[am,Word.af,wq];refine cl (UT σ b τ (l++jY s c i) s c c.names[i].text hs) ?_;simp only[am,hC]
    by_cases h3:c.op=3
    · have e:ql s c i=dj (!fZ s c.names[i].text) 3 c.names[i].pos++dj (fZ s c.names[i].text&&!qi s c.names[i].text) 4 c.names[i].pos:=by rw[ql];simp only[hg];rw[ak h3]
      have hlen:=@pD (!fZ s c.names[i].text) 3 c.names[i].pos;simp only[am,qu,aD h3];refine cl (oc σ b τ (l++jY s c i) s c 3 c.names[i].pos (!fZ s c.names[i].text) (by rw[bw];omega)) ?_;cases hv:fZ s c.names[i].text with
      | true =>
        rw[hv] at hlen e;simp only[am,qu];refine cl (oc σ b τ (l++jY s c i++dj (!true) 3 c.names[i].pos) s c 4 c.names[i].pos (!qi s c.names[i].text) (by simp only[bw];omega)) ?_;simp only[am,aO,reduceCtorEq,cu hi (by omega)];rw[mS] at e;refine fm (()) hi ?_ ?_ ?_ ?_ ?_ ?_
        · exact Eq.mpr (aQ _ _) (trivial)
        all_goals simp[hF,List.replicate,am,bu,bx,c8,V.lo,hS,e]
      | false =>
        rw[hv] at hlen e;simp only[am,qu];refine cl (oc σ b τ (l++jY s c i++dj (!false) 3 c.names[i].pos) s c 4 c.names[i].pos false (by simp only[bw];omega)) ?_;simp only[am,aO,reduceCtorEq,cu hi (by omega)];rw[Hs] at e;refine fm (()) hi ?_ ?_ ?_ ?_ ?_ ?_
        · exact Eq.mpr (aQ _ _) (trivial)
        all_goals simp[hF,List.replicate,am,bu,bx,c8,V.lo,hS,e]
    · have e:ql s c i=dj ((gn ((dm c.names).take i) c.names[i].text).isSome||(sW c.op&&fZ s c.names[i].text)) 3 c.names[i].pos:=by rw[ql];simp only[hg];rw[ah h3]
      simp only[am,cf,aB h3];refine Yd (b:=i) (by rw[kG];omega) ?_;rw[XB];simp only[am,wq];refine br.intro (tE ((dm c.names).take i) c.names[i].text _ (by rw[gZ];omega)) ?_;simp only[am,Lq];cases hf:(gn ((dm c.names).take i) c.names[i].text).isSome with
      | true =>
        rw[hf] at e;simp only[am,qu];refine br.intro (oc σ b τ (l++jY s c i) s c 3 c.names[i].pos true (by rw[bw];omega)) ?_;simp only[am,aO,qu,cu hi (by omega)];rw[Bool.true_or] at e;refine fm (()) hi ?_ ?_ ?_ ?_ ?_ ?_
        · exact Eq.mpr (aQ _ _) (trivial)
        all_goals simp[hF,List.replicate,am,bu,bx,c8,V.lo,hS,e]
      | false =>
        rw[hf,yT] at e;simp only[am,hC];refine br.intro (MJ c.op _) ?_;cases hv:sW c.op with
        | true =>
          rw[hv,mS] at e;simp only[am,qu];refine br.intro (oc σ b τ (l++jY s c i) s c 3 c.names[i].pos (fZ s c.names[i].text) (by rw[bw];omega)) ?_;simp only[am,aO,qu,cu hi (by omega)];refine fm (()) hi ?_ ?_ ?_ ?_ ?_ ?_
          · exact Eq.mpr (aQ _ _) (trivial)
          all_goals simp[hF,List.replicate,am,bu,bx,c8,V.lo,hS,e]
        | false =>
          rw[hv,Hs] at e;simp only[am,qu];refine br.intro (oc σ b τ (l++jY s c i) s c 3 c.names[i].pos false (by rw[bw];omega)) ?_;simp only[am,aO,qu,cu hi (by omega)];refine fm (()) hi ?_ ?_ ?_ ?_ ?_ ?_
          · exact Eq.mpr (aQ _ _) (trivial)
          all_goals simp[hF,List.replicate,am,bu,bx,c8,V.lo,hS,e]
  · rintro x -;simp only[hF,List.replicate,am,aO,dG,aO];exact aG rfl (ae.aW _) ⟨rfl,rfl⟩
def O7:AC:=.seq (.aa [⟨(some 2),.box 2 (.s 0),none⟩,⟨(some 3),.box 17 (.s 1),none⟩,⟨(some 4),.alloc [(.int .i64 0),(.int .i64 0)],none⟩])
 (.seq (.seq (.aa [xf 0 6 3,xo 7 6,xc 50 8 [.s 7],⟨(some 9),.not (.s 8),none⟩,xm 10 9,xg 10 (xf 0 11 3),xg 10 (xo 12 11),xg 10 (xc 51 13 [.s 12]),⟨(some 14),.not (.s 13),(some (10,true))⟩,⟨(some 15),.pick (.s 10) (.s 14) (.c (.bool false)),none⟩])
 (.cond (.s 15) (.seq (.aa [⟨(some 16),.build [(.int .i64 0),(.int .i64 0)] [],none⟩,xs 2 4 16])
 (.ret))
 (.skip)))
 (.seq (.aa [xl 2 17 2,xl 17 18 3,⟨(some 19),.build [(.sl .full 3 []),(.sl .full 3 []),(.int .i64 0),(.int .i64 0),(.str []),(.int .i64 0),(.sl .full 2 []),(.sl .full 4 []),(.int .i64 0),(.int .i64 0),(.int .i64 0),(.str []),(.sl .full 2 []),(.sl .full 5 []),(.int .i64 0),(.int .i64 0),(.str []),(.sl .full 2 []),(.sl .full 5 []),(.sl .full 2 [])] [(0,2,(.s 17)),(2,17,(.s 18))],none⟩,⟨(some 20),.ff 20 (.s 19),none⟩,xm 5 20])
 (.seq (.mQ (.aa [xm 21 5,xc 52 22 [.s 21]]))
 (.seq (.aa [xm 23 5,xc 53 24 [.s 23]])
 (.seq (.aa [xm 25 5,xc 54 26 [.s 25]])
 (.seq (.aa [xm 27 5,xc 55 28 [.s 27]])
 (.seq (.aa [xm 29 5,xk 30 29,xf 19 31 30,xo 32 31,xc 22 33 [.s 32],xs 2 4 33])
 (.ret))))))))
theorem agb:aK prog 19 O7 [.cell 4 true 2] 34:=⟨f19,⟨[20],[4],[]⟩,func19,by kernel_rfl,by kernel_rfl,by kernel_rfl,by kernel_rfl⟩
def QA:AC:=.seq (.aa [⟨(some 1),.ff 1 (.s 0),none⟩])
 (.seq (.aa [xo 6 1,xk 7 6,xf 2 8 7,xf 4 9 8,xo 10 9,xc 111 11 [.s 10],⟨(some 2),.mX [(.sl .full 1 [])],none⟩,xs 1 2 11])
 (.seq (.aa [⟨(some 12),.ix (.func 113) [] [(.s 1),(.s 2)],none⟩,xm 3 12])
 (.seq (.seq (.aa [xo 13 1,xk 14 13,xf 2 15 14,xf 5 16 15,xo 17 16,xL 18 17,xi 19 0])
 (.block 0 (.loop (.seq (.aa [xb .lss 20 19 18])
 (.seq (.cond (.s 20) (.skip)
 (.exit 0))
 (.seq (.block 1 (.seq (.aa [xA 4 21 17 19,xl 4 22 21,⟨(some 5),.alloc [(.str []),(.int .i64 0),(.str []),(.int .i64 0)],none⟩,xs 4 5 22])
 (.seq (.aa [xm 23 3,⟨(some 24),.fk 2 2 (.s 5) (.c (.int .i64 0)),none⟩,xl 2 25 24,⟨(some 26),.gC (.s 23) [(.s 25)],none⟩])
 (.aa [xm 27 3,⟨(some 28),.fk 2 2 (.s 5) (.c (.int .i64 1)),none⟩,xl 2 29 28,⟨(some 30),.gC (.s 27) [(.s 29)],none⟩]))))
 (.aa [xB .add 31 19 1,xm 19 31])))))))
 (.seq (.aa [xo 32 1,xk 33 32,xf 2 34 33,xf 0 35 34,xo 36 35,xB .eql 37 36 5,xm 38 37,xg 38 (xo 39 2),xg 38 (xL 40 39),xg 38 (xB .leq 41 40 64),⟨(some 42),.pick (.s 38) (.s 41) (.c (.bool false)),none⟩])
 (.cond (.s 42) (.draw [(xo 43 1,[1,2]),(xo 44 1,[]),(xk 45 44,[]),(xf 2 46 45,[]),(xl 17 47 46,[]),(xc 115 48 [.s 47],[]),(xc 114 49 [.s 48],[]),(⟨(some 50),.not (.s 49),none⟩,[]),(xo 51 1,[0,1]),(xk 52 51,[]),(xf 2 53 52,[]),(xf 6 54 53,[]),(xo 55 54,[0,1]),(xc 110 56 [.s 43,.s 50,.c (.int .i64 5),.s 55],[])])
 (.skip))))))
theorem ahC:aK prog 54 QA [] 57:=⟨f54,⟨[1,2],[],[]⟩,func54,by kernel_rfl,by kernel_rfl,by kernel_rfl,by kernel_rfl⟩
def QB:AC:=.seq (.aa [xm 4 0,xk 5 4,xf 2 6 5,xf 4 7 6,xo 8 7,xL 9 8,xm 2 9,xi 3 64])
 (.seq (.seq (.aa [xm 10 0,xk 11 10,xf 2 12 11,xf 0 13 12,xo 14 13])
 (.block 0 (.seq (.seq (.aa [xB .eql 16 14 6,xm 15 16])
 (.cond (.s 15) (.skip)
 (.aa [xB .eql 17 14 7,xm 15 17])))
 (.cond (.s 15) (.seq (.draw [(xm 18 0,[]),(xm 19 2,[]),(xm 20 0,[]),(xk 21 20,[]),(xf 0 22 21,[]),(xf 1 23 22,[]),(xo 24 23,[]),(xL 25 24,[]),(⟨(some 26),.dA .sub (.c (.int .i64 64)) (.s 25),none⟩,[]),(xb .gtr 27 19 26,[]),(xm 28 0,[]),(xk 29 28,[]),(xf 2 30 29,[]),(xf 1 31 30,[]),(xo 32 31,[]),(xc 110 33 [.s 18,.s 27,.c (.int .i64 7),.s 32],[])])
 (.ret))
 (.seq (.aa [xB .eql 35 14 4,xm 34 35])
 (.cond (.s 34) (.aa [xi 3 8])
 (.seq (.aa [xB .eql 37 14 3,xm 36 37])
 (.cond (.s 36) (.draw [(xm 38 0,[]),(xk 39 38,[]),(xf 0 40 39,[]),(xl 2 41 40,[]),(xm 42 0,[]),(xk 43 42,[]),(xf 2 44 43,[]),(xl 17 45 44,[]),(xc 116 46 [.s 41,.s 45],[]),(xw 1 47 46,[]),(xL 48 47,[]),(xm 2 48,[]),(xi 3 8,[])])
 (.skip)))))))))
 (.draw [(xm 49 0,[]),(xm 50 2,[]),(xm 51 3,[]),(xb .gtr 52 50 51,[]),(xm 53 52,[]),(xh 53 (xm 54 0),[]),(xh 53 (xk 55 54),[]),(xh 53 (xf 0 56 55),[]),(xh 53 (xf 0 57 56),[]),(xh 53 (xo 58 57),[]),(xh 53 (xL 59 58),[]),(xh 53 (xB .geq 60 59 16),[]),(⟨(some 61),.pick (.s 53) (.c (.bool true)) (.s 60),none⟩,[]),(xm 62 0,[]),(xk 63 62,[]),(xf 2 64 63,[]),(xf 1 65 64,[]),(xo 66 65,[]),(xc 110 67 [.s 49,.s 61,.c (.int .i64 7),.s 66],[])]))
theorem ahD:aK prog 55 QB [] 68:=⟨f55,⟨[],[],[]⟩,func55,by kernel_rfl,by kernel_rfl,by kernel_rfl,by kernel_rfl⟩
def Oe:AC:=.seq (.aa [⟨(some 3),.box 2 (.s 0),none⟩])
 (.draw [(xo 4 1,[1]),(xo 5 2,[]),(xf 0 6 3,[]),(xo 7 6,[]),(xc 112 8 [.s 5,.s 7],[]),(xB .lss 9 8 0,[]),(xf 1 10 3,[]),(xo 11 10,[0]),(xc 110 12 [.s 4,.s 9,.c (.int .i64 3),.s 11],[])])
theorem afs:aK prog 113 Oe [] 13:=⟨f113,⟨[],[],[]⟩,func113,by kernel_rfl,by kernel_rfl,by kernel_rfl,by kernel_rfl⟩
theorem UU (σ:ae) (b τ b1 b2:Nat) (l:List aA) (s:au) (c:ag) (w:Word) (n1:b1≠b) (n2:b2≠b) (h1:σ.box b1=some [.ptr (.out b) 0]) (U:σ.box b2=some [.sl .no 1 (di (dm c.names))]) (hl:l.length≤90000000) (hn:c.names.length≤100000) :
    al prog 113 [.agg w.enc,.ptr (.out b1) 0,.ptr (.out b2) 0] (dk σ b τ l s c) fun v σ' => v = .aX []∧σ' = dk σ b τ (l++qm c w) s c:=by
  have e1:(dk σ b τ l s c).box b1=some [.ptr (.out b) 0]:=by rw[ud n1];exact h1
  have e2:(dk σ b τ l s c).box b2=some [.sl .no 1 (di (dm c.names))]:=by rw[ud n2];exact U
  refine afs.calls ?_;simp only[aJ,Oe,am,aR,Nat.reduceAdd,Word.af];simp only[am,wq,e1,e2];refine br.intro (tE (dm c.names) w.text _ (by rw[AX];omega)) ?_;simp only[am,qu,anZ];refine br.intro (oc σ b τ l s c 3 w.pos (gn (dm c.names) w.text).isNone (by omega)) ?_;simp only[am,qu,e1];exact aG rfl (ae.aW _) ⟨rfl,rfl⟩
theorem aoX {c:ag} {i:Nat} (hi:i<c.aV.length):(c.aV.take (i+1)).flatMap (nH c)=(c.aV.take i).flatMap (nH c)++(qm c c.aV[i].1++qm c c.aV[i].2):=by rw[kP hi,wC];simp[nH]
theorem akk (σ:ae) (b τ:Nat) (l:List aA) (s:au) (c:ag) (hg:TZ σ) (hl:l.length≤80000000) (hn:c.names.length≤100000) (hp:c.aV.length≤100000) :
    al prog 54 [.ptr (.out b) 0] (dk σ b τ l s c) fun v σ' => v = .aX []∧σ' = dk σ b τ (l++qq c++og c) s c:=by
  have fresh:∀{x:Nat} {cC:ae},(dk cC b τ l s c).box x=none→x≠b:=fun {x cC} h=>by rintro rfl;rw[KC] at h;simp at h
  refine ahC.calls ?_;simp only[aJ,QA,am,aR];intro b1 fG;have n1:=fresh fG;rw[ud n1] at fG;simp only[am,Nat.reduceAdd];rw[UZ n1];have e1:(dk (σ.set b1 [.ptr (.out b) 0]) b τ l s c).box b1=some [.ptr (.out b) 0]:=by rw[ud n1,iM]
  simp only[am,hC];refine cl (Mw c.names _ (by omega)) ?_;simp only[am];intro b2 dg;have n2:=fresh dg;rw[ud n2] at dg;have K_:b1≠b2:=by rintro rfl;rw[iM] at dg;simp at dg
  rw[rm K_.symm] at dg;simp only[am];rw[UZ n2];have f1:((σ.set b1 [.ptr (.out b) 0]).set b2 [.sl .no 1 (di (dm c.names))]).box b1=some [.ptr (.out b) 0]:=by rw[rm K_,iM]
  have f2:((σ.set b1 [.ptr (.out b) 0]).set b2 [.sl .no 1 (di (dm c.names))]).box b2=some [.sl .no 1 (di (dm c.names))]:=iM;have lz:∀{L:List aA},(dk σ b τ L s c).sub (dk ((σ.set b1 [.ptr (.out b) 0]).set b2 [.sl .no 1 (di (dm c.names))]) b τ L s c):=fun {L}=>ae.yE (UY n1 fG) (UY n2 (by rw[rm K_.symm];exact dg))
  generalize sA:(σ.set b1 [V.ptr (Pl.out b) 0]).set b2 [V.sl .no 1 (di (dm c.names))]=ji at f1 f2 lz;have tR:TZ ji:=by rw[←sA];exact hg
  have g1:∀{L:List aA},(dk ji b τ L s c).box b1=some [.ptr (.out b) 0]:=fun {L}=>by rw[ud n1];exact f1
  have g2:∀{L:List aA},(dk ji b τ L s c).box b2=some [.sl .no 1 (di (dm c.names))]:=fun {L}=>by rw[ud n2];exact f2
  simp only[am,Nat.reduceAdd,aE,aE,hC,g1];have hP:=fun (i:Nat)=>@WK c (c.aV.take i)
  obtain⟨F,hF⟩:∃F:Nat→Unit→St,∀i x,F i x=⟨[.any,.ptr (.out b1) 0,.ptr (.out b2) 0,.fn (.func 113) [] [.ptr (.out b1) 0,.ptr (.out b2) 0],.any,.any,.any,.any,.any,.any,.any,.any,.any,.any,.any,.any,.any,.sl .no 4 (c.aV.map dT),.int .i64 (c.aV.length:Nat),.int .i64 (i:Nat)]++List.replicate 37 .any,[],dk ji b τ (l++(c.aV.take i).flatMap (nH c)) s c⟩:=⟨_,fun _ _=>rfl⟩;obtain⟨JF,aQ⟩:∃JF:Nat→Unit→Prop,∀i x,JF i x=(True):=⟨_,fun _ _=>rfl⟩;refine dC (c.aV.length) F JF _ aQ ?_ ?_ ?_
  · refine en (()) ?_ ?_ ?_ ?_
    · exact Eq.mpr (aQ _ _) (trivial)
    all_goals simp[hF,List.replicate,am,bu]
  · rintro i x hi -;have hPi:=hP i;rw[gZ] at hPi;have hS:=aoX hi;have n9:(qm c c.aV[i].1).length≤1:=pD;simp only[hF,List.replicate,am,dB hi];refine bD (by omega) (Wy hi) ?_;simp only[am,cf,Nat.reduceAdd,dT];refine jx (by omega) (by omega) ?_;simp only[am,Int.reduceToNat,Nat.reduceMul];refine cl (UU ji b τ b1 b2 (l++(c.aV.take i).flatMap (nH c)) s c c.aV[i].1 n1 n2 f1 f2 (by rw[bw];omega) hn) ?_;simp only[am,cf];refine jx (by omega) (by omega) ?_;simp only[am,Int.reduceToNat,Nat.reduceMul];refine cl (UU ji b τ b1 b2 (l++(c.aV.take i).flatMap (nH c)++qm c c.aV[i].1) s c c.aV[i].2 n1 n2 f1 f2 (by simp only[bw];omega) hn) ?_;simp only[am,aO,cu hi (by omega)];refine fm (()) hi ?_ ?_ ?_ ?_ ?_ ?_
    · exact Eq.mpr (aQ _ _) (trivial)
    all_goals simp[hF,List.replicate,am,bu,bx,c8,V.lo,hS]
  · rintro x -;have TG:=hP c.aV.length;rw[gZ] at TG;have hw:((dm c.names).length:Int)=(c.names.length:Nat):=by rw[AX]
    have Uk:(l++qq c).length≤90000000:=by rw[bw,qq];rw[dW] at TG;omega
    simp only[hF,List.replicate,am,aO,dG,aO,hC,dW,g1];have no:og c=[]→dk σ b τ (l++qq c++og c) s c=dk σ b τ (l++qq c) s c:=fun h=>by rw[h,dn]
    by_cases h5:c.op=5
    case neg =>
      simp only[am,aB h5];exact aG rfl lz ⟨rfl,(no (by rw[og,ah fun h=>h5 h.1])).symm⟩
    simp only[am,kG,aD h5,g2,hw]
    by_cases zA:c.names.length≤64
    case neg =>
      simp only[am,aB (show ¬((c.names.length:Nat):Int)≤64 by omega)];exact aG rfl lz ⟨rfl,(no (by rw[og,ah fun h=>zA h.2])).symm⟩
    have e:og c=dj (!po (sM c)) 5 c.lG:=by rw[og,ak ⟨h5,zA⟩]
    simp only[am,hC,aD (show ((c.names.length:Nat):Int)≤64 by omega),g1,eg];refine br.intro (apZ c _ (by omega) (by omega)) ?_;simp only[am,Rl.af];refine br.intro (U9 (sM c) tR) ?_;simp only[am,Nat.reduceAdd,hC,g1];refine br.intro (oc ji b τ (l++qq c) s c 5 c.lG (!po (sM c)) (by omega)) ?_;simp only[am,hC,g1];rw[←e];exact aG rfl lz ⟨rfl,rfl⟩
theorem aka (σ:ae) (b τ:Nat) (l:List aA) (s:au) (c:ag) (hs:s.Ak) (hl:l.length≤90000000) (hn:c.names.length≤100000) :
    al prog 55 [.ptr (.out b) 0] (dk σ b τ l s c) fun v σ' => v = .aX []∧σ' = dk σ b τ (l++mI s c) s c:=by
  have h1:=hs.1.1;have U:=hs.1.2.1;have YL:IntKind.i64.wrap (64 - (s.vars.length:Int))=64 - (s.vars.length:Nat):=wrap_i64 (by omega) (by omega);refine ahD.calls ?_;simp only[aJ,QB,am,aR,Nat.reduceAdd,aE,hC];have l9:(c.op=6∨c.op=7)→(decide (c.op=6)=true)∨(decide (c.op=6)=false∧decide (c.op=7)=true):=fun h=>by
    by_cases k:c.op=6
    · exact .inl (aD k)
    · exact .inr ⟨aB k,aD (h.resolve_left k)⟩
  by_cases BO:c.op=6∨c.op=7
  · have e:mI s c=dj (decide ((64:Int) - (s.vars.length:Nat)<(c.names.length:Nat))) 7 c.pos:=by rw[mI,ak BO]
    rcases l9 BO with k | ⟨k,k2⟩
    case' inl=>simp only[am,Nat.reduceAdd,aE,aE,hC,k,YL]
    case' inr=>simp only[am,Nat.reduceAdd,aE,aE,hC,k,k2,YL]
    all_goals
      refine br.intro (oc σ b τ l s c 7 c.pos (decide ((64:Int) - (s.vars.length:Nat)<(c.names.length:Nat))) (by omega)) ?_;simp only[am];exact aG rfl (ae.aW _) ⟨rfl,by rw[e]⟩
  have e0:mI s c=dj (decide ((if c.op=3 then (8:Int) else if c.op=4 then 8 else 64)<((if c.op=3 then (rb s c).bd.length else c.names.length):Nat))||decide (16≤s.bj.length)) 7 c.pos:=by rw[mI,ah BO]
  have Iz:decide ((16:Int)≤(s.bj.length:Nat))=decide (16≤s.bj.length):=oT.2 (by omega);simp only[am,aB (fun h=>BO (.inl h)),aB (fun h=>BO (.inr h))];have fin:∀(n:Nat) (m:Int),mI s c=dj (decide (m<(n:Nat))||decide (16≤s.bj.length)) 7 c.pos→∀B:Bool,B=(decide (m<(n:Nat))||decide (16≤s.bj.length)) →
      al prog 110 [.ptr (.out b) 0,.bool B,.int .i64 7,.int .i64 c.pos] (dk σ b τ l s c) fun v σ' => v = .aX []∧σ' = dk σ b τ (l++mI s c) s c:=fun n m e B hB=>by
    rw[e,hB];exact oc σ b τ l s c 7 c.pos _ (by omega)
  by_cases h4:c.op=4
  · have e:mI s c=dj (decide ((8:Int)<(c.names.length:Nat))||decide (16≤s.bj.length)) 7 c.pos:=by rw[e0,ah (by omega),ak h4,ah (by omega)]
    simp only[am,aD h4];cases hb:decide ((8:Int)<(c.names.length:Nat)) with
    | true =>
      simp only[am,Nat.reduceAdd,hC];refine br.intro (fin _ _ e true (by rw[hb];rfl)) ?_;simp only[am];exact aG rfl (ae.aW _) ⟨rfl,rfl⟩
    | false =>
      simp only[am,Nat.reduceAdd,aE,aE,hC,Iz];refine br.intro (fin _ _ e (decide (16≤s.bj.length)) (by rw[hb];rfl)) ?_;simp only[am];exact aG rfl (ae.aW _) ⟨rfl,rfl⟩
  simp only[am,aB h4]
  by_cases h3:c.op=3
  · have e:mI s c=dj (decide ((8:Int)<((rb s c).bd.length:Nat))||decide (16≤s.bj.length)) 7 c.pos:=by rw[e0,ak h3,ak h3]
    simp only[am,au.af,hC,aD h3,eg];refine br.intro (aoU s c _ hs hn) ?_;simp only[am,aE,bg.af,aE];cases hb:decide ((8:Int)<((rb s c).bd.length:Nat)) with
    | true =>
      simp only[am,Nat.reduceAdd,hC];refine br.intro (fin _ _ e true (by rw[hb];rfl)) ?_;simp only[am];exact aG rfl (ae.aW _) ⟨rfl,rfl⟩
    | false =>
      simp only[am,Nat.reduceAdd,aE,aE,hC,Iz];refine br.intro (fin _ _ e (decide (16≤s.bj.length)) (by rw[hb];rfl)) ?_;simp only[am];exact aG rfl (ae.aW _) ⟨rfl,rfl⟩
  · have e:mI s c=dj (decide ((64:Int)<(c.names.length:Nat))||decide (16≤s.bj.length)) 7 c.pos:=by rw[e0,ah h3,ah h4,ah h3]
    simp only[am,aB h3];cases hb:decide ((64:Int)<(c.names.length:Nat)) with
    | true =>
      simp only[am,Nat.reduceAdd,hC];refine br.intro (fin _ _ e true (by rw[hb];rfl)) ?_;simp only[am];exact aG rfl (ae.aW _) ⟨rfl,rfl⟩
    | false =>
      simp only[am,Nat.reduceAdd,aE,aE,hC,Iz];refine br.intro (fin _ _ e (decide (16≤s.bj.length)) (by rw[hb];rfl)) ?_;simp only[am];exact aG rfl (ae.aW _) ⟨rfl,rfl⟩
theorem aqN (s:au) (c:ag) {σ:ae} (hs:s.Ak) (hg:TZ σ) (hn:c.names.length≤100000) (hp:c.aV.length≤100000) :
    al prog 19 [.agg s.enc,.agg c.enc] σ fun v σ' => v = .agg (ot s c).enc∧σ' = σ:=by
  refine agb.calls ?_;simp only[aJ,O7,am,aR,Nat.reduceAdd,au.af];simp only[am,eg,fg];refine cl (U8 c.op _) ?_;have l9:(qj c.op=true)∨(qj c.op=false∧sW c.op=false)∨(qj c.op=false∧sW c.op=true):=by
    cases qj c.op<;>cases sW c.op<;>simp
  rcases l9 with h5 | ⟨h5,h6⟩ | ⟨h5,h6⟩
  case' inl=>simp only[am,au.af,h5,eg,U1]
  case' inr.inl =>
    simp only[am,h5,fg];refine cl (MJ c.op _) ?_;simp only[am,Nat.reduceAdd,h6];exact aG rfl (ae.aW _) ⟨by rw[ot,h5,h6];rfl,rfl⟩
  case' inr.inr =>
    simp only[am,h5,fg];refine cl (MJ c.op _) ?_;simp only[am,au.af,h6,eg,U1]
  all_goals
    have e:fz (uu s c)=ot s c:=by rw[ot,h5];first | rfl | rw[h6];rfl
    intro b hb;have hb:σ.box b=none:=hb;simp only[am];refine ba.tok 0 fun τ bh=>⟨_,_,(σ.set b _).set b (iZ τ [] s c),dy.rfl,rfl,fun i c' hc=>⟨c',hc,dy.rfl⟩,oG.set iM (by simp[jz,iZ,od]),?_⟩
    have bh:σ.aC τ=none:=bh;rw[ae.set_set,show (σ.set b (iZ τ [] s c)).aL τ 0=dk σ b τ [] s c from rfl];have l1:=@aja s c;have l2:=@Lf s c c.names.length;have l3:=@WK c c.aV;have l4:=@an5 c;have l5:=@alo s c;simp only[am];refine cl (aj' σ b τ [] s c hs.1 (by simp)) ?_;simp only[am,gk];refine cl (akb σ b τ (o8 s c) s c hs.1 (by omega) hn) ?_;simp only[am];refine cl (akk σ b τ (o8 s c++jY s c c.names.length) s c hg (by rw[bw];omega) hn hp) ?_;simp only[am];refine cl (aka σ b τ (o8 s c++jY s c c.names.length++qq c++og c) s c hs (by simp only[bw,qq];omega) hn) ?_;simp only[am,hC];refine cl (al.dK (as' := [.sl .no 2 ((uu s c).map aA.enc)]) (vN (uu s c) _ (by simp only[uu,bw,qq];omega)) ⟨cQ.no,trivial⟩ bG.rfl) ?_;simp only[am,aA.af];exact aG rfl (akm hb bh) ⟨by rw[e];rfl,rfl⟩
def Ol:AC:=.seq (.aa [⟨(some 1),.box 17 (.s 0),none⟩,⟨(some 2),.mv (.c (.bool false)),none⟩])
 (.seq (.seq (.aa [xf 0 3 1,xo 4 3,xc 167 5 [.s 4,.c (.int .i32 110)],xB .eql 6 5 0])
 (.cond (.s 6) (.seq (.aa [xf 2 7 1,xf 0 8 7,xo 9 8,⟨(some 10),.iG .eql (.s 9) (.c (.str [])),none⟩,xm 2 10])
 (.ret))
 (.skip)))
 (.seq (.aa [xf 2 11 1,xf 0 12 11,xo 13 12,xc 99 14 [.s 13],xm 2 14])
 (.ret)))
theorem afy:aK prog 119 Ol [.tmp 2] 15:=⟨f119,⟨[],[],[]⟩,func119,by kernel_rfl,by kernel_rfl,by kernel_rfl,by kernel_rfl⟩
def On:AC:=.seq (.aa [⟨(some 1),.box 17 (.s 0),none⟩,⟨(some 2),.mv (.c (.bool false)),none⟩])
 (.seq (.block 0 (.seq (.aa [xf 0 4 1,xo 5 4,xc 167 6 [.s 5,.c (.int .i32 119)],xB .gtr 7 6 0,xm 3 7])
 (.cond (.s 3) (.seq (.aa [xf 4 8 1,xo 9 8,xL 10 9,xB .gtr 11 10 0,xm 12 11,xg 12 (xf 4 13 1),xg 12 (xo 14 13),xg 12 (xc 37 15 [.s 14]),xg 12 (xc 168 16 [.s 15]),⟨(some 17),.pick (.s 12) (.s 16) (.c (.bool false)),none⟩,xm 2 17])
 (.ret))
 (.seq (.aa [xf 0 19 1,xo 20 19,xc 167 21 [.s 20,.c (.int .i32 102)],xB .gtr 22 21 0,xm 18 22])
 (.cond (.s 18) (.seq (.aa [xf 4 23 1,xo 24 23,xL 25 24,xB .eql 26 25 1,xm 27 26,xg 27 (xf 4 28 1),xg 27 (xo 29 28),xg 27 (xc 37 30 [.s 29]),xg 27 (xc 168 31 [.s 30]),⟨(some 32),.pick (.s 27) (.s 31) (.c (.bool false)),none⟩,xm 2 32])
 (.ret))
 (.skip))))))
 (.seq (.aa [xf 4 33 1,xo 34 33,xL 35 34,xB .eql 36 35 0,xm 2 36])
 (.ret)))
theorem afA:aK prog 120 On [.tmp 2] 37:=⟨f120,⟨[],[],[]⟩,func120,by kernel_rfl,by kernel_rfl,by kernel_rfl,by kernel_rfl⟩
def OU:AC:=.seq (.aa [xi 4 0])
 (.seq (.aa [xi 5 0])
 (.seq (.As [xm 8 0,xc 35 9 [.s 8],xw 1 10 9] (.s 10) 11 12 13 0 1
 (.seq (.aa [xe 14 12 2,xm 7 14])
 (.seq (.aa [xm 15 7,xm 16 1,xb .eql 17 15 16])
 (.cond (.s 17) (.aa [xm 18 5,xB .add 19 18 1,xm 5 19])
 (.skip)))))
 (.seq (.aa [xm 20 5,xm 4 20])
 (.ret))))
theorem af0:aK prog 167 OU [.tmp 4] 21:=⟨f167,⟨[],[],[]⟩,func167,by kernel_rfl,by kernel_rfl,by kernel_rfl,by kernel_rfl⟩
def OV:AC:=.seq (.aa [⟨(some 2),.mv (.c (.bool false)),none⟩])
 (.seq (.seq (.aa [xm 5 0,xL 6 5,xi 7 0])
 (.block 0 (.loop (.seq (.aa [xb .lss 8 7 6])
 (.seq (.cond (.s 8) (.skip)
 (.exit 0))
 (.seq (.block 1 (.seq (.aa [xA 1 9 5 7,xo 10 9,xm 4 10])
 (.seq (.aa [xm 11 4,xc 99 12 [.s 11],⟨(some 13),.not (.s 12),none⟩])
 (.cond (.s 13) (.seq (.aa [⟨(some 2),.mv (.c (.bool false)),none⟩])
 (.ret))
 (.skip)))))
 (.aa [xB .add 14 7 1,xm 7 14])))))))
 (.seq (.aa [⟨(some 2),.mv (.c (.bool true)),none⟩])
 (.ret)))
theorem af1:aK prog 168 OV [.tmp 2] 15:=⟨f168,⟨[],[],[]⟩,func168,by kernel_rfl,by kernel_rfl,by kernel_rfl,by kernel_rfl⟩
def yA (ks:List UInt8) (k:UInt8) (σ:ae) (b i:Nat):St :=
  ⟨[.any,.int .i32 (k.toNat:Nat),.any,.any,.any,.int .i64 ((ks.take i).count k:Nat)]++List.replicate 5 .any++[.raw (.pointer (some ⟨b,0,none⟩))]++List.replicate 9 .any,[],σ⟩
theorem Aj (op:Int) (k:UInt8) {σ:ae} (hg:σ.bR 0=some fQ):al prog 167 [.int .i64 op,.int .i32 (k.toNat:Nat)] σ fun v σ' => v = .int .i64 (dP op k:Nat)∧σ' = σ:=by
  refine af0.calls ?_;simp only[aJ,OU,am,aR,Nat.reduceAdd];refine ML ?_;simp only[am];refine cl (Lk op hg) ?_;simp only[am];have vv:=S8 op;have TV:dP op k=(bT op).2.count k:=rfl;generalize e9:(bT op).2=ks at vv TV;refine⟨ks,rfl,by rw[←e9];exact IW op,fun b i aq => aq = yA ks k σ b i,?_,?_,?_,?_⟩
  · intro b;refine ba.dK (t' := (yA ks k σ b 0).t) ?_ cj.rfl bG.rfl rfl;simp[yA,List.replicate,am]
  · rintro b i _ rfl;exact⟨rfl,by simp[yA],by simp[yA]⟩
  · rintro b i c _ hc rfl;have hi:i<ks.length:=(dD.1 hc).1;have pf:(ks.take (i+1)).count k=(ks.take i).count k+(if c=k then 1 else 0):=by
      rw[Dg hc,List.count_append,List.count_singleton];simp
    have hle:(ks.take i).count k≤3:=uS List.count_le_length (by rw[gZ];omega);have gH:((c.toNat:Nat):Int)=(k.toNat:Nat)↔c=k:=by
      constructor
      · intro h;exact N1.1 (by omega)
      · rintro rfl;rfl
    simp only[yA,List.replicate,am]
    by_cases e:c=k
    · rw[ak e] at pf;simp only[am,cf,aD (gH.2 e)];rw[wrap_i64 (by omega) (by omega)];exact ba.dK (by simp[am,pf]) cj.rfl bG.rfl rfl
    · rw[ah e] at pf;simp only[am,cf,aB (fun h=>e (gH.1 h))];exact ba.dK (by simp[am,pf]) cj.rfl bG.rfl rfl
  · rintro b _ rfl;simp only[yA,List.replicate,am];rw[dW];refine az ?_;simp[V.erase,TV]
def Cu (l:List (List UInt8)) (σ:ae) (i:Nat):St :=
  ⟨[.any,.any,.any,.any,.any,.sl .no 1 (fi l),.int .i64 l.length,.int .i64 (i:Nat)]++List.replicate 7 .any,[],σ⟩
theorem RN (l:List (List UInt8)) (σ:ae) (hl:l.length≤aF):al prog 168 [.sl .no 1 (fi l)] σ fun v σ' => v = .bool (mL l)∧σ' = σ:=by
  simp only[aF] at hl;refine af1.calls ?_;simp only[aJ,OV,am,aR,qD];refine j6 (fun p:{i:Nat // i≤l.length∧mL (l.take i)=true}=>Cu l σ p.1) (fun p=>l.length - p.1) ?_ ?_
  · refine ba.enter ⟨0,by simp,by simp[mL]⟩ ?_ cj.rfl bG.rfl;simp[Cu,List.replicate,am]
  rintro⟨i,hi,ha⟩;simp only[Cu,List.replicate,am]
  by_cases aj:i<l.length
  · simp only[am,aD (show (i:Int)<l.length by omega)];refine bD (by omega) (EB (cw aj)) ?_;simp only[am];refine cl (qX l[i] σ) ?_;cases hr:cV l[i]
    · simp only[am]
      have:mL l=false:=by
        rw[mL,HC];exact⟨l[i],fD aj,by simp[hr]⟩
      refine az ?_;simp[V.erase,this]
    · simp only[am];rw[wrap_i64 (by omega) (by omega)];refine ba.again (I:=fun p:{i:Nat // i≤l.length∧mL (l.take i)=true}=>Cu l σ p.1) (μ:=fun p=>l.length - p.1) ⟨i+1,aj,?_⟩ (by simp;omega) (by simp[Cu,am,List.replicate]) cj.rfl bG.rfl;simp only[mL,kP aj,HB,a_] at ha ⊢;exact⟨ha,by simp[hr]⟩
  · have:i=l.length:=by omega
    subst this;rw[dW] at ha;simp only[am,aB (show ¬(l.length:Int)<l.length by omega)];refine az ?_;simp[V.erase,ha]
theorem amn (c:ag) {σ:ae} (hg:σ.bR 0=some fQ):al prog 119 [.agg c.enc] σ fun v σ' => v = .bool c.lF∧σ' = σ:=by
  refine afy.calls ?_;simp only[aJ,Ol,am,aR,eg,fg];have h:=fun (σ:ae) (hg:σ.bR 0=some fQ)=>Aj c.op 110 hg
  refine cl (h σ hg) ?_;simp only[am]
  by_cases h0:dP c.op 110=0
  · simp only[am,cS,aD (show ((dP c.op 110:Nat):Int)=0 by omega)];refine az ?_;simp[V.erase,ag.lF,h0]
  · simp only[am,cS,aB (show ¬((dP c.op 110:Nat):Int)=0 by omega)];refine cl (qX c.name.text σ) ?_;simp only[am];refine az ?_;simp[V.erase,ag.lF,h0]
theorem amw (c:ag) {σ:ae} (hg:σ.bR 0=some fQ) (hn:c.names.length+1≤aF):al prog 120 [.agg c.enc] σ fun v σ' => v = .bool c.i_∧σ' = σ:=by
  have n9:(c.names.map Word.text).length≤aF:=by rw[aE];omega
  have h:=fun (σ:ae) (hg:σ.bR 0=some fQ)=>Aj c.op 119 hg
  have h' := fun (σ:ae) (hg:σ.bR 0=some fQ)=>Aj c.op 102 hg
  refine afA.calls ?_;simp only[aJ,On,am,aR,eg,fg];refine cl (h σ hg) ?_;simp only[am]
  by_cases h0:0<dP c.op 119
  · simp only[am,aE,cS,aD (show (0:Int)<((dP c.op 119:Nat):Int) by omega),aE]
    by_cases h1:0<c.names.length
    · simp only[am,cS,aD (show (0:Int)<((c.names.length:Nat):Int) by omega)];refine cl (AF c.names σ hn) ?_;simp only[am];refine cl (RN (c.names.map Word.text) σ n9) ?_;simp only[am];refine az ?_;simp[V.erase,ag.i_,h0,h1]
    · simp only[am,aB (show ¬(0:Int)<((c.names.length:Nat):Int) by omega)];refine az ?_;simp[V.erase,ag.i_,h0,h1]
  · simp only[am,fg,aB (show ¬(0:Int)<((dP c.op 119:Nat):Int) by omega)];refine cl (h' σ hg) ?_;simp only[am]
    by_cases U:0<dP c.op 102
    · simp only[am,aE,cS,aD (show (0:Int)<((dP c.op 102:Nat):Int) by omega),aE]
      by_cases h1:c.names.length=1
      · simp only[am,cS,aD (show ((c.names.length:Nat):Int)=1 by omega)];refine cl (AF c.names σ hn) ?_;simp only[am];refine cl (RN (c.names.map Word.text) σ n9) ?_;simp only[am];refine az ?_;simp[V.erase,ag.i_,h0,h1,U]
      · simp only[am,aB (show ¬((c.names.length:Nat):Int)=1 by omega)];refine az ?_;simp[V.erase,ag.i_,h0,h1,U]
    · simp only[am,aE,cS,aB (show ¬(0:Int)<((dP c.op 102:Nat):Int) by omega),aE];have he:decide (((c.names.length:Nat):Int)=0)=decide (c.names.length=0):=by simp
      refine az ?_;simp[V.erase,ag.i_,h0,U]
def QI:AC:=.seq (.aa [⟨(some 1),.box 17 (.s 0),none⟩,⟨(some 2),.mv (.c (.bool false)),none⟩])
 (.seq (.seq (.aa [xf 0 3 1,xo 4 3,xB .lss 5 4 0,xm 6 5,xh 6 (xf 0 7 1),xh 6 (xo 8 7),xh 6 (xB .gtr 9 8 15),⟨(some 10),.pick (.s 6) (.c (.bool true)) (.s 9),none⟩])
 (.cond (.s 10) (.seq (.aa [⟨(some 2),.mv (.c (.bool false)),none⟩])
 (.ret))
 (.skip)))
 (.seq (.aa [xl 17 11 1,xc 119 12 [.s 11],xm 13 12,xg 13 (xl 17 14 1),xg 13 (xc 120 15 [.s 14]),⟨(some 16),.pick (.s 13) (.s 15) (.c (.bool false)),none⟩,xm 17 16,xg 17 (xl 17 18 1),xg 17 (xc 121 19 [.s 18]),⟨(some 20),.pick (.s 17) (.s 19) (.c (.bool false)),none⟩,xm 21 20,xg 21 (xl 17 22 1),xg 21 (xc 122 23 [.s 22]),⟨(some 24),.pick (.s 21) (.s 23) (.c (.bool false)),none⟩,xm 2 24])
 (.ret)))
theorem ahK:aK prog 62 QI [.tmp 2] 25:=⟨f62,⟨[],[],[]⟩,func62,by kernel_rfl,by kernel_rfl,by kernel_rfl,by kernel_rfl⟩
def Oo:AC:=.seq (.aa [⟨(some 1),.box 17 (.s 0),none⟩,⟨(some 2),.mv (.c (.bool false)),none⟩])
 (.seq (.seq (.aa [xf 0 5 1,xo 6 5,xc 167 7 [.s 6,.c (.int .i32 112)],xB .eql 8 7 0])
 (.cond (.s 8) (.seq (.aa [xf 5 9 1,xo 10 9,xL 11 10,xB .eql 12 11 0,xm 2 12])
 (.ret))
 (.skip)))
 (.seq (.seq (.aa [xf 5 13 1,xo 14 13,xL 15 14,xi 16 0])
 (.block 0 (.loop (.seq (.aa [xb .lss 17 16 15])
 (.seq (.cond (.s 17) (.skip)
 (.exit 0))
 (.seq (.block 1 (.seq (.aa [xA 4 18 14 16,xl 4 19 18,⟨(some 4),.alloc [(.str []),(.int .i64 0),(.str []),(.int .i64 0)],none⟩,xs 4 4 19])
 (.seq (.aa [⟨(some 20),.fk 2 2 (.s 4) (.c (.int .i64 0)),none⟩,xf 0 21 20,xo 22 21,xc 99 23 [.s 22],⟨(some 24),.not (.s 23),none⟩,xm 25 24,⟨(some 26),.fk 2 2 (.s 4) (.c (.int .i64 1)),(some (25,false))⟩,xh 25 (xf 0 27 26),xh 25 (xo 28 27),xh 25 (xc 99 29 [.s 28]),⟨(some 30),.not (.s 29),(some (25,false))⟩,⟨(some 31),.pick (.s 25) (.c (.bool true)) (.s 30),none⟩])
 (.cond (.s 31) (.seq (.aa [⟨(some 2),.mv (.c (.bool false)),none⟩])
 (.ret))
 (.skip)))))
 (.aa [xB .add 32 16 1,xm 16 32])))))))
 (.seq (.aa [⟨(some 2),.mv (.c (.bool true)),none⟩])
 (.ret))))
theorem afB:aK prog 121 Oo [.tmp 2] 33:=⟨f121,⟨[],[],[]⟩,func121,by kernel_rfl,by kernel_rfl,by kernel_rfl,by kernel_rfl⟩
def Oq:AC:=.seq (.aa [⟨(some 1),.box 17 (.s 0),none⟩,⟨(some 2),.mv (.c (.bool false)),none⟩])
 (.seq (.seq (.aa [xf 0 3 1,xo 4 3,xc 167 5 [.s 4,.c (.int .i32 116)],xB .gtr 6 5 0])
 (.cond (.s 6) (.seq (.aa [xf 7 7 1,xl 5 8 7,xc 123 9 [.s 8],xm 10 9,xg 10 (xf 12 11 1),xg 10 (xl 5 12 11),xg 10 (xc 123 13 [.s 12]),⟨(some 14),.pick (.s 10) (.s 13) (.c (.bool false)),none⟩,xm 2 14])
 (.ret))
 (.skip)))
 (.seq (.seq (.aa [xf 0 15 1,xo 16 15,xc 167 17 [.s 16,.c (.int .i32 114)],xB .gtr 18 17 0])
 (.cond (.s 18) (.seq (.aa [xf 7 19 1,xl 5 20 19,xc 169 21 [.s 20],xm 22 21,xg 22 (xf 12 23 1),xg 22 (xl 5 24 23),xg 22 (xc 169 25 [.s 24]),⟨(some 26),.pick (.s 22) (.s 25) (.c (.bool false)),none⟩,xm 2 26])
 (.ret))
 (.skip)))
 (.seq (.aa [xf 7 27 1,xl 5 28 27,⟨(some 29),.build [(.int .i64 0),(.int .i64 0),(.str []),(.sl .full 2 []),(.sl .full 5 [])] [],none⟩,xc 43 30 [.s 28,.s 29],xm 31 30,xg 31 (xf 12 32 1),xg 31 (xl 5 33 32),⟨(some 34),.build [(.int .i64 0),(.int .i64 0),(.str []),(.sl .full 2 []),(.sl .full 5 [])] [],(some (31,true))⟩,xg 31 (xc 43 35 [.s 33,.s 34]),⟨(some 36),.pick (.s 31) (.s 35) (.c (.bool false)),none⟩,xm 2 36])
 (.ret))))
theorem afC:aK prog 122 Oq [.tmp 2] 37:=⟨f122,⟨[],[],[]⟩,func122,by kernel_rfl,by kernel_rfl,by kernel_rfl,by kernel_rfl⟩
def vJ (c:ag) (σ:ae) (i:Nat):St :=
  ⟨[.any,.ptr (.loc 0) 0]++List.replicate 12 .any++[.sl .no 4 (c.aV.map dT),.int .i64 c.aV.length,.int .i64 (i:Nat)]++List.replicate 16 .any,[c.enc],σ⟩
theorem aoh (c:ag) {σ:ae} (hg:σ.bR 0=some fQ) (hn:c.aV.length+1≤aF):al prog 121 [.agg c.enc] σ fun v σ' => v = .bool c.jZ∧σ' = σ:=by
  have h:=fun (σ:ae) (hg:σ.bR 0=some fQ)=>Aj c.op 112 hg
  simp only[aF] at hn;refine afB.calls ?_;simp only[aJ,Oo,am,aR,eg,fg];refine cl (h σ hg) ?_;simp only[am]
  by_cases h0:dP c.op 112=0
  · simp only[am,aE,cS,aE,aD (show ((dP c.op 112:Nat):Int)=0 by omega)];have he:decide (((c.aV.length:Nat):Int)=0)=decide (c.aV.length=0):=by simp
    refine az ?_;simp[V.erase,ag.jZ,h0]
  simp only[am,aE,cS,aE,aB (show ¬((dP c.op 112:Nat):Int)=0 by omega)];have hq:c.jZ=c.aV.all mf:=by unfold ag.jZ;rw[ah h0]
  refine j6 (fun p:{i:Nat // i≤c.aV.length∧(c.aV.take i).all mf=true}=>vJ c σ p.1) (fun p=>c.aV.length - p.1) ?_ ?_
  · refine ba.enter ⟨0,by simp,by simp⟩ ?_ cj.rfl bG.rfl;simp[vJ,List.replicate,am]
  rintro⟨i,hi,ha⟩;simp only[vJ,List.replicate,am]
  by_cases aj:i<c.aV.length
  · simp only[am,aD (show (i:Int)<c.aV.length by omega)];refine bD (by omega) (Ar (cw aj)) ?_;simp only[am,cf,Nat.reduceAdd,dT];refine jx (by omega) (by omega) ?_;simp only[am,Int.reduceToNat,Nat.reduceMul];refine cl (qX c.aV[i].1.text σ) ?_;have g_:mf c.aV[i]=false→c.jZ=false:=fun hf=>by
      rw[hq,HC];exact⟨c.aV[i],fD aj,by simp[hf]⟩
    cases hr:cV c.aV[i].1.text
    · simp only[am];refine az ?_;simp[V.erase,g_ (by simp[mf,hr])]
    · simp only[am,cf];refine jx (by omega) (by omega) ?_;simp only[am,Int.reduceToNat,Nat.reduceMul];refine cl (qX c.aV[i].2.text σ) ?_;cases Up:cV c.aV[i].2.text
      · simp only[am];refine az ?_;simp[V.erase,g_ (by simp[mf,Up])]
      · simp only[am];rw[wrap_i64 (by omega) (by omega)];refine ba.rT (I:=fun p:{i:Nat // i≤c.aV.length∧(c.aV.take i).all mf=true}=>vJ c σ p.1) (μ:=fun p=>c.aV.length - p.1) ⟨i+1,aj,?_⟩ (by simp;omega) (by simp[vJ,am,List.replicate]) (by simp[vJ,am]) bG.rfl (by simp[vJ,List.replicate,bx,V.lo]) (by simp[vJ,ag.enc,ag.cp,c8,bx,V.lo]);rw[kP aj,HB,ha];simp[mf,hr,Up]
  · have:i=c.aV.length:=by omega
    subst this;rw[dW] at ha;simp only[am,aB (show ¬(c.aV.length:Int)<c.aV.length by omega)];refine az ?_;simp[V.erase,hq,ha]
theorem atT:[V.int .i64 0,.int .i64 0,.str [],.sl .full 2 [],.sl .full 5 []].map V.erase=Nd.zero.enc:=by rw[Nd.cD];rfl
theorem XQ (n:Nd) (σ:ae) (hw:n.wt≤aF):al prog 43 [.agg n.enc,.agg [.int .i64 0,.int .i64 0,.str [],.sl .full 2 [],.sl .full 5 []]] σ fun v σ' => v = .bool (n.b9 .zero)∧σ' = σ:=by
  refine al.dK (Ma _ n .zero σ (bt _) hw) ?_ bG.rfl;simp only[ck,cQ.rfl,fO,nL];rw[←atT];exact cQ.erase (v:=.agg [.int .i64 0,.int .i64 0,.str [],.sl .full 2 [],.sl .full 5 []])
theorem arQ (c:ag) {σ:ae} (hg:σ.bR 0=some fQ) (hl:c.left.wt≤aF) (hr:c.right.wt≤aF):al prog 122 [.agg c.enc] σ fun v σ' => v = .bool c.iN∧σ' = σ:=by
  have h:=fun (σ:ae) (hg:σ.bR 0=some fQ)=>Aj c.op 116 hg
  have h' := fun (σ:ae) (hg:σ.bR 0=some fQ)=>Aj c.op 114 hg
  refine afC.calls ?_;simp only[aJ,Oq,am,aR,eg,fg];refine cl (h σ hg) ?_;simp only[am]
  by_cases h0:0<dP c.op 116
  · simp only[am,Nd.af,cS,aD (show (0:Int)<((dP c.op 116:Nat):Int) by omega)];refine cl (CC _ c.left σ (bt _) hl) ?_;cases hq:c.left.dS
    · simp only[am];refine az ?_;simp[V.erase,ag.iN,h0,hq]
    · simp only[am,Nd.af,cS];refine cl (CC _ c.right σ (bt _) hr) ?_;simp only[am];refine az ?_;simp[V.erase,ag.iN,h0,hq]
  simp only[am,fg,aB (show ¬(0:Int)<((dP c.op 116:Nat):Int) by omega)];refine cl (h' σ hg) ?_;simp only[am]
  by_cases U:0<dP c.op 114
  · simp only[am,Nd.af,cS,aD (show (0:Int)<((dP c.op 114:Nat):Int) by omega)];refine cl (Xf c.left σ hl) ?_;cases hq:c.left.h_
    · simp only[am];refine az ?_;simp[V.erase,ag.iN,h0,U,hq]
    · simp only[am,Nd.af,cS];refine cl (Xf c.right σ hr) ?_;simp only[am];refine az ?_;simp[V.erase,ag.iN,h0,U,hq]
  simp only[am,Nd.af,cS,aB (show ¬(0:Int)<((dP c.op 114:Nat):Int) by omega)];refine cl (XQ c.left σ hl) ?_;cases hq:c.left.b9 .zero
  · simp only[am];refine az ?_;simp[V.erase,ag.iN,h0,U,hq]
  · simp only[am,Nd.af,cS];refine cl (XQ c.right σ hr) ?_;simp only[am];refine az ?_;simp[V.erase,ag.iN,h0,U,hq]
theorem ab9 (c:ag) {σ:ae} (hg:σ.bR 0=some fQ) (hn:c.names.length+1≤aF) (hp:c.aV.length+1≤aF) (hl:c.left.wt≤aF) (hr:c.right.wt≤aF):al prog 62 [.agg c.enc] σ fun v σ' => v = .bool c.eB∧σ' = σ:=by
  have h1:=fun (σ:ae) (hg:σ.bR 0=some fQ)=>amn c hg
  have U:=fun (σ:ae) (hg:σ.bR 0=some fQ)=>amw c hg hn
  have h3:=fun (σ:ae) (hg:σ.bR 0=some fQ)=>aoh c hg hp
  have h4:=fun (σ:ae) (hg:σ.bR 0=some fQ)=>arQ c hg hl hr
  refine ahK.calls ?_;simp only[aJ,QI,am,aR,eg,fg]
  by_cases k1:c.op<0
  · simp only[am,aD k1];refine az ?_;simp[V.erase,ag.eB,show ¬(0≤c.op∧c.op≤15) by omega]
  simp only[am,fg,aB k1]
  by_cases k2:15<c.op
  · simp only[am,aD k2];refine az ?_;simp[V.erase,ag.eB,show ¬(0≤c.op∧c.op≤15) by omega]
  have k3:0≤c.op∧c.op≤15:=by omega
  simp only[am,eg,aB k2];refine cl (h1 σ hg) ?_;cases q1:c.lF
  · simp only[am];refine az ?_;simp[V.erase,ag.eB,q1]
  simp only[am,eg];refine cl (U σ hg) ?_;cases q2:c.i_
  · simp only[am];refine az ?_;simp[V.erase,ag.eB,q1,q2]
  simp only[am,eg];refine cl (h3 σ hg) ?_;cases q3:c.jZ
  · simp only[am];refine az ?_;simp[V.erase,ag.eB,q1,q2,q3]
  simp only[am,eg];refine cl (h4 σ hg) ?_;simp only[am];refine az ?_;simp[V.erase,ag.eB,q1,q2,q3,k3]
def QL:AC:=.seq (.aa [⟨(some 3),.box 2 (.s 0),none⟩,⟨(some 5),.box 5 (.s 2),none⟩,⟨(some 6),.alloc Ef,none⟩])
 (.seq (.seq (.aa [xf 0 11 5,xo 12 11,xB .eql 13 12 1])
 (.cond (.s 13) (.seq (.aa [xl 2 15 3,xf 2 16 5,xo 17 16,xc 63 18 [.s 15,.s 17],xm 14 18,xe 19 14 0,xe 20 14 1,xm 7 19,xm 8 20])
 (.seq (.aa [xm 21 8,⟨(some 22),.build Ef [(0,1,(.s 21))],none⟩,xs 9 6 22])
 (.ret)))
 (.skip)))
 (.seq (.tu [9,10] [(xf 0 24 3,[]),(xo 25 24,[]),(xm 26 1,[]),(xA 3 27 25 26,[]),(xf 1 28 27,[]),(xl 2 29 28,[]),(xf 4 30 5,[]),(xo 31 30,[]),(⟨(some 32),.kv 5 (.s 31) (.c (.int .i64 0)),none⟩,[]),(xl 5 33 32,[]),(xc 125 34 [.s 29,.s 33],[]),(xm 23 34,[]),(xe 35 23 0,[]),(xe 36 23 1,[]),(⟨none,.mv (.c .any),none⟩,[]),(⟨none,.mv (.c .any),none⟩,[]),(⟨(some 9),.kf 8 (.s 35),none⟩,[]),(⟨(some 10),.kf 2 (.s 36),none⟩,[])])
 (.seq (.aa [xl 8 37 9,⟨(some 38),.build Ef [(0,1,(.c (.int .i64 (-1)))),(1,8,(.s 37))],none⟩,xs 9 6 38])
 (.ret))))
theorem ahN:aK prog 65 QL [.cell 6 true 9] 39:=⟨f65,⟨[],[],[]⟩,func65,by kernel_rfl,by kernel_rfl,by kernel_rfl,by kernel_rfl⟩
def QM:AC:=.seq (.aa [⟨(some 3),.box 2 (.s 0),none⟩,⟨(some 5),.box 5 (.s 2),none⟩,⟨(some 6),.alloc [(.sl .full 10 []),(.int .i64 0)],none⟩])
 (.seq (.aa [⟨(some 12),.build [(.sl .full 10 []),(.int .i64 0)] [(1,1,(.c (.int .i64 (-1))))],none⟩,⟨(some 7),.alloc [(.sl .full 10 []),(.int .i64 0)],none⟩,xs 2 7 12])
 (.seq (.seq (.aa [xf 0 13 5,xo 14 13,xB .eql 15 14 1])
 (.cond (.s 15) (.seq (.aa [xl 2 17 3,xf 2 18 5,xo 19 18,xc 63 20 [.s 17,.s 19],xm 16 20,xe 21 16 0,xe 22 16 1,xf 1 23 7,xs 1 23 22])
 (.seq (.aa [xl 2 24 7,xs 2 6 24])
 (.ret)))
 (.skip)))
 (.seq (.seq (.aa [xf 4 25 5,xo 26 25,xL 27 26,xi 28 0])
 (.block 0 (.loop (.seq (.aa [xb .lss 29 28 27])
 (.seq (.cond (.s 29) (.skip)
 (.exit 0))
 (.seq (.block 1 (.seq (.aa [xA 5 30 26 28,xl 5 31 30,⟨(some 9),.alloc [(.int .i64 0),(.int .i64 0),(.str []),(.sl .full 2 []),(.sl .full 5 [])],none⟩,xs 5 9 31])
 (.draw [(xf 0 32 7,[]),(xo 33 32,[1]),(xf 2 34 9,[]),(xo 35 34,[1]),(xl 2 36 3,[]),(xm 37 1,[]),(xf 4 38 9,[]),(xo 39 38,[]),(⟨(some 40),.kv 5 (.s 39) (.c (.int .i64 0)),none⟩,[]),(xl 5 41 40,[]),(xc 65 42 [.s 36,.s 37,.s 41],[]),(⟨(some 43),.build SU [(0,1,(.s 35)),(1,9,(.s 42))],none⟩,[]),(⟨(some 44),.cR 10 [(.s 43)],none⟩,[]),(xa 10 45 33 44,[]),(xf 0 46 7,[]),(xs 1 46 45,[])])))
 (.aa [xB .add 47 28 1,xm 28 47])))))))
 (.seq (.seq (.aa [xf 3 48 5,xo 49 48,xL 50 49,xi 51 0])
 (.block 2 (.loop (.seq (.aa [xb .lss 52 51 50])
 (.seq (.cond (.s 52) (.skip)
 (.exit 2))
 (.seq (.block 3 (.seq (.aa [xA 2 53 49 51,xl 2 54 53,⟨(some 11),.alloc [(.str []),(.int .i64 0)],none⟩,xs 2 11 54])
 (.aa [xl 2 56 3,xf 0 57 11,xo 58 57,xc 63 59 [.s 56,.s 58],xm 55 59,xe 60 55 0,xe 61 55 1,xf 1 62 7,xs 1 62 61])))
 (.aa [xB .add 63 51 1,xm 51 63])))))))
 (.seq (.aa [xl 2 64 7,xs 2 6 64])
 (.ret))))))
theorem ahO:aK prog 66 QM [.cell 6 true 2] 65:=⟨f66,⟨[],[],[]⟩,func66,by kernel_rfl,by kernel_rfl,by kernel_rfl,by kernel_rfl⟩
theorem SD (s:au) (lat:Nat) (n:Nd) {σ:ae} (hs:s.ok) (hg:TZ σ) (lZ:lat<s.bj.length) (hk:n.kind=1∨0<n.kids.length) (hc:n.bS≤100000) (hw:n.wt≤aF) :
    al prog 65 [.agg s.enc,.int .i64 (lat:Nat),.agg n.enc] σ fun v σ' => v = .agg (oL s lat n).enc∧σ' = σ:=by
  refine ahN.calls ?_;simp only[aJ,QL,Hm,Nat.reduceAdd,Int.reduceNeg,bq.af]
  by_cases h1:n.kind=1
  · simp only[am,Int.reduceNeg,au.af,Nd.fl,aD h1];refine cl (uv s n.text σ hs.1 hs.2.1) ?_;simp only[am,Int.reduceNeg,bq.af];exact aG (v:=.agg (bq.mk (cF (jq s.vars n.text)) .zero).enc) bq.cN (ae.aW _) ⟨by rw[oL,ak h1];simp only[V.erase,bq.cM],rfl⟩
  have hk:0<n.kids.length:=hk.resolve_left h1;have hm:n.kids[0]∈n.kids:=fD _;have vz:=oQ hm;have vA:=nu hm;simp only[am,Nat.reduceAdd,bZ,Int.reduceNeg,Nat.reduceLT,au.af,aB h1];refine bD (by omega) (Ad lZ) ?_;simp only[am,Int.reduceNeg,au.af,Nd.fl];refine bD (n:=0) (by omega) (ny (j:=0) (cw hk)) ?_;simp only[am,Int.reduceNeg,bg.af,Nd.af];refine br.intro (ID s.bj[lat].shape n.kids[0] hg (hs.2.2 _ (fD lZ)) (fun m hm=>by obtain⟨a,b,c⟩:=LB (n:=n.kids[0]) (by omega) m hm;exact⟨by omega,by omega,fun q hq=>by have:=c q hq;omega⟩) (by omega)) ?_;have ee:oL s lat n=⟨-1,(gF s.bj[lat].shape n.kids[0]).1⟩:=by rw[oL,ah h1,Mn lZ,oX hk]
  generalize gF s.bj[lat].shape n.kids[0]=g at ee;obtain⟨e,o⟩:=g;cases o with
  | none =>
    simp only[am,Nat.reduceAdd,Int.reduceNeg,aN.af,bq.af,show r_ none=[.int .i64 0,.int .i64 0] from rfl];exact aG (v:=.agg (bq.mk (-1) e).enc) bq.cN (ae.aW _) ⟨by rw[ee];simp only[V.erase,bq.cM],rfl⟩
  | some q =>
    simp only[am,Nat.reduceAdd,Int.reduceNeg,aN.af,bq.af,show r_ (some q)=[.int .i64 4,.int .i64 q] from rfl];exact aG (v:=.agg (bq.mk (-1) e).enc) bq.cN (ae.aW _) ⟨by rw[ee];simp only[V.erase,bq.cM],rfl⟩
theorem S_ (s:au) (lat:Nat) (n:Nd) {σ:ae} (hs:s.ok) (hg:TZ σ) (lZ:lat<s.bj.length) (hk:∀k∈n.kids,SS k) (hn1:n.names.length≤1) (hc:n.bS≤100000) (hw:n.wt≤aF) :
    al prog 66 [.agg s.enc,.int .i64 (lat:Nat),.agg n.enc] σ fun v σ' => v = .agg (la s lat n).enc∧σ' = σ:=by
  refine ahO.calls ?_;simp only[aJ,QM,Hm,Nat.reduceAdd,Int.reduceNeg,bF.af]
  by_cases h1:n.kind=1
  · simp only[am,Int.reduceNeg,au.af,Nd.fl,aD h1];refine cl (uv s n.text σ hs.1 hs.2.1) ?_;simp only[am,Nat.reduceAdd,Int.reduceNeg];exact aG rfl (ae.aW _) ⟨by rw[la,ak h1];rfl,rfl⟩
  simp only[am,aE,Int.reduceNeg,Nd.fl,aE,aB h1];have B':=wT n;obtain⟨Q,hQ⟩:∃Q:Nat→List (List V),∀i,Q i=((n.kids.take i).map (r9 s lat)).map bF.enc:=⟨_,fun _=>rfl⟩;have BR:Q 0=[]:=by rw[hQ];rfl
  have Jh:Q n.kids.length=(n.kids.map (r9 s lat)).map bF.enc:=by rw[hQ,dW]
  have BS:∀{i:Nat},i≤n.kids.length→(Q i).length=i:=fun {i} hi=>by rw[hQ];simp;omega
  have xz:∀{i:Nat} (hi:i<n.kids.length) (h1:0<n.kids[i].kids.length),Q (i+1)=Q i++[(bF.mk n.kids[i].text (oL s lat n.kids[i].kids[0])).enc]:=fun {i} hi h1=>by
    rw[hQ,hQ,kP hi,fE,fE,DP,DP,r9,oX h1]
  obtain⟨F,hF⟩:∃F:Nat→Nat→St,∀i τ,F i τ=⟨[.any,.int .i64 (lat:Nat),.any,.ptr (.loc 0) 0,.any,.ptr (.loc 1) 0,.ptr (.loc 2) 0,.ptr (.loc 3) 0,.any,.any,.any,.any,.any,.any,.any,.any,.any,.any,.any,.any,.any,.any,.any,.any,.any,.any,.sl .no 5 (n.kids.map Nd.enc),.int .i64 (n.kids.length:Nat),.int .i64 (i:Nat)]++List.replicate 36 .any,[s.enc,n.enc,[.sl .full 10 [],.int .i64 0],[.sl (.tk τ) 10 (Q i),.int .i64 (-1)]],σ.aL τ i⟩:=⟨_,fun _ _=>rfl⟩;obtain⟨JF,aQ⟩:∃JF:Nat→Nat→Prop,∀i τ,JF i τ=(σ.aC τ=none):=⟨_,fun _ _=>rfl⟩;refine dC (n.kids.length) F JF _ aQ ?_ ?_ ?_
  · refine Su 0 fun τ bh=>⟨τ,Eq.mpr (aQ _ _) bh,?_,?_,?_⟩
    all_goals simp[hF,List.replicate,od,Vx,BR]
  · rintro i τ hi bh;have hm:n.kids[i]∈n.kids:=fD _;have vz:=oQ hm;have vA:=nu hm;obtain⟨pX,pY⟩:=hk _ hm;have zP:n.kids[i].kids[0]∈n.kids[i].kids:=fD _;have aju:=oQ zP;have ajv:=nu zP;have vt:TZ (σ.aL τ i):=hg;have hlen:=BS (HS hi);simp only[hF,List.replicate,am,dB hi,Int.reduceNeg];refine bD (by omega) (ny (cw hi)) ?_;simp only[Hm,Nat.reduceAdd,Int.reduceNeg];refine bD (n:=0) (by omega) (ny (j:=0) (cw pX)) ?_;simp only[am,Int.reduceNeg,au.af,Nd.af];refine br.intro (SD s lat n.kids[i].kids[0] hs vt lZ (pY _ zP) (by omega) (by omega)) ?_;simp only[am,Int.reduceNeg,bq.af,bF.af];refine Bj (by rw[hlen];simp[aF];omega) (by rw[hlen];exact lK) ?_;rw[hlen];simp only[am,aO,Int.reduceNeg,Nd.fl,j5,cu hi (by omega),iE];refine fm (τ) hi ?_ ?_ ?_ ?_ ?_ ?_
    · exact Eq.mpr (aQ _ _) (bh)
    all_goals simp[hF,List.replicate,am,bu,bx,c8,V.lo,xz hi pX,au.bY,Nd.bY]
  · rintro τ bh;have hlen:=BS (bt _);have hnc:=Bs n;simp only[hF,List.replicate,am,aO,dG,aO,Int.reduceNeg,Nd.fl,aE];obtain⟨F2,ep⟩:∃F2:Nat→Unit→St,∀j y,F2 j y=⟨[.any,.any,.any,.ptr (.loc 0) 0,.any,.any,.ptr (.loc 2) 0,.ptr (.loc 3) 0,.any,.any,.any,.any,.any,.any,.any,.any,.any,.any,.any,.any,.any,.any,.any,.any,.any,.any,.any,.any,.any,.any,.any,.any,.any,.any,.any,.any,.any,.any,.any,.any,.any,.any,.any,.any,.any,.any,.any,.any,.any,.sl .no 2 (n.names.map Word.enc),.int .i64 (n.names.length:Nat),.int .i64 (j:Nat)]++List.replicate 13 .any,[s.enc,n.enc,[.sl .full 10 [],.int .i64 0],[.sl (.tk τ) 10 (Q n.kids.length),.int .i64 (yF s (n.names.take j))]],σ.aL τ n.kids.length⟩:=⟨_,fun _ _=>rfl⟩;obtain⟨gO,gG⟩:∃gO:Nat→Unit→Prop,∀j y,gO j y=(True):=⟨_,fun _ _=>rfl⟩;refine dC (n.names.length) F2 gO _ gG ?_ ?_ ?_
    · refine en (()) ?_ ?_ ?_ ?_
      · exact Eq.mpr (gG _ _) (trivial)
      all_goals simp[ep,List.replicate,am,bu,yF]
    · rintro j y hj -;obtain rfl:j=0:=by omega
      have et:=arF (s:=s) hj;simp only[ep,List.replicate,am,dB hj];refine bD (by omega) (AW hj) ?_;simp only[am,Nat.reduceAdd,wq,au.af,Word.af];refine cl (uv s n.names[0].text _ hs.1 hs.2.1) ?_;simp only[am,aO,cu hj (by omega)];refine fm (()) hj ?_ ?_ ?_ ?_ ?_ ?_
      · exact Eq.mpr (gG _ _) (trivial)
      all_goals simp[ep,List.replicate,am,bu,bx,c8,V.lo,et,au.bY,Nd.bY]
    · rintro y -;simp only[ep,List.replicate,am,aO,dG,Nat.reduceAdd,aO,dW,Jh];have e:la s lat n=⟨n.kids.map (r9 s lat),yF s n.names⟩:=by rw[la,ah h1]
      refine aG rfl (rp bh) ⟨by rw[e];rfl,rfl⟩
def PG:AC:=.seq (.aa [⟨(some 2),.box 2 (.s 0),none⟩,⟨(some 3),.box 17 (.s 1),none⟩,⟨(some 4),.alloc kR,none⟩,⟨(some 5),.mv (.c (.bool false)),none⟩])
 (.seq (.seq (.aa [xf 0 9 3,xo 10 9,xB .lss 11 10 8,xm 12 11,xh 12 (xf 0 13 3),xh 12 (xo 14 13),xh 12 (xB .gtr 15 14 10),⟨(some 16),.pick (.s 12) (.c (.bool true)) (.s 15),none⟩,xm 17 16,xh 17 (xl 17 18 3),xh 17 (xc 62 19 [.s 18]),⟨(some 20),.not (.s 19),(some (17,false))⟩,⟨(some 21),.pick (.s 17) (.c (.bool true)) (.s 20),none⟩,xm 22 21,xh 22 (xl 2 23 2),xh 22 (xl 17 24 3),xh 22 (xc 20 25 [.s 23,.s 24]),xh 22 (xw 0 26 25),xh 22 (xB .neq 27 26 0),⟨(some 28),.pick (.s 22) (.c (.bool true)) (.s 27),none⟩])
 (.cond (.s 28) (.seq (.aa [⟨(some 29),.build kR [],none⟩,xs 18 4 29,⟨(some 5),.mv (.c (.bool false)),none⟩])
 (.ret))
 (.skip)))
 (.seq (.aa [xl 2 31 2,xf 2 32 3,xf 0 33 32,xo 34 33,xc 63 35 [.s 31,.s 34],xm 30 35,xe 36 30 0,xe 37 30 1,xm 6 36,xm 7 37])
 (.seq (.aa [xf 0 38 3,xo 39 38,xm 40 6,⟨(some 41),.build kR [(0,1,(.s 39)),(1,1,(.s 40))],none⟩,⟨(some 8),.alloc kR,none⟩,xs 18 8 41])
 (.seq (.seq (.aa [xf 0 42 3,xo 43 42])
 (.block 0 (.seq (.aa [xB .eql 45 43 8,xm 44 45])
 (.cond (.s 44) (.seq (.aa [xl 2 47 2,xm 48 6,xf 7 49 3,xl 5 50 49,xc 64 51 [.s 47,.s 48,.s 50],xm 46 51,xe 52 46 0,xe 53 46 1,xf 2 54 8,xs 1 54 52])
 (.aa [xl 2 55 2,xm 56 6,xf 12 57 3,xl 5 58 57,xc 65 59 [.s 55,.s 56,.s 58],xf 3 60 8,xs 9 60 59]))
 (.seq (.aa [xB .eql 62 43 9,xm 61 62])
 (.cond (.s 61) (.draw [(xl 2 63 2,[]),(xm 64 6,[]),(xf 7 65 3,[]),(xl 5 66 65,[]),(xc 66 67 [.s 63,.s 64,.s 66],[]),(xl 2 68 2,[0]),(xm 69 6,[]),(xf 12 70 3,[]),(xl 5 71 70,[0]),(xc 66 72 [.s 68,.s 69,.s 71],[]),(xf 12 73 8,[]),(xs 2 73 67,[]),(xf 14 74 8,[]),(xs 2 74 72,[])])
 (.seq (.aa [xB .eql 76 43 10,xm 75 76])
 (.cond (.s 75) (.draw [(xm 77 7,[]),(xf 1 78 2,[]),(xo 79 78,[1]),(xm 80 7,[]),(xA 3 81 79 80,[]),(xf 2 82 81,[]),(xo 83 82,[1]),(xf 4 84 3,[]),(xo 85 84,[1,2]),(⟨(some 86),.kv 2 (.s 85) (.c (.int .i64 0)),none⟩,[]),(xf 0 87 86,[]),(xo 88 87,[1,2]),(xf 16 89 8,[]),(xs 1 89 77,[]),(xf 1 90 8,[]),(xs 1 90 83,[]),(xf 17 91 8,[]),(xs 1 91 88,[])])
 (.skip)))))))))
 (.seq (.aa [xl 18 92 8,xs 18 4 92,⟨(some 5),.mv (.c (.bool true)),none⟩])
 (.ret))))))
theorem agK:aK prog 23 PG [.cell 4 true 18,.tmp 5] 93:=⟨f23,⟨[],[],[]⟩,func23,by kernel_rfl,by kernel_rfl,by kernel_rfl,by kernel_rfl⟩
def wN (s:au) (c:ag):V:=.aX [.agg (if jy s c then lU s c else .zero).enc,.bool (jy s c)]
theorem aeL (s:au) (c:ag) {σ:ae} (hs:s.ok) (hg:TZ σ) (lX:σ.bR 0=some fQ) (hn:c.names.length+1≤aF) (hp:c.aV.length+1≤aF) (hl:c.left.bS≤100000) (hr:c.right.bS≤100000) (xP:c.left.wt≤aF) (tZ:c.right.wt≤aF) :
    al prog 23 [.agg s.enc,.agg c.enc] σ fun v σ' => v=wN s c∧σ' = σ:=by
  have no:∀(t:List V) (lo:List (List V)),jy s c=false→nU (fun v σ' => v=wN s c∧σ' = σ) ⟨t,lo,σ⟩ (.aX [.agg (bV 0 0 (.sl .full 10 []) .zero (.sl .full 10 []) 0 (.sl .full 10 []) 0 0 []),.bool false]):=fun t lo h=>by
    refine aG (by simp only[V.cc,bm,s4];exact Ec rfl rfl rfl) (ae.aW _) ⟨?_,rfl⟩;rw[wN,h];simp only[V.erase,a9,Eb];rfl
  have yes:∀(t:List V) (lo:List (List V)) (op lat:Int) (cd:V) (to:bq) (fa:V) (ta:Int) (fb:V) (tb v:Int) (f:List UInt8),jy s c=true→cd.cc=true→fa.cc=true→fb.cc=true→bV op lat cd.erase to fa.erase ta fb.erase tb v f=(lU s c).enc→nU (fun v σ' => v=wN s c∧σ' = σ) ⟨t,lo,σ⟩ (.aX [.agg (bV op lat cd to fa ta fb tb v f),.bool true]):=fun t lo op lat cd to fa ta fb tb v f h n1 n2 n3 hx=>by
    refine aG (by simp only[V.cc,bm,s4];exact Ec n1 n2 n3) (ae.aW _) ⟨?_,rfl⟩;rw[wN,h];simp only[V.erase,a9,Eb,hx];rfl
  refine agK.calls ?_;simp only[aJ,PG,am,aR,Nat.reduceAdd,au.af,kR,eg,fg]
  by_cases o1:c.op<8
  · simp only[am,iF,aD o1];exact no _ _ (by simp[jy];omega)
  simp only[am,fg,aB o1]
  by_cases o2:10<c.op
  · simp only[am,iF,aD o2];exact no _ _ (by simp[jy];omega)
  simp only[am,eg,aB o2];refine cl (ab9 c lX hn hp xP tZ) ?_;cases hq:c.eB with
  | false =>
    simp only[am,iF];exact no _ _ (by simp[jy,hq])
  | true =>
    simp only[am,au.af,eg];refine cl (SP s c hs hg hl hr xP tZ) ?_;simp only[am,aA.af]
    by_cases hf:(jo s c).cls=0
    case neg =>
      simp only[am,iF,aB hf];exact no _ _ (by simp[jy,hf])
    have hA:jy s c=true:=by simp only[jy,hq,hf,bZ,s4,a_,bH];omega
    have hF:=US.1 hA;simp only[am,au.af,cS,aD hf];refine cl (uv s c.name.text σ hs.1 hs.2.1) ?_;simp only[am,Nat.reduceAdd,iF,fg,za (op:=c.op) (lat:=cF (iI s.bj c.name.text)) (c:=.sl .full 10 []) (to:=.zero) (fa:=.sl .full 10 []) (ta:=0) (fb:=.sl .full 10 []) (tb:=0) (v:=0) (f:=[]) rfl rfl rfl]
    by_cases h8:c.op=8
    · simp only[am,au.af,Nd.af,cS,aD h8];obtain⟨k,hk,aj⟩:=hF.ca (.inl h8);have iX : cF (iI s.bj c.name.text)=(k:Nat):=hk;rw[iX];refine cl (aby s k c.left hg hs xP (by omega)) ?_;simp only[am,au.af,iF,Nd.af,cS,Iq];refine cl (SD s k c.right hs hg aj ?_ (by omega) tZ) ?_
      · rcases hF.right h8 with h | h
        · exact .inl h
        · exact .inr (by rw[Cz (hF.labels h8).2 h];omega)
      simp only[am,bq.af,iF,za (op:=c.op) (lat:=k) (c:=.sl .no 10 (((ln s k c.left).getD []).map a7.enc)) (to:=oL s k c.right) (fa:=.sl .full 10 []) (ta:=0) (fb:=.sl .full 10 []) (tb:=0) (v:=0) (f:=[]) rfl rfl rfl];refine yes _ _ _ _ _ _ _ _ _ _ _ _ hA rfl rfl rfl ?_;rw[lU,ak h8,hk,h8];rfl
    simp only[am,aB h8]
    by_cases h9:c.op=9
    · simp only[am,au.af,Nd.af,cS,aD h9];obtain⟨k,hk,aj⟩:=hF.ca (.inr h9);have iX : cF (iI s.bj c.name.text)=(k:Nat):=hk;rw[iX];obtain⟨q1,q2⟩:=hF.rows h9;refine br.intro (S_ s k c.left hs hg aj (GQ q1) (Xc q1) (by omega) xP) ?_;simp only[am,au.af,Nd.af,cS];refine br.intro (S_ s k c.right hs hg aj (GQ q2) (Xc q2) (by omega) tZ) ?_;simp only[am,au.af,dE.af,iF,cS,za (op:=c.op) (lat:=k) (c:=.sl .full 10 []) (to:=.zero) (fa:=.sl .no 10 ((la s k c.left).fs.map bF.enc)) (ta:=(la s k c.left).tail) (fb:=.sl .no 10 ((la s k c.right).fs.map bF.enc)) (tb:=(la s k c.right).tail) (v:=0) (f:=[]) rfl rfl rfl];refine yes _ _ _ _ _ _ _ _ _ _ _ _ hA rfl rfl rfl ?_;rw[lU,ah h8,ak h9,hk,h9];rfl
    have gS:c.op=10:=by omega
    simp only[am,au.af,aB h9,aD gS];obtain⟨v,hv,FF,sv⟩:=hF.var gS;obtain⟨w,hw,_⟩:=hF.one gS;rw[FF];simp only[Int.reduceNeg,cF];refine bD (by omega) (AL hv) ?_;simp only[am,Int.reduceNeg,au.af,cS];have FG:0<c.names.length:=by rw[hw];simp
    refine bD (n:=0) (by omega) (AW (l:=c.names) (j:=0) FG) ?_;simp only[am,Int.reduceNeg,wq,au.af,iF,cS,za (op:=c.op) (lat:=s.vars[v].lat) (c:=.sl .full 10 []) (to:=.zero) (fa:=.sl .full 10 []) (ta:=0) (fb:=.sl .full 10 []) (tb:=0) (v:=v) (f:=c.names[0].text) rfl rfl rfl];refine yes _ _ _ _ _ _ _ _ _ _ _ _ hA rfl rfl rfl ?_;rw[lU,ah h8,ah h9,FF,YJ,cw hv,oX FG,gS];rfl
def QR:AC:=.seq (.aa [⟨(some 3),.box 2 (.s 0),none⟩,⟨(some 4),.box 3 (.s 1),none⟩,⟨(some 6),.alloc [(.int .i64 0),(.int .i64 0),(.str []),(.int .i64 0),(.sl .full 2 []),(.sl .full 4 []),(.int .i64 0),(.int .i64 0),(.int .i64 0),(.str []),(.sl .full 2 []),(.sl .full 5 []),(.int .i64 0),(.int .i64 0),(.str []),(.sl .full 2 []),(.sl .full 5 [])],none⟩,⟨(some 7),.alloc kR,none⟩,⟨(some 8),.alloc [(.int .i64 0),(.int .i64 0)],none⟩])
 (.seq (.aa [xm 15 2,xc 18 16 [.s 15],xm 14 16,xe 17 14 0,xe 18 14 1,⟨(some 9),.alloc [(.int .i64 0),(.int .i64 0),(.str []),(.int .i64 0),(.sl .full 2 []),(.sl .full 4 []),(.int .i64 0),(.int .i64 0),(.int .i64 0),(.str []),(.sl .full 2 []),(.sl .full 5 []),(.int .i64 0),(.int .i64 0),(.str []),(.sl .full 2 []),(.sl .full 5 [])],none⟩,⟨(some 10),.alloc [(.int .i64 0),(.int .i64 0)],none⟩,xs 17 9 17,xs 2 10 18])
 (.seq (.seq (.aa [xf 0 19 10,xo 20 19,xB .neq 21 20 0])
 (.cond (.s 21) (.seq (.draw [(⟨(some 22),.build [(.int .i64 0),(.int .i64 0),(.str []),(.int .i64 0),(.sl .full 2 []),(.sl .full 4 []),(.int .i64 0),(.int .i64 0),(.int .i64 0),(.str []),(.sl .full 2 []),(.sl .full 5 []),(.int .i64 0),(.int .i64 0),(.str []),(.sl .full 2 []),(.sl .full 5 [])] [],none⟩,[]),(⟨(some 23),.build kR [],none⟩,[]),(xl 2 24 10,[1,2]),(xs 17 6 22,[]),(xs 18 7 23,[]),(xs 2 8 24,[])])
 (.ret))
 (.skip)))
 (.seq (.draw [(xl 2 25 3,[]),(xl 17 26 9,[]),(xc 19 27 [.s 25,.s 26],[]),(xl 2 28 3,[0]),(xl 17 29 9,[0]),(xc 20 30 [.s 28,.s 29],[]),(⟨(some 31),.cR 2 [(.s 27),(.s 30)],none⟩,[]),(xm 11 31,[])])
 (.seq (.seq (.aa [xl 3 32 4,xl 17 33 9,xc 21 34 [.s 32,.s 33]])
 (.cond (.s 34) (.aa [xm 35 11,xf 1 36 9,xo 37 36,⟨(some 38),.build [(.int .i64 0),(.int .i64 0)] [(0,1,(.c (.int .i64 7))),(1,1,(.s 37))],none⟩,⟨(some 39),.cR 2 [(.s 38)],none⟩,xa 2 40 35 39,xm 11 40])
 (.skip)))
 (.seq (.seq (.aa [xf 0 41 9,xo 42 41,xB .eql 43 42 12,xm 44 43,xg 44 (xf 2 45 4),xg 44 (xo 46 45),xg 44 (xB .leq 47 46 1),⟨(some 48),.pick (.s 44) (.s 47) (.c (.bool false)),none⟩])
 (.cond (.s 48) (.aa [xm 49 11,xf 1 50 9,xo 51 50,⟨(some 52),.build [(.int .i64 0),(.int .i64 0)] [(0,1,(.c (.int .i64 8))),(1,1,(.s 51))],none⟩,⟨(some 53),.cR 2 [(.s 52)],none⟩,xa 2 54 49 53,xm 11 54])
 (.skip)))
 (.seq (.seq (.aa [xm 55 11,xc 22 56 [.s 55],xs 2 10 56])
 (.seq (.aa [xf 0 57 10,xo 58 57,xB .neq 59 58 0])
 (.cond (.s 59) (.seq (.draw [(⟨(some 60),.build [(.int .i64 0),(.int .i64 0),(.str []),(.int .i64 0),(.sl .full 2 []),(.sl .full 4 []),(.int .i64 0),(.int .i64 0),(.int .i64 0),(.str []),(.sl .full 2 []),(.sl .full 5 []),(.int .i64 0),(.int .i64 0),(.str []),(.sl .full 2 []),(.sl .full 5 [])] [],none⟩,[]),(⟨(some 61),.build kR [],none⟩,[]),(xl 2 62 10,[1,2]),(xs 17 6 60,[]),(xs 18 7 61,[]),(xs 2 8 62,[])])
 (.ret))
 (.skip))))
 (.seq (.aa [xl 2 64 3,xl 17 65 9,xc 23 66 [.s 64,.s 65],xm 63 66,xe 67 63 0,xe 68 63 1,⟨(some 12),.alloc kR,none⟩,xs 18 12 67,xm 13 68])
 (.seq (.draw [(xl 17 69 9,[]),(xl 18 70 12,[1]),(⟨(some 71),.build [(.int .i64 0),(.int .i64 0)] [],none⟩,[]),(xs 17 6 69,[]),(xs 18 7 70,[]),(xs 2 8 71,[])])
 (.ret)))))))))
theorem fn9:aK prog 9 QR [.cell 6 true 17,.cell 7 true 18,.cell 8 true 2] 72:=⟨f9,⟨[],[],[]⟩,func9,by kernel_rfl,by kernel_rfl,by kernel_rfl,by kernel_rfl⟩
def Ow:AC:=.seq (.aa [⟨(some 2),.mv (.c (.bool false)),none⟩])
 (.seq (.aa [xm 3 0,xB .geq 4 3 1,xm 5 4,xg 5 (xm 6 0),xg 5 (xB .leq 7 6 10),⟨(some 8),.pick (.s 5) (.s 7) (.c (.bool false)),none⟩,xm 2 8])
 (.ret))
theorem afG:aK prog 13 Ow [.tmp 2] 9:=⟨f13,⟨[],[],[]⟩,func13,by kernel_rfl,by kernel_rfl,by kernel_rfl,by kernel_rfl⟩
def Ph:AC:=.seq (.aa [⟨(some 2),.box 3 (.s 0),none⟩,⟨(some 3),.box 17 (.s 1),none⟩,⟨(some 4),.mv (.c (.bool false)),none⟩])
 (.seq (.seq (.aa [xf 0 6 3,xo 7 6,xc 13 8 [.s 7]])
 (.cond (.s 8) (.seq (.aa [xl 17 9 3,xc 15 10 [.s 9],xT 11 10,xm 5 11])
 (.seq (.aa [xm 12 5,xB .gtr 13 12 1024,xm 14 13,xh 14 (xf 0 15 2),xh 14 (xo 16 15),xh 14 (xm 17 5),⟨(some 18),.dA .sub (.c (.int .i64 16383)) (.s 17),(some (14,false))⟩,xh 14 (xb .gtr 19 16 18),⟨(some 20),.pick (.s 14) (.c (.bool true)) (.s 19),none⟩])
 (.cond (.s 20) (.seq (.aa [⟨(some 4),.mv (.c (.bool true)),none⟩])
 (.ret))
 (.skip))))
 (.skip)))
 (.seq (.aa [xf 0 21 3,xo 22 21,xc 61 23 [.s 22],xm 24 23,xg 24 (xf 1 25 2),xg 24 (xo 26 25),xg 24 (xB .geq 27 26 64),⟨(some 28),.pick (.s 24) (.s 27) (.c (.bool false)),none⟩,xm 29 28,xh 29 (xf 0 30 3),xh 29 (xo 31 30),xh 29 (xB .eql 32 31 11),xh 29 (xm 33 32),xg 33 (xf 2 34 2),xg 33 (xo 35 34),xg 33 (xB .geq 36 35 16),⟨(some 37),.pick (.s 33) (.s 36) (.c (.bool false)),(some (29,false))⟩,⟨(some 38),.pick (.s 29) (.c (.bool true)) (.s 37),none⟩,xm 4 38])
 (.ret)))
theorem ago:aK prog 21 Ph [.tmp 4] 39:=⟨f21,⟨[],[],[]⟩,func21,by kernel_rfl,by kernel_rfl,by kernel_rfl,by kernel_rfl⟩
def QH:AC:=.seq (.aa [⟨(some 2),.mv (.c (.bool false)),none⟩])
 (.seq (.aa [xm 3 0,xB .geq 4 3 8,xm 5 4,xg 5 (xm 6 0),xg 5 (xB .leq 7 6 10),⟨(some 8),.pick (.s 5) (.s 7) (.c (.bool false)),none⟩,xm 2 8])
 (.ret))
theorem ahJ:aK prog 61 QH [.tmp 2] 9:=⟨f61,⟨[],[],[]⟩,func61,by kernel_rfl,by kernel_rfl,by kernel_rfl,by kernel_rfl⟩
theorem art (op:Int) (σ:ae):al prog 13 [.int .i64 op] σ fun v σ' => v = .bool (yC op)∧σ' = σ:=by
  refine afG.calls ?_;simp only[aJ,Ow,am,aR]
  by_cases h:1≤op
  · simp only[am,aD h];refine az ?_;simp[V.erase,yC,h]
  · simp only[am,aB h];refine az ?_;simp[V.erase,yC,h]
theorem Rb (op:Int) (σ:ae):al prog 61 [.int .i64 op] σ fun v σ' => v = .bool (y_ op)∧σ' = σ:=by
  refine ahJ.calls ?_;simp only[aJ,QH,am,aR]
  by_cases h:8≤op
  · simp only[am,aD h];refine az ?_;simp[V.erase,y_,h]
  · simp only[am,aB h];refine az ?_;simp[V.erase,y_,h]
def Hn:=And.intro @am <| And.intro @mY <| And.intro @cf <| And.intro @jn <| And.intro @bZ <| And.intro @fh <| And.intro @aO <| And.intro @Rl.af <| And.intro @aZ.af <| And.intro @au.af <| And.intro @bg.af <| And.intro @Word.af <| And.intro @iP <| And.intro @pJ @rL
theorem alp (r:Rm) (c:ag) {σ:ae} (lX:σ.bR 0=some fQ) (hw:16*c.wt+64≤aF):al prog 21 [.agg r.enc,.agg c.enc] σ fun v σ' => v = .bool (kX r c)∧σ' = σ:=by
  have tail:∀B:Bool,(yC c.op&&(decide (1024<((fc c).length:Int))||decide (IntKind.i64.wrap (16383 - (fc c).length)<r.bytes)))=false→B=((y_ c.op&&decide (64≤r.D'))||(decide (c.op=11)&&decide (16≤r.frames)))→B=kX r c:=fun B h e=>by
    rw[e,kX,h,yT]
  refine ago.calls ?_;simp only[aJ,Ph,am,aR,Nat.reduceAdd,Rm.af,eg,fg];refine cl (art c.op σ) ?_;cases hs:yC c.op with
  | true =>
    rw[hs,mS] at tail;simp only[am,eg];refine cl (R9 c lX hw) ?_;simp only[am];have yes:(decide (1024<((fc c).length:Int))||decide (IntKind.i64.wrap (16383 - (fc c).length)<r.bytes))=true→kX r c=true:=fun h=>by rw[kX,hs,h];rfl
    cases h1:decide (1024<((fc c).length:Int)) with
    | true =>
      simp only[am];refine az ?_;simp[V.erase,yes (by rw[h1];rfl)]
    | false =>
      cases U:decide (IntKind.i64.wrap (16383 - (fc c).length)<r.bytes) with
      | true =>
        simp only[am,Rm.af,U];refine az ?_;simp[V.erase,yes (by rw[h1,U];rfl)]
      | false =>
        have tl:=fun B=>tail B (by rw[h1,U];rfl)
        simp only[am,Rm.af,fg,U];refine cl (Rb c.op σ) ?_;simp only[am]
        repeat' (first
          | (refine jO (fun h=>?_) (fun h=>?_)<;>simp only[am,h,Rm.af,fg])
          | (refine fL (fun h=>?_) (fun h=>?_)<;>simp only[Hn,h,Nat.reduceAdd,Nat.reduceEqDiff,aE,Int.reduceNeg,cI,b7,dn,Int.reduceEq,Int.reduceLT,Int.reduceLE,Int.reduceGE,Nat.reduceLT,Int.reduceToNat,Nat.reduceMul,bP,reduceCtorEq,aA.af,Rm.af,eg,fg,cS,rX,iF,kR])
          | (refine j1 (fun h=>?_) (fun h=>?_)<;>simp only[Hn,h,Nat.reduceAdd,Nat.reduceEqDiff,aE,Int.reduceNeg,cI,b7,dn,Int.reduceEq,Int.reduceLT,Int.reduceLE,Int.reduceGE,Nat.reduceLT,Int.reduceToNat,Nat.reduceMul,bP,reduceCtorEq,aA.af,Rm.af,eg,fg,cS,rX,iF,kR])
        )
        all_goals refine az ?_
        all_goals simp only[V.erase]
        all_goals refine gm V.bool (tl _ ?_)
        all_goals clear tl tail hw lX
        all_goals simp[*]
  | false =>
    have tl:=fun B=>tail B (by rw[hs];rfl)
    simp only[am,fg];refine cl (Rb c.op σ) ?_;simp only[am]
    repeat' (first
      | (refine jO (fun h=>?_) (fun h=>?_)<;>simp only[am,h,Rm.af,fg])
      | (refine fL (fun h=>?_) (fun h=>?_)<;>simp only[Hn,h,Nat.reduceAdd,Nat.reduceEqDiff,aE,Int.reduceNeg,cI,b7,dn,Int.reduceEq,Int.reduceLT,Int.reduceLE,Int.reduceGE,Nat.reduceLT,Int.reduceToNat,Nat.reduceMul,bP,reduceCtorEq,aA.af,Rm.af,eg,fg,cS,rX,iF,kR])
      | (refine j1 (fun h=>?_) (fun h=>?_)<;>simp only[Hn,h,Nat.reduceAdd,Nat.reduceEqDiff,aE,Int.reduceNeg,cI,b7,dn,Int.reduceEq,Int.reduceLT,Int.reduceLE,Int.reduceGE,Nat.reduceLT,Int.reduceToNat,Nat.reduceMul,bP,reduceCtorEq,aA.af,Rm.af,eg,fg,cS,rX,iF,kR])
    )
    all_goals refine az ?_
    all_goals simp only[V.erase]
    all_goals refine gm V.bool (tl _ ?_)
    all_goals clear tl tail hw lX
    all_goals simp[*]
theorem Rf:bE (bV 0 0 (.sl .full 10 []) .zero (.sl .full 10 []) 0 (.sl .full 10 []) 0 0 [])=true:=za rfl rfl rfl
theorem ZX:a9 (bV 0 0 (.sl .full 10 []) .zero (.sl .full 10 []) 0 (.sl .full 10 []) 0 0 [])=jj.zero.enc:=by rw[Eb];rfl
theorem ZY:bm (bV 0 0 (.sl .full 10 []) .zero (.sl .full 10 []) 0 (.sl .full 10 []) 0 0 [])=true:=Ec rfl rfl rfl
theorem Re (x:jj):bE x.enc=true:=za rfl rfl rfl
def x7 (x:ag × jj × aA):V:=.aX [.agg x.1.enc,.agg x.2.1.enc,.agg x.2.2.enc]
structure Zt (c:ag):Prop where
  n:c.names.length≤100000
  p:c.aV.length≤100000
  l:c.left.bS≤100000
  r:c.right.bS≤100000
  wl:c.left.wt≤aF
  wr:c.right.wt≤aF
  w:16*c.wt+64≤aF
theorem Lm {t:List UInt8} (ht:t.length≤3000):Zt (cO t).1:=by
  have hb:=apW t;generalize (cO t).1=c at hb;have h1:=hb.ns;have U:=hb.ps;have h3:=hb.l;have h4:=hb.r;have h5:=hb.nm;have h6:=hb.pt;have h7:=(LK c.names).2;have h8:=Et c.left;have h9:=Et c.right;have hbig:aF=268435456:=rfl;have hcw:c.wt=c.name.text.length+dL c.names+jc c.aV+c.left.wt+c.right.wt:=rfl;exact⟨by omega,by omega,by omega,by omega,by omega,by omega,by omega⟩
theorem FQ (s:au) (r:Rm) (t:List UInt8) {σ:ae} (hs:s.Ak) (hg:TZ σ) (lX:σ.bR 0=some fQ) (ht:t.length≤3000) :
    al prog 9 [.agg s.enc,.agg r.enc,.str t] σ fun v σ' => v=x7 (jW s r t)∧σ' = σ:=by
  have hbig:aF=268435456:=rfl;have bM:=Lm ht;have hm:=Vs t;have eR:=@KU s r t;have g_:=@KV s r t;have xV:=@Gb s r t;refine fn9.calls ?_;simp only[aJ,QR,am,aR,Nat.reduceAdd,au.af,Rm.af,kR];refine cl (acF t lX (by omega) (by rw[yJ];omega)) ?_;generalize cO t=R at bM eR g_ xV;generalize jW s r t=X at eR g_ xV;obtain⟨c,k,a⟩:=R;simp only at bM eR g_ xV;obtain⟨Y,hY⟩:∃Y:jj,Y=(if jy s c=true then lU s c else .zero):=⟨_,rfl⟩;rw[←hY] at xV;obtain⟨A,hA⟩:∃A:List V,A=Y.enc:=⟨_,rfl⟩;have a1:A.length=18:=by rw[hA];exact qz
  have a2:takeN 18 A=some A:=by rw[hA];exact H7
  have a3:bE A=true:=by rw[hA];exact Re Y
  have a4:bm A=true:=by rw[hA];exact jj.cN
  have a5:over (bV 0 0 (.sl .full 10 []) .zero (.sl .full 10 []) 0 (.sl .full 10 []) 0 0 []) A=A:=by rw[hA];exact qZ (by rw[qz];exact qz.symm)
  have a6:a9 A=Y.enc:=by rw[hA];exact jj.cM
  have hT:wN s c = .aX [.agg A,.bool (jy s c)]:=by rw[wN,hA,hY]
  have cA:=aeL s c (σ:=σ) hs.1 hg lX (by have:=bM.n;omega) (by have:=bM.p;omega) bM.l bM.r bM.wl bM.wr;rw[hT] at cA;have bad:∀(t:List V) (lo:List (List V)) (f:aA),X=(.zero,.zero,f)→nU (fun v σ' => v=x7 X∧σ' = σ) ⟨t,lo,σ⟩ (.aX [.agg gh,.agg (bV 0 0 (.sl .full 10 []) .zero (.sl .full 10 []) 0 (.sl .full 10 []) 0 0 []),.agg f.enc]):=fun t lo f h=>by
    refine aG (by simp only[V.cc,bm,ZY];rfl) (ae.aW _) ⟨?_,rfl⟩;rw[h,x7];simp only[V.erase,a9,ZX];rfl
  simp only[am,Nat.reduceAdd,eg,IV]
  by_cases hk:k=0
  case neg =>
    simp only[am,Nat.reduceAdd,iF,aB hk,Rf];exact bad _ _ ⟨k,a⟩ (eR hk)
  simp only[am,au.af,eg,aD hk];refine br.intro (aqN s c hs hg bM.n bM.p) ?_;simp only[am,au.af,eg];refine br.intro (SP s c hs.1 hg bM.l bM.r bM.wl bM.wr) ?_;simp only[am,aA.af,au.af,Rm.af,eg];refine cl (alp r c lX bM.w) ?_;have l9:(∃L,kz s r c=L∧kX r c=true∧c.op≠12∧L=[ot s c,jo s c]++[⟨7,c.pos⟩])∨(∃L,kz s r c=L∧kX r c=false∧c.op=12∧r.frames≤1∧L=[ot s c,jo s c]++[⟨8,c.pos⟩]) ∨
      (∃L,kz s r c=L∧kX r c=false∧c.op=12∧¬r.frames≤1∧L=[ot s c,jo s c])∨(∃L,kz s r c=L∧kX r c=false∧c.op≠12∧L=[ot s c,jo s c]):=by
    cases hl:kX r c with
    | true =>
      have hp:=alq hl;exact .inl ⟨_,rfl,rfl,hp,by simp[kz,hl,dj,hp]⟩
    | false =>
      by_cases tH:c.op=12
      · by_cases hf:r.frames≤1
        · exact .inr (.inl ⟨_,rfl,rfl,tH,hf,by simp[kz,hl,dj,tH,hf]⟩)
        · exact .inr (.inr (.inl ⟨_,rfl,rfl,tH,hf,by simp[kz,hl,dj,hf]⟩))
      · exact .inr (.inr (.inr ⟨_,rfl,rfl,tH,by simp[kz,hl,dj,tH]⟩))
  rcases l9 with ⟨L,hL,e1,e2,e3⟩ | ⟨L,hL,e1,e2,e4,e3⟩ | ⟨L,hL,e1,e2,e4,e3⟩ | ⟨L,hL,e1,e2,e3⟩
  case' inl =>
    simp only[am,Nat.reduceAdd,fg,e1];refine H6 (by simp[aF]) ?_;simp only[am,fg,aB e2]
  case' inr.inl =>
    simp only[am,Nat.reduceAdd,Rm.af,fg,e1,aD e2,aD e4];refine H6 (by simp[aF]) ?_;simp only[am]
  case' inr.inr.inl =>
    simp only[am,Rm.af,fg,e1,aD e2,aB e4]
  case' inr.inr.inr =>
    simp only[am,fg,e1,aB e2]
  all_goals
    rw[hL] at g_ xV;refine cl (al.dK (as' := [.sl .no 2 (L.map aA.enc)]) (vN L _ (by rw[e3];simp)) ⟨by rw[e3];exact cQ.no,trivial⟩ bG.rfl) ?_;generalize fz L=f at g_ xV;simp only[am,aA.af]
    by_cases hf:f.cls=0
    · simp only[am,au.af,eg,aD hf];refine cl cA ?_;simp only[am,Nat.reduceAdd,eg,iF,a1,a2,a3,a5];refine aG (by simp only[V.cc,bm,a4];rfl) (ae.aW _) ⟨?_,rfl⟩;rw[xV hk hf,x7];simp only[V.erase,a9,a6];rfl
    · simp only[am,Nat.reduceAdd,aA.af,iF,aB hf,Rf];exact bad _ _ f (g_ hk hf)
def Qo:AC:=.seq (.aa [⟨(some 2),.ff 1 (.s 0),none⟩,⟨(some 3),.ff 1 (.s 1),none⟩,⟨(some 4),.mv (.c (.bool false)),none⟩])
 (.seq (.aa [xo 5 2,xL 6 5,xo 7 3,xL 8 7,xb .eql 9 6 8,xm 10 9,xg 10 (xo 11 2),xg 10 (xL 12 11),⟨(some 13),.ix (.func 94) [] [(.s 2),(.s 3)],(some (10,true))⟩,xg 10 (xc 93 14 [.c (.int .i64 0),.s 12,.s 13]),xg 10 (xB .lss 15 14 0),⟨(some 16),.pick (.s 10) (.s 15) (.c (.bool false)),none⟩,xm 4 16])
 (.ret))
theorem ahq:aK prog 41 Qo [.tmp 4] 17:=⟨f41,⟨[2,3],[],[]⟩,func41,by kernel_rfl,by kernel_rfl,by kernel_rfl,by kernel_rfl⟩
def QW:AC:=.seq (.aa [⟨(some 4),.mv (.c (.bool false)),none⟩])
 (.seq (.draw [(xo 5 1,[]),(xm 6 0,[]),(xA 1 7 5 6,[]),(xo 8 7,[]),(xo 9 2,[]),(xm 10 0,[]),(xA 1 11 9 10,[]),(xo 12 11,[]),(⟨(some 13),.iG .neq (.s 8) (.s 12),none⟩,[]),(xm 4 13,[])])
 (.ret))
theorem ahU:aK prog 94 QW [.tmp 4] 14:=⟨f94,⟨[],[],[]⟩,func94,by kernel_rfl,by kernel_rfl,by kernel_rfl,by kernel_rfl⟩
theorem ae8 {a b:List (List UInt8)} (h:a.length=b.length):decide (cF ((List.range a.length).find? fun i=>decide (a.getD i []≠b.getD i []))<0)=decide (a=b):=by
  have e:∀o:Option Nat,cF o<0↔o=none:=fun o=>by
    cases o with
    | none=>simp[cF]
    | some k=>simp only[cF,reduceCtorEq,iff_false];omega
  rw[oT,e,DJ];constructor
  · intro h';apply HJ h;intro i h1 U
    have:=h' i (by simpa using h1)
    simpa [h1,U] using this
  · rintro rfl k _;simp
theorem am4 {a b:List (List UInt8)} {i r q:Nat} {σ:ae} (hi:i<a.length) (tL:a.length=b.length) (hr:σ.box r=some [.sl .no 1 (fi a)]) (hq:σ.box q=some [.sl .no 1 (fi b)]) :
    al prog 94 [.int .i64 (i:Nat),.ptr (.out r) 0,.ptr (.out q) 0] σ fun v σ' => v = .bool (decide (a.getD i []≠b.getD i []))∧σ' = σ:=by
  refine ahU.calls ?_;simp only[aJ,QW,am,aR,Nat.reduceAdd];simp only[am,hr];refine bD (by omega) (EB (cw hi)) ?_;simp only[am,hq];refine bD (by omega) (EB (cw (show i<b.length by omega))) ?_;simp only[am];have e1:a.getD i []=a[i]:=by simp[hi]
  have e2:b.getD i []=b[i]:=by simp[show i<b.length by omega]
  rw[e1,e2];refine az ?_;simp[V.erase]
theorem am5 (a b:List (List UInt8)) (σ:ae) (ha:a.length≤100000):al prog 41 [.sl .no 1 (fi a),.sl .no 1 (fi b)] σ fun v σ' => v = .bool (decide (a=b))∧σ' = σ:=by
  refine ahq.calls ?_;simp only[aJ,Qo,am,aR,Nat.reduceAdd];refine iw fun r hr=>?_
  simp only[am];refine iw fun q hq=>?_
  have hrq:r≠q:=by rintro rfl;rw[ae.cX] at hq;simp at hq
  have b1:((σ.set r [.sl .no 1 (fi a)]).set q [.sl .no 1 (fi b)]).box r=some [.sl .no 1 (fi a)]:=by rw[ae.dc _ _ hrq,ae.cX]
  have b2:((σ.set r [.sl .no 1 (fi a)]).set q [.sl .no 1 (fi b)]).box q=some [.sl .no 1 (fi b)]:=ae.cX _ _ _;simp only[am,qD,b1];have lz:σ.sub ((σ.set r [.sl .no 1 (fi a)]).set q [.sl .no 1 (fi b)]):=by
    have h1:=fU (cs:=[.sl .no 1 (fi a)]) hr;have U:=fU (cs:=[.sl .no 1 (fi b)]) hq;exact ae.yE h1 U
  by_cases hl:a.length=b.length
  · simp only[am,qD,aD (show ((a.length:Nat):Int)=(b.length:Nat) by omega),b1];refine(LG a.length ha _ _ rfl (fun i=>decide (a.getD i []≠b.getD i [])) _ fun i hi=>am4 hi hl b1 b2).mono ?_;rintro v _ ⟨rfl,rfl⟩;simp only[am,ae8 hl];refine aG rfl lz ⟨?_,rfl⟩;simp[V.erase]
  · simp only[am,aB (show ¬((a.length:Nat):Int)=(b.length:Nat) by omega)];refine aG rfl lz ⟨?_,rfl⟩
    have:¬a=b:=fun e=>hl (by rw[e])
    simp[V.erase,this]
def OJ:AC:=.seq (.aa [⟨(some 2),.box 17 (.s 0),none⟩,⟨(some 3),.box 17 (.s 1),none⟩,⟨(some 4),.mv (.c (.bool false)),none⟩])
 (.seq (.draw [(xf 0 5 2,[]),(xo 6 5,[]),(xf 0 7 3,[]),(xo 8 7,[]),(xb .eql 9 6 8,[]),(xm 10 9,[]),(xg 10 (xf 2 11 2),[]),(xg 10 (xf 0 12 11),[]),(xg 10 (xo 13 12),[]),(xg 10 (xf 2 14 3),[]),(xg 10 (xf 0 15 14),[]),(xg 10 (xo 16 15),[]),(⟨(some 17),.iG .eql (.s 13) (.s 16),(some (10,true))⟩,[]),(⟨(some 18),.pick (.s 10) (.s 17) (.c (.bool false)),none⟩,[]),(xm 19 18,[]),(xg 19 (xf 4 20 2),[]),(xg 19 (xo 21 20),[]),(xg 19 (xc 37 22 [.s 21]),[]),(xg 19 (xf 4 23 3),[]),(xg 19 (xo 24 23),[0]),(xg 19 (xc 37 25 [.s 24]),[]),(xg 19 (xc 41 26 [.s 22,.s 25]),[]),(⟨(some 27),.pick (.s 19) (.s 26) (.c (.bool false)),none⟩,[]),(xm 28 27,[]),(xg 28 (xf 5 29 2),[]),(xg 28 (xo 30 29),[]),(xg 28 (xf 5 31 3),[]),(xg 28 (xo 32 31),[]),(xg 28 (xc 42 33 [.s 30,.s 32]),[]),(⟨(some 34),.pick (.s 28) (.s 33) (.c (.bool false)),none⟩,[]),(xm 35 34,[]),(xg 35 (xf 7 36 2),[]),(xg 35 (xl 5 37 36),[]),(xg 35 (xf 7 38 3),[]),(xg 35 (xl 5 39 38),[]),(xg 35 (xc 43 40 [.s 37,.s 39]),[]),(⟨(some 41),.pick (.s 35) (.s 40) (.c (.bool false)),none⟩,[]),(xm 42 41,[]),(xg 42 (xf 12 43 2),[]),(xg 42 (xl 5 44 43),[]),(xg 42 (xf 12 45 3),[]),(xg 42 (xl 5 46 45),[]),(xg 42 (xc 43 47 [.s 44,.s 46]),[]),(⟨(some 48),.pick (.s 42) (.s 47) (.c (.bool false)),none⟩,[]),(xm 4 48,[])])
 (.ret))
theorem afS:aK prog 16 OJ [.tmp 4] 49:=⟨f16,⟨[],[],[]⟩,func16,by kernel_rfl,by kernel_rfl,by kernel_rfl,by kernel_rfl⟩
def Qp:AC:=.seq (.aa [⟨(some 4),.mv (.c (.bool false)),none⟩])
 (.seq (.seq (.aa [xm 6 0,xL 7 6,xm 8 1,xL 9 8,xb .neq 10 7 9])
 (.cond (.s 10) (.seq (.aa [⟨(some 4),.mv (.c (.bool false)),none⟩])
 (.ret))
 (.skip)))
 (.seq (.seq (.aa [xm 11 0,xL 12 11,xi 13 0])
 (.block 0 (.loop (.seq (.aa [xb .lss 14 13 12])
 (.seq (.cond (.s 14) (.skip)
 (.exit 0))
 (.seq (.block 1 (.seq (.aa [xm 15 13,xm 5 15])
 (.seq (.draw [(xm 16 0,[]),(xm 17 5,[]),(xA 4 18 16 17,[]),(⟨(some 19),.fk 2 2 (.s 18) (.c (.int .i64 0)),none⟩,[]),(xf 0 20 19,[]),(xo 21 20,[]),(xm 22 1,[]),(xm 23 5,[]),(xA 4 24 22 23,[]),(⟨(some 25),.fk 2 2 (.s 24) (.c (.int .i64 0)),none⟩,[]),(xf 0 26 25,[]),(xo 27 26,[]),(⟨(some 28),.iG .neq (.s 21) (.s 27),none⟩,[]),(xm 29 28,[]),(xh 29 (xm 30 0),[]),(xh 29 (xm 31 5),[]),(xh 29 (xA 4 32 30 31),[]),(⟨(some 33),.fk 2 2 (.s 32) (.c (.int .i64 1)),(some (29,false))⟩,[]),(xh 29 (xf 0 34 33),[]),(xh 29 (xo 35 34),[]),(xh 29 (xm 36 1),[]),(xh 29 (xm 37 5),[]),(xh 29 (xA 4 38 36 37),[]),(⟨(some 39),.fk 2 2 (.s 38) (.c (.int .i64 1)),(some (29,false))⟩,[]),(xh 29 (xf 0 40 39),[]),(xh 29 (xo 41 40),[]),(⟨(some 42),.iG .neq (.s 35) (.s 41),(some (29,false))⟩,[]),(⟨(some 43),.pick (.s 29) (.c (.bool true)) (.s 42),none⟩,[])])
 (.cond (.s 43) (.seq (.aa [⟨(some 4),.mv (.c (.bool false)),none⟩])
 (.ret))
 (.skip)))))
 (.aa [xB .add 44 13 1,xm 13 44])))))))
 (.seq (.aa [⟨(some 4),.mv (.c (.bool true)),none⟩])
 (.ret))))
theorem ahr:aK prog 42 Qp [.tmp 4] 45:=⟨f42,⟨[],[],[]⟩,func42,by kernel_rfl,by kernel_rfl,by kernel_rfl,by kernel_rfl⟩
def Cv (a b:List (Word × Word)) (σ:ae) (i:Nat):St :=
  ⟨[.sl .no 4 (a.map dT),.sl .no 4 (b.map dT)]++List.replicate 10 .any++[.int .i64 a.length,.int .i64 (i:Nat)]++List.replicate 31 .any,[],σ⟩
theorem aqG (a b:List (Word × Word)) (σ:ae) (ha:a.length+1≤aF):al prog 42 [.sl .no 4 (a.map dT),.sl .no 4 (b.map dT)] σ fun v σ' => v = .bool (eb a b)∧σ' = σ:=by
  simp only[aF] at ha;refine ahr.calls ?_;simp only[aJ,Qp,am,aR,Nat.reduceAdd,aE]
  by_cases hl:a.length=b.length
  case' neg =>
    have:eb a b=false:=by cases hs:eb a b with
      | false=>rfl
      | true=>exact absurd (XF hs) hl
    simp only[am,aB (show ¬((a.length:Nat):Int)=(b.length:Nat) by omega)];refine az ?_;simp[V.erase,this]
  simp only[am,aE,aE,aD (show ((a.length:Nat):Int)=(b.length:Nat) by omega)];refine j6 (fun p:{i:Nat // i≤a.length∧eb (a.take i) (b.take i)=true}=>Cv a b σ p.1) (fun p=>a.length - p.1) ?_ ?_
  · refine ba.enter ⟨0,by simp,by simp[eb]⟩ ?_ cj.rfl bG.rfl;simp[Cv,List.replicate,am]
  rintro⟨i,hi,hs⟩;simp only[Cv,List.replicate,am]
  by_cases aj:i<a.length
  · obtain⟨eQ,g_⟩:=XE aj (by omega) hl hs;have Ub:i<b.length:=by omega
    simp only[am,aD (show (i:Int)<a.length by omega)];refine bD (by omega) (Ar (cw aj)) ?_;simp only[am,cf];refine FJ (by omega) (by omega) ?_;simp only[am,Int.reduceToNat,Nat.reduceMul,dT];refine bD (by omega) (Ar (cw Ub)) ?_;simp only[am,cf];refine FJ (by omega) (by omega) ?_;simp only[am,Int.reduceToNat,Nat.reduceMul,dT]
    by_cases e1:a[i].1.text=b[i].1.text
    · simp only[am,bZ,e1];refine bD (by omega) (Ar (cw aj)) ?_;simp only[am,cf];refine FJ (by omega) (by omega) ?_;simp only[am,Int.reduceToNat,Nat.reduceMul,dT];refine bD (by omega) (Ar (cw Ub)) ?_;simp only[am,cf];refine FJ (by omega) (by omega) ?_;simp only[am,Int.reduceToNat,Nat.reduceMul,dT]
      by_cases e2:a[i].2.text=b[i].2.text
      · simp only[am,bZ,e2];rw[wrap_i64 (by omega) (by omega)];exact ba.again (I:=fun p:{i:Nat // i≤a.length∧eb (a.take i) (b.take i)=true}=>Cv a b σ p.1) (μ:=fun p=>a.length - p.1) ⟨i+1,aj,by rw[eQ];simp[e1,e2]⟩ (by simp;omega) (by simp[Cv,am,List.replicate]) cj.rfl bG.rfl
      · simp only[am,aB e2];refine az ?_;simp[V.erase,g_ (by simp[e2])]
    · simp only[am,cf,aB e1];refine az ?_;simp[V.erase,g_ (by simp[e1])]
  · have:i=a.length:=by omega
    subst this;rw[dW,hl,dW] at hs;simp only[am,aB (show ¬(a.length:Int)<a.length by omega)];refine az ?_;simp[V.erase,hs]
theorem acH (a b:ag) (σ:ae) (h1:a.names.length≤100000) (U:b.names.length≤100000) (h3:a.aV.length+1≤aF) (h4:a.left.wt≤aF) (h5:a.right.wt≤aF) :
    al prog 16 [.agg a.enc,.agg b.enc] σ fun v σ' => v = .bool (a.b9 b)∧σ' = σ:=by
  refine afS.calls ?_;simp only[aJ,OJ,am,aR,Nat.reduceAdd,eg,fg];unfold ag.b9
  by_cases k1:a.op=b.op
  case' neg =>
    simp only[am,aB k1];refine az ?_;simp[V.erase]
  by_cases k2:a.name.text=b.name.text
  case' neg =>
    simp only[am,bZ,cS,k1,aB k2];refine az ?_;simp[V.erase]
  simp only[am,bZ,cS,k1,k2];refine br.intro (AF a.names σ (by simp only[aF];omega)) ?_;simp only[am,cS];refine br.intro (AF b.names σ (by simp only[aF];omega)) ?_;simp only[am];refine br.intro (am5 (a.names.map Word.text) (b.names.map Word.text) σ (by rw[aE];omega)) ?_;rw[←Ay];cases q1:c9 a.names b.names
  · simp only[am,cS];refine az ?_;simp[V.erase]
  simp only[am,cS];refine br.intro (aqG a.aV b.aV σ h3) ?_;cases q2:eb a.aV b.aV
  · simp only[am,cS];refine az ?_;simp[V.erase]
  simp only[am,Nd.af,cS];refine br.intro (Ma _ a.left b.left σ (bt _) h4) ?_;cases q3:a.left.b9 b.left
  · simp only[am,cS];refine az ?_;simp[V.erase]
  simp only[am,Nd.af,cS];refine br.intro (Ma _ a.right b.right σ (bt _) h5) ?_;simp only[am,cS];refine az ?_;simp[V.erase]
def QO:AC:=.seq (.aa [⟨(some 0),.mv (.c (.bool false)),none⟩])
 (.seq (.aa [⟨(some 8),.build [(.sl .full 3 []),(.sl .full 3 [])] [],none⟩,⟨(some 9),.build [(.int .i64 0),(.int .i64 0),(.int .i64 0)] [(2,1,(.c (.int .i64 1)))],none⟩,xc 9 10 [.s 8,.s 9,.c (.str [112,111,112])],xm 7 10,xe 11 7 0,xe 12 7 1,xe 13 7 2,⟨(some 1),.alloc [(.int .i64 0),(.int .i64 0),(.str []),(.int .i64 0),(.sl .full 2 []),(.sl .full 4 []),(.int .i64 0),(.int .i64 0),(.int .i64 0),(.str []),(.sl .full 2 []),(.sl .full 5 []),(.int .i64 0),(.int .i64 0),(.str []),(.sl .full 2 []),(.sl .full 5 [])],none⟩,⟨(some 2),.alloc kR,none⟩,⟨(some 3),.alloc [(.int .i64 0),(.int .i64 0)],none⟩,xs 17 1 11,xs 18 2 12,xs 2 3 13])
 (.seq (.aa [⟨(some 15),.build [(.sl .full 3 []),(.sl .full 3 [])] [],none⟩,⟨(some 16),.build [(.int .i64 0),(.int .i64 0),(.int .i64 0)] [(2,1,(.c (.int .i64 1)))],none⟩,xc 9 17 [.s 15,.s 16,.c (.str [32,112,117,115,104])],xm 14 17,xe 18 14 0,xe 19 14 1,xe 20 14 2,⟨(some 4),.alloc [(.int .i64 0),(.int .i64 0),(.str []),(.int .i64 0),(.sl .full 2 []),(.sl .full 4 []),(.int .i64 0),(.int .i64 0),(.int .i64 0),(.str []),(.sl .full 2 []),(.sl .full 5 []),(.int .i64 0),(.int .i64 0),(.str []),(.sl .full 2 []),(.sl .full 5 [])],none⟩,⟨(some 5),.alloc kR,none⟩,⟨(some 6),.alloc [(.int .i64 0),(.int .i64 0)],none⟩,xs 17 4 18,xs 18 5 19,xs 2 6 20])
 (.seq (.aa [xl 2 21 3,⟨(some 22),.build [(.int .i64 0),(.int .i64 0)] [(0,1,(.c (.int .i64 8)))],none⟩,⟨(some 23),.kS false [1,1] (.s 21) (.s 22),none⟩,xm 24 23,xg 24 (xl 2 25 6),⟨(some 26),.build [(.int .i64 0),(.int .i64 0)] [],(some (24,true))⟩,⟨(some 27),.kS false [1,1] (.s 25) (.s 26),(some (24,true))⟩,⟨(some 28),.pick (.s 24) (.s 27) (.c (.bool false)),none⟩,xm 29 28,xg 29 (xf 0 30 4),xg 29 (xo 31 30),xg 29 (xB .eql 32 31 11),⟨(some 33),.pick (.s 29) (.s 32) (.c (.bool false)),none⟩,xm 34 33,xg 34 (xf 1 35 4),xg 34 (xo 36 35),xg 34 (xB .eql 37 36 1),⟨(some 38),.pick (.s 34) (.s 37) (.c (.bool false)),none⟩,xm 0 38])
 (.ret))))
theorem fn8:aK prog 8 QO [.tmp 0] 39:=⟨f8,⟨[],[],[]⟩,func8,by kernel_rfl,by kernel_rfl,by kernel_rfl,by kernel_rfl⟩
structure Zf (A:List V):Prop where
  len:A.length=18
  tk:takeN 18 A=some A
  one:bE A=true
  cc:bm A=true
  ov:over (bV 0 0 (.sl .full 10 []) .zero (.sl .full 10 []) 0 (.sl .full 10 []) 0 0 []) A=A
theorem Ea (x:jj):Zf x.enc:=⟨qz,H7,Re x,jj.cN,qZ (by rw[qz];exact qz.symm)⟩
theorem EM {f:aA} {x y:Int}:eP [1,1] f.enc [.int .i64 x,.int .i64 y]=some (decide (f=⟨x,y⟩)):=aA.nJ (g:=⟨x,y⟩)
def pB:au:=⟨[],[]⟩
def v7:Rm:=⟨0,0,1⟩
theorem aeB:(jW pB v7 [112,111,112]).2.2=⟨8,0⟩:=by decide +kernel
theorem aeC:(jW pB v7 [32,112,117,115,104]).2.2=⟨0,0⟩∧(jW pB v7 [32,112,117,115,104]).1.op=11∧(jW pB v7 [32,112,117,115,104]).1.pos=1:=by decide +kernel
theorem ZH {σ:ae} (hg:TZ σ) (lX:σ.bR 0=some fQ):al prog 8 [] σ fun v σ' => v = .bool true∧σ' = σ:=by
  have h0:pB.Ak:=⟨⟨by simp[pB],by simp[pB],by simp[pB]⟩,by simp[pB]⟩;have c1:=FQ pB v7 [112,111,112] h0 hg lX (by simp);have c2:=FQ pB v7 [32,112,117,115,104] h0 hg lX (by simp);have e1:=aeB;have e2:=aeC;generalize jW pB v7 [112,111,112]=X at c1 e1;generalize jW pB v7 [32,112,117,115,104]=Z at c2 e2;obtain⟨c,x,f⟩:=X;obtain⟨d,z,g⟩:=Z;simp only[x7] at c1 c2 e1 e2;obtain⟨e2,e3,e4⟩:=e2;subst e1;subst e2;obtain⟨a1,a2,a3,a4,a5⟩:=Ea x;obtain⟨b1,b2,b3,b4,b5⟩:=Ea z;generalize x.enc=A at c1 a1 a2 a3 a4 a5;generalize z.enc=B at c2 b1 b2 b3 b4 b5;refine fn8.calls ?_;simp only[aJ,QO,am,aR,kR];refine cl (al.dK c1 ⟨cQ.erase (v:=.agg [.sl .full 3 [],.sl .full 3 []]),cQ.rfl,cQ.rfl,trivial⟩ bG.rfl) ?_;simp only[am,Nat.reduceAdd,aA.af,eg,iF,a1,a3,a5];refine cl (al.dK c2 ⟨cQ.erase (v:=.agg [.sl .full 3 [],.sl .full 3 []]),cQ.rfl,cQ.rfl,trivial⟩ bG.rfl) ?_;simp only[am,Nat.reduceAdd,bZ,aA.af,eg,fg,iF,b1,b3,b5,EM,e3,e4];refine az ?_;simp[V.erase]
theorem aaK {s:au} (h:wO s=false):s.Ak:=by
  refine⟨aaJ h,fun l hl=>?_⟩;simp only[wO,u4,yU,HD,zi,Ng] at h
  have:=((h.1.2 l hl).1).1
  omega
end Go.Proofs.Tryz
namespace Go.Am
open Go.ChangeShapes Go.WideShapes Go.ChangeAt Go.RowKit
structure mT {H:Type} (B:DataW H→Nat) (BA:List (DataW H)→Nat):Prop where
  str:∀b,B (.lit (.string b))=b.length+1
  int:∀k n,B (.lit (.int k n))=1
  bool:∀b,B (.lit (.bool b))=1
  nil:B .nil=1
  slice:∀e s,B (.slice e s)=BA e+BA s+1
  agg:∀p,B (.agg p)=BA p+1
  no:BA []=0
  cons:∀d r,BA (d::r)=B d+BA r
def oU (W:World):Env:=⟨W,fun _=>.const,fun _=>none,fun _=>none⟩
section
variable {H:Type} {enc:TypeId × Value→H} {P:Program} {W:World} {sp:Nat→Bool} {B:DataW H→Nat} {BA:List (DataW H)→Nat}
theorem apR {t:TypeId} {k:IntKind} {n:Nat} {cs:List Value} {x:DataW H × List MemPlace} (ht:P.underlying t=some (.int k)) (hB:mT B BA) (h:DataW.trod enc P W 0 sp true n t cs=some x) :
    ∃i:Int,RL (oU W) [.int k i] cs∧(∀v∈cs,v.oneCell' = true)∧B x.1=1∧(Lit.int k i).wf=true:=by
  obtain⟨i,rfl,rfl,hw⟩:=DataW.trod_int ht h;exact⟨i,by simp[RL,R],by simp[Value.oneCell'],hB.int _ _,hw⟩
theorem apQ {t:TypeId} {n:Nat} {cs:List Value} {x:DataW H × List MemPlace} (ht:P.underlying t=some .bool) (hB:mT B BA) (h:DataW.trod enc P W 0 sp true n t cs=some x) :
    ∃i:Bool,RL (oU W) [.bool i] cs∧(∀v∈cs,v.oneCell' = true)∧B x.1=1:=by
  obtain⟨i,rfl,rfl⟩:=DataW.trod_bool ht h;exact⟨i,by simp[RL,R],by simp[Value.oneCell'],hB.bool _⟩
theorem apT {t:TypeId} {n:Nat} {cs:List Value} {x:DataW H × List MemPlace} (ht:P.underlying t=some .string) (hB:mT B BA) (h:DataW.trod enc P W 0 sp true n t cs=some x) :
    ∃s:List UInt8,RL (oU W) [.str s] cs∧(∀v∈cs,v.oneCell' = true)∧s.length+1=B x.1:=by
  obtain⟨s,rfl,rfl,_⟩:=DataW.trod_string ht h;exact⟨s.data.toList,by simp[RL,R],by simp[Value.oneCell'],(hB.str _).symm⟩
theorem W3 {α:Type} (ea:α→List V) (sz:α→Nat) {e:TypeId} {k n:Nat} (hB:mT B BA) (hk:P.cellsOf e=k) (hlen:∀y,(ea y).length=k)
    (kl:∀cs x,DataW.trod enc P W 0 sp true n e cs=some x→∃y:α,RL (oU W) (ea y) cs∧(∀v∈cs,v.oneCell' = true)∧sz y≤B x.1) {b o:Nat} :
    ∀(r8:List (DataW H × List MemPlace)) (i:Nat),(∀j,j<r8.length→(W.cells? 0 (Addr.add ⟨b,o,none⟩ ((i+j)*k)) k).bind (DataW.trod enc P W 0 sp true n e)=r8[j]?) →
      ∃l:List α,l.length=r8.length∧ek (oU W).nl k (l.map ea) b (o+i*k)∧(l.map sz).sum≤BA (r8.map (·.1))
  | [],i,_=>⟨[],rfl,by simp[ek],by simp⟩
  | x :: r8, i, h => by
    obtain⟨l,h1,U,h3⟩:=W3 ea sz hB hk hlen kl r8 (i+1) fun j hj=>by
      have:=h (j+1) (by simp;omega)
      rw[show i+(j+1)=i+1+j by omega] at this;simpa using this
    have h0:=h 0 (by simp);simp only[rL,DL] at h0;obtain⟨cs,hc,hr⟩:=gl.1 h0;obtain⟨y,k1,k2,k3⟩:=kl cs x hr;obtain⟨_,hl,pU⟩:=World.cells?_some hc;refine⟨y::l,by simp[h1],?_,?_⟩
    · simp only[bC,ek];refine⟨hlen y,y4 k1 k2 (fun j v hv=>?_) (fun _ _=>trivial),by rw[show o+i*k+k=o+(i+1)*k by rw[gP];omega];exact U⟩;have hj:j<k:=by have:=(dD.1 hv).1;omega
      have:=pU j hj
      rw[kb,kb] at this;show W.cell? _=_;rw[this,hv]
    · simp only[bC,mr,hB.cons];omega
theorem apS {α:Type} (ea:α→List V) (sz:α→Nat) {t e:TypeId} {k fuel:Nat} (hB:mT B BA) (ht:P.underlying t=some (.slice e)) (hk:P.cellsOf e=k) (gT:0<k) (hlen:∀y,(ea y).length=k)
    (kl:∀n,n<fuel→∀cs x,DataW.trod enc P W 0 sp true n e cs=some x→∃y:α,RL (oU W) (ea y) cs∧(∀v∈cs,v.oneCell' = true)∧sz y≤B x.1)
    {cs:List Value} {x:DataW H × List MemPlace} (h:DataW.trod enc P W 0 sp true fuel t cs=some x) :
    ∃l:List α,RL (oU W) [.sl .no k (l.map ea)] cs∧(∀v∈cs,v.oneCell' = true)∧(l.map sz).sum+1≤B x.1:=by
  rcases DataW.trod_slice ht h with ⟨rfl,rfl⟩ | ⟨a,len,cap,elems,rest,n,rfl,rfl,rfl,_,hle,_,hl,T5,_,_⟩
  · refine⟨[],?_,by simp[Value.oneCell'],by simp[hB.nil]⟩;simp only[RL,R,dp,fO];exact⟨none,0,rfl,by simp,by simp,trivial⟩
  · have ha:elems=[]∨∃b o,a=⟨b,o,none⟩:=by
      cases elems with
      | nil=>exact .inl rfl
      | cons y ys =>
        right;have h0:=T5 0 (by rw[←hl];simp);simp only[DL] at h0;obtain⟨cs',hc,_⟩:=gl.1 h0;obtain⟨_,fH,pU⟩:=World.cells?_some hc;have h1:=pU 0 (by rw[hk];exact gT);have U:cs'[0]?=some (cs'[0]'(by rw[fH,hk];exact gT)):=cw _;rw[U] at h1;obtain⟨b,o,s⟩:=a;refine⟨b,o,?_⟩;simp only[World.cell?] at h1;cases s with
        | none=>rfl
        | some s =>
          split at h1
          · simp[Addr.add] at h1
          · simp at h1
    rcases ha with rfl | ⟨b,o,rfl⟩
    · refine⟨[],?_,by simp[Value.oneCell'],by simp[hB.slice]⟩;simp only[dv] at hl;subst hl;simp only[RL,R,dp,fO];exact⟨some a,cap,rfl,by simp,by simp,trivial⟩
    · obtain⟨l,h1,U,h3⟩:=W3 (B:=B) (BA:=BA) (sp:=sp) (enc:=enc) (P:=P) (W:=W) (n:=n) ea sz hB hk hlen (kl n (HT n)) elems 0 (fun j hj=>by
        have:=T5 j (by omega)
        rw[hk] at this;rw[gQ];exact this)
      refine⟨l,?_,by simp[Value.oneCell'],?_⟩
      · simp only[RL,R,aE,fO];exact⟨some ⟨b,o,none⟩,cap,by rw[h1,hl],by omega,.inr ⟨b,o,rfl,by simpa using U⟩,trivial⟩
      · rw[hB.slice];omega
end
theorem aoQ {H:Type} {enc:TypeId × Value→H} {P:Program} {f:Func} {s:ChangeSpec} {W:World} {args:Array Value} {ds:List (DataW H)} {before:List MemPlace} {tb:TypeId}
    (hl:laidOutB P=true) (hm:mapsRowed P=true) (hz:((List.range P.types.size).all fun t=>match P.underlying t with | some (.slice e)=>decide (0<P.cellsOf e) | _=>true)=true)
    (gJ:f.resultTypes=#[tb]) (zU:P.underlying tb=some .bool) (Ci:∀t∈f.params.toList,t<P.types.size) (zX:s.vars=[]) (tQ:(s.fn H ds).results=[.lit (.bool true)]∧(s.fn H ds).args=ds∧(s.fn H ds).vars=[])
    (hW:DataW.Whole enc P f.params.toList s.vars false W args.toList ds [] before) {W' : World} (hos:W'.os=W.os) (ajF:W'.output=W.output) (aje:∀a,W'.frozen? a=W.frozen? a) (ku:∀b,b<W.heap.size→W'.heap[b]?=W.heap[b]?) :
    s.post enc P f false true false false W args (.bool true) W' := by
  have BX := hW;obtain⟨p,q,hA,hV,rfl,JN,Ce⟩:=hW;rw[zX] at hV;obtain⟨_,rfl⟩:=trodVars_none hV;have ajq:W.keptBut W' (fun _=>False):=by
    refine⟨hos,ajF,fun i hi=>?_⟩;rw[ku i hi];cases W.heap[i]? with
    | none=>rfl
    | some ob=>cases ob<;>simp
  simp only[dn] at BX;have jP:s.fn H (ds++[])=s.fn H ds:=by rw[dn]
  refine post_of_same (pa:=p) (pv:=[]) BX (fun b G0 hd=>?_) (fun G0 hs=>?_) (fun G0 hs=>?_) (by simp) (World.keptBut_mono (fun _ h=>h.elim) ajq) ?_ (ok_one gJ rfl (okWide_bool_mk zU _))
  · rw[jP,tQ.1,gJ];exact trodAll_cons_mk (shut_bool zU _) trodAll_mk0
  · rw[jP,tQ.2.1];have aj:=DataW.TrodAll.lt hA;have key:∀(ts:List TypeId) (vs:List Value) (ds:List (DataW H)) (ps:List MemPlace),(∀t∈ts,t<P.types.size)→DataW.TrodAll enc P W 0 (fun _=>true) true ts vs ds ps→(∀x∈ps,x.block<W.heap.size)→(∀x∈ps,G0 x.block=true)→DataW.TrodAll enc P W' 0 G0 true ts vs ds ps:=by
      intro ts;induction ts with
      | nil=>intro vs ds ps _ h _ _;cases vs<;>cases ds<;>first | exact h | exact h.elim
      | cons t ts ih =>
        intro vs ds ps hT h aj hs;cases vs with
        | nil=>exact h.elim
        | cons v vs =>
          cases ds with
          | nil=>exact h.elim
          | cons d ds =>
            obtain⟨p,q,⟨n,h1⟩,U,rfl⟩:=h;refine⟨p,q,⟨n,?_⟩,ih vs ds q (fun t ht=>hT t (by simp[ht])) U (fun x hx=>aj x (by simp[hx])) (fun x hx=>hs x (by simp[hx])),rfl⟩;refine DataW.trod_stays (kids_rows hl hm) (fun {t e} ht he=>slices_full_of P hz t e ht he) (by simp) (hT t (by simp)) h1 (fun x hx=>?_) (fun x hx=>hs x (by simp[hx]));have hb:=aj x (by simp[hx]);cases x with
            | cell b off=>exact zg (ku b hb)
            | map b=>exact ku b hb
    exact key _ _ _ _ Ci hA (fun x hx=>aj x hx) (fun x hx=>hs x (by simpa using hx))
  · rw[jP,tQ.2.2,zX];rfl
  · exact aje
theorem aoP {H:Type} {enc:TypeId × Value→H} {P:Program} {f:Func} {s:ChangeSpec} {W:World} {args:Array Value} {ds:List (DataW H)} {before:List MemPlace} {tb:TypeId}
    (hl:laidOutB P=true) (hm:mapsRowed P=true) (hz:((List.range P.types.size).all fun t=>match P.underlying t with | some (.slice e)=>decide (0<P.cellsOf e) | _=>true)=true)
    (gJ:f.resultTypes=#[tb]) (zU:P.underlying tb=some .bool) (Ci:∀t∈f.params.toList,t<P.types.size) (zX:s.vars=[]) (tQ:(s.fn H ds).results=[.lit (.bool true)]∧(s.fn H ds).args=ds∧(s.fn H ds).vars=[])
    (hW:DataW.Whole enc P f.params.toList s.vars false W args.toList ds [] before) {E' : Env} (aS:Fr (oU W) E') :
    s.post enc P f false true false false W args (.bool true) E'.w :=
  aoQ hl hm hz gJ zU Ci zX tQ hW aS.os aS.output aS.eZ fun b hb=>(aS.same b hb (.inl rfl)).1
section
variable {P:Program} {W:World} {r:Reach} {b:Nat} {t:TypeId} {v:Value} {E:Env}
theorem ase {x:V} (ht:P.underlying t=some .string) (hv:Value.okWide P W r b t v) (h:RL E [x] v.cells.toList):R E x v:=by
  obtain⟨a,rfl⟩:=okWide_string ht hv;simpa [Value.cells,RL] using h
theorem YI {fs:Array Field} {xs:List V} (ht:P.underlying t=some (.struct fs)) (hv:Value.okWide P W r b t v) (h:RL E xs v.cells.toList):R E (.agg xs) v:=by
  obtain⟨cs,rfl,_⟩:=okWide_struct ht hv;simp only[R];exact⟨cs,rfl,by simpa [Value.cells] using h⟩
end
def oy (s:List UInt8):Value:=.string ⟨s.toArray⟩
section
variable {H:Type} {enc:TypeId × Value→H} {P:Program} {W:World}
def Wj (ps:List (List UInt8 × List UInt8)):DataW H:=.agg (ps.map fun p=>.agg [.lit (.string p.1),.lit (.string p.2)])
theorem Vt {α:Type} {l:List α} (h:l.length=2):∃a b,l=[a,b]:=by
  match l,h with
  | [a,b],_=>exact⟨a,b,rfl⟩
theorem YF {s:ByteArray} {l:List UInt8} (h:s.data.toList=l):Value.string s=oy l:=by subst h;simp[oy]
theorem chunks {α:Type} {k:Nat} (f:Nat→List α):∀(n:Nat) (cs:List α),cs.length=n*k→(∀i,i<n→(cs.drop (i*k)).take k=f i)→cs=((List.range n).map f).flatten
  | 0,cs,hl,_=>by simp at hl;simp[hl]
  | n + 1, cs, hl, h => by
    rw[DU] at hl;have h1:=chunks (k:=k) f n (cs.take (n*k)) (by rw[gZ];omega) fun i hi=>by
      have:i*k+k≤n*k:=by rw[←DU];exact nT _ hi
      rw[HG,List.take_take,rN (by omega)];exact h i (by omega)
    have U:=h n (by omega);rw[yX (by rw[A_];omega)] at U;rw[rK,fE,pH,←h1];simp only[bC,dp,iC,Nw,dn];rw[←U,nR]
theorem abL {base:Nat} {sp:Nat→Bool} {held:Bool} {fuel:Nat} {e tf:TypeId} {fs:Array Field} {cs:List Value} {x:DataW H × List MemPlace} {a b:List UInt8}
    (he:P.underlying e=some (.struct fs)) (hs:fs.size=2) (JJ:(fs[0]?).map (fun f=>(f.type,f.offset))=some (tf,0)) (zI:(fs[1]?).map (fun f=>(f.type,f.offset))=some (tf,1))
    (FE:P.underlying tf=some .string) (zG:P.cellsOf tf=1) (qI:P.cellsOf e=2)
    (h:DataW.trod enc P W base sp held fuel e cs=some x) (hx:x.1 = .agg [.lit (.string a),.lit (.string b)]):cs=[oy a,oy b]:=by
  obtain⟨xs,m,rfl,rfl,hl,qg,hf⟩:=DataW.trod_struct he h;rw[qI] at hl;rw[hs] at qg;obtain⟨u,v,rfl⟩:=Vt hl;obtain⟨x0,x1,rfl⟩:=Vt qg;obtain⟨f0,g0,g1⟩:=cx.1 JJ;obtain⟨f1,g2,g3⟩:=cx.1 zI;simp only[mu] at g1 g3;have h0:=hf 0 f0 g0;have h1:=hf 1 f1 g2;rw[g1.1,g1.2,zG] at h0;rw[g3.1,g3.2,zG] at h1;obtain⟨s0,p0,q0,_⟩:=DataW.trod_string FE h0;obtain⟨s1,p1,q1,_⟩:=DataW.trod_string FE h1;simp only[DH,A5,oE,NH,fM,fO] at p0 p1;subst p0 p1 q0 q1;simp only[bC,dp,DataW.agg.injEq,fM,DataW.lit.injEq,Lit.string.injEq,fO] at hx;rw[YF hx.1,YF hx.2]
theorem abM {base:Nat} {sp:Nat→Bool} {held:Bool} {fuel:Nat} {t e tf:TypeId} {n:Nat} {fs:Array Field} {cs:List Value} {ps:List (List UInt8 × List UInt8)} {p:List MemPlace}
    (ht:P.underlying t=some (.array n e)) (he:P.underlying e=some (.struct fs)) (hs:fs.size=2) (JJ:(fs[0]?).map (fun f=>(f.type,f.offset))=some (tf,0)) (zI:(fs[1]?).map (fun f=>(f.type,f.offset))=some (tf,1))
    (FE:P.underlying tf=some .string) (ai9:P.cellsOf tf=1) (qI:P.cellsOf e=2) (zG:P.cellsOf t=n*2)
    (h:DataW.trod enc P W base sp held fuel t cs=some (Wj ps,p)):cs=(ps.flatMap fun p=>[p.1,p.2]).map oy:=by
  obtain⟨xs,m,rfl,hx,hl,qg,hi⟩:=DataW.trod_array ht h;rw[zG] at hl;have lA:xs.map (·.1)=ps.map fun p=>(.agg [.lit (.string p.1),.lit (.string p.2)]:DataW H):=by
    have:=gm Prod.fst hx
    simpa [Wj] using this.symm
  have mG:ps.length=n:=by
    have:=gm List.length lA
    simp at this;omega
  have hc:=chunks (fun i=>match ps[i]? with | some p=>[oy p.1,oy p.2] | none=>[]) n cs hl (fun i dx=>by
    have h1:=hi i dx;rw[qI] at h1;have UG:xs[i]?=some xs[i]:=by simp[qg,dx]
    have zR:ps[i]?=some ps[i]:=by simp[mG,dx]
    rw[UG] at h1;have U:=gm (·[i]?) lA;simp only[s7,UG,zR,s_,aH] at U;rw[zR];exact abL he hs JJ zI FE ai9 qI h1 U)
  rw[hc,←mG];clear hc hi qg hl hx lA h mG;have key:∀qs:List (List UInt8 × List UInt8),((List.range qs.length).map fun i=>match qs[i]? with | some p=>[oy p.1,oy p.2] | none=>[])=qs.map fun p=>[oy p.1,oy p.2]:=fun qs=>by
    apply Nu;intro i
    by_cases hi:i<qs.length
    · simp[hi]
    · simp[hi]
  rw[key,List.map_flatMap,List.flatMap_def];rfl
end
def yf:V→Value
  | .str s=>oy s
  | .int k n=>.int k n
  | _=>.bool false
def isLit:V→Bool
  | .str _=>true
  | .int _ _=>true
  | _=>false
theorem alA {E:Env} {x:V} (h:isLit x=true) (v:Value):R E x v↔v=yf x:=by
  cases x<;>simp[isLit] at h<;>simp[R,yf,oy]
def CN (B:Nat→Option (List V)):ae:=⟨fun _=>none,fun _=>none,B⟩
def HQ (W:World) (B:Nat→Option (List V)):Prop:=∀b cs,B b=some cs→(∃e,W.heap[b]?=some (.cells (cs.map yf).toArray e (0,0)))∧∀x∈cs,isLit x=true
theorem Vw {E:Env}:∀{cs:List V},(∀x∈cs,isLit x=true)→RL E cs (cs.map yf)
  | [],_=>by simp[RL]
  | x :: cs, h => by
    simp only[bC,RL];exact⟨(alA (h x (by simp)) _).2 rfl,Vw fun y hy=>h y (by simp[hy])⟩
theorem al8 {W:World} {B:Nat→Option (List V)} (h:HQ W B):(oU W).ok (CN B):=by
  refine⟨fun _ _ h=>by simp[CN] at h,fun _ _ h=>by simp[CN] at h,fun _ _=>rfl,⟨0,fun _ _=>rfl⟩,fun b cs hb=>?_⟩;obtain⟨⟨e,he⟩,hl⟩:=h b cs hb;refine y4 (vs:=cs.map yf) (Vw hl) (fun v hv=>?_) (fun j v hj=>?_) fun _ _=>trivial
  · obtain⟨x,hx,rfl⟩:=rI.1 hv
    have:=hl x hx
    cases x<;>simp[isLit] at this<;>rfl
  · show W.cell? _=_;simp only[World.cell?,he,gQ];simpa using hj
theorem akV {H:Type} {enc:TypeId × Value→H} {P:Program} {n:FuncId} {f:Func} {s:ChangeSpec} {W:World} {args:Array Value} {vs:List V} {ds:List (DataW H)} {before:List MemPlace} {tb:TypeId} {B:Nat→Option (List V)}
    (hP:al P n vs (CN B) fun v σ' => v = .bool true∧σ' = CN B) (hg:HQ W B) (hR:RL (oU W) vs args.toList)
    (hl:laidOutB P=true) (hm:mapsRowed P=true) (hz:((List.range P.types.size).all fun t=>match P.underlying t with | some (.slice e)=>decide (0<P.cellsOf e) | _=>true)=true)
    (gJ:f.resultTypes=#[tb]) (zU:P.underlying tb=some .bool) (Ci:∀t∈f.params.toList,t<P.types.size) (zX:s.vars=[]) (tQ:(s.fn H ds).results=[.lit (.bool true)]∧(s.fn H ds).args=ds∧(s.fn H ds).vars=[])
    (hW:DataW.Whole enc P f.params.toList s.vars false W args.toList ds [] before) :
    Calls P n args W fun e W' => ∃v,e = .returned v∧s.post enc P f false true false false W args v W' := by
  refine(hP.2 (oU W) args (fun _=>rfl) (al8 hg) hR).mono ?_;rintro e w' ⟨v,x,E',σ',rfl,rfl,_,_,TH,aS,rfl,_⟩;simp only[R] at TH;subst TH;exact⟨_,rfl,aoP hl hm hz gJ zU Ci zX tQ hW aS⟩
section
variable {H:Type} {enc:TypeId × Value→H} {P:Program} {W:World}
theorem U7 {name:String} {d:DataW Unit} {rest:List (String × DataW Unit)} {g:Nat} {t:TypeId} (h:laidMet P ((name,d)::rest) W) (hg:P.globalNamed name=some g) (ht:(P.globals[g]?).map (·.type)=some t) {vs:List Value}
    (hc:∀(cs:List Value) (fuel:Nat) (p:List MemPlace),DataW.trod (fun _=>()) P W 0 (fun _=>true) false fuel t cs=some (d,p)→cs=vs) (hv:vs≠[]):∃e,W.heap[g]?=some (.cells vs.toArray e (0,0)):=by
  obtain⟨ps,⟨g',t',cs,fuel,p,q,pW,zT,fJ,hd,_,Cj⟩,_,hb⟩:=h;obtain rfl:g' = g:=mV (pW.symm.trans hg);obtain rfl:t' = t:=mV (zT.symm.trans ht);have hcs:=hc _ _ _ hd;have vo : cs=vs.toArray:=by rw[←hcs]
  obtain⟨⟨c,e,qI⟩,_⟩:=hb g' 0 (by
    rw[Cj];refine List.mem_append_left _ (List.mem_append_left _ ?_);rw[vo];cases vs with
    | nil=>exact absurd rfl hv
    | cons a l=>simp[MemPlace.row])
  refine⟨e,?_⟩;rw[qI];simp only[World.var?,hg,s9,qI,aH] at fJ;rw[fJ,vo]
end
section
variable {E:Env}
theorem NS:∀{l m:List V} {cs ds:List Value},RL E l cs→RL E m ds→RL E (l++m) (cs++ds)
  | [],_,[],_,_,h=>h
  | [],_,_::_,_,h,_=>by simp[RL] at h
  | _::_,_,[],_,h,_=>by simp[RL] at h
  | x :: l, m, c :: cs, ds, h, U => by
    simp only[RL,fN] at h ⊢;exact⟨h.1,NS h.2 U⟩
def MI:Value→aY
  | .int .u64 z=>BitVec.ofInt 64 z
  | _=>0#64
theorem NU:∀(cs:List Value),(∀v∈cs,∃z:Int,v = .int .u64 z∧0≤z∧z<18446744073709551616)→RL E (eY (cs.map MI)) cs
  | [],_=>by simp[eY,RL]
  | v :: cs, h => by
    obtain⟨z,rfl,h0,h1⟩:=h v (by simp);have ih:=NU cs fun v hv=>h v (by simp[hv])
    simp only[eY,bC,RL] at ih ⊢;refine⟨?_,ih⟩;simp only[R,MI,Value.int.injEq,nL];rw[BitVec.toNat_ofInt];omega
end
section
variable {H:Type} (enc:TypeId × Value→H) (P:Program) (W:World) (B:DataW H→Nat)
def ka (N:Nat) (t:TypeId) (F:List V→Nat→Prop):Prop :=
  ∀n,n<N→∀cs x,DataW.trod enc P W 0 (fun _=>true) true n t cs=some x→∃l,RL (oU W) l cs∧(∀v∈cs,v.oneCell' = true)∧F l (B x.1)
def uO (N:Nat):List Field→Nat→(List V→Nat→Prop)→Prop
  | [],_,F=>F [] 0
  | f::r,o,F=>f.offset=o∧∃G,ka enc P W B N f.type G∧∀l b,G l b→uO N r (o+P.cellsOf f.type) fun l' b' => F (l++l') (b+b')
end
section
variable {H:Type} {enc:TypeId × Value→H} {P:Program} {W:World} {B:DataW H→Nat} {BA:List (DataW H)→Nat} {N:Nat} {t:TypeId}
theorem ka.mono {M:Nat} {F:List V→Nat→Prop} (h:ka enc P W B N t F) (hM:M≤N):ka enc P W B M t F:=fun n hn=>h n (rM hn hM)
theorem ka.to {F G:List V→Nat→Prop} (h:ka enc P W B N t F) (hg:∀l b,F l b→G l b):ka enc P W B N t G:=fun n hn cs x hx =>
  let ⟨l,h1,U,h3⟩:=h n hn cs x hx
  ⟨l,h1,U,hg _ _ h3⟩
theorem arY {k:IntKind} (ht:P.underlying t=some (.int k)) (hB:mT B BA):ka enc P W B N t fun l b=>∃i:Int,l=[.int k i]∧b=1∧(Lit.int k i).wf=true:=fun n _ cs x h =>
  let ⟨i,h1,U,h3,h4⟩:=apR ht hB h
  ⟨_,h1,U,i,rfl,h3,h4⟩
theorem arX (ht:P.underlying t=some .bool) (hB:mT B BA):ka enc P W B N t fun l b=>∃i:Bool,l=[.bool i]∧b=1:=fun n _ cs x h =>
  let ⟨i,h1,U,h3⟩:=apQ ht hB h
  ⟨_,h1,U,i,rfl,h3⟩
theorem ar0 (ht:P.underlying t=some .string) (hB:mT B BA):ka enc P W B N t fun l b=>∃s:List UInt8,l=[.str s]∧b=s.length+1:=fun n _ cs x h =>
  let ⟨s,h1,U,h3⟩:=apT ht hB h
  ⟨_,h1,U,s,rfl,h3.symm⟩
theorem ar3 {e:TypeId} {n:Nat} (ht:P.underlying t=some (.array n e)) (he:P.underlying e=some (.int .u64)) (qI:P.cellsOf e=1) (zG:P.cellsOf t=n):ka enc P W B N t fun l _=>∃w:List aY,w.length=n∧l=eY w:=by
  intro q _ cs x h;obtain⟨xs,m,rfl,rfl,hl,hx,hf⟩:=DataW.trod_array ht h;rw[zG] at hl;have all:∀v∈cs,∃z:Int,v = .int .u64 z∧0≤z∧z<18446744073709551616:=by
    intro v hv;obtain⟨i,hi,rfl⟩:=HN.1 hv;have h1:=hf i (by omega);rw[qI,pJ,cw (show i<xs.length by omega),kN hi,oE,NH] at h1;obtain⟨z,e1,_,hw⟩:=DataW.trod_int he h1;simp[Lit.wf,IntKind.min,IntKind.max,IntKind.signed,IntKind.bits] at hw;exact⟨z,by simpa using e1,by omega,by omega⟩
  refine⟨_,NU cs all,fun v hv=>?_,cs.map MI,by simp[hl],rfl⟩;obtain⟨z,rfl,_⟩:=all v hv;rfl
theorem arZ {α:Type} (ea:α→List V) (sz:α→Nat) {e:TypeId} {k:Nat} (hB:mT B BA) (ht:P.underlying t=some (.slice e)) (hk:P.cellsOf e=k) (gT:0<k) (hlen:∀y,(ea y).length=k)
    (kl:ka enc P W B N e fun l b=>∃y,l=ea y∧sz y≤b):ka enc P W B (N+1) t fun l b=>∃ys:List α,l=[.sl .no k (ys.map ea)]∧(ys.map sz).sum+1≤b:=by
  intro n hn cs x h;obtain⟨ys,h1,U,h3⟩:=apS ea sz hB ht hk gT hlen (fun m hm cs x h=>by
    obtain⟨l,k1,k2,y,rfl,k3⟩:=kl m (by omega) cs x h;exact⟨y,k1,k2,k3⟩) h
  exact⟨_,h1,U,ys,rfl,h3⟩
theorem SZ (hB:mT B BA) {m:Nat} (hm:m<N) {cs:List Value}:∀(fs:List Field) (o:Nat) (F:List V→Nat→Prop) (xs:List (DataW H × List MemPlace)),uO enc P W B N fs o F→xs.length=fs.length →
    (∀(i:Nat) (f:Field),fs[i]?=some f→DataW.trod enc P W 0 (fun _=>true) true m f.type ((cs.drop f.offset).take (P.cellsOf f.type))=xs[i]?)→cs.length=o+(fs.map fun f=>P.cellsOf f.type).sum →
    ∃l,RL (oU W) l (cs.drop o)∧(∀v∈cs.drop o,v.oneCell' = true)∧F l (BA (xs.map (·.1)))
  | [], o, F, xs, h, hx, _, hl => by
    obtain rfl:=oB (by simpa using hx);simp only[dp,oD,rL] at hl;refine⟨[],?_,?_,?_⟩
    · rw[DG (by omega)];simp[RL]
    · rw[DG (by omega)];simp
    · rw[dp,hB.no];exact h
  | f :: fs, o, F, xs, h, hx, hf, hl => by
    obtain⟨h1,G,U,h3⟩:=h;cases xs with
    | nil=>simp at hx
    | cons x xs =>
      have h0:=hf 0 f rfl;rw[DL,h1] at h0;obtain⟨l,k1,k2,k3⟩:=U m hm _ x h0;simp only[bC,mr] at hl;obtain⟨l',g1,g2,g3⟩:=SZ hB hm fs (o+P.cellsOf f.type) _ xs (h3 l _ k3) (by simpa using hx) (fun i f' hi=>by simpa using hf (i+1) f' (by simpa using hi)) (by omega);have e:(cs.drop o).take (P.cellsOf f.type)++cs.drop (o+P.cellsOf f.type)=cs.drop o:=by rw[←uR,nR]
      refine⟨l++l',?_,fun v hv=>?_,?_⟩
      · rw[←e];exact NS k1 g1
      · rw[←e] at hv
        rcases il.1 hv with hv | hv
        · exact k2 v hv
        · exact g2 v hv
      · rw[bC,hB.cons];exact g3
theorem ar1 (hB:mT B BA) {fs:Array Field} (ht:P.underlying t=some (.struct fs)) {F:List V→Nat→Prop} (h:uO enc P W B N fs.toList 0 F) (hc:P.cellsOf t=(fs.toList.map fun f=>P.cellsOf f.type).sum) :
    ka enc P W B (N+1) t fun l b=>∃b',F l b' ∧ b=b' + 1:=by
  intro n hn cs x hx;obtain⟨xs,m,rfl,rfl,hl,hlen,hf⟩:=DataW.trod_struct ht hx;obtain⟨l,h1,U,h3⟩:=SZ hB (show m<N by omega) (cs:=cs) fs.toList 0 F xs h (by simpa using hlen) (fun i f hi=>hf i f (by simpa using hi)) (by omega);exact⟨l,h1,U,_,h3,hB.agg _⟩
theorem xn {o:Nat} {F:List V→Nat→Prop} (h:F [] 0):uO enc P W B N [] o F:=h
theorem lW {f:Field} {r:List Field} {o:Nat} {F G:List V→Nat→Prop} (h1:f.offset=o) (U:ka enc P W B N f.type G) (h3:∀l b,G l b→uO enc P W B N r (o+P.cellsOf f.type) fun l' b' => F (l++l') (b+b')):uO enc P W B N (f::r) o F:=⟨h1,G,U,h3⟩
theorem ar2 (hB:mT B BA) {fs:List Field} (ht:P.underlying t=some (.struct fs.toArray)) {F:List V→Nat→Prop} (hc:P.cellsOf t=(fs.map fun f=>P.cellsOf f.type).sum) (h:uO enc P W B N fs 0 fun l b=>F l (b+1)):ka enc P W B (N+1) t F :=
  (ar1 hB ht (F:=fun l b=>F l (b+1)) (by simpa using h) (by simpa using hc)).to fun l b ⟨b',h1,U⟩=>U▸h1
theorem yH (hB:mT B BA) {fs:List Field} (ht:P.underlying t=some (.struct fs.toArray)) {F:List V→Nat→Prop} (hc:P.cellsOf t=(fs.map fun f=>P.cellsOf f.type).sum) (h:uO enc P W B N fs 0 fun l b=>F l (b+1)):ka enc P W B N t F :=
  (ar2 hB ht hc h).mono (Nat.le_succ N)
theorem G6 {α:Type} (ea:α→List V) (sz:α→Nat) {e:TypeId} {k:Nat} (hB:mT B BA) (ht:P.underlying t=some (.slice e)) (hk:P.cellsOf e=k) (gT:0<k) (hlen:∀y,(ea y).length=k)
    (kl:ka enc P W B N e fun l b=>∃y,l=ea y∧sz y≤b):ka enc P W B N t fun l b=>∃ys:List α,l=[.sl .no k (ys.map ea)]∧(ys.map sz).sum+1≤b :=
  (arZ ea sz hB ht hk gT hlen kl).mono (Nat.le_succ N)
end
end Go.Am
namespace Go.Proofs.Tryz
open Go.Am Go.ChangeShapes Go.WideShapes Go.ChangeAt Go.RowKit
open Go.Proofs.YtkeidlpchmepkaaGreatDoor
theorem nV (H:Type):mT (H:=H) Rows.uptoBulk Rows.uptoBulkAll :=
  ⟨fun _=>by simp only[Rows.uptoBulk],fun _ _=>by simp only[Rows.uptoBulk],fun _=>by simp only[Rows.uptoBulk],by simp only[Rows.uptoBulk],fun _ _=>by simp only[Rows.uptoBulk],fun _=>by simp only[Rows.uptoBulk],by simp only[Rows.uptoBulkAll],fun _ _=>by simp only[Rows.uptoBulkAll]⟩
theorem laid:laidOutB prog=true:=by kernel_rfl
theorem aqj:mapsRowed prog=true:=by kernel_rfl
theorem aib:((List.range prog.types.size).all fun t=>match prog.underlying t with | some (.slice e)=>decide (0<prog.cellsOf e) | _=>true)=true:=by kernel_rfl
theorem own:ownKnob prog.godebug=none:=by kernel_rfl
def gB:Nat→Option (List V):=fun b=>if b=0 then some fQ else if b=1 then some uF else none
theorem aiw {W:World} (h:laidMetH prog Rows.judgeRoomRow.laid W):HQ W gB:=by
  have h0:laidMet prog Rows.judgeRoomRow.laid W:=h;have h1:=laidMet.tail h0;obtain⟨e0,k0⟩:=U7 (g:=0) (t:=155) (vs:=fQ.map yf) h0 (by kernel_rfl) (by kernel_rfl) (fun cs fuel p hd=>(abM (ps:=iU) underlying155 underlying88 (by kernel_rfl) (by kernel_rfl) (by kernel_rfl) underlying9 (by kernel_rfl) (by kernel_rfl) (by kernel_rfl) hd).trans rfl) (by simp[fQ,iU]);obtain⟨e1,k1⟩:=U7 (g:=1) (t:=277) (vs:=uF.map yf) h1 (by kernel_rfl) (by kernel_rfl) (fun cs fuel p hd=>(Lib.cells_of_tab (zs:=Hc) underlying277 underlying5 (by kernel_rfl) (by kernel_rfl) hd).trans rfl) (by simp[uF,Hc]);intro b cs hb;simp only[gB] at hb;split at hb
  · rename_i hq;subst hq;obtain rfl:=mV hb;exact⟨⟨e0,k0⟩,by decide⟩
  split at hb
  · rename_i hq;subst hq;obtain rfl:=mV hb;exact⟨⟨e1,k1⟩,by decide⟩
  simp at hb
def KL:DataW Unit→List Value
  | .lit (.int k n)=>[.int k n]
  | .lit (.string s)=>[oy s]
  | _=>[]
def akW:DataW Unit→List Value
  | .agg ds=>ds.flatMap KL
  | d=>KL d
def akX:DataW Unit→List Value
  | .agg ds=>ds.flatMap akW
  | d=>KL d
def akY (h:Array Obj) (x:Nat × DataW Unit):Array Obj:=h.modify x.1 fun
  | .cells _ t frozen=>.cells (akX x.2).toArray t frozen
  | o=>o
noncomputable def KJ (os:Os):World :=
  {World.holding prog os ⟨#[],#[],[]⟩ with heap:=[(0,Rows.laid_clearance_command_forms),(1,Rows.laid_math_bits_deBruijn64tab)].foldl akY (World.holding prog os ⟨#[],#[],[]⟩).heap}
set_option maxRecDepth 100000
section
variable {H:Type} {enc:TypeId × Value→H} {W:World} {N:Nat}
abbrev TL (enc:TypeId × Value→H) (W:World) (N:Nat) (t:TypeId) (F:List V→Nat→Prop):Prop:=ka enc prog W (Rows.uptoBulk (H:=H)) N t F
theorem yt:TL enc W N 3 fun l b=>∃y:Int,l=[.int .i64 y]∧1≤b:=(arY underlying3 (nV H)).to fun _ _ ⟨y,h,k,_⟩=>⟨y,h,by omega⟩
theorem apu:TL enc W N 4 fun l b=>∃y:Bool,l=[.bool y]∧1≤b:=(arX underlying4 (nV H)).to fun _ _ ⟨y,h,k⟩=>⟨y,h,by omega⟩
theorem GL:TL enc W N 9 fun l b=>∃y:List UInt8,l=[.str y]∧y.length+1≤b:=(ar0 underlying9 (nV H)).to fun _ _ ⟨y,h,k⟩=>⟨y,h,by omega⟩
theorem apB:TL enc W N 90 fun l b=>∃ys:List (List UInt8),l=[.sl .no 1 (di ys)]∧(ys.map fun s=>s.length+1).sum+1≤b :=
  G6 (fun s:List UInt8=>[V.str s]) (fun s=>s.length+1) (nV H) underlying90 (show prog.cellsOf 9=1 by kernel_rfl) (by decide) (fun _=>rfl) (GL.to fun _ _ ⟨y,h,k⟩=>⟨y,h,k⟩)
theorem apE:TL enc W N 100 fun l b=>∃y:Rl,l=y.enc∧0≤b:=by
  refine yH (nV H) underlying100 (by kernel_rfl) ?_;refine lW (by kernel_rfl) yt ?_;rintro _ b0 ⟨y0,rfl,h0⟩;refine lW (by kernel_rfl) (ar3 underlying98 underlying40 (by kernel_rfl) (by kernel_rfl)) ?_;rintro _ b1 ⟨y1,h1,rfl⟩;exact xn ⟨⟨y0,y1,h1⟩,by rw[dn];rfl,rO _⟩
theorem apw:TL enc W N 102 fun l b=>∃y:aZ,l=y.enc∧0≤b:=by
  refine yH (nV H) underlying102 (by kernel_rfl) ?_;refine lW (by kernel_rfl) yt ?_;rintro _ b0 ⟨y0,rfl,h0⟩;refine lW (by kernel_rfl) apB ?_;rintro _ b1 ⟨y1,rfl,h1⟩;refine lW (by kernel_rfl) apE ?_;rintro _ b2 ⟨y2,rfl,U⟩;exact xn ⟨⟨y0,y1,y2⟩,by simp[aZ.enc],by exact rO _⟩
theorem apx:TL enc W N 65 fun l b=>∃ys:List (aZ),l=[.sl .no 67 (ys.map aZ.enc)]∧(ys.map fun _=>0).sum+1≤b :=
  (G6 aZ.enc (fun _=>0) (nV H) underlying65 (show prog.cellsOf 102=67 by kernel_rfl) (by decide) (fun _=>aZ.b_) apw)
theorem apJ:TL enc W N 67 fun l b=>∃y:bg,l=y.enc∧0≤b:=by
  refine yH (nV H) underlying67 (by kernel_rfl) ?_;refine lW (by kernel_rfl) apu ?_;rintro _ b0 ⟨y0,rfl,h0⟩;refine lW (by kernel_rfl) apx ?_;rintro _ b1 ⟨y1,rfl,h1⟩;exact xn ⟨⟨y0,y1⟩,by rfl,by exact rO _⟩
theorem apz:TL enc W N 69 fun l b=>∃y:dX,l=y.enc∧0≤b:=by
  refine yH (nV H) underlying69 (by kernel_rfl) ?_;refine lW (by kernel_rfl) GL ?_;rintro _ b0 ⟨y0,rfl,h0⟩;refine lW (by kernel_rfl) apJ ?_;rintro _ b1 ⟨y1,rfl,h1⟩;exact xn ⟨⟨y0,y1⟩,by rfl,by exact rO _⟩
theorem apL:TL enc W N 72 fun l b=>∃y:df,l=y.enc∧0≤b:=by
  refine yH (nV H) underlying72 (by kernel_rfl) ?_;refine lW (by kernel_rfl) GL ?_;rintro _ b0 ⟨y0,rfl,h0⟩;refine lW (by kernel_rfl) yt ?_;rintro _ b1 ⟨y1,rfl,h1⟩;refine lW (by kernel_rfl) yt ?_;rintro _ b2 ⟨y2,rfl,U⟩;exact xn ⟨⟨y0,y1,y2⟩,by rfl,by exact rO _⟩
theorem apA:TL enc W N 22 fun l b=>∃ys:List (dX),l=[.sl .no 3 (ys.map dX.enc)]∧(ys.map fun _=>0).sum+1≤b :=
  (G6 dX.enc (fun _=>0) (nV H) underlying22 (show prog.cellsOf 69=3 by kernel_rfl) (by decide) (fun _=>rfl) apz)
theorem apM:TL enc W N 23 fun l b=>∃ys:List (df),l=[.sl .no 3 (ys.map df.enc)]∧(ys.map fun _=>0).sum+1≤b :=
  (G6 df.enc (fun _=>0) (nV H) underlying23 (show prog.cellsOf 72=3 by kernel_rfl) (by decide) (fun _=>rfl) apL)
theorem apH:TL enc W N 25 fun l b=>∃y:au,l=y.enc∧0≤b:=by
  refine yH (nV H) underlying25 (by kernel_rfl) ?_;refine lW (by kernel_rfl) apA ?_;rintro _ b0 ⟨y0,rfl,h0⟩;refine lW (by kernel_rfl) apM ?_;rintro _ b1 ⟨y1,rfl,h1⟩;exact xn ⟨⟨y0,y1⟩,by rfl,by exact rO _⟩
theorem apF:TL enc W N 27 fun l b=>∃y:Rm,l=y.enc∧0≤b:=by
  refine yH (nV H) underlying27 (by kernel_rfl) ?_;refine lW (by kernel_rfl) yt ?_;rintro _ b0 ⟨y0,rfl,h0⟩;refine lW (by kernel_rfl) yt ?_;rintro _ b1 ⟨y1,rfl,h1⟩;refine lW (by kernel_rfl) yt ?_;rintro _ b2 ⟨y2,rfl,U⟩;exact xn ⟨⟨y0,y1,y2⟩,by rfl,by exact rO _⟩
end
end Go.Proofs.Tryz
namespace Go.Proofs.Tryz
open Go.Am
set_option maxRecDepth 4000
set_option maxHeartbeats 4000000
def Om:AC:=.seq (.aa [⟨(some 2),.box 18 (.s 0),none⟩,⟨(some 3),.box 18 (.s 1),none⟩,⟨(some 4),.mv (.c (.bool false)),none⟩])
 (.seq (.aa [xf 0 5 2,xo 6 5,xf 0 7 3,xo 8 7,xb .eql 9 6 8,xm 10 9,xg 10 (xf 1 11 2),xg 10 (xo 12 11),xg 10 (xf 1 13 3),xg 10 (xo 14 13),xg 10 (xb .eql 15 12 14),⟨(some 16),.pick (.s 10) (.s 15) (.c (.bool false)),none⟩,xm 17 16,xg 17 (xf 2 18 2),xg 17 (xo 19 18),xg 17 (xf 2 20 3),xg 17 (xo 21 20),xg 17 (xc 33 22 [.s 19,.s 21]),⟨(some 23),.pick (.s 17) (.s 22) (.c (.bool false)),none⟩,xm 24 23,xg 24 (xf 3 25 2),xg 24 (xl 9 26 25),xg 24 (xf 3 27 3),xg 24 (xl 9 28 27),⟨(some 29),.kS false [1,1,1,1,1,1,1,1,1] (.s 26) (.s 28),(some (24,true))⟩,⟨(some 30),.pick (.s 24) (.s 29) (.c (.bool false)),none⟩,xm 31 30,xg 31 (xf 12 32 2),xg 31 (xl 2 33 32),xg 31 (xf 12 34 3),xg 31 (xl 2 35 34),xg 31 (xc 34 36 [.s 33,.s 35]),⟨(some 37),.pick (.s 31) (.s 36) (.c (.bool false)),none⟩,xm 38 37,xg 38 (xf 14 39 2),xg 38 (xl 2 40 39),xg 38 (xf 14 41 3),xg 38 (xl 2 42 41),xg 38 (xc 34 43 [.s 40,.s 42]),⟨(some 44),.pick (.s 38) (.s 43) (.c (.bool false)),none⟩,xm 45 44,xg 45 (xf 16 46 2),xg 45 (xo 47 46),xg 45 (xf 16 48 3),xg 45 (xo 49 48),xg 45 (xb .eql 50 47 49),⟨(some 51),.pick (.s 45) (.s 50) (.c (.bool false)),none⟩,xm 52 51,xg 52 (xf 17 53 2),xg 52 (xo 54 53),xg 52 (xf 17 55 3),xg 52 (xo 56 55),⟨(some 57),.iG .eql (.s 54) (.s 56),(some (52,true))⟩,⟨(some 58),.pick (.s 52) (.s 57) (.c (.bool false)),none⟩,xm 4 58])
 (.ret))
theorem afz:aK prog 12 Om [.tmp 4] 59:=⟨f12,⟨[],[],[]⟩,func12,by kernel_rfl,by kernel_rfl,by kernel_rfl,by kernel_rfl⟩
def Qg:AC:=.seq (.aa [⟨(some 2),.box 2 (.s 0),none⟩,⟨(some 3),.box 2 (.s 1),none⟩,⟨(some 4),.mv (.c (.bool false)),none⟩])
 (.seq (.seq (.aa [xf 1 6 2,xo 7 6,xf 1 8 3,xo 9 8,xb .neq 10 7 9,xm 11 10,xh 11 (xf 0 12 2),xh 11 (xo 13 12),xh 11 (xL 14 13),xh 11 (xf 0 15 3),xh 11 (xo 16 15),xh 11 (xL 17 16),xh 11 (xb .neq 18 14 17),⟨(some 19),.pick (.s 11) (.c (.bool true)) (.s 18),none⟩])
 (.cond (.s 19) (.seq (.aa [⟨(some 4),.mv (.c (.bool false)),none⟩])
 (.ret))
 (.skip)))
 (.seq (.seq (.aa [xi 5 0])
 (.block 0 (.loop (.seq (.seq (.aa [xm 20 5,xf 0 21 2,xo 22 21,xL 23 22,xb .lss 24 20 23])
 (.cond (.s 24) (.skip)
 (.exit 0)))
 (.seq (.block 1 (.seq (.draw [(xf 0 27 2,[]),(xo 28 27,[]),(xm 29 5,[]),(xA 10 30 28 29,[]),(xl 10 31 30,[]),(xf 0 32 3,[]),(xo 33 32,[]),(xm 34 5,[]),(xA 10 35 33 34,[]),(xl 10 36 35,[]),(⟨(some 37),.kS true [2,1,1,1,1,1,1,1,1,1] (.s 31) (.s 36),none⟩,[])])
 (.cond (.s 37) (.seq (.aa [⟨(some 4),.mv (.c (.bool false)),none⟩])
 (.ret))
 (.skip))))
 (.aa [xm 25 5,xB .add 26 25 1,xm 5 26]))))))
 (.seq (.aa [⟨(some 4),.mv (.c (.bool true)),none⟩])
 (.ret))))
theorem ahj:aK prog 34 Qg [.tmp 4] 38:=⟨f34,⟨[],[],[]⟩,func34,by kernel_rfl,by kernel_rfl,by kernel_rfl,by kernel_rfl⟩
theorem SX {l:List bF} {j:Nat} (h:j<l.length):(l.map bF.enc)[((j:Nat):Int).toNat]?=some l[j].enc:=by simp[h]
theorem W9 (t:dE) (σ:ae) (hl:t.fs.length≤100000):al prog 34 [.agg t.enc,.agg t.enc] σ fun v σ' => v = .bool true∧σ' = σ:=by
  refine ahj.calls ?_;simp only[aJ,Qg,am,aR,Nat.reduceAdd,bZ,dE.af,aE];obtain⟨F,hF⟩:∃F:Nat→Unit→St,∀i x,F i x=⟨[.any,.any,.ptr (.loc 0) 0,.ptr (.loc 1) 0,.any,.int .i64 (i:Nat)]++List.replicate 32 .any,[t.enc,t.enc],σ⟩:=⟨_,fun _ _=>rfl⟩;obtain⟨JF,aQ⟩:∃JF:Nat→Unit→Prop,∀i x,JF i x=(True):=⟨_,fun _ _=>rfl⟩;refine dC (t.fs.length) F JF _ aQ ?_ ?_ ?_
  · refine en (()) ?_ ?_ ?_ ?_
    · exact Eq.mpr (aQ _ _) (trivial)
    all_goals simp[hF,List.replicate,am,bu]
  · rintro i x hi -;simp only[hF,List.replicate,am,dB hi,dE.af,aE];refine bD (by omega) (SX hi) ?_;simp only[am,bF.af,dE.af];refine bD (by omega) (SX hi) ?_;simp only[am,bZ,aO,bF.af,cu hi (by omega)];refine nxt (()) hi ?_ ?_ ?_ ?_
    · exact Eq.mpr (aQ _ _) (trivial)
    all_goals simp[hF,List.replicate,am,bu]
  · rintro x -;simp only[hF,List.replicate,am,aO,dG,aO,dE.af,aE];refine az ?_;simp[V.erase]
theorem ab_ (s:au) (c:ag) (hl:c.left.bS≤100000):(lU s c).code.length≤100000:=by
  rw[lU];split
  · have:=acd s (ca s c) c.left;simp only;omega
  · split<;>simp
theorem Xl {s:au} {lat:Nat} {n:Nd} (h:n.bS≤100000):(la s lat n).fs.length≤100000:=by
  have:=wT n
  rw[la];split
  · simp
  · simp only[aE];omega
theorem SY (s:au) (c:ag) (hl:c.left.bS≤100000) (hr:c.right.bS≤100000):(lU s c).a.fs.length≤100000∧(lU s c).b.fs.length≤100000:=by
  rw[lU];split
  · simp[dE.zero]
  · split
    · exact⟨Xl hl,Xl hr⟩
    · simp[dE.zero]
theorem apP (x:jj) (σ:ae) (hc:x.code.length≤100000) (ha:x.a.fs.length≤100000) (hb:x.b.fs.length≤100000):al prog 12 [.agg x.enc,.agg x.enc] σ fun v σ' => v = .bool true∧σ' = σ:=by
  obtain⟨op,lat,code,to,a,b,v,field⟩:=x;show al prog 12 [.agg (bV op lat (.sl .no 10 (code.map a7.enc)) to (.sl .no 10 (a.fs.map bF.enc)) a.tail (.sl .no 10 (b.fs.map bF.enc)) b.tail v field),.agg (bV op lat (.sl .no 10 (code.map a7.enc)) to (.sl .no 10 (a.fs.map bF.enc)) a.tail (.sl .no 10 (b.fs.map bF.enc)) b.tail v field)] σ _;refine afz.calls ?_;simp only[aJ,Om,am,aR,Nat.reduceAdd];simp only[am,bZ,iF];refine cl (aqJ code code σ hc hc) ?_;simp only[am,bZ,bq.af,iF];refine cl (W9 a σ ha) ?_;simp only[am,iF];refine cl (W9 b σ hb) ?_;simp only[am,bZ,iF];refine az ?_;simp[V.erase]
def Qm:AC:=.seq (.aa [⟨(some 3),.box 2 (.s 0),none⟩,⟨(some 4),.box 3 (.s 1),none⟩,⟨(some 6),.mv (.c (.bool false)),none⟩])
 (.seq (.seq (.aa [xl 2 13 3,xc 7 14 [.s 13],xm 15 14,xh 15 (xm 16 2),xh 15 (xT 17 16),xh 15 (xB .gtr 18 17 1500),⟨(some 19),.pick (.s 15) (.c (.bool true)) (.s 18),none⟩])
 (.cond (.s 19) (.seq (.aa [xc 8 20 [],xm 6 20])
 (.ret))
 (.skip)))
 (.seq (.aa [xl 2 22 3,xl 3 23 4,xm 24 2,xc 9 25 [.s 22,.s 23,.s 24],xm 21 25,xe 26 21 0,xe 27 21 1,xe 28 21 2,⟨(some 7),.alloc [(.int .i64 0),(.int .i64 0),(.str []),(.int .i64 0),(.sl .full 2 []),(.sl .full 4 []),(.int .i64 0),(.int .i64 0),(.int .i64 0),(.str []),(.sl .full 2 []),(.sl .full 5 []),(.int .i64 0),(.int .i64 0),(.str []),(.sl .full 2 []),(.sl .full 5 [])],none⟩,⟨(some 8),.alloc kR,none⟩,⟨(some 9),.alloc [(.int .i64 0),(.int .i64 0)],none⟩,xs 17 7 26,xs 18 8 27,xs 2 9 28])
 (.seq (.seq (.aa [xl 2 29 9,⟨(some 30),.build [(.int .i64 0),(.int .i64 0)] [],none⟩,⟨(some 31),.kS true [1,1] (.s 29) (.s 30),none⟩])
 (.cond (.s 31) (.seq (.aa [xf 0 32 7,xo 33 32,xB .eql 34 33 0,xm 35 34,xg 35 (xc 8 36 []),⟨(some 37),.pick (.s 35) (.s 36) (.c (.bool false)),none⟩,xm 6 37])
 (.ret))
 (.skip)))
 (.seq (.tu [10,11,12] [(xl 2 39 3,[1]),(xl 3 40 4,[1]),(xl 17 41 7,[]),(xc 15 42 [.s 41],[]),(xc 9 43 [.s 39,.s 40,.s 42],[]),(xm 38 43,[]),(xe 44 38 0,[]),(xe 45 38 1,[]),(xe 46 38 2,[]),(⟨none,.mv (.c .any),none⟩,[]),(⟨none,.mv (.c .any),none⟩,[]),(⟨none,.mv (.c .any),none⟩,[]),(⟨(some 10),.kf 17 (.s 44),none⟩,[]),(⟨(some 11),.kf 18 (.s 45),none⟩,[]),(⟨(some 12),.kf 2 (.s 46),none⟩,[])])
 (.seq (.aa [xl 2 47 12,⟨(some 48),.build [(.int .i64 0),(.int .i64 0)] [],none⟩,⟨(some 49),.kS false [1,1] (.s 47) (.s 48),none⟩,xm 50 49,xg 50 (xl 17 51 7),xg 50 (xl 17 52 10),xg 50 (xc 16 53 [.s 51,.s 52]),⟨(some 54),.pick (.s 50) (.s 53) (.c (.bool false)),none⟩,xm 55 54,xg 55 (xl 18 56 8),xg 55 (xl 18 57 11),xg 55 (xc 12 58 [.s 56,.s 57]),⟨(some 59),.pick (.s 55) (.s 58) (.c (.bool false)),none⟩,xm 60 59,xg 60 (xc 8 61 []),⟨(some 62),.pick (.s 60) (.s 61) (.c (.bool false)),none⟩,xm 6 62])
 (.ret))))))
theorem fn4:aK prog 4 Qm [.tmp 6] 63:=⟨f4,⟨[],[],[]⟩,func4,by kernel_rfl,by kernel_rfl,by kernel_rfl,by kernel_rfl⟩
theorem ZV (s:au) (c:ag) (σ:ae) (hl:c.left.bS≤100000) (hr:c.right.bS≤100000):al prog 12 [.agg (oK s c).enc,.agg (oK s c).enc] σ fun v σ' => v = .bool true∧σ' = σ:=by
  refine apP _ σ ?_ ?_ ?_
  all_goals
    unfold oK;split
  · exact ab_ s c hl
  · simp[jj.zero]
  · exact(SY s c hl hr).1
  · simp[jj.zero,dE.zero]
  · exact(SY s c hl hr).2
  · simp[jj.zero,dE.zero]
theorem als {s:au} {r:Rm} {t:List UInt8} (h:(jW s r t).2.2.cls≠0):(jW s r t).1.op=0:=by
  by_cases hr:(cO t).2.1=0
  · by_cases hf:(fz (kz s r (cO t).1)).cls=0
    · rw[Gb hr hf] at h;exact absurd rfl h
    · rw[KV hr hf];rfl
  · rw[KU hr];rfl
theorem arR (s:au) (r:Rm) (t:List UInt8) {σ:ae} (hg:TZ σ) (lX:σ.bR 0=some fQ) :
    al prog 4 [.agg s.enc,.agg r.enc,.str t] σ fun v σ' => v = .bool true∧σ' = σ:=by
  have D9:=ZH hg lX;have c1:=fun h1 U=>FQ s r t (σ:=σ) h1 hg lX U
  refine fn4.calls ?_;simp only[aJ,Qm,am,aR,Nat.reduceAdd,au.af,Rm.af,kR];refine cl (aaH s σ) ?_;cases hb:wO s with
  | true =>
    simp only[am];refine cl D9 ?_;simp only[am];refine az ?_;simp[V.erase]
  | false =>
    have hs:=aaK hb
    by_cases o1:1500<t.length
    · simp only[am,aD (show (1500:Int)<t.length by omega)];refine cl D9 ?_;simp only[am];refine az ?_;simp[V.erase]
    simp only[am,au.af,Rm.af,aB (show ¬(1500:Int)<t.length by omega)]
    by_cases hw:(jW s r t).2.2.cls=0
    case neg =>
      have h0:=als hw;generalize jW s r t=X at c1 hw h0;obtain⟨c,x,f⟩:=X;simp only[x7] at c1 hw h0;obtain⟨a1,a2,a3,a4,a5⟩:=Ea x;generalize x.enc=A at c1 a1 a2 a3 a4 a5;refine cl (c1 hs (by omega)) ?_;simp only[am,Nat.reduceAdd,bZ,aA.af,eg,fg,iF,a1,a3,a5,EM,aB (show ¬f=⟨0,0⟩ from fun e=>hw (by rw[e])),h0];refine cl D9 ?_;simp only[am];refine az ?_;simp[V.erase]
    obtain⟨hr,e1,d,e2,e3,e4⟩:=arU hw;rw[e1] at c1;have bM:=Lm (t:=t) (by omega);have Ua:(fc (cO t).1).length≤2*t.length:=by
      rcases SF t with ⟨c,hc⟩ | ⟨k,a,hc,hk,_⟩
      · have:=(Q3 hc).2.2;rw[hc];exact this
      · rw[hc] at hr;simp only[mu] at hr;omega
    have J2:=Lm (t:=fc (cO t).1) (by omega);have c2:=fun h1 U=>FQ s r (fc (cO t).1) (σ:=σ) h1 hg lX U
    rw[e4] at c2;rw[e2] at J2;generalize (cO t).1=c at *;simp only[x7] at c1 c2 J2;have c3:=ZV s c σ bM.l bM.r;obtain⟨a1,a2,a3,a4,a5⟩:=Ea (oK s c);generalize (oK s c).enc=A at c1 c2 c3 a1 a2 a3 a4 a5;refine cl (c1 hs (by omega)) ?_;simp only[am,Nat.reduceAdd,bZ,Nat.reduceLT,aA.af,au.af,Rm.af,eg,iF,a1,a3,a5,EM,show decide (aA.zero=⟨0,0⟩)=true from rfl];refine br.intro (R9 c lX bM.w) ?_;simp only[am,au.af,Rm.af];refine br.intro (c2 hs (by omega)) ?_;simp only[am,Nat.reduceAdd,aA.af,au.af,Rm.af,eg,a1,a3,EM,show decide (aA.zero=⟨0,0⟩)=true from rfl];refine cl (acH c d _ bM.n J2.n (by have:=bM.p;simp only[aF];omega) bM.wl bM.wr) ?_;simp only[am,e3,a2,a4];refine cl c3 ?_;simp only[am];refine cl D9 ?_;simp only[am];refine az ?_;simp[V.erase]
end Go.Proofs.Tryz
namespace Go.Proofs.Tryz
open Go.Am Go.ChangeShapes Go.WideShapes Go.ChangeAt Go.RowKit
open Go.Proofs.YtkeidlpchmepkaaGreatDoor
set_option maxRecDepth 100000 in
theorem ako (H:Type) (enc:TypeId × Value→H) (W:World) (base:Nat) (args:Array Value) (ds gs:List (DataW H)) (before:List MemPlace)
    (zW:∀(j:Nat) t v,f4.params[j]?=some t→args[j]?=some v→Value.okWide prog W .any base t v)
    (hW:DataW.Whole enc prog f4.params.toList Rows.judgeTextSpec.vars false W args.toList ds gs before) (hk:Rows.uptoSmall H (ds++gs)=true) (hL:laidMetH prog Rows.judgeTextRow.laid W) :
    Calls prog 4 args W fun e W' => ∃v,e = .returned v∧Rows.judgeTextSpec.post enc prog f4 false true false false W args v W' := by
  have BX := hW;obtain⟨p,q,hA0,hV,rfl,JN,Ce⟩:=hW;have hA:DataW.TrodAll enc prog W 0 (fun _=>true) true f4.params.toList args.toList ds p:=hA0;rw[params4] at hA zW;obtain⟨v0,vs0,d0,Sf,p0,q0,Jq,rfl,rfl,⟨n0,h0⟩,r0⟩:=trodAll_cons hA;obtain⟨v1,vs1,d1,ds1,p1,q1,rfl,rfl,rfl,⟨n1,h1⟩,r1⟩:=trodAll_cons r0;obtain⟨v2,Hg,d2,ds2,p2,q2,rfl,rfl,rfl,⟨n2,U⟩,r2⟩:=trodAll_cons r1;obtain⟨rfl,rfl,rfl⟩:=trodAll_nil r2;obtain rfl:args=#[v0,v1,v2]:=by cases args;simp_all
  obtain⟨rfl,rfl⟩:=trodVars_none hV;have hG:=aiw hL;obtain⟨_,a0,_,y0,rfl,b0⟩:=apH n0 (HT _) _ _ h0;obtain⟨_,a1,_,y1,rfl,b1⟩:=apF n1 (HT _) _ _ h1;obtain⟨_,a2,_,y2,rfl,b2⟩:=GL n2 (HT _) _ _ U;have hb:Rows.uptoBulkAll [d0,d1,d2]≤1048576:=by
    have h:=Ll hk;rw[dn] at h;exact h
  simp only[Rows.uptoBulkAll] at hb;simp only[dn] at BX;have s0:=YI underlying25 (zW 0 25 v0 rfl rfl) a0;have s1:=YI underlying27 (zW 1 27 v1 rfl rfl) a1;have s2:=ase underlying9 (zW 2 9 v2 rfl rfl) a2;refine akV (arR y0 y1 y2 rfl rfl) hG ?_ laid aqj aib rfl underlying4 (by rw[params4];decide +kernel) rfl ⟨rfl,rfl,rfl⟩ BX;simp only[RL,fO];exact⟨s0,s1,s2⟩
set_option maxRecDepth 100000 in
theorem akp (os:Os):laidMet prog Rows.judgeTextRow.laid ((KJ os).forCall (fun _ _=>0) ⟨#[],#[.agg #[.slice none 0 0,.slice none 0 0],.agg #[.int .i64 0,.int .i64 0,.int .i64 0],.string ⟨#[]⟩],[]⟩).memory :=
  laidMet_of_run' 8 (by kernel_rfl) (by kernel_rfl)
theorem akt (os:Os) {H:Type} (enc:TypeId × Value→H):∃places,DataW.whole enc prog ((KJ os).forCall (fun _ _=>0) ⟨#[],#[.agg #[.slice none 0 0,.slice none 0 0],.agg #[.int .i64 0,.int .i64 0,.int .i64 0],.string ⟨#[]⟩],[]⟩).memory f4.params.toList Rows.judgeTextSpec.vars false (#[.agg #[.slice none 0 0,.slice none 0 0],.agg #[.int .i64 0,.int .i64 0,.int .i64 0],.string ⟨#[]⟩]:Array Value).toList 8=some ([.agg [.nil,.nil],.agg [.lit (.int .i64 0),.lit (.int .i64 0),.lit (.int .i64 0)],.lit (.string [])],[],places) :=
  ⟨[],by kernel_rfl⟩
set_option maxRecDepth 100000 in
theorem akq (os:Os) (started:os.Started) (H:Type) (enc:TypeId × Value→H) (F:Stop.Interp) :
    ReturnsInHanded {} checked os 4 .any ((Rows.OpenSpec.upto Rows.judgeTextSpec).preRow enc prog f4 Rows.judgeTextUptoRow.domain false Rows.judgeTextUptoRow.laid) (((Rows.OpenSpec.upto Rows.judgeTextSpec).at F).post enc prog f4 false true false false):=by
  obtain⟨places,hx⟩:=akt os enc;refine returnsInHanded_of_row (C:=checked) (s:=Rows.OpenSpec.upto Rows.judgeTextSpec) own started (by kernel_rfl) func4
    (witness_row_at (enc:=enc) (C:=checked) false (KJ os) #[.agg #[.slice none 0 0,.slice none 0 0],.agg #[.int .i64 0,.int .i64 0,.int .i64 0],.string ⟨#[]⟩] rfl (by kernel_rfl) (by kernel_rfl) (by kernel_rfl)
      (OpenSpec.preRow_of_cond 8 hx (by kernel_rfl) (fun k hk=>by cases hk;kernel_rfl) (by kernel_rfl) (akp os))) ?_
  intro W base args ds gs before zW hW _ ai7 _ hL _ _;exact ako H enc W base args ds gs before zW hW (ai7 _ rfl) hL
theorem aks:Rows.JudgeTextUptoSaid :=
  OpenClaim.holds_of_cond 4 f4 rfl rfl rfl rfl rfl rfl rfl ⟨rfl,rfl,rfl,rfl,rfl⟩ rfl rfl rfl rfl rfl (by kernel_rfl) func4 (by kernel_rfl)
    (Ll (by kernel_rfl)) (by unfold Func.isWrapper;first | (rw[ak (by decide +kernel)];kernel_rfl) | (rw[ah (by decide +kernel)];exact⟨rfl,rfl⟩))
    (fun os started H enc _ F=>by rw[OpenClaim.pre_eq_preRow];exact akq os started H enc F)
theorem akr (f:FuncId) (fn:Func) (hf:YtkeidlpchmepkaaGreatDoor.Tryz.pinned.checked.prog.funcNamed "clearance/clearancelaw16.JudgeText" = some f) (tQ:YtkeidlpchmepkaaGreatDoor.Tryz.pinned.checked.prog.funcs[f]?=some fn) :
    false=YtkeidlpchmepkaaGreatDoor.Tryz.pinned.checked.prog.looks []∧∀(j:Nat) t,fn.params[j]?=some t→YtkeidlpchmepkaaGreatDoor.Tryz.pinned.checked.prog.wantsStandIn t=false:=by
  obtain rfl:f=4:=mV ((show prog.funcNamed "clearance/clearancelaw16.JudgeText" = some 4 by kernel_rfl).symm.trans hf) |>.symm;obtain rfl:fn=f4:=(mV (func4.symm.trans tQ)).symm;refine⟨by kernel_rfl,fun j t ht=>?_⟩;rw[params4] at ht;have h:t=25∨t=27∨t=9:=by simpa using Nf ht
  rcases h with rfl | rfl | rfl
  · exact(show prog.wantsStandIn 25=false by kernel_rfl)
  · exact(show prog.wantsStandIn 27=false by kernel_rfl)
  · exact(show prog.wantsStandIn 9=false by kernel_rfl)
theorem akn:Rows.JudgeTextUptoCardSaid :=
  Claim7.holds_tied_plain_at .later [] _ _ _ _ aks (fun _ h=>by cases h) (by kernel_rfl) (fun _ h=>by cases h) judgeTextUpto_row_tie rfl ⟨rfl,rfl⟩ (by kernel_rfl) rfl akr (by kernel_rfl)
end Go.Proofs.Tryz
namespace Go.Proofs.YtkeidlpchmepkaaGreatDoor
/-- For every scope, room and line: the text of a line's command is judged as the line: it is the same command, and the same assertion (JudgeText), where what comes in is of bulk at most 1048576. -/
theorem judgeText_card_holds : Rows.JudgeTextUptoCardSaid := Go.Proofs.Tryz.akn
end Go.Proofs.YtkeidlpchmepkaaGreatDoor
