/-
  Part 6 of the proof of JudgeTextUptoCardSaid: a logic over the model, the forms of the functions that the law reaches, and what they compute.
-/
import Derived.Test.YtkeidlpchmepkaaGreatDoorProg
import Derived.Test.YtkeidlpchmepkaaGreatDoorText5
set_option linter.unusedVariables false
set_option linter.unusedSimpArgs false
set_option linter.defProp false
set_option linter.unusedSectionVars false
namespace Go.Proofs.Tryz
open Go.Am
set_option maxRecDepth 4000
set_option maxHeartbeats 4000000
def Pp:AC:=.seq (.aa [⟨(some 2),.mv (.c (.int .u64 0)),none⟩])
 (.seq (.aa [⟨(some 3),.mv (.c (.int .u64 0)),none⟩])
 (.seq (.seq (.aa [xm 6 0,xL 7 6,xi 8 0])
 (.block 0 (.loop (.seq (.aa [xb .lss 9 8 7])
 (.seq (.cond (.s 9) (.skip)
 (.exit 0))
 (.seq (.block 1 (.seq (.aa [xA 1 10 6 8,xo 11 10,xm 5 11])
 (.aa [xm 12 3,xm 13 5,xc 220 14 [.s 12,.s 13],xm 3 14])))
 (.aa [xB .add 15 8 1,xm 8 15])))))))
 (.seq (.aa [xm 16 3,xm 2 16])
 (.ret))))
theorem agu:aK prog 215 Pp [.tmp 2] 17:=⟨f215,⟨[],[],[]⟩,func215,by kernel_rfl,by kernel_rfl,by kernel_rfl,by kernel_rfl⟩
def Pv:AC:=.seq (.aa [⟨(some 4),.mv (.c (.int .u64 0)),none⟩])
 (.seq (.seq (.aa [xm 5 1,xc 253 6 [.s 5],⟨(some 7),.not (.s 6),none⟩])
 (.cond (.s 7) (.seq (.aa [xm 8 0,xm 4 8])
 (.ret))
 (.skip)))
 (.seq (.aa [xm 9 0,xm 10 1,⟨(some 11),.nZ .u64 (.s 10),none⟩,⟨(some 12),.dA .shl (.c (.int .u64 1)) (.s 11),none⟩,xb .or 13 9 12,xm 4 13])
 (.ret)))
theorem agA:aK prog 220 Pv [.tmp 4] 14:=⟨f220,⟨[],[],[]⟩,func220,by kernel_rfl,by kernel_rfl,by kernel_rfl,by kernel_rfl⟩
def Pw:AC:=.seq (.aa [⟨(some 4),.mv (.c (.bool false)),none⟩])
 (.seq (.aa [xm 5 1,xc 253 6 [.s 5],xm 7 6,xg 7 (xm 8 0),xg 7 (xm 9 1),⟨(some 10),.nZ .u64 (.s 9),(some (7,true))⟩,xg 7 (xb .shr 11 8 10),⟨(some 12),.dA .and (.s 11) (.c (.int .u64 1)),(some (7,true))⟩,⟨(some 13),.dA .eql (.s 12) (.c (.int .u64 1)),(some (7,true))⟩,⟨(some 14),.pick (.s 7) (.s 13) (.c (.bool false)),none⟩,xm 4 14])
 (.ret))
theorem agB:aK prog 221 Pw [.tmp 4] 15:=⟨f221,⟨[],[],[]⟩,func221,by kernel_rfl,by kernel_rfl,by kernel_rfl,by kernel_rfl⟩
def PR:AC:=.seq (.aa [⟨(some 2),.mv (.c (.sl .full 1 [])),none⟩])
 (.seq (.aa [⟨(some 3),.mX [(.sl .full 1 [])],none⟩])
 (.seq (.aa [xm 4 0,⟨(some 5),.ix (.func 269) [] [(.s 3)],none⟩,xc 268 6 [.s 4,.s 5]])
 (.seq (.aa [xo 7 3,xm 2 7])
 (.ret))))
theorem agU:aK prog 249 PR [.tmp 2] 8:=⟨f249,⟨[3],[],[]⟩,func249,by kernel_rfl,by kernel_rfl,by kernel_rfl,by kernel_rfl⟩
def PS:AC:=.seq (.aa [⟨(some 4),.mv (.c (.bool false)),none⟩])
 (.seq (.aa [xm 5 0,xm 6 1,xb .andNot 7 5 6,⟨(some 8),.dA .eql (.s 7) (.c (.int .u64 0)),none⟩,xm 4 8])
 (.ret))
theorem agV:aK prog 250 PS [.tmp 4] 9:=⟨f250,⟨[],[],[]⟩,func250,by kernel_rfl,by kernel_rfl,by kernel_rfl,by kernel_rfl⟩
def PV:AC:=.seq (.aa [⟨(some 2),.mv (.c (.bool false)),none⟩])
 (.seq (.aa [xm 3 0,xB .geq 4 3 0,xm 5 4,xg 5 (xm 6 0),xg 5 (xB .lss 7 6 64),⟨(some 8),.pick (.s 5) (.s 7) (.c (.bool false)),none⟩,xm 2 8])
 (.ret))
theorem agY:aK prog 253 PV [.tmp 2] 9:=⟨f253,⟨[],[],[]⟩,func253,by kernel_rfl,by kernel_rfl,by kernel_rfl,by kernel_rfl⟩
def P4:AC:=.seq (.aa [⟨(some 2),.mv (.c (.int .u64 0)),none⟩])
 (.seq (.seq (.aa [xm 3 0,xB .leq 4 3 0])
 (.cond (.s 4) (.seq (.aa [⟨(some 2),.mv (.c (.int .u64 0)),none⟩])
 (.ret))
 (.skip)))
 (.seq (.seq (.aa [xm 5 0,xB .geq 6 5 64])
 (.cond (.s 6) (.seq (.aa [⟨(some 2),.mv (.c (.int .u64 18446744073709551615)),none⟩])
 (.ret))
 (.skip)))
 (.seq (.aa [xm 7 0,⟨(some 8),.nZ .u64 (.s 7),none⟩,⟨(some 9),.dA .shl (.c (.int .u64 1)) (.s 8),none⟩,⟨(some 10),.dA .sub (.s 9) (.c (.int .u64 1)),none⟩,xm 2 10])
 (.ret))))
theorem ag7:aK prog 267 P4 [.tmp 2] 11:=⟨f267,⟨[],[],[]⟩,func267,by kernel_rfl,by kernel_rfl,by kernel_rfl,by kernel_rfl⟩
def P5:AC:=.block 0 (.loop (.seq (.seq (.aa [xm 4 0,⟨(some 5),.dA .neq (.s 4) (.c (.int .u64 0)),none⟩])
 (.cond (.s 5) (.skip)
 (.exit 0)))
 (.block 1 (.seq (.seq (.aa [xm 6 1,xm 7 0,xc 278 8 [.s 7],⟨(some 9),.gC (.s 6) [(.s 8)],none⟩,⟨(some 10),.not (.s 9),none⟩])
 (.cond (.s 10) (.ret)
 (.skip)))
 (.aa [xm 11 0,xm 12 0,⟨(some 13),.dA .sub (.s 12) (.c (.int .u64 1)),none⟩,xb .and 14 11 13,xm 0 14])))))
theorem ag8:aK prog 268 P5 [] 15:=⟨f268,⟨[],[],[]⟩,func268,by kernel_rfl,by kernel_rfl,by kernel_rfl,by kernel_rfl⟩
def P6:AC:=.seq (.aa [⟨(some 3),.mv (.c (.bool false)),none⟩])
 (.seq (.aa [xo 4 1,xm 5 0,⟨(some 6),.cR 1 [(.s 5)],none⟩,xa 1 7 4 6,xs 1 1 7])
 (.seq (.aa [⟨(some 3),.mv (.c (.bool true)),none⟩])
 (.ret)))
theorem ag9:aK prog 269 P6 [.tmp 3] 8:=⟨f269,⟨[],[],[]⟩,func269,by kernel_rfl,by kernel_rfl,by kernel_rfl,by kernel_rfl⟩
def Qb:AC:=.seq (.aa [xi 2 0])
 (.seq (.seq (.aa [xm 3 0,⟨(some 4),.dA .eql (.s 3) (.c (.int .u64 0)),none⟩])
 (.cond (.s 4) (.seq (.aa [xi 2 64])
 (.ret))
 (.skip)))
 (.seq (.aa [xm 5 0,xm 6 0,⟨(some 7),.dA .sub (.c (.int .u64 0)) (.s 6),none⟩,xb .and 8 5 7,⟨(some 9),.dA .mul (.s 8) (.c (.int .u64 285870213051353865)),none⟩,⟨(some 10),.dA .shr (.s 9) (.c (.int .u64 58)),none⟩,⟨(some 11),.fk 64 1 (.c (.ptr (.jt 1) 0)) (.s 10),none⟩,xo 12 11,⟨(some 13),.nZ .i64 (.s 12),none⟩,xm 2 13])
 (.ret)))
theorem ahe:aK prog 278 Qb [.tmp 2] 14:=⟨f278,⟨[],[],[]⟩,func278,by kernel_rfl,by kernel_rfl,by kernel_rfl,by kernel_rfl⟩
def iY (l:List Int):List (List V):=l.map fun n=>[.int .i64 n]
theorem FI (l:List Int):(iY l).length=l.length:=by simp[iY]
theorem FH {l:List Int} {j:Nat} (h:j<l.length):(iY l)[((j:Nat):Int).toNat]?=some [.int .i64 l[j]]:=by simp[iY,h]
theorem VJ (n:Int) (σ:ae):al prog 253 [.int .i64 n] σ fun v σ' => v = .bool (decide (0≤n)&&decide (n<64))∧σ' = σ:=by
  refine agY.calls ?_;simp only[aJ,PV,am,aR]
  by_cases h:0≤n
  · simp only[am,aD h];refine az ?_;simp[V.erase]
  · simp only[am,aB h];refine az ?_;simp[V.erase]
def Zb:=And.intro @am <| And.intro @aR <| And.intro @ry @MQ
theorem CQ (s:aY) (n:Int) (σ:ae):al prog 220 [.int .u64 (s.toNat:Nat),.int .i64 n] σ fun v σ' => v = .int .u64 ((jg s n).toNat:Nat)∧σ' = σ:=by
  refine agA.calls ?_;simp only[aJ,Pv,Zb,Nat.reduceAdd];refine cl (VJ n _) ?_;simp only[am]
  by_cases h:0≤n∧n<64
  · obtain⟨m,rfl⟩:∃m:Nat,n=m:=⟨n.toNat,by omega⟩;simp only[am,AQ,MR,aD h.1,aD h.2,wrap_u64 h.1 (by omega:(m:Int)<18446744073709551616)];refine az ?_;simp[V.erase,jg,h,oO]
  · have:(decide (0≤n)&&decide (n<64))=false:=by simp only[Dy,zi];omega
    simp only[am,this];refine az ?_;simp[V.erase,jg,h]
theorem CP (l:List Int) (σ:ae) (hl:l.length≤100000):al prog 215 [.sl .no 1 (iY l)] σ fun v σ' => v = .int .u64 ((mM l).toNat:Nat)∧σ' = σ:=by
  refine agu.calls ?_;simp only[aJ,Pp,am,aR,ry];obtain⟨F,hF⟩:∃F:Nat→aY→St,∀i x,F i x=⟨[.sl .no 1 (iY l),.any,.int .u64 ((0#64:aY).toNat:Nat),.int .u64 (x.toNat:Nat),.any,.any,.sl .no 1 (iY l),.int .i64 (l.length:Nat),.int .i64 (i:Nat)]++List.replicate 8 .any,[],σ⟩:=⟨_,fun _ _=>rfl⟩;obtain⟨JF,aQ⟩:∃JF:Nat→aY→Prop,∀i x,JF i x=(x=mM (l.take i)):=⟨_,fun _ _=>rfl⟩;refine dC (l.length) F JF _ aQ ?_ ?_ ?_
  · refine en (0#64) ?_ ?_ ?_ ?_
    · exact Eq.mpr (aQ _ _) (rfl)
    all_goals simp[hF,List.replicate,am,bu,FI]
  · rintro i x hi rfl;simp only[hF,List.replicate,am,dB hi];refine bD (by omega) (FH hi) ?_;simp only[am];refine cl (CQ _ _ _) ?_;simp only[am,aO,cu hi (by omega)];refine nxt (jg (mM (l.take i)) l[i]) hi ?_ ?_ ?_ ?_
    · exact Eq.mpr (aQ _ _) (by rw[kP hi];simp only[mM,A7,wD,List.foldl_nil])
    all_goals simp[hF,List.replicate,am,bu]
  · rintro x rfl;simp only[hF,List.replicate,am,aO,dG,aO,dW];refine az ?_;simp[V.erase]
theorem aq9 (s:aY) (m:Nat):decide (s>>>m&&&1#64=1#64)=s.getLsbD m:=by
  have:(s>>>m&&&1#64=1#64)↔s.getLsbD m=true:=by
    constructor
    · intro h
      have:=gm (fun x:aY=>x.getLsbD 0) h
      simpa using this
    · intro h;apply zn;intro k hk;rw[yS,BitVec.getLsbD_ushiftRight,BitVec.getLsbD_one]
      by_cases h0:k=0
      · subst h0;simp[h]
      · simp[h0]
  by_cases hc:s.getLsbD m=true
  · rw[hc,aD (this.2 hc)]
  · rw[aB (fun h=>hc (this.1 h))];simpa using hc
def z1_:=And.intro @am <| And.intro @uJ <| And.intro @MS @AP
theorem amd (s:aY) (n:Int) (σ:ae):al prog 221 [.int .u64 (s.toNat:Nat),.int .i64 n] σ fun v σ' => v = .bool (hasB s n)∧σ' = σ:=by
  refine agB.calls ?_;simp only[aJ,Pw,am,aR,Nat.reduceAdd,MQ];refine cl (VJ n _) ?_;simp only[am]
  by_cases h:0≤n∧n<64
  · obtain⟨m,rfl⟩:∃m:Nat,n=m:=⟨n.toNat,by omega⟩;simp only[z1_,aD h.1,aD h.2,wrap_u64 h.1 (by omega:(m:Int)<18446744073709551616),aq9];refine az ?_;simp[V.erase,hasB]
  · have:(decide (0≤n)&&decide (n<64))=false:=by simp only[Dy,zi];omega
    simp only[am,this];refine az ?_;simp[V.erase,hasB];intro h0;exact A1 _ _ (by omega)
def Zc:=And.intro @am <| And.intro @aR <| And.intro @ry <| And.intro @YM @AP
theorem ame (a b:aY) (σ:ae):al prog 250 [.int .u64 (a.toNat:Nat),.int .u64 (b.toNat:Nat)] σ fun v σ' => v = .bool (yD a b)∧σ' = σ:=by
  refine agV.calls ?_;simp only[aJ,PS,Zc,Nat.reduceAdd];refine az ?_;simp[V.erase,yD]
def z3_:=And.intro @am <| And.intro @aR <| And.intro @ry <| And.intro @MQ @asK
theorem CO (n:Int) (σ:ae):al prog 267 [.int .i64 n] σ fun v σ' => v = .int .u64 ((nf n).toNat:Nat)∧σ' = σ:=by
  refine ag7.calls ?_;simp only[aJ,P4,z3_]
  by_cases h:n≤0
  · simp only[am,aD h];refine az ?_;simp[V.erase,nf,h]
  · simp only[am,aB h]
    by_cases h1:64≤n
    · simp only[am,aD h1];refine az ?_;simp[V.erase,nf,h,h1]
    · obtain⟨m,rfl⟩:∃m:Nat,n=m:=⟨n.toNat,by omega⟩;simp only[am,MR,MT,aB h1,wrap_u64 (by omega:0≤(m:Int)) (by omega:(m:Int)<18446744073709551616)];have e:nf (m:Int)=oO m - 1#64:=by simp only[nf,h,h1,bP,iP]
      refine az ?_;simp[V.erase,e,oO]
abbrev TZ (σ:ae):Prop:=σ.bR 1=some uF
theorem asc (s:aY) (h:s≠0#64) {σ:ae} (hg:TZ σ):al prog 278 [.int .u64 (s.toNat:Nat)] σ fun v σ' => v = .int .i64 (mK s:Nat)∧σ' = σ:=by
  refine ahe.calls ?_;simp only[aJ,Qb,Zc];obtain⟨h1,U⟩:=asb (mK s) (CJ h).1;simp only[am,uJ,MT,aB h,show V.int .u64 285870213051353865 = .int .u64 ((285870213051353865#64:aY).toNat:Nat) from rfl,asI];rw[BitVec.zero_sub,amz h];generalize hj:((oO (mK s)*285870213051353865#64)>>>58).toNat=j at h1 U;have e58:∀a:aY,gV .u64 (a.toNat:Nat) 58 .shr=some (.int .u64 ((a>>>58).toNat:Nat)):=fun a=>MS (m:=58)
  simp only[am,cf,e58,hj];refine jx (by omega) (by omega) ?_;have hd:bf false 1 (uF.drop j)=some (.int .u8 (mK s:Nat)):=by
    obtain⟨h3,h4⟩:=dD.1 U;have h5:j<uF.length:=by simpa [uF] using h3
    rw[kN h5];simp[bf,uF,h4]
  rw[show (((j:Nat):Int).toNat)*1=j by omega];simp only[am,show σ.bR 1=some uF from hg,hd,wrap_i64 (x:=((mK s:Nat):Int)) (by omega) (by have:=(CJ h).1;omega)];refine az ?_;simp[V.erase]
def z4_:=And.intro @am <| And.intro @aO <| And.intro @uJ @MT
theorem adx (f:FuncId) (cap:List V) (hn:bm cap=true) (J:List Nat→ae→Prop) (s:aY) (hg:∀l σ,J l σ→TZ σ)
    (h:∀pre k Yu σ,eU s=pre++k::Yu→J pre σ→al prog f (.int .i64 (k:Nat)::cap) σ fun v σ' => v = .bool true∧J (pre++[k]) σ')
    {σ:ae} (h0:J [] σ):al prog 268 [.int .u64 (s.toNat:Nat),.fn (.func f) [] cap] σ fun v σ' => v = .aX []∧J (eU s) σ' := by
  refine ag8.calls ?_;simp only[aJ,P5,Zb,Nat.reduceAdd];obtain⟨F,hF⟩:∃F:Nat→aY × ae→St,∀i x,F i x=⟨[.int .u64 (x.1.toNat:Nat),.fn (.func f) [] cap]++List.replicate 13 .any,[],x.2⟩:=⟨_,fun _ _=>rfl⟩;obtain⟨JF,aQ⟩:∃JF:Nat→aY × ae→Prop,∀i x,JF i x=(eU x.1=(eU s).drop i∧J ((eU s).take i) x.2):=⟨_,fun _ _=>rfl⟩;refine dC ((eU s).length) F JF _ aQ ?_ ?_ ?_
  · refine en ((s,σ)) ?_ ?_ ?_ ?_
    · exact Eq.mpr (aQ _ _) (⟨rfl,h0⟩)
    all_goals simp[hF,List.replicate,am,bu]
  · rintro i ⟨x,σ⟩ hi ⟨h1,U⟩;simp only at h1 U;have hx:x≠0#64:=alx (by rw[h1];simp;omega);rw[kN hi] at h1;have hl:=Vu hx;rw[h1,fM] at hl;obtain⟨zO,jQ⟩:=hl;simp only[hF,List.replicate,am,AP,aB hx];refine cl (asc x hx (hg _ _ U)) ?_;simp only[am];simp only[am,hn];rw[←zO];refine(h _ _ ((eU s).drop (i+1)) σ (by rw[←kN hi,nR]) U).mono ?_;rintro v σ' ⟨rfl,h3⟩;simp only[z4_];refine nxt ((x&&&(x - 1#64),σ')) hi ?_ ?_ ?_ ?_
    · exact Eq.mpr (aQ _ _) (⟨jQ.symm,by rw[kP hi];exact h3⟩)
    all_goals simp[hF,List.replicate,am,bu]
  · rintro⟨x,σ⟩ ⟨h1,U⟩;simp only[DF,dW] at h1 U;have hx:=alz h1;subst hx;simp only[hF,List.replicate,am,aO,bZ,aO];exact aG rfl (ae.aW _) ⟨rfl,U⟩
def Bx (cC σ:ae) (b:Nat) (tk:Tk) (rows:List (List V)):Prop:=σ.box b=some [.sl tk 1 rows]∧Gr cC σ tk rows.length∧cC.box b=none
theorem alu (n:Int) {cC σ:ae} {b:Nat} {tk:Tk} {l:List Int} (h:Bx cC σ b tk (iY l)) (hl:l.length≤100000) :
    al prog 269 [.int .i64 n,.ptr (.out b) 0] σ fun v σ' => v = .bool true∧∃jI,Bx cC σ' b jI (iY (l++[n])):=by
  refine ag9.calls ?_;simp only[aJ,P6,am,aR,Nat.reduceAdd];obtain⟨h1,U,h3⟩:=h;simp only[am,h1];refine Gr.app U (by simp[iY,aF];omega) fun jI σ' hG hB _=>?_
  simp only[am,show σ'.box b=some [.sl tk 1 (iY l)] by rw[hB,h1]];refine aG rfl (ae.aW _) ⟨rfl,jI,?_,?_,h3⟩
  · simp[ae.set,iY]
  · refine⟨⟨fun c cs hc=>?_,hG.sub.2⟩,?_⟩
    · rw[ae.dc]
      · exact hG.sub.1 c cs hc
      · rintro rfl;rw[h3] at hc;simp at hc
    · simpa [iY,ae.set] using hG.tk
theorem K8 (s:aY) {σ:ae} (hg:TZ σ):al prog 249 [.int .u64 (s.toNat:Nat)] σ fun v σ' => v = .sl .no 1 (iY ((eU s).map Int.ofNat))∧σ' = σ:=by
  refine agU.calls ?_;simp only[aJ,PR,am,aR];refine iw fun b hb=>?_
  simp only[am];have hl:=Gc s;refine(adx _ _ rfl (fun l σ' => ∃tk,Bx σ σ' b tk (iY (l.map Int.ofNat))) s ?_ ?_ ⟨.full,?_⟩).mono ?_
  · rintro l σ' ⟨tk,h1,U,h3⟩;exact U.sub.2.2 _ _ hg
  · rintro pre k Yu σ' hs ⟨tk,h⟩
    have:pre.length≤64:=by rw[hs] at hl;simp at hl;omega
    have:=alu k h (by simp;omega)
    simpa using this
  · exact⟨iM,⟨fU hb,.inl rfl⟩,hb⟩
  · rintro v σ' ⟨rfl,tk,h1,U,h3⟩;simp only[am,h1];exact aG rfl U.sub ⟨rfl,rfl⟩
def OL:AC:=.seq (.aa [⟨(some 1),.box 65 (.s 0),none⟩,⟨(some 2),.mv (.c (.bool false)),none⟩])
 (.seq (.seq (.aa [xl 65 4 1,xc 212 5 [.s 4],⟨(some 6),.not (.s 5),none⟩])
 (.cond (.s 6) (.seq (.aa [⟨(some 2),.mv (.c (.bool false)),none⟩])
 (.ret))
 (.skip)))
 (.seq (.seq (.aa [xl 65 7 1,xc 213 8 [.s 7],xi 9 0])
 (.block 0 (.loop (.seq (.aa [xb .lss 10 9 8])
 (.seq (.cond (.s 10) (.skip)
 (.exit 0))
 (.seq (.block 1 (.seq (.aa [xm 11 9,xm 3 11])
 (.seq (.aa [xl 65 12 1,xm 13 3,xc 214 14 [.s 12,.s 13],xm 15 3,⟨(some 16),.cR 1 [(.s 15)],none⟩,xc 215 17 [.s 16],xb .neq 18 14 17])
 (.cond (.s 18) (.seq (.aa [⟨(some 2),.mv (.c (.bool false)),none⟩])
 (.ret))
 (.skip)))))
 (.aa [xB .add 19 9 1,xm 9 19])))))))
 (.seq (.aa [⟨(some 2),.mv (.c (.bool true)),none⟩])
 (.ret))))
theorem afU:aK prog 161 OL [.tmp 2] 20:=⟨f161,⟨[],[],[]⟩,func161,by kernel_rfl,by kernel_rfl,by kernel_rfl,by kernel_rfl⟩
def OP:AC:=.seq (.aa [⟨(some 1),.box 65 (.s 0),none⟩,⟨(some 2),.alloc oo,none⟩])
 (.seq (.aa [xl 65 7 1,xc 219 8 [.s 7],⟨(some 3),.alloc oo,none⟩,xs 65 3 8])
 (.seq (.seq (.aa [xf 0 9 3,xo 10 9,xi 11 0])
 (.block 0 (.loop (.seq (.aa [xb .lss 12 11 10])
 (.seq (.cond (.s 12) (.skip)
 (.exit 0))
 (.seq (.block 1 (.seq (.aa [xm 13 11,xm 4 13])
 (.aa [xm 14 4,xm 15 4,xf 1 16 3,⟨(some 17),.fk 64 1 (.s 16) (.s 15),none⟩,xo 18 17,xm 19 4,xc 220 20 [.s 18,.s 19],xf 1 21 3,⟨(some 22),.fk 64 1 (.s 21) (.s 14),none⟩,xs 1 22 20])))
 (.aa [xB .add 23 11 1,xm 11 23])))))))
 (.seq (.seq (.aa [xf 0 24 3,xo 25 24,xi 26 0])
 (.block 2 (.loop (.seq (.aa [xb .lss 27 26 25])
 (.seq (.cond (.s 27) (.skip)
 (.exit 2))
 (.seq (.block 3 (.seq (.aa [xm 28 26,xm 5 28])
 (.seq (.aa [xf 0 29 3,xo 30 29,xi 31 0])
 (.block 4 (.loop (.seq (.aa [xb .lss 32 31 30])
 (.seq (.cond (.s 32) (.skip)
 (.exit 4))
 (.seq (.block 5 (.seq (.aa [xm 33 31,xm 6 33])
 (.seq (.aa [xm 34 6,xf 1 35 3,⟨(some 36),.fk 64 1 (.s 35) (.s 34),none⟩,xo 37 36,xm 38 5,xc 221 39 [.s 37,.s 38]])
 (.cond (.s 39) (.draw [(xm 40 6,[]),(xf 1 41 3,[]),(⟨(some 42),.fk 64 1 (.s 41) (.s 40),none⟩,[]),(xo 43 42,[]),(xm 44 5,[]),(xf 1 45 3,[]),(⟨(some 46),.fk 64 1 (.s 45) (.s 44),none⟩,[]),(xo 47 46,[]),(xb .or 48 43 47,[]),(xf 1 49 3,[]),(⟨(some 50),.fk 64 1 (.s 49) (.s 40),none⟩,[]),(xs 1 50 48,[])])
 (.skip)))))
 (.aa [xB .add 51 31 1,xm 31 51])))))))))
 (.aa [xB .add 52 26 1,xm 26 52])))))))
 (.seq (.aa [xl 65 53 3,xs 65 2 53])
 (.ret)))))
theorem afX:aK prog 164 OP [.cell 2 true 65] 54:=⟨f164,⟨[],[],[]⟩,func164,by kernel_rfl,by kernel_rfl,by kernel_rfl,by kernel_rfl⟩
def Pm:AC:=.seq (.aa [⟨(some 1),.box 65 (.s 0),none⟩,⟨(some 2),.mv (.c (.bool false)),none⟩])
 (.seq (.draw [(xl 65 3 1,[]),(xc 219 4 [.s 3],[]),(xl 65 5 1,[0]),(xc 164 6 [.s 5],[]),(⟨(some 7),.kS false LW (.s 4) (.s 6),none⟩,[]),(xm 2 7,[])])
 (.ret))
theorem agr:aK prog 212 Pm [.tmp 2] 8:=⟨f212,⟨[],[],[]⟩,func212,by kernel_rfl,by kernel_rfl,by kernel_rfl,by kernel_rfl⟩
def Pn:AC:=.seq (.aa [⟨(some 1),.box 65 (.s 0),none⟩,xi 2 0])
 (.seq (.aa [xf 0 3 1,xo 4 3,⟨(some 5),.own .min [(.s 4),(.c (.int .i64 64))],none⟩,⟨(some 6),.own .max [(.c (.int .i64 0)),(.s 5)],none⟩,xm 2 6])
 (.ret))
theorem ags:aK prog 213 Pn [.tmp 2] 7:=⟨f213,⟨[],[],[]⟩,func213,by kernel_rfl,by kernel_rfl,by kernel_rfl,by kernel_rfl⟩
def Po:AC:=.seq (.aa [⟨(some 2),.box 65 (.s 0),none⟩,⟨(some 4),.mv (.c (.int .u64 0)),none⟩])
 (.seq (.aa [xm 6 1,⟨(some 7),.cR 1 [(.s 6)],none⟩,xc 215 8 [.s 7],xm 5 8])
 (.seq (.draw [(xl 65 9 2,[]),(xm 10 5,[]),(xc 247 11 [.s 9,.s 10],[]),(xl 65 12 2,[0]),(xm 13 5,[]),(xc 248 14 [.s 12,.s 13],[]),(xb .and 15 11 14,[]),(xm 4 15,[])])
 (.ret)))
theorem agt:aK prog 214 Po [.tmp 4] 16:=⟨f214,⟨[],[],[]⟩,func214,by kernel_rfl,by kernel_rfl,by kernel_rfl,by kernel_rfl⟩
def Pt:AC:=.seq (.aa [⟨(some 1),.box 65 (.s 0),none⟩,⟨(some 2),.alloc oo,none⟩])
 (.seq (.aa [xl 65 5 1,xc 213 6 [.s 5],⟨(some 7),.build oo [(0,1,(.s 6))],none⟩,⟨(some 3),.alloc oo,none⟩,xs 65 3 7])
 (.seq (.seq (.aa [xf 0 8 3,xo 9 8,xi 10 0])
 (.block 0 (.loop (.seq (.aa [xb .lss 11 10 9])
 (.seq (.cond (.s 11) (.skip)
 (.exit 0))
 (.seq (.block 1 (.seq (.aa [xm 12 10,xm 4 12])
 (.aa [xm 13 4,xl 65 14 1,xm 15 4,xc 252 16 [.s 14,.s 15],xf 1 17 3,⟨(some 18),.fk 64 1 (.s 17) (.s 13),none⟩,xs 1 18 16])))
 (.aa [xB .add 19 10 1,xm 10 19])))))))
 (.seq (.aa [xl 65 20 3,xs 65 2 20])
 (.ret))))
theorem agy:aK prog 219 Pt [.cell 2 true 65] 21:=⟨f219,⟨[],[],[]⟩,func219,by kernel_rfl,by kernel_rfl,by kernel_rfl,by kernel_rfl⟩
def Px:AC:=.seq (.aa [⟨(some 2),.alloc oo,none⟩])
 (.seq (.aa [xm 3 0,⟨(some 4),.build oo [(0,1,(.s 3))],none⟩,xc 213 5 [.s 4],⟨(some 6),.build oo [(0,1,(.s 5))],none⟩,xs 65 2 6])
 (.ret))
theorem agC:aK prog 222 Px [.cell 2 true 65] 7:=⟨f222,⟨[],[],[]⟩,func222,by kernel_rfl,by kernel_rfl,by kernel_rfl,by kernel_rfl⟩
def PO:AC:=.seq (.aa [⟨(some 2),.box 65 (.s 0),none⟩,⟨(some 4),.mv (.c (.int .u64 0)),none⟩])
 (.seq (.aa [⟨(some 5),.mv (.c (.int .u64 0)),none⟩])
 (.seq (.seq (.aa [xm 8 1,xl 65 9 2,xc 213 10 [.s 9],xc 267 11 [.s 10],xb .and 12 8 11,xc 249 13 [.s 12],xL 14 13,xi 15 0])
 (.block 0 (.loop (.seq (.aa [xb .lss 16 15 14])
 (.seq (.cond (.s 16) (.skip)
 (.exit 0))
 (.seq (.block 1 (.seq (.aa [xA 1 17 13 15,xo 18 17,xm 7 18])
 (.aa [xm 19 5,xl 65 20 2,xm 21 7,xc 252 22 [.s 20,.s 21],xb .or 23 19 22,xm 5 23])))
 (.aa [xB .add 24 15 1,xm 15 24])))))))
 (.seq (.aa [xm 25 5,xm 4 25])
 (.ret))))
theorem agS:aK prog 247 PO [.tmp 4] 26:=⟨f247,⟨[],[],[]⟩,func247,by kernel_rfl,by kernel_rfl,by kernel_rfl,by kernel_rfl⟩
def PQ:AC:=.seq (.aa [⟨(some 2),.box 65 (.s 0),none⟩,⟨(some 4),.mv (.c (.int .u64 0)),none⟩])
 (.seq (.aa [⟨(some 5),.mv (.c (.int .u64 0)),none⟩])
 (.seq (.seq (.aa [xl 65 7 2,xc 213 8 [.s 7],xi 9 0])
 (.block 0 (.loop (.seq (.aa [xb .lss 10 9 8])
 (.seq (.cond (.s 10) (.skip)
 (.exit 0))
 (.seq (.block 1 (.seq (.aa [xm 11 9,xm 6 11])
 (.seq (.aa [xl 65 12 2,xm 13 6,xc 252 14 [.s 12,.s 13],xm 15 1,xb .and 16 14 15,⟨(some 17),.dA .neq (.s 16) (.c (.int .u64 0)),none⟩])
 (.cond (.s 17) (.aa [xm 18 5,xm 19 6,xc 220 20 [.s 18,.s 19],xm 5 20])
 (.skip)))))
 (.aa [xB .add 21 9 1,xm 9 21])))))))
 (.seq (.aa [xm 22 5,xm 4 22])
 (.ret))))
theorem agT:aK prog 248 PQ [.tmp 4] 23:=⟨f248,⟨[],[],[]⟩,func248,by kernel_rfl,by kernel_rfl,by kernel_rfl,by kernel_rfl⟩
def PU:AC:=.seq (.aa [⟨(some 2),.box 65 (.s 0),none⟩,⟨(some 4),.mv (.c (.int .u64 0)),none⟩])
 (.seq (.draw [(xm 5 1,[]),(xf 1 6 2,[]),(⟨(some 7),.fk 64 1 (.s 6) (.s 5),none⟩,[]),(xo 8 7,[1,2]),(xl 65 9 2,[]),(xc 213 10 [.s 9],[]),(xc 267 11 [.s 10],[]),(xb .and 12 8 11,[]),(xm 4 12,[])])
 (.ret))
theorem agX:aK prog 252 PU [.tmp 4] 13:=⟨f252,⟨[],[],[]⟩,func252,by kernel_rfl,by kernel_rfl,by kernel_rfl,by kernel_rfl⟩
def PY:AC:=.seq (.aa [⟨(some 2),.box 65 (.s 0),none⟩,⟨(some 3),.box 65 (.s 1),none⟩,⟨(some 4),.mv (.c (.bool false)),none⟩])
 (.seq (.draw [(xl 65 5 2,[]),(xc 219 6 [.s 5],[]),(xl 65 7 3,[0]),(xc 219 8 [.s 7],[]),(⟨(some 9),.kS false LW (.s 6) (.s 8),none⟩,[]),(xm 4 9,[])])
 (.ret))
theorem ag1:aK prog 256 PY [.tmp 4] 10:=⟨f256,⟨[],[],[]⟩,func256,by kernel_rfl,by kernel_rfl,by kernel_rfl,by kernel_rfl⟩
def z5_:=And.intro @am <| And.intro @mY <| And.intro @aR @Rl.af
theorem yp (r:Rl) (σ:ae):al prog 213 [.agg r.enc] σ fun v σ' => v = .int .i64 (bp r:Nat)∧σ' = σ:=by
  refine ags.calls ?_;simp only[aJ,Pn,z5_];refine ami ?_;simp only[am,mY];refine amf ?_;simp only[am];refine az ?_;simp[V.erase];simp only[bp];split<;>split<;>omega
def rA:=And.intro @am <| And.intro @cf <| And.intro @aR <| And.intro @ry @Rl.af
def z7_:=And.intro @am <| And.intro @Rl.af <| And.intro @iP @pJ
theorem L4 (r:Rl) (i:Nat) (h:i<64) (σ:ae):al prog 252 [.agg r.enc,.int .i64 (i:Nat)] σ fun v σ' => v = .int .u64 ((gw r i).toNat:Nat)∧σ' = σ:=by
  refine agX.calls ?_;simp only[aJ,PU,rA,Nat.reduceAdd];refine jx (by omega) (by omega) ?_;simp only[z7_,Rl.uG h];refine br.intro (yp r σ) ?_;simp only[am];refine br.intro (CO _ σ) ?_;simp only[am,uJ];refine⟨⟨Rl.uG h,Rl.uG h⟩,?_⟩;refine az ?_;simp[V.erase,gw]
def Dw:=And.intro @am <| And.intro @aO <| And.intro @iP @pJ
theorem GA (r:Rl) (σ:ae):al prog 219 [.agg r.enc] σ fun v σ' => v = .agg (k_ r).enc∧σ' = σ:=by
  refine agy.calls ?_;simp only[aJ,Pt,am,aR,Rl.af];refine cl (yp r σ) ?_;simp only[am,Nat.reduceAdd,Rl.af];have hp:=@lH r;obtain⟨F,hF⟩:∃F:Nat→Unit→St,∀i x,F i x=⟨[.agg r.enc,.ptr (.loc 0) 0,.ptr (.loc 1) 0,.ptr (.loc 2) 0,.any,.any,.any,.any,.any,.int .i64 (bp r:Nat),.int .i64 (i:Nat)]++List.replicate 10 .any,[r.enc,Rl.zero.enc,(Rl.of (bp r:Nat) fun j=>if j<i then gw r j else 0#64).enc],σ⟩:=⟨_,fun _ _=>rfl⟩;obtain⟨JF,aQ⟩:∃JF:Nat→Unit→Prop,∀i x,JF i x=(True):=⟨_,fun _ _=>rfl⟩;refine dC (bp r) F JF _ aQ ?_ ?_ ?_
  · refine en (()) ?_ ?_ ?_ ?_
    · exact Eq.mpr (aQ _ _) (trivial)
    all_goals simp[hF,List.replicate,am,bu,Rl.Zd,Rl.Gn]
  · rintro i x hi -;simp only[hF,List.replicate,am,dB hi,Rl.af];refine cl (L4 r i (by omega) σ) ?_;simp only[am,cf];refine jx (by omega) (by omega) ?_;simp only[Dw,Rl.AH (show i<64 by omega),Rl.AI (show i<64 by omega),cu hi (by omega)];refine nxt (()) hi ?_ ?_ ?_ ?_
    · exact Eq.mpr (aQ _ _) (trivial)
    all_goals simp[hF,List.replicate,am,bu,Rl.fill]
  · rintro x -;simp only[hF,List.replicate,am,aO,dG,aO,Rl.af];refine az ?_;simp[V.erase,k_,Rl.cM]
theorem VW (n:Int) (σ:ae):al prog 222 [.int .i64 n] σ fun v σ' => v = .agg (Rl.of (min n.toNat 64:Nat) fun _=>0#64).enc∧σ' = σ:=by
  refine agC.calls ?_;simp only[aJ,Px,am,aR,Rl.af];refine cl (yp _ σ) ?_;simp only[am,Rl.af];refine az ?_;simp only[V.erase,Rl.cM,Rl.Zd];rfl
theorem XO (r s:Rl) (σ:ae):al prog 256 [.agg r.enc,.agg s.enc] σ fun v σ' => v = .bool (decide (k_ r=k_ s))∧σ' = σ:=by
  refine ag1.calls ?_;simp only[aJ,PY,am,aR,Nat.reduceAdd,Rl.af];refine br.intro (GA r σ) ?_;simp only[am,Rl.af];refine br.intro (GA s σ) ?_;simp only[am,Rl.af];refine az ?_;simp[V.erase]
theorem Hd (r:Rl) (w:aY) {σ:ae} (hg:TZ σ):al prog 247 [.agg r.enc,.int .u64 (w.toNat:Nat)] σ fun v σ' => v = .int .u64 ((sV r w).toNat:Nat)∧σ' = σ:=by
  refine agS.calls ?_;simp only[aJ,PO,rA,Nat.reduceAdd];refine cl (yp r σ) ?_;simp only[am];refine cl (CO _ σ) ?_;simp only[am,uJ];refine cl (K8 _ hg) ?_;simp only[am,aE,FI];generalize hl:eU (w&&&nf ↑(bp r))=l;have aj:∀k∈l,k<64:=fun k hk=>alw (hl▸hk)
  have hlen:l.length≤64:=hl▸Gc _;obtain⟨F,hF⟩:∃F:Nat→Unit→St,∀i x,F i x=⟨[.agg r.enc,.any,.ptr (.loc 0) 0,.any,.any,.int .u64 (((l.take i).foldl (fun o i=>o|||gw r i) 0#64).toNat:Nat),.any,.any,.any,.any,.any,.any,.any,.sl .no 1 (iY (l.map Int.ofNat)),.int .i64 (l.length:Nat),.int .i64 (i:Nat)]++List.replicate 10 .any,[r.enc],σ⟩:=⟨_,fun _ _=>rfl⟩;obtain⟨JF,aQ⟩:∃JF:Nat→Unit→Prop,∀i x,JF i x=(True):=⟨_,fun _ _=>rfl⟩;refine dC (l.length) F JF _ aQ ?_ ?_ ?_
  · refine en (()) ?_ ?_ ?_ ?_
    · exact Eq.mpr (aQ _ _) (trivial)
    all_goals simp[hF,List.replicate,am,bu]
  · rintro i x hi -;simp only[hF,List.replicate,am,dB hi];refine bD (by omega) (FH (l:=l.map Int.ofNat) (by simpa using hi)) ?_;simp only[am,Rl.af,Nz,Nl];refine cl (L4 r l[i] (aj _ (fD hi)) σ) ?_;simp only[am,aO,AQ,cu hi (by omega)];refine nxt (()) hi ?_ ?_ ?_ ?_
    · exact Eq.mpr (aQ _ _) (trivial)
    all_goals simp[hF,List.replicate,am,bu,S5 hi]
  · rintro x -;simp only[hF,List.replicate,am,aO,dG,aO,dW];refine az ?_;simp[V.erase,sV,hl]
theorem Iw (r:Rl) (w:aY) (σ:ae):al prog 248 [.agg r.enc,.int .u64 (w.toNat:Nat)] σ fun v σ' => v = .int .u64 ((u9 r w).toNat:Nat)∧σ' = σ:=by
  refine agT.calls ?_;simp only[aJ,PQ,rA,Nat.reduceAdd];refine cl (yp r σ) ?_;simp only[am];have hp:=@lH r;obtain⟨F,hF⟩:∃F:Nat→Unit→St,∀i x,F i x=⟨[.agg r.enc,.int .u64 (w.toNat:Nat),.ptr (.loc 0) 0,.any,.any,.int .u64 (((List.range i).foldl (fun o i=>if gw r i&&&w=0#64 then o else jg o (i:Nat)) 0#64).toNat:Nat),.any,.any,.int .i64 (bp r:Nat),.int .i64 (i:Nat)]++List.replicate 13 .any,[r.enc],σ⟩:=⟨_,fun _ _=>rfl⟩;obtain⟨JF,aQ⟩:∃JF:Nat→Unit→Prop,∀i x,JF i x=(True):=⟨_,fun _ _=>rfl⟩;refine dC (bp r) F JF _ aQ ?_ ?_ ?_
  · refine en (()) ?_ ?_ ?_ ?_
    · exact Eq.mpr (aQ _ _) (trivial)
    all_goals simp[hF,List.replicate,am,bu]
  · rintro i x hi -;simp only[hF,List.replicate,am,dB hi,Rl.af];refine cl (L4 r i (by omega) σ) ?_;simp only[am,uJ,AP]
    by_cases h:gw r i&&&w=0#64
    · simp only[am,aO,aD h,cu hi (by omega)];refine nxt (()) hi ?_ ?_ ?_ ?_
      · exact Eq.mpr (aQ _ _) (trivial)
      all_goals simp[hF,List.replicate,am,bu,vg,h]
    · simp only[am,aB h];refine cl (CQ _ _ σ) ?_;simp only[am,aO,cu hi (by omega)];refine nxt (()) hi ?_ ?_ ?_ ?_
      · exact Eq.mpr (aQ _ _) (trivial)
      all_goals simp[hF,List.replicate,am,bu,vg,h]
  · rintro x -;simp only[hF,List.replicate,am,aO,dG,aO];refine az ?_;simp[V.erase,u9]
theorem abY {r:Rl} {i:Nat} (hi:i<bp r):(Rl.of (bp r:Nat) fun j=>if j<bp r then (if j<i then jg (gw r j) (j:Nat) else gw r j) else 0#64).put i (jg (gw r i) (i:Nat))=Rl.of (bp r:Nat) fun j=>if j<bp r then (if j<i+1 then jg (gw r j) (j:Nat) else gw r j) else 0#64:=by
  refine Rl.ext rfl fun k hk=>?_
  rw[Rl.zw,Rl.lp hk,Rl.lp hk]
  by_cases h:i=k
  · subst h;simp[hk,hi]
  · rw[ah (by omega)]
    by_cases U:k<i
    · simp[U,show k<i+1 by omega]
    · simp[U,show ¬k<i+1 by omega]
theorem abX {r:Rl} {i:Nat} (hi:i<bp r):(Rl.of (bp r:Nat) fun j=>if j<bp r then (if j<i then jg (gw r j) (j:Nat) else gw r j) else 0#64).get i=gw r i:=by
  rw[Rl.lp (rM hi lH),ak hi,ah (Nat.lt_irrefl _)]
theorem abW {r:Rl}:(Rl.of (bp r:Nat) fun j=>if j<bp r then (if j<bp r then jg (gw r j) (j:Nat) else gw r j) else 0#64)=rY r:=by
  refine Rl.ext rfl fun k hk=>?_
  rw[Rl.lp hk,rY,Rl.lp hk];split<;>rfl
theorem UQ {n k:Nat} {o:Rl}:jU (n+1) k o=uy k (jU n k o) n:=vg
theorem ajT {k:Nat} {o:Rl}:jU 0 k o=o:=rfl
theorem an_ {r:Rl}:jF r 0=rY r:=rfl
theorem aoJ {r:Rl}:(k_ r).n=(bp r:Nat):=rfl
theorem arv {k i:Nat} {o:Rl} (h:hasB (o.get i) (k:Nat)=true):uy k o i=o.put i (o.get i|||o.get k):=by rw[uy,ak h]
theorem aru {k i:Nat} {o:Rl} (h:hasB (o.get i) (k:Nat)=false):uy k o i=o:=by rw[uy,h];rfl
def z9_:=And.intro @am <| And.intro @cf <| And.intro @iP @pJ
def atH:=And.intro @am <| And.intro @cf <| And.intro @AQ <| And.intro @iP @pJ
theorem RM (r:Rl) (σ:ae):al prog 164 [.agg r.enc] σ fun v σ' => v = .agg (pM r).enc∧σ' = σ:=by
  refine afX.calls ?_;simp only[aJ,OP,am,aR,Rl.af];refine cl (GA r σ) ?_;simp only[am,Nat.reduceAdd,Rl.af,aoJ];have hp:=@lH r;obtain⟨F,hF⟩:∃F:Nat→Unit→St,∀i x,F i x=⟨[.any,.ptr (.loc 0) 0,.ptr (.loc 1) 0,.ptr (.loc 2) 0,.any,.any,.any,.any,.any,.any,.int .i64 (bp r:Nat),.int .i64 (i:Nat)]++List.replicate 42 .any,[r.enc,Rl.zero.enc,(Rl.of (bp r:Nat) fun j=>if j<bp r then (if j<i then jg (gw r j) (j:Nat) else gw r j) else 0#64).enc],σ⟩:=⟨_,fun _ _=>rfl⟩;obtain⟨JF,aQ⟩:∃JF:Nat→Unit→Prop,∀i x,JF i x=(True):=⟨_,fun _ _=>rfl⟩;refine dC (bp r) F JF _ aQ ?_ ?_ ?_
  · refine en (()) ?_ ?_ ?_ ?_
    · exact Eq.mpr (aQ _ _) (trivial)
    all_goals simp[hF,List.replicate,am,bu,k_]
  · rintro i x hi -;simp only[hF,List.replicate,am,cf,dB hi];have zA:i<64:=by omega
    refine jx (by omega) (by omega) ?_;simp only[am,iP,pJ,Rl.uG zA,abX hi];refine cl (CQ _ _ σ) ?_;simp only[am,cf];refine jx (by omega) (by omega) ?_;simp only[Dw,Rl.AH zA,Rl.AI zA,cu hi (by omega)];refine nxt (()) hi ?_ ?_ ?_ ?_
    · exact Eq.mpr (aQ _ _) (trivial)
    all_goals simp[hF,List.replicate,am,bu,abY hi]
  · rintro x -;simp only[hF,List.replicate,am,aO,dG,aO,Rl.af,Rl.Gn];rw[abW];clear hF F;obtain⟨F,hF⟩:∃F:Nat→Unit→St,∀k x,F k x=⟨[.any,.ptr (.loc 0) 0,.ptr (.loc 1) 0,.ptr (.loc 2) 0,.any,.any,.any,.any,.any,.any,.any,.any,.any,.any,.any,.any,.any,.any,.any,.any,.any,.any,.any,.any,.any,.int .i64 (bp r:Nat),.int .i64 (k:Nat)]++List.replicate 27 .any,[r.enc,Rl.zero.enc,(jF r k).enc],σ⟩:=⟨_,fun _ _=>rfl⟩;obtain⟨JF,aQ⟩:∃JF:Nat→Unit→Prop,∀k x,JF k x=(True):=⟨_,fun _ _=>rfl⟩;refine dC (bp r) F JF _ aQ ?_ ?_ ?_
    · refine en (()) ?_ ?_ ?_ ?_
      · exact Eq.mpr (aQ _ _) (trivial)
      all_goals simp[hF,List.replicate,am,bu,an_]
    · rintro k x hi -;simp only[hF,List.replicate,am,dB hi,Rl.af,Lu];obtain⟨F2,ep⟩:∃F2:Nat→Unit→St,∀i x,F2 i x=⟨[.any,.ptr (.loc 0) 0,.ptr (.loc 1) 0,.ptr (.loc 2) 0,.any,.int .i64 (k:Nat),.any,.any,.any,.any,.any,.any,.any,.any,.any,.any,.any,.any,.any,.any,.any,.any,.any,.any,.any,.int .i64 (bp r:Nat),.int .i64 (k:Nat),.any,.any,.any,.int .i64 (bp r:Nat),.int .i64 (i:Nat)]++List.replicate 22 .any,[r.enc,Rl.zero.enc,(jU i k (jF r k)).enc],σ⟩:=⟨_,fun _ _=>rfl⟩;obtain⟨gO,gG⟩:∃gO:Nat→Unit→Prop,∀i x,gO i x=(True):=⟨_,fun _ _=>rfl⟩;refine dC (bp r) F2 gO _ gG ?_ ?_ ?_
      · refine en (()) ?_ ?_ ?_ ?_
        · exact Eq.mpr (gG _ _) (trivial)
        all_goals simp[ep,List.replicate,am,bu,ajT]
      · rintro i x hj -;have Fo:i<64:=by omega
        have ajp:k<64:=by omega
        simp only[ep,List.replicate,am,cf,dB hj];refine jx (by omega) (by omega) ?_;simp only[am,iP,pJ,Rl.uG Fo];refine cl (amd _ _ σ) ?_;simp only[am];refine fL (fun hb=>?_) (fun hb=>?_)
        · simp only[am,cf];refine jx (by omega) (by omega) ?_;simp only[z9_,Rl.uG Fo];refine jx (by omega) (by omega) ?_;simp only[atH,Rl.uG ajp];refine jx (by omega) (by omega) ?_;simp only[Dw,Rl.AH Fo,Rl.AI Fo,cu hj (by omega)];refine nxt (()) hj ?_ ?_ ?_ ?_
          · exact Eq.mpr (gG _ _) (trivial)
          all_goals simp[ep,List.replicate,am,bu,UQ,arv hb]
        · simp only[am,aO,cu hj (by omega)];refine nxt (()) hj ?_ ?_ ?_ ?_
          · exact Eq.mpr (gG _ _) (trivial)
          all_goals simp[ep,List.replicate,am,bu,UQ,aru hb]
      · rintro x -;simp only[ep,List.replicate,am,aO,dG,Nat.reduceEqDiff,aO,Rl.af,cu hi (by omega)];refine nxt (()) hi ?_ ?_ ?_ ?_
        · exact Eq.mpr (aQ _ _) (trivial)
        all_goals simp[hF,List.replicate,am,bu,Gu]
    · rintro x -;simp only[hF,List.replicate,am,aO,dG,aO,Rl.af];exact aG (v:=.agg (pM r).enc) Rl.cN (ae.aW _) ⟨by simp only[V.erase,Rl.cM],rfl⟩
theorem RG (r:Rl) (σ:ae):al prog 212 [.agg r.enc] σ fun v σ' => v = .bool (rZ r)∧σ' = σ:=by
  refine agr.calls ?_;simp only[aJ,Pm,am,aR,Rl.af];refine br.intro (GA r σ) ?_;simp only[am,Rl.af];refine br.intro (RM r σ) ?_;simp only[am,Rl.af];refine az ?_;simp[V.erase,rZ]
theorem amm (r:Rl) (i:Nat) {σ:ae} (hg:TZ σ):al prog 214 [.agg r.enc,.int .i64 (i:Nat)] σ fun v σ' => v = .int .u64 ((vU r i).toNat:Nat)∧σ' = σ:=by
  refine agt.calls ?_;simp only[aJ,Po,rA,Nat.reduceAdd];refine al.dK (as' := [.sl .no 1 (iY [(i:Int)])]) ?_ ⟨cQ.no,trivial⟩ bG.rfl;refine cl (CP [(i:Int)] σ (by simp)) ?_;simp only[am,Rl.af];refine br.intro (Hd r _ hg) ?_;simp only[am,Rl.af];refine br.intro (Iw r _ σ) ?_;simp only[am,uJ,Rl.af];refine az ?_;simp[V.erase,vU]
theorem an6 (r:Rl) {σ:ae} (hg:TZ σ):al prog 161 [.agg r.enc] σ fun v σ' => v = .bool (Ao r)∧σ' = σ:=by
  refine afU.calls ?_;simp only[aJ,OL,am,aR,Rl.af];refine cl (RG r σ) ?_;simp only[am];refine fL (fun hb=>?_) (fun hb=>?_)
  · have hb:rZ r=false:=by simpa using hb
    simp only[am];refine az ?_;simp[V.erase,Ao,hb]
  · have hb:rZ r=true:=by simpa using hb
    simp only[am,Rl.af];refine cl (yp r σ) ?_;simp only[am];have hp:=@lH r;obtain⟨F,hF⟩:∃F:Nat→Unit→St,∀i x,F i x=⟨[.any,.ptr (.loc 0) 0,.any,.any,.any,.any,.any,.any,.int .i64 (bp r:Nat),.int .i64 (i:Nat)]++List.replicate 10 .any,[r.enc],σ⟩:=⟨_,fun _ _=>rfl⟩;obtain⟨JF,aQ⟩:∃JF:Nat→Unit→Prop,∀i x,JF i x=(∀k,k<i→vU r k=mM [(k:Int)]):=⟨_,fun _ _=>rfl⟩;refine dC (bp r) F JF _ aQ ?_ ?_ ?_
    · refine en (()) ?_ ?_ ?_ ?_
      · exact Eq.mpr (aQ _ _) (by intro k h;omega)
      all_goals simp[hF,List.replicate,am,bu]
    · rintro i x hi hJ;simp only[hF,List.replicate,am,dB hi,Rl.af];refine cl (amm r i hg) ?_;simp only[am];refine al.dK (as' := [.sl .no 1 (iY [(i:Int)])]) ?_ ⟨cQ.no,trivial⟩ bG.rfl;refine cl (CP [(i:Int)] _ (by simp)) ?_;simp only[am,AP]
      by_cases h:vU r i=mM [(i:Int)]
      · simp only[am,aO,aD h,cu hi (by omega)];refine nxt (()) hi ?_ ?_ ?_ ?_
        · exact Eq.mpr (aQ _ _) (fun k hk=>if e:k=i then e▸h else hJ k (by omega))
        all_goals simp[hF,List.replicate,am,bu]
      · have hA:wM r=false:=by
          cases hq:wM r with
          | false=>rfl
          | true=>exact absurd ((Q8 hb).1 hq i hi) h
        simp only[am,aO,aB h];refine az ?_;simp[V.erase,Ao,hA]
    · rintro x hJ;have hA:wM r=true:=(Q8 hb).2 hJ;simp only[hF,List.replicate,am,aO,dG,aO];refine az ?_;simp[V.erase,Ao,hb,hA]
def PZ:AC:=.seq (.aa [⟨(some 1),.box 65 (.s 0),none⟩,⟨(some 2),.mv (.c (.bool false)),none⟩])
 (.seq (.aa [xf 0 3 1,xo 4 3,xB .geq 5 4 1,xm 6 5,xg 6 (xf 0 7 1),xg 6 (xo 8 7),xg 6 (xB .leq 9 8 8),⟨(some 10),.pick (.s 6) (.s 9) (.c (.bool false)),none⟩,xm 11 10,xg 11 (xl 65 12 1),xg 11 (xc 212 13 [.s 12]),⟨(some 14),.pick (.s 11) (.s 13) (.c (.bool false)),none⟩,xm 2 14])
 (.ret))
theorem ag2:aK prog 257 PZ [.tmp 2] 15:=⟨f257,⟨[],[],[]⟩,func257,by kernel_rfl,by kernel_rfl,by kernel_rfl,by kernel_rfl⟩
def P0:AC:=.seq (.aa [⟨(some 3),.box 65 (.s 0),none⟩,⟨(some 4),.ff 1 (.s 1),none⟩,⟨(some 6),.mv (.c (.int .u64 0)),none⟩])
 (.seq (.seq (.aa [xl 65 8 3,xo 9 4,xc 271 10 [.s 8,.s 9],⟨(some 11),.not (.s 10),none⟩])
 (.cond (.s 11) (.seq (.aa [⟨(some 6),.mv (.c (.int .u64 0)),none⟩])
 (.ret))
 (.skip)))
 (.seq (.tu [7] [(xf 0 12 3,[]),(xo 13 12,[]),(xc 267 14 [.s 13],[]),(xl 65 15 3,[0]),(xm 16 2,[]),(xc 247 17 [.s 15,.s 16],[]),(xb .andNot 18 14 17,[]),(⟨none,.mv (.c .any),none⟩,[]),(⟨(some 7),.kf 1 (.s 18),none⟩,[])])
 (.seq (.mQ (.draw [(xl 65 19 3,[1]),(xl 65 20 3,[]),(⟨(some 21),.ix (.func 274) [] [(.s 4),(.s 7)],none⟩,[]),(xc 273 22 [.s 20,.s 21],[]),(xc 272 23 [.s 19,.s 22],[]),(xm 6 23,[])]))
 (.ret))))
theorem ag3:aK prog 258 P0 [.tmp 6] 24:=⟨f258,⟨[4],[4],[]⟩,func258,by kernel_rfl,by kernel_rfl,by kernel_rfl,by kernel_rfl⟩
def P2:AC:=.seq (.aa [⟨(some 4),.mv (.c (.int .u64 0)),none⟩,⟨(some 5),.mv (.c (.bool false)),none⟩])
 (.seq (.seq (.aa [xm 6 0,xc 275 7 [.s 6],⟨(some 8),.not (.s 7),none⟩,xm 9 8,xh 9 (xm 10 1),xh 9 (xB .lss 11 10 0),⟨(some 12),.pick (.s 9) (.c (.bool true)) (.s 11),none⟩,xm 13 12,xh 13 (xm 14 1),xh 13 (xm 15 0),xh 13 (xb .geq 16 14 15),⟨(some 17),.pick (.s 13) (.c (.bool true)) (.s 16),none⟩])
 (.cond (.s 17) (.seq (.aa [⟨(some 4),.mv (.c (.int .u64 0)),none⟩,⟨(some 5),.mv (.c (.bool false)),none⟩])
 (.ret))
 (.skip)))
 (.seq (.aa [xm 18 1,xc 267 19 [.s 18],xm 4 19,⟨(some 5),.mv (.c (.bool true)),none⟩])
 (.ret)))
theorem ag5:aK prog 260 P2 [.tmp 4,.tmp 5] 20:=⟨f260,⟨[],[],[]⟩,func260,by kernel_rfl,by kernel_rfl,by kernel_rfl,by kernel_rfl⟩
def P8:AC:=.seq (.aa [⟨(some 2),.box 65 (.s 0),none⟩,⟨(some 4),.mv (.c (.bool false)),none⟩])
 (.seq (.aa [xl 65 5 2,xc 257 6 [.s 5],xm 7 6,xg 7 (xm 8 1),xg 7 (xB .geq 9 8 0),⟨(some 10),.pick (.s 7) (.s 9) (.c (.bool false)),none⟩,xm 11 10,xg 11 (xm 12 1),xg 11 (xf 0 13 2),xg 11 (xo 14 13),xg 11 (xb .lss 15 12 14),⟨(some 16),.pick (.s 11) (.s 15) (.c (.bool false)),none⟩,xm 4 16])
 (.ret))
theorem ag':aK prog 271 P8 [.tmp 4] 17:=⟨f271,⟨[],[],[]⟩,func271,by kernel_rfl,by kernel_rfl,by kernel_rfl,by kernel_rfl⟩
def P9:AC:=.seq (.aa [⟨(some 2),.ff 65 (.s 0),none⟩,⟨(some 3),.ff 1 (.s 1),none⟩,⟨(some 4),.mv (.c (.int .u64 0)),none⟩])
 (.seq (.seq (.aa [xl 65 5 2,xc 257 6 [.s 5],⟨(some 7),.not (.s 6),none⟩])
 (.cond (.s 7) (.seq (.aa [⟨(some 4),.mv (.c (.int .u64 0)),none⟩])
 (.ret))
 (.skip)))
 (.seq (.aa [xl 65 8 2,⟨(some 9),.ix (.func 280) [] [(.s 2),(.s 3)],none⟩,xc 273 10 [.s 8,.s 9],xm 4 10])
 (.ret)))
theorem aha:aK prog 272 P9 [.tmp 4] 11:=⟨f272,⟨[2,3],[],[]⟩,func272,by kernel_rfl,by kernel_rfl,by kernel_rfl,by kernel_rfl⟩
def P_:AC:=.seq (.aa [⟨(some 2),.box 65 (.s 0),none⟩,⟨(some 4),.mv (.c (.int .u64 0)),none⟩])
 (.seq (.aa [⟨(some 5),.mv (.c (.int .u64 0)),none⟩])
 (.seq (.seq (.aa [xf 0 7 2,xo 8 7,xi 9 0])
 (.block 0 (.loop (.seq (.aa [xb .lss 10 9 8])
 (.seq (.cond (.s 10) (.skip)
 (.exit 0))
 (.seq (.block 1 (.seq (.aa [xm 11 9,xm 6 11])
 (.aa [xm 12 5,xm 13 1,xm 14 6,⟨(some 15),.gC (.s 13) [(.s 14)],none⟩,xm 16 6,⟨(some 17),.dA .mul (.c (.int .i64 8)) (.s 16),none⟩,⟨(some 18),.nZ .u64 (.s 17),none⟩,xb .shl 19 15 18,xb .or 20 12 19,xm 5 20])))
 (.aa [xB .add 21 9 1,xm 9 21])))))))
 (.seq (.aa [xm 22 5,xm 4 22])
 (.ret))))
theorem ahb:aK prog 273 P_ [.tmp 4] 23:=⟨f273,⟨[],[],[]⟩,func273,by kernel_rfl,by kernel_rfl,by kernel_rfl,by kernel_rfl⟩
def P':AC:=.seq (.aa [⟨(some 4),.mv (.c (.int .u64 0)),none⟩])
 (.seq (.seq (.aa [xm 5 0,xo 6 1,xb .eql 7 5 6])
 (.cond (.s 7) (.seq (.aa [xo 8 2,xm 4 8])
 (.ret))
 (.skip)))
 (.seq (.aa [⟨(some 4),.mv (.c (.int .u64 0)),none⟩])
 (.ret)))
theorem ahc:aK prog 274 P' [.tmp 4] 9:=⟨f274,⟨[],[],[]⟩,func274,by kernel_rfl,by kernel_rfl,by kernel_rfl,by kernel_rfl⟩
def Qa:AC:=.seq (.aa [⟨(some 2),.mv (.c (.bool false)),none⟩])
 (.seq (.aa [xm 3 0,xB .geq 4 3 1,xm 5 4,xg 5 (xm 6 0),xg 5 (xB .leq 7 6 64),⟨(some 8),.pick (.s 5) (.s 7) (.c (.bool false)),none⟩,xm 2 8])
 (.ret))
theorem ahd:aK prog 275 Qa [.tmp 2] 9:=⟨f275,⟨[],[],[]⟩,func275,by kernel_rfl,by kernel_rfl,by kernel_rfl,by kernel_rfl⟩
def Qd:AC:=.seq (.aa [⟨(some 4),.mv (.c (.int .u64 0)),none⟩])
 (.seq (.aa [⟨(some 5),.mv (.c (.int .u64 0)),none⟩])
 (.seq (.seq (.draw [(xl 65 8 1,[1]),(xm 9 0,[]),(⟨(some 10),.cR 1 [(.s 9)],none⟩,[]),(xc 215 11 [.s 10],[]),(xc 247 12 [.s 8,.s 11],[]),(xc 249 13 [.s 12],[]),(xL 14 13,[]),(xi 15 0,[])])
 (.block 0 (.loop (.seq (.aa [xb .lss 16 15 14])
 (.seq (.cond (.s 16) (.skip)
 (.exit 0))
 (.seq (.block 1 (.seq (.aa [xA 1 17 13 15,xo 18 17,xm 7 18])
 (.draw [(xm 19 5,[]),(xl 65 20 1,[1]),(xl 65 21 1,[]),(xo 22 2,[]),(xm 23 7,[]),(xc 281 24 [.s 21,.s 22,.s 23],[]),(xc 248 25 [.s 20,.s 24],[]),(xb .or 26 19 25,[]),(xm 5 26,[])])))
 (.aa [xB .add 27 15 1,xm 15 27])))))))
 (.seq (.aa [xm 28 5,xm 4 28])
 (.ret))))
theorem ahg:aK prog 280 Qd [.tmp 4] 29:=⟨f280,⟨[],[],[]⟩,func280,by kernel_rfl,by kernel_rfl,by kernel_rfl,by kernel_rfl⟩
def Qe:AC:=.seq (.aa [⟨(some 3),.box 65 (.s 0),none⟩,⟨(some 6),.mv (.c (.int .u64 0)),none⟩])
 (.seq (.aa [xm 7 1,xm 8 2,⟨(some 9),.dA .mul (.c (.int .i64 8)) (.s 8),none⟩,⟨(some 10),.nZ .u64 (.s 9),none⟩,xb .shr 11 7 10,xf 0 12 3,xo 13 12,xc 267 14 [.s 13],xb .and 15 11 14,xm 6 15])
 (.ret))
theorem ahh:aK prog 281 Qe [.tmp 6] 16:=⟨f281,⟨[],[],[]⟩,func281,by kernel_rfl,by kernel_rfl,by kernel_rfl,by kernel_rfl⟩
theorem abQ (n:Int) (σ:ae):al prog 275 [.int .i64 n] σ fun v σ' => v = .bool (decide (1≤n)&&decide (n≤64))∧σ' = σ:=by
  refine ahd.calls ?_;simp only[aJ,Qa,am,aR]
  by_cases h:1≤n
  · simp only[am,aD h];refine az ?_;simp[V.erase]
  · simp only[am,aB h];refine az ?_;simp[V.erase]
def AN (p:aY × Bool):V:=.aX [.int .u64 (p.1.toNat:Nat),.bool p.2]
theorem aqD (n k:Int) (σ:ae):al prog 260 [.int .i64 n,.int .i64 k] σ fun v σ' => v=AN (yy n k)∧σ' = σ:=by
  refine ag5.calls ?_;simp only[aJ,P2,am,aR,Nat.reduceAdd,ry];refine cl (abQ n σ) ?_
  by_cases h:1≤n∧n≤64
  · simp only[am,aD h.1,aD h.2]
    by_cases U:k<0
    · simp only[am,aD U];refine az ?_;simp[V.erase,a9,AN,yy,show ¬0≤k by omega]
    · simp only[am,aB U]
      by_cases h3:n≤k
      · simp only[am,aD h3];refine az ?_;simp[V.erase,a9,AN,yy,show ¬k<n by omega]
      · simp only[am,aB h3];refine cl (CO k σ) ?_;simp only[am];refine az ?_;simp[V.erase,a9,AN,yy,h,show 0≤k by omega,show k<n by omega]
  · have e:(decide (1≤n)&&decide (n≤64))=false:=by simp only[Dy,zi];omega
    have e2:yy n k=(0#64,false):=by simp only[yy];rw[ah (by omega)]
    simp only[am,e];refine az ?_;simp[V.erase,a9,AN,e2]
theorem I5 (r:Rl) (σ:ae):al prog 257 [.agg r.enc] σ fun v σ' => v = .bool (oY r)∧σ' = σ:=by
  refine ag2.calls ?_;simp only[aJ,PZ,am,aR,Rl.af]
  by_cases h:1≤r.n
  · simp only[am,Rl.af,aD h]
    by_cases U:r.n≤8
    · simp only[am,Rl.af,aD U];refine cl (RG r σ) ?_;simp only[am];refine az ?_;simp[V.erase,oY,h,U]
    · simp only[am,aB U];refine az ?_;simp[V.erase,oY,U]
  · simp only[am,aB h];refine az ?_;simp[V.erase,oY,h]
theorem aiJ (r:Rl) (w:aY) (o:Nat) (ho:o<64) (σ:ae):al prog 281 [.agg r.enc,.int .u64 (w.toNat:Nat),.int .i64 (o:Nat)] σ fun v σ' => v = .int .u64 ((Gt r w o).toNat:Nat)∧σ' = σ:=by
  refine ahh.calls ?_;simp only[aJ,Qe,rA,Nat.reduceAdd];rw[wrap_i64 (by omega) (by omega),wrap_u64 (by omega) (by omega),show (8:Int)*(o:Nat)=((8*o:Nat):Int) by omega];simp only[am,MS,Rl.af];refine cl (CO r.n σ) ?_;simp only[am,uJ];refine az ?_;simp[V.erase,Gt]
def atI:=And.intro @am <| And.intro @aO <| And.intro @AQ @MR
theorem Tw (r:Rl) (n:Nat) (hn:r.n=n) (h8:n≤8) (f:FuncId) (cap:List V) (hc:bm cap=true) (g:Nat→aY) (σ:ae)
    (h:∀o,o<n→al prog f (.int .i64 (o:Nat)::cap) σ fun v σ' => v = .int .u64 ((g o).toNat:Nat)∧σ' = σ) :
    al prog 273 [.agg r.enc,.fn (.func f) [] cap] σ fun v σ' => v = .int .u64 ((Av n g).toNat:Nat)∧σ' = σ:=by
  refine ahb.calls ?_;simp only[aJ,P_,rA,Nat.reduceAdd];obtain⟨F,hF⟩:∃F:Nat→Unit→St,∀i x,F i x=⟨[.any,.fn (.func f) [] cap,.any,.any,.any,.int .u64 ((Av i g).toNat:Nat),.any,.any,.int .i64 (n:Nat),.int .i64 (i:Nat)]++List.replicate 13 .any,[r.enc],σ⟩:=⟨_,fun _ _=>rfl⟩;obtain⟨JF,aQ⟩:∃JF:Nat→Unit→Prop,∀i x,JF i x=(True):=⟨_,fun _ _=>rfl⟩;refine dC (n) F JF _ aQ ?_ ?_ ?_
  · refine en (()) ?_ ?_ ?_ ?_
    · exact Eq.mpr (aQ _ _) (trivial)
    all_goals simp[hF,List.replicate,am,bu,hn,Av]
  · rintro i x hi -;simp only[hF,List.replicate,am,dB hi,hc];refine(h i hi).mono ?_;rintro v σ' ⟨rfl,rfl⟩;simp only[am];rw[wrap_i64 (x:=8*((i:Nat):Int)) (by omega) (by omega),wrap_u64 (x:=8*((i:Nat):Int)) (by omega) (by omega),show (8:Int)*(i:Nat)=((8*i:Nat):Int) by omega];simp only[atI,cu hi (by omega)];refine nxt (()) hi ?_ ?_ ?_ ?_
    · exact Eq.mpr (aQ _ _) (trivial)
    all_goals simp[hF,List.replicate,am,bu,Av,vg]
  · rintro x -;simp only[hF,List.replicate,am,aO,dG,aO];refine az ?_;simp[V.erase]
def atJ:=And.intro @am <| And.intro @aO <| And.intro @AQ @Rl.af
theorem aiq (r:Rl) (w:aY) (o b1 b2:Nat) {σ:ae} (hg:TZ σ) (ho:o<bp r) (h8:bp r≤8) (h1:σ.box b1=some r.enc) (U:σ.box b2=some [.int .u64 (w.toNat:Nat)]) :
    al prog 280 [.int .i64 (o:Nat),.ptr (.out b1) 0,.ptr (.out b2) 0] σ fun v σ' => v = .int .u64 ((Eo r w o).toNat:Nat)∧σ' = σ:=by
  refine ahg.calls ?_;simp only[aJ,Qd,am,aR,Nat.reduceAdd,ry];simp only[am,Rl.af,h1];refine br.intro (al.dK (as' := [.sl .no 1 (iY [(o:Int)])]) (CP [(o:Int)] σ (by simp)) ⟨cQ.no,trivial⟩ bG.rfl) ?_;simp only[am,Rl.af];refine br.intro (Hd r _ hg) ?_;simp only[am];refine br.intro (K8 _ hg) ?_;simp only[am,aE,Rl.af,FI,h1];rw[show sV r (mM [(o:Int)])=ti r o from rfl];generalize hl:eU (ti r o)=l;have aj:∀k∈l,k<bp r:=fun k hk=>by
    rw[←hl,VK,ZB] at hk;exact(vC hk).2
  have hlen:l.length≤64:=hl▸Gc _;have hp:=@lH r;obtain⟨F,hF⟩:∃F:Nat→Unit→St,∀i x,F i x=⟨[.any,.ptr (.out b1) 0,.ptr (.out b2) 0,.any,.any,.int .u64 (((l.take i).foldl (fun s p=>s|||u9 r (Gt r w p)) 0#64).toNat:Nat),.any,.any,.any,.any,.any,.any,.any,.sl .no 1 (iY (l.map Int.ofNat)),.int .i64 (l.length:Nat),.int .i64 (i:Nat)]++List.replicate 13 .any,[],σ⟩:=⟨_,fun _ _=>rfl⟩;obtain⟨JF,aQ⟩:∃JF:Nat→Unit→Prop,∀i x,JF i x=(True):=⟨_,fun _ _=>rfl⟩;refine dC (l.length) F JF _ aQ ?_ ?_ ?_
  · refine en (()) ?_ ?_ ?_ ?_
    · exact Eq.mpr (aQ _ _) (trivial)
    all_goals simp[hF,List.replicate,am,bu]
  · rintro i x hi -;simp only[hF,List.replicate,am,dB hi];refine bD (by omega) (FH (l:=l.map Int.ofNat) (by simpa using hi)) ?_;simp only[am,Rl.af,Nz,Nl,h1,U]
    have:=aj _ (fD hi)
    refine br.intro (aiJ r w l[i] (by omega) σ) ?_;simp only[am,Rl.af];refine br.intro (Iw r _ σ) ?_;simp only[atJ,h1,cu hi (by omega)];refine nxt (()) hi ?_ ?_ ?_ ?_
    · exact Eq.mpr (aQ _ _) (trivial)
    all_goals simp[hF,List.replicate,am,bu,S5 hi]
  · rintro x -;simp only[hF,List.replicate,am,aO,dG,aO,dW];refine az ?_;simp[V.erase,Eo,hl]
theorem air (r:Rl) (w:aY) {σ:ae} (hg:TZ σ):al prog 272 [.agg r.enc,.int .u64 (w.toNat:Nat)] σ fun v σ' => v = .int .u64 ((Ep r w).toNat:Nat)∧σ' = σ:=by
  refine aha.calls ?_;simp only[aJ,P9,rA,Nat.reduceAdd];refine iw fun b1 fG=>?_
  simp only[am];refine iw fun b2 dg=>?_
  have aI:b1≠b2:=by rintro rfl;rw[iM] at dg;simp at dg
  have lx:=fU (cs:=r.enc) fG;have hs:=ae.yE lx (fU (cs:=[.int .u64 (w.toNat:Nat)]) dg);have e1:((σ.set b1 r.enc).set b2 [.int .u64 (w.toNat:Nat)]).box b1=some r.enc:=by rw[rm aI,iM]
  generalize sA:(σ.set b1 r.enc).set b2 [V.int .u64 (w.toNat:Nat)]=dq at hs e1;have e2:dq.box b2=some [.int .u64 (w.toNat:Nat)]:=by rw[←sA,iM]
  simp only[am,Rl.af,e1];refine(I5 r dq).mono ?_;rintro v dq ⟨rfl,rfl⟩;simp only[am];cases sj:oY r with
  | false =>
    simp only[am];exact aG rfl hs ⟨by simp[Ep,sj,V.erase],rfl⟩
  | true =>
    obtain⟨n,hn,hp,h1,h8⟩:=Tu sj;simp only[am,Rl.af,e1];refine(Tw r n hn h8 _ _ rfl (Eo r w) dq fun o ho=>aiq r w o b1 b2 (hs.2.2 _ _ hg) (by omega) (by omega) e1 e2).mono ?_;rintro v dq ⟨rfl,rfl⟩;simp only[am];exact aG rfl hs ⟨by simp[Ep,sj,V.erase,hn],rfl⟩
theorem aod (r:Rl) (o:Nat) (σ:ae):al prog 271 [.agg r.enc,.int .i64 (o:Nat)] σ fun v σ' => v = .bool (oY r&&decide ((o:Int)<r.n))∧σ' = σ:=by
  refine ag'.calls ?_;simp only[aJ,P8,am,aR,Nat.reduceAdd,Rl.af];refine cl (I5 r σ) ?_;cases h:oY r with
  | false =>
    simp only[am];refine az ?_;simp[V.erase]
  | true =>
    simp only[am,Rl.af,show decide ((0:Int)≤(o:Nat))=true from aD (by omega)];refine az ?_;simp[V.erase]
theorem aiK (k o b:Nat) (w:aY) {σ:ae} (b2:Nat) (h1:σ.box b=some [.int .i64 (o:Nat)]) (U:σ.box b2=some [.int .u64 (w.toNat:Nat)]) :
    al prog 274 [.int .i64 (k:Nat),.ptr (.out b) 0,.ptr (.out b2) 0] σ fun v σ' => v = .int .u64 ((if k=o then w else 0#64).toNat:Nat)∧σ' = σ:=by
  refine ahc.calls ?_;simp only[aJ,P',am,aR,Nat.reduceAdd,ry];simp only[am,h1]
  by_cases h:k=o
  · simp only[am,aD (show (k:Int)=(o:Nat) by omega),U];refine az ?_;simp[V.erase,h]
  · simp only[am,aB (show ¬(k:Int)=(o:Nat) by omega)];refine az ?_;simp[V.erase,h]
theorem aiL (r:Rl) (o:Nat) (d:aY) {σ:ae} (hg:TZ σ):al prog 258 [.agg r.enc,.int .i64 (o:Nat),.int .u64 (d.toNat:Nat)] σ fun v σ' => v = .int .u64 ((Aw r o d).toNat:Nat)∧σ' = σ:=by
  refine ag3.calls ?_;simp only[aJ,P0,rA,Nat.reduceAdd];refine iw fun b1 fG=>?_
  simp only[am,Rl.af];have hs:=fU (cs:=[V.int .i64 (o:Nat)]) fG;have e1:(σ.set b1 [V.int .i64 (o:Nat)]).box b1=some [V.int .i64 (o:Nat)]:=iM;generalize sA:σ.set b1 [V.int .i64 (o:Nat)]=dq at hs e1;refine(aod r o dq).mono ?_;rintro v dq ⟨rfl,rfl⟩;simp only[am];cases sj:oY r&&decide ((o:Int)<r.n) with
  | false =>
    simp only[am];exact aG rfl hs ⟨by simp[Aw,sj,V.erase],rfl⟩
  | true =>
    have ajh := sj;rw[a_,bH] at sj;obtain⟨n,hn,hp,h1,h8⟩:=Tu sj.1;simp only[am,Nat.reduceAdd,bZ,Nat.reduceLT,Rl.af];refine br.intro (CO r.n dq) ?_;simp only[am,Rl.af];refine br.intro (Hd r d (hs.2.2 _ _ hg)) ?_;simp only[am,YM,Rl.af];refine ba.ao8 (l:=[r.enc]) (cs:=[V.int .u64 ((nf r.n&&&~~~sV r d).toNat:Nat)]) rfl fun b2 dg=>?_
    rw[show nf r.n&&&~~~sV r d=ue r d from rfl];have Cl:=ae.yE hs (fU (cs:=[V.int .u64 ((ue r d).toNat:Nat)]) dg);have aI:b1≠b2:=by rintro rfl;rw[e1] at dg;simp at dg
    have e2:(dq.set b2 [V.int .u64 ((ue r d).toNat:Nat)]).box b1=some [V.int .i64 (o:Nat)]:=by rw[rm aI,e1]
    have e3:(dq.set b2 [V.int .u64 ((ue r d).toNat:Nat)]).box b2=some [V.int .u64 ((ue r d).toNat:Nat)]:=iM;generalize dq.set b2 [V.int .u64 ((ue r d).toNat:Nat)]=ji at Cl e2 e3;simp only[am,Nat.reduceLT,reduceCtorEq,Rl.af,bC,dp,ZJ,WR (n:=1) (l:=r.enc) Rl.bY Rl.cN];refine br.intro (Tw r n hn h8 _ _ rfl (fun k=>if k=o then ue r d else 0#64) ji fun k hk=>aiK k o b1 (ue r d) b2 e2 e3) ?_;simp only[am,Rl.af];refine br.intro (air r _ (Cl.2.2 _ _ hg)) ?_;simp only[am,Rl.af];exact aG rfl Cl ⟨by rw[Aw,ajh,hn];rfl,rfl⟩
def Og:AC:=.seq (.aa [⟨(some 1),.box 65 (.s 0),none⟩,⟨(some 2),.mv (.c (.bool false)),none⟩])
 (.seq (.seq (.aa [xf 0 9 1,xo 10 9,xB .lss 11 10 1,xm 12 11,xh 12 (xf 0 13 1),xh 12 (xo 14 13),xh 12 (xB .gtr 15 14 64),⟨(some 16),.pick (.s 12) (.c (.bool true)) (.s 15),none⟩,xm 17 16,xh 17 (xl 65 18 1),xh 17 (xc 161 19 [.s 18]),⟨(some 20),.not (.s 19),(some (17,false))⟩,⟨(some 21),.pick (.s 17) (.c (.bool true)) (.s 20),none⟩])
 (.cond (.s 21) (.seq (.aa [⟨(some 2),.mv (.c (.bool false)),none⟩])
 (.ret))
 (.skip)))
 (.seq (.seq (.aa [xf 0 22 1,xo 23 22,xi 24 0])
 (.block 0 (.loop (.seq (.aa [xb .lss 25 24 23])
 (.seq (.cond (.s 25) (.skip)
 (.exit 0))
 (.seq (.block 1 (.seq (.aa [xm 26 24,xm 3 26])
 (.seq (.aa [xm 27 3,xi 28 0])
 (.block 2 (.loop (.seq (.aa [xb .lss 29 28 27])
 (.seq (.cond (.s 29) (.skip)
 (.exit 2))
 (.seq (.block 3 (.seq (.aa [xm 30 28,xm 4 30])
 (.seq (.aa [xl 65 32 1,xm 33 3,xm 34 4,xc 162 35 [.s 32,.s 33,.s 34],xm 31 35,xe 36 31 0,xe 37 31 1,xm 5 36,xm 6 37])
 (.seq (.aa [xl 65 39 1,xm 40 3,xm 41 4,xc 163 42 [.s 39,.s 40,.s 41],xm 38 42,xe 43 38 0,xe 44 38 1,xm 7 43,xm 8 44])
 (.seq (.aa [xm 45 6,⟨(some 46),.not (.s 45),none⟩,xm 47 46,xh 47 (xm 48 8),⟨(some 49),.not (.s 48),(some (47,false))⟩,⟨(some 50),.pick (.s 47) (.c (.bool true)) (.s 49),none⟩])
 (.cond (.s 50) (.seq (.aa [⟨(some 2),.mv (.c (.bool false)),none⟩])
 (.ret))
 (.skip)))))))
 (.aa [xB .add 51 28 1,xm 28 51])))))))))
 (.aa [xB .add 52 24 1,xm 24 52])))))))
 (.seq (.aa [⟨(some 2),.mv (.c (.bool true)),none⟩])
 (.ret))))
theorem aft:aK prog 114 Og [.tmp 2] 53:=⟨f114,⟨[],[],[]⟩,func114,by kernel_rfl,by kernel_rfl,by kernel_rfl,by kernel_rfl⟩
def OM:AC:=.seq (.aa [⟨(some 3),.box 65 (.s 0),none⟩,xi 6 0,⟨(some 7),.mv (.c (.bool false)),none⟩])
 (.seq (.aa [xl 65 8 3,xm 9 1,xm 10 2,xc 216 11 [.s 8,.s 9,.s 10,.c (.fn (.func 217) [] [])],xe 12 11 0,xe 13 11 1,xm 6 12,xm 7 13])
 (.ret))
theorem afV:aK prog 162 OM [.tmp 6,.tmp 7] 14:=⟨f162,⟨[],[],[]⟩,func162,by kernel_rfl,by kernel_rfl,by kernel_rfl,by kernel_rfl⟩
def OO:AC:=.seq (.aa [⟨(some 3),.box 65 (.s 0),none⟩,xi 6 0,⟨(some 7),.mv (.c (.bool false)),none⟩])
 (.seq (.aa [xl 65 8 3,xm 9 1,xm 10 2,xc 216 11 [.s 8,.s 9,.s 10,.c (.fn (.func 218) [] [])],xe 12 11 0,xe 13 11 1,xm 6 12,xm 7 13])
 (.ret))
theorem afW:aK prog 163 OO [.tmp 6,.tmp 7] 14:=⟨f163,⟨[],[],[]⟩,func163,by kernel_rfl,by kernel_rfl,by kernel_rfl,by kernel_rfl⟩
def Pq:AC:=.seq (.aa [⟨(some 4),.box 65 (.s 0),none⟩,xi 8 0,⟨(some 9),.mv (.c (.bool false)),none⟩])
 (.seq (.draw [(xm 13 3,[]),(xl 65 14 4,[]),(xm 15 1,[]),(⟨(some 16),.gC (.s 13) [(.s 14),(.s 15)],none⟩,[]),(xm 17 3,[]),(xl 65 18 4,[0]),(xm 19 2,[]),(⟨(some 20),.gC (.s 17) [(.s 18),(.s 19)],none⟩,[]),(xb .and 21 16 20,[]),(xm 10 21,[])])
 (.seq (.seq (.aa [xm 22 10,xc 249 23 [.s 22],xL 24 23,xi 25 0])
 (.block 0 (.loop (.seq (.aa [xb .lss 26 25 24])
 (.seq (.cond (.s 26) (.skip)
 (.exit 0))
 (.seq (.block 1 (.seq (.aa [xA 1 27 23 25,xo 28 27,xm 12 28])
 (.seq (.aa [xm 29 10,xm 30 3,xl 65 31 4,xm 32 12,⟨(some 33),.gC (.s 30) [(.s 31),(.s 32)],none⟩,xc 250 34 [.s 29,.s 33]])
 (.cond (.s 34) (.seq (.aa [xm 35 12,xm 8 35,⟨(some 9),.mv (.c (.bool true)),none⟩])
 (.ret))
 (.skip)))))
 (.aa [xB .add 36 25 1,xm 25 36])))))))
 (.seq (.aa [xi 8 0,⟨(some 9),.mv (.c (.bool false)),none⟩])
 (.ret))))
theorem agv:aK prog 216 Pq [.tmp 8,.tmp 9] 37:=⟨f216,⟨[],[],[]⟩,func216,by kernel_rfl,by kernel_rfl,by kernel_rfl,by kernel_rfl⟩
def Pr:AC:=.seq (.aa [⟨(some 2),.box 65 (.s 0),none⟩,⟨(some 4),.mv (.c (.int .u64 0)),none⟩])
 (.seq (.draw [(xl 65 5 2,[1]),(xm 6 1,[]),(⟨(some 7),.cR 1 [(.s 6)],none⟩,[]),(xc 215 8 [.s 7],[]),(xc 247 9 [.s 5,.s 8],[]),(xm 4 9,[])])
 (.ret))
theorem agw:aK prog 217 Pr [.tmp 4] 10:=⟨f217,⟨[],[],[]⟩,func217,by kernel_rfl,by kernel_rfl,by kernel_rfl,by kernel_rfl⟩
def Ps:AC:=.seq (.aa [⟨(some 2),.box 65 (.s 0),none⟩,⟨(some 4),.mv (.c (.int .u64 0)),none⟩])
 (.seq (.seq (.aa [xl 65 5 2,xm 6 1,xc 251 7 [.s 5,.s 6],⟨(some 8),.not (.s 7),none⟩])
 (.cond (.s 8) (.seq (.aa [⟨(some 4),.mv (.c (.int .u64 0)),none⟩])
 (.ret))
 (.skip)))
 (.seq (.draw [(xl 65 9 2,[1]),(xm 10 1,[]),(⟨(some 11),.cR 1 [(.s 10)],none⟩,[]),(xc 215 12 [.s 11],[]),(xc 248 13 [.s 9,.s 12],[]),(xm 4 13,[])])
 (.ret)))
theorem agx:aK prog 218 Ps [.tmp 4] 14:=⟨f218,⟨[],[],[]⟩,func218,by kernel_rfl,by kernel_rfl,by kernel_rfl,by kernel_rfl⟩
def PT:AC:=.seq (.aa [⟨(some 2),.box 65 (.s 0),none⟩,⟨(some 4),.mv (.c (.bool false)),none⟩])
 (.seq (.aa [xm 5 1,xB .geq 6 5 0,xm 7 6,xg 7 (xm 8 1),xg 7 (xf 0 9 2),xg 7 (xo 10 9),xg 7 (xc 222 11 [.s 10]),xg 7 (xw 0 12 11),xg 7 (xb .lss 13 8 12),⟨(some 14),.pick (.s 7) (.s 13) (.c (.bool false)),none⟩,xm 4 14])
 (.ret))
theorem agW:aK prog 251 PT [.tmp 4] 15:=⟨f251,⟨[],[],[]⟩,func251,by kernel_rfl,by kernel_rfl,by kernel_rfl,by kernel_rfl⟩
def P1:AC:=.seq (.aa [⟨(some 2),.box 65 (.s 0),none⟩,⟨(some 4),.mv (.c (.int .u64 0)),none⟩])
 (.seq (.aa [xl 65 5 2,xm 6 1,xc 218 7 [.s 5,.s 6],xm 4 7])
 (.ret))
theorem ag4:aK prog 259 P1 [.tmp 4] 8:=⟨f259,⟨[],[],[]⟩,func259,by kernel_rfl,by kernel_rfl,by kernel_rfl,by kernel_rfl⟩
def uk (o:Option Nat):V:=.aX [.int .i64 ((o.getD 0:Nat):Int),.bool o.isSome]
theorem amx {i:Nat}:decide ((0:Int)≤(i:Nat))=true:=aD (by omega)
theorem ajm (r:Rl) (i:Nat) (σ:ae):al prog 251 [.agg r.enc,.int .i64 (i:Nat)] σ fun v σ' => v = .bool (decide (i<bp r))∧σ' = σ:=by
  refine agW.calls ?_;simp only[aJ,PT,am,aR,Nat.reduceAdd,Rl.af];simp only[am,Rl.af,amx];refine cl (VW r.n σ) ?_;simp only[am,Rl.af,Rl.Gn];refine az ?_;simp[V.erase,bp];rfl
theorem ZC (r:Rl) (i:Nat) {σ:ae} (hg:TZ σ):al prog 217 [.agg r.enc,.int .i64 (i:Nat)] σ fun v σ' => v = .int .u64 ((ti r i).toNat:Nat)∧σ' = σ:=by
  refine agw.calls ?_;simp only[aJ,Pr,rA,Nat.reduceAdd];refine br.intro (al.dK (as' := [.sl .no 1 (iY [(i:Int)])]) (CP [(i:Int)] σ (by simp)) ⟨cQ.no,trivial⟩ bG.rfl) ?_;simp only[am,Rl.af];refine br.intro (Hd r _ hg) ?_;simp only[am,Rl.af];refine az ?_;simp[V.erase,ti]
theorem Rt (r:Rl) (i:Nat) (σ:ae):al prog 218 [.agg r.enc,.int .i64 (i:Nat)] σ fun v σ' => v = .int .u64 ((tm r i).toNat:Nat)∧σ' = σ:=by
  refine agx.calls ?_;simp only[aJ,Ps,rA,Nat.reduceAdd];refine cl (ajm r i σ) ?_
  by_cases h:i<bp r
  · simp only[am,Rl.af,aD h];refine br.intro (al.dK (as' := [.sl .no 1 (iY [(i:Int)])]) (CP [(i:Int)] σ (by simp)) ⟨cQ.no,trivial⟩ bG.rfl) ?_;simp only[am,Rl.af];refine br.intro (Iw r _ σ) ?_;simp only[am,Rl.af];refine az ?_;simp[V.erase,tm,h]
  · simp only[am,aB h];refine az ?_;simp[V.erase,tm,h]
theorem VV (r:Rl) (i j:Nat) (f:FuncId) (g:Nat→aY) {σ:ae} (hg:TZ σ) (hf:∀k,al prog f [.agg r.enc,.int .i64 (k:Nat)] σ fun v σ' => v = .int .u64 ((g k).toNat:Nat)∧σ' = σ) :
    al prog 216 [.agg r.enc,.int .i64 (i:Nat),.int .i64 (j:Nat),.fn (.func f) [] []] σ fun v σ' => v=uk (Gh g i j)∧σ' = σ:=by
  refine agv.calls ?_;simp only[aJ,Pq,am,aR,Nat.reduceAdd,Rl.af];refine br.intro (hf i) ?_;simp only[am,Rl.af];refine br.intro (hf j) ?_;simp only[am,uJ,Rl.af];refine cl (K8 _ hg) ?_;simp only[am,aE,FI];rw[Gh];generalize g i&&&g j=w;have hlen:=Gc w;obtain⟨F,hF⟩:∃F:Nat→Unit→St,∀m x,F m x=⟨[.agg r.enc,.any,.any,.fn (.func f) [] [],.ptr (.loc 0) 0,.any,.any,.any,.any,.any,.int .u64 (w.toNat:Nat),.any,.any,.any,.any,.any,.any,.any,.any,.any,.any,.any,.any,.sl .no 1 (iY ((eU w).map Int.ofNat)),.int .i64 ((eU w).length:Nat),.int .i64 (m:Nat)]++List.replicate 11 .any,[r.enc],σ⟩:=⟨_,fun _ _=>rfl⟩;obtain⟨JF,aQ⟩:∃JF:Nat→Unit→Prop,∀m x,JF m x=(∀u∈(eU w).take m,yD w (g u)=false):=⟨_,fun _ _=>rfl⟩;refine dC ((eU w).length) F JF _ aQ ?_ ?_ ?_
  · refine en (()) ?_ ?_ ?_ ?_
    · exact Eq.mpr (aQ _ _) (by simp)
    all_goals simp[hF,List.replicate,am,bu]
  · rintro m x hi hJ;simp only[hF,List.replicate,am,dB hi];refine bD (by omega) (FH (l:=(eU w).map Int.ofNat) (by simpa using hi)) ?_;simp only[am,Rl.af,Nz,Nl];refine(hf _).mono ?_;rintro v σ ⟨rfl,rfl⟩;simp only[am];refine cl (ame _ _ σ) ?_;simp only[am];cases hb:yD w (g (eU w)[m]) with
    | false =>
      simp only[am,aO,cu hi (by omega)];refine nxt (()) hi ?_ ?_ ?_ ?_
      · exact Eq.mpr (aQ _ _) (De hJ hi hb)
      all_goals simp[hF,List.replicate,am,bu]
    | true =>
      have e:(eU w).find? (fun u=>yD w (g u))=some (eU w)[m]:=by
        rw[DK];exact⟨hb,_,(eU w).drop (m+1),by rw[←kN hi,nR],fun a ha=>by rw[hJ a ha];rfl⟩
      simp only[am,aO];refine az ?_;simp[V.erase,a9,uk,e]
  · rintro x hJ;rw[dW] at hJ;have e:(eU w).find? (fun u=>yD w (g u))=none:=by
      rw[DJ];intro u hu;rw[hJ u hu];simp
    simp only[hF,List.replicate,am,aO,dG,aO];refine az ?_;simp[V.erase,a9,uk,e]
theorem akj (r:Rl) (i j:Nat) {σ:ae} (hg:TZ σ):al prog 162 [.agg r.enc,.int .i64 (i:Nat),.int .i64 (j:Nat)] σ fun v σ' => v=uk (uc r i j)∧σ' = σ:=by
  refine afV.calls ?_;simp only[aJ,OM,am,aR,Nat.reduceAdd,Rl.af];refine cl (VV r i j _ (ti r) hg fun k=>ZC r k hg) ?_;simp only[am,uk];refine az ?_;simp[V.erase,a9,uc]
theorem amh (r:Rl) (i j:Nat) {σ:ae} (hg:TZ σ):al prog 163 [.agg r.enc,.int .i64 (i:Nat),.int .i64 (j:Nat)] σ fun v σ' => v=uk (vS r i j)∧σ' = σ:=by
  refine afW.calls ?_;simp only[aJ,OO,am,aR,Nat.reduceAdd,Rl.af];refine cl (VV r i j _ (tm r) hg fun k=>Rt r k σ) ?_;simp only[am,uk];refine az ?_;simp[V.erase,a9,vS]
theorem ajR (r:Rl) (i:Nat) (σ:ae):al prog 259 [.agg r.enc,.int .i64 (i:Nat)] σ fun v σ' => v = .int .u64 ((tm r i).toNat:Nat)∧σ' = σ:=by
  refine ag4.calls ?_;simp only[aJ,P1,rA,Nat.reduceAdd];refine cl (Rt r i σ) ?_;simp only[am];refine az ?_;simp[V.erase]
theorem ae4 {p:Nat→Bool} {n m:Nat} (hm:m<n) (h:∀k,k<m→p k=false) (hp:p m=true):(List.range n).find? p=some m:=by
  rw[DK];refine⟨hp,List.range m,List.range' (m+1) (n - (m+1)),?_,fun a ha=>by rw[h a (by simpa using ha)];rfl⟩;rw[rJ,rJ,←yW]
  have:=NF (s:=0) (m:=m) (n:=n - m) (step:=1)
  simp only[uT,gQ] at this;rw[show n - (m+1)+1=n - m by omega,this];congr 1;omega
theorem ae7 {p:Nat→Bool} {n:Nat} (h:∀k,k<n→p k=false):(List.range n).find? p=none:=by
  rw[DJ];intro u hu;rw[h u (by simpa using hu)];simp
theorem U9 (r:Rl) {σ:ae} (hg:TZ σ):al prog 114 [.agg r.enc] σ fun v σ' => v = .bool (po r)∧σ' = σ:=by
  refine aft.calls ?_;simp only[aJ,Og,am,aR,Rl.af]
  by_cases h1:r.n<1
  · simp only[am,aD h1];refine az ?_;simp[V.erase,po];omega
  · simp only[am,Rl.af,aB h1]
    by_cases U:64<r.n
    · simp only[am,aD U];refine az ?_;simp[V.erase,po];omega
    · simp only[am,Rl.af,aB U];refine cl (an6 r hg) ?_;obtain⟨n,hn⟩:∃n:Nat,r.n=n:=⟨r.n.toNat,by omega⟩;have hp:bp r=n:=by rw[bp,hn];omega
      cases ho:Ao r with
      | false =>
        simp only[am];refine az ?_;simp[V.erase,po,ho]
      | true =>
        simp only[am,Rl.af,hn];have good:(∀i,i<n→∀j,j<i→((uc r i j).isSome&&(vS r i j).isSome)=true)→po r=true:=fun h=>by
          simp only[po,ho,hn,iP,jl,wH,a_,bH,s4];exact⟨by omega,fun i hi j hj=>by have:=h i hi j hj;simpa using this⟩
        have bad:∀i j,i<n→j<i→((uc r i j).isSome&&(vS r i j).isSome)=false→po r=false:=fun i j hi hj h=>by
          cases hq:po r with
          | false=>rfl
          | true =>
            simp only[po,hn,iP,jl,wH,a_] at hq
            have:=hq.2 i hi j hj
            rw[this.1,this.2] at h;simp at h
        obtain⟨F,hF⟩:∃F:Nat→Unit→St,∀i x,F i x=⟨[.any,.ptr (.loc 0) 0,.any,.any,.any,.any,.any,.any,.any,.any,.any,.any,.any,.any,.any,.any,.any,.any,.any,.any,.any,.any,.any,.int .i64 (n:Nat),.int .i64 (i:Nat)]++List.replicate 28 .any,[r.enc],σ⟩:=⟨_,fun _ _=>rfl⟩;obtain⟨JF,aQ⟩:∃JF:Nat→Unit→Prop,∀i x,JF i x=(∀a,a<i→∀b,b<a→((uc r a b).isSome&&(vS r a b).isSome)=true):=⟨_,fun _ _=>rfl⟩;refine dC (n) F JF _ aQ ?_ ?_ ?_
        · refine en (()) ?_ ?_ ?_ ?_
          · exact Eq.mpr (aQ _ _) (by intro k h;omega)
          all_goals simp[hF,List.replicate,am,bu]
        · rintro i x hi hJ;simp only[hF,List.replicate,am,dB hi];obtain⟨F2,ep⟩:∃F2:Nat→Unit→St,∀j x,F2 j x=⟨[.any,.ptr (.loc 0) 0,.any,.int .i64 (i:Nat),.any,.any,.any,.any,.any,.any,.any,.any,.any,.any,.any,.any,.any,.any,.any,.any,.any,.any,.any,.int .i64 (n:Nat),.int .i64 (i:Nat),.any,.any,.int .i64 (i:Nat),.int .i64 (j:Nat)]++List.replicate 24 .any,[r.enc],σ⟩:=⟨_,fun _ _=>rfl⟩;obtain⟨gO,gG⟩:∃gO:Nat→Unit→Prop,∀j x,gO j x=(∀b,b<j→((uc r i b).isSome&&(vS r i b).isSome)=true):=⟨_,fun _ _=>rfl⟩;refine dC (i) F2 gO _ gG ?_ ?_ ?_
          · refine en (()) ?_ ?_ ?_ ?_
            · exact Eq.mpr (gG _ _) (by intro k h;omega)
            all_goals simp[ep,List.replicate,am,bu]
          · rintro j x hj o5;simp only[ep,List.replicate,am,dB hj,Rl.af];refine cl (akj r i j hg) ?_;simp only[am,Rl.af,uk];refine cl (amh r i j hg) ?_;simp only[am,uk];cases ha:(uc r i j).isSome with
            | false =>
              simp only[am,aO];refine az ?_;simp[V.erase,bad i j hi hj (by rw[ha];rfl)]
            | true =>
              simp only[am];cases hb:(vS r i j).isSome with
              | false =>
                simp only[am,aO];refine az ?_;simp[V.erase,bad i j hi hj (by rw[ha,hb];rfl)]
              | true =>
                simp only[am,aO,cu hj (by omega)];refine nxt (()) hj ?_ ?_ ?_ ?_
                · exact Eq.mpr (gG _ _) (y8 o5 (by rw[ha,hb];rfl))
                all_goals simp[ep,List.replicate,am,bu]
          · rintro x o5;simp only[ep,List.replicate,am,aO,dG,Nat.reduceEqDiff,aO,reduceCtorEq,cu hi (by omega)];refine nxt (()) hi ?_ ?_ ?_ ?_
            · exact Eq.mpr (aQ _ _) (y8 hJ o5)
            all_goals simp[hF,List.replicate,am,bu]
        · rintro x hJ;simp only[hF,List.replicate,am,aO,dG,aO];refine az ?_;simp[V.erase,good hJ]
structure RI (r:Rl) (i0 m:Nat) (l:List Nat):Prop where
  nd:l.Nodup
  GN:∀k∈l,jJ r i0 k
  fst:i0∈l
  Yt:∀a v,a<m→l[a]?=some v→∀k,dh r v k=true→k∈l
theorem RI.len {r:Rl} {i0 m:Nat} {l:List Nat} (h:RI r i0 m l):l.length≤bp r:=Lh h.nd fun k hk=>(h.GN k hk).lt.2
theorem RI.all {r:Rl} {i0:Nat} {l:List Nat} (h:RI r i0 l.length l) (j:Nat):j∈l↔jJ r i0 j:=by
  refine⟨h.GN j,fun hr=>?_⟩;induction hr with
  | refl _=>exact h.fst
  | tail _ hs ih =>
    obtain⟨a,ha,hv⟩:=HN.1 ih;exact h.Yt a _ ha (by rw[cw ha,hv]) _ hs
theorem RI.add {r:Rl} {i0 m j:Nat} {l:List Nat} {v:Nat} (h:RI r i0 m l) (hm:m≤l.length) (hv:v∈l) (hs:dh r v j=true) (hj:j∉l):RI r i0 m (l++[j]):=by
  refine⟨?_,fun k hk=>?_,by simp[h.fst],fun a w ha hw k hk=>?_⟩
  · rw[List.nodup_append];exact⟨h.nd,by simp,fun a ha b hb=>by simp only[lS] at hb;subst hb;rintro rfl;exact hj ha⟩
  · rcases il.1 hk with hk | hk
    · exact h.GN k hk
    · rw[lS.1 hk];exact(h.GN v hv).tail hs
  · rw[oC (by omega)] at hw;exact il.2 (.inl (h.Yt a w ha hw k hk))
end Go.Proofs.Tryz
namespace Go.Proofs.Tryz
open Go.Am
def OE:AC:=.seq (.aa [⟨(some 2),.mv (.c (.bool false)),none⟩])
 (.seq (.aa [xm 3 0,xk 4 3,xf 3 5 4,xl 2 6 5,⟨(some 7),.build [(.int .i64 0),(.int .i64 0)] [],none⟩,⟨(some 8),.kS false [1,1] (.s 6) (.s 7),none⟩,xm 2 8])
 (.ret))
theorem afO:aK prog 156 OE [.tmp 2] 9:=⟨f156,⟨[],[],[]⟩,func156,by kernel_rfl,by kernel_rfl,by kernel_rfl,by kernel_rfl⟩
def Pb:AC:=.seq (.aa [⟨(some 2),.alloc [(.str []),(.int .i64 0)],none⟩])
 (.seq (.aa [xm 4 0,xc 206 5 [.s 4,.c (.int .u8 97)],⟨(some 3),.alloc [(.int .u8 0),(.str []),(.int .i64 0),(.sl .full 5 []),(.int .i64 0)],none⟩,xs 5 3 5])
 (.seq (.aa [xf 0 6 3,xf 1 7 6,xo 8 7,xf 0 9 3,xf 2 10 9,xo 11 10,⟨(some 12),.build [(.str []),(.int .i64 0)] [(0,1,(.s 8)),(1,1,(.s 11))],none⟩,xs 2 2 12])
 (.ret)))
theorem agi:aK prog 204 Pb [.cell 2 true 2] 13:=⟨f204,⟨[],[],[]⟩,func204,by kernel_rfl,by kernel_rfl,by kernel_rfl,by kernel_rfl⟩
def Pc:AC:=.seq (.aa [⟨(some 4),.mv (.c (.bool false)),none⟩])
 (.seq (.draw [(xm 5 0,[]),(xc 156 6 [.s 5],[]),(xm 7 6,[]),(xg 7 (xm 8 0),[]),(xg 7 (xk 9 8),[]),(xg 7 (xf 1 10 9),[]),(xg 7 (xo 11 10),[]),(xg 7 (xB .geq 12 11 0),[]),(⟨(some 13),.pick (.s 7) (.s 12) (.c (.bool false)),none⟩,[]),(xm 14 13,[]),(xg 14 (xm 15 0),[]),(xg 14 (xk 16 15),[]),(xg 14 (xf 1 17 16),[]),(xg 14 (xo 18 17),[]),(xg 14 (xm 19 0),[]),(xg 14 (xk 20 19),[]),(xg 14 (xf 0 21 20),[]),(xg 14 (xo 22 21),[]),(xg 14 (xL 23 22),[]),(xg 14 (xb .lss 24 18 23),[]),(⟨(some 25),.pick (.s 14) (.s 24) (.c (.bool false)),none⟩,[]),(xm 26 25,[]),(xg 26 (xm 27 0),[]),(xg 26 (xk 28 27),[]),(xg 26 (xf 0 29 28),[]),(xg 26 (xo 30 29),[]),(xg 26 (xm 31 0),[]),(xg 26 (xk 32 31),[]),(xg 26 (xf 1 33 32),[]),(xg 26 (xo 34 33),[]),(xg 26 (xA 5 35 30 34),[]),(xg 26 (xf 0 36 35),[]),(xg 26 (xf 0 37 36),[]),(xg 26 (xo 38 37),[]),(xg 26 (xm 39 1),[]),(xg 26 (xb .eql 40 38 39),[]),(⟨(some 41),.pick (.s 26) (.s 40) (.c (.bool false)),none⟩,[]),(xm 4 41,[])])
 (.ret))
theorem agj:aK prog 205 Pc [.tmp 4] 42:=⟨f205,⟨[],[],[]⟩,func205,by kernel_rfl,by kernel_rfl,by kernel_rfl,by kernel_rfl⟩
def Pd:AC:=.seq (.aa [⟨(some 4),.alloc [(.int .u8 0),(.str []),(.int .i64 0),(.sl .full 5 []),(.int .i64 0)],none⟩])
 (.seq (.seq (.aa [xm 5 0,xm 6 1,xc 205 7 [.s 5,.s 6],⟨(some 8),.not (.s 7),none⟩])
 (.cond (.s 8) (.seq (.aa [xm 9 0,xc 243 10 [.s 9]])
 (.seq (.aa [⟨(some 11),.build [(.int .u8 0),(.str []),(.int .i64 0),(.sl .full 5 []),(.int .i64 0)] [],none⟩,xs 5 4 11])
 (.ret)))
 (.skip)))
 (.seq (.aa [xm 12 0,xk 13 12,xf 1 14 13,xo 15 14,xB .add 16 15 1,xk 17 12,xf 1 18 17,xs 1 18 16])
 (.seq (.draw [(xm 19 0,[]),(xk 20 19,[]),(xf 0 21 20,[]),(xo 22 21,[]),(xm 23 0,[]),(xk 24 23,[]),(xf 1 25 24,[]),(xo 26 25,[]),(xB .sub 27 26 1,[]),(xA 5 28 22 27,[]),(xl 5 29 28,[]),(xs 5 4 29,[])])
 (.ret))))
theorem agk:aK prog 206 Pd [.cell 4 true 5] 30:=⟨f206,⟨[],[],[]⟩,func206,by kernel_rfl,by kernel_rfl,by kernel_rfl,by kernel_rfl⟩
def PL:AC:=.seq (.seq (.aa [xm 2 0,xc 156 3 [.s 2],⟨(some 4),.not (.s 3),none⟩])
 (.cond (.s 4) (.ret)
 (.skip)))
 (.seq (.aa [xm 5 0,xm 6 0,xk 7 6,xf 2 8 7,xo 9 8,⟨(some 10),.build [(.int .i64 0),(.int .i64 0)] [(0,1,(.c (.int .i64 2))),(1,1,(.s 9))],none⟩,xk 11 5,xf 3 12 11,xs 2 12 10])
 (.seq (.draw [(xm 13 0,[]),(xk 14 13,[]),(xf 1 15 14,[]),(xo 16 15,[]),(xB .geq 17 16 0,[]),(xm 18 17,[]),(xg 18 (xm 19 0),[]),(xg 18 (xk 20 19),[]),(xg 18 (xf 1 21 20),[]),(xg 18 (xo 22 21),[]),(xg 18 (xm 23 0),[]),(xg 18 (xk 24 23),[]),(xg 18 (xf 0 25 24),[]),(xg 18 (xo 26 25),[]),(xg 18 (xL 27 26),[]),(xg 18 (xb .lss 28 22 27),[]),(⟨(some 29),.pick (.s 18) (.s 28) (.c (.bool false)),none⟩,[])])
 (.cond (.s 29) (.draw [(xm 30 0,[]),(xm 31 0,[]),(xk 32 31,[]),(xf 0 33 32,[]),(xo 34 33,[]),(xm 35 0,[]),(xk 36 35,[]),(xf 1 37 36,[]),(xo 38 37,[]),(xA 5 39 34 38,[]),(xf 0 40 39,[]),(xf 2 41 40,[]),(xo 42 41,[]),(xk 43 30,[]),(xf 3 44 43,[]),(xf 1 45 44,[]),(xs 1 45 42,[])])
 (.skip))))
theorem agP:aK prog 243 PL [] 46:=⟨f243,⟨[],[],[]⟩,func243,by kernel_rfl,by kernel_rfl,by kernel_rfl,by kernel_rfl⟩
set_option maxRecDepth 4000
theorem uh {r:Nat} {rd:ab} {σ:ae} (h:σ.box r=some rd.enc):al prog 156 [.ptr (.out r) 0] σ fun v σ' => v = .bool rd.ok∧σ' = σ:=by
  refine afO.calls ?_;simp only[aJ,OE,aR,am,h,ab.enc];refine aG rfl (ae.aW _) ⟨?_,rfl⟩;cases hb:rd.bad<;>simp[ab.ok,V.erase,hb,cz,eN]
theorem ou {r:Nat} {rd:ab} {k:Int} {σ:ae} (h:σ.box r=some rd.enc):al prog 205 [.ptr (.out r) 0,.int .u8 k] σ fun v σ' => v = .bool (rd.sees k)∧σ' = σ:=by
  refine agj.calls ?_;simp only[aJ,Pc,aR,am];refine br.intro (uh h) ?_;simp only[am];cases bM:rd.ok
  · simp only[am];refine aG rfl (ae.aW _) ⟨?_,rfl⟩;simp[ab.sees,bM,V.erase]
  · simp only[am,h,ab.enc]
    by_cases h0:0≤rd.at_
    · simp only[am,h0,bZ,h,ab.enc,jn]
      by_cases h1:rd.at_<rd.l.length
      · obtain⟨j,hj⟩:=A3 h0;have fX : j<rd.l.length:=by omega
        simp only[am,h1,bZ,h,ab.enc];refine bD h0 (c:=rd.l[j].enc) (by simp[qE,hj,fX]) ?_;simp only[am,cD];refine aG rfl (ae.aW _) ⟨?_,rfl⟩;simp[ab.sees,a8,V.erase,bM,hj,fX]
      · simp only[am,h1,fh];refine aG rfl (ae.aW _) ⟨?_,rfl⟩
        have:rd.l[rd.at_.toNat]?=none:=wF (by omega)
        simp[ab.sees,a8,V.erase,this]
    · simp only[am,h0,fh];refine aG rfl (ae.aW _) ⟨?_,rfl⟩;simp[ab.sees,a8,V.erase,h0]
theorem SC {r:Nat} {rd:ab} {σ:ae} (h:σ.box r=some rd.enc):al prog 243 [.ptr (.out r) 0] σ fun v σ' => v = .aX []∧σ' = σ.set r rd.fail.enc:=by
  refine agP.calls ?_;simp only[aJ,PL,aR,am];refine(uh h).mono ?_;rintro v σ' ⟨rfl,rfl⟩;cases hb:rd.bad with
  | some b =>
    simp only[am,ab.ok,hb,Option.isNone];refine aG rfl (ae.aW _) ⟨rfl,?_⟩;rw[ab.fail,hb];exact(ae.wa h).symm
  | none =>
    simp only[am,ab.ok,hb,Option.isNone,h,ab.enc,Nat.reduceAdd]
    by_cases h0:0≤rd.at_
    · simp only[am,h0,bZ,jn]
      by_cases h1:rd.at_<rd.l.length
      · obtain⟨j,hj⟩:=A3 h0;have fX : j<rd.l.length:=by omega
        simp only[am,h1,bZ];refine bD h0 (c:=rd.l[j].enc) (by simp[qE,hj,fX]) ?_;simp only[am,cD,Nat.reduceAdd];refine aG rfl (ae.aW _) ⟨rfl,?_⟩;simp[ab.fail,ab.spot,hb,hj,fX,cz,eN]
      · simp only[am,h1,fh];refine aG rfl (ae.aW _) ⟨rfl,?_⟩
        have:rd.l[rd.at_.toNat]?=none:=wF (by omega)
        simp[ab.fail,ab.spot,hb,this,cz,eN]
    · simp only[am,h0,fh];refine aG rfl (ae.aW _) ⟨rfl,?_⟩;simp[ab.fail,ab.spot,hb,h0,cz,eN]
theorem uC {r:Nat} {rd:ab} {k:Int} {σ:ae} (h:σ.box r=some rd.enc) (hb:rd.l.length≤aF):al prog 206 [.ptr (.out r) 0,.int .u8 k] σ fun v σ' => v = .agg (rd.take k).1.enc∧σ' = σ.set r (rd.take k).2.enc:=by
  refine agk.calls ?_;simp only[aJ,Pd,aR,am];refine(ou h).mono ?_;rintro v σ' ⟨rfl,rfl⟩;cases hs:rd.sees k
  · simp only[am];refine(SC h).mono ?_;rintro v σ' ⟨rfl,rfl⟩;simp only[am];refine aG rfl (ae.aW _) ⟨?_,?_⟩
    · simp[ab.take,hs,V.erase,a9,Tree.zero,Tree.enc,cK]
    · simp[ab.take,hs]
  · have ct := hs;simp only[ab.sees,a8,a_,bH] at ct;obtain⟨_,h0,hk⟩:=ct;have h1:rd.at_.toNat<rd.l.length:=by
      cases hq:rd.l[rd.at_.toNat]? with
      | none=>rw[hq] at hk;simp at hk
      | some t=>exact(dD.1 hq).1
    simp only[aF] at hb;simp only[am,h,ab.enc];rw[wrap_i64 (x:=rd.at_+1) (by omega) (by omega),wrap_i64 (x:=rd.at_+1 - 1) (by omega) (by omega)];refine bD (by omega) (c:=rd.l[rd.at_.toNat].enc) (by rw[show (rd.at_+1 - 1).toNat=rd.at_.toNat by omega];simp[qE,h1]) ?_;simp only[am,cD];refine aG rfl (ae.aW _) ⟨?_,?_⟩
    · simp[ab.take,hs,V.erase,a9,h1,List.getD]
    · simp[ab.take,hs]
theorem wv {r:Nat} {rd:ab} {σ:ae} (h:σ.box r=some rd.enc) (hb:rd.l.length≤aF):al prog 204 [.ptr (.out r) 0] σ fun v σ' => v = .agg rd.word.1.enc∧σ' = σ.set r rd.word.2.enc:=by
  refine agi.calls ?_;simp only[aJ,Pb,aR,am];refine(uC h hb).mono ?_;rintro v σ' ⟨rfl,rfl⟩;simp only[am,cD,Nat.reduceAdd];refine aG rfl (ae.aW _) ⟨?_,?_⟩
  · simp[ab.word,V.erase,a9,Word.enc]
  · simp[ab.word]
end Go.Proofs.Tryz
namespace Go.Proofs.Tryz
open Go.Am
def O':AC:=.seq (.aa [xm 4 1,⟨(some 5),.gC (.s 4) [],none⟩])
 (.block 0 (.loop (.seq (.seq (.aa [xm 6 0,xc 205 7 [.s 6,.c (.int .u8 44)]])
 (.cond (.s 7) (.skip)
 (.exit 0)))
 (.block 1 (.seq (.aa [xm 8 0,xc 206 9 [.s 8,.c (.int .u8 44)]])
 (.aa [xm 10 1,⟨(some 11),.gC (.s 10) [],none⟩]))))))
theorem agf:aK prog 202 O' [] 12:=⟨f202,⟨[],[],[]⟩,func202,by kernel_rfl,by kernel_rfl,by kernel_rfl,by kernel_rfl⟩
set_option maxRecDepth 4000
structure Sys (α:Type) where
  F:α→ae
  rd:α→ab
  set:α→ab→α
  step:α→α
def Sys.go {α:Type} (S:Sys α):Nat→α→α
  | 0,a=>a
  | n+1,a=>if (S.rd a).sees 44 then S.go n (S.step (S.set a ((S.rd a).take 44).2)) else a
theorem aqO {rd:ab} {k:Int} (h:rd.sees k=true):rd.bad=none∧0≤rd.at_∧rd.at_<rd.l.length:=by
  simp only[ab.sees,ab.ok,a8,a_,bH,Bc] at h;obtain⟨h1,h0,hk⟩:=h;refine⟨h1,h0,?_⟩;cases hq:rd.l[rd.at_.toNat]? with
  | none=>rw[hq] at hk;simp at hk
  | some t=>have:=(dD.1 hq).1;omega
theorem Ms {α:Type} (S:Sys α) (Inv:α→Prop) {g:FuncId} {cap:List V} {r:Nat} (nk:bm cap=true)
    (mD:∀a,Inv a→(S.F a).box r=some (S.rd a).enc) (hlen:∀a,Inv a→(S.rd a).l.length≤aF)
    (ly:∀a,Inv a→(S.rd a).sees 44=true→(S.F a).set r ((S.rd a).take 44).2.enc=S.F (S.set a ((S.rd a).take 44).2))
    (qd:∀a,Inv a→(S.rd a).sees 44=true→al prog g cap (S.F (S.set a ((S.rd a).take 44).2)) (fun v σ' => v = .aX []∧σ' = S.F (S.step (S.set a ((S.rd a).take 44).2))) ∧
      Inv (S.step (S.set a ((S.rd a).take 44).2))∧(S.rd (S.step (S.set a ((S.rd a).take 44).2))).l=(S.rd a).l∧(S.rd a).at_+1≤(S.rd (S.step (S.set a ((S.rd a).take 44).2))).at_)
    {a:α} (h0:al prog g cap (S.F a) (fun v σ' => v = .aX []∧σ' = S.F (S.step a))) (hI:Inv (S.step a)) {n:Nat} (hn:(S.rd (S.step a)).l.length≤n) :
    al prog 202 [.ptr (.out r) 0,.fn (.func g) [] cap] (S.F a) fun v σ' => v = .aX []∧σ' = S.F (S.go n (S.step a)):=by
  refine agf.calls ?_;simp only[aJ,O',aR,am,nk];refine h0.mono ?_;rintro v σ' ⟨rfl,rfl⟩;simp only[am]
  let I:{p:α × Nat // Inv p.1∧((S.rd p.1).l.length:Int)≤max (S.rd p.1).at_ 0+p.2∧S.go p.2 p.1=S.go n (S.step a)}→St:=fun p =>
    ⟨[.ptr (.out r) 0,.fn (.func g) [] cap]++List.replicate 10 .any,[],S.F p.1.1⟩
  refine j6 I (fun p=>p.1.2) ?_ ?_
  · refine ba.enter ⟨(S.step a,n),hI,by simp only;omega,rfl⟩ ?_ cj.rfl bG.rfl;simp[I,List.replicate,am]
  · rintro⟨⟨b,m⟩,hb,hm,xF⟩;simp only[I,List.replicate,am];simp only at hb hm xF;refine(ou (mD b hb)).mono ?_;rintro v σ' ⟨rfl,rfl⟩;cases hs:(S.rd b).sees 44
    · simp only[am];refine aG rfl (ae.aW _) ⟨rfl,?_⟩;rw[←xF];cases m<;>simp[Sys.go,hs]
    · obtain⟨_,h1,U⟩:=aqO hs;simp only[am];refine(uC (mD b hb) (hlen b hb)).mono ?_;rintro v σ' ⟨rfl,rfl⟩;simp only[am,nk];obtain⟨k1,k2,k3,k4⟩:=qd b hb hs;rw[ly b hb hs];refine k1.mono ?_;rintro v σ' ⟨rfl,rfl⟩;simp only[am];cases m with
      | zero=>omega
      | succ m =>
        refine ba.again ⟨(S.step (S.set b ((S.rd b).take 44).2),m),k2,?_,?_⟩ (by simp) ?_ cj.rfl bG.rfl
        · rw[k3];simp only;omega
        · rw[←xF];simp[Sys.go,hs]
        · simp[am]
end Go.Proofs.Tryz
namespace Go.Proofs.Tryz
open Go.Am
def O9:AC:=.seq (.aa [xi 8 0])
 (.seq (.aa [xm 11 0,xm 12 1,xc 206 13 [.s 11,.s 12],⟨(some 9),.alloc [(.int .u8 0),(.str []),(.int .i64 0),(.sl .full 5 []),(.int .i64 0)],none⟩,xs 5 9 13])
 (.seq (.seq (.aa [xm 14 0,xc 156 15 [.s 14],⟨(some 16),.not (.s 15),none⟩])
 (.cond (.s 16) (.seq (.aa [xi 8 0])
 (.ret))
 (.skip)))
 (.seq (.aa [xf 3 17 9,xo 18 17,xf 4 19 9,xo 20 19,⟨(some 21),.build [(.sl .full 5 []),(.int .i64 0),(.int .i64 0),(.int .i64 0),(.int .i64 0)] [(0,1,(.s 18)),(2,1,(.s 20))],none⟩,⟨(some 22),.ff 5 (.s 21),none⟩,xm 10 22])
 (.seq (.seq (.aa [xm 23 2,⟨(some 24),.not (.s 23),none⟩,xm 25 24,xh 25 (xf 3 26 9),xh 25 (xo 27 26),xh 25 (xL 28 27),xh 25 (xB .gtr 29 28 0),⟨(some 30),.pick (.s 25) (.c (.bool true)) (.s 29),none⟩])
 (.cond (.s 30) (.aa [xm 31 3,xm 32 10,⟨(some 33),.gC (.s 31) [(.s 32)],none⟩])
 (.skip)))
 (.seq (.seq (.draw [(xm 34 10,[]),(xc 156 35 [.s 34],[]),(xm 36 35,[]),(xg 36 (xm 37 10),[]),(xg 36 (xk 38 37),[]),(xg 36 (xf 1 39 38),[]),(xg 36 (xo 40 39),[]),(xg 36 (xm 41 10),[]),(xg 36 (xk 42 41),[]),(xg 36 (xf 0 43 42),[]),(xg 36 (xo 44 43),[]),(xg 36 (xL 45 44),[]),(xg 36 (xb .lss 46 40 45),[]),(⟨(some 47),.pick (.s 36) (.s 46) (.c (.bool false)),none⟩,[])])
 (.cond (.s 47) (.aa [xm 48 10,xc 243 49 [.s 48]])
 (.skip)))
 (.seq (.seq (.aa [xm 50 10,xc 156 51 [.s 50],⟨(some 52),.not (.s 51),none⟩])
 (.cond (.s 52) (.aa [xm 53 0,xm 54 10,xk 55 54,xf 3 56 55,xl 2 57 56,xk 58 53,xf 3 59 58,xs 2 59 57])
 (.skip)))
 (.seq (.aa [xf 0 60 9,xf 2 61 60,xo 62 61,xm 8 62])
 (.ret))))))))
theorem agd:aK prog 200 O9 [.tmp 8] 63:=⟨f200,⟨[22],[],[]⟩,func200,by kernel_rfl,by kernel_rfl,by kernel_rfl,by kernel_rfl⟩
set_option maxRecDepth 4000
set_option maxHeartbeats 4000000
theorem MY {r:Nat} {rd:ab} {kind:Int} {empty:Bool} {g:FuncId} {cap:List V} {σ:ae} (nk:bm cap=true) (h:σ.box r=some rd.enc) (hlen:rd.l.length≤aF) (pZ:(rd.take kind).1.kids.length≤aF)
    (i1:ab) (pE:ae) (hcb:(rd.take kind).2.ok=true→(empty=false∨(rd.take kind).1.kids.length≠0)→∀q,σ.box q=none →
      al prog g (.ptr (.out q) 0::cap) ((σ.set r (rd.take kind).2.enc).set q (rd.take kind).1.inner.enc) fun v σ' => v = .aX []∧σ' = (pE.set r (rd.take kind).2.enc).set q i1.enc)
    (g_:empty=true→(rd.take kind).1.kids.length=0→i1=(rd.take kind).1.inner∧pE=σ) (hq:∀q,σ.box q=none→pE.box q=none) (hl:i1.l=(rd.take kind).1.kids) :
    al prog 200 [.ptr (.out r) 0,.int .u8 kind,.bool empty,.fn (.func g) [] cap] σ fun v σ' =>
      if (rd.take kind).2.ok=true then v = .int .i64 (rd.take kind).1.tok.pos∧σ' = pE.set r ((rd.take kind).2.under i1).enc else v = .int .i64 0∧σ' = σ.set r (rd.take kind).2.enc:=by
  refine agd.calls ?_;simp only[aJ,O9,aR,am];refine(uC h hlen).mono ?_;rintro v σ' ⟨rfl,rfl⟩;generalize ht:(rd.take kind).1=t at *;generalize hr1:(rd.take kind).2=ri at *;simp only[am,cD,Nat.reduceAdd];refine(uh (ae.cX _ _ _)).mono ?_;rintro v σ' ⟨rfl,rfl⟩;cases bM:ri.ok
  · simp only[am];refine aG rfl (ae.aW _) ?_;simp[V.erase]
  · have eR:ri.bad=none:=by simpa [ab.ok] using bM
    simp only[am,Nat.reduceAdd];refine iw fun q Fy=>?_
    have ju:q≠r:=by rintro rfl;rw[ae.cX] at Fy;simp at Fy
    have Uo : σ.box q=none:=by rw[ae.dc _ _ ju] at Fy;exact Fy
    have dx:[V.sl .no 5 (cK t.kids),.int .i64 0,.int .i64 t.fin,.int .i64 0,.int .i64 0]=t.inner.enc:=rfl;simp only[am,dx];have fW:∀i:ab,i.l=t.kids→((pE.set r ri.enc).set q i.enc).box q=some i.enc:=fun i _=>ae.cX _ _ _
    have lz:∀(A B:List V),(pE.set r A).sub ((pE.set r A).set q B):=fun A B=>by
      refine⟨fun b cs hb=>?_,fun _ _ h=>h,fun _ _ h=>h⟩
      by_cases tN:b=q
      · subst tN;rw[ae.dc _ _ ju,hq b Uo] at hb;simp at hb
      · rw[ae.dc _ _ tN];exact hb
    have hsw:∀(A B C:List V),((pE.set r A).set q B).set r C=(pE.set r C).set q B:=fun A B C=>by rw[ae.set_comm ju,ae.set_set]
    have Fb:((pE.set r ri.enc).set q i1.enc).box q=some i1.enc:=ae.cX _ _ _
    by_cases hc:empty=false∨t.kids.length≠0
    case' neg =>
      have hE:empty=true:=by cases empty<;>simp at hc ⊢
      have hk:t.kids.length=0:=by
        rcases HR t.kids.length with h | h
        · exact h
        · exact absurd (.inr (by omega)) hc
      obtain⟨e1,e2⟩:=g_ hE hk;simp only[am,hE,jn,hk,uP,Int.lt_irrefl,fh];rw[←e1,←e2]
    case' pos =>
      have xF:=hcb bM hc q Uo;cases hE:empty
      case' true =>
        have hk:0<t.kids.length:=by
          rcases hc with h | h
          · rw[hE] at h;simp at h
          · omega
        simp only[am,jn,Int.natCast_pos,hk,bZ]
      all_goals
        simp only[am,nk];refine xF.mono ?_;rintro v σ' ⟨rfl,rfl⟩;simp only[am]
    all_goals
      refine br.intro (uh Fb) ?_;have TT:∀(i:ab),((pE.set r ri.enc).set q i.enc).box r=some ri.enc:=fun i=>by rw[ae.dc _ _ (Ne.symm ju),ae.cX]
      have fin:∀(i:ab) (x:List V),x=(ri.under i1).enc→(pE.set r (ri.under i1).enc).sub (((pE.set r ri.enc).set q i.enc).set r x):=fun i x hx=>by
        rw[hx,hsw];exact lz _ _
      cases zL:i1.ok
      · have fW:i1.close=i1:=by simp[ab.close,zL]
        simp only[am];refine(uh Fb).mono ?_;rintro v σ' ⟨rfl,rfl⟩;simp only[am,zL,TT,ab.ex,Nat.reduceAdd];exact aG rfl (fin i1 _ (by rw[ab.under,fW];rfl)) ⟨rfl,rfl⟩
      · simp only[am,ab.ex,hl,jn]
        by_cases aj:i1.at_<t.kids.length
        · have fW:i1.close=i1.fail:=by simp[ab.close,zL,hl,aj]
          simp only[am,aj,bZ];refine(SC Fb).mono ?_;rintro v σ' ⟨rfl,rfl⟩;simp only[am];refine(uh (ae.cX _ _ _)).mono ?_;rintro v σ' ⟨rfl,rfl⟩;have hf:i1.fail.ok=false:=by
            have:i1.bad=none:=by simpa [ab.ok] using zL
            simp[ab.fail,this,ab.ok]
          simp only[am,hf,TT,ab.ex,Nat.reduceAdd];exact aG rfl (fin i1.fail _ (by rw[ab.under,fW];rfl)) ⟨rfl,rfl⟩
        · have fW:i1.close=i1:=by simp[ab.close,hl,aj]
          have hu:ri.under i1=ri:=by
            have:i1.bad=none:=by simpa [ab.ok] using zL
            rw[ab.under,fW,this,←eR]
          simp only[am,aj,fh];refine(uh Fb).mono ?_;rintro v σ' ⟨rfl,rfl⟩;simp only[am,zL];refine aG rfl ?_ ⟨rfl,rfl⟩;rw[hu];exact lz _ _
end Go.Proofs.Tryz
namespace Go.Proofs.Tryz
open Go.Am
def OD:AC:=.seq (.aa [⟨(some 4),.mv (.c (.sl .full 2 [])),none⟩,xi 5 0])
 (.seq (.aa [⟨(some 6),.mX [(.sl .full 2 [])],none⟩])
 (.seq (.mQ (.aa [xm 8 0,xm 9 1,⟨(some 10),.ix (.func 201) [] [(.s 6)],none⟩,xc 200 11 [.s 8,.c (.int .u8 123),.s 9,.s 10],xm 7 11]))
 (.seq (.aa [xo 12 6,xm 13 7,xm 4 12,xm 5 13])
 (.ret))))
theorem afN:aK prog 155 OD [.tmp 4,.tmp 5] 14:=⟨f155,⟨[6],[2],[]⟩,func155,by kernel_rfl,by kernel_rfl,by kernel_rfl,by kernel_rfl⟩
def O_:AC:=.seq (.aa [⟨(some 2),.ff 1 (.s 0),none⟩])
 (.aa [xo 3 2,⟨(some 4),.ix (.func 203) [] [(.s 1),(.s 2)],none⟩,xc 202 5 [.s 3,.s 4]])
theorem age:aK prog 201 O_ [] 6:=⟨f201,⟨[2],[],[]⟩,func201,by kernel_rfl,by kernel_rfl,by kernel_rfl,by kernel_rfl⟩
def Pa:AC:=.draw [(xo 2 0,[1]),(xo 3 1,[]),(xc 204 4 [.s 3],[]),(⟨(some 5),.cR 2 [(.s 4)],none⟩,[]),(xa 2 6 2 5,[]),(xs 1 0 6,[])]
theorem agh:aK prog 203 Pa [] 7:=⟨f203,⟨[],[],[]⟩,func203,by kernel_rfl,by kernel_rfl,by kernel_rfl,by kernel_rfl⟩
set_option maxRecDepth 4000
set_option maxHeartbeats 4000000
theorem as4 {o p r τ:Nat} {rows:List (List V)} {rd:ab} {σ:ae} (ho:σ.box o=some [.sl (.tk τ) 2 rows]) (hp:σ.box p=some [.ptr (.out r) 0]) (hr:σ.box r=some rd.enc) (ir:o≠r)
    (ht:σ.aC τ=some rows.length) (hb:rows.length+1≤aF) (hlen:rd.l.length≤aF) :
    al prog 203 [.ptr (.out o) 0,.ptr (.out p) 0] σ fun v σ' => v = .aX []∧σ' = ((σ.set r rd.word.2.enc).set o [.sl (.tk τ) 2 (rows++[rd.word.1.enc])]).aL τ (rows.length+1):=by
  refine agh.calls ?_;simp only[aJ,Pa,aR,am,ho,hp];refine br.intro (wv hr hlen) ?_;simp only[am,Word.enc];refine Bj (by simpa using hb) ht ?_;have h1:(σ.set r rd.word.2.enc).box o=some [.sl (.tk τ) 2 rows]:=by rw[ae.dc _ _ ir];exact ho
  simp only[am,h1];exact aG rfl (ae.aW _) ⟨rfl,rfl⟩
def eD (σ:ae) (q o τ k:Nat) (rd:ab) (rows:List (List V)):ae:=((σ.set q rd.enc).set o [.sl (.tk τ) k rows]).aL τ rows.length
def Dl (σ:ae) (q o τ:Nat):Sys (ab × List Word):=⟨fun a=>eD σ q o τ 2 a.1 (a.2.map Word.enc),fun a=>a.1,fun a r=>(r,a.2),fu⟩
theorem EU {β:Type} (F:ab × List β→ae) (step:ab × List β→ab × List β):∀(n:Nat) (a:ab × List β),Sys.go ⟨F,fun a=>a.1,fun a r=>(r,a.2),step⟩ n a=gR step n a
  | 0,_=>rfl
  | n+1,a=>by simp only[Sys.go,gR,EU F step n]
theorem zu {σ:ae} {q o τ k:Nat} {rd:ab} {rows:List (List V)} (h:q≠o):(eD σ q o τ k rd rows).box q=some rd.enc:=by
  simp[eD,ae.aL,ae.set,h]
theorem ES {σ:ae} {q o τ k:Nat} {rd:ab} {rows:List (List V)}:(eD σ q o τ k rd rows).box o=some [.sl (.tk τ) k rows]:=by
  simp[eD,ae.aL,ae.set]
theorem sa {σ:ae} {q o τ k p:Nat} {rd:ab} {rows:List (List V)} (h:p≠q) (h' : p≠o):(eD σ q o τ k rd rows).box p=σ.box p:=by
  simp[eD,ae.aL,ae.set,h,h']
theorem ET {σ:ae} {q o τ k p:Nat} {rd:ab} {rows:List (List V)} {cs:List V} (h:p≠q) (h' : p≠o):(eD σ q o τ k rd rows).set p cs=eD (σ.set p cs) q o τ k rd rows:=by
  have:((σ.set q rd.enc).set o [.sl (.tk τ) k rows]).set p cs=((σ.set p cs).set q rd.enc).set o [.sl (.tk τ) k rows]:=by
    rw[ae.set_comm (Ne.symm h'),ae.set_comm (b:=q) (Ne.symm h)]
  show (((σ.set q rd.enc).set o [.sl (.tk τ) k rows]).set p cs).aL τ rows.length=_;rw[this];rfl
theorem fU {σ:ae} {p:Nat} {cs:List V} (h:σ.box p=none):σ.sub (σ.set p cs):=by
  refine⟨fun b ds hb=>?_,fun _ _ h=>h,fun _ _ h=>h⟩
  have:b≠p:=by rintro rfl;rw[h] at hb;simp at hb
  rw[ae.dc _ _ this];exact hb
theorem Te {σ:ae} {q o τ k:Nat} {rd:ab} {rows:List (List V)}:(eD σ q o τ k rd rows).aC τ=some rows.length:=by
  simp[eD,ae.aL]
theorem IZ {σ:ae} {q o τ k:Nat} {rd je : ab} {rows:List (List V)} (h:q≠o):(eD σ q o τ k rd rows).set q je.enc=eD σ q o τ k je rows:=by
  have:((σ.set q rd.enc).set o [.sl (.tk τ) k rows]).set q je.enc=(σ.set q je.enc).set o [.sl (.tk τ) k rows]:=by rw[ae.set_comm (Ne.symm h),ae.set_set]
  show (((σ.set q rd.enc).set o [.sl (.tk τ) k rows]).set q je.enc).aL τ rows.length=_;rw[this];rfl
theorem Td {σ:ae} {q o τ k:Nat} {rd je : ab} {rows:List (List V)} {c:List V} (h:q≠o):(((eD σ q o τ k rd rows).set q je.enc).set o [.sl (.tk τ) k (rows++[c])]).aL τ (rows.length+1)=eD σ q o τ k je (rows++[c]):=by
  rw[IZ h];unfold eD;rw[bw,cG,dv];show ((((σ.set q je.enc).set o [.sl (.tk τ) k rows]).set o [.sl (.tk τ) k (rows++[c])]).aL τ rows.length).aL τ (rows.length+1)=_;rw[ae.set_set,j5]
def mW {β:Type} (l:List Tree) (a:ab × List β):Prop:=a.1.l=l∧0≤a.1.at_∧a.1.at_≤l.length∧(a.1.bad=none→(a.2.length:Int)≤a.1.at_)
theorem Wi {l:List Tree} {a:ab × List Word} (h:mW l a) (hb:a.1.bad=none):mW l (fu a)∧a.1.at_≤(fu a).1.at_:=by
  obtain⟨h1,U,h3,h4⟩:=h;have h4:=h4 hb
  rcases a.1.rr 97 with ⟨_,k1,k2,k3,k4⟩ | ⟨_,k1,k2⟩
  · refine⟨⟨?_,?_,?_,fun _=>?_⟩,?_⟩<;>simp only[fu,ab.word,ab.eC,k1,bw,cG,dv]
    · exact h1
    · omega
    · rw[h1] at k4;omega
    · omega
    · omega
  · refine⟨⟨?_,?_,?_,fun hq=>absurd hq k2⟩,?_⟩<;>simp only[fu,ab.word,ab.eC,k1]
    · exact h1
    · exact U
    · exact h3
    · omega
theorem Lw {β:Type} {l:List Tree} {a:ab × List β} (h:mW l a) (hs:a.1.sees 44=true):mW l ((a.1.take 44).2,a.2)∧(a.1.take 44).2.bad=none∧(a.1.take 44).2.at_=a.1.at_+1:=by
  obtain⟨h1,U,h3,h4⟩:=h
  rcases a.1.rr 44 with ⟨_,k1,k2,k3,k4⟩ | ⟨k0,_⟩
  · have hb:a.1.bad=none:=by
      simp only[ab.sees,ab.ok,a_,Bc] at hs;exact hs.1
    have:=h4 hb
    rw[h1] at k4;exact⟨⟨by simp only[ab.eC];exact h1,by simp only[k1];omega,by simp only[k1];omega,fun _=>by simp only[k1];omega⟩,k2,k1⟩
  · rw[hs] at k0;simp at k0
theorem as5 {o q τ:Nat} {rd:ab} {σ:ae} (cU:q≠o) (eQ:rd.at_=0) (eR:rd.bad=none) (hlen:rd.l.length+1≤aF) :
    al prog 201 [.ptr (.out q) 0,.ptr (.out o) 0] (eD σ q o τ 2 rd []) fun v σ' => v = .aX []∧σ' = eD σ q o τ 2 (da fu rd).1 ((da fu rd).2.map Word.enc):=by
  refine age.calls ?_;simp only[aJ,O_,aR,am];refine iw fun p hp=>?_
  have kt:p≠q:=by rintro rfl;rw[zu cU] at hp;simp at hp
  have kr:p≠o:=by rintro rfl;rw[ES] at hp;simp at hp
  rw[ET kt kr];simp only[am,sa kt kr];have qd:∀a:ab × List Word,mW rd.l a→a.1.bad=none→al prog 203 [.ptr (.out o) 0,.ptr (.out p) 0] (eD (σ.set p [.ptr (.out q) 0]) q o τ 2 a.1 (a.2.map Word.enc)) fun v σ' =>
      v = .aX []∧σ' = eD (σ.set p [.ptr (.out q) 0]) q o τ 2 (fu a).1 ((fu a).2.map Word.enc):=fun a jS hb=>by
    have hl:=jS.2.2.2 hb;have jQ:=jS.2.2.1;refine(as4 ES (by rw[sa kt kr,ae.cX]) (zu cU) (Ne.symm cU) Te (by rw[aE];omega) (by rw[jS.1];omega)).mono ?_;rintro v σ' ⟨rfl,rfl⟩;refine⟨rfl,?_⟩;rw[Td cU];simp[fu]
  have h0:mW rd.l (rd,([]:List Word)):=⟨rfl,by simp[eQ],by simp[eQ],fun _=>by simp[eQ]⟩;obtain⟨p1,_⟩:=Wi h0 eR;refine(Ms (Dl (σ.set p [.ptr (.out q) 0]) q o τ) (mW rd.l) (a:=(rd,[])) (n:=rd.l.length) (by simp[am]) (fun a h=>zu cU) (fun a h=>?_) (fun a h hs=>IZ cU) (fun a h hs=>?_) (qd _ h0 eR) p1 ?_).mono ?_
  · show a.1.l.length≤aF;rw[h.1];omega
  · obtain⟨k1,k2,k3⟩:=Lw h hs;obtain⟨k4,k5⟩:=Wi k1 k2;refine⟨qd _ k1 k2,k4,?_,?_⟩
    · exact k4.1.trans h.1.symm
    · show a.1.at_+1≤_;simp only at k5;rw[k3] at k5;exact k5
  · show (fu (rd,[])).1.l.length≤rd.l.length;rw[p1.1];omega
  rintro v σ' ⟨rfl,rfl⟩;simp only[am];refine aG rfl (σ' := eD σ q o τ 2 (da fu rd).1 ((da fu rd).2.map Word.enc)) ?_ ⟨rfl,rfl⟩;have e:(Dl (σ.set p [.ptr (.out q) 0]) q o τ).F ((Dl (σ.set p [.ptr (.out q) 0]) q o τ).go rd.l.length ((Dl (σ.set p [.ptr (.out q) 0]) q o τ).step (rd,[])))=eD (σ.set p [.ptr (.out q) 0]) q o τ 2 (da fu rd).1 ((da fu rd).2.map Word.enc):=by
    unfold Dl;rw[EU];rfl
  rw[e,←ET kt kr];exact fU (by rw[sa kt kr];rw[sa kt kr] at hp;exact hp)
theorem I1 {β:Type} {l:List Tree} {step:ab × List β→ab × List β} (hs:∀a,a.1.l=l→(step a).1.l=l):∀(n:Nat) (a:ab × List β),a.1.l=l→(gR step n a).1.l=l
  | 0,_,h=>h
  | n + 1, a, h => by
    simp only[gR];split
    · exact I1 hs n _ (hs _ (by rw[ab.eC];exact h))
    · exact h
theorem UR {β:Type} {step:ab × List β→ab × List β} (hs:∀l a,a.1.l=l→(step a).1.l=l) (empty:Bool) (t:Tree):(ab.inside step empty t).1.l=t.kids:=by
  unfold ab.inside;split
  · rfl
  · exact I1 (hs _) _ _ (hs _ _ rfl)
theorem asF (l:List Tree) (a:ab × List Word) (h:a.1.l=l):(fu a).1.l=l:=by simp[fu,ab.word,ab.eC,h]
theorem M6 {r:Nat} {empty:Bool} {rd:ab} {σ:ae} (h:σ.box r=some rd.enc) (hlen:rd.l.length≤aF) (pZ:(rd.take 123).1.kids.length+1≤aF) :
    al prog 155 [.ptr (.out r) 0,.bool empty] σ fun v σ' => v = .aX [.sl .no 2 ((rd.words empty).1.1.map Word.enc),.int .i64 (rd.words empty).1.2]∧σ' = σ.set r (rd.words empty).2.enc:=by
  refine afN.calls ?_;simp only[aJ,OD,aR,am];refine iw fun o ho=>?_
  have ir:o≠r:=by rintro rfl;rw[h] at ho;simp at ho
  simp only[am];refine ba.tok 0 fun τ bh=>⟨_,_,_,dy.rfl,rfl,fun i c hc=>⟨c,hc,dy.rfl⟩,oG.set (cs:=[.sl .full 2 []]) (cs' := [.sl (.tk τ) 2 []]) (ae.cX _ _ _) ⟨iq.tok rfl,trivial⟩,?_⟩
  simp only[am];have h1:((σ.set o [.sl (.tk τ) 2 []]).aL τ 0).box r=some rd.enc:=by
    show (σ.set o _).box r=_;rw[ae.dc _ _ (Ne.symm ir)];exact h
  have aI:∀q,((σ.set o [V.sl (.tk τ) 2 []]).aL τ 0).box q=none→q≠o∧q≠r∧σ.box q=none:=fun q hq=>by
    have cU:q≠o:=by rintro rfl;rw[show ((σ.set q [V.sl (.tk τ) 2 []]).aL τ 0).box q=_ from ae.cX _ _ _] at hq;simp at hq
    have l8 : σ.box q=none:=by rw[←ae.dc σ [V.sl (.tk τ) 2 []] cU];exact hq
    exact⟨cU,by rintro rfl;rw[h] at l8;simp at l8,l8⟩
  generalize dx:ab.inside fu empty (rd.take 123).1=ins;have B8:ins.1.l=(rd.take 123).1.kids:=by rw[←dx];exact UR asF _ _
  refine(MY (kind:=123) (by simp[am]) h1 hlen (by omega) ins.1 ((σ.set o [.sl (.tk τ) 2 (ins.2.map Word.enc)]).aL τ (ins.2.map Word.enc).length) ?_ ?_ ?_ B8).mono ?_
  · intro bM hc q hq;obtain⟨cU,ju,_⟩:=aI q hq;have e1:(((σ.set o [V.sl (.tk τ) 2 []]).aL τ 0).set r (rd.take 123).2.enc).set q (rd.take 123).1.inner.enc=eD (σ.set r (rd.take 123).2.enc) q o τ 2 (rd.take 123).1.inner []:=by
      unfold eD;rw[ae.set_comm (b:=q) cU,ae.set_comm (b:=r) (Ne.symm ir)];rfl
    have e2:(((σ.set o [V.sl (.tk τ) 2 (ins.2.map Word.enc)]).aL τ (ins.2.map Word.enc).length).set r (rd.take 123).2.enc).set q ins.1.enc=eD (σ.set r (rd.take 123).2.enc) q o τ 2 ins.1 (ins.2.map Word.enc):=by
      unfold eD;rw[ae.set_comm (b:=q) cU,ae.set_comm (b:=r) (Ne.symm ir)];rfl
    have e3:ins=da fu (rd.take 123).1.inner:=by
      rw[←dx,ab.inside,ah];rintro⟨q1,q2⟩
      rcases hc with hc | hc
      · rw[q1] at hc;simp at hc
      · exact hc q2
    rw[e1,e2,e3];exact as5 cU rfl rfl pZ
  · intro q1 q2
    have:ins=((rd.take 123).1.inner,[]):=by rw[←dx,ab.inside,ak ⟨q1,q2⟩]
    rw[this];exact⟨rfl,rfl⟩
  · intro q hq;obtain⟨cU,_,l8⟩:=aI q hq;show (σ.set o _).box q=none;rw[ae.dc _ _ cU];exact l8
  rintro v σ' hv;have vp:∀(A B:List V) (n:Nat),(σ.set r A).sub (((σ.set o B).aL τ n).set r A):=fun A B n=>by
    refine⟨fun b cs hb=>?_,fun υ m hm=>?_,fun _ _ h=>h⟩
    · have B1:b≠o:=by rintro rfl;rw[ae.dc _ _ ir,ho] at hb;simp at hb
      by_cases sd:b=r
      · subst sd;rw[ae.cX] at hb ⊢;exact hb
      · rw[ae.dc _ _ sd] at hb ⊢;show (σ.set o B).box b=_;rw[ae.dc _ _ B1];exact hb
    · have qM : σ.aC υ=some m:=hm;have xI : υ≠τ:=by rintro rfl;rw[show (σ.set o [V.sl .full 2 []]).aC υ=σ.aC υ from rfl] at bh;rw[bh] at qM;simp at qM
      show ((σ.set o B).aL τ n).aC υ=some m;rw[yz xI];exact qM
  split at hv
  · rename_i bM;obtain⟨rfl,rfl⟩:=hv;have hb:(((σ.set o [V.sl (.tk τ) 2 (ins.2.map Word.enc)]).aL τ (ins.2.map Word.enc).length).set r ((rd.take 123).2.under ins.1).enc).box o=some [V.sl (.tk τ) 2 (ins.2.map Word.enc)]:=by
      rw[ae.dc _ _ ir];exact ae.cX _ _ _
    simp only[am,hb];refine aG rfl (vp _ _ _) ⟨?_,?_⟩
    · simp[ab.words,ab.bracket,bM,dx,V.erase,a9]
    · simp[ab.words,ab.bracket,bM,dx]
  · rename_i bM;obtain⟨rfl,rfl⟩:=hv;have hb:(((σ.set o [V.sl (.tk τ) 2 []]).aL τ 0).set r (rd.take 123).2.enc).box o=some [V.sl (.tk τ) 2 []]:=by
      rw[ae.dc _ _ ir];exact ae.cX _ _ _
    simp only[am,hb];refine aG rfl (vp _ _ _) ⟨?_,?_⟩
    · simp[ab.words,ab.bracket,bM,V.erase,a9]
    · simp[ab.words,ab.bracket,bM]
end Go.Proofs.Tryz
namespace Go.Proofs.Tryz
open Go.Am
def PM:AC:=.seq (.aa [⟨(some 3),.ff 1 (.s 0),none⟩])
 (.aa [xo 4 3,⟨(some 5),.ix (.func 245) [] [(.s 1),(.s 2),(.s 3)],none⟩,xc 202 6 [.s 4,.s 5]])
theorem agQ:aK prog 244 PM [] 7:=⟨f244,⟨[3],[],[]⟩,func244,by kernel_rfl,by kernel_rfl,by kernel_rfl,by kernel_rfl⟩
def PN:AC:=.hole [(xo 3 0,[1]),(xo 4 1,[]),(xo 5 2,[]),(⟨(some 6),.gC (.s 4) [(.s 5)],none⟩,[]),(xL 7 3,[]),(⟨(some 8),.cR 5 [(.c (.agg [(.int .i64 0),(.int .i64 0),(.str []),(.sl .full 2 []),(.sl .full 5 [])]))],none⟩,[]),(⟨(some 9),.mv (.c .any),none⟩,[]),(⟨(some 10),.mv (.c .any),none⟩,[]),(⟨none,.mv (.c .any),none⟩,[]),(⟨none,.mv (.c .any),none⟩,[])] ⟨5,(.s 3),(.s 8),(.s 7),(.s 6),(.s 0),none,9,10,20⟩
theorem agR:aK prog 245 PN [] 11:=⟨f245,⟨[],[],[]⟩,func245,by kernel_rfl,by kernel_rfl,by kernel_rfl,by kernel_rfl⟩
set_option maxRecDepth 4000
set_option maxHeartbeats 4000000
theorem Nd.wd {n:Nd}:(V.agg n.enc).wd=some 5:=by rw[Nd.cD];rfl
theorem Nd.one {n:Nd}:bE n.enc=true:=by rw[Nd.cD];rfl
theorem Nd.cc {n:Nd}:bm n.enc=true:=by rw[Nd.cD];rfl
theorem Nd.er {n:Nd}:a9 n.enc=n.enc:=by rw[Nd.cD];rfl
theorem akC {o f p q τ:Nat} {g:FuncId} {rows:List (List V)} {je : ab} {n:Nd} {σ:ae} (ho:σ.box o=some [.sl (.tk τ) 5 rows]) (hf:σ.box f=some [.fn (.func g) [] []]) (hp:σ.box p=some [.ptr (.out q) 0])
    (J5:o≠q) (ht:σ.aC τ=some rows.length) (hb:rows.length+1≤aF) (ey:al prog g [.ptr (.out q) 0] σ fun v σ' => v = .agg n.enc∧σ' = σ.set q je.enc) :
    al prog 245 [.ptr (.out o) 0,.ptr (.out f) 0,.ptr (.out p) 0] σ fun v σ' => v = .aX []∧σ' = ((σ.set q je.enc).set o [.sl (.tk τ) 5 (rows++[n.enc])]).aL τ (rows.length+1):=by
  refine agR.calls ?_;simp only[aJ,PN,aR,am,ho,hp,hf];refine br.intro ey ?_;have h1:(σ.set q je.enc).box o=some [.sl (.tk τ) 5 rows]:=by rw[ae.dc _ _ J5];exact ho
  simp only[am,h1];refine Uh (τ:=τ) (m:=rows) (cs:=n.enc) (p:=.ptr (.out o) 0) rfl rfl rfl hb ht ⟨Nd.wd,Nd.one,Nd.cc⟩ Nd.er (by simp) rfl (by simp only[am,h1];rfl) ?_;simp only[am];exact aG rfl (ae.aW _) ⟨rfl,rfl⟩
theorem Gw {β:Type} {one:ab→β × ab} (ho:Reads one) {l:List Tree} {a:ab × List β} (h:mW l a) (hb:a.1.bad=none):mW l (bJ one a)∧a.1.at_≤(bJ one a).1.at_:=by
  obtain⟨h1,U,h3,h4⟩:=h;have h4:=h4 hb;obtain⟨k1,k2,k3⟩:=ho.go a.1 U (by rw[h1];exact h3);refine⟨⟨by simp only[bJ,ho.l];exact h1,by simp only[bJ];omega,by simp only[bJ];rw[h1] at k2;exact k2,fun hq=>?_⟩,k1⟩
  have:=k3 hq
  simp only[bJ,bw,cG,dv];omega
def Cw (one:ab→Nd × ab) (σ:ae) (q o τ:Nat):Sys (ab × List Nd):=⟨fun a=>eD σ q o τ 5 a.1 (a.2.map Nd.enc),fun a=>a.1,fun a r=>(r,a.2),bJ one⟩
theorem akD {o f q τ:Nat} {g:FuncId} {one:ab→Nd × ab} (hr:Reads one) {rd:ab} {σ:ae} (cU:q≠o) (hfq:f≠q) (sf:f≠o) (hf:σ.box f=some [.fn (.func g) [] []]) (eQ:rd.at_=0) (eR:rd.bad=none) (hlen:rd.l.length+1≤aF)
    (ey:∀(r:ab) (σ:ae),r.l=rd.l→0≤r.at_→r.at_≤rd.l.length→σ.box q=some r.enc→al prog g [.ptr (.out q) 0] σ fun v σ' => v = .agg (one r).1.enc∧σ' = σ.set q (one r).2.enc) :
    al prog 244 [.ptr (.out q) 0,.ptr (.out o) 0,.ptr (.out f) 0] (eD σ q o τ 5 rd []) fun v σ' => v = .aX []∧σ' = eD σ q o τ 5 (da (bJ one) rd).1 ((da (bJ one) rd).2.map Nd.enc):=by
  refine agQ.calls ?_;simp only[aJ,PM,aR,am];refine iw fun p hp=>?_
  have kt:p≠q:=by rintro rfl;rw[zu cU] at hp;simp at hp
  have kr:p≠o:=by rintro rfl;rw[ES] at hp;simp at hp
  have Uk:f≠p:=by rintro rfl;rw[sa kt kr,hf] at hp;simp at hp
  rw[ET kt kr];simp only[am,sa kt kr];have qd:∀a:ab × List Nd,mW rd.l a→a.1.bad=none→al prog 245 [.ptr (.out o) 0,.ptr (.out f) 0,.ptr (.out p) 0] (eD (σ.set p [.ptr (.out q) 0]) q o τ 5 a.1 (a.2.map Nd.enc)) fun v σ' =>
      v = .aX []∧σ' = eD (σ.set p [.ptr (.out q) 0]) q o τ 5 (bJ one a).1 ((bJ one a).2.map Nd.enc):=fun a jS hb=>by
    have hl:=jS.2.2.2 hb;have jQ:=jS.2.2.1;refine(akC ES (by rw[sa hfq sf,ae.dc _ _ Uk];exact hf) (by rw[sa kt kr,ae.cX]) (Ne.symm cU) Te (by rw[aE];omega) (ey a.1 _ jS.1 jS.2.1 jQ (zu cU))).mono ?_;rintro v σ' ⟨rfl,rfl⟩;refine⟨rfl,?_⟩;rw[Td cU];simp[bJ]
  have h0:mW rd.l (rd,([]:List Nd)):=⟨rfl,by simp[eQ],by simp[eQ],fun _=>by simp[eQ]⟩;obtain⟨p1,_⟩:=Gw hr h0 eR;refine(Ms (Cw one (σ.set p [.ptr (.out q) 0]) q o τ) (mW rd.l) (a:=(rd,[])) (n:=rd.l.length) (by simp[am]) (fun a h=>zu cU) (fun a h=>?_) (fun a h hs=>IZ cU) (fun a h hs=>?_) (qd _ h0 eR) p1 ?_).mono ?_
  · show a.1.l.length≤aF;rw[h.1];omega
  · obtain⟨k1,k2,k3⟩:=Lw h hs;obtain⟨k4,k5⟩:=Gw hr k1 k2;refine⟨qd _ k1 k2,k4,?_,?_⟩
    · exact k4.1.trans h.1.symm
    · show a.1.at_+1≤_;simp only at k5;rw[k3] at k5;exact k5
  · show (bJ one (rd,[])).1.l.length≤rd.l.length;rw[p1.1];omega
  rintro v σ' ⟨rfl,rfl⟩;simp only[am];refine aG rfl (σ' := eD σ q o τ 5 (da (bJ one) rd).1 ((da (bJ one) rd).2.map Nd.enc)) ?_ ⟨rfl,rfl⟩;have e:(Cw one (σ.set p [.ptr (.out q) 0]) q o τ).F ((Cw one (σ.set p [.ptr (.out q) 0]) q o τ).go rd.l.length ((Cw one (σ.set p [.ptr (.out q) 0]) q o τ).step (rd,[])))=eD (σ.set p [.ptr (.out q) 0]) q o τ 5 (da (bJ one) rd).1 ((da (bJ one) rd).2.map Nd.enc):=by
    unfold Cw;rw[EU];rfl
  rw[e,←ET kt kr];exact fU (by rw[sa kt kr];rw[sa kt kr] at hp;exact hp)
end Go.Proofs.Tryz
namespace Go.Proofs.Tryz
open Go.Am
def Pe:AC:=.seq (.aa [⟨(some 7),.ff 1 (.s 3),none⟩,⟨(some 8),.mv (.c (.sl .full 5 [])),none⟩,xi 9 0])
 (.seq (.aa [⟨(some 10),.mX [(.sl .full 5 [])],none⟩])
 (.seq (.mQ (.aa [xm 12 0,xm 13 1,xm 14 2,⟨(some 15),.ix (.func 244) [] [(.s 10),(.s 7)],none⟩,xc 200 16 [.s 12,.s 13,.s 14,.s 15],xm 11 16]))
 (.seq (.aa [xo 17 10,xm 18 11,xm 8 17,xm 9 18])
 (.ret))))
theorem agl:aK prog 207 Pe [.tmp 8,.tmp 9] 19:=⟨f207,⟨[7,10],[2],[]⟩,func207,by kernel_rfl,by kernel_rfl,by kernel_rfl,by kernel_rfl⟩
set_option maxRecDepth 4000
set_option maxHeartbeats 4000000
theorem ae.arE {a b c:ae} (h:a.sub b) (k:b.sub c):a.sub c:=⟨fun x cs hx=>k.1 x cs (h.1 x cs hx),fun x n hx=>k.2.1 x n (h.2.1 x n hx),fun x n hx=>k.2.2 x n (h.2.2 x n hx)⟩
theorem arC {a b:ae} {r:Nat} {A:List V} (h:a.sub b):(a.set r A).sub (b.set r A):=by
  refine⟨fun x cs hx=>?_,h.2⟩
  by_cases hr:x=r
  · subst hr;rw[ae.cX] at hx ⊢;exact hx
  · rw[ae.dc _ _ hr] at hx ⊢;exact h.1 x cs hx
theorem Li {β:Type} {one:ab→β × ab} (h:Reads one) (l:List Tree) (a:ab × List β) (ha:a.1.l=l):(bJ one a).1.l=l:=by simp[bJ,h.l,ha]
theorem FV {r:Nat} {empty:Bool} {kind:Int} {g:FuncId} {one:ab→Nd × ab} (ey:Reads one) {rd:ab} {σ:ae} (h:σ.box r=some rd.enc) (hlen:rd.l.length≤aF) (pZ:(rd.take kind).1.kids.length+1≤aF)
    (ai0:∀(q:Nat) (i:ab) (σ:ae),i.l=(rd.take kind).1.kids→0≤i.at_→i.at_≤i.l.length→σ.box q=some i.enc→al prog g [.ptr (.out q) 0] σ fun v σ' => v = .agg (one i).1.enc∧σ' = σ.set q (one i).2.enc) :
    al prog 207 [.ptr (.out r) 0,.int .u8 kind,.bool empty,.fn (.func g) [] []] σ fun v σ' => v = .aX [.sl .no 5 ((rd.nodes one kind empty).1.1.map Nd.enc),.int .i64 (rd.nodes one kind empty).1.2]∧σ' = σ.set r (rd.nodes one kind empty).2.enc:=by
  refine agl.calls ?_;simp only[aJ,Pe,aR,am];refine iw fun f hf=>?_
  have aS:f≠r:=by rintro rfl;rw[h] at hf;simp at hf
  simp only[am];refine iw fun o ho=>?_
  have sf:f≠o:=by rintro rfl;rw[ae.cX] at ho;simp at ho
  have ir:o≠r:=by rintro rfl;rw[ae.dc _ _ (Ne.symm aS),h] at ho;simp at ho
  generalize sA:σ.set f [.fn (.func g) [] []]=ic at ho ⊢;have T6:ic.box f=some [.fn (.func g) [] []]:=by rw[←sA];exact ae.cX _ _ _
  have ajf:σ.sub ic:=by rw[←sA];exact fU hf
  have h:ic.box r=some rd.enc:=by rw[←sA,ae.dc _ _ (Ne.symm aS)];exact h
  simp only[am];refine ba.tok 0 fun τ bh=>⟨_,_,_,dy.rfl,rfl,fun i c hc=>⟨c,hc,dy.rfl⟩,oG.set (cs:=[.sl .full 5 []]) (cs' := [.sl (.tk τ) 5 []]) (ae.cX _ _ _) ⟨iq.tok rfl,trivial⟩,?_⟩
  simp only[am];have h1:((ic.set o [.sl (.tk τ) 5 []]).aL τ 0).box r=some rd.enc:=by
    show (ic.set o _).box r=_;rw[ae.dc _ _ (Ne.symm ir)];exact h
  have aI:∀q,((ic.set o [V.sl (.tk τ) 5 []]).aL τ 0).box q=none→q≠o∧q≠r∧ic.box q=none:=fun q hq=>by
    have cU:q≠o:=by rintro rfl;rw[show ((ic.set q [V.sl (.tk τ) 5 []]).aL τ 0).box q=_ from ae.cX _ _ _] at hq;simp at hq
    have l8 : ic.box q=none:=by rw[←ae.dc ic [V.sl (.tk τ) 5 []] cU];exact hq
    exact⟨cU,by rintro rfl;rw[h] at l8;simp at l8,l8⟩
  generalize dx:ab.inside (bJ one) empty (rd.take kind).1=ins;have B8:ins.1.l=(rd.take kind).1.kids:=by rw[←dx];exact UR (Li ey) _ _
  refine(MY (kind:=kind) (by simp[am]) h1 hlen (by omega) ins.1 ((ic.set o [.sl (.tk τ) 5 (ins.2.map Nd.enc)]).aL τ (ins.2.map Nd.enc).length) ?_ ?_ ?_ B8).mono ?_
  · intro bM hc q hq;obtain⟨cU,ju,_⟩:=aI q hq;have e1:(((ic.set o [V.sl (.tk τ) 5 []]).aL τ 0).set r (rd.take kind).2.enc).set q (rd.take kind).1.inner.enc=eD (ic.set r (rd.take kind).2.enc) q o τ 5 (rd.take kind).1.inner []:=by
      unfold eD;rw[ae.set_comm (b:=q) cU,ae.set_comm (b:=r) (Ne.symm ir)];rfl
    have e2:(((ic.set o [V.sl (.tk τ) 5 (ins.2.map Nd.enc)]).aL τ (ins.2.map Nd.enc).length).set r (rd.take kind).2.enc).set q ins.1.enc=eD (ic.set r (rd.take kind).2.enc) q o τ 5 ins.1 (ins.2.map Nd.enc):=by
      unfold eD;rw[ae.set_comm (b:=q) cU,ae.set_comm (b:=r) (Ne.symm ir)];rfl
    have e3:ins=da (bJ one) (rd.take kind).1.inner:=by
      rw[←dx,ab.inside,ah];rintro⟨q1,q2⟩
      rcases hc with hc | hc
      · rw[q1] at hc;simp at hc
      · exact hc q2
    rw[e1,e2,e3];refine akD ey cU ?_ sf (by rw[ae.dc _ _ aS];exact T6) rfl rfl pZ (fun i σ' h1 U h3 h4=>ai0 q i σ' h1 U (by rw[h1];exact h3) h4);rintro rfl;rw[show ((ic.set o [V.sl (.tk τ) 5 []]).aL τ 0).box f=(ic.set o [V.sl (.tk τ) 5 []]).box f from rfl,ae.dc _ _ sf,T6] at hq;simp at hq
  · intro q1 q2
    have:ins=((rd.take kind).1.inner,[]):=by rw[←dx,ab.inside,ak ⟨q1,q2⟩]
    rw[this];exact⟨rfl,rfl⟩
  · intro q hq;obtain⟨cU,_,l8⟩:=aI q hq;show (ic.set o _).box q=none;rw[ae.dc _ _ cU];exact l8
  rintro v σ' hv;have vp:∀(A B:List V) (n:Nat),(σ.set r A).sub (((ic.set o B).aL τ n).set r A):=fun A B n=>by
    refine ae.arE (arC ajf) ?_;refine⟨fun b cs hb=>?_,fun υ m hm=>?_,fun _ _ h=>h⟩
    · have B1:b≠o:=by rintro rfl;rw[ae.dc _ _ ir,ho] at hb;simp at hb
      by_cases sd:b=r
      · subst sd;rw[ae.cX] at hb ⊢;exact hb
      · rw[ae.dc _ _ sd] at hb ⊢;show (ic.set o B).box b=_;rw[ae.dc _ _ B1];exact hb
    · have qM : ic.aC υ=some m:=hm;have xI : υ≠τ:=by rintro rfl;rw[show (ic.set o [V.sl .full 5 []]).aC υ=ic.aC υ from rfl] at bh;rw[bh] at qM;simp at qM
      show ((ic.set o B).aL τ n).aC υ=some m;rw[yz xI];exact qM
  split at hv
  · rename_i bM;obtain⟨rfl,rfl⟩:=hv;have hb:(((ic.set o [V.sl (.tk τ) 5 (ins.2.map Nd.enc)]).aL τ (ins.2.map Nd.enc).length).set r ((rd.take kind).2.under ins.1).enc).box o=some [V.sl (.tk τ) 5 (ins.2.map Nd.enc)]:=by
      rw[ae.dc _ _ ir];exact ae.cX _ _ _
    simp only[am,hb];refine aG rfl (vp _ _ _) ⟨?_,?_⟩
    · simp[ab.nodes,ab.bracket,bM,dx,V.erase,a9]
    · simp[ab.nodes,ab.bracket,bM,dx]
  · rename_i bM;obtain⟨rfl,rfl⟩:=hv;have hb:(((ic.set o [V.sl (.tk τ) 5 []]).aL τ 0).set r (rd.take kind).2.enc).box o=some [V.sl (.tk τ) 5 []]:=by
      rw[ae.dc _ _ ir];exact ae.cX _ _ _
    simp only[am,hb];refine aG rfl (vp _ _ _) ⟨?_,?_⟩
    · simp[ab.nodes,ab.bracket,bM,V.erase,a9]
    · simp[ab.nodes,ab.bracket,bM]
end Go.Proofs.Tryz
namespace Go.Proofs.Tryz
open Go.Am
def P3:AC:=.seq (.aa [⟨(some 2),.alloc [(.int .i64 0),(.int .i64 0),(.str []),(.sl .full 2 []),(.sl .full 5 [])],none⟩])
 (.seq (.aa [xm 6 0,xc 204 7 [.s 6],⟨(some 3),.alloc [(.str []),(.int .i64 0)],none⟩,xs 2 3 7])
 (.seq (.aa [xm 8 0,xc 206 9 [.s 8,.c (.int .u8 58)]])
 (.seq (.aa [xm 11 0,xc 155 12 [.s 11,.c (.bool true)],xm 10 12,xe 13 10 0,xe 14 10 1,xm 4 13,xm 5 14])
 (.seq (.aa [xf 1 15 3,xo 16 15,xf 0 17 3,xo 18 17,xm 19 4,⟨(some 20),.build [(.int .i64 0),(.int .i64 0),(.str []),(.sl .full 2 []),(.sl .full 5 [])] [(0,1,(.c (.int .i64 6))),(1,1,(.s 16)),(2,1,(.s 18)),(3,1,(.s 19))],none⟩,xs 5 2 20])
 (.ret)))))
theorem ag6:aK prog 266 P3 [.cell 2 true 5] 21:=⟨f266,⟨[],[],[]⟩,func266,by kernel_rfl,by kernel_rfl,by kernel_rfl,by kernel_rfl⟩
set_option maxRecDepth 4000
set_option maxHeartbeats 4000000
theorem aqp {r:Nat} {rd:ab} {σ:ae} (h:σ.box r=some rd.enc) (hlen:rd.l.length≤aF) (hk:∀(x:ab) (k:Int),x.l=rd.l→(x.take k).1.kids.length+1≤aF) :
    al prog 266 [.ptr (.out r) 0] σ fun v σ' => v = .agg rd.rule.1.enc∧σ' = σ.set r rd.rule.2.enc:=by
  refine ag6.calls ?_;simp only[aJ,P3,aR,am];refine(wv h hlen).mono ?_;rintro v σ' ⟨rfl,rfl⟩;simp only[am,Word.enc];refine(uC (ae.cX _ _ _) (by simp[ab.word,ab.eC,hlen])).mono ?_;rintro v σ' ⟨rfl,rfl⟩;simp only[am];refine(M6 (ae.cX _ _ _) (by simp[ab.word,ab.eC,hlen]) (hk _ _ (by simp[ab.word,ab.eC]))).mono ?_;rintro v σ' ⟨rfl,rfl⟩;simp only[am,Nat.reduceAdd];refine aG rfl (ae.aW _) ⟨?_,rfl⟩;simp[ab.rule,V.erase,a9,Nd.enc,px]
end Go.Proofs.Tryz
namespace Go.Proofs.Tryz
open Go.Am
def HW:AC:=.seq (.aa [⟨(some 2),.alloc [(.int .i64 0),(.int .i64 0),(.str []),(.sl .full 2 []),(.sl .full 5 [])],none⟩])
 (.seq (.aa [⟨(some 5),.build [(.int .i64 0),(.int .i64 0),(.str []),(.sl .full 2 []),(.sl .full 5 [])] [],none⟩,⟨(some 3),.alloc [(.int .i64 0),(.int .i64 0),(.str []),(.sl .full 2 []),(.sl .full 5 [])],none⟩,xs 5 3 5])
 (.seq (.block 0 (.seq (.aa [xm 14 0,xc 205 15 [.s 14,.c (.int .u8 123)],xm 13 15])
 (.cond (.s 13) (.seq (.aa [xf 0 16 3,⟨none,.store 1 (.s 16) (.c (.int .i64 3)),none⟩])
 (.aa [xm 18 0,xc 155 19 [.s 18,.c (.bool true)],xm 17 19,xe 20 17 0,xe 21 17 1,xf 3 22 3,xs 1 22 20,xf 1 23 3,xs 1 23 21]))
 (.seq (.aa [xm 25 0,xc 205 26 [.s 25,.c (.int .u8 40)],xm 24 26])
 (.cond (.s 24) (.seq (.aa [xf 0 27 3,⟨none,.store 1 (.s 27) (.c (.int .i64 4)),none⟩])
 (.aa [xm 29 0,xc 207 30 [.s 29,.c (.int .u8 40),.c (.bool false),.c (.fn (.func 246) [] [])],xm 28 30,xe 31 28 0,xe 32 28 1,xf 4 33 3,xs 1 33 31,xf 1 34 3,xs 1 34 32]))
 (.seq (.aa [xm 36 0,xc 205 37 [.s 36,.c (.int .u8 91)],xm 35 37])
 (.cond (.s 35) (.seq (.aa [xf 0 38 3,⟨none,.store 1 (.s 38) (.c (.int .i64 5)),none⟩])
 (.aa [xm 40 0,xc 207 41 [.s 40,.c (.int .u8 91),.c (.bool true),.c (.fn (.func 266) [] [])],xm 39 41,xe 42 39 0,xe 43 39 1,xf 4 44 3,xs 1 44 42,xf 1 45 3,xs 1 45 43]))
 (.seq (.aa [xm 6 0,xc 204 7 [.s 6],⟨(some 4),.alloc [(.str []),(.int .i64 0)],none⟩,xs 2 4 7])
 (.aa [xf 1 8 4,xo 9 8,xf 0 10 4,xo 11 10,⟨(some 12),.build [(.int .i64 0),(.int .i64 0),(.str []),(.sl .full 2 []),(.sl .full 5 [])] [(0,1,(.c (.int .i64 2))),(1,1,(.s 9)),(2,1,(.s 11))],none⟩,xs 5 3 12])))))))))
 (.seq (.aa [xl 5 46 3,xs 5 2 46])
 (.ret))))
theorem S1:aK prog 246 HW [.cell 2 true 5] 47:=⟨f246,⟨[],[],[]⟩,func246,by kernel_rfl,by kernel_rfl,by kernel_rfl,by kernel_rfl⟩
set_option maxRecDepth 4000
set_option maxHeartbeats 4000000
theorem C6 {r:ab} {k:Int} (h:aP r.l=0):r.sees k=false:=by
  have:r.l=[]:=oB (by have:=kB r.l;omega)
  simp[ab.sees,a8,this]
theorem x9 {l:List Tree} {x:ab} {k:Int} (hm:aP l+1≤aF) (h:x.l=l):(x.take k).1.kids.length+1≤aF:=by
  have h1:=(x.sS k).1;have U:=kB (x.take k).1.kids;rw[h] at h1;omega
theorem aci:∀(n:Nat) {r:Nat} {rd:ab} {σ:ae} (_:σ.box r=some rd.enc) (_:aP rd.l≤n) (_:aP rd.l+1≤aF),
    al prog 246 [.ptr (.out r) 0] σ fun v σ' => v = .agg (ab.constant n rd).1.enc∧σ' = σ.set r (ab.constant n rd).2.enc:=by
  intro n;induction n with
  | zero =>
    intro r rd σ h hn hm;have hlen:=kB rd.l;refine S1.calls ?_;simp only[aJ,HW,aR,am];refine(ou h).mono ?_;rintro v σ' ⟨rfl,rfl⟩;simp only[am,C6 (DT.1 hn)];refine(ou h).mono ?_;rintro v σ' ⟨rfl,rfl⟩;simp only[am,C6 (DT.1 hn)];refine(ou h).mono ?_;rintro v σ' ⟨rfl,rfl⟩;simp only[am,C6 (DT.1 hn)];refine(wv h (by omega)).mono ?_;rintro v σ' ⟨rfl,rfl⟩;simp only[am,Word.enc,Nat.reduceAdd];refine aG rfl (ae.aW _) ⟨?_,rfl⟩;simp[ab.constant,ab.leaf,V.erase,a9,Nd.enc,px]
  | succ n ih =>
    intro r rd σ h hn hm;have hlen:=kB rd.l;refine S1.calls ?_;simp only[aJ,HW,aR,am];refine(ou h).mono ?_;rintro v σ' ⟨rfl,rfl⟩;cases h1:rd.sees 123
    case' true =>
      simp only[am];refine(M6 h (by omega) (x9 hm rfl)).mono ?_;rintro v σ' ⟨rfl,rfl⟩;simp only[am,Nat.reduceAdd];refine aG rfl (ae.aW _) ⟨?_,by simp[ab.constant,h1]⟩;simp[ab.constant,h1,V.erase,a9,Nd.enc,px]
    case' false =>
      simp only[am];refine(ou h).mono ?_;rintro v σ' ⟨rfl,rfl⟩;cases U:rd.sees 40
    case' false.true =>
      have hk:aP (rd.take 40).1.kids+1≤aP rd.l:=(rd.sS 40).2 (by
        rcases rd.rr 40 with ⟨_,_,e,_,_⟩ | ⟨e,_,_⟩
        · exact e
        · rw[U] at e;simp at e)
      simp only[am];refine(FV (Au (Tp n)) h (by omega) (x9 hm rfl) (fun q i σ' e1 _ _ e4=>ih e4 (by rw[e1];omega) (by rw[e1];omega))).mono ?_;rintro v σ' ⟨rfl,rfl⟩;simp only[am,Nat.reduceAdd];refine aG rfl (ae.aW _) ⟨?_,by simp[ab.constant,h1,U]⟩;simp[ab.constant,h1,U,V.erase,a9,Nd.enc,yk]
    case' false.false =>
      simp only[am];refine(ou h).mono ?_;rintro v σ' ⟨rfl,rfl⟩;cases h3:rd.sees 91
    case' false.false.true =>
      simp only[am];refine(FV (Au aiD) h (by omega) (x9 hm rfl) (fun q i σ' e1 _ _ e4=>aqp e4 (by have g1:=kB i.l;have g2:=(rd.sS 91).1;rw[←e1] at g2;omega) (fun x k ex=>x9 (by have g2:=(rd.sS 91).1;rw[←e1] at g2;omega) ex))).mono ?_;rintro v σ' ⟨rfl,rfl⟩;simp only[am,Nat.reduceAdd];refine aG rfl (ae.aW _) ⟨?_,by simp[ab.constant,h1,U,h3]⟩;simp[ab.constant,h1,U,h3,V.erase,a9,Nd.enc,yk]
    case' false.false.false =>
      simp only[am];refine(wv h (by omega)).mono ?_;rintro v σ' ⟨rfl,rfl⟩;simp only[am,Word.enc,Nat.reduceAdd];refine aG rfl (ae.aW _) ⟨?_,by simp[ab.constant,ab.leaf,h1,U,h3]⟩;simp[ab.constant,ab.leaf,h1,U,h3,V.erase,a9,Nd.enc,px]
end Go.Proofs.Tryz
namespace Go.Proofs.Tryz
open Go.Am
def Pf:AC:=.seq (.aa [⟨(some 2),.alloc [(.int .i64 0),(.int .i64 0),(.str []),(.sl .full 2 []),(.sl .full 5 [])],none⟩])
 (.seq (.seq (.aa [xm 5 0,xc 205 6 [.s 5,.c (.int .u8 35)]])
 (.cond (.s 6) (.seq (.aa [xm 7 0,xc 206 8 [.s 7,.c (.int .u8 35)],⟨(some 3),.alloc [(.int .u8 0),(.str []),(.int .i64 0),(.sl .full 5 []),(.int .i64 0)],none⟩,xs 5 3 8])
 (.seq (.draw [(xf 0 9 3,[]),(xf 2 10 9,[]),(xo 11 10,[1]),(xm 12 0,[]),(xc 246 13 [.s 12],[]),(⟨(some 14),.cR 5 [(.s 13)],none⟩,[]),(⟨(some 15),.build [(.int .i64 0),(.int .i64 0),(.str []),(.sl .full 2 []),(.sl .full 5 [])] [(0,1,(.c (.int .i64 7))),(1,1,(.s 11)),(4,1,(.s 14))],none⟩,[]),(xs 5 2 15,[])])
 (.ret)))
 (.skip)))
 (.seq (.aa [xm 16 0,xc 204 17 [.s 16],⟨(some 4),.alloc [(.str []),(.int .i64 0)],none⟩,xs 2 4 17])
 (.seq (.aa [xf 1 18 4,xo 19 18,xf 0 20 4,xo 21 20,⟨(some 22),.build [(.int .i64 0),(.int .i64 0),(.str []),(.sl .full 2 []),(.sl .full 5 [])] [(0,1,(.c (.int .i64 1))),(1,1,(.s 19)),(2,1,(.s 21))],none⟩,xs 5 2 22])
 (.ret))))
theorem agm:aK prog 208 Pf [.cell 2 true 5] 23:=⟨f208,⟨[],[],[]⟩,func208,by kernel_rfl,by kernel_rfl,by kernel_rfl,by kernel_rfl⟩
def Pk:AC:=.seq (.aa [⟨(some 2),.alloc [(.int .i64 0),(.int .i64 0),(.str []),(.sl .full 2 []),(.sl .full 5 [])],none⟩])
 (.seq (.aa [xm 4 0,xc 204 5 [.s 4],⟨(some 3),.alloc [(.str []),(.int .i64 0)],none⟩,xs 2 3 5])
 (.seq (.aa [xm 6 0,xc 206 7 [.s 6,.c (.int .u8 61)]])
 (.seq (.draw [(xf 1 8 3,[]),(xo 9 8,[1]),(xf 0 10 3,[]),(xo 11 10,[1]),(xm 12 0,[]),(xc 208 13 [.s 12],[]),(⟨(some 14),.cR 5 [(.s 13)],none⟩,[]),(⟨(some 15),.build [(.int .i64 0),(.int .i64 0),(.str []),(.sl .full 2 []),(.sl .full 5 [])] [(0,1,(.c (.int .i64 11))),(1,1,(.s 9)),(2,1,(.s 11)),(4,1,(.s 14))],none⟩,[]),(xs 5 2 15,[])])
 (.ret))))
theorem agq:aK prog 211 Pk [.cell 2 true 5] 16:=⟨f211,⟨[],[],[]⟩,func211,by kernel_rfl,by kernel_rfl,by kernel_rfl,by kernel_rfl⟩
set_option maxRecDepth 4000
set_option maxHeartbeats 4000000
theorem Nd.len {n:Nd}:n.enc.length=5:=by rw[Nd.cD];rfl
theorem Tree.ld {t:Tree}:∀{n:Nat},t.enc.drop n=[V.int .u8 t.tok.kind,.str t.tok.text,.int .i64 t.tok.pos,.sl .no 5 (cK t.kids),.int .i64 t.fin].drop n:=fun {n}=>by rw[cD]
theorem Rk {n r:Nat} {rd:ab} {σ:ae} (h:σ.box r=some rd.enc) (hn:aP rd.l≤n) (hm:aP rd.l+1≤aF) :
    al prog 208 [.ptr (.out r) 0] σ fun v σ' => v = .agg (rd.atom n).1.enc∧σ' = σ.set r (rd.atom n).2.enc:=by
  have hlen:=kB rd.l;refine agm.calls ?_;simp only[aJ,Pf,aR,am];refine(ou h).mono ?_;rintro v σ' ⟨rfl,rfl⟩;cases h1:rd.sees 35
  case' true =>
    simp only[am];refine(uC h (by omega)).mono ?_;rintro v σ' ⟨rfl,rfl⟩;simp only[am,cD,Nat.reduceAdd];refine br.intro (aci n (ae.cX _ _ _) (by rw[ab.eC];exact hn) (by rw[ab.eC];exact hm)) ?_;simp only[am,Nd.len,Nd.one,Nd.cc,Nd.er,Nat.reduceAdd];refine aG rfl (ae.aW _) ⟨?_,by simp[ab.atom,h1]⟩;simp[ab.atom,h1,V.erase,a9,Nd.enc,px]
  case' false =>
    simp only[am];refine(wv h (by omega)).mono ?_;rintro v σ' ⟨rfl,rfl⟩;simp only[am,Word.enc,Nat.reduceAdd];refine aG rfl (ae.aW _) ⟨?_,by simp[ab.atom,ab.leaf,h1]⟩;simp[ab.atom,ab.leaf,h1,V.erase,a9,Nd.enc,px]
theorem aeW {n r:Nat} {rd:ab} {σ:ae} (h:σ.box r=some rd.enc) (hn:aP rd.l≤n) (hm:aP rd.l+1≤aF) :
    al prog 211 [.ptr (.out r) 0] σ fun v σ' => v = .agg (rd.field n).1.enc∧σ' = σ.set r (rd.field n).2.enc:=by
  have hlen:=kB rd.l;refine agq.calls ?_;simp only[aJ,Pk,aR,am];refine(wv h (by omega)).mono ?_;rintro v σ' ⟨rfl,rfl⟩;simp only[am,Word.enc,Nat.reduceAdd];have e1:rd.word.2.l=rd.l:=by simp[ab.word,ab.eC]
  refine(uC (ae.cX _ _ _) (by rw[e1];omega)).mono ?_;rintro v σ' ⟨rfl,rfl⟩;simp only[am];refine br.intro (Rk (n:=n) (ae.cX _ _ _) (by rw[ab.eC,e1];exact hn) (by rw[ab.eC,e1];exact hm)) ?_;simp only[am,Nd.len,Nd.one,Nd.cc,Nd.er,Nat.reduceAdd];refine aG rfl (ae.aW _) ⟨?_,by simp[ab.field]⟩;simp[ab.field,V.erase,a9,Nd.enc,px]
end Go.Proofs.Tryz
namespace Go.Proofs.Tryz
open Go.Am
def OH:AC:=.seq (.aa [⟨(some 2),.alloc [(.int .i64 0),(.int .i64 0),(.str []),(.sl .full 2 []),(.sl .full 5 [])],none⟩])
 (.seq (.seq (.aa [⟨(some 9),.cR 1 [(.c (.int .u8 43)),(.c (.int .u8 38))],none⟩,xL 10 9,xi 11 0])
 (.block 0 (.loop (.seq (.aa [xb .lss 12 11 10])
 (.seq (.cond (.s 12) (.skip)
 (.exit 0))
 (.seq (.block 1 (.seq (.aa [xA 1 13 9 11,xo 14 13,xm 4 14])
 (.seq (.seq (.aa [xm 15 0,xm 16 4,xc 205 17 [.s 15,.s 16],⟨(some 18),.not (.s 17),none⟩])
 (.cond (.s 18) (.exit 1)
 (.skip)))
 (.seq (.aa [xm 19 0,xm 20 4,xc 206 21 [.s 19,.s 20],⟨(some 5),.alloc [(.int .u8 0),(.str []),(.int .i64 0),(.sl .full 5 []),(.int .i64 0)],none⟩,xs 5 5 21])
 (.seq (.aa [xi 6 8])
 (.seq (.seq (.aa [xm 22 4,xu .eql 23 22 38])
 (.cond (.s 23) (.aa [xi 6 9])
 (.skip)))
 (.seq (.aa [xm 25 0,xc 207 26 [.s 25,.c (.int .u8 40),.c (.bool false),.c (.fn (.func 158) [] [])],xm 24 26,xe 27 24 0,xe 28 24 1,xm 7 27,xm 8 28])
 (.seq (.aa [xm 29 6,xf 0 30 5,xf 2 31 30,xo 32 31,xm 33 7,⟨(some 34),.build [(.int .i64 0),(.int .i64 0),(.str []),(.sl .full 2 []),(.sl .full 5 [])] [(0,1,(.s 29)),(1,1,(.s 32)),(4,1,(.s 33))],none⟩,xs 5 2 34])
 (.ret)))))))))
 (.aa [xB .add 35 11 1,xm 11 35])))))))
 (.seq (.aa [xm 36 0,xc 208 37 [.s 36],xs 5 2 37])
 (.ret)))
theorem afQ:aK prog 158 OH [.cell 2 true 5] 38:=⟨f158,⟨[],[],[]⟩,func158,by kernel_rfl,by kernel_rfl,by kernel_rfl,by kernel_rfl⟩
set_option maxRecDepth 4000
set_option maxHeartbeats 4000000
def FP (r:Nat) (rd:ab) (σ:ae) (i:{i:Nat // i≤2∧(1≤i→rd.sees 43=false)∧(2≤i→rd.sees 38=false)}):St :=
  ⟨[.ptr (.out r) 0,.any,.ptr (.loc 0) 0,.any,.any,.any,.any,.any,.any,.sl .full 1 [[.int .u8 43],[.int .u8 38]],.int .i64 2,.int .i64 (i.1:Nat)]++List.replicate 26 .any,
    [[.int .i64 0,.int .i64 0,.str [],.sl .full 2 [],.sl .full 5 []]],σ⟩
theorem Nd.CW {n:Nd} {a b c d e:V}:over [a,b,c,d,e] n.enc=n.enc:=by rw[Nd.cD];rfl
theorem Nd.tk {n:Nd}:takeN 5 n.enc=some n.enc:=by rw[Nd.cD];rfl
theorem arN (r:ab) (k:Int):aP (r.take k).1.kids+1≤aP r.l∨aP (r.take k).1.kids=0:=by
  rcases r.rr k with ⟨_,_,e,_,_⟩ | ⟨e,_,_⟩
  · exact .inl ((r.sS k).2 e)
  · right;simp[ab.take,e,Tree.zero,Tree.kids,aP]
theorem akK {n:Nat} {rd:ab} (h1:rd.sees 43=false) (U:rd.sees 38=false) (hn:aP rd.l≤n):ab.label n rd=rd.atom n:=by
  cases n with
  | zero=>simp[ab.label,ab.atom,C6 (DT.1 hn)]
  | succ n=>simp[ab.label,h1,U]
theorem U5 {n:Nat} (ih:∀m,n=m+1→∀{r:Nat} {rd:ab} {σ:ae} (_:σ.box r=some rd.enc) (_:aP rd.l≤m) (_:aP rd.l+1≤aF),
    al prog 158 [.ptr (.out r) 0] σ fun v σ' => v = .agg (ab.label m rd).1.enc∧σ' = σ.set r (ab.label m rd).2.enc) {r:Nat} {rd:ab} {σ:ae} (h:σ.box r=some rd.enc) (hn:aP rd.l≤n) (hm:aP rd.l+1≤aF) :
    al prog 158 [.ptr (.out r) 0] σ fun v σ' => v = .agg (ab.label n rd).1.enc∧σ' = σ.set r (ab.label n rd).2.enc:=by
  have hlen:=kB rd.l;have gT:∀k,rd.sees k=true→∃m,n=m+1:=fun k hk=>by
    cases n with
    | zero=>rw[C6 (DT.1 hn)] at hk;simp at hk
    | succ m=>exact⟨m,rfl⟩
  have kids:∀(m:Nat) (k:Int),n=m+1→∀(q:Nat) (i:ab) (σ:ae),i.l=((rd.take k).2.take 40).1.kids→0≤i.at_→i.at_≤i.l.length→σ.box q=some i.enc→al prog 158 [.ptr (.out q) 0] σ fun v σ' => v = .agg (ab.label m i).1.enc∧σ' = σ.set q (ab.label m i).2.enc:=fun m k e q i σ e1 _ _ e4=>by
    have g1:=((rd.take k).2.sS 40).1;have g2:=arN (rd.take k).2 40;rw[ab.eC,←e1] at g1 g2;exact ih m e e4 (by omega) (by omega)
  refine afQ.calls ?_;simp only[aJ,OH,aR,am];refine j6 (fun i=>FP r rd σ i) (fun i=>2 - i.1) ?_ ?_
  · refine ba.enter ⟨0,by omega,by omega,by omega⟩ ?_ ?_ bG.rfl
    · simp[FP,List.replicate,am]
    · simp[FP,am]
  · rintro⟨i,hi,lY,JP⟩;simp only[FP,List.replicate,am];have ai2:i=0∨i=1∨i=2:=by omega
    rcases ai2 with rfl | rfl | rfl
    · simp only[am,show (((0:Nat):Int)<2)=True by simp,bZ];refine bD (by omega) (c:=[.int .u8 43]) rfl ?_;simp only[am];refine(ou h).mono ?_;rintro v σ' ⟨rfl,rfl⟩;cases h1:rd.sees 43
      · simp only[am];rw[wrap_i64 (by omega) (by omega)];exact ba.again ⟨1,by omega,fun _=>rfl,by omega⟩ (by simp) (by simp[am]) cj.rfl bG.rfl
      · have Sy:decide ((43:Int)=38)=false:=by simp
        obtain⟨m,rfl⟩:=gT _ h1;simp only[am];refine(uC h (by omega)).mono ?_;rintro v σ' ⟨rfl,rfl⟩;simp only[am,cD,Nat.reduceAdd,Sy];refine(FV (Au (I2 m)) (ae.cX _ _ _) (by rw[ab.eC];omega) (x9 hm (ab.eC _ _)) (kids m 43 rfl)).mono ?_;rintro v σ' ⟨rfl,rfl⟩;simp only[am,Nat.reduceAdd];refine aG rfl (ae.aW _) ⟨?_,by simp[ab.label,h1]⟩;simp[ab.label,h1,V.erase,a9,Nd.enc,yk]
    · have lx:=lY (by omega);simp only[am,show (((1:Nat):Int)<2)=True by simp,bZ];refine bD (by omega) (c:=[.int .u8 38]) rfl ?_;simp only[am];refine(ou h).mono ?_;rintro v σ' ⟨rfl,rfl⟩;cases h1:rd.sees 38
      · simp only[am];rw[wrap_i64 (by omega) (by omega)];exact ba.again ⟨2,by omega,fun _=>lx,fun _=>rfl⟩ (by simp) (by simp[am]) cj.rfl bG.rfl
      · have Sy:decide ((38:Int)=38)=true:=by simp
        obtain⟨m,rfl⟩:=gT _ h1;simp only[am];refine(uC h (by omega)).mono ?_;rintro v σ' ⟨rfl,rfl⟩;simp only[am,cD,Nat.reduceAdd,bZ];refine(FV (Au (I2 m)) (ae.cX _ _ _) (by rw[ab.eC];omega) (x9 hm (ab.eC _ _)) (kids m 38 rfl)).mono ?_;rintro v σ' ⟨rfl,rfl⟩;simp only[am,Nat.reduceAdd];refine aG rfl (ae.aW _) ⟨?_,by simp[ab.label,lx,h1]⟩;simp[ab.label,lx,h1,V.erase,a9,Nd.enc,yk]
    · have lx:=lY (by omega);have Cl:=JP (by omega);simp only[am,show (((2:Nat):Int)<2)=False by simp,fh];refine(Rk h hn hm).mono ?_;rintro v σ' ⟨rfl,rfl⟩;simp only[am,Nd.len,Nd.one,Nd.CW,Nd.tk];rw[akK lx Cl hn];refine aG (by simp only[am,Nd.cc]) (ae.aW _) ⟨?_,rfl⟩;simp only[am,Nd.er]
theorem akJ:∀(n:Nat) {r:Nat} {rd:ab} {σ:ae} (_:σ.box r=some rd.enc) (_:aP rd.l≤n) (_:aP rd.l+1≤aF),
    al prog 158 [.ptr (.out r) 0] σ fun v σ' => v = .agg (ab.label n rd).1.enc∧σ' = σ.set r (ab.label n rd).2.enc:=by
  intro n;induction n with
  | zero=>exact fun h hn hm=>U5 (fun m e=>by omega) h hn hm
  | succ n ih=>exact fun h hn hm=>U5 (fun m e=>Nat.succ.inj e▸ih) h hn hm
end Go.Proofs.Tryz
namespace Go.Proofs.Tryz
open Go.Am
def Pj:AC:=.hole [(xf 4 2 0,[]),(xo 3 2,[1]),(xo 4 1,[]),(xc 211 5 [.s 4],[]),(xL 6 3,[]),(⟨(some 7),.cR 5 [(.c (.agg [(.int .i64 0),(.int .i64 0),(.str []),(.sl .full 2 []),(.sl .full 5 [])]))],none⟩,[]),(⟨(some 8),.mv (.c .any),none⟩,[]),(⟨(some 9),.mv (.c .any),none⟩,[]),(⟨none,.mv (.c .any),none⟩,[]),(⟨(some 10),.mv (.c .any),none⟩,[]),(⟨none,.mv (.c .any),none⟩,[])] ⟨5,(.s 3),(.s 7),(.s 6),(.s 5),(.s 0),(some 4),8,9,10⟩
theorem agp:aK prog 210 Pj [] 11:=⟨f210,⟨[],[],[]⟩,func210,by kernel_rfl,by kernel_rfl,by kernel_rfl,by kernel_rfl⟩
set_option maxRecDepth 4000
set_option maxHeartbeats 4000000
def gd (τ:Nat) (names rows:List (List V)):List V:=[.int .i64 10,.int .i64 0,.str [],.sl .full 2 names,.sl (.tk τ) 5 rows]
theorem ap8 {n o p q τ:Nat} {names rows:List (List V)} {rd:ab} {σ:ae} (ho:σ.box o=some (gd τ names rows)) (hp:σ.box p=some [.ptr (.out q) 0]) (hq:σ.box q=some rd.enc)
    (J5:o≠q) (ht:σ.aC τ=some rows.length) (hb:rows.length+1≤aF) (hn:aP rd.l≤n) (hm:aP rd.l+1≤aF) :
    al prog 210 [.ptr (.out o) 0,.ptr (.out p) 0] σ fun v σ' => v = .aX []∧σ' = ((σ.set q (rd.field n).2.enc).set o (gd τ names (rows++[(rd.field n).1.enc]))).aL τ (rows.length+1):=by
  unfold gd at ho ⊢;refine agp.calls ?_;simp only[aJ,Pj,aR,am,ho,hp];refine br.intro (aeW (n:=n) hq hn hm) ?_;have h1:(σ.set q (rd.field n).2.enc).box o=some [.int .i64 10,.int .i64 0,.str [],.sl .full 2 names,.sl (.tk τ) 5 rows]:=by rw[ae.dc _ _ J5];exact ho
  simp only[am,h1];refine Uh (τ:=τ) (m:=rows) (cs:=(rd.field n).1.enc) (p:=.ptr (.out o) 4) rfl rfl rfl hb ht ⟨Nd.wd,Nd.one,Nd.cc⟩ Nd.er (by simp) rfl (by simp only[am,h1];rfl) ?_;simp only[am];exact aG rfl (ae.aW _) ⟨rfl,rfl⟩
end Go.Proofs.Tryz
namespace Go.Proofs.Tryz
open Go.Am
def Pg:AC:=.seq (.aa [⟨(some 2),.ff 1 (.s 0),none⟩])
 (.seq (.seq (.aa [xo 3 2,xc 205 4 [.s 3,.c (.int .u8 124)],⟨(some 5),.not (.s 4),none⟩])
 (.cond (.s 5) (.aa [xo 6 2,⟨(some 7),.ix (.func 210) [] [(.s 1),(.s 2)],none⟩,xc 202 8 [.s 6,.s 7]])
 (.skip)))
 (.seq (.aa [xo 9 2,xc 205 10 [.s 9,.c (.int .u8 124)]])
 (.cond (.s 10) (.seq (.aa [xo 11 2,xc 206 12 [.s 11,.c (.int .u8 124)]])
 (.aa [xo 13 2,xc 204 14 [.s 13],⟨(some 15),.cR 2 [(.s 14)],none⟩,xf 3 16 1,xs 1 16 15]))
 (.skip))))
theorem agn:aK prog 209 Pg [] 17:=⟨f209,⟨[2],[],[]⟩,func209,by kernel_rfl,by kernel_rfl,by kernel_rfl,by kernel_rfl⟩
set_option maxRecDepth 4000
set_option maxHeartbeats 4000000
def fF (σ:ae) (q o τ:Nat) (rd:ab) (names rows:List (List V)):ae:=((σ.set q rd.enc).set o (gd τ names rows)).aL τ rows.length
theorem xq {σ:ae} {q o τ:Nat} {rd:ab} {names rows:List (List V)} (h:q≠o):(fF σ q o τ rd names rows).box q=some rd.enc:=by
  simp[fF,ae.aL,ae.set,h]
theorem IX {σ:ae} {q o τ:Nat} {rd:ab} {names rows:List (List V)}:(fF σ q o τ rd names rows).box o=some (gd τ names rows):=by
  simp[fF,ae.aL,ae.set]
theorem IY {σ:ae} {q o τ p:Nat} {rd:ab} {names rows:List (List V)} (h:p≠q) (h' : p≠o):(fF σ q o τ rd names rows).box p=σ.box p:=by
  simp[fF,ae.aL,ae.set,h,h']
theorem Tc {σ:ae} {q o τ p:Nat} {rd:ab} {names rows:List (List V)} {cs:List V} (h:p≠q) (h' : p≠o):(fF σ q o τ rd names rows).set p cs=fF (σ.set p cs) q o τ rd names rows:=by
  have:((σ.set q rd.enc).set o (gd τ names rows)).set p cs=((σ.set p cs).set q rd.enc).set o (gd τ names rows):=by
    rw[ae.set_comm (Ne.symm h'),ae.set_comm (b:=q) (Ne.symm h)]
  show (((σ.set q rd.enc).set o (gd τ names rows)).set p cs).aL τ rows.length=_;rw[this];rfl
theorem aip {σ:ae} {q o τ:Nat} {rd:ab} {names rows:List (List V)}:(fF σ q o τ rd names rows).aC τ=some rows.length:=by
  simp[fF,ae.aL]
theorem ER {σ:ae} {q o τ:Nat} {rd je : ab} {names rows:List (List V)} (h:q≠o):(fF σ q o τ rd names rows).set q je.enc=fF σ q o τ je names rows:=by
  have:((σ.set q rd.enc).set o (gd τ names rows)).set q je.enc=(σ.set q je.enc).set o (gd τ names rows):=by rw[ae.set_comm (Ne.symm h),ae.set_set]
  show (((σ.set q rd.enc).set o (gd τ names rows)).set q je.enc).aL τ rows.length=_;rw[this];rfl
theorem ain {σ:ae} {q o τ:Nat} {rd:ab} {names Lc rows:List (List V)}:(fF σ q o τ rd names rows).set o (gd τ Lc rows)=fF σ q o τ rd Lc rows:=by
  show (((σ.set q rd.enc).set o (gd τ names rows)).set o (gd τ Lc rows)).aL τ rows.length=_;rw[ae.set_set];rfl
theorem aio {σ:ae} {q o τ:Nat} {rd je : ab} {names rows:List (List V)} {c:List V} (h:q≠o):(((fF σ q o τ rd names rows).set q je.enc).set o (gd τ names (rows++[c]))).aL τ (rows.length+1)=fF σ q o τ je names (rows++[c]):=by
  rw[ER h];unfold fF;rw[bw,cG,dv];show ((((σ.set q je.enc).set o (gd τ names rows)).set o (gd τ names (rows++[c]))).aL τ rows.length).aL τ (rows.length+1)=_;rw[ae.set_set,j5]
def C0 (one:ab→Nd × ab) (σ:ae) (q o τ:Nat):Sys (ab × List Nd):=⟨fun a=>fF σ q o τ a.1 [] (a.2.map Nd.enc),fun a=>a.1,fun a r=>(r,a.2),bJ one⟩
theorem Yf {one:ab→Nd × ab} (h:Reads one) (r:ab):(da (bJ one) r).1.l=r.l:=I1 (Li h _) _ _ (Li h _ _ rfl)
theorem ap9 {n o q τ:Nat} {rd:ab} {σ:ae} (cU:q≠o) (eQ:rd.at_=0) (eR:rd.bad=none) (hn:aP rd.l≤n) (hm:aP rd.l+1≤aF) :
    al prog 209 [.ptr (.out q) 0,.ptr (.out o) 0] (fF σ q o τ rd [] []) fun v σ' => v = .aX []∧σ' = fF σ q o τ (rd.lI n).1.1 ((rd.lI n).2.map Word.enc) ((rd.lI n).1.2.map Nd.enc):=by
  have hlen:=kB rd.l;have B5:Reads (ab.field n):=Au (Tq n);refine agn.calls ?_;simp only[aJ,Pg,aR,am];refine iw fun p hp=>?_
  have kt:p≠q:=by rintro rfl;rw[xq cU] at hp;simp at hp
  have kr:p≠o:=by rintro rfl;rw[IX] at hp;simp at hp
  rw[IY kt kr] at hp;rw[Tc kt kr];have tX:∀a b c,(fF (σ.set p [.ptr (.out q) 0]) q o τ a b c).box p=some [.ptr (.out q) 0]:=fun a b c=>by rw[IY kt kr,ae.cX]
  have qK:∀a b c,(fF σ q o τ a b c).sub (fF (σ.set p [.ptr (.out q) 0]) q o τ a b c):=fun a b c=>by
    rw[←Tc kt kr];exact fU (by rw[IY kt kr];exact hp)
  simp only[am,tX];refine(ou (xq cU)).mono ?_;rintro v σ' ⟨rfl,rfl⟩;cases h1:rd.sees 124
  all_goals simp only[am,tX]
  case' false =>
    have qd:∀a:ab × List Nd,mW rd.l a→a.1.bad=none→al prog 210 [.ptr (.out o) 0,.ptr (.out p) 0] (fF (σ.set p [.ptr (.out q) 0]) q o τ a.1 [] (a.2.map Nd.enc)) fun v σ' =>
        v = .aX []∧σ' = fF (σ.set p [.ptr (.out q) 0]) q o τ (bJ (ab.field n) a).1 [] ((bJ (ab.field n) a).2.map Nd.enc):=fun a jS hb=>by
      have hl:=jS.2.2.2 hb;have jQ:=jS.2.2.1;refine(ap8 (n:=n) IX (tX _ _ _) (xq cU) (Ne.symm cU) aip (by rw[aE];omega) (by rw[jS.1];exact hn) (by rw[jS.1];exact hm)).mono ?_;rintro v σ' ⟨rfl,rfl⟩;refine⟨rfl,?_⟩;rw[aio cU];simp[bJ]
    have h0:mW rd.l (rd,([]:List Nd)):=⟨rfl,by simp[eQ],by simp[eQ],fun _=>by simp[eQ]⟩;obtain⟨p1,_⟩:=Gw B5 h0 eR;refine(Ms (C0 (ab.field n) (σ.set p [.ptr (.out q) 0]) q o τ) (mW rd.l) (a:=(rd,[])) (n:=rd.l.length) (by simp[am]) (fun a h=>xq cU) (fun a h=>?_) (fun a h hs=>ER cU) (fun a h hs=>?_) (qd _ h0 eR) p1 ?_).mono ?_
    · show a.1.l.length≤aF;rw[h.1];omega
    · obtain⟨k1,k2,k3⟩:=Lw h hs;obtain⟨k4,k5⟩:=Gw B5 k1 k2;refine⟨qd _ k1 k2,k4,?_,?_⟩
      · exact k4.1.trans h.1.symm
      · show a.1.at_+1≤_;simp only at k5;rw[k3] at k5;exact k5
    · show (bJ (ab.field n) (rd,[])).1.l.length≤rd.l.length;rw[p1.1];omega
    rintro v σ' ⟨rfl,rfl⟩;have e:(C0 (ab.field n) (σ.set p [.ptr (.out q) 0]) q o τ).F ((C0 (ab.field n) (σ.set p [.ptr (.out q) 0]) q o τ).go rd.l.length ((C0 (ab.field n) (σ.set p [.ptr (.out q) 0]) q o τ).step (rd,[])))=fF (σ.set p [.ptr (.out q) 0]) q o τ (da (bJ (ab.field n)) rd).1 [] ((da (bJ (ab.field n)) rd).2.map Nd.enc):=by
      unfold C0;rw[EU];rfl
    rw[e];have hl:=Yf B5 rd;have gJ:rd.lI n=if (da (bJ (ab.field n)) rd).1.sees 124=true then ((((da (bJ (ab.field n)) rd).1.take 124).2.word.2,(da (bJ (ab.field n)) rd).2),[((da (bJ (ab.field n)) rd).1.take 124).2.word.1]) else (da (bJ (ab.field n)) rd,[]):=by
      simp only[ab.lI,h1,cI,bP]
    generalize da (bJ (ab.field n)) rd=a at hl gJ ⊢;simp only[am,tX]
  case' true =>
    have gJ:rd.lI n=if rd.sees 124=true then (((rd.take 124).2.word.2,[]),[(rd.take 124).2.word.1]) else ((rd,[]),[]):=by
      simp only[ab.lI,h1,b7]
    have hl:rd.l=rd.l:=rfl;rw[show fF (σ.set p [.ptr (.out q) 0]) q o τ rd [] []=fF (σ.set p [.ptr (.out q) 0]) q o τ (rd,([]:List Nd)).1 [] ((rd,([]:List Nd)).2.map Nd.enc) from rfl];have gJ:rd.lI n=if (rd,([]:List Nd)).1.sees 124=true then ((((rd,([]:List Nd)).1.take 124).2.word.2,(rd,([]:List Nd)).2),[((rd,([]:List Nd)).1.take 124).2.word.1]) else ((rd,([]:List Nd)),[]):=gJ
    have hl:(rd,([]:List Nd)).1.l=rd.l:=rfl;generalize (rd,([]:List Nd))=a at hl gJ ⊢
  all_goals
    refine(ou (xq cU)).mono ?_;rintro v σ' ⟨rfl,rfl⟩;cases U:a.1.sees 124
    · simp only[am,gJ,U];exact aG rfl (qK _ _ _) ⟨rfl,rfl⟩
    · simp only[am,tX];refine(uC (xq cU) (by rw[hl];omega)).mono ?_;rintro v σ' ⟨rfl,rfl⟩;rw[ER cU];simp only[am,tX];refine(wv (xq cU) (by rw[ab.eC,hl];omega)).mono ?_;rintro v σ' ⟨rfl,rfl⟩;rw[ER cU];simp only[am,Word.enc,IX,gd,Nat.reduceAdd];rw[show [V.int .i64 10,.int .i64 0,.str [],.sl .full 2 [[.str (a.1.take 124).2.word.1.text,.int .i64 (a.1.take 124).2.word.1.pos]],.sl (.tk τ) 5 (a.2.map Nd.enc)]=gd τ ([(a.1.take 124).2.word.1].map Word.enc) (a.2.map Nd.enc) from rfl,ain];exact aG rfl (qK _ _ _) ⟨rfl,by rw[gJ,ak U]⟩
end Go.Proofs.Tryz
namespace Go.Proofs.Tryz
open Go.Am
def OI:AC:=.seq (.aa [⟨(some 2),.alloc [(.int .i64 0),(.int .i64 0),(.str []),(.sl .full 2 []),(.sl .full 5 [])],none⟩])
 (.seq (.seq (.aa [xm 5 0,xc 205 6 [.s 5,.c (.int .u8 91)],⟨(some 7),.not (.s 6),none⟩])
 (.cond (.s 7) (.seq (.aa [xm 8 0,xc 204 9 [.s 8],⟨(some 3),.alloc [(.str []),(.int .i64 0)],none⟩,xs 2 3 9])
 (.seq (.aa [xf 1 10 3,xo 11 10,xf 0 12 3,xo 13 12,⟨(some 14),.build [(.int .i64 0),(.int .i64 0),(.str []),(.sl .full 2 []),(.sl .full 5 [])] [(0,1,(.c (.int .i64 1))),(1,1,(.s 11)),(2,1,(.s 13))],none⟩,xs 5 2 14])
 (.ret)))
 (.skip)))
 (.seq (.aa [⟨(some 15),.build [(.int .i64 0),(.int .i64 0),(.str []),(.sl .full 2 []),(.sl .full 5 [])] [(0,1,(.c (.int .i64 10)))],none⟩,⟨(some 4),.mX [(.int .i64 0),(.int .i64 0),(.str []),(.sl .full 2 []),(.sl .full 5 [])],none⟩,xs 5 4 15])
 (.seq (.mQ (.aa [xm 16 0,⟨(some 17),.ix (.func 209) [] [(.s 4)],none⟩,xc 200 18 [.s 16,.c (.int .u8 91),.c (.bool true),.s 17],xf 1 19 4,xs 1 19 18]))
 (.seq (.aa [xl 5 20 4,xs 5 2 20])
 (.ret)))))
theorem afR:aK prog 159 OI [.cell 2 true 5] 21:=⟨f159,⟨[4],[5],[]⟩,func159,by kernel_rfl,by kernel_rfl,by kernel_rfl,by kernel_rfl⟩
set_option maxRecDepth 4000
set_option maxHeartbeats 4000000
theorem arD {a b:ae} {o:Nat} {C:List V} (h:a.sub b) (k:a.box o=none):a.sub (b.set o C):=by
  refine⟨fun x cs hx=>?_,h.2⟩
  have:x≠o:=by rintro rfl;rw[k] at hx;simp at hx
  rw[ae.dc _ _ this];exact h.1 x cs hx
theorem aqa {n:Nat} (i:ab):(i.lI n).1.1.l=i.l:=by
  have B5:Reads (ab.field n):=Au (Tq n);cases h1:i.sees 124
  · cases U:(da (bJ (ab.field n)) i).1.sees 124<;>simp[ab.lI,h1,U,ab.word,ab.eC,Yf B5]
  · simp[ab.lI,h1,ab.word,ab.eC]
theorem aqe {n:Nat} (t:Tree):(ab.rowOf n t).1.1.l=t.kids:=by
  unfold ab.rowOf;split
  · rfl
  · rw[aqa];rfl
theorem atD {n r:Nat} {rd:ab} {σ:ae} (h:σ.box r=some rd.enc) (hn:aP rd.l≤n) (hm:aP rd.l+1≤aF) :
    al prog 159 [.ptr (.out r) 0] σ fun v σ' => v = .agg (rd.row n).1.enc∧σ' = σ.set r (rd.row n).2.enc:=by
  have hlen:=kB rd.l;refine afR.calls ?_;simp only[aJ,OI,aR,am];refine(ou h).mono ?_;rintro v σ ⟨rfl,rfl⟩;cases h1:rd.sees 91
  · simp only[am];refine(wv h (by omega)).mono ?_;rintro v σ' ⟨rfl,rfl⟩;simp only[am,Word.enc,Nat.reduceAdd];refine aG rfl (ae.aW _) ⟨?_,by simp[ab.row,ab.leaf,h1]⟩;simp[ab.row,ab.leaf,h1,V.erase,a9,Nd.enc,px]
  · simp only[am];refine iw fun o ho=>?_
    have ir:o≠r:=by rintro rfl;rw[h] at ho;simp at ho
    simp only[am];refine ba.tok 0 fun τ bh=>⟨_,_,_,dy.rfl,rfl,fun i c hc=>⟨c,hc,dy.rfl⟩,oG.set (cs:=[.int .i64 10,.int .i64 0,.str [],.sl .full 2 [],.sl .full 5 []]) (cs' := gd τ [] []) (ae.cX _ _ _) ⟨iq.same,iq.same,iq.same,iq.same,iq.tok rfl,trivial⟩,?_⟩
    simp only[am];have tG : ((σ.set o (gd τ [] [])).aL τ 0).box r=some rd.enc:=by
      show (σ.set o _).box r=_;rw[ae.dc _ _ (Ne.symm ir)];exact h
    have aI:∀q,((σ.set o (gd τ [] [])).aL τ 0).box q=none→q≠o∧q≠r∧σ.box q=none:=fun q hq=>by
      have cU:q≠o:=by rintro rfl;rw[show ((σ.set q (gd τ [] [])).aL τ 0).box q=_ from ae.cX _ _ _] at hq;simp at hq
      have l8 : σ.box q=none:=by rw[←ae.dc σ (gd τ [] []) cU];exact hq
      exact⟨cU,by rintro rfl;rw[h] at l8;simp at l8,l8⟩
    have pZ:aP (rd.take 91).1.kids≤aP rd.l:=(rd.sS 91).1;have at4:=kB (rd.take 91).1.kids;generalize dx:ab.rowOf n (rd.take 91).1=ins;have B8:ins.1.1.l=(rd.take 91).1.kids:=by rw[←dx];exact aqe _
    refine(MY (kind:=91) (by simp[am]) tG (by omega) (by omega) ins.1.1 ((σ.set o (gd τ (ins.2.map Word.enc) (ins.1.2.map Nd.enc))).aL τ (ins.1.2.map Nd.enc).length) ?_ ?_ ?_ B8).mono ?_
    · intro bM hc q hq;obtain⟨cU,ju,_⟩:=aI q hq;have e1:(((σ.set o (gd τ [] [])).aL τ 0).set r (rd.take 91).2.enc).set q (rd.take 91).1.inner.enc=fF (σ.set r (rd.take 91).2.enc) q o τ (rd.take 91).1.inner [] []:=by
        unfold fF;rw[ae.set_comm (b:=q) cU,ae.set_comm (b:=r) (Ne.symm ir)];rfl
      have e2:(((σ.set o (gd τ (ins.2.map Word.enc) (ins.1.2.map Nd.enc))).aL τ (ins.1.2.map Nd.enc).length).set r (rd.take 91).2.enc).set q ins.1.1.enc=fF (σ.set r (rd.take 91).2.enc) q o τ ins.1.1 (ins.2.map Word.enc) (ins.1.2.map Nd.enc):=by
        unfold fF;rw[ae.set_comm (b:=q) cU,ae.set_comm (b:=r) (Ne.symm ir)];rfl
      have e3:ins=(rd.take 91).1.inner.lI n:=by
        rw[←dx,ab.rowOf,ah]
        rcases hc with hc | hc
        · simp at hc
        · exact hc
      rw[e1,e2,e3];exact ap9 cU rfl rfl (by show aP (rd.take 91).1.kids≤n;omega) (by show aP (rd.take 91).1.kids+1≤aF;omega)
    · intro q1 q2
      have:ins=(((rd.take 91).1.inner,[]),[]):=by rw[←dx,ab.rowOf,ak q2]
      rw[this];exact⟨rfl,rfl⟩
    · intro q hq;obtain⟨cU,_,l8⟩:=aI q hq;show (σ.set o _).box q=none;rw[ae.dc _ _ cU];exact l8
    rintro v σ' hv;have vp:∀(A B:List V) (n:Nat),(σ.set r A).sub (((σ.set o B).aL τ n).set r A):=fun A B n=>by
      refine⟨fun b cs hb=>?_,fun υ m hm=>?_,fun _ _ h=>h⟩
      · have B1:b≠o:=by rintro rfl;rw[ae.dc _ _ ir,ho] at hb;simp at hb
        by_cases sd:b=r
        · subst sd;rw[ae.cX] at hb ⊢;exact hb
        · rw[ae.dc _ _ sd] at hb ⊢;show (σ.set o B).box b=_;rw[ae.dc _ _ B1];exact hb
      · have qM : σ.aC υ=some m:=hm;have xI : υ≠τ:=by rintro rfl;rw[show (σ.set o [V.int .i64 10,.int .i64 0,.str [],.sl .full 2 [],.sl .full 5 []]).aC υ=σ.aC υ from rfl] at bh;rw[bh] at qM;simp at qM
        show ((σ.set o B).aL τ n).aC υ=some m;rw[yz xI];exact qM
    have bM:(rd.take 91).2.ok=true:=by
      rcases rd.rr 91 with ⟨_,_,e,_,_⟩ | ⟨e,_,_⟩
      · simp[ab.ok,e]
      · rw[h1] at e;simp at e
    rw[ak bM] at hv;obtain⟨rfl,rfl⟩:=hv;have hb:(((σ.set o (gd τ (ins.2.map Word.enc) (ins.1.2.map Nd.enc))).aL τ (ins.1.2.map Nd.enc).length).set r ((rd.take 91).2.under ins.1.1).enc).box o=some (gd τ (ins.2.map Word.enc) (ins.1.2.map Nd.enc)):=by
      rw[ae.dc _ _ ir];exact ae.cX _ _ _
    simp only[gd] at hb vp ⊢;simp only[am,hb,Nat.reduceAdd];refine aG rfl (arD (vp _ _ _) (by rw[ae.dc _ _ ir];exact ho)) ⟨?_,by simp[ab.row,h1,dx]⟩;simp[ab.row,h1,dx,V.erase,a9,Nd.enc,yk]
end Go.Proofs.Tryz
namespace Go.Proofs.Tryz
open Go.Am
def N6:AC:=.seq (.aa [⟨(some 6),.mv (.c (.sl .full 2 [])),none⟩,⟨(some 7),.alloc [(.int .i64 0),(.int .i64 0)],none⟩])
 (.seq (.aa [xm 11 0,xm 12 1,xm 13 2,⟨(some 14),.build [(.sl .full 5 []),(.int .i64 0),(.int .i64 0),(.int .i64 0),(.int .i64 0)] [(0,1,(.s 11)),(1,1,(.s 12)),(2,1,(.s 13))],none⟩,⟨(some 15),.ff 5 (.s 14),none⟩,xm 8 15])
 (.seq (.aa [xm 17 8,xc 155 18 [.s 17,.c (.bool false)],xm 16 18,xe 19 16 0,xe 20 16 1,xm 9 19,xm 10 20])
 (.seq (.seq (.aa [xm 21 8,xc 156 22 [.s 21],⟨(some 23),.not (.s 22),none⟩])
 (.cond (.s 23) (.seq (.draw [(xm 24 8,[]),(xk 25 24,[]),(xf 3 26 25,[]),(xl 2 27 26,[]),(⟨(some 6),.mv (.c (.sl .full 2 [])),none⟩,[]),(xs 2 7 27,[])])
 (.ret))
 (.skip)))
 (.seq (.aa [xm 28 9,⟨(some 29),.build [(.int .i64 0),(.int .i64 0)] [],none⟩,xm 6 28,xs 2 7 29])
 (.ret)))))
theorem afj:aK prog 104 N6 [.tmp 6,.cell 7 true 2] 30:=⟨f104,⟨[15],[],[]⟩,func104,by kernel_rfl,by kernel_rfl,by kernel_rfl,by kernel_rfl⟩
def N9:AC:=.seq (.aa [⟨(some 6),.alloc [(.int .i64 0),(.int .i64 0),(.str []),(.sl .full 2 []),(.sl .full 5 [])],none⟩,xi 7 0,⟨(some 8),.alloc [(.int .i64 0),(.int .i64 0)],none⟩])
 (.seq (.aa [xm 9 0,xm 10 1,xm 11 2,xc 157 12 [.s 9,.s 10,.s 11,.c (.fn (.func 158) [] [])],xe 13 12 0,xe 14 12 1,xe 15 12 2,xs 5 6 13,xm 7 14,xs 2 8 15])
 (.ret))
theorem afm:aK prog 107 N9 [.cell 6 true 5,.tmp 7,.cell 8 true 2] 16:=⟨f107,⟨[],[],[]⟩,func107,by kernel_rfl,by kernel_rfl,by kernel_rfl,by kernel_rfl⟩
def N_:AC:=.seq (.aa [⟨(some 6),.alloc [(.int .i64 0),(.int .i64 0),(.str []),(.sl .full 2 []),(.sl .full 5 [])],none⟩,xi 7 0,⟨(some 8),.alloc [(.int .i64 0),(.int .i64 0)],none⟩])
 (.seq (.aa [xm 9 0,xm 10 1,xm 11 2,xc 157 12 [.s 9,.s 10,.s 11,.c (.fn (.func 159) [] [])],xe 13 12 0,xe 14 12 1,xe 15 12 2,xs 5 6 13,xm 7 14,xs 2 8 15])
 (.ret))
theorem afn:aK prog 108 N_ [.cell 6 true 5,.tmp 7,.cell 8 true 2] 16:=⟨f108,⟨[],[],[]⟩,func108,by kernel_rfl,by kernel_rfl,by kernel_rfl,by kernel_rfl⟩
def OG:AC:=.seq (.aa [⟨(some 8),.alloc [(.int .i64 0),(.int .i64 0),(.str []),(.sl .full 2 []),(.sl .full 5 [])],none⟩,xi 9 0,⟨(some 10),.alloc [(.int .i64 0),(.int .i64 0)],none⟩])
 (.seq (.aa [xm 13 0,xm 14 1,xm 15 2,⟨(some 16),.build [(.sl .full 5 []),(.int .i64 0),(.int .i64 0),(.int .i64 0),(.int .i64 0)] [(0,1,(.s 13)),(1,1,(.s 14)),(2,1,(.s 15))],none⟩,⟨(some 17),.ff 5 (.s 16),none⟩,xm 11 17])
 (.seq (.aa [xm 18 3,xm 19 11,⟨(some 20),.gC (.s 18) [(.s 19)],none⟩,⟨(some 12),.alloc [(.int .i64 0),(.int .i64 0),(.str []),(.sl .full 2 []),(.sl .full 5 [])],none⟩,xs 5 12 20])
 (.seq (.seq (.aa [xm 21 11,xc 156 22 [.s 21],⟨(some 23),.not (.s 22),none⟩])
 (.cond (.s 23) (.seq (.draw [(⟨(some 24),.build [(.int .i64 0),(.int .i64 0),(.str []),(.sl .full 2 []),(.sl .full 5 [])] [],none⟩,[]),(xm 25 11,[]),(xk 26 25,[]),(xf 3 27 26,[]),(xl 2 28 27,[1]),(xs 5 8 24,[]),(xi 9 0,[]),(xs 2 10 28,[])])
 (.ret))
 (.skip)))
 (.seq (.draw [(xl 5 29 12,[]),(xm 30 11,[]),(xk 31 30,[]),(xf 1 32 31,[]),(xo 33 32,[1]),(⟨(some 34),.build [(.int .i64 0),(.int .i64 0)] [],none⟩,[]),(xs 5 8 29,[]),(xm 9 33,[]),(xs 2 10 34,[])])
 (.ret)))))
theorem afP:aK prog 157 OG [.cell 8 true 5,.tmp 9,.cell 10 true 2] 35:=⟨f157,⟨[17],[],[]⟩,func157,by kernel_rfl,by kernel_rfl,by kernel_rfl,by kernel_rfl⟩
set_option maxRecDepth 4000
set_option maxHeartbeats 4000000
def iT (b:Option Int):V:=.agg [.int .i64 (cz b),.int .i64 (eN b)]
theorem Y9 {g:FuncId} {one:ab→Nd × ab} {l:List Tree} {at_ fin:Int} {σ:ae}
    (ey:∀q (σ:ae),σ.box q=some (⟨l,at_,fin,none⟩:ab).enc→al prog g [.ptr (.out q) 0] σ fun v σ' => v = .agg (one ⟨l,at_,fin,none⟩).1.enc∧σ' = σ.set q (one ⟨l,at_,fin,none⟩).2.enc) :
    al prog 157 [.sl .no 5 (cK l),.int .i64 at_,.int .i64 fin,.fn (.func g) [] []] σ fun v σ' => v = .aX [.agg (eh one l at_ fin).1.enc,.int .i64 (eh one l at_ fin).2.1,iT (eh one l at_ fin).2.2]∧σ' = σ:=by
  refine afP.calls ?_;simp only[aJ,OG,aR,am];refine iw fun q hq=>?_
  rw[show [V.sl .no 5 (cK l),.int .i64 at_,.int .i64 fin,.int .i64 0,.int .i64 0]=(⟨l,at_,fin,none⟩:ab).enc from rfl];simp only[am];refine(ey q _ (ae.cX _ _ _)).mono ?_;rintro v σ' ⟨rfl,rfl⟩;have hb:=ae.cX σ q (one ⟨l,at_,fin,none⟩).2.enc;have gJ:eh one l at_ fin=match (one ⟨l,at_,fin,none⟩).2.bad with | some b=>(.zero,0,some b) | none=>((one ⟨l,at_,fin,none⟩).1,(one ⟨l,at_,fin,none⟩).2.at_,none):=rfl
  generalize one ⟨l,at_,fin,none⟩=o at hb gJ ⊢;simp only[am,Nd.len,Nd.one,Nd.CW];refine(uh (ae.cX _ _ _)).mono ?_;rintro v σ' ⟨rfl,rfl⟩;cases h:o.2.bad with
  | some b =>
    simp only[am,ab.ok,h,Option.isNone,ab.ex,Nat.reduceAdd];rw[h] at gJ;refine aG rfl (fU hq) ⟨?_,rfl⟩;simp[gJ,V.erase,a9,Nd.zero,Nd.enc,px,iT]
  | none =>
    simp only[am,ab.ok,h,Option.isNone,ab.ex,Nat.reduceAdd,Nd.len,Nd.one,Nd.CW,Nd.tk];rw[h] at gJ;refine aG (by simp only[am,Nd.cc]) (fU hq) ⟨?_,rfl⟩;simp[gJ,V.erase,a9,iT,Nd.er,cz,eN]
theorem Zh {n:Nat} {l:List Tree} {at_ fin:Int} {σ:ae} (hn:aP l≤n) (hm:aP l+1≤aF) :
    al prog 107 [.sl .no 5 (cK l),.int .i64 at_,.int .i64 fin] σ fun v σ' => v = .aX [.agg (eh (ab.label n) l at_ fin).1.enc,.int .i64 (eh (ab.label n) l at_ fin).2.1,iT (eh (ab.label n) l at_ fin).2.2]∧σ' = σ:=by
  refine afm.calls ?_;simp only[aJ,N9,aR,am];refine(Y9 (one:=ab.label n) (fun q σ h=>akJ n h hn hm)).mono ?_;rintro v σ ⟨rfl,rfl⟩;generalize eh (ab.label n) l at_ fin=o;simp only[am,iT,Nd.len,Nd.CW,Nd.tk,Nd.one];refine aG (by simp only[am,Nd.cc]) (ae.aW _) ⟨?_,rfl⟩;simp[V.erase,a9,Nd.er]
theorem Zx {n:Nat} {l:List Tree} {at_ fin:Int} {σ:ae} (hn:aP l≤n) (hm:aP l+1≤aF) :
    al prog 108 [.sl .no 5 (cK l),.int .i64 at_,.int .i64 fin] σ fun v σ' => v = .aX [.agg (eh (ab.row n) l at_ fin).1.enc,.int .i64 (eh (ab.row n) l at_ fin).2.1,iT (eh (ab.row n) l at_ fin).2.2]∧σ' = σ:=by
  refine afn.calls ?_;simp only[aJ,N_,aR,am];refine(Y9 (one:=ab.row n) (fun q σ h=>atD (n:=n) h hn hm)).mono ?_;rintro v σ ⟨rfl,rfl⟩;generalize eh (ab.row n) l at_ fin=o;simp only[am,iT,Nd.len,Nd.CW,Nd.tk,Nd.one];refine aG (by simp only[am,Nd.cc]) (ae.aW _) ⟨?_,rfl⟩;simp[V.erase,a9,Nd.er]
theorem ZA {l:List Tree} {at_ fin:Int} {σ:ae} (hm:aP l+1≤aF) :
    al prog 104 [.sl .no 5 (cK l),.int .i64 at_,.int .i64 fin] σ fun v σ' => v = .aX [.sl .no 2 ((ib l at_ fin).1.map Word.enc),iT (ib l at_ fin).2]∧σ' = σ:=by
  have hlen:=kB l;refine afj.calls ?_;simp only[aJ,N6,aR,am];refine iw fun q hq=>?_
  rw[show [V.sl .no 5 (cK l),.int .i64 at_,.int .i64 fin,.int .i64 0,.int .i64 0]=(⟨l,at_,fin,none⟩:ab).enc from rfl];simp only[am];refine(M6 (ae.cX _ _ _) (by simp only;omega) (x9 hm rfl)).mono ?_;rintro v σ' ⟨rfl,rfl⟩;have hb:=ae.cX σ q ((⟨l,at_,fin,none⟩:ab).words false).2.enc;have gJ:ib l at_ fin=match ((⟨l,at_,fin,none⟩:ab).words false).2.bad with | some b=>([],some b) | none=>(((⟨l,at_,fin,none⟩:ab).words false).1.1,none):=rfl
  generalize (⟨l,at_,fin,none⟩:ab).words false=o at hb gJ ⊢;simp only[am];refine(uh (ae.cX _ _ _)).mono ?_;rintro v σ' ⟨rfl,rfl⟩;cases h:o.2.bad with
  | some b =>
    simp only[am,ab.ok,h,Option.isNone,ab.ex,Nat.reduceAdd];rw[h] at gJ;refine aG rfl (fU hq) ⟨?_,rfl⟩;simp[gJ,V.erase,a9,iT]
  | none =>
    simp only[am,ab.ok,h,Option.isNone];rw[h] at gJ;refine aG rfl (fU hq) ⟨?_,rfl⟩;simp[gJ,V.erase,a9,iT,cz,eN]
end Go.Proofs.Tryz
namespace Go.Proofs.Tryz
open Go.Am
set_option maxRecDepth 4000
set_option maxHeartbeats 4000000
def Q1:AC:=.seq (.aa [⟨(some 2),.mv (.c (.bool false)),none⟩])
 (.seq (.seq (.aa [xm 4 0,⟨(some 5),.iG .eql (.s 4) (.c (.str [])),none⟩,xm 6 5,xh 6 (xm 7 0),xh 6 (xT 8 7),xh 6 (xB .gtr 9 8 16),⟨(some 10),.pick (.s 6) (.c (.bool true)) (.s 9),none⟩,xm 11 10,xh 11 (xm 12 0),⟨(some 13),.qP (.s 12) (.c (.int .i64 0)),(some (11,false))⟩,xh 11 (xc 153 14 [.s 13]),⟨(some 15),.not (.s 14),(some (11,false))⟩,⟨(some 16),.pick (.s 11) (.c (.bool true)) (.s 15),none⟩])
 (.cond (.s 16) (.seq (.aa [⟨(some 2),.mv (.c (.bool false)),none⟩])
 (.ret))
 (.skip)))
 (.seq (.seq (.aa [xm 17 0,xT 18 17,xi 19 0])
 (.block 0 (.loop (.seq (.aa [xb .lss 20 19 18])
 (.seq (.cond (.s 20) (.skip)
 (.exit 0))
 (.seq (.block 1 (.seq (.aa [xm 21 19,xm 3 21])
 (.seq (.aa [xm 22 0,xm 23 3,xS 24 22 23,xc 154 25 [.s 24],⟨(some 26),.not (.s 25),none⟩])
 (.cond (.s 26) (.seq (.aa [⟨(some 2),.mv (.c (.bool false)),none⟩])
 (.ret))
 (.skip)))))
 (.aa [xB .add 27 19 1,xm 19 27])))))))
 (.seq (.aa [⟨(some 2),.mv (.c (.bool true)),none⟩])
 (.ret))))
theorem ahZ:aK prog 99 Q1 [.tmp 2] 28:=⟨f99,⟨[],[],[]⟩,func99,by kernel_rfl,by kernel_rfl,by kernel_rfl,by kernel_rfl⟩
def OB:AC:=.seq (.aa [⟨(some 2),.mv (.c (.bool false)),none⟩])
 (.seq (.aa [xm 3 0,xu .geq 4 3 97,xm 5 4,xg 5 (xm 6 0),xg 5 (xu .leq 7 6 122),⟨(some 8),.pick (.s 5) (.s 7) (.c (.bool false)),none⟩,xm 2 8])
 (.ret))
theorem afL:aK prog 153 OB [.tmp 2] 9:=⟨f153,⟨[],[],[]⟩,func153,by kernel_rfl,by kernel_rfl,by kernel_rfl,by kernel_rfl⟩
def OC:AC:=.seq (.aa [⟨(some 2),.mv (.c (.bool false)),none⟩])
 (.seq (.aa [xm 3 0,xc 153 4 [.s 3],xm 5 4,xh 5 (xm 6 0),xh 5 (xu .geq 7 6 48),xh 5 (xm 8 7),xg 8 (xm 9 0),xg 8 (xu .leq 10 9 57),⟨(some 11),.pick (.s 8) (.s 10) (.c (.bool false)),(some (5,false))⟩,⟨(some 12),.pick (.s 5) (.c (.bool true)) (.s 11),none⟩,xm 13 12,xh 13 (xm 14 0),xh 13 (xu .eql 15 14 95),⟨(some 16),.pick (.s 13) (.c (.bool true)) (.s 15),none⟩,xm 2 16])
 (.ret))
theorem afM:aK prog 154 OC [.tmp 2] 17:=⟨f154,⟨[],[],[]⟩,func154,by kernel_rfl,by kernel_rfl,by kernel_rfl,by kernel_rfl⟩
def sZ:=And.intro @am <| And.intro @mY <| And.intro @cf <| And.intro @jn <| And.intro @bZ <| And.intro @fh <| And.intro @Tree.af <| And.intro @Nd.af <| And.intro @Word.af @bK.af
theorem Vh (c:Int) (σ:ae):al prog 153 [.int .u8 c] σ fun v σ' => v = .bool (vO c)∧σ' = σ:=by
  refine afL.calls ?_;simp only[aJ,OB,am,aR]
  repeat' (first
    | (refine jO (fun h=>?_) (fun h=>?_)<;>simp only[am,h])
    | (refine fL (fun h=>?_) (fun h=>?_)<;>simp only[sZ,h,Nat.reduceAdd,Nat.reduceEqDiff,aE])
    | (refine j1 (fun h=>?_) (fun h=>?_)<;>simp only[sZ,h,Nat.reduceAdd,Nat.reduceEqDiff,aE])
  )
  all_goals refine az ?_
  all_goals simp_all [V.erase,vO]
  all_goals (try omega)
theorem aiB (c:Int) (σ:ae):al prog 154 [.int .u8 c] σ fun v σ' => v = .bool (sb c)∧σ' = σ:=by
  refine afM.calls ?_;simp only[aJ,OC,am,aR];refine cl (Vh c σ) ?_;simp only[am]
  repeat' (first
    | (refine jO (fun h=>?_) (fun h=>?_)<;>simp only[am,h])
    | (refine fL (fun h=>?_) (fun h=>?_)<;>simp only[sZ,h,Nat.reduceAdd,Nat.reduceEqDiff,aE])
    | (refine j1 (fun h=>?_) (fun h=>?_)<;>simp only[sZ,h,Nat.reduceAdd,Nat.reduceEqDiff,aE])
  )
  all_goals refine az ?_
  all_goals simp_all [V.erase,sb]
  all_goals (try omega)
theorem Dc {s:List UInt8} {i:Nat} (h:i<s.length):s[((i:Nat):Int).toNat]?=some s[i]:=by simp[h]
def KA (s:List UInt8) (σ:ae) (i:Nat):St :=
  ⟨[.str s]++List.replicate 17 .any++[.int .i64 s.length,.int .i64 (i:Nat)]++List.replicate 8 .any,[],σ⟩
theorem Q7 {s:List UInt8} {i:Nat} {f:UInt8→Bool} (h:i<s.length):(s.take (i+1)).all f=((s.take i).all f&&f s[i]):=by
  rw[Dg (cw h),HB];simp only[rG,Nm,s4]
theorem amq {s:List UInt8} (h:s.length≤16) (h1:0<s.length):cV s=(sF s[0]&&s.all fR):=by
  cases s with
  | nil=>simp at h1
  | cons c r =>
    simp only[cV,h,bZ,mS,Zm,rG];cases hc:sF c
    · simp
    · have:fR c=true:=by simp only[sF] at hc;simp[fR,sb,hc]
      simp[this]
theorem qX (s:List UInt8) (σ:ae):al prog 99 [.str s] σ fun v σ' => v = .bool (cV s)∧σ' = σ:=by
  refine ahZ.calls ?_;simp only[aJ,Q1,am,aR]
  by_cases h0:s=[]
  · subst h0;simp only[am,bZ];refine az ?_;simp[V.erase,cV]
  · have gT:0<s.length:=by cases s with | nil=>exact absurd rfl h0 | cons _ _=>simp
    simp only[am,fh,h0]
    by_cases BN:s.length≤16
    · have e:decide ((16:Int)<s.length)=false:=by simp;omega
      simp only[am,e];refine z_ (by omega) (c:=s[0]) (by simp[gT]) ?_;simp only[am];refine cl (Vh s[0].toNat σ) ?_;have hl:cV s=(sF s[0]&&s.all fR):=amq BN gT;cases hb:vO (s[0].toNat:Nat)
      · have bz : sF s[0]=false:=hb;simp only[am];refine az ?_;simp[V.erase,hl,bz]
      · have bz : sF s[0]=true:=hb;simp only[am];refine j6 (fun p:{i:Nat // i≤s.length∧(s.take i).all fR=true}=>KA s σ p.1) (fun p=>s.length - p.1) ?_ ?_
        · refine ba.enter ⟨0,by simp,by simp⟩ ?_ cj.rfl bG.rfl;simp[KA,List.replicate,am]
        · rintro⟨i,hi,ha⟩;simp only[KA,List.replicate,am];refine fL ?_ ?_
          · intro aj;have aj:i<s.length:=by simpa using aj
            simp only[am];refine z_ (by omega) (Dc aj) ?_;simp only[am];refine cl (aiB s[i].toNat σ) ?_;cases hg:sb (s[i].toNat:Nat)
            · have pW : fR s[i]=false:=hg;simp only[am];refine aG rfl (ae.aW _) ⟨?_,rfl⟩
              have:s.all fR=false:=by
                rw[HC];exact⟨s[i],fD aj,by simp[pW]⟩
              simp[V.erase,hl,this]
            · simp only[am];rw[wrap_i64 (by omega) (by omega)];refine ba.again ⟨i+1,by omega,?_⟩ (by simp;omega) (by simp[am]) cj.rfl bG.rfl;rw[Q7 aj,ha];exact hg
          · intro aj;have aj:i=s.length:=by simp at aj;omega
            subst aj;rw[dW] at ha;simp only[am];refine az ?_;simp[V.erase,hl,bz,ha]
    · have e:decide ((16:Int)<s.length)=true:=by simp;omega
      simp only[am,e];refine az ?_;simp[V.erase,cV,BN]
def QV:AC:=.seq (.aa [xi 6 0])
 (.seq (.seq (.aa [xm 8 0,xm 7 8])
 (.block 0 (.loop (.seq (.seq (.aa [xm 9 7,xm 10 1,xb .lss 11 9 10])
 (.cond (.s 11) (.skip)
 (.exit 0)))
 (.seq (.block 1 (.seq (.aa [xm 14 2,xm 15 7,⟨(some 16),.gC (.s 14) [(.s 15)],none⟩])
 (.cond (.s 16) (.seq (.aa [xm 17 7,xm 6 17])
 (.ret))
 (.skip))))
 (.aa [xm 12 7,xB .add 13 12 1,xm 7 13]))))))
 (.seq (.aa [xi 6 (-1)])
 (.ret)))
theorem ahT:aK prog 93 QV [.tmp 6] 18:=⟨f93,⟨[],[],[]⟩,func93,by kernel_rfl,by kernel_rfl,by kernel_rfl,by kernel_rfl⟩
def Od:AC:=.seq (.aa [⟨(some 2),.ff 1 (.s 0),none⟩,⟨(some 3),.ff 1 (.s 1),none⟩,xi 4 0])
 (.seq (.aa [xo 5 2,xL 6 5,⟨(some 7),.ix (.func 160) [] [(.s 2),(.s 3)],none⟩,xc 93 8 [.c (.int .i64 0),.s 6,.s 7],xm 4 8])
 (.ret))
theorem afr:aK prog 112 Od [.tmp 4] 9:=⟨f112,⟨[2,3],[],[]⟩,func112,by kernel_rfl,by kernel_rfl,by kernel_rfl,by kernel_rfl⟩
def OK:AC:=.seq (.aa [⟨(some 4),.mv (.c (.bool false)),none⟩])
 (.seq (.draw [(xo 5 1,[]),(xm 6 0,[]),(xA 1 7 5 6,[]),(xo 8 7,[]),(xo 9 2,[]),(⟨(some 10),.iG .eql (.s 8) (.s 9),none⟩,[]),(xm 4 10,[])])
 (.ret))
theorem afT:aK prog 160 OK [.tmp 4] 11:=⟨f160,⟨[],[],[]⟩,func160,by kernel_rfl,by kernel_rfl,by kernel_rfl,by kernel_rfl⟩
def PX:AC:=.seq (.aa [⟨(some 2),.mv (.c (.bool false)),none⟩])
 (.seq (.seq (.aa [xm 5 0,xL 6 5,xB .lss 7 6 1,xm 8 7,xh 8 (xm 9 0),xh 8 (xL 10 9),xh 8 (xB .gtr 11 10 64),⟨(some 12),.pick (.s 8) (.c (.bool true)) (.s 11),none⟩,xm 13 12,xh 13 (xm 14 0),xh 13 (xc 270 15 [.s 14]),xh 13 (xB .geq 16 15 0),⟨(some 17),.pick (.s 13) (.c (.bool true)) (.s 16),none⟩])
 (.cond (.s 17) (.seq (.aa [⟨(some 2),.mv (.c (.bool false)),none⟩])
 (.ret))
 (.skip)))
 (.seq (.seq (.aa [xm 18 0,xL 19 18,xi 20 0])
 (.block 0 (.loop (.seq (.aa [xb .lss 21 20 19])
 (.seq (.cond (.s 21) (.skip)
 (.exit 0))
 (.seq (.block 1 (.seq (.aa [xA 1 22 18 20,xo 23 22,xm 4 23])
 (.seq (.aa [xm 24 4,xc 99 25 [.s 24],⟨(some 26),.not (.s 25),none⟩])
 (.cond (.s 26) (.seq (.aa [⟨(some 2),.mv (.c (.bool false)),none⟩])
 (.ret))
 (.skip)))))
 (.aa [xB .add 27 20 1,xm 20 27])))))))
 (.seq (.aa [⟨(some 2),.mv (.c (.bool true)),none⟩])
 (.ret))))
theorem ag0:aK prog 255 PX [.tmp 2] 28:=⟨f255,⟨[],[],[]⟩,func255,by kernel_rfl,by kernel_rfl,by kernel_rfl,by kernel_rfl⟩
def P7:AC:=.seq (.aa [⟨(some 1),.ff 1 (.s 0),none⟩,xi 2 0])
 (.seq (.aa [xo 3 1,xL 4 3,⟨(some 5),.ix (.func 279) [] [(.s 1)],none⟩,xc 93 6 [.c (.int .i64 0),.s 4,.s 5],xm 2 6])
 (.ret))
theorem ag_:aK prog 270 P7 [.tmp 2] 7:=⟨f270,⟨[1],[],[]⟩,func270,by kernel_rfl,by kernel_rfl,by kernel_rfl,by kernel_rfl⟩
def Qc:AC:=.seq (.aa [⟨(some 3),.mv (.c (.bool false)),none⟩])
 (.seq (.draw [(xo 4 1,[]),(xm 5 0,[]),(⟨(some 6),.lg 1 (.s 4) none (some (.s 5)) none,none⟩,[]),(xo 7 1,[]),(xm 8 0,[]),(xA 1 9 7 8,[]),(xo 10 9,[]),(xc 112 11 [.s 6,.s 10],[]),(xB .geq 12 11 0,[]),(xm 3 12,[])])
 (.ret))
theorem ahf:aK prog 279 Qc [.tmp 3] 13:=⟨f279,⟨[],[],[]⟩,func279,by kernel_rfl,by kernel_rfl,by kernel_rfl,by kernel_rfl⟩
theorem LG (n:Nat) (hn:n≤100000) (f:FuncId) (cap:List V) (hc:bm cap=true) (p:Nat→Bool) (σ:ae) (h:∀i,i<n→al prog f (.int .i64 (i:Nat)::cap) σ fun v σ' => v = .bool (p i)∧σ' = σ) :
    al prog 93 [.int .i64 0,.int .i64 (n:Nat),.fn (.func f) [] cap] σ fun v σ' => v = .int .i64 (cF ((List.range n).find? p))∧σ' = σ:=by
  refine ahT.calls ?_;simp only[aJ,QV,am,aR,Nat.reduceAdd];obtain⟨F,hF⟩:∃F:Nat→Unit→St,∀i x,F i x=⟨[.any,.int .i64 (n:Nat),.fn (.func f) [] cap,.any,.any,.any,.any,.int .i64 (i:Nat)]++List.replicate 10 .any,[],σ⟩:=⟨_,fun _ _=>rfl⟩;obtain⟨JF,aQ⟩:∃JF:Nat→Unit→Prop,∀i x,JF i x=(∀k,k<i→p k=false):=⟨_,fun _ _=>rfl⟩;refine dC (n) F JF _ aQ ?_ ?_ ?_
  · refine en (()) ?_ ?_ ?_ ?_
    · exact Eq.mpr (aQ _ _) (by intro k h;omega)
    all_goals simp[hF,List.replicate,am,bu]
  · rintro i x hi hJ;simp only[hF,List.replicate,am,dB hi,hc];refine(h i hi).mono ?_;rintro v σ' ⟨rfl,rfl⟩;cases hb:p i with
    | false =>
      simp only[am,aO,cu hi (by omega)];refine nxt (()) hi ?_ ?_ ?_ ?_
      · exact Eq.mpr (aQ _ _) (y8 hJ hb)
      all_goals simp[hF,List.replicate,am,bu]
    | true =>
      have e:=ae4 hi hJ hb;simp only[am,aO];refine az ?_;simp[V.erase,e,cF]
  · rintro x hJ;have e:=ae7 hJ;simp only[hF,List.replicate,am,aO,dG,aO];refine az ?_;simp[V.erase,e,cF]
theorem ae1 (l:List (List UInt8)) (s:List UInt8) (i b1 b2:Nat) {σ:ae} (hi:i<l.length) (h1:σ.box b1=some [.sl .no 1 (di l)]) (U:σ.box b2=some [.str s]) :
    al prog 160 [.int .i64 (i:Nat),.ptr (.out b1) 0,.ptr (.out b2) 0] σ fun v σ' => v = .bool (decide (l.getD i []=s))∧σ' = σ:=by
  refine afT.calls ?_;simp only[aJ,OK,am,aR,Nat.reduceAdd];simp only[am,h1];refine bD (by omega) (GX hi) ?_;simp only[am,U];refine az ?_;simp[V.erase]
theorem tE (l:List (List UInt8)) (s:List UInt8) (σ:ae) (hl:l.length≤100000):al prog 112 [.sl .no 1 (di l),.str s] σ fun v σ' => v = .int .i64 (cF (gn l s))∧σ' = σ:=by
  refine afr.calls ?_;simp only[aJ,Od,am,aR,Nat.reduceAdd];refine iw fun b1 fG=>?_
  simp only[am];refine iw fun b2 dg=>?_
  have aI:b1≠b2:=by rintro rfl;rw[iM] at dg;simp at dg
  have hs:=ae.yE (fU (cs:=[.sl .no 1 (di l)]) fG) (fU (cs:=[.str s]) dg);have e1:((σ.set b1 [.sl .no 1 (di l)]).set b2 [.str s]).box b1=some [.sl .no 1 (di l)]:=by rw[rm aI,iM]
  generalize sA:(σ.set b1 [V.sl .no 1 (di l)]).set b2 [V.str s]=dq at hs e1;have e2:dq.box b2=some [.str s]:=by rw[←sA,iM]
  simp only[am,kG,e1];refine(LG l.length hl _ _ rfl (fun i=>decide (l.getD i []=s)) dq fun i hi=>ae1 l s i b1 b2 hi e1 e2).mono ?_;rintro v dq ⟨rfl,rfl⟩;simp only[am];exact aG rfl hs ⟨rfl,rfl⟩
theorem ar' (l:List (List UInt8)) (i b1:Nat) {σ:ae} (hl:l.length≤100000) (hi:i<l.length) (h1:σ.box b1=some [.sl .no 1 (di l)]) :
    al prog 279 [.int .i64 (i:Nat),.ptr (.out b1) 0] σ fun v σ' => v = .bool (gn (l.take i) (l.getD i [])).isSome∧σ' = σ:=by
  refine ahf.calls ?_;simp only[aJ,Qc,am,aR,Nat.reduceAdd];simp only[am,cf,h1];refine Yd (b:=i) (by rw[kG];omega) ?_;simp only[am,h1];refine bD (by omega) (GX hi) ?_;rw[XB];simp only[am];refine br.intro (tE (l.take i) (l.getD i []) σ (by rw[gZ];omega)) ?_;simp only[am,Lp];refine az ?_;simp[V.erase]
theorem asa (l:List (List UInt8)) (σ:ae) (hl:l.length≤100000):al prog 270 [.sl .no 1 (di l)] σ fun v σ' => v = .int .i64 (cF (MG l))∧σ' = σ:=by
  refine ag_.calls ?_;simp only[aJ,P7,am,aR];refine iw fun b1 fG=>?_
  simp only[am,kG];refine(LG l.length hl _ _ rfl (fun i=>(gn (l.take i) (l.getD i [])).isSome) _ fun i hi=>ar' l i b1 hl hi iM).mono ?_;rintro v dq ⟨rfl,rfl⟩;simp only[am];exact aG rfl (fU fG) ⟨rfl,rfl⟩
theorem amt (l:List (List UInt8)) (σ:ae) (hl:l.length≤100000):al prog 255 [.sl .no 1 (di l)] σ fun v σ' => v = .bool (qW l)∧σ' = σ:=by
  refine ag0.calls ?_;simp only[aJ,PX,am,aR,kG]
  by_cases h1:l.length<1
  · simp only[am,aD (show (l.length:Int)<1 by omega)];refine az ?_;simp[V.erase,qW];omega
  · simp only[am,kG,aB (show ¬(l.length:Int)<1 by omega)]
    by_cases U:64<l.length
    · simp only[am,aD (show (64:Int)<l.length by omega)];refine az ?_;simp[V.erase,qW];omega
    · simp only[am,aB (show ¬(64:Int)<l.length by omega)];refine cl (asa l σ hl) ?_;simp only[am,Lp];cases ht:MG l with
      | some k =>
        simp only[am,DX];refine az ?_;simp[V.erase,qW,ht]
      | none =>
        simp only[am,kG,Be];obtain⟨F,hF⟩:∃F:Nat→Unit→St,∀i x,F i x=⟨[.any,.any,.any,.any,.any,.any,.any,.any,.any,.any,.any,.any,.any,.any,.any,.any,.any,.any,.sl .no 1 (di l),.int .i64 (l.length:Nat),.int .i64 (i:Nat)]++List.replicate 7 .any,[],σ⟩:=⟨_,fun _ _=>rfl⟩;obtain⟨JF,aQ⟩:∃JF:Nat→Unit→Prop,∀i x,JF i x=(∀k,k<i→cV (l.getD k [])=true):=⟨_,fun _ _=>rfl⟩;refine dC (l.length) F JF _ aQ ?_ ?_ ?_
        · refine en (()) ?_ ?_ ?_ ?_
          · exact Eq.mpr (aQ _ _) (by intro k h;omega)
          all_goals simp[hF,List.replicate,am,bu]
        · rintro i x hi hJ;simp only[hF,List.replicate,am,dB hi];refine bD (by omega) (GX hi) ?_;simp only[am];refine cl (qX _ σ) ?_;simp only[am];cases hb:cV (l.getD i []) with
          | false =>
            have e:qW l=false:=by
              cases hq:qW l with
              | false=>rfl
              | true =>
                simp only[qW,a_,jl] at hq;have hm:l.getD i []∈l:=by rw[oX hi];exact fD hi
                rw[hq.2 _ hm] at hb;simp at hb
            simp only[am,aO];refine az ?_;simp[V.erase,e]
          | true =>
            simp only[am,aO,cu hi (by omega)];refine nxt (()) hi ?_ ?_ ?_ ?_
            · exact Eq.mpr (aQ _ _) (y8 hJ hb)
            all_goals simp[hF,List.replicate,am,bu]
        · rintro x hJ;have e:qW l=true:=by
            simp only[qW,ht,a_,jl,bH,yZ,fO];refine⟨by omega,fun s hs=>?_⟩;obtain⟨k,hk,rfl⟩:=HN.1 hs
            have:=hJ k hk
            rwa [oX hk] at this
          simp only[hF,List.replicate,am,aO,dG,aO];refine az ?_;simp[V.erase,e]
def O4:AC:=.seq (.aa [⟨(some 1),.box 2 (.s 0),none⟩,⟨(some 2),.mv (.c (.bool false)),none⟩])
 (.seq (.aa [xf 1 6 1,xo 7 6,xL 8 7,xm 3 8])
 (.seq (.seq (.aa [xm 9 3,xB .lss 10 9 1,xm 11 10,xh 11 (xm 12 3),xh 11 (xB .gtr 13 12 8),⟨(some 14),.pick (.s 11) (.c (.bool true)) (.s 13),none⟩,xm 15 14,xh 15 (xf 0 16 1),xh 15 (xo 17 16),⟨(some 18),.not (.s 17),(some (15,false))⟩,xh 15 (xm 19 18),xg 19 (xm 20 3),xg 19 (xB .neq 21 20 1),⟨(some 22),.pick (.s 19) (.s 21) (.c (.bool false)),(some (15,false))⟩,⟨(some 23),.pick (.s 15) (.c (.bool true)) (.s 22),none⟩])
 (.cond (.s 23) (.seq (.aa [⟨(some 2),.mv (.c (.bool false)),none⟩])
 (.ret))
 (.skip)))
 (.seq (.seq (.aa [xf 1 24 1,xo 25 24,xL 26 25,xi 27 0])
 (.block 0 (.loop (.seq (.aa [xb .lss 28 27 26])
 (.seq (.cond (.s 28) (.skip)
 (.exit 0))
 (.seq (.block 1 (.seq (.aa [xA 67 29 25 27,xl 67 30 29,⟨(some 5),.alloc tC,none⟩,xs 67 5 30])
 (.seq (.aa [xl 67 31 5,xc 228 32 [.s 31],⟨(some 33),.not (.s 32),none⟩])
 (.cond (.s 33) (.seq (.aa [⟨(some 2),.mv (.c (.bool false)),none⟩])
 (.ret))
 (.skip)))))
 (.aa [xB .add 34 27 1,xm 27 34])))))))
 (.seq (.aa [⟨(some 2),.mv (.c (.bool true)),none⟩])
 (.ret)))))
theorem af_:aK prog 176 O4 [.tmp 2] 35:=⟨f176,⟨[],[],[]⟩,func176,by kernel_rfl,by kernel_rfl,by kernel_rfl,by kernel_rfl⟩
def PE:AC:=.seq (.aa [⟨(some 1),.box 67 (.s 0),none⟩,⟨(some 2),.mv (.c (.bool false)),none⟩])
 (.seq (.seq (.aa [xf 1 3 1,xo 4 3,xc 255 5 [.s 4],⟨(some 6),.not (.s 5),none⟩])
 (.cond (.s 6) (.seq (.aa [⟨(some 2),.mv (.c (.bool false)),none⟩])
 (.ret))
 (.skip)))
 (.seq (.seq (.aa [xf 0 7 1,xo 8 7])
 (.block 0 (.seq (.seq (.aa [xB .eql 10 8 1,xm 9 10])
 (.cond (.s 9) (.skip)
 (.aa [xB .eql 11 8 2,xm 9 11])))
 (.cond (.s 9) (.seq (.aa [xf 2 12 1,xl 65 13 12,⟨(some 14),.build oo [],none⟩,xc 256 15 [.s 13,.s 14],xm 2 15])
 (.ret))
 (.seq (.aa [xB .eql 17 8 3,xm 16 17])
 (.cond (.s 16) (.seq (.aa [xf 2 18 1,xf 0 19 18,xo 20 19,xf 1 21 1,xo 22 21,xL 23 22,xb .eql 24 20 23,xm 25 24,xg 25 (xf 2 26 1),xg 25 (xl 65 27 26),xg 25 (xc 257 28 [.s 27]),⟨(some 29),.pick (.s 25) (.s 28) (.c (.bool false)),none⟩,xm 2 29])
 (.ret))
 (.seq (.aa [xB .eql 31 8 4,xm 30 31])
 (.cond (.s 30) (.seq (.aa [xf 2 32 1,xf 0 33 32,xo 34 33,xf 1 35 1,xo 36 35,xL 37 36,xb .eql 38 34 37,xm 39 38,xg 39 (xf 2 40 1),xg 39 (xl 65 41 40),xg 39 (xc 114 42 [.s 41]),⟨(some 43),.pick (.s 39) (.s 42) (.c (.bool false)),none⟩,xm 2 43])
 (.ret))
 (.skip)))))))))
 (.seq (.aa [⟨(some 2),.mv (.c (.bool false)),none⟩])
 (.ret))))
theorem agI:aK prog 228 PE [.tmp 2] 44:=⟨f228,⟨[],[],[]⟩,func228,by kernel_rfl,by kernel_rfl,by kernel_rfl,by kernel_rfl⟩
def atK:=And.intro @am <| And.intro @aR <| And.intro @Rl.af @aZ.af
theorem aeG (f:aZ) {σ:ae} (hg:TZ σ) (hl:f.names.length≤100000):al prog 228 [.agg f.enc] σ fun v σ' => v = .bool (n5 f)∧σ' = σ:=by
  refine agI.calls ?_;simp only[aJ,PE,atK];refine cl (amt f.names σ hl) ?_;cases hn:qW f.names with
  | false =>
    simp only[am];refine az ?_;simp[V.erase,n5,hn]
  | true =>
    simp only[am,aZ.af]
    by_cases h1:f.kind=1
    · simp only[am,Rl.af,aZ.af,aD h1];refine cl (XO f.rel Rl.zero σ) ?_;simp only[am,WE];refine az ?_;simp[V.erase,n5,hn,h1]
    · simp only[am,aB h1]
      by_cases U:f.kind=2
      · simp only[am,Rl.af,aZ.af,aD U];refine cl (XO f.rel Rl.zero σ) ?_;simp only[am,WE];refine az ?_;simp[V.erase,n5,hn,U]
      · simp only[am,aB U]
        by_cases h3:f.kind=3
        · simp only[am,aZ.af,kG,aD h3]
          by_cases h4:f.rel.n=f.names.length
          · simp only[am,Rl.af,aZ.af,aD h4];refine cl (I5 f.rel σ) ?_;simp only[am];refine az ?_;simp[V.erase,n5,hn,h3,h4]
          · simp only[am,aB h4];refine az ?_;simp[V.erase,n5,hn,h3,h4]
        · simp only[am,aB h3]
          by_cases h5:f.kind=4
          · simp only[am,aZ.af,kG,aD h5]
            by_cases h4:f.rel.n=f.names.length
            · simp only[am,Rl.af,aZ.af,aD h4];refine cl (U9 f.rel hg) ?_;simp only[am];refine az ?_;simp[V.erase,n5,hn,h5,h4]
            · simp only[am,aB h4];refine az ?_;simp[V.erase,n5,hn,h5,h4]
          · simp only[am,aB h5];refine az ?_;simp[V.erase,n5,hn,h1,U,h3,h5]
theorem II {l:List aZ} {j:Nat} (h:j<l.length):(l.map aZ.enc)[((j:Nat):Int).toNat]?=some l[j].enc:=by simp[h]
theorem aq6 {s:bg} {i:Nat} (hi:i<s.bd.length) (h:n5 s.bd[i]=false):lL s=false:=by
  cases hq:lL s with
  | false=>rfl
  | true =>
    simp only[lL,a_,jl] at hq;rw[hq.2 _ (fD hi)] at h;simp at h
theorem aq7 {s:bg} (h1:1≤s.bd.length) (U:s.bd.length≤8) (h3:s.tuple=true∨s.bd.length=1) (h:∀k (hk:k<s.bd.length),n5 s.bd[k]=true):lL s=true:=by
  simp only[lL,a_,jl,bH,kK];refine⟨⟨⟨h1,U⟩,h3⟩,fun f hf=>?_⟩;obtain⟨k,hk,rfl⟩:=HN.1 hf;exact h k hk
theorem aq_ (s:bg) {σ:ae} (hg:TZ σ) (bM:s.ok):al prog 176 [.agg s.enc] σ fun v σ' => v = .bool (lL s)∧σ' = σ:=by
  refine af_.calls ?_;simp only[aJ,O4,am,aR,bg.af,aE]
  by_cases h1:s.bd.length<1
  · simp only[am,aD (show (s.bd.length:Int)<1 by omega)];refine az ?_;simp[V.erase,lL];omega
  · simp only[am,aB (show ¬(s.bd.length:Int)<1 by omega)]
    by_cases U:8<s.bd.length
    · simp only[am,aD (show (8:Int)<s.bd.length by omega)];refine az ?_;simp[V.erase,lL];omega
    · simp only[am,bg.af,aB (show ¬(8:Int)<s.bd.length by omega)];have h3:(∃t,s.tuple=t∧(t=true∨s.bd.length=1))∨(s.tuple=false∧s.bd.length≠1):=by
        cases ht:s.tuple with
        | true=>exact .inl ⟨true,rfl,.inl rfl⟩
        | false =>
          by_cases hl:s.bd.length=1
          · exact .inl ⟨false,rfl,.inr hl⟩
          · exact .inr ⟨rfl,hl⟩
      rcases h3 with ⟨t,ht,h3⟩ | ⟨ht,h3⟩
      · cases t
        case' false =>
          have h3:s.bd.length=1:=by simpa using h3
          simp only[am,aE,bg.af,aE,ht,aD (show (s.bd.length:Int)=1 by omega)]
        case' true=>simp only[am,aE,bg.af,aE,ht]
        all_goals
          obtain⟨F,hF⟩:∃F:Nat→Unit→St,∀i x,F i x=⟨[.any,.ptr (.loc 0) 0,.bool false,.any,.any,.any,.any,.any,.any,.any,.any,.any,.any,.any,.any,.any,.any,.any,.any,.any,.any,.any,.any,.any,.any,.sl .no 67 (s.bd.map aZ.enc),.int .i64 (s.bd.length:Nat),.int .i64 (i:Nat)]++List.replicate 7 .any,[s.enc],σ⟩:=⟨_,fun _ _=>rfl⟩;obtain⟨JF,aQ⟩:∃JF:Nat→Unit→Prop,∀i x,JF i x=(∀k,k<i→∀hk:k<s.bd.length,n5 s.bd[k]=true):=⟨_,fun _ _=>rfl⟩;refine dC (s.bd.length) F JF _ aQ ?_ ?_ ?_
          · refine en (()) ?_ ?_ ?_ ?_
            · exact Eq.mpr (aQ _ _) (by intro k h;omega)
            all_goals simp[hF,List.replicate,am,bu]
          · rintro i x hi hJ;simp only[hF,List.replicate,am,dB hi];refine bD (by omega) (II hi) ?_;simp only[am,aZ.af];refine cl (aeG s.bd[i] hg (bM.2 _ (fD hi))) ?_;cases hb:n5 s.bd[i] with
            | false =>
              simp only[am,aO];refine az ?_;simp[V.erase,aq6 hi hb]
            | true =>
              simp only[am,aO,cu hi (by omega)];refine fm (()) hi ?_ ?_ ?_ ?_ ?_ ?_
              · exact Eq.mpr (aQ _ _) (y8 hJ (fun _=>hb))
              all_goals simp[hF,List.replicate,am,bu,bx,c8,V.lo,bg.bY]
          · rintro x hJ;have e:=aq7 (s:=s) (by omega) (by omega) (by first | exact .inr h3 | exact .inl ht) fun k hk=>hJ k hk hk
            simp only[hF,List.replicate,am,aO,dG,aO];refine az ?_;simp[V.erase,e]
      · have e:lL s=false:=by simp[lL,ht,h3]
        simp only[am,ht,aB (show ¬(s.bd.length:Int)=1 by omega)];refine az ?_;simp[V.erase,e]
theorem Xp {s:List UInt8} {a n:Nat} (h:((s.drop a).take n).all fR=true) (hn:a+n≤s.length) (he:∀hl:a+n<s.length,fR s[a+n]=false):(ei (s.drop a)).length=n:=by
  have key:∀(r:List UInt8) (n:Nat),(r.take n).all fR=true→n≤r.length→(∀hl:n<r.length,fR r[n]=false)→(ei r).length=n:=by
    intro r;induction r with
    | nil=>intro n _ U _;simp at U;subst U;rfl
    | cons c r ih =>
      intro n h1 U h3;cases n with
      | zero=>have:=h3 (by simp);simp at this;simp[ei,this]
      | succ n =>
        simp only[oE,rG,a_] at h1
        have:=ih n h1.2 (by simpa using U) (fun hl=>h3 (Nat.succ_lt_succ hl))
        simp only[ei] at this;simp[ei,h1.1,this]
  refine key _ _ h (by simp;omega) fun hl=>?_
  have fH : a+n<s.length:=by simp at hl;omega
  have:=he fH
  simpa using this
theorem Tok.wd {t:Tok}:t.enc.length=3:=rfl
theorem drop_cons {s:List UInt8} {a:Nat} (h:a<s.length):s.drop a=s[a]::s.drop (a+1):=kN h
theorem arP {l:List Tok} {j:Nat} (h:j<l.length):(l.map Tok.enc)[((j:Nat):Int).toNat]?=some (ia l j).enc:=by simp[ia,h]
def Qn:AC:=.seq (.aa [⟨(some 1),.box 5 (.s 0),none⟩,⟨(some 2),.mv (.c (.str [])),none⟩])
 (.seq (.seq (.aa [xf 0 3 1,xo 4 3])
 (.block 0 (.seq (.seq (.aa [xB .eql 6 4 1,xm 5 6])
 (.cond (.s 5) (.skip)
 (.aa [xB .eql 7 4 2,xm 5 7])))
 (.cond (.s 5) (.seq (.aa [xf 2 8 1,xo 9 8,xm 2 9])
 (.ret))
 (.seq (.aa [xB .eql 11 4 3,xm 10 11])
 (.cond (.s 10) (.seq (.aa [xl 5 12 1,xc 89 13 [.s 12],⟨(some 14),.cat (.c (.str [123])) (.s 13),none⟩,⟨(some 15),.cat (.s 14) (.c (.str [125])),none⟩,xm 2 15])
 (.ret))
 (.seq (.aa [xB .eql 17 4 4,xm 16 17])
 (.cond (.s 16) (.seq (.aa [xl 5 18 1,xc 90 19 [.s 18],⟨(some 20),.cat (.c (.str [40])) (.s 19),none⟩,⟨(some 21),.cat (.s 20) (.c (.str [41])),none⟩,xm 2 21])
 (.ret))
 (.seq (.aa [xB .eql 23 4 5,xm 22 23])
 (.cond (.s 22) (.seq (.aa [xl 5 24 1,xc 90 25 [.s 24],⟨(some 26),.cat (.c (.str [91])) (.s 25),none⟩,⟨(some 27),.cat (.s 26) (.c (.str [93])),none⟩,xm 2 27])
 (.ret))
 (.seq (.aa [xB .eql 29 4 6,xm 28 29])
 (.cond (.s 28) (.seq (.draw [(xf 2 30 1,[]),(xo 31 30,[1]),(⟨(some 32),.cat (.s 31) (.c (.str [58,123])),none⟩,[]),(xl 5 33 1,[]),(xc 89 34 [.s 33],[]),(⟨(some 35),.cat (.s 32) (.s 34),none⟩,[]),(⟨(some 36),.cat (.s 35) (.c (.str [125])),none⟩,[]),(xm 2 36,[])])
 (.ret))
 (.seq (.aa [xB .eql 38 4 7,xm 37 38])
 (.cond (.s 37) (.seq (.aa [xl 5 39 1,xc 91 40 [.s 39],⟨(some 41),.cat (.c (.str [35])) (.s 40),none⟩,xm 2 41])
 (.ret))
 (.seq (.aa [xB .eql 43 4 8,xm 42 43])
 (.cond (.s 42) (.seq (.aa [xl 5 44 1,xc 90 45 [.s 44],⟨(some 46),.cat (.c (.str [43,40])) (.s 45),none⟩,⟨(some 47),.cat (.s 46) (.c (.str [41])),none⟩,xm 2 47])
 (.ret))
 (.seq (.aa [xB .eql 49 4 9,xm 48 49])
 (.cond (.s 48) (.seq (.aa [xl 5 50 1,xc 90 51 [.s 50],⟨(some 52),.cat (.c (.str [38,40])) (.s 51),none⟩,⟨(some 53),.cat (.s 52) (.c (.str [41])),none⟩,xm 2 53])
 (.ret))
 (.seq (.aa [xB .eql 55 4 10,xm 54 55])
 (.cond (.s 54) (.seq (.aa [xl 5 56 1,xc 92 57 [.s 56],xm 2 57])
 (.ret))
 (.seq (.aa [xB .eql 59 4 11,xm 58 59])
 (.cond (.s 58) (.seq (.draw [(xf 2 60 1,[]),(xo 61 60,[1]),(⟨(some 62),.cat (.s 61) (.c (.str [61])),none⟩,[]),(xl 5 63 1,[]),(xc 91 64 [.s 63],[]),(⟨(some 65),.cat (.s 62) (.s 64),none⟩,[]),(xm 2 65,[])])
 (.ret))
 (.skip)))))))))))))))))))))))
 (.seq (.aa [⟨(some 2),.mv (.c (.str [])),none⟩])
 (.ret)))
theorem ahp:aK prog 40 Qn [.tmp 2] 66:=⟨f40,⟨[],[],[]⟩,func40,by kernel_rfl,by kernel_rfl,by kernel_rfl,by kernel_rfl⟩
def QP:AC:=.seq (.aa [⟨(some 1),.ff 5 (.s 0),none⟩,⟨(some 2),.mv (.c (.str [])),none⟩])
 (.seq (.aa [xf 3 3 1,xo 4 3,xL 5 4,⟨(some 6),.ix (.func 151) [] [(.s 1)],none⟩,xc 150 7 [.s 5,.s 6],xm 2 7])
 (.ret))
theorem ahP:aK prog 89 QP [.tmp 2] 8:=⟨f89,⟨[1],[],[]⟩,func89,by kernel_rfl,by kernel_rfl,by kernel_rfl,by kernel_rfl⟩
def QS:AC:=.seq (.aa [⟨(some 1),.ff 5 (.s 0),none⟩,⟨(some 2),.mv (.c (.str [])),none⟩])
 (.seq (.aa [xf 4 3 1,xo 4 3,xL 5 4,⟨(some 6),.ix (.func 152) [] [(.s 1)],none⟩,xc 150 7 [.s 5,.s 6],xm 2 7])
 (.ret))
theorem ahQ:aK prog 90 QS [.tmp 2] 8:=⟨f90,⟨[1],[],[]⟩,func90,by kernel_rfl,by kernel_rfl,by kernel_rfl,by kernel_rfl⟩
def QT:AC:=.seq (.aa [⟨(some 1),.box 5 (.s 0),none⟩,⟨(some 2),.mv (.c (.str [])),none⟩])
 (.seq (.seq (.aa [xf 4 3 1,xo 4 3,xL 5 4,xB .eql 6 5 0])
 (.cond (.s 6) (.seq (.aa [⟨(some 2),.mv (.c (.str [])),none⟩])
 (.ret))
 (.skip)))
 (.seq (.aa [xf 4 7 1,xo 8 7,⟨(some 9),.kv 5 (.s 8) (.c (.int .i64 0)),none⟩,xl 5 10 9,xc 40 11 [.s 10],xm 2 11])
 (.ret)))
theorem ahR:aK prog 91 QT [.tmp 2] 12:=⟨f91,⟨[],[],[]⟩,func91,by kernel_rfl,by kernel_rfl,by kernel_rfl,by kernel_rfl⟩
def QU:AC:=.seq (.aa [⟨(some 1),.box 5 (.s 0),none⟩,⟨(some 2),.mv (.c (.str [])),none⟩])
 (.seq (.aa [xl 5 4 1,xc 90 5 [.s 4],⟨(some 6),.cat (.c (.str [91])) (.s 5),none⟩,xm 3 6])
 (.seq (.seq (.aa [xf 3 7 1,xo 8 7,xL 9 8,xB .gtr 10 9 0])
 (.cond (.s 10) (.aa [xm 11 3,xl 5 12 1,xc 89 13 [.s 12],⟨(some 14),.cat (.c (.str [124])) (.s 13),none⟩,⟨(some 15),.cat (.s 11) (.s 14),none⟩,xm 3 15])
 (.skip)))
 (.seq (.aa [xm 16 3,⟨(some 17),.cat (.s 16) (.c (.str [93])),none⟩,xm 2 17])
 (.ret))))
theorem ahS:aK prog 92 QU [.tmp 2] 18:=⟨f92,⟨[],[],[]⟩,func92,by kernel_rfl,by kernel_rfl,by kernel_rfl,by kernel_rfl⟩
def Oy:AC:=.seq (.aa [⟨(some 4),.mv (.c (.str [])),none⟩])
 (.seq (.aa [⟨(some 5),.mv (.c (.sl .full 1 [])),none⟩])
 (.seq (.seq (.aa [xm 7 0,xi 8 0])
 (.block 0 (.loop (.seq (.aa [xb .lss 9 8 7])
 (.seq (.cond (.s 9) (.skip)
 (.exit 0))
 (.seq (.block 1 (.seq (.aa [xm 10 8,xm 6 10])
 (.seq (.seq (.aa [xm 11 6,xB .gtr 12 11 0])
 (.cond (.s 12) (.aa [xm 13 5,⟨(some 14),.cR 1 [(.c (.int .u8 44))],none⟩,xa 1 15 13 14,xm 5 15])
 (.skip)))
 (.aa [xm 16 5,xm 17 1,xm 18 6,⟨(some 19),.gC (.s 17) [(.s 18)],none⟩,⟨(some 20),.kc (.s 16) (.s 19),none⟩,xm 5 20]))))
 (.aa [xB .add 21 8 1,xm 8 21])))))))
 (.seq (.aa [xm 22 5,⟨(some 23),.r6 (.s 22),none⟩,xm 4 23])
 (.ret))))
theorem afI:aK prog 150 Oy [.tmp 4] 24:=⟨f150,⟨[],[],[]⟩,func150,by kernel_rfl,by kernel_rfl,by kernel_rfl,by kernel_rfl⟩
def Oz:AC:=.seq (.aa [⟨(some 3),.mv (.c (.str [])),none⟩])
 (.seq (.aa [xf 3 4 1,xo 5 4,xm 6 0,xA 2 7 5 6,xf 0 8 7,xo 9 8,xm 3 9])
 (.ret))
theorem afJ:aK prog 151 Oz [.tmp 3] 10:=⟨f151,⟨[],[],[]⟩,func151,by kernel_rfl,by kernel_rfl,by kernel_rfl,by kernel_rfl⟩
def OA:AC:=.seq (.aa [⟨(some 3),.mv (.c (.str [])),none⟩])
 (.seq (.aa [xf 4 4 1,xo 5 4,xm 6 0,xA 5 7 5 6,xl 5 8 7,xc 40 9 [.s 8],xm 3 9])
 (.ret))
theorem afK:aK prog 152 OA [.tmp 3] 10:=⟨f152,⟨[],[],[]⟩,func152,by kernel_rfl,by kernel_rfl,by kernel_rfl,by kernel_rfl⟩
def KB (n:Nat) (g:FuncId) (cap:List V) (f:Nat→List UInt8) (σ:ae) (i τ:Nat):St :=
  ⟨[.int .i64 (n:Nat),.fn (.func g) [] cap,.any,.any,.any,.sl (.tk τ) 1 (cm (bW ((List.range i).map f))),.any,.int .i64 (n:Nat),.int .i64 (i:Nat)]++List.replicate 15 .any,[],σ.aL τ (bW ((List.range i).map f)).length⟩
theorem W1 (f:Nat→List UInt8) (i:Nat):bW ((List.range (i+1)).map f)=bW ((List.range i).map f)++(if 0<i then [44] else [])++f i:=by
  rw[rK,fE,DP,UX];simp
theorem apO (f:Nat→List UInt8) {i n:Nat} (h:i≤n):(bW ((List.range i).map f)).length≤(bW ((List.range n).map f)).length:=by
  induction n with
  | zero =>
      have:i=0:=by omega
      rw[this];exact bt _
  | succ n ih =>
    by_cases hi:i=n+1
    · rw[hi];exact bt _
    · have:=ih (by omega)
      rw[W1];simp only[bw];omega
theorem RX {n:Nat} {g:FuncId} {cap:List V} {f:Nat→List UInt8} {σ:ae} (nk:bm cap=true) (hn:n≤aF) (hb:(bW ((List.range n).map f)).length≤aF)
    (h:∀i,i<n→∀dq:ae,dq.box=σ.box→al prog g (.int .i64 (i:Nat)::cap) dq fun v σ' => v = .str (f i)∧σ' = dq) :
    al prog 150 [.int .i64 (n:Nat),.fn (.func g) [] cap] σ fun v σ' => v = .str (bW ((List.range n).map f))∧σ' = σ:=by
  refine afI.calls ?_;simp only[aJ,Oy,am,aR,Nat.reduceAdd];refine j6 (fun p:{p:Nat × Nat // σ.aC p.2=none∧p.1≤n}=>KB n g cap f σ p.1.1 p.1.2) (fun p=>n - p.1.1) ?_ ?_
  · refine ba.yI 0 fun τ bh=>⟨⟨(0,τ),bh,by simp⟩,?_,rfl,rfl⟩
    simp[KB,List.replicate,od,bW,cm]
  · rintro⟨⟨i,τ⟩,bh,hi⟩;simp only at bh hi;simp only[KB,List.replicate,am];refine fL ?_ ?_
    · intro aj;have aj:i<n:=by simpa using aj
      have hs:=W1 f i;have hm:=apO f (i:=i+1) (n:=n) (by omega);simp only[aF] at hn hb;rw[hs] at hm;simp only[bw] at hm;have wi:IntKind.i64.wrap ((i:Int)+1)=(i:Int)+1:=wrap_i64 (by omega) (by omega);simp only[am]
      by_cases h0:0<i
      case' pos =>
        rw[ak h0] at hs hm;simp only[am,aD (show (0:Int)<i by omega)];refine ke (by simp[mA,aF];simp at hm;omega) (by rw[mA,lK]) ?_;simp only[am,j5];rw[show cm (bW ((List.range i).map f))++[[.int .u8 44]]=cm (bW ((List.range i).map f)++[44]) by simp[cm],show (cm (bW ((List.range i).map f))).length+1=(bW ((List.range i).map f)++[44]).length by simp[cm]]
      case' neg =>
        rw[ah h0,dn] at hs;rw[ah h0] at hm;simp only[am,aB (show ¬(0:Int)<i by omega)]
      all_goals
        refine⟨nk,?_⟩;refine(h i aj (σ.aL τ _) rfl).mono ?_;rintro v σ' ⟨rfl,rfl⟩;simp only[am,cf];refine⟨_,rfl,?_⟩;refine ke (by simp[mA,aF];simp at hm;omega) (by rw[mA,lK]) ?_;simp only[am,j5,wi];rw[←IE,mA,mA,←bw,←hs];exact ba.again ⟨(i+1,τ),bh,aj⟩ (by simp;omega) (by simp[am]) cj.rfl bG.rfl
    · intro aj;have aj:i=n:=by simp at aj;omega
      subst aj;simp only[am,cf];refine⟨_,_,rfl,?_⟩;refine aG rfl (rp bh) ⟨?_,rfl⟩;simp[V.erase]
theorem amv {n:Nd} {i q:Nat} {σ:ae} (hi:i<n.names.length) (hq:σ.box q=some n.enc):al prog 151 [.int .i64 (i:Nat),.ptr (.out q) 0] σ fun v σ' => v = .str (n.names[i].text)∧σ' = σ:=by
  refine afJ.calls ?_;simp only[aJ,Oz,am,aR,Nat.reduceAdd];simp only[am,hq,Nd.fl];refine bD (by omega) (AR (show n.names[i]?=some n.names[i] by simp[hi])) ?_;simp only[am,Word.enc];refine az ?_;simp[V.erase]
theorem akE {n:Nd} {i q:Nat} {σ:ae} (hi:i<n.kids.length) (hq:σ.box q=some n.enc) (ih:∀m∈n.kids,∀σ,al prog 40 [.agg m.enc] σ fun v σ' => v = .str m.cE∧σ' = σ) :
    al prog 152 [.int .i64 (i:Nat),.ptr (.out q) 0] σ fun v σ' => v = .str (n.kids[i].cE)∧σ' = σ:=by
  refine afK.calls ?_;simp only[aJ,OA,am,aR,Nat.reduceAdd];simp only[am,hq,Nd.fl];refine bD (by omega) (ny (show n.kids[i]?=some n.kids[i] by simp[hi])) ?_;simp only[am,Nd.af];refine cl (ih n.kids[i] (fD hi) σ) ?_;simp only[am];refine az ?_;simp[V.erase]
theorem W0 {α:Type} (l:List α) (f:α→List UInt8) (d:List UInt8):(List.range l.length).map (fun i=>if h:i<l.length then f l[i] else d)=l.map f:=by
  apply Nu;intro i
  by_cases h:i<l.length<;>simp[h]
theorem Ld {n:Nd} {σ:ae} (hw:n.wt≤aF):al prog 89 [.agg n.enc] σ fun v σ' => v = .str (gx n.names)∧σ' = σ:=by
  have h1:=Du n.names;have U:n.names.length≤dL n.names:=by
    unfold dL;generalize n.names=l;induction l with
    | nil=>simp
    | cons w ws ih=>simp only[bC,mr,cG];omega
  have h3:dL n.names≤n.wt:=by cases n;simp only[Nd.wt,Nd.names];omega
  have e:bW ((List.range n.names.length).map (fun i=>if h:i<n.names.length then n.names[i].text else []))=gx n.names:=by
    rw[W0 n.names (fun w=>w.text) []];rfl
  refine ahP.calls ?_;simp only[aJ,QP,am,aR,Nd.af];refine iw fun q hq=>?_
  simp only[am,aE,Nd.fl];refine(RX (f:=fun i=>if h:i<n.names.length then n.names[i].text else []) rfl (by omega) (by rw[e];omega) (fun i hi dq h1=>?_)).mono ?_
  · rw[By hi];exact amv hi (by rw[h1];exact ae.cX _ _ _)
  rintro v σ' ⟨rfl,rfl⟩;simp only[am];refine aG rfl (fU hq) ⟨?_,rfl⟩;rw[e];simp[V.erase]
theorem Cx {n:Nd} {σ:ae} (hw:n.wt≤aF) (ih:∀m∈n.kids,∀σ,al prog 40 [.agg m.enc] σ fun v σ' => v = .str m.cE∧σ' = σ):al prog 90 [.agg n.enc] σ fun v σ' => v = .str (bW (cY n.kids))∧σ' = σ:=by
  have h1:=FX n.kids (yK n.kids);have U:n.kids.length≤eK n.kids:=by
    rw[Dv];generalize n.kids=l;induction l with
    | nil=>simp
    | cons w ws ih=>simp only[bC,mr,cG];omega
  have h3:eK n.kids≤n.wt:=by cases n;simp only[Nd.wt,Nd.kids];omega
  have e:bW ((List.range n.kids.length).map (fun i=>if h:i<n.kids.length then n.kids[i].cE else []))=bW (cY n.kids):=by
    rw[W0 n.kids (fun w=>w.cE) [],yL]
  refine ahQ.calls ?_;simp only[aJ,QS,am,aR,Nd.af];refine iw fun q hq=>?_
  simp only[am,aE,Nd.fl];refine(RX (f:=fun i=>if h:i<n.kids.length then n.kids[i].cE else []) rfl (by omega) (by rw[e];omega) (fun i hi dq h1=>?_)).mono ?_
  · rw[By hi];exact akE hi (by rw[h1];exact ae.cX _ _ _) ih
  rintro v σ' ⟨rfl,rfl⟩;simp only[am];refine aG rfl (fU hq) ⟨?_,rfl⟩;rw[e];simp[V.erase]
theorem SM {n:Nd} {σ:ae} (ih:∀m∈n.kids,∀σ,al prog 40 [.agg m.enc] σ fun v σ' => v = .str m.cE∧σ' = σ):al prog 91 [.agg n.enc] σ fun v σ' => v = .str (n7 (cY n.kids))∧σ' = σ:=by
  refine ahR.calls ?_;simp only[aJ,QT,am,aR,Nd.af];simp only[am,aE,Nd.fl];cases hk:n.kids with
  | nil =>
    simp only[am,bZ,dp,dv,uP];refine az ?_;simp[V.erase,n7,cY]
  | cons m ms =>
    simp only[am,aB (show ¬(((m::ms).length:Nat):Int)=0 by simp;omega),Nd.fl,hk];refine bD (by omega) (c:=m.enc) (by simp) ?_;simp only[am,Nd.af];refine cl (ih m (by rw[hk];simp) σ) ?_;simp only[am];refine az ?_;simp[V.erase,n7,cY]
theorem aqi {n:Nd} {σ:ae} (hw:n.wt≤aF) (ih:∀m∈n.kids,∀σ,al prog 40 [.agg m.enc] σ fun v σ' => v = .str m.cE∧σ' = σ) :
    al prog 92 [.agg n.enc] σ fun v σ' => v = .str (([91]++bW (cY n.kids))++(if 0<n.names.length then [124]++gx n.names else [])++[93])∧σ' = σ:=by
  have h1:=FX n.kids (yK n.kids);have U:=Du n.names;have h3:eK n.kids+dL n.names+4≤n.wt:=by cases n;simp only[Nd.wt,Nd.kids,Nd.names];omega
  refine ahS.calls ?_;simp only[aJ,QU,am,aR,Nd.af];refine cl (Cx hw ih) ?_;simp only[am];refine⟨by simp;omega,?_⟩;simp only[am,aE,Nd.fl]
  by_cases h0:0<n.names.length
  · simp only[am,Nd.af,aD (show (0:Int)<n.names.length by omega)];refine cl (Ld hw) ?_;simp only[am];refine⟨by simp;omega,by simp;omega,by simp;omega,?_⟩;refine az ?_;simp[V.erase,h0]
  · simp only[am,aB (show ¬(0:Int)<n.names.length by omega)];refine⟨by simp;omega,?_⟩;refine az ?_;simp[V.erase,h0]
theorem arT:∀(k:Nat) (n:Nd) (σ:ae),n.wt≤k→n.wt≤aF→al prog 40 [.agg n.enc] σ fun v σ' => v = .str n.cE∧σ' = σ:=by
  intro k;induction k with
  | zero=>intro n σ h _;cases n;simp only[Nd.wt] at h;omega
  | succ k xY =>
    intro n σ hk hw;have ih:∀m∈n.kids,∀σ,al prog 40 [.agg m.enc] σ fun v σ' => v = .str m.cE∧σ' = σ:=fun m hm σ=>by
      have h1:=Hk hm;have U:eK n.kids+4≤n.wt:=by cases n;simp only[Nd.wt,Nd.kids];omega
      exact xY m σ (by omega) (by omega)
    have h1:=FX n.kids (yK n.kids);have U:=Du n.names;have h3:n.text.length+eK n.kids+dL n.names+4≤n.wt:=by cases n;simp only[Nd.wt,Nd.kids,Nd.names,Nd.text];omega
    have h4:=T0 n.kids (yK n.kids);have e:n.cE=if n.kind=1∨n.kind=2 then n.text else if n.kind=3 then [123]++gx n.names++[125] else if n.kind=4 then [40]++bW (cY n.kids)++[41] else if n.kind=5 then [91]++bW (cY n.kids)++[93]
        else if n.kind=6 then n.text++[58,123]++gx n.names++[125] else if n.kind=7 then [35]++n7 (cY n.kids) else if n.kind=8 then [43,40]++bW (cY n.kids)++[41] else if n.kind=9 then [38,40]++bW (cY n.kids)++[41]
        else if n.kind=10 then ([91]++bW (cY n.kids))++(if 0<n.names.length then [124]++gx n.names else [])++[93] else if n.kind=11 then n.text++[61]++n7 (cY n.kids) else []:=by cases n;rw[Nd.cE];rfl
    rw[e];refine ahp.calls ?_;simp only[aJ,Qn,am,aR,Nd.af];simp only[am,Nd.fl]
    by_cases k1:n.kind=1
    · simp only[am,aD k1,Nd.fl];refine az ?_;simp[V.erase,k1]
    simp only[am,aB k1]
    by_cases k2:n.kind=2
    · simp only[am,aD k2,Nd.fl];refine az ?_;simp[V.erase,k2]
    simp only[am,aB k2]
    by_cases k3:n.kind=3
    · simp only[am,Nd.af,aD k3];refine cl (Ld hw) ?_;simp only[am];refine⟨by simp;omega,by simp;omega,?_⟩;refine az ?_;simp[V.erase,k3]
    simp only[am,aB k3]
    by_cases k4:n.kind=4
    · simp only[am,Nd.af,aD k4];refine cl (Cx hw ih) ?_;simp only[am];refine⟨by simp;omega,by simp;omega,?_⟩;refine az ?_;simp[V.erase,k4]
    simp only[am,aB k4]
    by_cases k5:n.kind=5
    · simp only[am,Nd.af,aD k5];refine cl (Cx hw ih) ?_;simp only[am];refine⟨by simp;omega,by simp;omega,?_⟩;refine az ?_;simp[V.erase,k5]
    simp only[am,aB k5]
    by_cases k6:n.kind=6
    · simp only[am,Nd.af,aD k6,Nd.fl];refine⟨by simp;omega,?_⟩;refine br.intro (Ld hw) ?_;simp only[am,Nd.fl];refine⟨by simp;omega,by simp;omega,?_⟩;refine az ?_;simp[V.erase,k6]
    simp only[am,aB k6]
    by_cases k7:n.kind=7
    · simp only[am,Nd.af,aD k7];refine cl (SM ih) ?_;simp only[am];refine⟨by simp;omega,?_⟩;refine az ?_;simp[V.erase,k7]
    simp only[am,aB k7]
    by_cases k8:n.kind=8
    · simp only[am,Nd.af,aD k8];refine cl (Cx hw ih) ?_;simp only[am];refine⟨by simp;omega,by simp;omega,?_⟩;refine az ?_;simp[V.erase,k8]
    simp only[am,aB k8]
    by_cases k9:n.kind=9
    · simp only[am,Nd.af,aD k9];refine cl (Cx hw ih) ?_;simp only[am];refine⟨by simp;omega,by simp;omega,?_⟩;refine az ?_;simp[V.erase,k9]
    simp only[am,aB k9]
    by_cases x8:n.kind=10
    · simp only[am,Nd.af,aD x8];refine cl (aqi hw ih) ?_;simp only[am];refine az ?_;simp[V.erase,x8]
    simp only[am,aB x8]
    by_cases FT:n.kind=11
    · simp only[am,Nd.af,aD FT,Nd.fl];refine⟨by simp;omega,?_⟩;refine br.intro (SM ih) ?_;simp only[am,Nd.fl];refine⟨by simp;omega,?_⟩;refine az ?_;simp[V.erase,FT]
    simp only[am,aB FT];refine az ?_;simp[V.erase,k1,k2,k3,k4,k5,k6,k7,k8,k9,x8,FT]
def Ot:AC:=.seq (.aa [⟨(some 1),.box 5 (.s 0),none⟩,⟨(some 2),.mv (.c (.bool false)),none⟩])
 (.seq (.seq (.aa [xf 0 3 1,xo 4 3])
 (.block 0 (.seq (.aa [xB .eql 6 4 1,xm 5 6])
 (.cond (.s 5) (.seq (.aa [xl 5 7 1,xc 170 8 [.s 7],xm 2 8])
 (.ret))
 (.seq (.aa [xB .eql 10 4 7,xm 9 10])
 (.cond (.s 9) (.seq (.aa [xl 5 11 1,xc 171 12 [.s 11],xm 13 12,xg 13 (xf 4 14 1),xg 13 (xo 15 14),xg 13 (xL 16 15),xg 13 (xB .eql 17 16 1),⟨(some 18),.pick (.s 13) (.s 17) (.c (.bool false)),none⟩,xm 19 18,xg 19 (xf 4 20 1),xg 19 (xo 21 20),⟨(some 22),.kv 5 (.s 21) (.c (.int .i64 0)),(some (19,true))⟩,xg 19 (xl 5 23 22),xg 19 (xc 172 24 [.s 23]),⟨(some 25),.pick (.s 19) (.s 24) (.c (.bool false)),none⟩,xm 2 25])
 (.ret))
 (.seq (.seq (.aa [xB .eql 27 4 8,xm 26 27])
 (.cond (.s 26) (.skip)
 (.aa [xB .eql 28 4 9,xm 26 28])))
 (.cond (.s 26) (.seq (.aa [xl 5 29 1,xc 171 30 [.s 29],xm 31 30,xg 31 (xf 4 32 1),xg 31 (xo 33 32),xg 31 (xL 34 33),xg 31 (xB .gtr 35 34 0),⟨(some 36),.pick (.s 31) (.s 35) (.c (.bool false)),none⟩,xm 37 36,xg 37 (xf 4 38 1),xg 37 (xo 39 38),xg 37 (xc 173 40 [.s 39,.c (.fn (.func 123) [] [])]),⟨(some 41),.pick (.s 37) (.s 40) (.c (.bool false)),none⟩,xm 2 41])
 (.ret))
 (.skip)))))))))
 (.seq (.aa [⟨(some 2),.mv (.c (.bool false)),none⟩])
 (.ret)))
theorem afD:aK prog 123 Ot [.tmp 2] 42:=⟨f123,⟨[],[],[]⟩,func123,by kernel_rfl,by kernel_rfl,by kernel_rfl,by kernel_rfl⟩
def OW:AC:=.seq (.aa [⟨(some 1),.box 5 (.s 0),none⟩,⟨(some 2),.mv (.c (.bool false)),none⟩])
 (.seq (.seq (.aa [xf 0 3 1,xo 4 3,xB .eql 5 4 10])
 (.cond (.s 5) (.seq (.aa [xf 2 6 1,xo 7 6,⟨(some 8),.iG .eql (.s 7) (.c (.str [])),none⟩,xm 9 8,xg 9 (xf 3 10 1),xg 9 (xo 11 10),xg 9 (xL 12 11),xg 9 (xB .leq 13 12 1),⟨(some 14),.pick (.s 9) (.s 13) (.c (.bool false)),none⟩,xm 15 14,xg 15 (xf 3 16 1),xg 15 (xo 17 16),xg 15 (xc 225 18 [.s 17]),⟨(some 19),.pick (.s 15) (.s 18) (.c (.bool false)),none⟩,xm 20 19,xg 20 (xf 4 21 1),xg 20 (xo 22 21),xg 20 (xc 173 23 [.s 22,.c (.fn (.func 226) [] [])]),⟨(some 24),.pick (.s 20) (.s 23) (.c (.bool false)),none⟩,xm 2 24])
 (.ret))
 (.skip)))
 (.seq (.aa [xf 0 25 1,xo 26 25,xB .eql 27 26 1,xm 28 27,xg 28 (xl 5 29 1),xg 28 (xc 123 30 [.s 29]),⟨(some 31),.pick (.s 28) (.s 30) (.c (.bool false)),none⟩,xm 2 31])
 (.ret)))
theorem af2:aK prog 169 OW [.tmp 2] 32:=⟨f169,⟨[],[],[]⟩,func169,by kernel_rfl,by kernel_rfl,by kernel_rfl,by kernel_rfl⟩
def OY:AC:=.seq (.aa [⟨(some 1),.box 5 (.s 0),none⟩,⟨(some 2),.mv (.c (.bool false)),none⟩])
 (.seq (.aa [xf 2 3 1,xo 4 3,xc 99 5 [.s 4],xm 6 5,xg 6 (xf 3 7 1),xg 6 (xo 8 7),xg 6 (xL 9 8),xg 6 (xf 4 10 1),xg 6 (xo 11 10),xg 6 (xL 12 11),xg 6 (xb .add 13 9 12),xg 6 (xB .eql 14 13 0),⟨(some 15),.pick (.s 6) (.s 14) (.c (.bool false)),none⟩,xm 2 15])
 (.ret))
theorem af4:aK prog 170 OY [.tmp 2] 16:=⟨f170,⟨[],[],[]⟩,func170,by kernel_rfl,by kernel_rfl,by kernel_rfl,by kernel_rfl⟩
def OZ:AC:=.seq (.aa [⟨(some 1),.box 5 (.s 0),none⟩,⟨(some 2),.mv (.c (.bool false)),none⟩])
 (.seq (.aa [xf 2 3 1,xo 4 3,⟨(some 5),.iG .eql (.s 4) (.c (.str [])),none⟩,xm 6 5,xg 6 (xf 3 7 1),xg 6 (xo 8 7),xg 6 (xL 9 8),xg 6 (xB .eql 10 9 0),⟨(some 11),.pick (.s 6) (.s 10) (.c (.bool false)),none⟩,xm 2 11])
 (.ret))
theorem af5:aK prog 171 OZ [.tmp 2] 12:=⟨f171,⟨[],[],[]⟩,func171,by kernel_rfl,by kernel_rfl,by kernel_rfl,by kernel_rfl⟩
def O0:AC:=.seq (.aa [⟨(some 1),.box 5 (.s 0),none⟩,⟨(some 2),.mv (.c (.bool false)),none⟩])
 (.seq (.seq (.aa [xf 0 3 1,xo 4 3])
 (.block 0 (.seq (.aa [xB .eql 6 4 2,xm 5 6])
 (.cond (.s 5) (.seq (.aa [xl 5 7 1,xc 170 8 [.s 7],xm 2 8])
 (.ret))
 (.seq (.aa [xB .eql 10 4 3,xm 9 10])
 (.cond (.s 9) (.seq (.aa [xf 2 11 1,xo 12 11,⟨(some 13),.iG .eql (.s 12) (.c (.str [])),none⟩,xm 14 13,xg 14 (xf 3 15 1),xg 14 (xo 16 15),xg 14 (xc 225 17 [.s 16]),⟨(some 18),.pick (.s 14) (.s 17) (.c (.bool false)),none⟩,xm 19 18,xg 19 (xf 4 20 1),xg 19 (xo 21 20),xg 19 (xL 22 21),xg 19 (xB .eql 23 22 0),⟨(some 24),.pick (.s 19) (.s 23) (.c (.bool false)),none⟩,xm 2 24])
 (.ret))
 (.seq (.aa [xB .eql 26 4 4,xm 25 26])
 (.cond (.s 25) (.seq (.aa [xl 5 27 1,xc 171 28 [.s 27],xm 29 28,xg 29 (xf 4 30 1),xg 29 (xo 31 30),xg 29 (xL 32 31),xg 29 (xB .gtr 33 32 0),⟨(some 34),.pick (.s 29) (.s 33) (.c (.bool false)),none⟩,xm 35 34,xg 35 (xf 4 36 1),xg 35 (xo 37 36),xg 35 (xc 173 38 [.s 37,.c (.fn (.func 172) [] [])]),⟨(some 39),.pick (.s 35) (.s 38) (.c (.bool false)),none⟩,xm 2 39])
 (.ret))
 (.seq (.aa [xB .eql 41 4 5,xm 40 41])
 (.cond (.s 40) (.seq (.aa [xl 5 42 1,xc 171 43 [.s 42],xm 44 43,xg 44 (xf 4 45 1),xg 44 (xo 46 45),xg 44 (xc 173 47 [.s 46,.c (.fn (.func 227) [] [])]),⟨(some 48),.pick (.s 44) (.s 47) (.c (.bool false)),none⟩,xm 2 48])
 (.ret))
 (.skip)))))))))))
 (.seq (.aa [⟨(some 2),.mv (.c (.bool false)),none⟩])
 (.ret)))
theorem af6:aK prog 172 O0 [.tmp 2] 49:=⟨f172,⟨[],[],[]⟩,func172,by kernel_rfl,by kernel_rfl,by kernel_rfl,by kernel_rfl⟩
def O1:AC:=.seq (.aa [⟨(some 4),.mv (.c (.bool false)),none⟩])
 (.seq (.seq (.aa [xm 7 0,xL 8 7,xi 9 0])
 (.block 0 (.loop (.seq (.aa [xb .lss 10 9 8])
 (.seq (.cond (.s 10) (.skip)
 (.exit 0))
 (.seq (.block 1 (.seq (.aa [xA 5 11 7 9,xl 5 12 11,⟨(some 6),.alloc [(.int .i64 0),(.int .i64 0),(.str []),(.sl .full 2 []),(.sl .full 5 [])],none⟩,xs 5 6 12])
 (.seq (.aa [xm 13 1,xl 5 14 6,⟨(some 15),.gC (.s 13) [(.s 14)],none⟩,⟨(some 16),.not (.s 15),none⟩])
 (.cond (.s 16) (.seq (.aa [⟨(some 4),.mv (.c (.bool false)),none⟩])
 (.ret))
 (.skip)))))
 (.aa [xB .add 17 9 1,xm 9 17])))))))
 (.seq (.aa [⟨(some 4),.mv (.c (.bool true)),none⟩])
 (.ret)))
theorem af7:aK prog 173 O1 [.tmp 4] 18:=⟨f173,⟨[],[],[]⟩,func173,by kernel_rfl,by kernel_rfl,by kernel_rfl,by kernel_rfl⟩
def PB:AC:=.seq (.aa [⟨(some 2),.mv (.c (.bool false)),none⟩])
 (.seq (.seq (.aa [xm 5 0,xL 6 5,xi 7 0])
 (.block 0 (.loop (.seq (.aa [xb .lss 8 7 6])
 (.seq (.cond (.s 8) (.skip)
 (.exit 0))
 (.seq (.block 1 (.seq (.aa [xA 2 9 5 7,xl 2 10 9,⟨(some 4),.alloc [(.str []),(.int .i64 0)],none⟩,xs 2 4 10])
 (.seq (.aa [xf 0 11 4,xo 12 11,xc 99 13 [.s 12],⟨(some 14),.not (.s 13),none⟩])
 (.cond (.s 14) (.seq (.aa [⟨(some 2),.mv (.c (.bool false)),none⟩])
 (.ret))
 (.skip)))))
 (.aa [xB .add 15 7 1,xm 7 15])))))))
 (.seq (.aa [⟨(some 2),.mv (.c (.bool true)),none⟩])
 (.ret)))
theorem agF:aK prog 225 PB [.tmp 2] 16:=⟨f225,⟨[],[],[]⟩,func225,by kernel_rfl,by kernel_rfl,by kernel_rfl,by kernel_rfl⟩
def PC:AC:=.seq (.aa [⟨(some 1),.box 5 (.s 0),none⟩,⟨(some 2),.mv (.c (.bool false)),none⟩])
 (.seq (.aa [xf 0 3 1,xo 4 3,xB .eql 5 4 11,xm 6 5,xg 6 (xf 2 7 1),xg 6 (xo 8 7),xg 6 (xc 99 9 [.s 8]),⟨(some 10),.pick (.s 6) (.s 9) (.c (.bool false)),none⟩,xm 11 10,xg 11 (xf 3 12 1),xg 11 (xo 13 12),xg 11 (xL 14 13),xg 11 (xB .eql 15 14 0),⟨(some 16),.pick (.s 11) (.s 15) (.c (.bool false)),none⟩,xm 17 16,xg 17 (xf 4 18 1),xg 17 (xo 19 18),xg 17 (xL 20 19),xg 17 (xB .eql 21 20 1),⟨(some 22),.pick (.s 17) (.s 21) (.c (.bool false)),none⟩,xm 23 22,xg 23 (xf 4 24 1),xg 23 (xo 25 24),⟨(some 26),.kv 5 (.s 25) (.c (.int .i64 0)),(some (23,true))⟩,xg 23 (xl 5 27 26),xg 23 (xc 254 28 [.s 27]),⟨(some 29),.pick (.s 23) (.s 28) (.c (.bool false)),none⟩,xm 2 29])
 (.ret))
theorem agG:aK prog 226 PC [.tmp 2] 30:=⟨f226,⟨[],[],[]⟩,func226,by kernel_rfl,by kernel_rfl,by kernel_rfl,by kernel_rfl⟩
def PD:AC:=.seq (.aa [⟨(some 1),.box 5 (.s 0),none⟩,⟨(some 2),.mv (.c (.bool false)),none⟩])
 (.seq (.aa [xf 0 3 1,xo 4 3,xB .eql 5 4 6,xm 6 5,xg 6 (xf 2 7 1),xg 6 (xo 8 7),xg 6 (xc 99 9 [.s 8]),⟨(some 10),.pick (.s 6) (.s 9) (.c (.bool false)),none⟩,xm 11 10,xg 11 (xf 3 12 1),xg 11 (xo 13 12),xg 11 (xc 225 14 [.s 13]),⟨(some 15),.pick (.s 11) (.s 14) (.c (.bool false)),none⟩,xm 16 15,xg 16 (xf 4 17 1),xg 16 (xo 18 17),xg 16 (xL 19 18),xg 16 (xB .eql 20 19 0),⟨(some 21),.pick (.s 16) (.s 20) (.c (.bool false)),none⟩,xm 2 21])
 (.ret))
theorem agH:aK prog 227 PD [.tmp 2] 22:=⟨f227,⟨[],[],[]⟩,func227,by kernel_rfl,by kernel_rfl,by kernel_rfl,by kernel_rfl⟩
def PW:AC:=.seq (.aa [⟨(some 1),.box 5 (.s 0),none⟩,⟨(some 2),.mv (.c (.bool false)),none⟩])
 (.seq (.aa [xf 0 3 1,xo 4 3,xB .eql 5 4 1,xm 6 5,xh 6 (xf 0 7 1),xh 6 (xo 8 7),xh 6 (xB .eql 9 8 7),⟨(some 10),.pick (.s 6) (.c (.bool true)) (.s 9),none⟩,xm 11 10,xg 11 (xl 5 12 1),xg 11 (xc 123 13 [.s 12]),⟨(some 14),.pick (.s 11) (.s 13) (.c (.bool false)),none⟩,xm 2 14])
 (.ret))
theorem agZ:aK prog 254 PW [.tmp 2] 15:=⟨f254,⟨[],[],[]⟩,func254,by kernel_rfl,by kernel_rfl,by kernel_rfl,by kernel_rfl⟩
theorem Y' {α:Type} {l:List α} {i:Nat} {f:α→Bool} (h:i<l.length):(l.take (i+1)).all f=((l.take i).all f&&f l[i]):=by
  rw[Dg (cw h),HB];simp only[rG,Nm,s4]
theorem Q6 {α:Type} {l:List α} {i:Nat} {f:α→Bool} (h:i<l.length) (hf:f l[i]=false):l.all f=false:=by
  rw[HC];exact⟨l[i],fD h,by simp[hf]⟩
def Kx (l:List Word) (σ:ae) (i:Nat):St :=
  ⟨[.sl .no 2 (l.map Word.enc)]++List.replicate 4 .any++[.sl .no 2 (l.map Word.enc),.int .i64 l.length,.int .i64 (i:Nat)]++List.replicate 8 .any,[],σ⟩
theorem LY (l:List Word) (σ:ae) (hb:l.length≤aF):al prog 225 [.sl .no 2 (l.map Word.enc)] σ fun v σ' => v = .bool (gv l)∧σ' = σ:=by
  simp only[aF] at hb;refine agF.calls ?_;simp only[aJ,PB,am,aR];refine j6 (fun p:{i:Nat // i≤l.length∧(l.take i).all (fun w=>cV w.text)=true}=>Kx l σ p.1) (fun p=>l.length - p.1) ?_ ?_
  · refine ba.enter ⟨0,by simp,by simp⟩ ?_ cj.rfl bG.rfl;simp[Kx,List.replicate,am]
  · rintro⟨i,hi,ha⟩;simp only[Kx,List.replicate,am];refine fL ?_ ?_
    · intro aj;have aj:i<l.length:=by simpa using aj
      simp only[am];refine bD (by omega) (AR (cw aj)) ?_;simp only[am,Nat.reduceAdd,Word.enc];refine cl (qX l[i].text σ) ?_;cases hg:cV l[i].text
      · simp only[am];refine aG rfl (ae.aW _) ⟨?_,rfl⟩;rw[show gv l=false from Q6 (f:=fun (w:Word)=>cV w.text) aj hg];rfl
      · simp only[am];rw[wrap_i64 (by omega) (by omega)];exact ba.rT ⟨i+1,aj,by rw[Y' aj,ha,hg];rfl⟩ (by simp;omega) (by simp[am]) (by simp[am]) bG.rfl rfl rfl
    · intro aj;have aj:i=l.length:=by simp at aj;omega
      subst aj;rw[dW] at ha;simp only[am];refine az ?_;simp[V.erase,gv,ha]
def Ky (g:FuncId) (l:List Nd) (σ:ae) (i:Nat):St :=
  ⟨[.sl .no 5 (l.map Nd.enc),.fn (.func g) [] []]++List.replicate 5 .any++[.sl .no 5 (l.map Nd.enc),.int .i64 l.length,.int .i64 (i:Nat)]++List.replicate 8 .any,[],σ⟩
theorem D8 {g:FuncId} {f:Nd→Bool} (l:List Nd) (σ:ae) (hb:l.length≤aF) (h:∀n∈l,al prog g [.agg n.enc] σ fun v σ' => v = .bool (f n)∧σ' = σ):al prog 173 [.sl .no 5 (l.map Nd.enc),.fn (.func g) [] []] σ fun v σ' => v = .bool (l.all f)∧σ' = σ:=by
  simp only[aF] at hb;refine af7.calls ?_;simp only[aJ,O1,am,aR,Nat.reduceAdd];refine j6 (fun p:{i:Nat // i≤l.length∧(l.take i).all f=true}=>Ky g l σ p.1) (fun p=>l.length - p.1) ?_ ?_
  · refine ba.enter ⟨0,by simp,by simp⟩ ?_ cj.rfl bG.rfl;simp[Ky,List.replicate,am]
  · rintro⟨i,hi,ha⟩;simp only[Ky,List.replicate,am];refine fL ?_ ?_
    · intro aj;have aj:i<l.length:=by simpa using aj
      simp only[am];refine bD (by omega) (ny (cw aj)) ?_;simp only[am,Nd.af];refine cl (h l[i] (fD aj)) ?_;cases hg:f l[i]
      · simp only[am];refine az ?_;simp[V.erase,Q6 aj hg]
      · simp only[am];rw[wrap_i64 (by omega) (by omega)];exact ba.rT ⟨i+1,aj,by rw[Y' aj,ha,hg];rfl⟩ (by simp;omega) (by simp[am]) (by simp[am]) bG.rfl rfl rfl
    · intro aj;have aj:i=l.length:=by simp at aj;omega
      subst aj;rw[dW] at ha;simp only[am];refine az ?_;simp[V.erase,ha]
def rz:=And.intro @am <| And.intro @aR <| And.intro @Nd.af @Nd.fl
def gN:=And.intro @am <| And.intro @mY <| And.intro @cf <| And.intro @jn <| And.intro @bZ <| And.intro @fh <| And.intro @Tree.af <| And.intro @Nd.af <| And.intro @Word.af <| And.intro @bK.af @Nd.fl
theorem Vd (n:Nd) (σ:ae) (hb:n.names.length+n.kids.length≤aF):al prog 170 [.agg n.enc] σ fun v σ' => v = .bool n.jA∧σ' = σ:=by
  simp only[aF] at hb;refine af4.calls ?_;simp only[aJ,OY,rz];refine cl (qX n.text σ) ?_;simp only[am]
  repeat' (first
    | (refine jO (fun h=>?_) (fun h=>?_)<;>simp only[am,h,aE,Nd.fl,wrap_i64 (x:=(n.names.length:Int)+n.kids.length) (by omega) (by omega)])
    | (refine fL (fun h=>?_) (fun h=>?_)<;>simp only[gN,h,Nat.reduceAdd,Nat.reduceEqDiff,aE,wrap_i64 (x:=(n.names.length:Int)+n.kids.length) (by omega) (by omega)])
    | (refine j1 (fun h=>?_) (fun h=>?_)<;>simp only[gN,h,Nat.reduceAdd,Nat.reduceEqDiff,aE,wrap_i64 (x:=(n.names.length:Int)+n.kids.length) (by omega) (by omega)])
  )
  all_goals refine az ?_
  all_goals simp_all [V.erase,Nd.jA]
  all_goals (try omega)
theorem Ek (n:Nd) (σ:ae):al prog 171 [.agg n.enc] σ fun v σ' => v = .bool n.jK∧σ' = σ:=by
  refine af5.calls ?_;simp only[aJ,OZ,rz]
  repeat' (first
    | (refine jO (fun h=>?_) (fun h=>?_)<;>simp only[am,h,aE,Nd.fl])
    | (refine fL (fun h=>?_) (fun h=>?_)<;>simp only[gN,h,Nat.reduceAdd,Nat.reduceEqDiff,aE])
    | (refine j1 (fun h=>?_) (fun h=>?_)<;>simp only[gN,h,Nat.reduceAdd,Nat.reduceEqDiff,aE])
  )
  all_goals refine az ?_
  all_goals simp_all [V.erase,Nd.jK]
  all_goals (try omega)
theorem Dt (n:Nd):n.names.length+n.kids.length+4≤n.wt:=by
  have U:n.names.length≤dL n.names:=by
    unfold dL;generalize n.names=l;induction l with
    | nil=>simp
    | cons w ws ih=>simp only[bC,mr,cG];omega
  have h3:n.kids.length≤eK n.kids:=by
    rw[Dv];generalize n.kids=l;induction l with
    | nil=>simp
    | cons w ws ih=>simp only[bC,mr,cG];omega
  have h1:eK n.kids+dL n.names+4≤n.wt:=by cases n;simp only[Nd.wt,Nd.kids,Nd.names];omega
  omega
theorem aqr (n:Nd) (σ:ae) (hw:n.wt≤aF):al prog 227 [.agg n.enc] σ fun v σ' => v = .bool n.mP∧σ' = σ:=by
  have hn:=Dt n;refine agH.calls ?_;simp only[aJ,PD,rz]
  repeat' (first
    | (refine jO (fun h=>?_) (fun h=>?_)<;>simp only[am,h,aE,Nd.fl])
    | (refine fL (fun h=>?_) (fun h=>?_)<;>simp only[gN,h,Nat.reduceAdd,Nat.reduceEqDiff,aE])
    | (refine j1 (fun h=>?_) (fun h=>?_)<;>simp only[gN,h,Nat.reduceAdd,Nat.reduceEqDiff,aE])
    | (refine(qX n.text σ).mono ?_;rintro v _ ⟨rfl,rfl⟩;simp only[am])
    | (refine(LY n.names _ (by omega)).mono ?_;rintro v _ ⟨rfl,rfl⟩;simp only[am])
  )
  all_goals refine az ?_
  all_goals simp_all [V.erase,Nd.mP]
  all_goals (try omega)
theorem R5:∀(k:Nat) (n:Nd) (σ:ae),n.wt≤k→n.wt≤aF→al prog 172 [.agg n.enc] σ fun v σ' => v = .bool n.gE∧σ' = σ:=by
  intro k;induction k with
  | zero=>intro n σ h _;cases n;simp only[Nd.wt] at h;omega
  | succ k xY =>
    intro n σ hk hw;have hn:=Dt n;have JU:∀m∈n.kids,m.wt+5≤n.wt:=fun m hm=>by
      have h1:=Hk hm;have U:eK n.kids+4≤n.wt:=by cases n;simp only[Nd.wt,Nd.kids];omega
      omega
    have b8:al prog 173 [.sl .no 5 (n.kids.map Nd.enc),.fn (.func 172) [] []] σ fun v σ' => v = .bool (n.kids.all Nd.gE)∧σ' = σ :=
      D8 n.kids σ (by omega) fun m hm=>xY m σ (by have:=JU m hm;omega) (by have:=JU m hm;omega)
    have ajG:al prog 173 [.sl .no 5 (n.kids.map Nd.enc),.fn (.func 227) [] []] σ fun v σ' => v = .bool (n.kids.all Nd.mP)∧σ' = σ :=
      D8 n.kids σ (by omega) fun m hm=>aqr m σ (by have:=JU m hm;omega)
    rw[Nd.wU];refine af6.calls ?_;simp only[aJ,O0,rz]
    by_cases k2:n.kind=2
    · simp only[am,Nd.af,aD k2];refine cl (Vd n σ (by omega)) ?_;simp only[am];refine az ?_;simp[V.erase,k2]
    simp only[am,aB k2]
    by_cases k3:n.kind=3
    · simp only[am,Nd.fl,aD k3]
      repeat' (first
        | (refine jO (fun h=>?_) (fun h=>?_)<;>simp only[am,h,aE,Nd.fl])
        | (refine fL (fun h=>?_) (fun h=>?_)<;>simp only[gN,h,Nat.reduceAdd,Nat.reduceEqDiff,aE])
        | (refine j1 (fun h=>?_) (fun h=>?_)<;>simp only[gN,h,Nat.reduceAdd,Nat.reduceEqDiff,aE])
        | (refine(LY n.names _ (by omega)).mono ?_;rintro v _ ⟨rfl,rfl⟩;simp only[am])
      )
      all_goals refine az ?_
      all_goals simp_all [V.erase]
      all_goals (try omega)
    simp only[am,aB k3]
    by_cases k4:n.kind=4
    · simp only[am,Nd.af,aD k4];refine cl (Ek n σ) ?_;simp only[am]
      repeat' (first
        | (refine jO (fun h=>?_) (fun h=>?_)<;>simp only[am,h,aE,Nd.fl])
        | (refine fL (fun h=>?_) (fun h=>?_)<;>simp only[gN,h,Nat.reduceAdd,Nat.reduceEqDiff,aE])
        | (refine j1 (fun h=>?_) (fun h=>?_)<;>simp only[gN,h,Nat.reduceAdd,Nat.reduceEqDiff,aE])
        | (refine b8.mono ?_;rintro v _ ⟨rfl,rfl⟩;simp only[am])
      )
      all_goals refine az ?_
      all_goals simp_all [V.erase]
      all_goals (try omega)
    simp only[am,aB k4]
    by_cases k5:n.kind=5
    · simp only[am,Nd.af,aD k5];refine cl (Ek n σ) ?_;simp only[am]
      repeat' (first
        | (refine jO (fun h=>?_) (fun h=>?_)<;>simp only[am,h,Nd.fl])
        | (refine fL (fun h=>?_) (fun h=>?_)<;>simp only[gN,h,Nat.reduceAdd,Nat.reduceEqDiff,aE])
        | (refine j1 (fun h=>?_) (fun h=>?_)<;>simp only[gN,h,Nat.reduceAdd,Nat.reduceEqDiff,aE])
        | (refine ajG.mono ?_;rintro v _ ⟨rfl,rfl⟩;simp only[am])
      )
      all_goals refine az ?_
      all_goals simp_all [V.erase]
      all_goals (try omega)
    simp only[am,aB k5];refine az ?_;simp[V.erase,k2,k3,k4,k5]
theorem nu {n m:Nd} (hm:m∈n.kids):m.wt+5≤n.wt:=by
  have h1:=Hk hm;have U:eK n.kids+4≤n.wt:=by cases n;simp only[Nd.wt,Nd.kids];omega
  omega
theorem CC:∀(k:Nat) (n:Nd) (σ:ae),n.wt≤k→n.wt≤aF→al prog 123 [.agg n.enc] σ fun v σ' => v = .bool n.dS∧σ' = σ:=by
  intro k;induction k with
  | zero=>intro n σ h _;cases n;simp only[Nd.wt] at h;omega
  | succ k xY =>
    intro n σ hk hw;have hn:=Dt n;have b8:al prog 173 [.sl .no 5 (n.kids.map Nd.enc),.fn (.func 123) [] []] σ fun v σ' => v = .bool (n.kids.all Nd.dS)∧σ' = σ :=
      D8 n.kids σ (by omega) fun m hm=>xY m σ (by have:=nu hm;omega) (by have:=nu hm;omega)
    rw[Nd.qS];refine afD.calls ?_;simp only[aJ,Ot,rz]
    by_cases k1:n.kind=1
    · simp only[am,Nd.af,aD k1];refine cl (Vd n σ (by omega)) ?_;simp only[am];refine az ?_;simp[V.erase,k1]
    simp only[am,aB k1]
    by_cases k7:n.kind=7
    · simp only[am,Nd.af,aD k7];refine cl (Ek n σ) ?_;simp only[am];cases e9:n.kids with
      | nil =>
        simp only[am,dv,uP,show decide ((0:Int)=1)=false from rfl]
        repeat' (first
          | (refine jO (fun h=>?_) (fun h=>?_)<;>simp only[am,h,Nd.fl,e9,dp,dv,uP,show decide ((0:Int)=1)=false from rfl])
          | (refine fL (fun h=>?_) (fun h=>?_)<;>simp only[gN,h,Nat.reduceAdd,Nat.reduceEqDiff,aE,e9,dp,dv,uP,show decide ((0:Int)=1)=false from rfl])
          | (refine j1 (fun h=>?_) (fun h=>?_)<;>simp only[gN,h,Nat.reduceAdd,Nat.reduceEqDiff,aE,e9,dp,dv,uP,show decide ((0:Int)=1)=false from rfl])
        )
        all_goals refine az ?_
        all_goals simp_all [V.erase]
        all_goals (try omega)
      | cons m ms =>
        have hc:al prog 172 [.agg m.enc] σ fun v σ' => v = .bool m.gE∧σ' = σ:=R5 _ m σ (bt _) (by have:=nu (n:=n) (m:=m) (by rw[e9];simp);omega)
        repeat' (first
          | (refine jO (fun h=>?_) (fun h=>?_)<;>simp only[am,h,aE,Nd.fl,e9])
          | (refine fL (fun h=>?_) (fun h=>?_)<;>simp only[gN,h,Nat.reduceAdd,Nat.reduceEqDiff,aE,e9])
          | (refine j1 (fun h=>?_) (fun h=>?_)<;>simp only[gN,h,Nat.reduceAdd,Nat.reduceEqDiff,aE,e9])
          | (refine bD (by omega) (c:=m.enc) (by simp) ?_;simp only[am,Nd.af])
          | (refine hc.mono ?_;rintro v _ ⟨rfl,rfl⟩;simp only[am])
        )
        all_goals refine az ?_
        all_goals simp_all [V.erase,se]
        all_goals (try omega)
    simp only[am,aB k7]
    by_cases k8:n.kind=8
    case' pos =>
      simp only[am,Nd.af,aD k8]
    case' neg =>
      simp only[am,aB k8]
      by_cases k9:n.kind=9
      case' pos =>
        simp only[am,Nd.af,aD k9]
      case' neg =>
        simp only[am,aB k9];refine az ?_;simp[V.erase,k1,k7,k8,k9]
    all_goals
      refine cl (Ek n σ) ?_;simp only[am]
      repeat' (first
        | (refine jO (fun h=>?_) (fun h=>?_)<;>simp only[am,h,aE,Nd.fl])
        | (refine fL (fun h=>?_) (fun h=>?_)<;>simp only[gN,h,Nat.reduceAdd,Nat.reduceEqDiff,aE])
        | (refine j1 (fun h=>?_) (fun h=>?_)<;>simp only[gN,h,Nat.reduceAdd,Nat.reduceEqDiff,aE])
        | (refine b8.mono ?_;rintro v _ ⟨rfl,rfl⟩;simp only[am])
      )
      all_goals refine az ?_
      all_goals simp_all [V.erase]
      all_goals (try omega)
theorem aaw (n:Nd) (σ:ae) (hw:n.wt≤aF):al prog 254 [.agg n.enc] σ fun v σ' => v = .bool n.mZ∧σ' = σ:=by
  refine agZ.calls ?_;simp only[aJ,PW,rz]
  repeat' (first
    | (refine jO (fun h=>?_) (fun h=>?_)<;>simp only[am,h,Nd.af,Nd.fl])
    | (refine fL (fun h=>?_) (fun h=>?_)<;>simp only[gN,h,Nat.reduceAdd,Nat.reduceEqDiff,aE])
    | (refine j1 (fun h=>?_) (fun h=>?_)<;>simp only[gN,h,Nat.reduceAdd,Nat.reduceEqDiff,aE])
    | (refine(CC _ n _ (bt _) hw).mono ?_;rintro v _ ⟨rfl,rfl⟩;simp only[am])
  )
  all_goals refine az ?_
  all_goals simp_all [V.erase,Nd.mZ]
  all_goals (try omega)
theorem aeZ (n:Nd) (σ:ae) (hw:n.wt≤aF):al prog 226 [.agg n.enc] σ fun v σ' => v = .bool n.kh∧σ' = σ:=by
  refine agG.calls ?_;simp only[aJ,PC,rz];cases e9:n.kids with
  | nil =>
    repeat' (first
      | (refine jO (fun h=>?_) (fun h=>?_)<;>simp only[am,h,aE,Nd.fl,e9,dp,dv,uP,show decide ((0:Int)=1)=false from rfl])
      | (refine fL (fun h=>?_) (fun h=>?_)<;>simp only[gN,h,Nat.reduceAdd,Nat.reduceEqDiff,aE,e9,dp,dv,uP,show decide ((0:Int)=1)=false from rfl])
      | (refine j1 (fun h=>?_) (fun h=>?_)<;>simp only[gN,h,Nat.reduceAdd,Nat.reduceEqDiff,aE,e9,dp,dv,uP,show decide ((0:Int)=1)=false from rfl])
      | (refine(qX n.text _).mono ?_;rintro v _ ⟨rfl,rfl⟩;simp only[am])
    )
    all_goals refine az ?_
    all_goals simp_all [V.erase,Nd.kh,se]
    all_goals (try omega)
  | cons m ms =>
    have hc:al prog 254 [.agg m.enc] σ fun v σ' => v = .bool m.mZ∧σ' = σ:=aaw m σ (by have:=nu (n:=n) (m:=m) (by rw[e9];simp);omega)
    repeat' (first
      | (refine jO (fun h=>?_) (fun h=>?_)<;>simp only[am,h,aE,Nd.fl,e9])
      | (refine fL (fun h=>?_) (fun h=>?_)<;>simp only[gN,h,Nat.reduceAdd,Nat.reduceEqDiff,aE,e9])
      | (refine j1 (fun h=>?_) (fun h=>?_)<;>simp only[gN,h,Nat.reduceAdd,Nat.reduceEqDiff,aE,e9])
      | (refine(qX n.text _).mono ?_;rintro v _ ⟨rfl,rfl⟩;simp only[am])
      | (refine bD (by omega) (c:=m.enc) (by simp) ?_;simp only[am,Nd.af])
      | (refine hc.mono ?_;rintro v _ ⟨rfl,rfl⟩;simp only[am])
    )
    all_goals refine az ?_
    all_goals simp_all [V.erase,Nd.kh,se]
    all_goals (try omega)
theorem Xf (n:Nd) (σ:ae) (hw:n.wt≤aF):al prog 169 [.agg n.enc] σ fun v σ' => v = .bool n.h_∧σ' = σ:=by
  have hn:=Dt n;have b8:al prog 173 [.sl .no 5 (n.kids.map Nd.enc),.fn (.func 226) [] []] σ fun v σ' => v = .bool (n.kids.all Nd.kh)∧σ' = σ :=
    D8 n.kids σ (by omega) fun m hm=>aeZ m σ (by have:=nu hm;omega)
  refine af2.calls ?_;simp only[aJ,OW,rz]
  by_cases x8:n.kind=10
  · simp only[am,Nd.fl,aD x8]
    repeat' (first
      | (refine jO (fun h=>?_) (fun h=>?_)<;>simp only[am,h,aE,Nd.fl])
      | (refine fL (fun h=>?_) (fun h=>?_)<;>simp only[gN,h,Nat.reduceAdd,Nat.reduceEqDiff,aE])
      | (refine j1 (fun h=>?_) (fun h=>?_)<;>simp only[gN,h,Nat.reduceAdd,Nat.reduceEqDiff,aE])
      | (refine(LY n.names _ (by omega)).mono ?_;rintro v _ ⟨rfl,rfl⟩;simp only[am])
      | (refine b8.mono ?_;rintro v _ ⟨rfl,rfl⟩;simp only[am])
    )
    all_goals refine az ?_
    all_goals simp_all [V.erase,Nd.h_]
    all_goals (try omega)
  · simp only[am,Nd.fl,aB x8]
    repeat' (first
      | (refine jO (fun h=>?_) (fun h=>?_)<;>simp only[am,h,Nd.af])
      | (refine fL (fun h=>?_) (fun h=>?_)<;>simp only[gN,h,Nat.reduceAdd,Nat.reduceEqDiff,aE])
      | (refine j1 (fun h=>?_) (fun h=>?_)<;>simp only[gN,h,Nat.reduceAdd,Nat.reduceEqDiff,aE])
      | (refine(CC _ n _ (bt _) hw).mono ?_;rintro v _ ⟨rfl,rfl⟩;simp only[am])
    )
    all_goals refine az ?_
    all_goals simp_all [V.erase,Nd.h_]
    all_goals (try omega)
end Go.Proofs.Tryz
