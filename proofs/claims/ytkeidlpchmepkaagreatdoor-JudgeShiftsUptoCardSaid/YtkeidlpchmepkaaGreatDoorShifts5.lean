/-
  Part 5 of the proof of JudgeShiftsUptoCardSaid: a logic over the model, the forms of the functions that the law reaches, and what they compute.
-/
import Derived.Test.YtkeidlpchmepkaaGreatDoorProg
import Derived.Test.YtkeidlpchmepkaaGreatDoorShifts4
set_option linter.unusedVariables false
set_option linter.unusedSimpArgs false
set_option linter.defProp false
set_option linter.unusedSectionVars false
namespace Go.Proofs.Tryz
open Go.Am
set_option maxRecDepth 4000
set_option maxHeartbeats 4000000
def MC:AC:=.seq (.aa [⟨(some 2),.mv (.c (.int .u64 0)),none⟩])
 (.seq (.aa [⟨(some 3),.mv (.c (.int .u64 0)),none⟩])
 (.seq (.seq (.aa [U 6 0,xL 7 6,xi 8 0])
 (.block 0 (.loop (.seq (.aa [xb .lss 9 8 7])
 (.seq (.cond (.s 9) (.skip)
 (.exit 0))
 (.seq (.block 1 (.seq (.aa [xA 1 10 6 8,xo 11 10,U 5 11])
 (.aa [U 12 3,U 13 5,xc 220 14 [.s 12,.s 13],U 3 14])))
 (.aa [xB .add 15 8 1,U 8 15])))))))
 (.seq (.aa [U 16 3,U 2 16])
 (.ret))))
theorem ac3:aJ prog 215 MC [.tmp 2] 17:=⟨f215,⟨[],[],[]⟩,func215,by kernel_rfl,by kernel_rfl,by kernel_rfl,by kernel_rfl⟩
def MI:AC:=.seq (.aa [⟨(some 4),.mv (.c (.int .u64 0)),none⟩])
 (.seq (.seq (.aa [U 5 1,xc 253 6 [.s 5],⟨(some 7),.not (.s 6),none⟩])
 (.cond (.s 7) (.seq (.aa [U 8 0,U 4 8])
 (.ret))
 (.skip)))
 (.seq (.aa [U 9 0,U 10 1,⟨(some 11),.lS .u64 (.s 10),none⟩,⟨(some 12),.de .shl (.c (.int .u64 1)) (.s 11),none⟩,xb .or 13 9 12,U 4 13])
 (.ret)))
theorem adb:aJ prog 220 MI [.tmp 4] 14:=⟨f220,⟨[],[],[]⟩,func220,by kernel_rfl,by kernel_rfl,by kernel_rfl,by kernel_rfl⟩
def MJ:AC:=.seq (.aa [⟨(some 4),.mv (.c (.bool false)),none⟩])
 (.seq (.aa [U 5 1,xc 253 6 [.s 5],U 7 6,xg 7 (U 8 0),xg 7 (U 9 1),⟨(some 10),.lS .u64 (.s 9),(some (7,true))⟩,xg 7 (xb .shr 11 8 10),⟨(some 12),.de .and (.s 11) (.c (.int .u64 1)),(some (7,true))⟩,⟨(some 13),.de .eql (.s 12) (.c (.int .u64 1)),(some (7,true))⟩,⟨(some 14),.pick (.s 7) (.s 13) (.c (.bool false)),none⟩,U 4 14])
 (.ret))
theorem ade:aJ prog 221 MJ [.tmp 4] 15:=⟨f221,⟨[],[],[]⟩,func221,by kernel_rfl,by kernel_rfl,by kernel_rfl,by kernel_rfl⟩
def M4:AC:=.seq (.aa [⟨(some 2),.mv (.c (.sl .full 1 [])),none⟩])
 (.seq (.aa [⟨(some 3),.lO [(.sl .full 1 [])],none⟩])
 (.seq (.aa [U 4 0,⟨(some 5),.gG (.func 269) [] [(.s 3)],none⟩,xc 268 6 [.s 4,.s 5]])
 (.seq (.aa [xo 7 3,U 2 7])
 (.ret))))
theorem adx:aJ prog 249 M4 [.tmp 2] 8:=⟨f249,⟨[3],[],[]⟩,func249,by kernel_rfl,by kernel_rfl,by kernel_rfl,by kernel_rfl⟩
def M5:AC:=.seq (.aa [⟨(some 4),.mv (.c (.bool false)),none⟩])
 (.seq (.aa [U 5 0,U 6 1,xb .andNot 7 5 6,⟨(some 8),.de .eql (.s 7) (.c (.int .u64 0)),none⟩,U 4 8])
 (.ret))
theorem ady:aJ prog 250 M5 [.tmp 4] 9:=⟨f250,⟨[],[],[]⟩,func250,by kernel_rfl,by kernel_rfl,by kernel_rfl,by kernel_rfl⟩
def M8:AC:=.seq (.aa [⟨(some 2),.mv (.c (.bool false)),none⟩])
 (.seq (.aa [U 3 0,xB .geq 4 3 0,U 5 4,xg 5 (U 6 0),xg 5 (xB .lss 7 6 64),⟨(some 8),.pick (.s 5) (.s 7) (.c (.bool false)),none⟩,U 2 8])
 (.ret))
theorem adB:aJ prog 253 M8 [.tmp 2] 9:=⟨f253,⟨[],[],[]⟩,func253,by kernel_rfl,by kernel_rfl,by kernel_rfl,by kernel_rfl⟩
def Nh:AC:=.seq (.aa [⟨(some 2),.mv (.c (.int .u64 0)),none⟩])
 (.seq (.seq (.aa [U 3 0,xB .leq 4 3 0])
 (.cond (.s 4) (.seq (.aa [⟨(some 2),.mv (.c (.int .u64 0)),none⟩])
 (.ret))
 (.skip)))
 (.seq (.seq (.aa [U 5 0,xB .geq 6 5 64])
 (.cond (.s 6) (.seq (.aa [⟨(some 2),.mv (.c (.int .u64 18446744073709551615)),none⟩])
 (.ret))
 (.skip)))
 (.seq (.aa [U 7 0,⟨(some 8),.lS .u64 (.s 7),none⟩,⟨(some 9),.de .shl (.c (.int .u64 1)) (.s 8),none⟩,⟨(some 10),.de .sub (.s 9) (.c (.int .u64 1)),none⟩,U 2 10])
 (.ret))))
theorem adK:aJ prog 267 Nh [.tmp 2] 11:=⟨f267,⟨[],[],[]⟩,func267,by kernel_rfl,by kernel_rfl,by kernel_rfl,by kernel_rfl⟩
def Ni:AC:=.block 0 (.loop (.seq (.seq (.aa [U 4 0,⟨(some 5),.de .neq (.s 4) (.c (.int .u64 0)),none⟩])
 (.cond (.s 5) (.skip)
 (.exit 0)))
 (.block 1 (.seq (.seq (.aa [U 6 1,U 7 0,xc 278 8 [.s 7],⟨(some 9),.fR (.s 6) [(.s 8)],none⟩,⟨(some 10),.not (.s 9),none⟩])
 (.cond (.s 10) (.ret)
 (.skip)))
 (.aa [U 11 0,U 12 0,⟨(some 13),.de .sub (.s 12) (.c (.int .u64 1)),none⟩,xb .and 14 11 13,U 0 14])))))
theorem adL:aJ prog 268 Ni [] 15:=⟨f268,⟨[],[],[]⟩,func268,by kernel_rfl,by kernel_rfl,by kernel_rfl,by kernel_rfl⟩
def Nj:AC:=.seq (.aa [⟨(some 3),.mv (.c (.bool false)),none⟩])
 (.seq (.aa [xo 4 1,U 5 0,⟨(some 6),.cB 1 [(.s 5)],none⟩,xa 1 7 4 6,xs 1 1 7])
 (.seq (.aa [⟨(some 3),.mv (.c (.bool true)),none⟩])
 (.ret)))
theorem adM:aJ prog 269 Nj [.tmp 3] 8:=⟨f269,⟨[],[],[]⟩,func269,by kernel_rfl,by kernel_rfl,by kernel_rfl,by kernel_rfl⟩
def Nr:AC:=.seq (.aa [xi 2 0])
 (.seq (.seq (.aa [U 3 0,⟨(some 4),.de .eql (.s 3) (.c (.int .u64 0)),none⟩])
 (.cond (.s 4) (.seq (.aa [xi 2 64])
 (.ret))
 (.skip)))
 (.seq (.aa [U 5 0,U 6 0,⟨(some 7),.de .sub (.c (.int .u64 0)) (.s 6),none⟩,xb .and 8 5 7,⟨(some 9),.de .mul (.s 8) (.c (.int .u64 285870213051353865)),none⟩,⟨(some 10),.de .shr (.s 9) (.c (.int .u64 58)),none⟩,⟨(some 11),.eJ 64 1 (.c (.ptr (.iB 1) 0)) (.s 10),none⟩,xo 12 11,⟨(some 13),.lS .i64 (.s 12),none⟩,U 2 13])
 (.ret)))
theorem adT:aJ prog 278 Nr [.tmp 2] 14:=⟨f278,⟨[],[],[]⟩,func278,by kernel_rfl,by kernel_rfl,by kernel_rfl,by kernel_rfl⟩
def hZ (l:List Int):List (List V):=l.map fun n=>[.int .i64 n]
theorem Ds (l:List Int):(hZ l).length=l.length:=by simp[hZ]
theorem Dr {l:List Int} {j:Nat} (h:j<l.length):(hZ l)[((j:Nat):Int).toNat]?=some [.int .i64 l[j]]:=by simp[hZ,h]
theorem SC (n:Int) (σ:ab):ak prog 253 [.int .i64 n] σ fun v σ' => v = .bool (decide (0≤n)&&decide (n<64))∧σ' = σ:=by
  refine adB.calls ?_;simp only[aI,M8,am,aP]
  by_cases h:0≤n
  · simp only[am,aC h];refine az ?_;simp[V.erase]
  · simp only[am,aA h];refine az ?_;simp[V.erase]
def VV:=And.intro @am <| And.intro @aP <| And.intro @p8 @Ki
theorem A5 (s:aU) (n:Int) (σ:ab):ak prog 220 [.int .u64 (s.toNat:Nat),.int .i64 n] σ fun v σ' => v = .int .u64 ((im s n).toNat:Nat)∧σ' = σ:=by
  refine adb.calls ?_;simp only[aI,MI,VV,Nat.reduceAdd];refine cl (SC n _) ?_;simp only[am]
  by_cases h:0≤n∧n<64
  · obtain⟨m,rfl⟩:∃m:Nat,n=m:=⟨n.toNat,by omega⟩;simp only[am,yY,Kj,aC h.1,aC h.2,wrap_u64 h.1 (by omega:(m:Int)<18446744073709551616)];refine az ?_;simp[V.erase,im,h,nx]
  · have:(decide (0≤n)&&decide (n<64))=false:=by simp only[BL,xC];omega
    simp only[am,this];refine az ?_;simp[V.erase,im,h]
theorem A4 (l:List Int) (σ:ab) (hl:l.length≤100000):ak prog 215 [.sl .no 1 (hZ l)] σ fun v σ' => v = .int .u64 ((lF l).toNat:Nat)∧σ' = σ:=by
  refine ac3.calls ?_;simp only[aI,MC,am,aP,p8];obtain⟨F,hF⟩:∃F:Nat→aU→St,∀i x,F i x=⟨[.sl .no 1 (hZ l),.any,.int .u64 ((0#64:aU).toNat:Nat),.int .u64 (x.toNat:Nat),.any,.any,.sl .no 1 (hZ l),.int .i64 (l.length:Nat),.int .i64 (i:Nat)]++List.replicate 8 .any,[],σ⟩:=⟨_,fun _ _=>rfl⟩;obtain⟨JF,aO⟩:∃JF:Nat→aU→Prop,∀i x,JF i x=(x=lF (l.take i)):=⟨_,fun _ _=>rfl⟩;refine db (l.length) F JF _ aO ?_ ?_ ?_
  · refine dA (0#64) ?_ ?_ ?_ ?_
    · exact Eq.mpr (aO _ _) (rfl)
    all_goals simp[hF,List.replicate,am,bj,Ds]
  · rintro i x hi rfl;simp only[hF,List.replicate,am,c8 hi];refine bx (by omega) (Dr hi) ?_;simp only[am];refine cl (A5 _ _ _) ?_;simp only[am,aM,ca hi (by omega)];refine nxt (im (lF (l.take i)) l[i]) hi ?_ ?_ ?_ ?_
    · exact Eq.mpr (aO _ _) (by rw[jV hi];simp only[lF,zd,qe,List.foldl_nil])
    all_goals simp[hF,List.replicate,am,bj]
  · rintro x rfl;simp only[hF,List.replicate,am,aM,c9,aM,dv];refine az ?_;simp[V.erase]
theorem anB (s:aU) (m:Nat):decide (s>>>m&&&1#64=1#64)=s.getLsbD m:=by
  have:(s>>>m&&&1#64=1#64)↔s.getLsbD m=true:=by
    constructor
    · intro h
      have:=gj (fun x:aU=>x.getLsbD 0) h
      simpa using this
    · intro h;apply xG;intro k hk;rw[wK,BitVec.getLsbD_ushiftRight,BitVec.getLsbD_one]
      by_cases h0:k=0
      · subst h0;simp[h]
      · simp[h0]
  by_cases hc:s.getLsbD m=true
  · rw[hc,aC (this.2 hc)]
  · rw[aA (fun h=>hc (this.1 h))];simpa using hc
def z1_:=And.intro @am <| And.intro @sI <| And.intro @Kk @yX
theorem aiJ (s:aU) (n:Int) (σ:ab):ak prog 221 [.int .u64 (s.toNat:Nat),.int .i64 n] σ fun v σ' => v = .bool (hasB s n)∧σ' = σ:=by
  refine ade.calls ?_;simp only[aI,MJ,am,aP,Nat.reduceAdd,Ki];refine cl (SC n _) ?_;simp only[am]
  by_cases h:0≤n∧n<64
  · obtain⟨m,rfl⟩:∃m:Nat,n=m:=⟨n.toNat,by omega⟩;simp only[z1_,aC h.1,aC h.2,wrap_u64 h.1 (by omega:(m:Int)<18446744073709551616),anB];refine az ?_;simp[V.erase,hasB]
  · have:(decide (0≤n)&&decide (n<64))=false:=by simp only[BL,xC];omega
    simp only[am,this];refine az ?_;simp[V.erase,hasB];intro h0;exact y9 _ _ (by omega)
def VW:=And.intro @am <| And.intro @aP <| And.intro @p8 <| And.intro @Vx @yX
theorem aiK (a b:aU) (σ:ab):ak prog 250 [.int .u64 (a.toNat:Nat),.int .u64 (b.toNat:Nat)] σ fun v σ' => v = .bool (wx a b)∧σ' = σ:=by
  refine ady.calls ?_;simp only[aI,M5,VW,Nat.reduceAdd];refine az ?_;simp[V.erase,wx]
def z3_:=And.intro @am <| And.intro @aP <| And.intro @p8 <| And.intro @Ki @ao5
theorem A3 (n:Int) (σ:ab):ak prog 267 [.int .i64 n] σ fun v σ' => v = .int .u64 ((lR n).toNat:Nat)∧σ' = σ:=by
  refine adK.calls ?_;simp only[aI,Nh,z3_]
  by_cases h:n≤0
  · simp only[am,aC h];refine az ?_;simp[V.erase,lR,h]
  · simp only[am,aA h]
    by_cases h1:64≤n
    · simp only[am,aC h1];refine az ?_;simp[V.erase,lR,h,h1]
    · obtain⟨m,rfl⟩:∃m:Nat,n=m:=⟨n.toNat,by omega⟩;simp only[am,Kj,Kl,aA h1,wrap_u64 (by omega:0≤(m:Int)) (by omega:(m:Int)<18446744073709551616)];have e:lR (m:Int)=nx m - 1#64:=by simp only[lR,h,h1,ey,iv]
      refine az ?_;simp[V.erase,e,nx]
abbrev TZ (σ:ab):Prop:=σ.bH 1=some sE
theorem aoz (s:aU) (h:s≠0#64) {σ:ab} (hg:TZ σ):ak prog 278 [.int .u64 (s.toNat:Nat)] σ fun v σ' => v = .int .i64 (lE s:Nat)∧σ' = σ:=by
  refine adT.calls ?_;simp only[aI,Nr,VW];obtain⟨h1,h2⟩:=aoy (lE s) (AY h).1;simp only[am,sI,Kl,aA h,show V.int .u64 285870213051353865 = .int .u64 ((285870213051353865#64:aU).toNat:Nat) from rfl,ao3];rw[BitVec.zero_sub,ai0 h];generalize hj:((nx (lE s)*285870213051353865#64)>>>58).toNat=j at h1 h2;have Z5:∀a:aU,gg .u64 (a.toNat:Nat) 58 .shr=some (.int .u64 ((a>>>58).toNat:Nat)):=fun a=>Kk (m:=58)
  simp only[am,bV,Z5,hj];refine iH (by omega) (by omega) ?_;have hd:a9 false 1 (sE.drop j)=some (.int .u8 (lE s:Nat)):=by
    obtain⟨h3,h4⟩:=dj.1 h2;have h5:j<sE.length:=by simpa [sE] using h3
    rw[jU h5];simp[a9,sE,h4]
  rw[show (((j:Nat):Int).toNat)*1=j by omega];simp only[am,show σ.bH 1=some sE from hg,hd,wrap_i64 (x:=((lE s:Nat):Int)) (by omega) (by have:=(AY h).1;omega)];refine az ?_;simp[V.erase]
def z4_:=And.intro @am <| And.intro @aM <| And.intro @sI @Kl
theorem Z6 (f:FuncId) (cap:List V) (hn:bd cap=true) (J:List Nat→ab→Prop) (s:aU) (hg:∀l σ,J l σ→TZ σ)
    (h:∀pre k Ve σ,dY s=pre++k::Ve→J pre σ→ak prog f (.int .i64 (k:Nat)::cap) σ fun v σ' => v = .bool true∧J (pre++[k]) σ')
    {σ:ab} (h0:J [] σ):ak prog 268 [.int .u64 (s.toNat:Nat),.fn (.func f) [] cap] σ fun v σ' => v = .aT []∧J (dY s) σ' := by
  refine adL.calls ?_;simp only[aI,Ni,VV,Nat.reduceAdd];obtain⟨F,hF⟩:∃F:Nat→aU × ab→St,∀i x,F i x=⟨[.int .u64 (x.1.toNat:Nat),.fn (.func f) [] cap]++List.replicate 13 .any,[],x.2⟩:=⟨_,fun _ _=>rfl⟩;obtain⟨JF,aO⟩:∃JF:Nat→aU × ab→Prop,∀i x,JF i x=(dY x.1=(dY s).drop i∧J ((dY s).take i) x.2):=⟨_,fun _ _=>rfl⟩;refine db ((dY s).length) F JF _ aO ?_ ?_ ?_
  · refine dA ((s,σ)) ?_ ?_ ?_ ?_
    · exact Eq.mpr (aO _ _) (⟨rfl,h0⟩)
    all_goals simp[hF,List.replicate,am,bj]
  · rintro i ⟨x,σ⟩ hi ⟨h1,h2⟩;simp only at h1 h2;have hx:x≠0#64:=ah5 (by rw[h1];simp;omega);rw[jU hi] at h1;have hl:=Sm hx;rw[h1,eP] at hl;obtain⟨yf,kl⟩:=hl;simp only[hF,List.replicate,am,yX,aA hx];refine cl (aoz x hx (hg _ _ h2)) ?_;simp only[am];simp only[am,hn];rw[←yf];refine(h _ _ ((dY s).drop (i+1)) σ (by rw[←jU hi,my]) h2).mono ?_;rintro v σ' ⟨rfl,h3⟩;simp only[z4_];refine nxt ((x&&&(x - 1#64),σ')) hi ?_ ?_ ?_ ?_
    · exact Eq.mpr (aO _ _) (⟨kl.symm,by rw[jV hi];exact h3⟩)
    all_goals simp[hF,List.replicate,am,bj]
  · rintro⟨x,σ⟩ ⟨h1,h2⟩;simp only[BP,dv] at h1 h2;have hx:=ah7 h1;subst hx;simp only[hF,List.replicate,am,aM,bQ,aM];exact aF rfl (ab.aS _) ⟨rfl,h2⟩
def Bx (ck σ:ab) (b:Nat) (tk:Tk) (rows:List (List V)):Prop:=σ.box b=some [.sl tk 1 rows]∧Gr ck σ tk rows.length∧ck.box b=none
theorem ah3 (n:Int) {ck σ:ab} {b:Nat} {tk:Tk} {l:List Int} (h:Bx ck σ b tk (hZ l)) (hl:l.length≤100000) :
    ak prog 269 [.int .i64 n,.ptr (.out b) 0] σ fun v σ' => v = .bool true∧∃iP,Bx ck σ' b iP (hZ (l++[n])):=by
  refine adM.calls ?_;simp only[aI,Nj,am,aP,Nat.reduceAdd];obtain⟨h1,h2,h3⟩:=h;simp only[am,h1];refine Gr.app h2 (by simp[hZ,aE];omega) fun iP σ' hG hB _=>?_
  simp only[am,show σ'.box b=some [.sl tk 1 (hZ l)] by rw[hB,h1]];refine aF rfl (ab.aS _) ⟨rfl,iP,?_,?_,h3⟩
  · simp[ab.set,hZ]
  · refine⟨⟨fun c cs hc=>?_,hG.sub.2⟩,?_⟩
    · rw[ab.cN]
      · exact hG.sub.1 c cs hc
      · rintro rfl;rw[h3] at hc;simp at hc
    · simpa [hZ,ab.set] using hG.tk
theorem IB (s:aU) {σ:ab} (hg:TZ σ):ak prog 249 [.int .u64 (s.toNat:Nat)] σ fun v σ' => v = .sl .no 1 (hZ ((dY s).map Int.ofNat))∧σ' = σ:=by
  refine adx.calls ?_;simp only[aI,M4,am,aP];refine gE fun b hb=>?_
  simp only[am];have hl:=DP s;refine(Z6 _ _ rfl (fun l σ' => ∃tk,Bx σ σ' b tk (hZ (l.map Int.ofNat))) s ?_ ?_ ⟨.full,?_⟩).mono ?_
  · rintro l σ' ⟨tk,h1,h2,h3⟩;exact h2.sub.2.2 _ _ hg
  · rintro pre k Ve σ' hs ⟨tk,h⟩
    have:pre.length≤64:=by rw[hs] at hl;simp at hl;omega
    have:=ah3 k h (by simp;omega)
    simpa using this
  · exact⟨gU,⟨fv hb,.inl rfl⟩,hb⟩
  · rintro v σ' ⟨rfl,tk,h1,h2,h3⟩;simp only[am,h1];exact aF rfl h2.sub ⟨rfl,rfl⟩
def L2:AC:=.seq (.aa [⟨(some 1),.box 65 (.s 0),none⟩,⟨(some 2),.mv (.c (.bool false)),none⟩])
 (.seq (.seq (.aa [xl 65 4 1,xc 212 5 [.s 4],⟨(some 6),.not (.s 5),none⟩])
 (.cond (.s 6) (.seq (.aa [⟨(some 2),.mv (.c (.bool false)),none⟩])
 (.ret))
 (.skip)))
 (.seq (.seq (.aa [xl 65 7 1,xc 213 8 [.s 7],xi 9 0])
 (.block 0 (.loop (.seq (.aa [xb .lss 10 9 8])
 (.seq (.cond (.s 10) (.skip)
 (.exit 0))
 (.seq (.block 1 (.seq (.aa [U 11 9,U 3 11])
 (.seq (.aa [xl 65 12 1,U 13 3,xc 214 14 [.s 12,.s 13],U 15 3,⟨(some 16),.cB 1 [(.s 15)],none⟩,xc 215 17 [.s 16],xb .neq 18 14 17])
 (.cond (.s 18) (.seq (.aa [⟨(some 2),.mv (.c (.bool false)),none⟩])
 (.ret))
 (.skip)))))
 (.aa [xB .add 19 9 1,U 9 19])))))))
 (.seq (.aa [⟨(some 2),.mv (.c (.bool true)),none⟩])
 (.ret))))
theorem acr:aJ prog 161 L2 [.tmp 2] 20:=⟨f161,⟨[],[],[]⟩,func161,by kernel_rfl,by kernel_rfl,by kernel_rfl,by kernel_rfl⟩
def L5:AC:=.seq (.aa [⟨(some 1),.box 65 (.s 0),none⟩,⟨(some 2),.alloc mW,none⟩])
 (.seq (.aa [xl 65 7 1,xc 219 8 [.s 7],⟨(some 3),.alloc mW,none⟩,xs 65 3 8])
 (.seq (.seq (.aa [xf 0 9 3,xo 10 9,xi 11 0])
 (.block 0 (.loop (.seq (.aa [xb .lss 12 11 10])
 (.seq (.cond (.s 12) (.skip)
 (.exit 0))
 (.seq (.block 1 (.seq (.aa [U 13 11,U 4 13])
 (.aa [U 14 4,U 15 4,xf 1 16 3,⟨(some 17),.eJ 64 1 (.s 16) (.s 15),none⟩,xo 18 17,U 19 4,xc 220 20 [.s 18,.s 19],xf 1 21 3,⟨(some 22),.eJ 64 1 (.s 21) (.s 14),none⟩,xs 1 22 20])))
 (.aa [xB .add 23 11 1,U 11 23])))))))
 (.seq (.seq (.aa [xf 0 24 3,xo 25 24,xi 26 0])
 (.block 2 (.loop (.seq (.aa [xb .lss 27 26 25])
 (.seq (.cond (.s 27) (.skip)
 (.exit 2))
 (.seq (.block 3 (.seq (.aa [U 28 26,U 5 28])
 (.seq (.aa [xf 0 29 3,xo 30 29,xi 31 0])
 (.block 4 (.loop (.seq (.aa [xb .lss 32 31 30])
 (.seq (.cond (.s 32) (.skip)
 (.exit 4))
 (.seq (.block 5 (.seq (.aa [U 33 31,U 6 33])
 (.seq (.aa [U 34 6,xf 1 35 3,⟨(some 36),.eJ 64 1 (.s 35) (.s 34),none⟩,xo 37 36,U 38 5,xc 221 39 [.s 37,.s 38]])
 (.cond (.s 39) (.draw [(U 40 6,[]),(xf 1 41 3,[]),(⟨(some 42),.eJ 64 1 (.s 41) (.s 40),none⟩,[]),(xo 43 42,[]),(U 44 5,[]),(xf 1 45 3,[]),(⟨(some 46),.eJ 64 1 (.s 45) (.s 44),none⟩,[]),(xo 47 46,[]),(xb .or 48 43 47,[]),(xf 1 49 3,[]),(⟨(some 50),.eJ 64 1 (.s 49) (.s 40),none⟩,[]),(xs 1 50 48,[])])
 (.skip)))))
 (.aa [xB .add 51 31 1,U 31 51])))))))))
 (.aa [xB .add 52 26 1,U 26 52])))))))
 (.seq (.aa [xl 65 53 3,xs 65 2 53])
 (.ret)))))
theorem acv:aJ prog 164 L5 [.cell 2 true 65] 54:=⟨f164,⟨[],[],[]⟩,func164,by kernel_rfl,by kernel_rfl,by kernel_rfl,by kernel_rfl⟩
def Mz:AC:=.seq (.aa [⟨(some 1),.box 65 (.s 0),none⟩,⟨(some 2),.mv (.c (.bool false)),none⟩])
 (.seq (.draw [(xl 65 3 1,[]),(xc 219 4 [.s 3],[]),(xl 65 5 1,[0]),(xc 164 6 [.s 5],[]),(⟨(some 7),.jw false Jo (.s 4) (.s 6),none⟩,[]),(U 2 7,[])])
 (.ret))
theorem ac0:aJ prog 212 Mz [.tmp 2] 8:=⟨f212,⟨[],[],[]⟩,func212,by kernel_rfl,by kernel_rfl,by kernel_rfl,by kernel_rfl⟩
def MA:AC:=.seq (.aa [⟨(some 1),.box 65 (.s 0),none⟩,xi 2 0])
 (.seq (.aa [xf 0 3 1,xo 4 3,⟨(some 5),.own .min [(.s 4),(.c (.int .i64 64))],none⟩,⟨(some 6),.own .max [(.c (.int .i64 0)),(.s 5)],none⟩,U 2 6])
 (.ret))
theorem ac1:aJ prog 213 MA [.tmp 2] 7:=⟨f213,⟨[],[],[]⟩,func213,by kernel_rfl,by kernel_rfl,by kernel_rfl,by kernel_rfl⟩
def MB:AC:=.seq (.aa [⟨(some 2),.box 65 (.s 0),none⟩,⟨(some 4),.mv (.c (.int .u64 0)),none⟩])
 (.seq (.aa [U 6 1,⟨(some 7),.cB 1 [(.s 6)],none⟩,xc 215 8 [.s 7],U 5 8])
 (.seq (.draw [(xl 65 9 2,[]),(U 10 5,[]),(xc 247 11 [.s 9,.s 10],[]),(xl 65 12 2,[0]),(U 13 5,[]),(xc 248 14 [.s 12,.s 13],[]),(xb .and 15 11 14,[]),(U 4 15,[])])
 (.ret)))
theorem ac2:aJ prog 214 MB [.tmp 4] 16:=⟨f214,⟨[],[],[]⟩,func214,by kernel_rfl,by kernel_rfl,by kernel_rfl,by kernel_rfl⟩
def MG:AC:=.seq (.aa [⟨(some 1),.box 65 (.s 0),none⟩,⟨(some 2),.alloc mW,none⟩])
 (.seq (.aa [xl 65 5 1,xc 213 6 [.s 5],⟨(some 7),.build mW [(0,1,(.s 6))],none⟩,⟨(some 3),.alloc mW,none⟩,xs 65 3 7])
 (.seq (.seq (.aa [xf 0 8 3,xo 9 8,xi 10 0])
 (.block 0 (.loop (.seq (.aa [xb .lss 11 10 9])
 (.seq (.cond (.s 11) (.skip)
 (.exit 0))
 (.seq (.block 1 (.seq (.aa [U 12 10,U 4 12])
 (.aa [U 13 4,xl 65 14 1,U 15 4,xc 252 16 [.s 14,.s 15],xf 1 17 3,⟨(some 18),.eJ 64 1 (.s 17) (.s 13),none⟩,xs 1 18 16])))
 (.aa [xB .add 19 10 1,U 10 19])))))))
 (.seq (.aa [xl 65 20 3,xs 65 2 20])
 (.ret))))
theorem ac':aJ prog 219 MG [.cell 2 true 65] 21:=⟨f219,⟨[],[],[]⟩,func219,by kernel_rfl,by kernel_rfl,by kernel_rfl,by kernel_rfl⟩
def MK:AC:=.seq (.aa [⟨(some 2),.alloc mW,none⟩])
 (.seq (.aa [U 3 0,⟨(some 4),.build mW [(0,1,(.s 3))],none⟩,xc 213 5 [.s 4],⟨(some 6),.build mW [(0,1,(.s 5))],none⟩,xs 65 2 6])
 (.ret))
theorem adf:aJ prog 222 MK [.cell 2 true 65] 7:=⟨f222,⟨[],[],[]⟩,func222,by kernel_rfl,by kernel_rfl,by kernel_rfl,by kernel_rfl⟩
def M1:AC:=.seq (.aa [⟨(some 2),.box 65 (.s 0),none⟩,⟨(some 4),.mv (.c (.int .u64 0)),none⟩])
 (.seq (.aa [⟨(some 5),.mv (.c (.int .u64 0)),none⟩])
 (.seq (.seq (.aa [U 8 1,xl 65 9 2,xc 213 10 [.s 9],xc 267 11 [.s 10],xb .and 12 8 11,xc 249 13 [.s 12],xL 14 13,xi 15 0])
 (.block 0 (.loop (.seq (.aa [xb .lss 16 15 14])
 (.seq (.cond (.s 16) (.skip)
 (.exit 0))
 (.seq (.block 1 (.seq (.aa [xA 1 17 13 15,xo 18 17,U 7 18])
 (.aa [U 19 5,xl 65 20 2,U 21 7,xc 252 22 [.s 20,.s 21],xb .or 23 19 22,U 5 23])))
 (.aa [xB .add 24 15 1,U 15 24])))))))
 (.seq (.aa [U 25 5,U 4 25])
 (.ret))))
theorem adv:aJ prog 247 M1 [.tmp 4] 26:=⟨f247,⟨[],[],[]⟩,func247,by kernel_rfl,by kernel_rfl,by kernel_rfl,by kernel_rfl⟩
def M3:AC:=.seq (.aa [⟨(some 2),.box 65 (.s 0),none⟩,⟨(some 4),.mv (.c (.int .u64 0)),none⟩])
 (.seq (.aa [⟨(some 5),.mv (.c (.int .u64 0)),none⟩])
 (.seq (.seq (.aa [xl 65 7 2,xc 213 8 [.s 7],xi 9 0])
 (.block 0 (.loop (.seq (.aa [xb .lss 10 9 8])
 (.seq (.cond (.s 10) (.skip)
 (.exit 0))
 (.seq (.block 1 (.seq (.aa [U 11 9,U 6 11])
 (.seq (.aa [xl 65 12 2,U 13 6,xc 252 14 [.s 12,.s 13],U 15 1,xb .and 16 14 15,⟨(some 17),.de .neq (.s 16) (.c (.int .u64 0)),none⟩])
 (.cond (.s 17) (.aa [U 18 5,U 19 6,xc 220 20 [.s 18,.s 19],U 5 20])
 (.skip)))))
 (.aa [xB .add 21 9 1,U 9 21])))))))
 (.seq (.aa [U 22 5,U 4 22])
 (.ret))))
theorem adw:aJ prog 248 M3 [.tmp 4] 23:=⟨f248,⟨[],[],[]⟩,func248,by kernel_rfl,by kernel_rfl,by kernel_rfl,by kernel_rfl⟩
def M7:AC:=.seq (.aa [⟨(some 2),.box 65 (.s 0),none⟩,⟨(some 4),.mv (.c (.int .u64 0)),none⟩])
 (.seq (.draw [(U 5 1,[]),(xf 1 6 2,[]),(⟨(some 7),.eJ 64 1 (.s 6) (.s 5),none⟩,[]),(xo 8 7,[1,2]),(xl 65 9 2,[]),(xc 213 10 [.s 9],[]),(xc 267 11 [.s 10],[]),(xb .and 12 8 11,[]),(U 4 12,[])])
 (.ret))
theorem adA:aJ prog 252 M7 [.tmp 4] 13:=⟨f252,⟨[],[],[]⟩,func252,by kernel_rfl,by kernel_rfl,by kernel_rfl,by kernel_rfl⟩
def M':AC:=.seq (.aa [⟨(some 2),.box 65 (.s 0),none⟩,⟨(some 3),.box 65 (.s 1),none⟩,⟨(some 4),.mv (.c (.bool false)),none⟩])
 (.seq (.draw [(xl 65 5 2,[]),(xc 219 6 [.s 5],[]),(xl 65 7 3,[0]),(xc 219 8 [.s 7],[]),(⟨(some 9),.jw false Jo (.s 6) (.s 8),none⟩,[]),(U 4 9,[])])
 (.ret))
theorem adE:aJ prog 256 M' [.tmp 4] 10:=⟨f256,⟨[],[],[]⟩,func256,by kernel_rfl,by kernel_rfl,by kernel_rfl,by kernel_rfl⟩
def z5_:=And.intro @am <| And.intro @lP <| And.intro @aP @Rl.af
theorem wb (r:Rl) (σ:ab):ak prog 213 [.agg r.enc] σ fun v σ' => v = .int .i64 (bf r:Nat)∧σ' = σ:=by
  refine ac1.calls ?_;simp only[aI,MA,z5_];refine aiO ?_;simp only[am,lP];refine aiL ?_;simp only[am];refine az ?_;simp[V.erase];simp only[bf];split<;>split<;>omega
def p_:=And.intro @am <| And.intro @bV <| And.intro @aP <| And.intro @p8 @Rl.af
def z7_:=And.intro @am <| And.intro @Rl.af <| And.intro @iv @og
theorem Jw (r:Rl) (i:Nat) (h:i<64) (σ:ab):ak prog 252 [.agg r.enc,.int .i64 (i:Nat)] σ fun v σ' => v = .int .u64 ((fM r i).toNat:Nat)∧σ' = σ:=by
  refine adA.calls ?_;simp only[aI,M7,p_,Nat.reduceAdd];refine iH (by omega) (by omega) ?_;simp only[z7_,Rl.sF h];refine bh.intro (wb r σ) ?_;simp only[am];refine bh.intro (A3 _ σ) ?_;simp only[am,sI];refine⟨⟨Rl.sF h,Rl.sF h⟩,?_⟩;refine az ?_;simp[V.erase,fM]
def BJ:=And.intro @am <| And.intro @aM <| And.intro @iv @og
theorem D6 (r:Rl) (σ:ab):ak prog 219 [.agg r.enc] σ fun v σ' => v = .agg (j8 r).enc∧σ' = σ:=by
  refine ac'.calls ?_;simp only[aI,MG,am,aP,Rl.af];refine cl (wb r σ) ?_;simp only[am,Nat.reduceAdd,Rl.af];have hp:=@kt r;obtain⟨F,hF⟩:∃F:Nat→Unit→St,∀i x,F i x=⟨[.agg r.enc,.ptr (.loc 0) 0,.ptr (.loc 1) 0,.ptr (.loc 2) 0,.any,.any,.any,.any,.any,.int .i64 (bf r:Nat),.int .i64 (i:Nat)]++List.replicate 10 .any,[r.enc,Rl.zero.enc,(Rl.of (bf r:Nat) fun j=>if j<i then fM r j else 0#64).enc],σ⟩:=⟨_,fun _ _=>rfl⟩;obtain⟨JF,aO⟩:∃JF:Nat→Unit→Prop,∀i x,JF i x=(True):=⟨_,fun _ _=>rfl⟩;refine db (bf r) F JF _ aO ?_ ?_ ?_
  · refine dA (()) ?_ ?_ ?_ ?_
    · exact Eq.mpr (aO _ _) (trivial)
    all_goals simp[hF,List.replicate,am,bj,Rl.VX,Rl.DX]
  · rintro i x hi -;simp only[hF,List.replicate,am,c8 hi,Rl.af];refine cl (Jw r i (by omega) σ) ?_;simp only[am,bV];refine iH (by omega) (by omega) ?_;simp only[BJ,Rl.yQ (show i<64 by omega),Rl.yR (show i<64 by omega),ca hi (by omega)];refine nxt (()) hi ?_ ?_ ?_ ?_
    · exact Eq.mpr (aO _ _) (trivial)
    all_goals simp[hF,List.replicate,am,bj,Rl.fill]
  · rintro x -;simp only[hF,List.replicate,am,aM,c9,aM,Rl.af];refine az ?_;simp[V.erase,j8,Rl.cw]
theorem SM (n:Int) (σ:ab):ak prog 222 [.int .i64 n] σ fun v σ' => v = .agg (Rl.of (min n.toNat 64:Nat) fun _=>0#64).enc∧σ' = σ:=by
  refine adf.calls ?_;simp only[aI,MK,am,aP,Rl.af];refine cl (wb _ σ) ?_;simp only[am,Rl.af];refine az ?_;simp only[V.erase,Rl.cw,Rl.VX];rfl
theorem UE (r s:Rl) (σ:ab):ak prog 256 [.agg r.enc,.agg s.enc] σ fun v σ' => v = .bool (decide (j8 r=j8 s))∧σ' = σ:=by
  refine adE.calls ?_;simp only[aI,M',am,aP,Nat.reduceAdd,Rl.af];refine bh.intro (D6 r σ) ?_;simp only[am,Rl.af];refine bh.intro (D6 s σ) ?_;simp only[am,Rl.af];refine az ?_;simp[V.erase]
theorem EI (r:Rl) (w:aU) {σ:ab} (hg:TZ σ):ak prog 247 [.agg r.enc,.int .u64 (w.toNat:Nat)] σ fun v σ' => v = .int .u64 ((rm r w).toNat:Nat)∧σ' = σ:=by
  refine adv.calls ?_;simp only[aI,M1,p_,Nat.reduceAdd];refine cl (wb r σ) ?_;simp only[am];refine cl (A3 _ σ) ?_;simp only[am,sI];refine cl (IB _ hg) ?_;simp only[am,aD,Ds];generalize hl:dY (w&&&lR ↑(bf r))=l;have ag:∀k∈l,k<64:=fun k hk=>ah4 (hl▸hk)
  have hlen:l.length≤64:=hl▸DP _;obtain⟨F,hF⟩:∃F:Nat→Unit→St,∀i x,F i x=⟨[.agg r.enc,.any,.ptr (.loc 0) 0,.any,.any,.int .u64 (((l.take i).foldl (fun o i=>o|||fM r i) 0#64).toNat:Nat),.any,.any,.any,.any,.any,.any,.any,.sl .no 1 (hZ (l.map Int.ofNat)),.int .i64 (l.length:Nat),.int .i64 (i:Nat)]++List.replicate 10 .any,[r.enc],σ⟩:=⟨_,fun _ _=>rfl⟩;obtain⟨JF,aO⟩:∃JF:Nat→Unit→Prop,∀i x,JF i x=(True):=⟨_,fun _ _=>rfl⟩;refine db (l.length) F JF _ aO ?_ ?_ ?_
  · refine dA (()) ?_ ?_ ?_ ?_
    · exact Eq.mpr (aO _ _) (trivial)
    all_goals simp[hF,List.replicate,am,bj]
  · rintro i x hi -;simp only[hF,List.replicate,am,c8 hi];refine bx (by omega) (Dr (l:=l.map Int.ofNat) (by simpa using hi)) ?_;simp only[am,Rl.af,KV,KK];refine cl (Jw r l[i] (ag _ (eZ hi)) σ) ?_;simp only[am,aM,yY,ca hi (by omega)];refine nxt (()) hi ?_ ?_ ?_ ?_
    · exact Eq.mpr (aO _ _) (trivial)
    all_goals simp[hF,List.replicate,am,bj,Qi hi]
  · rintro x -;simp only[hF,List.replicate,am,aM,c9,aM,dv];refine az ?_;simp[V.erase,rm,hl]
theorem F7 (r:Rl) (w:aU) (σ:ab):ak prog 248 [.agg r.enc,.int .u64 (w.toNat:Nat)] σ fun v σ' => v = .int .u64 ((s9 r w).toNat:Nat)∧σ' = σ:=by
  refine adw.calls ?_;simp only[aI,M3,p_,Nat.reduceAdd];refine cl (wb r σ) ?_;simp only[am];have hp:=@kt r;obtain⟨F,hF⟩:∃F:Nat→Unit→St,∀i x,F i x=⟨[.agg r.enc,.int .u64 (w.toNat:Nat),.ptr (.loc 0) 0,.any,.any,.int .u64 (((List.range i).foldl (fun o i=>if fM r i&&&w=0#64 then o else im o (i:Nat)) 0#64).toNat:Nat),.any,.any,.int .i64 (bf r:Nat),.int .i64 (i:Nat)]++List.replicate 13 .any,[r.enc],σ⟩:=⟨_,fun _ _=>rfl⟩;obtain⟨JF,aO⟩:∃JF:Nat→Unit→Prop,∀i x,JF i x=(True):=⟨_,fun _ _=>rfl⟩;refine db (bf r) F JF _ aO ?_ ?_ ?_
  · refine dA (()) ?_ ?_ ?_ ?_
    · exact Eq.mpr (aO _ _) (trivial)
    all_goals simp[hF,List.replicate,am,bj]
  · rintro i x hi -;simp only[hF,List.replicate,am,c8 hi,Rl.af];refine cl (Jw r i (by omega) σ) ?_;simp only[am,sI,yX]
    by_cases h:fM r i&&&w=0#64
    · simp only[am,aM,aC h,ca hi (by omega)];refine nxt (()) hi ?_ ?_ ?_ ?_
      · exact Eq.mpr (aO _ _) (trivial)
      all_goals simp[hF,List.replicate,am,bj,tu,h]
    · simp only[am,aA h];refine cl (A5 _ _ σ) ?_;simp only[am,aM,ca hi (by omega)];refine nxt (()) hi ?_ ?_ ?_ ?_
      · exact Eq.mpr (aO _ _) (trivial)
      all_goals simp[hF,List.replicate,am,bj,tu,h]
  · rintro x -;simp only[hF,List.replicate,am,aM,c9,aM];refine az ?_;simp[V.erase,s9]
theorem YG {r:Rl} {i:Nat} (hi:i<bf r):(Rl.of (bf r:Nat) fun j=>if j<bf r then (if j<i then im (fM r j) (j:Nat) else fM r j) else 0#64).put i (im (fM r i) (i:Nat))=Rl.of (bf r:Nat) fun j=>if j<bf r then (if j<i+1 then im (fM r j) (j:Nat) else fM r j) else 0#64:=by
  refine Rl.ext rfl fun k hk=>?_
  rw[Rl.xQ,Rl.ke hk,Rl.ke hk]
  by_cases h:i=k
  · subst h;simp[hk,hi]
  · rw[ah (by omega)]
    by_cases h2:k<i
    · simp[h2,show k<i+1 by omega]
    · simp[h2,show ¬k<i+1 by omega]
theorem YF {r:Rl} {i:Nat} (hi:i<bf r):(Rl.of (bf r:Nat) fun j=>if j<bf r then (if j<i then im (fM r j) (j:Nat) else fM r j) else 0#64).get i=fM r i:=by
  rw[Rl.ke (ql hi kt),aw hi,ah (Nat.lt_irrefl _)]
theorem YE {r:Rl}:(Rl.of (bf r:Nat) fun j=>if j<bf r then (if j<bf r then im (fM r j) (j:Nat) else fM r j) else 0#64)=qw r:=by
  refine Rl.ext rfl fun k hk=>?_
  rw[Rl.ke hk,qw,Rl.ke hk];split<;>rfl
theorem RN {n k:Nat} {o:Rl}:ja (n+1) k o=su k (ja n k o) n:=tu
theorem agp {k:Nat} {o:Rl}:ja 0 k o=o:=rfl
theorem aku {r:Rl}:iN r 0=qw r:=rfl
theorem ak0 {r:Rl}:(j8 r).n=(bf r:Nat):=rfl
theorem anU {k i:Nat} {o:Rl} (h:hasB (o.get i) (k:Nat)=true):su k o i=o.put i (o.get i|||o.get k):=by rw[su,aw h]
theorem anT {k i:Nat} {o:Rl} (h:hasB (o.get i) (k:Nat)=false):su k o i=o:=by rw[su,h];rfl
def z9_:=And.intro @am <| And.intro @bV <| And.intro @iv @og
def ap2:=And.intro @am <| And.intro @bV <| And.intro @yY <| And.intro @iv @og
theorem O5 (r:Rl) (σ:ab):ak prog 164 [.agg r.enc] σ fun v σ' => v = .agg (oh r).enc∧σ' = σ:=by
  refine acv.calls ?_;simp only[aI,L5,am,aP,Rl.af];refine cl (D6 r σ) ?_;simp only[am,Nat.reduceAdd,Rl.af,ak0];have hp:=@kt r;obtain⟨F,hF⟩:∃F:Nat→Unit→St,∀i x,F i x=⟨[.any,.ptr (.loc 0) 0,.ptr (.loc 1) 0,.ptr (.loc 2) 0,.any,.any,.any,.any,.any,.any,.int .i64 (bf r:Nat),.int .i64 (i:Nat)]++List.replicate 42 .any,[r.enc,Rl.zero.enc,(Rl.of (bf r:Nat) fun j=>if j<bf r then (if j<i then im (fM r j) (j:Nat) else fM r j) else 0#64).enc],σ⟩:=⟨_,fun _ _=>rfl⟩;obtain⟨JF,aO⟩:∃JF:Nat→Unit→Prop,∀i x,JF i x=(True):=⟨_,fun _ _=>rfl⟩;refine db (bf r) F JF _ aO ?_ ?_ ?_
  · refine dA (()) ?_ ?_ ?_ ?_
    · exact Eq.mpr (aO _ _) (trivial)
    all_goals simp[hF,List.replicate,am,bj,j8]
  · rintro i x hi -;simp only[hF,List.replicate,am,bV,c8 hi];have xU:i<64:=by omega
    refine iH (by omega) (by omega) ?_;simp only[am,iv,og,Rl.sF xU,YF hi];refine cl (A5 _ _ σ) ?_;simp only[am,bV];refine iH (by omega) (by omega) ?_;simp only[BJ,Rl.yQ xU,Rl.yR xU,ca hi (by omega)];refine nxt (()) hi ?_ ?_ ?_ ?_
    · exact Eq.mpr (aO _ _) (trivial)
    all_goals simp[hF,List.replicate,am,bj,YG hi]
  · rintro x -;simp only[hF,List.replicate,am,aM,c9,aM,Rl.af,Rl.DX];rw[YE];clear hF F;obtain⟨F,hF⟩:∃F:Nat→Unit→St,∀k x,F k x=⟨[.any,.ptr (.loc 0) 0,.ptr (.loc 1) 0,.ptr (.loc 2) 0,.any,.any,.any,.any,.any,.any,.any,.any,.any,.any,.any,.any,.any,.any,.any,.any,.any,.any,.any,.any,.any,.int .i64 (bf r:Nat),.int .i64 (k:Nat)]++List.replicate 27 .any,[r.enc,Rl.zero.enc,(iN r k).enc],σ⟩:=⟨_,fun _ _=>rfl⟩;obtain⟨JF,aO⟩:∃JF:Nat→Unit→Prop,∀k x,JF k x=(True):=⟨_,fun _ _=>rfl⟩;refine db (bf r) F JF _ aO ?_ ?_ ?_
    · refine dA (()) ?_ ?_ ?_ ?_
      · exact Eq.mpr (aO _ _) (trivial)
      all_goals simp[hF,List.replicate,am,bj,aku]
    · rintro k x hi -;simp only[hF,List.replicate,am,c8 hi,Rl.af,I5];obtain⟨F2,dG⟩:∃F2:Nat→Unit→St,∀i x,F2 i x=⟨[.any,.ptr (.loc 0) 0,.ptr (.loc 1) 0,.ptr (.loc 2) 0,.any,.int .i64 (k:Nat),.any,.any,.any,.any,.any,.any,.any,.any,.any,.any,.any,.any,.any,.any,.any,.any,.any,.any,.any,.int .i64 (bf r:Nat),.int .i64 (k:Nat),.any,.any,.any,.int .i64 (bf r:Nat),.int .i64 (i:Nat)]++List.replicate 22 .any,[r.enc,Rl.zero.enc,(ja i k (iN r k)).enc],σ⟩:=⟨_,fun _ _=>rfl⟩;obtain⟨ga,fT⟩:∃ga:Nat→Unit→Prop,∀i x,ga i x=(True):=⟨_,fun _ _=>rfl⟩;refine db (bf r) F2 ga _ fT ?_ ?_ ?_
      · refine dA (()) ?_ ?_ ?_ ?_
        · exact Eq.mpr (fT _ _) (trivial)
        all_goals simp[dG,List.replicate,am,bj,agp]
      · rintro i x hj -;have Db:i<64:=by omega
        have afW:k<64:=by omega
        simp only[dG,List.replicate,am,bV,c8 hj];refine iH (by omega) (by omega) ?_;simp only[am,iv,og,Rl.sF Db];refine cl (aiJ _ _ σ) ?_;simp only[am];refine fk (fun hb=>?_) (fun hb=>?_)
        · simp only[am,bV];refine iH (by omega) (by omega) ?_;simp only[z9_,Rl.sF Db];refine iH (by omega) (by omega) ?_;simp only[ap2,Rl.sF afW];refine iH (by omega) (by omega) ?_;simp only[BJ,Rl.yQ Db,Rl.yR Db,ca hj (by omega)];refine nxt (()) hj ?_ ?_ ?_ ?_
          · exact Eq.mpr (fT _ _) (trivial)
          all_goals simp[dG,List.replicate,am,bj,RN,anU hb]
        · simp only[am,aM,ca hj (by omega)];refine nxt (()) hj ?_ ?_ ?_ ?_
          · exact Eq.mpr (fT _ _) (trivial)
          all_goals simp[dG,List.replicate,am,bj,RN,anT hb]
      · rintro x -;simp only[dG,List.replicate,am,aM,c9,Nat.reduceEqDiff,aM,Rl.af,ca hi (by omega)];refine nxt (()) hi ?_ ?_ ?_ ?_
        · exact Eq.mpr (aO _ _) (trivial)
        all_goals simp[hF,List.replicate,am,bj,D1]
    · rintro x -;simp only[hF,List.replicate,am,aM,c9,aM,Rl.af];exact aF (v:=.agg (oh r).enc) Rl.cx (ab.aS _) ⟨by simp only[V.erase,Rl.cw],rfl⟩
theorem O1 (r:Rl) (σ:ab):ak prog 212 [.agg r.enc] σ fun v σ' => v = .bool (qx r)∧σ' = σ:=by
  refine ac0.calls ?_;simp only[aI,Mz,am,aP,Rl.af];refine bh.intro (D6 r σ) ?_;simp only[am,Rl.af];refine bh.intro (O5 r σ) ?_;simp only[am,Rl.af];refine az ?_;simp[V.erase,qx]
theorem aiS (r:Rl) (i:Nat) {σ:ab} (hg:TZ σ):ak prog 214 [.agg r.enc,.int .i64 (i:Nat)] σ fun v σ' => v = .int .u64 ((uf r i).toNat:Nat)∧σ' = σ:=by
  refine ac2.calls ?_;simp only[aI,MB,p_,Nat.reduceAdd];refine ak.dh (as' := [.sl .no 1 (hZ [(i:Int)])]) ?_ ⟨cz.no,trivial⟩ bC.rfl;refine cl (A4 [(i:Int)] σ (by simp)) ?_;simp only[am,Rl.af];refine bh.intro (EI r _ hg) ?_;simp only[am,Rl.af];refine bh.intro (F7 r _ σ) ?_;simp only[am,sI,Rl.af];refine az ?_;simp[V.erase,uf]
theorem akq (r:Rl) {σ:ab} (hg:TZ σ):ak prog 161 [.agg r.enc] σ fun v σ' => v = .bool (yF r)∧σ' = σ:=by
  refine acr.calls ?_;simp only[aI,L2,am,aP,Rl.af];refine cl (O1 r σ) ?_;simp only[am];refine fk (fun hb=>?_) (fun hb=>?_)
  · have hb:qx r=false:=by simpa using hb
    simp only[am];refine az ?_;simp[V.erase,yF,hb]
  · have hb:qx r=true:=by simpa using hb
    simp only[am,Rl.af];refine cl (wb r σ) ?_;simp only[am];have hp:=@kt r;obtain⟨F,hF⟩:∃F:Nat→Unit→St,∀i x,F i x=⟨[.any,.ptr (.loc 0) 0,.any,.any,.any,.any,.any,.any,.int .i64 (bf r:Nat),.int .i64 (i:Nat)]++List.replicate 10 .any,[r.enc],σ⟩:=⟨_,fun _ _=>rfl⟩;obtain⟨JF,aO⟩:∃JF:Nat→Unit→Prop,∀i x,JF i x=(∀k,k<i→uf r k=lF [(k:Int)]):=⟨_,fun _ _=>rfl⟩;refine db (bf r) F JF _ aO ?_ ?_ ?_
    · refine dA (()) ?_ ?_ ?_ ?_
      · exact Eq.mpr (aO _ _) (by intro k h;omega)
      all_goals simp[hF,List.replicate,am,bj]
    · rintro i x hi hJ;simp only[hF,List.replicate,am,c8 hi,Rl.af];refine cl (aiS r i hg) ?_;simp only[am];refine ak.dh (as' := [.sl .no 1 (hZ [(i:Int)])]) ?_ ⟨cz.no,trivial⟩ bC.rfl;refine cl (A4 [(i:Int)] _ (by simp)) ?_;simp only[am,yX]
      by_cases h:uf r i=lF [(i:Int)]
      · simp only[am,aM,aC h,ca hi (by omega)];refine nxt (()) hi ?_ ?_ ?_ ?_
        · exact Eq.mpr (aO _ _) (fun k hk=>if e:k=i then e▸h else hJ k (by omega))
        all_goals simp[hF,List.replicate,am,bj]
      · have hA:uY r=false:=by
          cases hq:uY r with
          | false=>rfl
          | true=>exact absurd ((On hb).1 hq i hi) h
        simp only[am,aM,aA h];refine az ?_;simp[V.erase,yF,hA]
    · rintro x hJ;have hA:uY r=true:=(On hb).2 hJ;simp only[hF,List.replicate,am,aM,c9,aM];refine az ?_;simp[V.erase,yF,hb,hA]
def Na:AC:=.seq (.aa [⟨(some 1),.box 65 (.s 0),none⟩,⟨(some 2),.mv (.c (.bool false)),none⟩])
 (.seq (.aa [xf 0 3 1,xo 4 3,xB .geq 5 4 1,U 6 5,xg 6 (xf 0 7 1),xg 6 (xo 8 7),xg 6 (xB .leq 9 8 8),⟨(some 10),.pick (.s 6) (.s 9) (.c (.bool false)),none⟩,U 11 10,xg 11 (xl 65 12 1),xg 11 (xc 212 13 [.s 12]),⟨(some 14),.pick (.s 11) (.s 13) (.c (.bool false)),none⟩,U 2 14])
 (.ret))
theorem adF:aJ prog 257 Na [.tmp 2] 15:=⟨f257,⟨[],[],[]⟩,func257,by kernel_rfl,by kernel_rfl,by kernel_rfl,by kernel_rfl⟩
def Nb:AC:=.seq (.aa [⟨(some 3),.box 65 (.s 0),none⟩,⟨(some 4),.eD 1 (.s 1),none⟩,⟨(some 6),.mv (.c (.int .u64 0)),none⟩])
 (.seq (.seq (.aa [xl 65 8 3,xo 9 4,xc 271 10 [.s 8,.s 9],⟨(some 11),.not (.s 10),none⟩])
 (.cond (.s 11) (.seq (.aa [⟨(some 6),.mv (.c (.int .u64 0)),none⟩])
 (.ret))
 (.skip)))
 (.seq (.s_ [7] [(xf 0 12 3,[]),(xo 13 12,[]),(xc 267 14 [.s 13],[]),(xl 65 15 3,[0]),(U 16 2,[]),(xc 247 17 [.s 15,.s 16],[]),(xb .andNot 18 14 17,[]),(⟨none,.mv (.c .any),none⟩,[]),(⟨(some 7),.kH 1 (.s 18),none⟩,[])])
 (.seq (.lH (.draw [(xl 65 19 3,[1]),(xl 65 20 3,[]),(⟨(some 21),.gG (.func 274) [] [(.s 4),(.s 7)],none⟩,[]),(xc 273 22 [.s 20,.s 21],[]),(xc 272 23 [.s 19,.s 22],[]),(U 6 23,[])]))
 (.ret))))
theorem adG:aJ prog 258 Nb [.tmp 6] 24:=⟨f258,⟨[4],[4],[]⟩,func258,by kernel_rfl,by kernel_rfl,by kernel_rfl,by kernel_rfl⟩
def Nf:AC:=.seq (.aa [⟨(some 4),.mv (.c (.int .u64 0)),none⟩,⟨(some 5),.mv (.c (.bool false)),none⟩])
 (.seq (.seq (.aa [U 6 0,xc 275 7 [.s 6],⟨(some 8),.not (.s 7),none⟩,U 9 8,xh 9 (U 10 1),xh 9 (xB .lss 11 10 0),⟨(some 12),.pick (.s 9) (.c (.bool true)) (.s 11),none⟩,U 13 12,xh 13 (U 14 1),xh 13 (U 15 0),xh 13 (xb .geq 16 14 15),⟨(some 17),.pick (.s 13) (.c (.bool true)) (.s 16),none⟩])
 (.cond (.s 17) (.seq (.aa [⟨(some 4),.mv (.c (.int .u64 0)),none⟩,⟨(some 5),.mv (.c (.bool false)),none⟩])
 (.ret))
 (.skip)))
 (.seq (.aa [U 18 1,xc 267 19 [.s 18],U 4 19,⟨(some 5),.mv (.c (.bool true)),none⟩])
 (.ret)))
theorem adI:aJ prog 260 Nf [.tmp 4,.tmp 5] 20:=⟨f260,⟨[],[],[]⟩,func260,by kernel_rfl,by kernel_rfl,by kernel_rfl,by kernel_rfl⟩
def Nl:AC:=.seq (.aa [⟨(some 2),.box 65 (.s 0),none⟩,⟨(some 4),.mv (.c (.bool false)),none⟩])
 (.seq (.aa [xl 65 5 2,xc 257 6 [.s 5],U 7 6,xg 7 (U 8 1),xg 7 (xB .geq 9 8 0),⟨(some 10),.pick (.s 7) (.s 9) (.c (.bool false)),none⟩,U 11 10,xg 11 (U 12 1),xg 11 (xf 0 13 2),xg 11 (xo 14 13),xg 11 (xb .lss 15 12 14),⟨(some 16),.pick (.s 11) (.s 15) (.c (.bool false)),none⟩,U 4 16])
 (.ret))
theorem adO:aJ prog 271 Nl [.tmp 4] 17:=⟨f271,⟨[],[],[]⟩,func271,by kernel_rfl,by kernel_rfl,by kernel_rfl,by kernel_rfl⟩
def Nm:AC:=.seq (.aa [⟨(some 2),.eD 65 (.s 0),none⟩,⟨(some 3),.eD 1 (.s 1),none⟩,⟨(some 4),.mv (.c (.int .u64 0)),none⟩])
 (.seq (.seq (.aa [xl 65 5 2,xc 257 6 [.s 5],⟨(some 7),.not (.s 6),none⟩])
 (.cond (.s 7) (.seq (.aa [⟨(some 4),.mv (.c (.int .u64 0)),none⟩])
 (.ret))
 (.skip)))
 (.seq (.aa [xl 65 8 2,⟨(some 9),.gG (.func 280) [] [(.s 2),(.s 3)],none⟩,xc 273 10 [.s 8,.s 9],U 4 10])
 (.ret)))
theorem adP:aJ prog 272 Nm [.tmp 4] 11:=⟨f272,⟨[2,3],[],[]⟩,func272,by kernel_rfl,by kernel_rfl,by kernel_rfl,by kernel_rfl⟩
def Nn:AC:=.seq (.aa [⟨(some 2),.box 65 (.s 0),none⟩,⟨(some 4),.mv (.c (.int .u64 0)),none⟩])
 (.seq (.aa [⟨(some 5),.mv (.c (.int .u64 0)),none⟩])
 (.seq (.seq (.aa [xf 0 7 2,xo 8 7,xi 9 0])
 (.block 0 (.loop (.seq (.aa [xb .lss 10 9 8])
 (.seq (.cond (.s 10) (.skip)
 (.exit 0))
 (.seq (.block 1 (.seq (.aa [U 11 9,U 6 11])
 (.aa [U 12 5,U 13 1,U 14 6,⟨(some 15),.fR (.s 13) [(.s 14)],none⟩,U 16 6,⟨(some 17),.de .mul (.c (.int .i64 8)) (.s 16),none⟩,⟨(some 18),.lS .u64 (.s 17),none⟩,xb .shl 19 15 18,xb .or 20 12 19,U 5 20])))
 (.aa [xB .add 21 9 1,U 9 21])))))))
 (.seq (.aa [U 22 5,U 4 22])
 (.ret))))
theorem adQ:aJ prog 273 Nn [.tmp 4] 23:=⟨f273,⟨[],[],[]⟩,func273,by kernel_rfl,by kernel_rfl,by kernel_rfl,by kernel_rfl⟩
def Np:AC:=.seq (.aa [⟨(some 4),.mv (.c (.int .u64 0)),none⟩])
 (.seq (.seq (.aa [U 5 0,xo 6 1,xb .eql 7 5 6])
 (.cond (.s 7) (.seq (.aa [xo 8 2,U 4 8])
 (.ret))
 (.skip)))
 (.seq (.aa [⟨(some 4),.mv (.c (.int .u64 0)),none⟩])
 (.ret)))
theorem adR:aJ prog 274 Np [.tmp 4] 9:=⟨f274,⟨[],[],[]⟩,func274,by kernel_rfl,by kernel_rfl,by kernel_rfl,by kernel_rfl⟩
def Nq:AC:=.seq (.aa [⟨(some 2),.mv (.c (.bool false)),none⟩])
 (.seq (.aa [U 3 0,xB .geq 4 3 1,U 5 4,xg 5 (U 6 0),xg 5 (xB .leq 7 6 64),⟨(some 8),.pick (.s 5) (.s 7) (.c (.bool false)),none⟩,U 2 8])
 (.ret))
theorem adS:aJ prog 275 Nq [.tmp 2] 9:=⟨f275,⟨[],[],[]⟩,func275,by kernel_rfl,by kernel_rfl,by kernel_rfl,by kernel_rfl⟩
def Nt:AC:=.seq (.aa [⟨(some 4),.mv (.c (.int .u64 0)),none⟩])
 (.seq (.aa [⟨(some 5),.mv (.c (.int .u64 0)),none⟩])
 (.seq (.seq (.draw [(xl 65 8 1,[1]),(U 9 0,[]),(⟨(some 10),.cB 1 [(.s 9)],none⟩,[]),(xc 215 11 [.s 10],[]),(xc 247 12 [.s 8,.s 11],[]),(xc 249 13 [.s 12],[]),(xL 14 13,[]),(xi 15 0,[])])
 (.block 0 (.loop (.seq (.aa [xb .lss 16 15 14])
 (.seq (.cond (.s 16) (.skip)
 (.exit 0))
 (.seq (.block 1 (.seq (.aa [xA 1 17 13 15,xo 18 17,U 7 18])
 (.draw [(U 19 5,[]),(xl 65 20 1,[1]),(xl 65 21 1,[]),(xo 22 2,[]),(U 23 7,[]),(xc 281 24 [.s 21,.s 22,.s 23],[]),(xc 248 25 [.s 20,.s 24],[]),(xb .or 26 19 25,[]),(U 5 26,[])])))
 (.aa [xB .add 27 15 1,U 15 27])))))))
 (.seq (.aa [U 28 5,U 4 28])
 (.ret))))
theorem adV:aJ prog 280 Nt [.tmp 4] 29:=⟨f280,⟨[],[],[]⟩,func280,by kernel_rfl,by kernel_rfl,by kernel_rfl,by kernel_rfl⟩
def Nu:AC:=.seq (.aa [⟨(some 3),.box 65 (.s 0),none⟩,⟨(some 6),.mv (.c (.int .u64 0)),none⟩])
 (.seq (.aa [U 7 1,U 8 2,⟨(some 9),.de .mul (.c (.int .i64 8)) (.s 8),none⟩,⟨(some 10),.lS .u64 (.s 9),none⟩,xb .shr 11 7 10,xf 0 12 3,xo 13 12,xc 267 14 [.s 13],xb .and 15 11 14,U 6 15])
 (.ret))
theorem adW:aJ prog 281 Nu [.tmp 6] 16:=⟨f281,⟨[],[],[]⟩,func281,by kernel_rfl,by kernel_rfl,by kernel_rfl,by kernel_rfl⟩
theorem Yy (n:Int) (σ:ab):ak prog 275 [.int .i64 n] σ fun v σ' => v = .bool (decide (1≤n)&&decide (n≤64))∧σ' = σ:=by
  refine adS.calls ?_;simp only[aI,Nq,am,aP]
  by_cases h:1≤n
  · simp only[am,aC h];refine az ?_;simp[V.erase]
  · simp only[am,aA h];refine az ?_;simp[V.erase]
def yW (p:aU × Bool):V:=.aT [.int .u64 (p.1.toNat:Nat),.bool p.2]
theorem am1 (n k:Int) (σ:ab):ak prog 260 [.int .i64 n,.int .i64 k] σ fun v σ' => v=yW (wo n k)∧σ' = σ:=by
  refine adI.calls ?_;simp only[aI,Nf,am,aP,Nat.reduceAdd,p8];refine cl (Yy n σ) ?_
  by_cases h:1≤n∧n≤64
  · simp only[am,aC h.1,aC h.2]
    by_cases h2:k<0
    · simp only[am,aC h2];refine az ?_;simp[V.erase,aX,yW,wo,show ¬0≤k by omega]
    · simp only[am,aA h2]
      by_cases h3:n≤k
      · simp only[am,aC h3];refine az ?_;simp[V.erase,aX,yW,wo,show ¬k<n by omega]
      · simp only[am,aA h3];refine cl (A3 k σ) ?_;simp only[am];refine az ?_;simp[V.erase,aX,yW,wo,h,show 0≤k by omega,show k<n by omega]
  · have e:(decide (1≤n)&&decide (n≤64))=false:=by simp only[BL,xC];omega
    have e2:wo n k=(0#64,false):=by simp only[wo];rw[ah (by omega)]
    simp only[am,e];refine az ?_;simp[V.erase,aX,yW,e2]
theorem GB (r:Rl) (σ:ab):ak prog 257 [.agg r.enc] σ fun v σ' => v = .bool (nG r)∧σ' = σ:=by
  refine adF.calls ?_;simp only[aI,Na,am,aP,Rl.af]
  by_cases h:1≤r.n
  · simp only[am,Rl.af,aC h]
    by_cases h2:r.n≤8
    · simp only[am,Rl.af,aC h2];refine cl (O1 r σ) ?_;simp only[am];refine az ?_;simp[V.erase,nG,h,h2]
    · simp only[am,aA h2];refine az ?_;simp[V.erase,nG,h2]
  · simp only[am,aA h];refine az ?_;simp[V.erase,nG,h]
theorem afh (r:Rl) (w:aU) (o:Nat) (ho:o<64) (σ:ab):ak prog 281 [.agg r.enc,.int .u64 (w.toNat:Nat),.int .i64 (o:Nat)] σ fun v σ' => v = .int .u64 ((D0 r w o).toNat:Nat)∧σ' = σ:=by
  refine adW.calls ?_;simp only[aI,Nu,p_,Nat.reduceAdd];rw[wrap_i64 (by omega) (by omega),wrap_u64 (by omega) (by omega),show (8:Int)*(o:Nat)=((8*o:Nat):Int) by omega];simp only[am,Kk,Rl.af];refine cl (A3 r.n σ) ?_;simp only[am,sI];refine az ?_;simp[V.erase,D0]
def ap3:=And.intro @am <| And.intro @aM <| And.intro @yY @Kj
theorem QC (r:Rl) (n:Nat) (hn:r.n=n) (h8:n≤8) (f:FuncId) (cap:List V) (hc:bd cap=true) (g:Nat→aU) (σ:ab)
    (h:∀o,o<n→ak prog f (.int .i64 (o:Nat)::cap) σ fun v σ' => v = .int .u64 ((g o).toNat:Nat)∧σ' = σ) :
    ak prog 273 [.agg r.enc,.fn (.func f) [] cap] σ fun v σ' => v = .int .u64 ((yK n g).toNat:Nat)∧σ' = σ:=by
  refine adQ.calls ?_;simp only[aI,Nn,p_,Nat.reduceAdd];obtain⟨F,hF⟩:∃F:Nat→Unit→St,∀i x,F i x=⟨[.any,.fn (.func f) [] cap,.any,.any,.any,.int .u64 ((yK i g).toNat:Nat),.any,.any,.int .i64 (n:Nat),.int .i64 (i:Nat)]++List.replicate 13 .any,[r.enc],σ⟩:=⟨_,fun _ _=>rfl⟩;obtain⟨JF,aO⟩:∃JF:Nat→Unit→Prop,∀i x,JF i x=(True):=⟨_,fun _ _=>rfl⟩;refine db (n) F JF _ aO ?_ ?_ ?_
  · refine dA (()) ?_ ?_ ?_ ?_
    · exact Eq.mpr (aO _ _) (trivial)
    all_goals simp[hF,List.replicate,am,bj,hn,yK]
  · rintro i x hi -;simp only[hF,List.replicate,am,c8 hi,hc];refine(h i hi).mono ?_;rintro v σ' ⟨rfl,rfl⟩;simp only[am];rw[wrap_i64 (x:=8*((i:Nat):Int)) (by omega) (by omega),wrap_u64 (x:=8*((i:Nat):Int)) (by omega) (by omega),show (8:Int)*(i:Nat)=((8*i:Nat):Int) by omega];simp only[ap3,ca hi (by omega)];refine nxt (()) hi ?_ ?_ ?_ ?_
    · exact Eq.mpr (aO _ _) (trivial)
    all_goals simp[hF,List.replicate,am,bj,yK,tu]
  · rintro x -;simp only[hF,List.replicate,am,aM,c9,aM];refine az ?_;simp[V.erase]
def ap4:=And.intro @am <| And.intro @aM <| And.intro @yY @Rl.af
theorem ae4 (r:Rl) (w:aU) (o b1 b2:Nat) {σ:ab} (hg:TZ σ) (ho:o<bf r) (h8:bf r≤8) (h1:σ.box b1=some r.enc) (h2:σ.box b2=some [.int .u64 (w.toNat:Nat)]) :
    ak prog 280 [.int .i64 (o:Nat),.ptr (.out b1) 0,.ptr (.out b2) 0] σ fun v σ' => v = .int .u64 ((Ct r w o).toNat:Nat)∧σ' = σ:=by
  refine adV.calls ?_;simp only[aI,Nt,am,aP,Nat.reduceAdd,p8];simp only[am,Rl.af,h1];refine bh.intro (ak.dh (as' := [.sl .no 1 (hZ [(o:Int)])]) (A4 [(o:Int)] σ (by simp)) ⟨cz.no,trivial⟩ bC.rfl) ?_;simp only[am,Rl.af];refine bh.intro (EI r _ hg) ?_;simp only[am];refine bh.intro (IB _ hg) ?_;simp only[am,aD,Rl.af,Ds,h1];rw[show rm r (lF [(o:Int)])=rD r o from rfl];generalize hl:dY (rD r o)=l;have ag:∀k∈l,k<bf r:=fun k hk=>by
    rw[←hl,SD,Wi] at hk;exact(tP hk).2
  have hlen:l.length≤64:=hl▸DP _;have hp:=@kt r;obtain⟨F,hF⟩:∃F:Nat→Unit→St,∀i x,F i x=⟨[.any,.ptr (.out b1) 0,.ptr (.out b2) 0,.any,.any,.int .u64 (((l.take i).foldl (fun s p=>s|||s9 r (D0 r w p)) 0#64).toNat:Nat),.any,.any,.any,.any,.any,.any,.any,.sl .no 1 (hZ (l.map Int.ofNat)),.int .i64 (l.length:Nat),.int .i64 (i:Nat)]++List.replicate 13 .any,[],σ⟩:=⟨_,fun _ _=>rfl⟩;obtain⟨JF,aO⟩:∃JF:Nat→Unit→Prop,∀i x,JF i x=(True):=⟨_,fun _ _=>rfl⟩;refine db (l.length) F JF _ aO ?_ ?_ ?_
  · refine dA (()) ?_ ?_ ?_ ?_
    · exact Eq.mpr (aO _ _) (trivial)
    all_goals simp[hF,List.replicate,am,bj]
  · rintro i x hi -;simp only[hF,List.replicate,am,c8 hi];refine bx (by omega) (Dr (l:=l.map Int.ofNat) (by simpa using hi)) ?_;simp only[am,Rl.af,KV,KK,h1,h2]
    have:=ag _ (eZ hi)
    refine bh.intro (afh r w l[i] (by omega) σ) ?_;simp only[am,Rl.af];refine bh.intro (F7 r _ σ) ?_;simp only[ap4,h1,ca hi (by omega)];refine nxt (()) hi ?_ ?_ ?_ ?_
    · exact Eq.mpr (aO _ _) (trivial)
    all_goals simp[hF,List.replicate,am,bj,Qi hi]
  · rintro x -;simp only[hF,List.replicate,am,aM,c9,aM,dv];refine az ?_;simp[V.erase,Ct,hl]
theorem ae5 (r:Rl) (w:aU) {σ:ab} (hg:TZ σ):ak prog 272 [.agg r.enc,.int .u64 (w.toNat:Nat)] σ fun v σ' => v = .int .u64 ((Cu r w).toNat:Nat)∧σ' = σ:=by
  refine adP.calls ?_;simp only[aI,Nm,p_,Nat.reduceAdd];refine gE fun b1 fK=>?_
  simp only[am];refine gE fun b2 cR=>?_
  have aH:b1≠b2:=by rintro rfl;rw[gU] at cR;simp at cR
  have km:=fv (cs:=r.enc) fK;have hs:=ab.wy km (fv (cs:=[.int .u64 (w.toNat:Nat)]) cR);have e1:((σ.set b1 r.enc).set b2 [.int .u64 (w.toNat:Nat)]).box b1=some r.enc:=by rw[pX aH,gU]
  generalize qS:(σ.set b1 r.enc).set b2 [V.int .u64 (w.toNat:Nat)]=cY at hs e1;have e2:cY.box b2=some [.int .u64 (w.toNat:Nat)]:=by rw[←qS,gU]
  simp only[am,Rl.af,e1];refine(GB r cY).mono ?_;rintro v cY ⟨rfl,rfl⟩;simp only[am];cases tH:nG r with
  | false =>
    simp only[am];exact aF rfl hs ⟨by simp[Cu,tH,V.erase],rfl⟩
  | true =>
    obtain⟨n,hn,hp,h1,h8⟩:=QA tH;simp only[am,Rl.af,e1];refine(QC r n hn h8 _ _ rfl (Ct r w) cY fun o ho=>ae4 r w o b1 b2 (hs.2.2 _ _ hg) (by omega) (by omega) e1 e2).mono ?_;rintro v cY ⟨rfl,rfl⟩;simp only[am];exact aF rfl hs ⟨by simp[Cu,tH,V.erase,hn],rfl⟩
theorem akz (r:Rl) (o:Nat) (σ:ab):ak prog 271 [.agg r.enc,.int .i64 (o:Nat)] σ fun v σ' => v = .bool (nG r&&decide ((o:Int)<r.n))∧σ' = σ:=by
  refine adO.calls ?_;simp only[aI,Nl,am,aP,Nat.reduceAdd,Rl.af];refine cl (GB r σ) ?_;cases h:nG r with
  | false =>
    simp only[am];refine az ?_;simp[V.erase]
  | true =>
    simp only[am,Rl.af,show decide ((0:Int)≤(o:Nat))=true from aC (by omega)];refine az ?_;simp[V.erase]
theorem afi (k o b:Nat) (w:aU) {σ:ab} (b2:Nat) (h1:σ.box b=some [.int .i64 (o:Nat)]) (h2:σ.box b2=some [.int .u64 (w.toNat:Nat)]) :
    ak prog 274 [.int .i64 (k:Nat),.ptr (.out b) 0,.ptr (.out b2) 0] σ fun v σ' => v = .int .u64 ((if k=o then w else 0#64).toNat:Nat)∧σ' = σ:=by
  refine adR.calls ?_;simp only[aI,Np,am,aP,Nat.reduceAdd,p8];simp only[am,h1]
  by_cases h:k=o
  · simp only[am,aC (show (k:Int)=(o:Nat) by omega),h2];refine az ?_;simp[V.erase,h]
  · simp only[am,aA (show ¬(k:Int)=(o:Nat) by omega)];refine az ?_;simp[V.erase,h]
theorem afj (r:Rl) (o:Nat) (d:aU) {σ:ab} (hg:TZ σ):ak prog 258 [.agg r.enc,.int .i64 (o:Nat),.int .u64 (d.toNat:Nat)] σ fun v σ' => v = .int .u64 ((yL r o d).toNat:Nat)∧σ' = σ:=by
  refine adG.calls ?_;simp only[aI,Nb,p_,Nat.reduceAdd];refine gE fun b1 fK=>?_
  simp only[am,Rl.af];have hs:=fv (cs:=[V.int .i64 (o:Nat)]) fK;have e1:(σ.set b1 [V.int .i64 (o:Nat)]).box b1=some [V.int .i64 (o:Nat)]:=gU;generalize qS:σ.set b1 [V.int .i64 (o:Nat)]=cY at hs e1;refine(akz r o cY).mono ?_;rintro v cY ⟨rfl,rfl⟩;simp only[am];cases tH:nG r&&decide ((o:Int)<r.n) with
  | false =>
    simp only[am];exact aF rfl hs ⟨by simp[yL,tH,V.erase],rfl⟩
  | true =>
    have afP := tH;rw[bm,cq] at tH;obtain⟨n,hn,hp,h1,h8⟩:=QA tH.1;simp only[am,Nat.reduceAdd,bQ,Nat.reduceLT,Rl.af];refine bh.intro (A3 r.n cY) ?_;simp only[am,Rl.af];refine bh.intro (EI r d (hs.2.2 _ _ hg)) ?_;simp only[am,Vx,Rl.af];refine aZ.alo (l:=[r.enc]) (cs:=[V.int .u64 ((lR r.n&&&~~~rm r d).toNat:Nat)]) rfl fun b2 cR=>?_
    rw[show lR r.n&&&~~~rm r d=sc r d from rfl];have AA:=ab.wy hs (fv (cs:=[V.int .u64 ((sc r d).toNat:Nat)]) cR);have aH:b1≠b2:=by rintro rfl;rw[e1] at cR;simp at cR
    have e2:(cY.set b2 [V.int .u64 ((sc r d).toNat:Nat)]).box b1=some [V.int .i64 (o:Nat)]:=by rw[pX aH,e1]
    have e3:(cY.set b2 [V.int .u64 ((sc r d).toNat:Nat)]).box b2=some [V.int .u64 ((sc r d).toNat:Nat)]:=gU;generalize cY.set b2 [V.int .u64 ((sc r d).toNat:Nat)]=ir at AA e2 e3;simp only[am,Nat.reduceLT,reduceCtorEq,Rl.af,bL,cX,Wm,TK (n:=1) (l:=r.enc) Rl.bO Rl.cx];refine bh.intro (QC r n hn h8 _ _ rfl (fun k=>if k=o then sc r d else 0#64) ir fun k hk=>afi k o b1 (sc r d) b2 e2 e3) ?_;simp only[am,Rl.af];refine bh.intro (ae5 r _ (AA.2.2 _ _ hg)) ?_;simp only[am,Rl.af];exact aF rfl AA ⟨by rw[yL,afP,hn];rfl,rfl⟩
def Lz:AC:=.seq (.aa [⟨(some 1),.box 65 (.s 0),none⟩,⟨(some 2),.mv (.c (.bool false)),none⟩])
 (.seq (.seq (.aa [xf 0 9 1,xo 10 9,xB .lss 11 10 1,U 12 11,xh 12 (xf 0 13 1),xh 12 (xo 14 13),xh 12 (xB .gtr 15 14 64),⟨(some 16),.pick (.s 12) (.c (.bool true)) (.s 15),none⟩,U 17 16,xh 17 (xl 65 18 1),xh 17 (xc 161 19 [.s 18]),⟨(some 20),.not (.s 19),(some (17,false))⟩,⟨(some 21),.pick (.s 17) (.c (.bool true)) (.s 20),none⟩])
 (.cond (.s 21) (.seq (.aa [⟨(some 2),.mv (.c (.bool false)),none⟩])
 (.ret))
 (.skip)))
 (.seq (.seq (.aa [xf 0 22 1,xo 23 22,xi 24 0])
 (.block 0 (.loop (.seq (.aa [xb .lss 25 24 23])
 (.seq (.cond (.s 25) (.skip)
 (.exit 0))
 (.seq (.block 1 (.seq (.aa [U 26 24,U 3 26])
 (.seq (.aa [U 27 3,xi 28 0])
 (.block 2 (.loop (.seq (.aa [xb .lss 29 28 27])
 (.seq (.cond (.s 29) (.skip)
 (.exit 2))
 (.seq (.block 3 (.seq (.aa [U 30 28,U 4 30])
 (.seq (.aa [xl 65 32 1,U 33 3,U 34 4,xc 162 35 [.s 32,.s 33,.s 34],U 31 35,xe 36 31 0,xe 37 31 1,U 5 36,U 6 37])
 (.seq (.aa [xl 65 39 1,U 40 3,U 41 4,xc 163 42 [.s 39,.s 40,.s 41],U 38 42,xe 43 38 0,xe 44 38 1,U 7 43,U 8 44])
 (.seq (.aa [U 45 6,⟨(some 46),.not (.s 45),none⟩,U 47 46,xh 47 (U 48 8),⟨(some 49),.not (.s 48),(some (47,false))⟩,⟨(some 50),.pick (.s 47) (.c (.bool true)) (.s 49),none⟩])
 (.cond (.s 50) (.seq (.aa [⟨(some 2),.mv (.c (.bool false)),none⟩])
 (.ret))
 (.skip)))))))
 (.aa [xB .add 51 28 1,U 28 51])))))))))
 (.aa [xB .add 52 24 1,U 24 52])))))))
 (.seq (.aa [⟨(some 2),.mv (.c (.bool true)),none⟩])
 (.ret))))
theorem ab0:aJ prog 114 Lz [.tmp 2] 53:=⟨f114,⟨[],[],[]⟩,func114,by kernel_rfl,by kernel_rfl,by kernel_rfl,by kernel_rfl⟩
def L3:AC:=.seq (.aa [⟨(some 3),.box 65 (.s 0),none⟩,xi 6 0,⟨(some 7),.mv (.c (.bool false)),none⟩])
 (.seq (.aa [xl 65 8 3,U 9 1,U 10 2,xc 216 11 [.s 8,.s 9,.s 10,.c (.fn (.func 217) [] [])],xe 12 11 0,xe 13 11 1,U 6 12,U 7 13])
 (.ret))
theorem acs:aJ prog 162 L3 [.tmp 6,.tmp 7] 14:=⟨f162,⟨[],[],[]⟩,func162,by kernel_rfl,by kernel_rfl,by kernel_rfl,by kernel_rfl⟩
def L4:AC:=.seq (.aa [⟨(some 3),.box 65 (.s 0),none⟩,xi 6 0,⟨(some 7),.mv (.c (.bool false)),none⟩])
 (.seq (.aa [xl 65 8 3,U 9 1,U 10 2,xc 216 11 [.s 8,.s 9,.s 10,.c (.fn (.func 218) [] [])],xe 12 11 0,xe 13 11 1,U 6 12,U 7 13])
 (.ret))
theorem acu:aJ prog 163 L4 [.tmp 6,.tmp 7] 14:=⟨f163,⟨[],[],[]⟩,func163,by kernel_rfl,by kernel_rfl,by kernel_rfl,by kernel_rfl⟩
def MD:AC:=.seq (.aa [⟨(some 4),.box 65 (.s 0),none⟩,xi 8 0,⟨(some 9),.mv (.c (.bool false)),none⟩])
 (.seq (.draw [(U 13 3,[]),(xl 65 14 4,[]),(U 15 1,[]),(⟨(some 16),.fR (.s 13) [(.s 14),(.s 15)],none⟩,[]),(U 17 3,[]),(xl 65 18 4,[0]),(U 19 2,[]),(⟨(some 20),.fR (.s 17) [(.s 18),(.s 19)],none⟩,[]),(xb .and 21 16 20,[]),(U 10 21,[])])
 (.seq (.seq (.aa [U 22 10,xc 249 23 [.s 22],xL 24 23,xi 25 0])
 (.block 0 (.loop (.seq (.aa [xb .lss 26 25 24])
 (.seq (.cond (.s 26) (.skip)
 (.exit 0))
 (.seq (.block 1 (.seq (.aa [xA 1 27 23 25,xo 28 27,U 12 28])
 (.seq (.aa [U 29 10,U 30 3,xl 65 31 4,U 32 12,⟨(some 33),.fR (.s 30) [(.s 31),(.s 32)],none⟩,xc 250 34 [.s 29,.s 33]])
 (.cond (.s 34) (.seq (.aa [U 35 12,U 8 35,⟨(some 9),.mv (.c (.bool true)),none⟩])
 (.ret))
 (.skip)))))
 (.aa [xB .add 36 25 1,U 25 36])))))))
 (.seq (.aa [xi 8 0,⟨(some 9),.mv (.c (.bool false)),none⟩])
 (.ret))))
theorem ac4:aJ prog 216 MD [.tmp 8,.tmp 9] 37:=⟨f216,⟨[],[],[]⟩,func216,by kernel_rfl,by kernel_rfl,by kernel_rfl,by kernel_rfl⟩
def ME:AC:=.seq (.aa [⟨(some 2),.box 65 (.s 0),none⟩,⟨(some 4),.mv (.c (.int .u64 0)),none⟩])
 (.seq (.draw [(xl 65 5 2,[1]),(U 6 1,[]),(⟨(some 7),.cB 1 [(.s 6)],none⟩,[]),(xc 215 8 [.s 7],[]),(xc 247 9 [.s 5,.s 8],[]),(U 4 9,[])])
 (.ret))
theorem ac6:aJ prog 217 ME [.tmp 4] 10:=⟨f217,⟨[],[],[]⟩,func217,by kernel_rfl,by kernel_rfl,by kernel_rfl,by kernel_rfl⟩
def MF:AC:=.seq (.aa [⟨(some 2),.box 65 (.s 0),none⟩,⟨(some 4),.mv (.c (.int .u64 0)),none⟩])
 (.seq (.seq (.aa [xl 65 5 2,U 6 1,xc 251 7 [.s 5,.s 6],⟨(some 8),.not (.s 7),none⟩])
 (.cond (.s 8) (.seq (.aa [⟨(some 4),.mv (.c (.int .u64 0)),none⟩])
 (.ret))
 (.skip)))
 (.seq (.draw [(xl 65 9 2,[1]),(U 10 1,[]),(⟨(some 11),.cB 1 [(.s 10)],none⟩,[]),(xc 215 12 [.s 11],[]),(xc 248 13 [.s 9,.s 12],[]),(U 4 13,[])])
 (.ret)))
theorem ac_:aJ prog 218 MF [.tmp 4] 14:=⟨f218,⟨[],[],[]⟩,func218,by kernel_rfl,by kernel_rfl,by kernel_rfl,by kernel_rfl⟩
def M6:AC:=.seq (.aa [⟨(some 2),.box 65 (.s 0),none⟩,⟨(some 4),.mv (.c (.bool false)),none⟩])
 (.seq (.aa [U 5 1,xB .geq 6 5 0,U 7 6,xg 7 (U 8 1),xg 7 (xf 0 9 2),xg 7 (xo 10 9),xg 7 (xc 222 11 [.s 10]),xg 7 (xw 0 12 11),xg 7 (xb .lss 13 8 12),⟨(some 14),.pick (.s 7) (.s 13) (.c (.bool false)),none⟩,U 4 14])
 (.ret))
theorem adz:aJ prog 251 M6 [.tmp 4] 15:=⟨f251,⟨[],[],[]⟩,func251,by kernel_rfl,by kernel_rfl,by kernel_rfl,by kernel_rfl⟩
def Nc:AC:=.seq (.aa [⟨(some 2),.box 65 (.s 0),none⟩,⟨(some 4),.mv (.c (.int .u64 0)),none⟩])
 (.seq (.aa [xl 65 5 2,U 6 1,xc 218 7 [.s 5,.s 6],U 4 7])
 (.ret))
theorem adH:aJ prog 259 Nc [.tmp 4] 8:=⟨f259,⟨[],[],[]⟩,func259,by kernel_rfl,by kernel_rfl,by kernel_rfl,by kernel_rfl⟩
def si (o:Option Nat):V:=.aT [.int .i64 ((o.getD 0:Nat):Int),.bool o.isSome]
theorem aiY {i:Nat}:decide ((0:Int)≤(i:Nat))=true:=aC (by omega)
theorem afT (r:Rl) (i:Nat) (σ:ab):ak prog 251 [.agg r.enc,.int .i64 (i:Nat)] σ fun v σ' => v = .bool (decide (i<bf r))∧σ' = σ:=by
  refine adz.calls ?_;simp only[aI,M6,am,aP,Nat.reduceAdd,Rl.af];simp only[am,Rl.af,aiY];refine cl (SM r.n σ) ?_;simp only[am,Rl.af,Rl.DX];refine az ?_;simp[V.erase,bf];rfl
theorem Wj (r:Rl) (i:Nat) {σ:ab} (hg:TZ σ):ak prog 217 [.agg r.enc,.int .i64 (i:Nat)] σ fun v σ' => v = .int .u64 ((rD r i).toNat:Nat)∧σ' = σ:=by
  refine ac6.calls ?_;simp only[aI,ME,p_,Nat.reduceAdd];refine bh.intro (ak.dh (as' := [.sl .no 1 (hZ [(i:Int)])]) (A4 [(i:Int)] σ (by simp)) ⟨cz.no,trivial⟩ bC.rfl) ?_;simp only[am,Rl.af];refine bh.intro (EI r _ hg) ?_;simp only[am,Rl.af];refine az ?_;simp[V.erase,rD]
theorem OK (r:Rl) (i:Nat) (σ:ab):ak prog 218 [.agg r.enc,.int .i64 (i:Nat)] σ fun v σ' => v = .int .u64 ((rF r i).toNat:Nat)∧σ' = σ:=by
  refine ac_.calls ?_;simp only[aI,MF,p_,Nat.reduceAdd];refine cl (afT r i σ) ?_
  by_cases h:i<bf r
  · simp only[am,Rl.af,aC h];refine bh.intro (ak.dh (as' := [.sl .no 1 (hZ [(i:Int)])]) (A4 [(i:Int)] σ (by simp)) ⟨cz.no,trivial⟩ bC.rfl) ?_;simp only[am,Rl.af];refine bh.intro (F7 r _ σ) ?_;simp only[am,Rl.af];refine az ?_;simp[V.erase,rF,h]
  · simp only[am,aA h];refine az ?_;simp[V.erase,rF,h]
theorem SL (r:Rl) (i j:Nat) (f:FuncId) (g:Nat→aU) {σ:ab} (hg:TZ σ) (hf:∀k,ak prog f [.agg r.enc,.int .i64 (k:Nat)] σ fun v σ' => v = .int .u64 ((g k).toNat:Nat)∧σ' = σ) :
    ak prog 216 [.agg r.enc,.int .i64 (i:Nat),.int .i64 (j:Nat),.fn (.func f) [] []] σ fun v σ' => v=si (DT g i j)∧σ' = σ:=by
  refine ac4.calls ?_;simp only[aI,MD,am,aP,Nat.reduceAdd,Rl.af];refine bh.intro (hf i) ?_;simp only[am,Rl.af];refine bh.intro (hf j) ?_;simp only[am,sI,Rl.af];refine cl (IB _ hg) ?_;simp only[am,aD,Ds];rw[DT];generalize g i&&&g j=w;have hlen:=DP w;obtain⟨F,hF⟩:∃F:Nat→Unit→St,∀m x,F m x=⟨[.agg r.enc,.any,.any,.fn (.func f) [] [],.ptr (.loc 0) 0,.any,.any,.any,.any,.any,.int .u64 (w.toNat:Nat),.any,.any,.any,.any,.any,.any,.any,.any,.any,.any,.any,.any,.sl .no 1 (hZ ((dY w).map Int.ofNat)),.int .i64 ((dY w).length:Nat),.int .i64 (m:Nat)]++List.replicate 11 .any,[r.enc],σ⟩:=⟨_,fun _ _=>rfl⟩;obtain⟨JF,aO⟩:∃JF:Nat→Unit→Prop,∀m x,JF m x=(∀u∈(dY w).take m,wx w (g u)=false):=⟨_,fun _ _=>rfl⟩;refine db ((dY w).length) F JF _ aO ?_ ?_ ?_
  · refine dA (()) ?_ ?_ ?_ ?_
    · exact Eq.mpr (aO _ _) (by simp)
    all_goals simp[hF,List.replicate,am,bj]
  · rintro m x hi hJ;simp only[hF,List.replicate,am,c8 hi];refine bx (by omega) (Dr (l:=(dY w).map Int.ofNat) (by simpa using hi)) ?_;simp only[am,Rl.af,KV,KK];refine(hf _).mono ?_;rintro v σ ⟨rfl,rfl⟩;simp only[am];refine cl (aiK _ _ σ) ?_;simp only[am];cases hb:wx w (g (dY w)[m]) with
    | false =>
      simp only[am,aM,ca hi (by omega)];refine nxt (()) hi ?_ ?_ ?_ ?_
      · exact Eq.mpr (aO _ _) (Bp hJ hi hb)
      all_goals simp[hF,List.replicate,am,bj]
    | true =>
      have e:(dY w).find? (fun u=>wx w (g u))=some (dY w)[m]:=by
        rw[BT];exact⟨hb,_,(dY w).drop (m+1),by rw[←jU hi,my],fun a ha=>by rw[hJ a ha];rfl⟩
      simp only[am,aM];refine az ?_;simp[V.erase,aX,si,e]
  · rintro x hJ;rw[dv] at hJ;have e:(dY w).find? (fun u=>wx w (g u))=none:=by
      rw[BS];intro u hu;rw[hJ u hu];simp
    simp only[hF,List.replicate,am,aM,c9,aM];refine az ?_;simp[V.erase,aX,si,e]
theorem agR (r:Rl) (i j:Nat) {σ:ab} (hg:TZ σ):ak prog 162 [.agg r.enc,.int .i64 (i:Nat),.int .i64 (j:Nat)] σ fun v σ' => v=si (sa r i j)∧σ' = σ:=by
  refine acs.calls ?_;simp only[aI,L3,am,aP,Nat.reduceAdd,Rl.af];refine cl (SL r i j _ (rD r) hg fun k=>Wj r k hg) ?_;simp only[am,si];refine az ?_;simp[V.erase,aX,sa]
theorem aiN (r:Rl) (i j:Nat) {σ:ab} (hg:TZ σ):ak prog 163 [.agg r.enc,.int .i64 (i:Nat),.int .i64 (j:Nat)] σ fun v σ' => v=si (ud r i j)∧σ' = σ:=by
  refine acu.calls ?_;simp only[aI,L4,am,aP,Nat.reduceAdd,Rl.af];refine cl (SL r i j _ (rF r) hg fun k=>OK r k σ) ?_;simp only[am,si];refine az ?_;simp[V.erase,aX,ud]
theorem agn (r:Rl) (i:Nat) (σ:ab):ak prog 259 [.agg r.enc,.int .i64 (i:Nat)] σ fun v σ' => v = .int .u64 ((rF r i).toNat:Nat)∧σ' = σ:=by
  refine adH.calls ?_;simp only[aI,Nc,p_,Nat.reduceAdd];refine cl (OK r i σ) ?_;simp only[am];refine az ?_;simp[V.erase]
theorem abB {p:Nat→Bool} {n m:Nat} (hm:m<n) (h:∀k,k<m→p k=false) (hp:p m=true):(List.range n).find? p=some m:=by
  rw[BT];refine⟨hp,List.range m,List.range' (m+1) (n - (m+1)),?_,fun a ha=>by rw[h a (by simpa using ha)];rfl⟩;rw[qi,qi,←wQ]
  have:=K0 (s:=0) (m:=m) (n:=n - m) (step:=1)
  simp only[sT,gh] at this;rw[show n - (m+1)+1=n - m by omega,this];congr 1;omega
theorem abE {p:Nat→Bool} {n:Nat} (h:∀k,k<n→p k=false):(List.range n).find? p=none:=by
  rw[BS];intro u hu;rw[h u (by simpa using hu)];simp
theorem R5 (r:Rl) {σ:ab} (hg:TZ σ):ak prog 114 [.agg r.enc] σ fun v σ' => v = .bool (nS r)∧σ' = σ:=by
  refine ab0.calls ?_;simp only[aI,Lz,am,aP,Rl.af]
  by_cases h1:r.n<1
  · simp only[am,aC h1];refine az ?_;simp[V.erase,nS];omega
  · simp only[am,Rl.af,aA h1]
    by_cases h2:64<r.n
    · simp only[am,aC h2];refine az ?_;simp[V.erase,nS];omega
    · simp only[am,Rl.af,aA h2];refine cl (akq r hg) ?_;obtain⟨n,hn⟩:∃n:Nat,r.n=n:=⟨r.n.toNat,by omega⟩;have hp:bf r=n:=by rw[bf,hn];omega
      cases ho:yF r with
      | false =>
        simp only[am];refine az ?_;simp[V.erase,nS,ho]
      | true =>
        simp only[am,Rl.af,hn];have good:(∀i,i<n→∀j,j<i→((sa r i j).isSome&&(ud r i j).isSome)=true)→nS r=true:=fun h=>by
          simp only[nS,ho,hn,iv,la,uV,bm,cq,rq];exact⟨by omega,fun i hi j hj=>by have:=h i hi j hj;simpa using this⟩
        have bad:∀i j,i<n→j<i→((sa r i j).isSome&&(ud r i j).isSome)=false→nS r=false:=fun i j hi hj h=>by
          cases hq:nS r with
          | false=>rfl
          | true =>
            simp only[nS,hn,iv,la,uV,bm] at hq
            have:=hq.2 i hi j hj
            rw[this.1,this.2] at h;simp at h
        obtain⟨F,hF⟩:∃F:Nat→Unit→St,∀i x,F i x=⟨[.any,.ptr (.loc 0) 0,.any,.any,.any,.any,.any,.any,.any,.any,.any,.any,.any,.any,.any,.any,.any,.any,.any,.any,.any,.any,.any,.int .i64 (n:Nat),.int .i64 (i:Nat)]++List.replicate 28 .any,[r.enc],σ⟩:=⟨_,fun _ _=>rfl⟩;obtain⟨JF,aO⟩:∃JF:Nat→Unit→Prop,∀i x,JF i x=(∀a,a<i→∀b,b<a→((sa r a b).isSome&&(ud r a b).isSome)=true):=⟨_,fun _ _=>rfl⟩;refine db (n) F JF _ aO ?_ ?_ ?_
        · refine dA (()) ?_ ?_ ?_ ?_
          · exact Eq.mpr (aO _ _) (by intro k h;omega)
          all_goals simp[hF,List.replicate,am,bj]
        · rintro i x hi hJ;simp only[hF,List.replicate,am,c8 hi];obtain⟨F2,dG⟩:∃F2:Nat→Unit→St,∀j x,F2 j x=⟨[.any,.ptr (.loc 0) 0,.any,.int .i64 (i:Nat),.any,.any,.any,.any,.any,.any,.any,.any,.any,.any,.any,.any,.any,.any,.any,.any,.any,.any,.any,.int .i64 (n:Nat),.int .i64 (i:Nat),.any,.any,.int .i64 (i:Nat),.int .i64 (j:Nat)]++List.replicate 24 .any,[r.enc],σ⟩:=⟨_,fun _ _=>rfl⟩;obtain⟨ga,fT⟩:∃ga:Nat→Unit→Prop,∀j x,ga j x=(∀b,b<j→((sa r i b).isSome&&(ud r i b).isSome)=true):=⟨_,fun _ _=>rfl⟩;refine db (i) F2 ga _ fT ?_ ?_ ?_
          · refine dA (()) ?_ ?_ ?_ ?_
            · exact Eq.mpr (fT _ _) (by intro k h;omega)
            all_goals simp[dG,List.replicate,am,bj]
          · rintro j x hj nI;simp only[dG,List.replicate,am,c8 hj,Rl.af];refine cl (agR r i j hg) ?_;simp only[am,Rl.af,si];refine cl (aiN r i j hg) ?_;simp only[am,si];cases ha:(sa r i j).isSome with
            | false =>
              simp only[am,aM];refine az ?_;simp[V.erase,bad i j hi hj (by rw[ha];rfl)]
            | true =>
              simp only[am];cases hb:(ud r i j).isSome with
              | false =>
                simp only[am,aM];refine az ?_;simp[V.erase,bad i j hi hj (by rw[ha,hb];rfl)]
              | true =>
                simp only[am,aM,ca hj (by omega)];refine nxt (()) hj ?_ ?_ ?_ ?_
                · exact Eq.mpr (fT _ _) (w8 nI (by rw[ha,hb];rfl))
                all_goals simp[dG,List.replicate,am,bj]
          · rintro x nI;simp only[dG,List.replicate,am,aM,c9,Nat.reduceEqDiff,aM,reduceCtorEq,ca hi (by omega)];refine nxt (()) hi ?_ ?_ ?_ ?_
            · exact Eq.mpr (aO _ _) (w8 hJ nI)
            all_goals simp[hF,List.replicate,am,bj]
        · rintro x hJ;simp only[hF,List.replicate,am,aM,c9,aM];refine az ?_;simp[V.erase,good hJ]
structure RI (r:Rl) (i0 m:Nat) (l:List Nat):Prop where
  nd:l.Nodup
  Eg:∀k∈l,iT r i0 k
  fst:i0∈l
  Vd:∀a v,a<m→l[a]?=some v→∀k,cT r v k=true→k∈l
theorem RI.len {r:Rl} {i0 m:Nat} {l:List Nat} (h:RI r i0 m l):l.length≤bf r:=IL h.nd fun k hk=>(h.Eg k hk).lt.2
theorem RI.all {r:Rl} {i0:Nat} {l:List Nat} (h:RI r i0 l.length l) (j:Nat):j∈l↔iT r i0 j:=by
  refine⟨h.Eg j,fun hr=>?_⟩;induction hr with
  | refl _=>exact h.fst
  | tail _ hs ih =>
    obtain⟨a,ha,hv⟩:=Fo.1 ih;exact h.Vd a _ ha (by rw[cc ha,hv]) _ hs
theorem RI.add {r:Rl} {i0 m j:Nat} {l:List Nat} {v:Nat} (h:RI r i0 m l) (hm:m≤l.length) (hv:v∈l) (hs:cT r v j=true) (hj:j∉l):RI r i0 m (l++[j]):=by
  refine⟨?_,fun k hk=>?_,by simp[h.fst],fun a w ha hw k hk=>?_⟩
  · rw[List.nodup_append];exact⟨h.nd,by simp,fun a ha b hb=>by simp only[lb] at hb;subst hb;rintro rfl;exact hj ha⟩
  · rcases gY.1 hk with hk | hk
    · exact h.Eg k hk
    · rw[lb.1 hk];exact(h.Eg v hv).tail hs
  · rw[nk (by omega)] at hw;exact gY.2 (.inl (h.Vd a w ha hw k hk))
end Go.Proofs.Tryz
namespace Go.Proofs.Tryz
open Go.Am
def LW:AC:=.seq (.aa [⟨(some 2),.mv (.c (.bool false)),none⟩])
 (.seq (.aa [U 3 0,xk 4 3,xf 3 5 4,xl 2 6 5,⟨(some 7),.build [(.int .i64 0),(.int .i64 0)] [],none⟩,⟨(some 8),.jw false [1,1] (.s 6) (.s 7),none⟩,U 2 8])
 (.ret))
theorem ack:aJ prog 156 LW [.tmp 2] 9:=⟨f156,⟨[],[],[]⟩,func156,by kernel_rfl,by kernel_rfl,by kernel_rfl,by kernel_rfl⟩
def Mq:AC:=.seq (.aa [⟨(some 2),.alloc [(.str []),(.int .i64 0)],none⟩])
 (.seq (.aa [U 4 0,xc 206 5 [.s 4,.c (.int .u8 97)],⟨(some 3),.alloc [(.int .u8 0),(.str []),(.int .i64 0),(.sl .full 5 []),(.int .i64 0)],none⟩,xs 5 3 5])
 (.seq (.aa [xf 0 6 3,xf 1 7 6,xo 8 7,xf 0 9 3,xf 2 10 9,xo 11 10,⟨(some 12),.build [(.str []),(.int .i64 0)] [(0,1,(.s 8)),(1,1,(.s 11))],none⟩,xs 2 2 12])
 (.ret)))
theorem acR:aJ prog 204 Mq [.cell 2 true 2] 13:=⟨f204,⟨[],[],[]⟩,func204,by kernel_rfl,by kernel_rfl,by kernel_rfl,by kernel_rfl⟩
def Mr:AC:=.seq (.aa [⟨(some 4),.mv (.c (.bool false)),none⟩])
 (.seq (.draw [(U 5 0,[]),(xc 156 6 [.s 5],[]),(U 7 6,[]),(xg 7 (U 8 0),[]),(xg 7 (xk 9 8),[]),(xg 7 (xf 1 10 9),[]),(xg 7 (xo 11 10),[]),(xg 7 (xB .geq 12 11 0),[]),(⟨(some 13),.pick (.s 7) (.s 12) (.c (.bool false)),none⟩,[]),(U 14 13,[]),(xg 14 (U 15 0),[]),(xg 14 (xk 16 15),[]),(xg 14 (xf 1 17 16),[]),(xg 14 (xo 18 17),[]),(xg 14 (U 19 0),[]),(xg 14 (xk 20 19),[]),(xg 14 (xf 0 21 20),[]),(xg 14 (xo 22 21),[]),(xg 14 (xL 23 22),[]),(xg 14 (xb .lss 24 18 23),[]),(⟨(some 25),.pick (.s 14) (.s 24) (.c (.bool false)),none⟩,[]),(U 26 25,[]),(xg 26 (U 27 0),[]),(xg 26 (xk 28 27),[]),(xg 26 (xf 0 29 28),[]),(xg 26 (xo 30 29),[]),(xg 26 (U 31 0),[]),(xg 26 (xk 32 31),[]),(xg 26 (xf 1 33 32),[]),(xg 26 (xo 34 33),[]),(xg 26 (xA 5 35 30 34),[]),(xg 26 (xf 0 36 35),[]),(xg 26 (xf 0 37 36),[]),(xg 26 (xo 38 37),[]),(xg 26 (U 39 1),[]),(xg 26 (xb .eql 40 38 39),[]),(⟨(some 41),.pick (.s 26) (.s 40) (.c (.bool false)),none⟩,[]),(U 4 41,[])])
 (.ret))
theorem acS:aJ prog 205 Mr [.tmp 4] 42:=⟨f205,⟨[],[],[]⟩,func205,by kernel_rfl,by kernel_rfl,by kernel_rfl,by kernel_rfl⟩
def Ms:AC:=.seq (.aa [⟨(some 4),.alloc [(.int .u8 0),(.str []),(.int .i64 0),(.sl .full 5 []),(.int .i64 0)],none⟩])
 (.seq (.seq (.aa [U 5 0,U 6 1,xc 205 7 [.s 5,.s 6],⟨(some 8),.not (.s 7),none⟩])
 (.cond (.s 8) (.seq (.aa [U 9 0,xc 243 10 [.s 9]])
 (.seq (.aa [⟨(some 11),.build [(.int .u8 0),(.str []),(.int .i64 0),(.sl .full 5 []),(.int .i64 0)] [],none⟩,xs 5 4 11])
 (.ret)))
 (.skip)))
 (.seq (.aa [U 12 0,xk 13 12,xf 1 14 13,xo 15 14,xB .add 16 15 1,xk 17 12,xf 1 18 17,xs 1 18 16])
 (.seq (.draw [(U 19 0,[]),(xk 20 19,[]),(xf 0 21 20,[]),(xo 22 21,[]),(U 23 0,[]),(xk 24 23,[]),(xf 1 25 24,[]),(xo 26 25,[]),(xB .sub 27 26 1,[]),(xA 5 28 22 27,[]),(xl 5 29 28,[]),(xs 5 4 29,[])])
 (.ret))))
theorem acT:aJ prog 206 Ms [.cell 4 true 5] 30:=⟨f206,⟨[],[],[]⟩,func206,by kernel_rfl,by kernel_rfl,by kernel_rfl,by kernel_rfl⟩
def MY:AC:=.seq (.seq (.aa [U 2 0,xc 156 3 [.s 2],⟨(some 4),.not (.s 3),none⟩])
 (.cond (.s 4) (.ret)
 (.skip)))
 (.seq (.aa [U 5 0,U 6 0,xk 7 6,xf 2 8 7,xo 9 8,⟨(some 10),.build [(.int .i64 0),(.int .i64 0)] [(0,1,(.c (.int .i64 2))),(1,1,(.s 9))],none⟩,xk 11 5,xf 3 12 11,xs 2 12 10])
 (.seq (.draw [(U 13 0,[]),(xk 14 13,[]),(xf 1 15 14,[]),(xo 16 15,[]),(xB .geq 17 16 0,[]),(U 18 17,[]),(xg 18 (U 19 0),[]),(xg 18 (xk 20 19),[]),(xg 18 (xf 1 21 20),[]),(xg 18 (xo 22 21),[]),(xg 18 (U 23 0),[]),(xg 18 (xk 24 23),[]),(xg 18 (xf 0 25 24),[]),(xg 18 (xo 26 25),[]),(xg 18 (xL 27 26),[]),(xg 18 (xb .lss 28 22 27),[]),(⟨(some 29),.pick (.s 18) (.s 28) (.c (.bool false)),none⟩,[])])
 (.cond (.s 29) (.draw [(U 30 0,[]),(U 31 0,[]),(xk 32 31,[]),(xf 0 33 32,[]),(xo 34 33,[]),(U 35 0,[]),(xk 36 35,[]),(xf 1 37 36,[]),(xo 38 37,[]),(xA 5 39 34 38,[]),(xf 0 40 39,[]),(xf 2 41 40,[]),(xo 42 41,[]),(xk 43 30,[]),(xf 3 44 43,[]),(xf 1 45 44,[]),(xs 1 45 42,[])])
 (.skip))))
theorem ads:aJ prog 243 MY [] 46:=⟨f243,⟨[],[],[]⟩,func243,by kernel_rfl,by kernel_rfl,by kernel_rfl,by kernel_rfl⟩
set_option maxRecDepth 4000
theorem se {r:Nat} {rd:ae} {σ:ab} (h:σ.box r=some rd.enc):ak prog 156 [.ptr (.out r) 0] σ fun v σ' => v = .bool rd.ok∧σ' = σ:=by
  refine ack.calls ?_;simp only[aI,LW,aP,am,h,ae.enc];refine aF rfl (ab.aS _) ⟨?_,rfl⟩;cases hb:rd.bad<;>simp[ae.ok,V.erase,hb,cj,dT]
theorem mZ {r:Nat} {rd:ae} {k:Int} {σ:ab} (h:σ.box r=some rd.enc):ak prog 205 [.ptr (.out r) 0,.int .u8 k] σ fun v σ' => v = .bool (rd.sees k)∧σ' = σ:=by
  refine acS.calls ?_;simp only[aI,Mr,aP,am];refine bh.intro (se h) ?_;simp only[am];cases bw:rd.ok
  · simp only[am];refine aF rfl (ab.aS _) ⟨?_,rfl⟩;simp[ae.sees,bw,V.erase]
  · simp only[am,h,ae.enc]
    by_cases h0:0≤rd.at_
    · simp only[am,h0,bQ,h,ae.enc,ix]
      by_cases h1:rd.at_<rd.l.length
      · obtain⟨j,hj⟩:=E8 h0;have gl : j<rd.l.length:=by omega
        simp only[am,h1,bQ,h,ae.enc];refine bx h0 (c:=rd.l[j].enc) (by simp[po,hj,gl]) ?_;simp only[am,cm];refine aF rfl (ab.aS _) ⟨?_,rfl⟩;simp[ae.sees,l6,V.erase,bw,hj,gl]
      · simp only[am,h1,eT];refine aF rfl (ab.aS _) ⟨?_,rfl⟩
        have:rd.l[rd.at_.toNat]?=none:=uR (by omega)
        simp[ae.sees,l6,V.erase,this]
    · simp only[am,h0,eT];refine aF rfl (ab.aS _) ⟨?_,rfl⟩;simp[ae.sees,l6,V.erase,h0]
theorem PY {r:Nat} {rd:ae} {σ:ab} (h:σ.box r=some rd.enc):ak prog 243 [.ptr (.out r) 0] σ fun v σ' => v = .aT []∧σ' = σ.set r rd.fail.enc:=by
  refine ads.calls ?_;simp only[aI,MY,aP,am];refine(se h).mono ?_;rintro v σ' ⟨rfl,rfl⟩;cases hb:rd.bad with
  | some b =>
    simp only[am,ae.ok,hb,Option.isNone];refine aF rfl (ab.aS _) ⟨rfl,?_⟩;rw[ae.fail,hb];exact(ab.uv h).symm
  | none =>
    simp only[am,ae.ok,hb,Option.isNone,h,ae.enc,Nat.reduceAdd]
    by_cases h0:0≤rd.at_
    · simp only[am,h0,bQ,ix]
      by_cases h1:rd.at_<rd.l.length
      · obtain⟨j,hj⟩:=E8 h0;have gl : j<rd.l.length:=by omega
        simp only[am,h1,bQ];refine bx h0 (c:=rd.l[j].enc) (by simp[po,hj,gl]) ?_;simp only[am,cm,Nat.reduceAdd];refine aF rfl (ab.aS _) ⟨rfl,?_⟩;simp[ae.fail,ae.spot,hb,hj,gl,cj,dT]
      · simp only[am,h1,eT];refine aF rfl (ab.aS _) ⟨rfl,?_⟩
        have:rd.l[rd.at_.toNat]?=none:=uR (by omega)
        simp[ae.fail,ae.spot,hb,this,cj,dT]
    · simp only[am,h0,eT];refine aF rfl (ab.aS _) ⟨rfl,?_⟩;simp[ae.fail,ae.spot,hb,h0,cj,dT]
theorem sB {r:Nat} {rd:ae} {k:Int} {σ:ab} (h:σ.box r=some rd.enc) (hb:rd.l.length≤aE):ak prog 206 [.ptr (.out r) 0,.int .u8 k] σ fun v σ' => v = .agg (rd.take k).1.enc∧σ' = σ.set r (rd.take k).2.enc:=by
  refine acT.calls ?_;simp only[aI,Ms,aP,am];refine(mZ h).mono ?_;rintro v σ' ⟨rfl,rfl⟩;cases hs:rd.sees k
  · simp only[am];refine(PY h).mono ?_;rintro v σ' ⟨rfl,rfl⟩;simp only[am];refine aF rfl (ab.aS _) ⟨?_,?_⟩
    · simp[ae.take,hs,V.erase,aX,Tree.zero,Tree.enc,ct]
    · simp[ae.take,hs]
  · have b_ := hs;simp only[ae.sees,l6,bm,cq] at b_;obtain⟨_,h0,hk⟩:=b_;have h1:rd.at_.toNat<rd.l.length:=by
      cases hq:rd.l[rd.at_.toNat]? with
      | none=>rw[hq] at hk;simp at hk
      | some t=>exact(dj.1 hq).1
    simp only[aE] at hb;simp only[am,h,ae.enc];rw[wrap_i64 (x:=rd.at_+1) (by omega) (by omega),wrap_i64 (x:=rd.at_+1 - 1) (by omega) (by omega)];refine bx (by omega) (c:=rd.l[rd.at_.toNat].enc) (by rw[show (rd.at_+1 - 1).toNat=rd.at_.toNat by omega];simp[po,h1]) ?_;simp only[am,cm];refine aF rfl (ab.aS _) ⟨?_,?_⟩
    · simp[ae.take,hs,V.erase,aX,h1,List.getD]
    · simp[ae.take,hs]
theorem uH {r:Nat} {rd:ae} {σ:ab} (h:σ.box r=some rd.enc) (hb:rd.l.length≤aE):ak prog 204 [.ptr (.out r) 0] σ fun v σ' => v = .agg rd.word.1.enc∧σ' = σ.set r rd.word.2.enc:=by
  refine acR.calls ?_;simp only[aI,Mq,aP,am];refine(sB h hb).mono ?_;rintro v σ' ⟨rfl,rfl⟩;simp only[am,cm,Nat.reduceAdd];refine aF rfl (ab.aS _) ⟨?_,?_⟩
  · simp[ae.word,V.erase,aX,Word.enc]
  · simp[ae.word]
end Go.Proofs.Tryz
namespace Go.Proofs.Tryz
open Go.Am
def Mo:AC:=.seq (.aa [U 4 1,⟨(some 5),.fR (.s 4) [],none⟩])
 (.block 0 (.loop (.seq (.seq (.aa [U 6 0,xc 205 7 [.s 6,.c (.int .u8 44)]])
 (.cond (.s 7) (.skip)
 (.exit 0)))
 (.block 1 (.seq (.aa [U 8 0,xc 206 9 [.s 8,.c (.int .u8 44)]])
 (.aa [U 10 1,⟨(some 11),.fR (.s 10) [],none⟩]))))))
theorem acP:aJ prog 202 Mo [] 12:=⟨f202,⟨[],[],[]⟩,func202,by kernel_rfl,by kernel_rfl,by kernel_rfl,by kernel_rfl⟩
set_option maxRecDepth 4000
structure Sys (α:Type) where
  F:α→ab
  rd:α→ae
  set:α→ae→α
  step:α→α
def Sys.go {α:Type} (S:Sys α):Nat→α→α
  | 0,a=>a
  | n+1,a=>if (S.rd a).sees 44 then S.go n (S.step (S.set a ((S.rd a).take 44).2)) else a
theorem anc {rd:ae} {k:Int} (h:rd.sees k=true):rd.bad=none∧0≤rd.at_∧rd.at_<rd.l.length:=by
  simp only[ae.sees,ae.ok,l6,bm,cq,wU] at h;obtain⟨h1,h0,hk⟩:=h;refine⟨h1,h0,?_⟩;cases hq:rd.l[rd.at_.toNat]? with
  | none=>rw[hq] at hk;simp at hk
  | some t=>have:=(dj.1 hq).1;omega
theorem JW {α:Type} (S:Sys α) (Inv:α→Prop) {g:FuncId} {cap:List V} {r:Nat} (lV:bd cap=true)
    (lv:∀a,Inv a→(S.F a).box r=some (S.rd a).enc) (hlen:∀a,Inv a→(S.rd a).l.length≤aE)
    (kn:∀a,Inv a→(S.rd a).sees 44=true→(S.F a).set r ((S.rd a).take 44).2.enc=S.F (S.set a ((S.rd a).take 44).2))
    (oK:∀a,Inv a→(S.rd a).sees 44=true→ak prog g cap (S.F (S.set a ((S.rd a).take 44).2)) (fun v σ' => v = .aT []∧σ' = S.F (S.step (S.set a ((S.rd a).take 44).2))) ∧
      Inv (S.step (S.set a ((S.rd a).take 44).2))∧(S.rd (S.step (S.set a ((S.rd a).take 44).2))).l=(S.rd a).l∧(S.rd a).at_+1≤(S.rd (S.step (S.set a ((S.rd a).take 44).2))).at_)
    {a:α} (h0:ak prog g cap (S.F a) (fun v σ' => v = .aT []∧σ' = S.F (S.step a))) (hI:Inv (S.step a)) {n:Nat} (hn:(S.rd (S.step a)).l.length≤n) :
    ak prog 202 [.ptr (.out r) 0,.fn (.func g) [] cap] (S.F a) fun v σ' => v = .aT []∧σ' = S.F (S.go n (S.step a)):=by
  refine acP.calls ?_;simp only[aI,Mo,aP,am,lV];refine h0.mono ?_;rintro v σ' ⟨rfl,rfl⟩;simp only[am]
  let I:{p:α × Nat // Inv p.1∧((S.rd p.1).l.length:Int)≤max (S.rd p.1).at_ 0+p.2∧S.go p.2 p.1=S.go n (S.step a)}→St:=fun p =>
    ⟨[.ptr (.out r) 0,.fn (.func g) [] cap]++List.replicate 10 .any,[],S.F p.1.1⟩
  refine jj I (fun p=>p.1.2) ?_ ?_
  · refine aZ.enter ⟨(S.step a,n),hI,by simp only;omega,rfl⟩ ?_ bY.rfl bC.rfl;simp[I,List.replicate,am]
  · rintro⟨⟨b,m⟩,hb,hm,vv⟩;simp only[I,List.replicate,am];simp only at hb hm vv;refine(mZ (lv b hb)).mono ?_;rintro v σ' ⟨rfl,rfl⟩;cases hs:(S.rd b).sees 44
    · simp only[am];refine aF rfl (ab.aS _) ⟨rfl,?_⟩;rw[←vv];cases m<;>simp[Sys.go,hs]
    · obtain⟨_,h1,h2⟩:=anc hs;simp only[am];refine(sB (lv b hb) (hlen b hb)).mono ?_;rintro v σ' ⟨rfl,rfl⟩;simp only[am,lV];obtain⟨k1,k2,k3,k4⟩:=oK b hb hs;rw[kn b hb hs];refine k1.mono ?_;rintro v σ' ⟨rfl,rfl⟩;simp only[am];cases m with
      | zero=>omega
      | succ m =>
        refine aZ.again ⟨(S.step (S.set b ((S.rd b).take 44).2),m),k2,?_,?_⟩ (by simp) ?_ bY.rfl bC.rfl
        · rw[k3];simp only;omega
        · rw[←vv];simp[Sys.go,hs]
        · simp[am]
end Go.Proofs.Tryz
namespace Go.Proofs.Tryz
open Go.Am
def Mm:AC:=.seq (.aa [xi 8 0])
 (.seq (.aa [U 11 0,U 12 1,xc 206 13 [.s 11,.s 12],⟨(some 9),.alloc [(.int .u8 0),(.str []),(.int .i64 0),(.sl .full 5 []),(.int .i64 0)],none⟩,xs 5 9 13])
 (.seq (.seq (.aa [U 14 0,xc 156 15 [.s 14],⟨(some 16),.not (.s 15),none⟩])
 (.cond (.s 16) (.seq (.aa [xi 8 0])
 (.ret))
 (.skip)))
 (.seq (.aa [xf 3 17 9,xo 18 17,xf 4 19 9,xo 20 19,⟨(some 21),.build [(.sl .full 5 []),(.int .i64 0),(.int .i64 0),(.int .i64 0),(.int .i64 0)] [(0,1,(.s 18)),(2,1,(.s 20))],none⟩,⟨(some 22),.eD 5 (.s 21),none⟩,U 10 22])
 (.seq (.seq (.aa [U 23 2,⟨(some 24),.not (.s 23),none⟩,U 25 24,xh 25 (xf 3 26 9),xh 25 (xo 27 26),xh 25 (xL 28 27),xh 25 (xB .gtr 29 28 0),⟨(some 30),.pick (.s 25) (.c (.bool true)) (.s 29),none⟩])
 (.cond (.s 30) (.aa [U 31 3,U 32 10,⟨(some 33),.fR (.s 31) [(.s 32)],none⟩])
 (.skip)))
 (.seq (.seq (.draw [(U 34 10,[]),(xc 156 35 [.s 34],[]),(U 36 35,[]),(xg 36 (U 37 10),[]),(xg 36 (xk 38 37),[]),(xg 36 (xf 1 39 38),[]),(xg 36 (xo 40 39),[]),(xg 36 (U 41 10),[]),(xg 36 (xk 42 41),[]),(xg 36 (xf 0 43 42),[]),(xg 36 (xo 44 43),[]),(xg 36 (xL 45 44),[]),(xg 36 (xb .lss 46 40 45),[]),(⟨(some 47),.pick (.s 36) (.s 46) (.c (.bool false)),none⟩,[])])
 (.cond (.s 47) (.aa [U 48 10,xc 243 49 [.s 48]])
 (.skip)))
 (.seq (.seq (.aa [U 50 10,xc 156 51 [.s 50],⟨(some 52),.not (.s 51),none⟩])
 (.cond (.s 52) (.aa [U 53 0,U 54 10,xk 55 54,xf 3 56 55,xl 2 57 56,xk 58 53,xf 3 59 58,xs 2 59 57])
 (.skip)))
 (.seq (.aa [xf 0 60 9,xf 2 61 60,xo 62 61,U 8 62])
 (.ret))))))))
theorem acN:aJ prog 200 Mm [.tmp 8] 63:=⟨f200,⟨[22],[],[]⟩,func200,by kernel_rfl,by kernel_rfl,by kernel_rfl,by kernel_rfl⟩
set_option maxRecDepth 4000
set_option maxHeartbeats 4000000
theorem Ko {r:Nat} {rd:ae} {kind:Int} {empty:Bool} {g:FuncId} {cap:List V} {σ:ab} (lV:bd cap=true) (h:σ.box r=some rd.enc) (hlen:rd.l.length≤aE) (vA:(rd.take kind).1.kids.length≤aE)
    (i1:ae) (oa:ab) (hcb:(rd.take kind).2.ok=true→(empty=false∨(rd.take kind).1.kids.length≠0)→∀q,σ.box q=none →
      ak prog g (.ptr (.out q) 0::cap) ((σ.set r (rd.take kind).2.enc).set q (rd.take kind).1.inner.enc) fun v σ' => v = .aT []∧σ' = (oa.set r (rd.take kind).2.enc).set q i1.enc)
    (gm:empty=true→(rd.take kind).1.kids.length=0→i1=(rd.take kind).1.inner∧oa=σ) (hq:∀q,σ.box q=none→oa.box q=none) (hl:i1.l=(rd.take kind).1.kids) :
    ak prog 200 [.ptr (.out r) 0,.int .u8 kind,.bool empty,.fn (.func g) [] cap] σ fun v σ' =>
      if (rd.take kind).2.ok=true then v = .int .i64 (rd.take kind).1.tok.pos∧σ' = oa.set r ((rd.take kind).2.under i1).enc else v = .int .i64 0∧σ' = σ.set r (rd.take kind).2.enc:=by
  refine acN.calls ?_;simp only[aI,Mm,aP,am];refine(sB h hlen).mono ?_;rintro v σ' ⟨rfl,rfl⟩;generalize ht:(rd.take kind).1=t at *;generalize hr1:(rd.take kind).2=pS at *;simp only[am,cm,Nat.reduceAdd];refine(se (ab.cH _ _ _)).mono ?_;rintro v σ' ⟨rfl,rfl⟩;cases bw:pS.ok
  · simp only[am];refine aF rfl (ab.aS _) ?_;simp[V.erase]
  · have dV:pS.bad=none:=by simpa [ae.ok] using bw
    simp only[am,Nat.reduceAdd];refine gE fun q Di=>?_
    have iE:q≠r:=by rintro rfl;rw[ab.cH] at Di;simp at Di
    have Rn : σ.box q=none:=by rw[ab.cN _ _ iE] at Di;exact Di
    have eH:[V.sl .no 5 (ct t.kids),.int .i64 0,.int .i64 t.fin,.int .i64 0,.int .i64 0]=t.inner.enc:=rfl;simp only[am,eH];have fU:∀i:ae,i.l=t.kids→((oa.set r pS.enc).set q i.enc).box q=some i.enc:=fun i _=>ab.cH _ _ _
    have ko:∀(A B:List V),(oa.set r A).sub ((oa.set r A).set q B):=fun A B=>by
      refine⟨fun b cs hb=>?_,fun _ _ h=>h,fun _ _ h=>h⟩
      by_cases rS:b=q
      · subst rS;rw[ab.cN _ _ iE,hq b Rn] at hb;simp at hb
      · rw[ab.cN _ _ rS];exact hb
    have hsw:∀(A B C:List V),((oa.set r A).set q B).set r C=(oa.set r C).set q B:=fun A B C=>by rw[ab.set_comm iE,ab.set_set]
    have C3:((oa.set r pS.enc).set q i1.enc).box q=some i1.enc:=ab.cH _ _ _
    by_cases hc:empty=false∨t.kids.length≠0
    case' neg =>
      have hE:empty=true:=by cases empty<;>simp at hc ⊢
      have hk:t.kids.length=0:=by
        rcases Ft t.kids.length with h | h
        · exact h
        · exact absurd (.inr (by omega)) hc
      obtain⟨e1,e2⟩:=gm hE hk;simp only[am,hE,ix,hk,sO,Int.lt_irrefl,eT];rw[←e1,←e2]
    case' pos =>
      have vv:=hcb bw hc q Rn;cases hE:empty
      case' true =>
        have hk:0<t.kids.length:=by
          rcases hc with h | h
          · rw[hE] at h;simp at h
          · omega
        simp only[am,ix,Int.natCast_pos,hk,bQ]
      all_goals
        simp only[am,lV];refine vv.mono ?_;rintro v σ' ⟨rfl,rfl⟩;simp only[am]
    all_goals
      refine bh.intro (se C3) ?_;have QW:∀(i:ae),((oa.set r pS.enc).set q i.enc).box r=some pS.enc:=fun i=>by rw[ab.cN _ _ (Ne.symm iE),ab.cH]
      have fin:∀(i:ae) (x:List V),x=(pS.under i1).enc→(oa.set r (pS.under i1).enc).sub (((oa.set r pS.enc).set q i.enc).set r x):=fun i x hx=>by
        rw[hx,hsw];exact ko _ _
      cases yb:i1.ok
      · have fU:i1.close=i1:=by simp[ae.close,yb]
        simp only[am];refine(se C3).mono ?_;rintro v σ' ⟨rfl,rfl⟩;simp only[am,yb,QW,ae.ex,Nat.reduceAdd];exact aF rfl (fin i1 _ (by rw[ae.under,fU];rfl)) ⟨rfl,rfl⟩
      · simp only[am,ae.ex,hl,ix]
        by_cases ag:i1.at_<t.kids.length
        · have fU:i1.close=i1.fail:=by simp[ae.close,yb,hl,ag]
          simp only[am,ag,bQ];refine(PY C3).mono ?_;rintro v σ' ⟨rfl,rfl⟩;simp only[am];refine(se (ab.cH _ _ _)).mono ?_;rintro v σ' ⟨rfl,rfl⟩;have hf:i1.fail.ok=false:=by
            have:i1.bad=none:=by simpa [ae.ok] using yb
            simp[ae.fail,this,ae.ok]
          simp only[am,hf,QW,ae.ex,Nat.reduceAdd];exact aF rfl (fin i1.fail _ (by rw[ae.under,fU];rfl)) ⟨rfl,rfl⟩
        · have fU:i1.close=i1:=by simp[ae.close,hl,ag]
          have hu:pS.under i1=pS:=by
            have:i1.bad=none:=by simpa [ae.ok] using yb
            rw[ae.under,fU,this,←dV]
          simp only[am,ag,eT];refine(se C3).mono ?_;rintro v σ' ⟨rfl,rfl⟩;simp only[am,yb];refine aF rfl ?_ ⟨rfl,rfl⟩;rw[hu];exact ko _ _
end Go.Proofs.Tryz
namespace Go.Proofs.Tryz
open Go.Am
def LV:AC:=.seq (.aa [⟨(some 4),.mv (.c (.sl .full 2 [])),none⟩,xi 5 0])
 (.seq (.aa [⟨(some 6),.lO [(.sl .full 2 [])],none⟩])
 (.seq (.lH (.aa [U 8 0,U 9 1,⟨(some 10),.gG (.func 201) [] [(.s 6)],none⟩,xc 200 11 [.s 8,.c (.int .u8 123),.s 9,.s 10],U 7 11]))
 (.seq (.aa [xo 12 6,U 13 7,U 4 12,U 5 13])
 (.ret))))
theorem acj:aJ prog 155 LV [.tmp 4,.tmp 5] 14:=⟨f155,⟨[6],[2],[]⟩,func155,by kernel_rfl,by kernel_rfl,by kernel_rfl,by kernel_rfl⟩
def Mn:AC:=.seq (.aa [⟨(some 2),.eD 1 (.s 0),none⟩])
 (.aa [xo 3 2,⟨(some 4),.gG (.func 203) [] [(.s 1),(.s 2)],none⟩,xc 202 5 [.s 3,.s 4]])
theorem acO:aJ prog 201 Mn [] 6:=⟨f201,⟨[2],[],[]⟩,func201,by kernel_rfl,by kernel_rfl,by kernel_rfl,by kernel_rfl⟩
def Mp:AC:=.draw [(xo 2 0,[1]),(xo 3 1,[]),(xc 204 4 [.s 3],[]),(⟨(some 5),.cB 2 [(.s 4)],none⟩,[]),(xa 2 6 2 5,[]),(xs 1 0 6,[])]
theorem acQ:aJ prog 203 Mp [] 7:=⟨f203,⟨[],[],[]⟩,func203,by kernel_rfl,by kernel_rfl,by kernel_rfl,by kernel_rfl⟩
set_option maxRecDepth 4000
set_option maxHeartbeats 4000000
theorem apo {o p r τ:Nat} {rows:List (List V)} {rd:ae} {σ:ab} (ho:σ.box o=some [.sl (.tk τ) 2 rows]) (hp:σ.box p=some [.ptr (.out r) 0]) (hr:σ.box r=some rd.enc) (gA:o≠r)
    (ht:σ.aB τ=some rows.length) (hb:rows.length+1≤aE) (hlen:rd.l.length≤aE) :
    ak prog 203 [.ptr (.out o) 0,.ptr (.out p) 0] σ fun v σ' => v = .aT []∧σ' = ((σ.set r rd.word.2.enc).set o [.sl (.tk τ) 2 (rows++[rd.word.1.enc])]).aK τ (rows.length+1):=by
  refine acQ.calls ?_;simp only[aI,Mp,aP,am,ho,hp];refine bh.intro (uH hr hlen) ?_;simp only[am,Word.enc];refine zm (by simpa using hb) ht ?_;have h1:(σ.set r rd.word.2.enc).box o=some [.sl (.tk τ) 2 rows]:=by rw[ab.cN _ _ gA];exact ho
  simp only[am,h1];exact aF rfl (ab.aS _) ⟨rfl,rfl⟩
def dK (σ:ab) (q o τ k:Nat) (rd:ae) (rows:List (List V)):ab:=((σ.set q rd.enc).set o [.sl (.tk τ) k rows]).aK τ rows.length
def Bw (σ:ab) (q o τ:Nat):Sys (ae × List Word):=⟨fun a=>dK σ q o τ 2 a.1 (a.2.map Word.enc),fun a=>a.1,fun a r=>(r,a.2),jl⟩
theorem CV {β:Type} (F:ae × List β→ab) (step:ae × List β→ae × List β):∀(n:Nat) (a:ae × List β),Sys.go ⟨F,fun a=>a.1,fun a r=>(r,a.2),step⟩ n a=lu step n a
  | 0,_=>rfl
  | n+1,a=>by simp only[Sys.go,lu,CV F step n]
theorem xP {σ:ab} {q o τ k:Nat} {rd:ae} {rows:List (List V)} (h:q≠o):(dK σ q o τ k rd rows).box q=some rd.enc:=by
  simp[dK,ab.aK,ab.set,h]
theorem CT {σ:ab} {q o τ k:Nat} {rd:ae} {rows:List (List V)}:(dK σ q o τ k rd rows).box o=some [.sl (.tk τ) k rows]:=by
  simp[dK,ab.aK,ab.set]
theorem qE {σ:ab} {q o τ k p:Nat} {rd:ae} {rows:List (List V)} (h:p≠q) (h' : p≠o):(dK σ q o τ k rd rows).box p=σ.box p:=by
  simp[dK,ab.aK,ab.set,h,h']
theorem CU {σ:ab} {q o τ k p:Nat} {rd:ae} {rows:List (List V)} {cs:List V} (h:p≠q) (h' : p≠o):(dK σ q o τ k rd rows).set p cs=dK (σ.set p cs) q o τ k rd rows:=by
  have:((σ.set q rd.enc).set o [.sl (.tk τ) k rows]).set p cs=((σ.set p cs).set q rd.enc).set o [.sl (.tk τ) k rows]:=by
    rw[ab.set_comm (Ne.symm h'),ab.set_comm (b:=q) (Ne.symm h)]
  show (((σ.set q rd.enc).set o [.sl (.tk τ) k rows]).set p cs).aK τ rows.length=_;rw[this];rfl
theorem fv {σ:ab} {p:Nat} {cs:List V} (h:σ.box p=none):σ.sub (σ.set p cs):=by
  refine⟨fun b ds hb=>?_,fun _ _ h=>h,fun _ _ h=>h⟩
  have:b≠p:=by rintro rfl;rw[h] at hb;simp at hb
  rw[ab.cN _ _ this];exact hb
theorem Qs {σ:ab} {q o τ k:Nat} {rd:ae} {rows:List (List V)}:(dK σ q o τ k rd rows).aB τ=some rows.length:=by
  simp[dK,ab.aK]
theorem Gv {σ:ab} {q o τ k:Nat} {rd il : ae} {rows:List (List V)} (h:q≠o):(dK σ q o τ k rd rows).set q il.enc=dK σ q o τ k il rows:=by
  have:((σ.set q rd.enc).set o [.sl (.tk τ) k rows]).set q il.enc=(σ.set q il.enc).set o [.sl (.tk τ) k rows]:=by rw[ab.set_comm (Ne.symm h),ab.set_set]
  show (((σ.set q rd.enc).set o [.sl (.tk τ) k rows]).set q il.enc).aK τ rows.length=_;rw[this];rfl
theorem Qr {σ:ab} {q o τ k:Nat} {rd il : ae} {rows:List (List V)} {c:List V} (h:q≠o):(((dK σ q o τ k rd rows).set q il.enc).set o [.sl (.tk τ) k (rows++[c])]).aK τ (rows.length+1)=dK σ q o τ k il (rows++[c]):=by
  rw[Gv h];unfold dK;rw[bz,cF,dk];show ((((σ.set q il.enc).set o [.sl (.tk τ) k rows]).set o [.sl (.tk τ) k (rows++[c])]).aK τ rows.length).aK τ (rows.length+1)=_;rw[ab.set_set,ji]
def lN {β:Type} (l:List Tree) (a:ae × List β):Prop:=a.1.l=l∧0≤a.1.at_∧a.1.at_≤l.length∧(a.1.bad=none→(a.2.length:Int)≤a.1.at_)
theorem Tb {l:List Tree} {a:ae × List Word} (h:lN l a) (hb:a.1.bad=none):lN l (jl a)∧a.1.at_≤(jl a).1.at_:=by
  obtain⟨h1,h2,h3,h4⟩:=h;have h4:=h4 hb
  rcases a.1.mq 97 with ⟨_,k1,k2,k3,k4⟩ | ⟨_,k1,k2⟩
  · refine⟨⟨?_,?_,?_,fun _=>?_⟩,?_⟩<;>simp only[jl,ae.word,ae.ec,k1,bz,cF,dk]
    · exact h1
    · omega
    · rw[h1] at k4;omega
    · omega
    · omega
  · refine⟨⟨?_,?_,?_,fun hq=>absurd hq k2⟩,?_⟩<;>simp only[jl,ae.word,ae.ec,k1]
    · exact h1
    · exact h2
    · exact h3
    · omega
theorem I7 {β:Type} {l:List Tree} {a:ae × List β} (h:lN l a) (hs:a.1.sees 44=true):lN l ((a.1.take 44).2,a.2)∧(a.1.take 44).2.bad=none∧(a.1.take 44).2.at_=a.1.at_+1:=by
  obtain⟨h1,h2,h3,h4⟩:=h
  rcases a.1.mq 44 with ⟨_,k1,k2,k3,k4⟩ | ⟨k0,_⟩
  · have hb:a.1.bad=none:=by
      simp only[ae.sees,ae.ok,bm,wU] at hs;exact hs.1
    have:=h4 hb
    rw[h1] at k4;exact⟨⟨by simp only[ae.ec];exact h1,by simp only[k1];omega,by simp only[k1];omega,fun _=>by simp only[k1];omega⟩,k2,k1⟩
  · rw[hs] at k0;simp at k0
theorem apq {o q τ:Nat} {rd:ae} {σ:ab} (cE:q≠o) (fy:rd.at_=0) (dV:rd.bad=none) (hlen:rd.l.length+1≤aE) :
    ak prog 201 [.ptr (.out q) 0,.ptr (.out o) 0] (dK σ q o τ 2 rd []) fun v σ' => v = .aT []∧σ' = dK σ q o τ 2 (dQ jl rd).1 ((dQ jl rd).2.map Word.enc):=by
  refine acO.calls ?_;simp only[aI,Mn,aP,am];refine gE fun p hp=>?_
  have jF:p≠q:=by rintro rfl;rw[xP cE] at hp;simp at hp
  have jE:p≠o:=by rintro rfl;rw[CT] at hp;simp at hp
  rw[CU jF jE];simp only[am,qE jF jE];have oK:∀a:ae × List Word,lN rd.l a→a.1.bad=none→ak prog 203 [.ptr (.out o) 0,.ptr (.out p) 0] (dK (σ.set p [.ptr (.out q) 0]) q o τ 2 a.1 (a.2.map Word.enc)) fun v σ' =>
      v = .aT []∧σ' = dK (σ.set p [.ptr (.out q) 0]) q o τ 2 (jl a).1 ((jl a).2.map Word.enc):=fun a iZ hb=>by
    have hl:=iZ.2.2.2 hb;have kl:=iZ.2.2.1;refine(apo CT (by rw[qE jF jE,ab.cH]) (xP cE) (Ne.symm cE) Qs (by rw[aD];omega) (by rw[iZ.1];omega)).mono ?_;rintro v σ' ⟨rfl,rfl⟩;refine⟨rfl,?_⟩;rw[Qr cE];simp[jl]
  have h0:lN rd.l (rd,([]:List Word)):=⟨rfl,by simp[fy],by simp[fy],fun _=>by simp[fy]⟩;obtain⟨p1,_⟩:=Tb h0 dV;refine(JW (Bw (σ.set p [.ptr (.out q) 0]) q o τ) (lN rd.l) (a:=(rd,[])) (n:=rd.l.length) (by simp[am]) (fun a h=>xP cE) (fun a h=>?_) (fun a h hs=>Gv cE) (fun a h hs=>?_) (oK _ h0 dV) p1 ?_).mono ?_
  · show a.1.l.length≤aE;rw[h.1];omega
  · obtain⟨k1,k2,k3⟩:=I7 h hs;obtain⟨k4,k5⟩:=Tb k1 k2;refine⟨oK _ k1 k2,k4,?_,?_⟩
    · exact k4.1.trans h.1.symm
    · show a.1.at_+1≤_;simp only at k5;rw[k3] at k5;exact k5
  · show (jl (rd,[])).1.l.length≤rd.l.length;rw[p1.1];omega
  rintro v σ' ⟨rfl,rfl⟩;simp only[am];refine aF rfl (σ' := dK σ q o τ 2 (dQ jl rd).1 ((dQ jl rd).2.map Word.enc)) ?_ ⟨rfl,rfl⟩;have e:(Bw (σ.set p [.ptr (.out q) 0]) q o τ).F ((Bw (σ.set p [.ptr (.out q) 0]) q o τ).go rd.l.length ((Bw (σ.set p [.ptr (.out q) 0]) q o τ).step (rd,[])))=dK (σ.set p [.ptr (.out q) 0]) q o τ 2 (dQ jl rd).1 ((dQ jl rd).2.map Word.enc):=by
    unfold Bw;rw[CV];rfl
  rw[e,←CU jF jE];exact fv (by rw[qE jF jE];rw[qE jF jE] at hp;exact hp)
theorem Gx {β:Type} {l:List Tree} {step:ae × List β→ae × List β} (hs:∀a,a.1.l=l→(step a).1.l=l):∀(n:Nat) (a:ae × List β),a.1.l=l→(lu step n a).1.l=l
  | 0,_,h=>h
  | n + 1, a, h => by
    simp only[lu];split
    · exact Gx hs n _ (hs _ (by rw[ae.ec];exact h))
    · exact h
theorem RO {β:Type} {step:ae × List β→ae × List β} (hs:∀l a,a.1.l=l→(step a).1.l=l) (empty:Bool) (t:Tree):(ae.inside step empty t).1.l=t.kids:=by
  unfold ae.inside;split
  · rfl
  · exact Gx (hs _) _ _ (hs _ _ rfl)
theorem ao0 (l:List Tree) (a:ae × List Word) (h:a.1.l=l):(jl a).1.l=l:=by simp[jl,ae.word,ae.ec,h]
theorem Kw {r:Nat} {empty:Bool} {rd:ae} {σ:ab} (h:σ.box r=some rd.enc) (hlen:rd.l.length≤aE) (vA:(rd.take 123).1.kids.length+1≤aE) :
    ak prog 155 [.ptr (.out r) 0,.bool empty] σ fun v σ' => v = .aT [.sl .no 2 ((rd.words empty).1.1.map Word.enc),.int .i64 (rd.words empty).1.2]∧σ' = σ.set r (rd.words empty).2.enc:=by
  refine acj.calls ?_;simp only[aI,LV,aP,am];refine gE fun o ho=>?_
  have gA:o≠r:=by rintro rfl;rw[h] at ho;simp at ho
  simp only[am];refine aZ.tok 0 fun τ ba=>⟨_,_,_,dc.rfl,rfl,fun i c hc=>⟨c,hc,dc.rfl⟩,np.set (cs:=[.sl .full 2 []]) (cs' := [.sl (.tk τ) 2 []]) (ab.cH _ _ _) ⟨gz.tok rfl,trivial⟩,?_⟩
  simp only[am];have h1:((σ.set o [.sl (.tk τ) 2 []]).aK τ 0).box r=some rd.enc:=by
    show (σ.set o _).box r=_;rw[ab.cN _ _ (Ne.symm gA)];exact h
  have aH:∀q,((σ.set o [V.sl (.tk τ) 2 []]).aK τ 0).box q=none→q≠o∧q≠r∧σ.box q=none:=fun q hq=>by
    have cE:q≠o:=by rintro rfl;rw[show ((σ.set q [V.sl (.tk τ) 2 []]).aK τ 0).box q=_ from ab.cH _ _ _] at hq;simp at hq
    have kP : σ.box q=none:=by rw[←ab.cN σ [V.sl (.tk τ) 2 []] cE];exact hq
    exact⟨cE,by rintro rfl;rw[h] at kP;simp at kP,kP⟩
  generalize eH:ae.inside jl empty (rd.take 123).1=ins;have Ak:ins.1.l=(rd.take 123).1.kids:=by rw[←eH];exact RO ao0 _ _
  refine(Ko (kind:=123) (by simp[am]) h1 hlen (by omega) ins.1 ((σ.set o [.sl (.tk τ) 2 (ins.2.map Word.enc)]).aK τ (ins.2.map Word.enc).length) ?_ ?_ ?_ Ak).mono ?_
  · intro bw hc q hq;obtain⟨cE,iE,_⟩:=aH q hq;have e1:(((σ.set o [V.sl (.tk τ) 2 []]).aK τ 0).set r (rd.take 123).2.enc).set q (rd.take 123).1.inner.enc=dK (σ.set r (rd.take 123).2.enc) q o τ 2 (rd.take 123).1.inner []:=by
      unfold dK;rw[ab.set_comm (b:=q) cE,ab.set_comm (b:=r) (Ne.symm gA)];rfl
    have e2:(((σ.set o [V.sl (.tk τ) 2 (ins.2.map Word.enc)]).aK τ (ins.2.map Word.enc).length).set r (rd.take 123).2.enc).set q ins.1.enc=dK (σ.set r (rd.take 123).2.enc) q o τ 2 ins.1 (ins.2.map Word.enc):=by
      unfold dK;rw[ab.set_comm (b:=q) cE,ab.set_comm (b:=r) (Ne.symm gA)];rfl
    have e3:ins=dQ jl (rd.take 123).1.inner:=by
      rw[←eH,ae.inside,ah];rintro⟨q1,q2⟩
      rcases hc with hc | hc
      · rw[q1] at hc;simp at hc
      · exact hc q2
    rw[e1,e2,e3];exact apq cE rfl rfl vA
  · intro q1 q2
    have:ins=((rd.take 123).1.inner,[]):=by rw[←eH,ae.inside,aw ⟨q1,q2⟩]
    rw[this];exact⟨rfl,rfl⟩
  · intro q hq;obtain⟨cE,_,kP⟩:=aH q hq;show (σ.set o _).box q=none;rw[ab.cN _ _ cE];exact kP
  rintro v σ' hv;have tE:∀(A B:List V) (n:Nat),(σ.set r A).sub (((σ.set o B).aK τ n).set r A):=fun A B n=>by
    refine⟨fun b cs hb=>?_,fun υ m hm=>?_,fun _ _ h=>h⟩
    · have Ad:b≠o:=by rintro rfl;rw[ab.cN _ _ gA,ho] at hb;simp at hb
      by_cases qG:b=r
      · subst qG;rw[ab.cH] at hb ⊢;exact hb
      · rw[ab.cN _ _ qG] at hb ⊢;show (σ.set o B).box b=_;rw[ab.cN _ _ Ad];exact hb
    · have pB : σ.aB υ=some m:=hm;have vB : υ≠τ:=by rintro rfl;rw[show (σ.set o [V.sl .full 2 []]).aB υ=σ.aB υ from rfl] at ba;rw[ba] at pB;simp at pB
      show ((σ.set o B).aK τ n).aB υ=some m;rw[wq vB];exact pB
  split at hv
  · rename_i bw;obtain⟨rfl,rfl⟩:=hv;have hb:(((σ.set o [V.sl (.tk τ) 2 (ins.2.map Word.enc)]).aK τ (ins.2.map Word.enc).length).set r ((rd.take 123).2.under ins.1).enc).box o=some [V.sl (.tk τ) 2 (ins.2.map Word.enc)]:=by
      rw[ab.cN _ _ gA];exact ab.cH _ _ _
    simp only[am,hb];refine aF rfl (tE _ _ _) ⟨?_,?_⟩
    · simp[ae.words,ae.bracket,bw,eH,V.erase,aX]
    · simp[ae.words,ae.bracket,bw,eH]
  · rename_i bw;obtain⟨rfl,rfl⟩:=hv;have hb:(((σ.set o [V.sl (.tk τ) 2 []]).aK τ 0).set r (rd.take 123).2.enc).box o=some [V.sl (.tk τ) 2 []]:=by
      rw[ab.cN _ _ gA];exact ab.cH _ _ _
    simp only[am,hb];refine aF rfl (tE _ _ _) ⟨?_,?_⟩
    · simp[ae.words,ae.bracket,bw,V.erase,aX]
    · simp[ae.words,ae.bracket,bw]
end Go.Proofs.Tryz
namespace Go.Proofs.Tryz
open Go.Am
def MZ:AC:=.seq (.aa [⟨(some 3),.eD 1 (.s 0),none⟩])
 (.aa [xo 4 3,⟨(some 5),.gG (.func 245) [] [(.s 1),(.s 2),(.s 3)],none⟩,xc 202 6 [.s 4,.s 5]])
theorem adt:aJ prog 244 MZ [] 7:=⟨f244,⟨[3],[],[]⟩,func244,by kernel_rfl,by kernel_rfl,by kernel_rfl,by kernel_rfl⟩
def M0:AC:=.hole [(xo 3 0,[1]),(xo 4 1,[]),(xo 5 2,[]),(⟨(some 6),.fR (.s 4) [(.s 5)],none⟩,[]),(xL 7 3,[]),(⟨(some 8),.cB 5 [(.c (.agg [(.int .i64 0),(.int .i64 0),(.str []),(.sl .full 2 []),(.sl .full 5 [])]))],none⟩,[]),(⟨(some 9),.mv (.c .any),none⟩,[]),(⟨(some 10),.mv (.c .any),none⟩,[]),(⟨none,.mv (.c .any),none⟩,[]),(⟨none,.mv (.c .any),none⟩,[])] ⟨5,(.s 3),(.s 8),(.s 7),(.s 6),(.s 0),none,9,10,20⟩
theorem adu:aJ prog 245 M0 [] 11:=⟨f245,⟨[],[],[]⟩,func245,by kernel_rfl,by kernel_rfl,by kernel_rfl,by kernel_rfl⟩
set_option maxRecDepth 4000
set_option maxHeartbeats 4000000
theorem Nd.wd {n:Nd}:(V.agg n.enc).wd=some 5:=by rw[Nd.cm];rfl
theorem Nd.one {n:Nd}:bA n.enc=true:=by rw[Nd.cm];rfl
theorem Nd.bS {n:Nd}:bd n.enc=true:=by rw[Nd.cm];rfl
theorem Nd.er {n:Nd}:aX n.enc=n.enc:=by rw[Nd.cm];rfl
theorem ag_ {o f p q τ:Nat} {g:FuncId} {rows:List (List V)} {il : ae} {n:Nd} {σ:ab} (ho:σ.box o=some [.sl (.tk τ) 5 rows]) (hf:σ.box f=some [.fn (.func g) [] []]) (hp:σ.box p=some [.ptr (.out q) 0])
    (HA:o≠q) (ht:σ.aB τ=some rows.length) (hb:rows.length+1≤aE) (dH:ak prog g [.ptr (.out q) 0] σ fun v σ' => v = .agg n.enc∧σ' = σ.set q il.enc) :
    ak prog 245 [.ptr (.out o) 0,.ptr (.out f) 0,.ptr (.out p) 0] σ fun v σ' => v = .aT []∧σ' = ((σ.set q il.enc).set o [.sl (.tk τ) 5 (rows++[n.enc])]).aK τ (rows.length+1):=by
  refine adu.calls ?_;simp only[aI,M0,aP,am,ho,hp,hf];refine bh.intro dH ?_;have h1:(σ.set q il.enc).box o=some [.sl (.tk τ) 5 rows]:=by rw[ab.cN _ _ HA];exact ho
  simp only[am,h1];refine Rg (τ:=τ) (m:=rows) (cs:=n.enc) (p:=.ptr (.out o) 0) rfl rfl rfl hb ht ⟨Nd.wd,Nd.one,Nd.bS⟩ Nd.er (by simp) rfl (by simp only[am,h1];rfl) ?_;simp only[am];exact aF rfl (ab.aS _) ⟨rfl,rfl⟩
theorem D3 {β:Type} {one:ae→β × ae} (ho:Reads one) {l:List Tree} {a:ae × List β} (h:lN l a) (hb:a.1.bad=none):lN l (bU one a)∧a.1.at_≤(bU one a).1.at_:=by
  obtain⟨h1,h2,h3,h4⟩:=h;have h4:=h4 hb;obtain⟨k1,k2,k3⟩:=ho.go a.1 h2 (by rw[h1];exact h3);refine⟨⟨by simp only[bU,ho.l];exact h1,by simp only[bU];omega,by simp only[bU];rw[h1] at k2;exact k2,fun hq=>?_⟩,k1⟩
  have:=k3 hq
  simp only[bU,bz,cF,dk];omega
def AN (one:ae→Nd × ae) (σ:ab) (q o τ:Nat):Sys (ae × List Nd):=⟨fun a=>dK σ q o τ 5 a.1 (a.2.map Nd.enc),fun a=>a.1,fun a r=>(r,a.2),bU one⟩
theorem ag' {o f q τ:Nat} {g:FuncId} {one:ae→Nd × ae} (hr:Reads one) {rd:ae} {σ:ab} (cE:q≠o) (hfq:f≠q) (qI:f≠o) (hf:σ.box f=some [.fn (.func g) [] []]) (fy:rd.at_=0) (dV:rd.bad=none) (hlen:rd.l.length+1≤aE)
    (dH:∀(r:ae) (σ:ab),r.l=rd.l→0≤r.at_→r.at_≤rd.l.length→σ.box q=some r.enc→ak prog g [.ptr (.out q) 0] σ fun v σ' => v = .agg (one r).1.enc∧σ' = σ.set q (one r).2.enc) :
    ak prog 244 [.ptr (.out q) 0,.ptr (.out o) 0,.ptr (.out f) 0] (dK σ q o τ 5 rd []) fun v σ' => v = .aT []∧σ' = dK σ q o τ 5 (dQ (bU one) rd).1 ((dQ (bU one) rd).2.map Nd.enc):=by
  refine adt.calls ?_;simp only[aI,MZ,aP,am];refine gE fun p hp=>?_
  have jF:p≠q:=by rintro rfl;rw[xP cE] at hp;simp at hp
  have jE:p≠o:=by rintro rfl;rw[CT] at hp;simp at hp
  have Ri:f≠p:=by rintro rfl;rw[qE jF jE,hf] at hp;simp at hp
  rw[CU jF jE];simp only[am,qE jF jE];have oK:∀a:ae × List Nd,lN rd.l a→a.1.bad=none→ak prog 245 [.ptr (.out o) 0,.ptr (.out f) 0,.ptr (.out p) 0] (dK (σ.set p [.ptr (.out q) 0]) q o τ 5 a.1 (a.2.map Nd.enc)) fun v σ' =>
      v = .aT []∧σ' = dK (σ.set p [.ptr (.out q) 0]) q o τ 5 (bU one a).1 ((bU one a).2.map Nd.enc):=fun a iZ hb=>by
    have hl:=iZ.2.2.2 hb;have kl:=iZ.2.2.1;refine(ag_ CT (by rw[qE hfq qI,ab.cN _ _ Ri];exact hf) (by rw[qE jF jE,ab.cH]) (Ne.symm cE) Qs (by rw[aD];omega) (dH a.1 _ iZ.1 iZ.2.1 kl (xP cE))).mono ?_;rintro v σ' ⟨rfl,rfl⟩;refine⟨rfl,?_⟩;rw[Qr cE];simp[bU]
  have h0:lN rd.l (rd,([]:List Nd)):=⟨rfl,by simp[fy],by simp[fy],fun _=>by simp[fy]⟩;obtain⟨p1,_⟩:=D3 hr h0 dV;refine(JW (AN one (σ.set p [.ptr (.out q) 0]) q o τ) (lN rd.l) (a:=(rd,[])) (n:=rd.l.length) (by simp[am]) (fun a h=>xP cE) (fun a h=>?_) (fun a h hs=>Gv cE) (fun a h hs=>?_) (oK _ h0 dV) p1 ?_).mono ?_
  · show a.1.l.length≤aE;rw[h.1];omega
  · obtain⟨k1,k2,k3⟩:=I7 h hs;obtain⟨k4,k5⟩:=D3 hr k1 k2;refine⟨oK _ k1 k2,k4,?_,?_⟩
    · exact k4.1.trans h.1.symm
    · show a.1.at_+1≤_;simp only at k5;rw[k3] at k5;exact k5
  · show (bU one (rd,[])).1.l.length≤rd.l.length;rw[p1.1];omega
  rintro v σ' ⟨rfl,rfl⟩;simp only[am];refine aF rfl (σ' := dK σ q o τ 5 (dQ (bU one) rd).1 ((dQ (bU one) rd).2.map Nd.enc)) ?_ ⟨rfl,rfl⟩;have e:(AN one (σ.set p [.ptr (.out q) 0]) q o τ).F ((AN one (σ.set p [.ptr (.out q) 0]) q o τ).go rd.l.length ((AN one (σ.set p [.ptr (.out q) 0]) q o τ).step (rd,[])))=dK (σ.set p [.ptr (.out q) 0]) q o τ 5 (dQ (bU one) rd).1 ((dQ (bU one) rd).2.map Nd.enc):=by
    unfold AN;rw[CV];rfl
  rw[e,←CU jF jE];exact fv (by rw[qE jF jE];rw[qE jF jE] at hp;exact hp)
end Go.Proofs.Tryz
namespace Go.Proofs.Tryz
open Go.Am
def Mt:AC:=.seq (.aa [⟨(some 7),.eD 1 (.s 3),none⟩,⟨(some 8),.mv (.c (.sl .full 5 [])),none⟩,xi 9 0])
 (.seq (.aa [⟨(some 10),.lO [(.sl .full 5 [])],none⟩])
 (.seq (.lH (.aa [U 12 0,U 13 1,U 14 2,⟨(some 15),.gG (.func 244) [] [(.s 10),(.s 7)],none⟩,xc 200 16 [.s 12,.s 13,.s 14,.s 15],U 11 16]))
 (.seq (.aa [xo 17 10,U 18 11,U 8 17,U 9 18])
 (.ret))))
theorem acU:aJ prog 207 Mt [.tmp 8,.tmp 9] 19:=⟨f207,⟨[7,10],[2],[]⟩,func207,by kernel_rfl,by kernel_rfl,by kernel_rfl,by kernel_rfl⟩
set_option maxRecDepth 4000
set_option maxHeartbeats 4000000
theorem ab.an4 {a b c:ab} (h:a.sub b) (k:b.sub c):a.sub c:=⟨fun x cs hx=>k.1 x cs (h.1 x cs hx),fun x n hx=>k.2.1 x n (h.2.1 x n hx),fun x n hx=>k.2.2 x n (h.2.2 x n hx)⟩
theorem an2 {a b:ab} {r:Nat} {A:List V} (h:a.sub b):(a.set r A).sub (b.set r A):=by
  refine⟨fun x cs hx=>?_,h.2⟩
  by_cases hr:x=r
  · subst hr;rw[ab.cH] at hx ⊢;exact hx
  · rw[ab.cN _ _ hr] at hx ⊢;exact h.1 x cs hx
theorem IQ {β:Type} {one:ae→β × ae} (h:Reads one) (l:List Tree) (a:ae × List β) (ha:a.1.l=l):(bU one a).1.l=l:=by simp[bU,h.l,ha]
theorem DC {r:Nat} {empty:Bool} {kind:Int} {g:FuncId} {one:ae→Nd × ae} (dH:Reads one) {rd:ae} {σ:ab} (h:σ.box r=some rd.enc) (hlen:rd.l.length≤aE) (vA:(rd.take kind).1.kids.length+1≤aE)
    (afx:∀(q:Nat) (i:ae) (σ:ab),i.l=(rd.take kind).1.kids→0≤i.at_→i.at_≤i.l.length→σ.box q=some i.enc→ak prog g [.ptr (.out q) 0] σ fun v σ' => v = .agg (one i).1.enc∧σ' = σ.set q (one i).2.enc) :
    ak prog 207 [.ptr (.out r) 0,.int .u8 kind,.bool empty,.fn (.func g) [] []] σ fun v σ' => v = .aT [.sl .no 5 ((rd.nodes one kind empty).1.1.map Nd.enc),.int .i64 (rd.nodes one kind empty).1.2]∧σ' = σ.set r (rd.nodes one kind empty).2.enc:=by
  refine acU.calls ?_;simp only[aI,Mt,aP,am];refine gE fun f hf=>?_
  have aQ:f≠r:=by rintro rfl;rw[h] at hf;simp at hf
  simp only[am];refine gE fun o ho=>?_
  have qI:f≠o:=by rintro rfl;rw[ab.cH] at ho;simp at ho
  have gA:o≠r:=by rintro rfl;rw[ab.cN _ _ (Ne.symm aQ),h] at ho;simp at ho
  generalize qS:σ.set f [.fn (.func g) [] []]=gw at ho ⊢;have Q3:gw.box f=some [.fn (.func g) [] []]:=by rw[←qS];exact ab.cH _ _ _
  have afN:σ.sub gw:=by rw[←qS];exact fv hf
  have h:gw.box r=some rd.enc:=by rw[←qS,ab.cN _ _ (Ne.symm aQ)];exact h
  simp only[am];refine aZ.tok 0 fun τ ba=>⟨_,_,_,dc.rfl,rfl,fun i c hc=>⟨c,hc,dc.rfl⟩,np.set (cs:=[.sl .full 5 []]) (cs' := [.sl (.tk τ) 5 []]) (ab.cH _ _ _) ⟨gz.tok rfl,trivial⟩,?_⟩
  simp only[am];have h1:((gw.set o [.sl (.tk τ) 5 []]).aK τ 0).box r=some rd.enc:=by
    show (gw.set o _).box r=_;rw[ab.cN _ _ (Ne.symm gA)];exact h
  have aH:∀q,((gw.set o [V.sl (.tk τ) 5 []]).aK τ 0).box q=none→q≠o∧q≠r∧gw.box q=none:=fun q hq=>by
    have cE:q≠o:=by rintro rfl;rw[show ((gw.set q [V.sl (.tk τ) 5 []]).aK τ 0).box q=_ from ab.cH _ _ _] at hq;simp at hq
    have kP : gw.box q=none:=by rw[←ab.cN gw [V.sl (.tk τ) 5 []] cE];exact hq
    exact⟨cE,by rintro rfl;rw[h] at kP;simp at kP,kP⟩
  generalize eH:ae.inside (bU one) empty (rd.take kind).1=ins;have Ak:ins.1.l=(rd.take kind).1.kids:=by rw[←eH];exact RO (IQ dH) _ _
  refine(Ko (kind:=kind) (by simp[am]) h1 hlen (by omega) ins.1 ((gw.set o [.sl (.tk τ) 5 (ins.2.map Nd.enc)]).aK τ (ins.2.map Nd.enc).length) ?_ ?_ ?_ Ak).mono ?_
  · intro bw hc q hq;obtain⟨cE,iE,_⟩:=aH q hq;have e1:(((gw.set o [V.sl (.tk τ) 5 []]).aK τ 0).set r (rd.take kind).2.enc).set q (rd.take kind).1.inner.enc=dK (gw.set r (rd.take kind).2.enc) q o τ 5 (rd.take kind).1.inner []:=by
      unfold dK;rw[ab.set_comm (b:=q) cE,ab.set_comm (b:=r) (Ne.symm gA)];rfl
    have e2:(((gw.set o [V.sl (.tk τ) 5 (ins.2.map Nd.enc)]).aK τ (ins.2.map Nd.enc).length).set r (rd.take kind).2.enc).set q ins.1.enc=dK (gw.set r (rd.take kind).2.enc) q o τ 5 ins.1 (ins.2.map Nd.enc):=by
      unfold dK;rw[ab.set_comm (b:=q) cE,ab.set_comm (b:=r) (Ne.symm gA)];rfl
    have e3:ins=dQ (bU one) (rd.take kind).1.inner:=by
      rw[←eH,ae.inside,ah];rintro⟨q1,q2⟩
      rcases hc with hc | hc
      · rw[q1] at hc;simp at hc
      · exact hc q2
    rw[e1,e2,e3];refine ag' dH cE ?_ qI (by rw[ab.cN _ _ aQ];exact Q3) rfl rfl vA (fun i σ' h1 h2 h3 h4=>afx q i σ' h1 h2 (by rw[h1];exact h3) h4);rintro rfl;rw[show ((gw.set o [V.sl (.tk τ) 5 []]).aK τ 0).box f=(gw.set o [V.sl (.tk τ) 5 []]).box f from rfl,ab.cN _ _ qI,Q3] at hq;simp at hq
  · intro q1 q2
    have:ins=((rd.take kind).1.inner,[]):=by rw[←eH,ae.inside,aw ⟨q1,q2⟩]
    rw[this];exact⟨rfl,rfl⟩
  · intro q hq;obtain⟨cE,_,kP⟩:=aH q hq;show (gw.set o _).box q=none;rw[ab.cN _ _ cE];exact kP
  rintro v σ' hv;have tE:∀(A B:List V) (n:Nat),(σ.set r A).sub (((gw.set o B).aK τ n).set r A):=fun A B n=>by
    refine ab.an4 (an2 afN) ?_;refine⟨fun b cs hb=>?_,fun υ m hm=>?_,fun _ _ h=>h⟩
    · have Ad:b≠o:=by rintro rfl;rw[ab.cN _ _ gA,ho] at hb;simp at hb
      by_cases qG:b=r
      · subst qG;rw[ab.cH] at hb ⊢;exact hb
      · rw[ab.cN _ _ qG] at hb ⊢;show (gw.set o B).box b=_;rw[ab.cN _ _ Ad];exact hb
    · have pB : gw.aB υ=some m:=hm;have vB : υ≠τ:=by rintro rfl;rw[show (gw.set o [V.sl .full 5 []]).aB υ=gw.aB υ from rfl] at ba;rw[ba] at pB;simp at pB
      show ((gw.set o B).aK τ n).aB υ=some m;rw[wq vB];exact pB
  split at hv
  · rename_i bw;obtain⟨rfl,rfl⟩:=hv;have hb:(((gw.set o [V.sl (.tk τ) 5 (ins.2.map Nd.enc)]).aK τ (ins.2.map Nd.enc).length).set r ((rd.take kind).2.under ins.1).enc).box o=some [V.sl (.tk τ) 5 (ins.2.map Nd.enc)]:=by
      rw[ab.cN _ _ gA];exact ab.cH _ _ _
    simp only[am,hb];refine aF rfl (tE _ _ _) ⟨?_,?_⟩
    · simp[ae.nodes,ae.bracket,bw,eH,V.erase,aX]
    · simp[ae.nodes,ae.bracket,bw,eH]
  · rename_i bw;obtain⟨rfl,rfl⟩:=hv;have hb:(((gw.set o [V.sl (.tk τ) 5 []]).aK τ 0).set r (rd.take kind).2.enc).box o=some [V.sl (.tk τ) 5 []]:=by
      rw[ab.cN _ _ gA];exact ab.cH _ _ _
    simp only[am,hb];refine aF rfl (tE _ _ _) ⟨?_,?_⟩
    · simp[ae.nodes,ae.bracket,bw,V.erase,aX]
    · simp[ae.nodes,ae.bracket,bw]
end Go.Proofs.Tryz
namespace Go.Proofs.Tryz
open Go.Am
def Ng:AC:=.seq (.aa [⟨(some 2),.alloc [(.int .i64 0),(.int .i64 0),(.str []),(.sl .full 2 []),(.sl .full 5 [])],none⟩])
 (.seq (.aa [U 6 0,xc 204 7 [.s 6],⟨(some 3),.alloc [(.str []),(.int .i64 0)],none⟩,xs 2 3 7])
 (.seq (.aa [U 8 0,xc 206 9 [.s 8,.c (.int .u8 58)]])
 (.seq (.aa [U 11 0,xc 155 12 [.s 11,.c (.bool true)],U 10 12,xe 13 10 0,xe 14 10 1,U 4 13,U 5 14])
 (.seq (.aa [xf 1 15 3,xo 16 15,xf 0 17 3,xo 18 17,U 19 4,⟨(some 20),.build [(.int .i64 0),(.int .i64 0),(.str []),(.sl .full 2 []),(.sl .full 5 [])] [(0,1,(.c (.int .i64 6))),(1,1,(.s 16)),(2,1,(.s 18)),(3,1,(.s 19))],none⟩,xs 5 2 20])
 (.ret)))))
theorem adJ:aJ prog 266 Ng [.cell 2 true 5] 21:=⟨f266,⟨[],[],[]⟩,func266,by kernel_rfl,by kernel_rfl,by kernel_rfl,by kernel_rfl⟩
set_option maxRecDepth 4000
set_option maxHeartbeats 4000000
theorem amN {r:Nat} {rd:ae} {σ:ab} (h:σ.box r=some rd.enc) (hlen:rd.l.length≤aE) (hk:∀(x:ae) (k:Int),x.l=rd.l→(x.take k).1.kids.length+1≤aE) :
    ak prog 266 [.ptr (.out r) 0] σ fun v σ' => v = .agg rd.rule.1.enc∧σ' = σ.set r rd.rule.2.enc:=by
  refine adJ.calls ?_;simp only[aI,Ng,aP,am];refine(uH h hlen).mono ?_;rintro v σ' ⟨rfl,rfl⟩;simp only[am,Word.enc];refine(sB (ab.cH _ _ _) (by simp[ae.word,ae.ec,hlen])).mono ?_;rintro v σ' ⟨rfl,rfl⟩;simp only[am];refine(Kw (ab.cH _ _ _) (by simp[ae.word,ae.ec,hlen]) (hk _ _ (by simp[ae.word,ae.ec]))).mono ?_;rintro v σ' ⟨rfl,rfl⟩;simp only[am,Nat.reduceAdd];refine aF rfl (ab.aS _) ⟨?_,rfl⟩;simp[ae.rule,V.erase,aX,Nd.enc,nZ]
end Go.Proofs.Tryz
namespace Go.Proofs.Tryz
open Go.Am
def Fz:AC:=.seq (.aa [⟨(some 2),.alloc [(.int .i64 0),(.int .i64 0),(.str []),(.sl .full 2 []),(.sl .full 5 [])],none⟩])
 (.seq (.aa [⟨(some 5),.build [(.int .i64 0),(.int .i64 0),(.str []),(.sl .full 2 []),(.sl .full 5 [])] [],none⟩,⟨(some 3),.alloc [(.int .i64 0),(.int .i64 0),(.str []),(.sl .full 2 []),(.sl .full 5 [])],none⟩,xs 5 3 5])
 (.seq (.block 0 (.seq (.aa [U 14 0,xc 205 15 [.s 14,.c (.int .u8 123)],U 13 15])
 (.cond (.s 13) (.seq (.aa [xf 0 16 3,⟨none,.store 1 (.s 16) (.c (.int .i64 3)),none⟩])
 (.aa [U 18 0,xc 155 19 [.s 18,.c (.bool true)],U 17 19,xe 20 17 0,xe 21 17 1,xf 3 22 3,xs 1 22 20,xf 1 23 3,xs 1 23 21]))
 (.seq (.aa [U 25 0,xc 205 26 [.s 25,.c (.int .u8 40)],U 24 26])
 (.cond (.s 24) (.seq (.aa [xf 0 27 3,⟨none,.store 1 (.s 27) (.c (.int .i64 4)),none⟩])
 (.aa [U 29 0,xc 207 30 [.s 29,.c (.int .u8 40),.c (.bool false),.c (.fn (.func 246) [] [])],U 28 30,xe 31 28 0,xe 32 28 1,xf 4 33 3,xs 1 33 31,xf 1 34 3,xs 1 34 32]))
 (.seq (.aa [U 36 0,xc 205 37 [.s 36,.c (.int .u8 91)],U 35 37])
 (.cond (.s 35) (.seq (.aa [xf 0 38 3,⟨none,.store 1 (.s 38) (.c (.int .i64 5)),none⟩])
 (.aa [U 40 0,xc 207 41 [.s 40,.c (.int .u8 91),.c (.bool true),.c (.fn (.func 266) [] [])],U 39 41,xe 42 39 0,xe 43 39 1,xf 4 44 3,xs 1 44 42,xf 1 45 3,xs 1 45 43]))
 (.seq (.aa [U 6 0,xc 204 7 [.s 6],⟨(some 4),.alloc [(.str []),(.int .i64 0)],none⟩,xs 2 4 7])
 (.aa [xf 1 8 4,xo 9 8,xf 0 10 4,xo 11 10,⟨(some 12),.build [(.int .i64 0),(.int .i64 0),(.str []),(.sl .full 2 []),(.sl .full 5 [])] [(0,1,(.c (.int .i64 2))),(1,1,(.s 9)),(2,1,(.s 11))],none⟩,xs 5 3 12])))))))))
 (.seq (.aa [xl 5 46 3,xs 5 2 46])
 (.ret))))
theorem Qe:aJ prog 246 Fz [.cell 2 true 5] 47:=⟨f246,⟨[],[],[]⟩,func246,by kernel_rfl,by kernel_rfl,by kernel_rfl,by kernel_rfl⟩
set_option maxRecDepth 4000
set_option maxHeartbeats 4000000
theorem Bh {r:ae} {k:Int} (h:bp r.l=0):r.sees k=false:=by
  have:r.l=[]:=nj (by have:=j5 r.l;omega)
  simp[ae.sees,l6,this]
theorem vS {l:List Tree} {x:ae} {k:Int} (hm:bp l+1≤aE) (h:x.l=l):(x.take k).1.kids.length+1≤aE:=by
  have h1:=(x.rk k).1;have h2:=j5 (x.take k).1.kids;rw[h] at h1;omega
theorem YV:∀(n:Nat) {r:Nat} {rd:ae} {σ:ab} (_:σ.box r=some rd.enc) (_:bp rd.l≤n) (_:bp rd.l+1≤aE),
    ak prog 246 [.ptr (.out r) 0] σ fun v σ' => v = .agg (ae.constant n rd).1.enc∧σ' = σ.set r (ae.constant n rd).2.enc:=by
  intro n;induction n with
  | zero =>
    intro r rd σ h hn hm;have hlen:=j5 rd.l;refine Qe.calls ?_;simp only[aI,Fz,aP,am];refine(mZ h).mono ?_;rintro v σ' ⟨rfl,rfl⟩;simp only[am,Bh (B3.1 hn)];refine(mZ h).mono ?_;rintro v σ' ⟨rfl,rfl⟩;simp only[am,Bh (B3.1 hn)];refine(mZ h).mono ?_;rintro v σ' ⟨rfl,rfl⟩;simp only[am,Bh (B3.1 hn)];refine(uH h (by omega)).mono ?_;rintro v σ' ⟨rfl,rfl⟩;simp only[am,Word.enc,Nat.reduceAdd];refine aF rfl (ab.aS _) ⟨?_,rfl⟩;simp[ae.constant,ae.leaf,V.erase,aX,Nd.enc,nZ]
  | succ n ih =>
    intro r rd σ h hn hm;have hlen:=j5 rd.l;refine Qe.calls ?_;simp only[aI,Fz,aP,am];refine(mZ h).mono ?_;rintro v σ' ⟨rfl,rfl⟩;cases h1:rd.sees 123
    case' true =>
      simp only[am];refine(Kw h (by omega) (vS hm rfl)).mono ?_;rintro v σ' ⟨rfl,rfl⟩;simp only[am,Nat.reduceAdd];refine aF rfl (ab.aS _) ⟨?_,by simp[ae.constant,h1]⟩;simp[ae.constant,h1,V.erase,aX,Nd.enc,nZ]
    case' false =>
      simp only[am];refine(mZ h).mono ?_;rintro v σ' ⟨rfl,rfl⟩;cases h2:rd.sees 40
    case' false.true =>
      have hk:bp (rd.take 40).1.kids+1≤bp rd.l:=(rd.rk 40).2 (by
        rcases rd.mq 40 with ⟨_,_,e,_,_⟩ | ⟨e,_,_⟩
        · exact e
        · rw[h2] at e;simp at e)
      simp only[am];refine(DC (yJ (Qy n)) h (by omega) (vS hm rfl) (fun q i σ' e1 _ _ e4=>ih e4 (by rw[e1];omega) (by rw[e1];omega))).mono ?_;rintro v σ' ⟨rfl,rfl⟩;simp only[am,Nat.reduceAdd];refine aF rfl (ab.aS _) ⟨?_,by simp[ae.constant,h1,h2]⟩;simp[ae.constant,h1,h2,V.erase,aX,Nd.enc,v9]
    case' false.false =>
      simp only[am];refine(mZ h).mono ?_;rintro v σ' ⟨rfl,rfl⟩;cases h3:rd.sees 91
    case' false.false.true =>
      simp only[am];refine(DC (yJ aff) h (by omega) (vS hm rfl) (fun q i σ' e1 _ _ e4=>amN e4 (by have g1:=j5 i.l;have g2:=(rd.rk 91).1;rw[←e1] at g2;omega) (fun x k ex=>vS (by have g2:=(rd.rk 91).1;rw[←e1] at g2;omega) ex))).mono ?_;rintro v σ' ⟨rfl,rfl⟩;simp only[am,Nat.reduceAdd];refine aF rfl (ab.aS _) ⟨?_,by simp[ae.constant,h1,h2,h3]⟩;simp[ae.constant,h1,h2,h3,V.erase,aX,Nd.enc,v9]
    case' false.false.false =>
      simp only[am];refine(uH h (by omega)).mono ?_;rintro v σ' ⟨rfl,rfl⟩;simp only[am,Word.enc,Nat.reduceAdd];refine aF rfl (ab.aS _) ⟨?_,by simp[ae.constant,ae.leaf,h1,h2,h3]⟩;simp[ae.constant,ae.leaf,h1,h2,h3,V.erase,aX,Nd.enc,nZ]
end Go.Proofs.Tryz
namespace Go.Proofs.Tryz
open Go.Am
def Mu:AC:=.seq (.aa [⟨(some 2),.alloc [(.int .i64 0),(.int .i64 0),(.str []),(.sl .full 2 []),(.sl .full 5 [])],none⟩])
 (.seq (.seq (.aa [U 5 0,xc 205 6 [.s 5,.c (.int .u8 35)]])
 (.cond (.s 6) (.seq (.aa [U 7 0,xc 206 8 [.s 7,.c (.int .u8 35)],⟨(some 3),.alloc [(.int .u8 0),(.str []),(.int .i64 0),(.sl .full 5 []),(.int .i64 0)],none⟩,xs 5 3 8])
 (.seq (.draw [(xf 0 9 3,[]),(xf 2 10 9,[]),(xo 11 10,[1]),(U 12 0,[]),(xc 246 13 [.s 12],[]),(⟨(some 14),.cB 5 [(.s 13)],none⟩,[]),(⟨(some 15),.build [(.int .i64 0),(.int .i64 0),(.str []),(.sl .full 2 []),(.sl .full 5 [])] [(0,1,(.c (.int .i64 7))),(1,1,(.s 11)),(4,1,(.s 14))],none⟩,[]),(xs 5 2 15,[])])
 (.ret)))
 (.skip)))
 (.seq (.aa [U 16 0,xc 204 17 [.s 16],⟨(some 4),.alloc [(.str []),(.int .i64 0)],none⟩,xs 2 4 17])
 (.seq (.aa [xf 1 18 4,xo 19 18,xf 0 20 4,xo 21 20,⟨(some 22),.build [(.int .i64 0),(.int .i64 0),(.str []),(.sl .full 2 []),(.sl .full 5 [])] [(0,1,(.c (.int .i64 1))),(1,1,(.s 19)),(2,1,(.s 21))],none⟩,xs 5 2 22])
 (.ret))))
theorem acV:aJ prog 208 Mu [.cell 2 true 5] 23:=⟨f208,⟨[],[],[]⟩,func208,by kernel_rfl,by kernel_rfl,by kernel_rfl,by kernel_rfl⟩
def My:AC:=.seq (.aa [⟨(some 2),.alloc [(.int .i64 0),(.int .i64 0),(.str []),(.sl .full 2 []),(.sl .full 5 [])],none⟩])
 (.seq (.aa [U 4 0,xc 204 5 [.s 4],⟨(some 3),.alloc [(.str []),(.int .i64 0)],none⟩,xs 2 3 5])
 (.seq (.aa [U 6 0,xc 206 7 [.s 6,.c (.int .u8 61)]])
 (.seq (.draw [(xf 1 8 3,[]),(xo 9 8,[1]),(xf 0 10 3,[]),(xo 11 10,[1]),(U 12 0,[]),(xc 208 13 [.s 12],[]),(⟨(some 14),.cB 5 [(.s 13)],none⟩,[]),(⟨(some 15),.build [(.int .i64 0),(.int .i64 0),(.str []),(.sl .full 2 []),(.sl .full 5 [])] [(0,1,(.c (.int .i64 11))),(1,1,(.s 9)),(2,1,(.s 11)),(4,1,(.s 14))],none⟩,[]),(xs 5 2 15,[])])
 (.ret))))
theorem acZ:aJ prog 211 My [.cell 2 true 5] 16:=⟨f211,⟨[],[],[]⟩,func211,by kernel_rfl,by kernel_rfl,by kernel_rfl,by kernel_rfl⟩
set_option maxRecDepth 4000
set_option maxHeartbeats 4000000
theorem Nd.len {n:Nd}:n.enc.length=5:=by rw[Nd.cm];rfl
theorem Tree.ld {t:Tree}:∀{n:Nat},t.enc.drop n=[V.int .u8 t.tok.kind,.str t.tok.text,.int .i64 t.tok.pos,.sl .no 5 (ct t.kids),.int .i64 t.fin].drop n:=fun {n}=>by rw[cm]
theorem OB {n r:Nat} {rd:ae} {σ:ab} (h:σ.box r=some rd.enc) (hn:bp rd.l≤n) (hm:bp rd.l+1≤aE) :
    ak prog 208 [.ptr (.out r) 0] σ fun v σ' => v = .agg (rd.atom n).1.enc∧σ' = σ.set r (rd.atom n).2.enc:=by
  have hlen:=j5 rd.l;refine acV.calls ?_;simp only[aI,Mu,aP,am];refine(mZ h).mono ?_;rintro v σ' ⟨rfl,rfl⟩;cases h1:rd.sees 35
  case' true =>
    simp only[am];refine(sB h (by omega)).mono ?_;rintro v σ' ⟨rfl,rfl⟩;simp only[am,cm,Nat.reduceAdd];refine bh.intro (YV n (ab.cH _ _ _) (by rw[ae.ec];exact hn) (by rw[ae.ec];exact hm)) ?_;simp only[am,Nd.len,Nd.one,Nd.bS,Nd.er,Nat.reduceAdd];refine aF rfl (ab.aS _) ⟨?_,by simp[ae.atom,h1]⟩;simp[ae.atom,h1,V.erase,aX,Nd.enc,nZ]
  case' false =>
    simp only[am];refine(uH h (by omega)).mono ?_;rintro v σ' ⟨rfl,rfl⟩;simp only[am,Word.enc,Nat.reduceAdd];refine aF rfl (ab.aS _) ⟨?_,by simp[ae.atom,ae.leaf,h1]⟩;simp[ae.atom,ae.leaf,h1,V.erase,aX,Nd.enc,nZ]
theorem abu {n r:Nat} {rd:ae} {σ:ab} (h:σ.box r=some rd.enc) (hn:bp rd.l≤n) (hm:bp rd.l+1≤aE) :
    ak prog 211 [.ptr (.out r) 0] σ fun v σ' => v = .agg (rd.field n).1.enc∧σ' = σ.set r (rd.field n).2.enc:=by
  have hlen:=j5 rd.l;refine acZ.calls ?_;simp only[aI,My,aP,am];refine(uH h (by omega)).mono ?_;rintro v σ' ⟨rfl,rfl⟩;simp only[am,Word.enc,Nat.reduceAdd];have e1:rd.word.2.l=rd.l:=by simp[ae.word,ae.ec]
  refine(sB (ab.cH _ _ _) (by rw[e1];omega)).mono ?_;rintro v σ' ⟨rfl,rfl⟩;simp only[am];refine bh.intro (OB (n:=n) (ab.cH _ _ _) (by rw[ae.ec,e1];exact hn) (by rw[ae.ec,e1];exact hm)) ?_;simp only[am,Nd.len,Nd.one,Nd.bS,Nd.er,Nat.reduceAdd];refine aF rfl (ab.aS _) ⟨?_,by simp[ae.field]⟩;simp[ae.field,V.erase,aX,Nd.enc,nZ]
end Go.Proofs.Tryz
namespace Go.Proofs.Tryz
open Go.Am
def LY:AC:=.seq (.aa [⟨(some 2),.alloc [(.int .i64 0),(.int .i64 0),(.str []),(.sl .full 2 []),(.sl .full 5 [])],none⟩])
 (.seq (.seq (.aa [⟨(some 9),.cB 1 [(.c (.int .u8 43)),(.c (.int .u8 38))],none⟩,xL 10 9,xi 11 0])
 (.block 0 (.loop (.seq (.aa [xb .lss 12 11 10])
 (.seq (.cond (.s 12) (.skip)
 (.exit 0))
 (.seq (.block 1 (.seq (.aa [xA 1 13 9 11,xo 14 13,U 4 14])
 (.seq (.seq (.aa [U 15 0,U 16 4,xc 205 17 [.s 15,.s 16],⟨(some 18),.not (.s 17),none⟩])
 (.cond (.s 18) (.exit 1)
 (.skip)))
 (.seq (.aa [U 19 0,U 20 4,xc 206 21 [.s 19,.s 20],⟨(some 5),.alloc [(.int .u8 0),(.str []),(.int .i64 0),(.sl .full 5 []),(.int .i64 0)],none⟩,xs 5 5 21])
 (.seq (.aa [xi 6 8])
 (.seq (.seq (.aa [U 22 4,xu .eql 23 22 38])
 (.cond (.s 23) (.aa [xi 6 9])
 (.skip)))
 (.seq (.aa [U 25 0,xc 207 26 [.s 25,.c (.int .u8 40),.c (.bool false),.c (.fn (.func 158) [] [])],U 24 26,xe 27 24 0,xe 28 24 1,U 7 27,U 8 28])
 (.seq (.aa [U 29 6,xf 0 30 5,xf 2 31 30,xo 32 31,U 33 7,⟨(some 34),.build [(.int .i64 0),(.int .i64 0),(.str []),(.sl .full 2 []),(.sl .full 5 [])] [(0,1,(.s 29)),(1,1,(.s 32)),(4,1,(.s 33))],none⟩,xs 5 2 34])
 (.ret)))))))))
 (.aa [xB .add 35 11 1,U 11 35])))))))
 (.seq (.aa [U 36 0,xc 208 37 [.s 36],xs 5 2 37])
 (.ret)))
theorem acn:aJ prog 158 LY [.cell 2 true 5] 38:=⟨f158,⟨[],[],[]⟩,func158,by kernel_rfl,by kernel_rfl,by kernel_rfl,by kernel_rfl⟩
set_option maxRecDepth 4000
set_option maxHeartbeats 4000000
def Dx (r:Nat) (rd:ae) (σ:ab) (i:{i:Nat // i≤2∧(1≤i→rd.sees 43=false)∧(2≤i→rd.sees 38=false)}):St :=
  ⟨[.ptr (.out r) 0,.any,.ptr (.loc 0) 0,.any,.any,.any,.any,.any,.any,.sl .full 1 [[.int .u8 43],[.int .u8 38]],.int .i64 2,.int .i64 (i.1:Nat)]++List.replicate 26 .any,
    [[.int .i64 0,.int .i64 0,.str [],.sl .full 2 [],.sl .full 5 []]],σ⟩
theorem Nd.A' {n:Nd} {a b c d e:V}:over [a,b,c,d,e] n.enc=n.enc:=by rw[Nd.cm];rfl
theorem Nd.tk {n:Nd}:takeN 5 n.enc=some n.enc:=by rw[Nd.cm];rfl
theorem aoc (r:ae) (k:Int):bp (r.take k).1.kids+1≤bp r.l∨bp (r.take k).1.kids=0:=by
  rcases r.mq k with ⟨_,_,e,_,_⟩ | ⟨e,_,_⟩
  · exact .inl ((r.rk k).2 e)
  · right;simp[ae.take,e,Tree.zero,Tree.kids,bp]
theorem ahe {n:Nat} {rd:ae} (h1:rd.sees 43=false) (h2:rd.sees 38=false) (hn:bp rd.l≤n):ae.label n rd=rd.atom n:=by
  cases n with
  | zero=>simp[ae.label,ae.atom,Bh (B3.1 hn)]
  | succ n=>simp[ae.label,h1,h2]
theorem R1 {n:Nat} (ih:∀m,n=m+1→∀{r:Nat} {rd:ae} {σ:ab} (_:σ.box r=some rd.enc) (_:bp rd.l≤m) (_:bp rd.l+1≤aE),
    ak prog 158 [.ptr (.out r) 0] σ fun v σ' => v = .agg (ae.label m rd).1.enc∧σ' = σ.set r (ae.label m rd).2.enc) {r:Nat} {rd:ae} {σ:ab} (h:σ.box r=some rd.enc) (hn:bp rd.l≤n) (hm:bp rd.l+1≤aE) :
    ak prog 158 [.ptr (.out r) 0] σ fun v σ' => v = .agg (ae.label n rd).1.enc∧σ' = σ.set r (ae.label n rd).2.enc:=by
  have hlen:=j5 rd.l;have iD:∀k,rd.sees k=true→∃m,n=m+1:=fun k hk=>by
    cases n with
    | zero=>rw[Bh (B3.1 hn)] at hk;simp at hk
    | succ m=>exact⟨m,rfl⟩
  have kids:∀(m:Nat) (k:Int),n=m+1→∀(q:Nat) (i:ae) (σ:ab),i.l=((rd.take k).2.take 40).1.kids→0≤i.at_→i.at_≤i.l.length→σ.box q=some i.enc→ak prog 158 [.ptr (.out q) 0] σ fun v σ' => v = .agg (ae.label m i).1.enc∧σ' = σ.set q (ae.label m i).2.enc:=fun m k e q i σ e1 _ _ e4=>by
    have g1:=((rd.take k).2.rk 40).1;have g2:=aoc (rd.take k).2 40;rw[ae.ec,←e1] at g1 g2;exact ih m e e4 (by omega) (by omega)
  refine acn.calls ?_;simp only[aI,LY,aP,am];refine jj (fun i=>Dx r rd σ i) (fun i=>2 - i.1) ?_ ?_
  · refine aZ.enter ⟨0,by omega,by omega,by omega⟩ ?_ ?_ bC.rfl
    · simp[Dx,List.replicate,am]
    · simp[Dx,am]
  · rintro⟨i,hi,mK,hi2⟩;simp only[Dx,List.replicate,am];have afz:i=0∨i=1∨i=2:=by omega
    rcases afz with rfl | rfl | rfl
    · simp only[am,show (((0:Nat):Int)<2)=True by simp,bQ];refine bx (by omega) (c:=[.int .u8 43]) rfl ?_;simp only[am];refine(mZ h).mono ?_;rintro v σ' ⟨rfl,rfl⟩;cases h1:rd.sees 43
      · simp only[am];rw[wrap_i64 (by omega) (by omega)];exact aZ.again ⟨1,by omega,fun _=>rfl,by omega⟩ (by simp) (by simp[am]) bY.rfl bC.rfl
      · have PQ:decide ((43:Int)=38)=false:=by simp
        obtain⟨m,rfl⟩:=iD _ h1;simp only[am];refine(sB h (by omega)).mono ?_;rintro v σ' ⟨rfl,rfl⟩;simp only[am,cm,Nat.reduceAdd,PQ];refine(DC (yJ (Gy m)) (ab.cH _ _ _) (by rw[ae.ec];omega) (vS hm (ae.ec _ _)) (kids m 43 rfl)).mono ?_;rintro v σ' ⟨rfl,rfl⟩;simp only[am,Nat.reduceAdd];refine aF rfl (ab.aS _) ⟨?_,by simp[ae.label,h1]⟩;simp[ae.label,h1,V.erase,aX,Nd.enc,v9]
    · have km:=mK (by omega);simp only[am,show (((1:Nat):Int)<2)=True by simp,bQ];refine bx (by omega) (c:=[.int .u8 38]) rfl ?_;simp only[am];refine(mZ h).mono ?_;rintro v σ' ⟨rfl,rfl⟩;cases h1:rd.sees 38
      · simp only[am];rw[wrap_i64 (by omega) (by omega)];exact aZ.again ⟨2,by omega,fun _=>km,fun _=>rfl⟩ (by simp) (by simp[am]) bY.rfl bC.rfl
      · have PQ:decide ((38:Int)=38)=true:=by simp
        obtain⟨m,rfl⟩:=iD _ h1;simp only[am];refine(sB h (by omega)).mono ?_;rintro v σ' ⟨rfl,rfl⟩;simp only[am,cm,Nat.reduceAdd,bQ];refine(DC (yJ (Gy m)) (ab.cH _ _ _) (by rw[ae.ec];omega) (vS hm (ae.ec _ _)) (kids m 38 rfl)).mono ?_;rintro v σ' ⟨rfl,rfl⟩;simp only[am,Nat.reduceAdd];refine aF rfl (ab.aS _) ⟨?_,by simp[ae.label,km,h1]⟩;simp[ae.label,km,h1,V.erase,aX,Nd.enc,v9]
    · have km:=mK (by omega);have AA:=hi2 (by omega);simp only[am,show (((2:Nat):Int)<2)=False by simp,eT];refine(OB h hn hm).mono ?_;rintro v σ' ⟨rfl,rfl⟩;simp only[am,Nd.len,Nd.one,Nd.A',Nd.tk];rw[ahe km AA hn];refine aF (by simp only[am,Nd.bS]) (ab.aS _) ⟨?_,rfl⟩;simp only[am,Nd.er]
theorem ahd:∀(n:Nat) {r:Nat} {rd:ae} {σ:ab} (_:σ.box r=some rd.enc) (_:bp rd.l≤n) (_:bp rd.l+1≤aE),
    ak prog 158 [.ptr (.out r) 0] σ fun v σ' => v = .agg (ae.label n rd).1.enc∧σ' = σ.set r (ae.label n rd).2.enc:=by
  intro n;induction n with
  | zero=>exact fun h hn hm=>R1 (fun m e=>by omega) h hn hm
  | succ n ih=>exact fun h hn hm=>R1 (fun m e=>Nat.succ.inj e▸ih) h hn hm
end Go.Proofs.Tryz
namespace Go.Proofs.Tryz
open Go.Am
def Mx:AC:=.hole [(xf 4 2 0,[]),(xo 3 2,[1]),(xo 4 1,[]),(xc 211 5 [.s 4],[]),(xL 6 3,[]),(⟨(some 7),.cB 5 [(.c (.agg [(.int .i64 0),(.int .i64 0),(.str []),(.sl .full 2 []),(.sl .full 5 [])]))],none⟩,[]),(⟨(some 8),.mv (.c .any),none⟩,[]),(⟨(some 9),.mv (.c .any),none⟩,[]),(⟨none,.mv (.c .any),none⟩,[]),(⟨(some 10),.mv (.c .any),none⟩,[]),(⟨none,.mv (.c .any),none⟩,[])] ⟨5,(.s 3),(.s 7),(.s 6),(.s 5),(.s 0),(some 4),8,9,10⟩
theorem acY:aJ prog 210 Mx [] 11:=⟨f210,⟨[],[],[]⟩,func210,by kernel_rfl,by kernel_rfl,by kernel_rfl,by kernel_rfl⟩
set_option maxRecDepth 4000
set_option maxHeartbeats 4000000
def fC (τ:Nat) (names rows:List (List V)):List V:=[.int .i64 10,.int .i64 0,.str [],.sl .full 2 names,.sl (.tk τ) 5 rows]
theorem amy {n o p q τ:Nat} {names rows:List (List V)} {rd:ae} {σ:ab} (ho:σ.box o=some (fC τ names rows)) (hp:σ.box p=some [.ptr (.out q) 0]) (hq:σ.box q=some rd.enc)
    (HA:o≠q) (ht:σ.aB τ=some rows.length) (hb:rows.length+1≤aE) (hn:bp rd.l≤n) (hm:bp rd.l+1≤aE) :
    ak prog 210 [.ptr (.out o) 0,.ptr (.out p) 0] σ fun v σ' => v = .aT []∧σ' = ((σ.set q (rd.field n).2.enc).set o (fC τ names (rows++[(rd.field n).1.enc]))).aK τ (rows.length+1):=by
  unfold fC at ho ⊢;refine acY.calls ?_;simp only[aI,Mx,aP,am,ho,hp];refine bh.intro (abu (n:=n) hq hn hm) ?_;have h1:(σ.set q (rd.field n).2.enc).box o=some [.int .i64 10,.int .i64 0,.str [],.sl .full 2 names,.sl (.tk τ) 5 rows]:=by rw[ab.cN _ _ HA];exact ho
  simp only[am,h1];refine Rg (τ:=τ) (m:=rows) (cs:=(rd.field n).1.enc) (p:=.ptr (.out o) 4) rfl rfl rfl hb ht ⟨Nd.wd,Nd.one,Nd.bS⟩ Nd.er (by simp) rfl (by simp only[am,h1];rfl) ?_;simp only[am];exact aF rfl (ab.aS _) ⟨rfl,rfl⟩
end Go.Proofs.Tryz
namespace Go.Proofs.Tryz
open Go.Am
def Mv:AC:=.seq (.aa [⟨(some 2),.eD 1 (.s 0),none⟩])
 (.seq (.seq (.aa [xo 3 2,xc 205 4 [.s 3,.c (.int .u8 124)],⟨(some 5),.not (.s 4),none⟩])
 (.cond (.s 5) (.aa [xo 6 2,⟨(some 7),.gG (.func 210) [] [(.s 1),(.s 2)],none⟩,xc 202 8 [.s 6,.s 7]])
 (.skip)))
 (.seq (.aa [xo 9 2,xc 205 10 [.s 9,.c (.int .u8 124)]])
 (.cond (.s 10) (.seq (.aa [xo 11 2,xc 206 12 [.s 11,.c (.int .u8 124)]])
 (.aa [xo 13 2,xc 204 14 [.s 13],⟨(some 15),.cB 2 [(.s 14)],none⟩,xf 3 16 1,xs 1 16 15]))
 (.skip))))
theorem acW:aJ prog 209 Mv [] 17:=⟨f209,⟨[2],[],[]⟩,func209,by kernel_rfl,by kernel_rfl,by kernel_rfl,by kernel_rfl⟩
set_option maxRecDepth 4000
set_option maxHeartbeats 4000000
def e_ (σ:ab) (q o τ:Nat) (rd:ae) (names rows:List (List V)):ab:=((σ.set q rd.enc).set o (fC τ names rows)).aK τ rows.length
theorem vj {σ:ab} {q o τ:Nat} {rd:ae} {names rows:List (List V)} (h:q≠o):(e_ σ q o τ rd names rows).box q=some rd.enc:=by
  simp[e_,ab.aK,ab.set,h]
theorem Gt {σ:ab} {q o τ:Nat} {rd:ae} {names rows:List (List V)}:(e_ σ q o τ rd names rows).box o=some (fC τ names rows):=by
  simp[e_,ab.aK,ab.set]
theorem Gu {σ:ab} {q o τ p:Nat} {rd:ae} {names rows:List (List V)} (h:p≠q) (h' : p≠o):(e_ σ q o τ rd names rows).box p=σ.box p:=by
  simp[e_,ab.aK,ab.set,h,h']
theorem Qq {σ:ab} {q o τ p:Nat} {rd:ae} {names rows:List (List V)} {cs:List V} (h:p≠q) (h' : p≠o):(e_ σ q o τ rd names rows).set p cs=e_ (σ.set p cs) q o τ rd names rows:=by
  have:((σ.set q rd.enc).set o (fC τ names rows)).set p cs=((σ.set p cs).set q rd.enc).set o (fC τ names rows):=by
    rw[ab.set_comm (Ne.symm h'),ab.set_comm (b:=q) (Ne.symm h)]
  show (((σ.set q rd.enc).set o (fC τ names rows)).set p cs).aK τ rows.length=_;rw[this];rfl
theorem ae3 {σ:ab} {q o τ:Nat} {rd:ae} {names rows:List (List V)}:(e_ σ q o τ rd names rows).aB τ=some rows.length:=by
  simp[e_,ab.aK]
theorem CS {σ:ab} {q o τ:Nat} {rd il : ae} {names rows:List (List V)} (h:q≠o):(e_ σ q o τ rd names rows).set q il.enc=e_ σ q o τ il names rows:=by
  have:((σ.set q rd.enc).set o (fC τ names rows)).set q il.enc=(σ.set q il.enc).set o (fC τ names rows):=by rw[ab.set_comm (Ne.symm h),ab.set_set]
  show (((σ.set q rd.enc).set o (fC τ names rows)).set q il.enc).aK τ rows.length=_;rw[this];rfl
theorem ae1 {σ:ab} {q o τ:Nat} {rd:ae} {names IH rows:List (List V)}:(e_ σ q o τ rd names rows).set o (fC τ IH rows)=e_ σ q o τ rd IH rows:=by
  show (((σ.set q rd.enc).set o (fC τ names rows)).set o (fC τ IH rows)).aK τ rows.length=_;rw[ab.set_set];rfl
theorem ae2 {σ:ab} {q o τ:Nat} {rd il : ae} {names rows:List (List V)} {c:List V} (h:q≠o):(((e_ σ q o τ rd names rows).set q il.enc).set o (fC τ names (rows++[c]))).aK τ (rows.length+1)=e_ σ q o τ il names (rows++[c]):=by
  rw[CS h];unfold e_;rw[bz,cF,dk];show ((((σ.set q il.enc).set o (fC τ names rows)).set o (fC τ names (rows++[c]))).aK τ rows.length).aK τ (rows.length+1)=_;rw[ab.set_set,ji]
def Bc (one:ae→Nd × ae) (σ:ab) (q o τ:Nat):Sys (ae × List Nd):=⟨fun a=>e_ σ q o τ a.1 [] (a.2.map Nd.enc),fun a=>a.1,fun a r=>(r,a.2),bU one⟩
theorem U1 {one:ae→Nd × ae} (h:Reads one) (r:ae):(dQ (bU one) r).1.l=r.l:=Gx (IQ h _) _ _ (IQ h _ _ rfl)
theorem amz {n o q τ:Nat} {rd:ae} {σ:ab} (cE:q≠o) (fy:rd.at_=0) (dV:rd.bad=none) (hn:bp rd.l≤n) (hm:bp rd.l+1≤aE) :
    ak prog 209 [.ptr (.out q) 0,.ptr (.out o) 0] (e_ σ q o τ rd [] []) fun v σ' => v = .aT []∧σ' = e_ σ q o τ (rd.mX n).1.1 ((rd.mX n).2.map Word.enc) ((rd.mX n).1.2.map Nd.enc):=by
  have hlen:=j5 rd.l;have Ai:Reads (ae.field n):=yJ (Qz n);refine acW.calls ?_;simp only[aI,Mv,aP,am];refine gE fun p hp=>?_
  have jF:p≠q:=by rintro rfl;rw[vj cE] at hp;simp at hp
  have jE:p≠o:=by rintro rfl;rw[Gt] at hp;simp at hp
  rw[Gu jF jE] at hp;rw[Qq jF jE];have r5:∀a b c,(e_ (σ.set p [.ptr (.out q) 0]) q o τ a b c).box p=some [.ptr (.out q) 0]:=fun a b c=>by rw[Gu jF jE,ab.cH]
  have py:∀a b c,(e_ σ q o τ a b c).sub (e_ (σ.set p [.ptr (.out q) 0]) q o τ a b c):=fun a b c=>by
    rw[←Qq jF jE];exact fv (by rw[Gu jF jE];exact hp)
  simp only[am,r5];refine(mZ (vj cE)).mono ?_;rintro v σ' ⟨rfl,rfl⟩;cases h1:rd.sees 124
  all_goals simp only[am,r5]
  case' false =>
    have oK:∀a:ae × List Nd,lN rd.l a→a.1.bad=none→ak prog 210 [.ptr (.out o) 0,.ptr (.out p) 0] (e_ (σ.set p [.ptr (.out q) 0]) q o τ a.1 [] (a.2.map Nd.enc)) fun v σ' =>
        v = .aT []∧σ' = e_ (σ.set p [.ptr (.out q) 0]) q o τ (bU (ae.field n) a).1 [] ((bU (ae.field n) a).2.map Nd.enc):=fun a iZ hb=>by
      have hl:=iZ.2.2.2 hb;have kl:=iZ.2.2.1;refine(amy (n:=n) Gt (r5 _ _ _) (vj cE) (Ne.symm cE) ae3 (by rw[aD];omega) (by rw[iZ.1];exact hn) (by rw[iZ.1];exact hm)).mono ?_;rintro v σ' ⟨rfl,rfl⟩;refine⟨rfl,?_⟩;rw[ae2 cE];simp[bU]
    have h0:lN rd.l (rd,([]:List Nd)):=⟨rfl,by simp[fy],by simp[fy],fun _=>by simp[fy]⟩;obtain⟨p1,_⟩:=D3 Ai h0 dV;refine(JW (Bc (ae.field n) (σ.set p [.ptr (.out q) 0]) q o τ) (lN rd.l) (a:=(rd,[])) (n:=rd.l.length) (by simp[am]) (fun a h=>vj cE) (fun a h=>?_) (fun a h hs=>CS cE) (fun a h hs=>?_) (oK _ h0 dV) p1 ?_).mono ?_
    · show a.1.l.length≤aE;rw[h.1];omega
    · obtain⟨k1,k2,k3⟩:=I7 h hs;obtain⟨k4,k5⟩:=D3 Ai k1 k2;refine⟨oK _ k1 k2,k4,?_,?_⟩
      · exact k4.1.trans h.1.symm
      · show a.1.at_+1≤_;simp only at k5;rw[k3] at k5;exact k5
    · show (bU (ae.field n) (rd,[])).1.l.length≤rd.l.length;rw[p1.1];omega
    rintro v σ' ⟨rfl,rfl⟩;have e:(Bc (ae.field n) (σ.set p [.ptr (.out q) 0]) q o τ).F ((Bc (ae.field n) (σ.set p [.ptr (.out q) 0]) q o τ).go rd.l.length ((Bc (ae.field n) (σ.set p [.ptr (.out q) 0]) q o τ).step (rd,[])))=e_ (σ.set p [.ptr (.out q) 0]) q o τ (dQ (bU (ae.field n)) rd).1 [] ((dQ (bU (ae.field n)) rd).2.map Nd.enc):=by
      unfold Bc;rw[CV];rfl
    rw[e];have hl:=U1 Ai rd;have fX:rd.mX n=if (dQ (bU (ae.field n)) rd).1.sees 124=true then ((((dQ (bU (ae.field n)) rd).1.take 124).2.word.2,(dQ (bU (ae.field n)) rd).2),[((dQ (bU (ae.field n)) rd).1.take 124).2.word.1]) else (dQ (bU (ae.field n)) rd,[]):=by
      simp only[ae.mX,h1,fO,ey]
    generalize dQ (bU (ae.field n)) rd=a at hl fX ⊢;simp only[am,r5]
  case' true =>
    have fX:rd.mX n=if rd.sees 124=true then (((rd.take 124).2.word.2,[]),[(rd.take 124).2.word.1]) else ((rd,[]),[]):=by
      simp only[ae.mX,h1,dP]
    have hl:rd.l=rd.l:=rfl;rw[show e_ (σ.set p [.ptr (.out q) 0]) q o τ rd [] []=e_ (σ.set p [.ptr (.out q) 0]) q o τ (rd,([]:List Nd)).1 [] ((rd,([]:List Nd)).2.map Nd.enc) from rfl];have fX:rd.mX n=if (rd,([]:List Nd)).1.sees 124=true then ((((rd,([]:List Nd)).1.take 124).2.word.2,(rd,([]:List Nd)).2),[((rd,([]:List Nd)).1.take 124).2.word.1]) else ((rd,([]:List Nd)),[]):=fX
    have hl:(rd,([]:List Nd)).1.l=rd.l:=rfl;generalize (rd,([]:List Nd))=a at hl fX ⊢
  all_goals
    refine(mZ (vj cE)).mono ?_;rintro v σ' ⟨rfl,rfl⟩;cases h2:a.1.sees 124
    · simp only[am,fX,h2];exact aF rfl (py _ _ _) ⟨rfl,rfl⟩
    · simp only[am,r5];refine(sB (vj cE) (by rw[hl];omega)).mono ?_;rintro v σ' ⟨rfl,rfl⟩;rw[CS cE];simp only[am,r5];refine(uH (vj cE) (by rw[ae.ec,hl];omega)).mono ?_;rintro v σ' ⟨rfl,rfl⟩;rw[CS cE];simp only[am,Word.enc,Gt,fC,Nat.reduceAdd];rw[show [V.int .i64 10,.int .i64 0,.str [],.sl .full 2 [[.str (a.1.take 124).2.word.1.text,.int .i64 (a.1.take 124).2.word.1.pos]],.sl (.tk τ) 5 (a.2.map Nd.enc)]=fC τ ([(a.1.take 124).2.word.1].map Word.enc) (a.2.map Nd.enc) from rfl,ae1];exact aF rfl (py _ _ _) ⟨rfl,by rw[fX,aw h2]⟩
end Go.Proofs.Tryz
namespace Go.Proofs.Tryz
open Go.Am
def LZ:AC:=.seq (.aa [⟨(some 2),.alloc [(.int .i64 0),(.int .i64 0),(.str []),(.sl .full 2 []),(.sl .full 5 [])],none⟩])
 (.seq (.seq (.aa [U 5 0,xc 205 6 [.s 5,.c (.int .u8 91)],⟨(some 7),.not (.s 6),none⟩])
 (.cond (.s 7) (.seq (.aa [U 8 0,xc 204 9 [.s 8],⟨(some 3),.alloc [(.str []),(.int .i64 0)],none⟩,xs 2 3 9])
 (.seq (.aa [xf 1 10 3,xo 11 10,xf 0 12 3,xo 13 12,⟨(some 14),.build [(.int .i64 0),(.int .i64 0),(.str []),(.sl .full 2 []),(.sl .full 5 [])] [(0,1,(.c (.int .i64 1))),(1,1,(.s 11)),(2,1,(.s 13))],none⟩,xs 5 2 14])
 (.ret)))
 (.skip)))
 (.seq (.aa [⟨(some 15),.build [(.int .i64 0),(.int .i64 0),(.str []),(.sl .full 2 []),(.sl .full 5 [])] [(0,1,(.c (.int .i64 10)))],none⟩,⟨(some 4),.lO [(.int .i64 0),(.int .i64 0),(.str []),(.sl .full 2 []),(.sl .full 5 [])],none⟩,xs 5 4 15])
 (.seq (.lH (.aa [U 16 0,⟨(some 17),.gG (.func 209) [] [(.s 4)],none⟩,xc 200 18 [.s 16,.c (.int .u8 91),.c (.bool true),.s 17],xf 1 19 4,xs 1 19 18]))
 (.seq (.aa [xl 5 20 4,xs 5 2 20])
 (.ret)))))
theorem aco:aJ prog 159 LZ [.cell 2 true 5] 21:=⟨f159,⟨[4],[5],[]⟩,func159,by kernel_rfl,by kernel_rfl,by kernel_rfl,by kernel_rfl⟩
set_option maxRecDepth 4000
set_option maxHeartbeats 4000000
theorem an3 {a b:ab} {o:Nat} {C:List V} (h:a.sub b) (k:a.box o=none):a.sub (b.set o C):=by
  refine⟨fun x cs hx=>?_,h.2⟩
  have:x≠o:=by rintro rfl;rw[k] at hx;simp at hx
  rw[ab.cN _ _ this];exact h.1 x cs hx
theorem amC {n:Nat} (i:ae):(i.mX n).1.1.l=i.l:=by
  have Ai:Reads (ae.field n):=yJ (Qz n);cases h1:i.sees 124
  · cases h2:(dQ (bU (ae.field n)) i).1.sees 124<;>simp[ae.mX,h1,h2,ae.word,ae.ec,U1 Ai]
  · simp[ae.mX,h1,ae.word,ae.ec]
theorem amF {n:Nat} (t:Tree):(ae.rowOf n t).1.1.l=t.kids:=by
  unfold ae.rowOf;split
  · rfl
  · rw[amC];rfl
theorem apZ {n r:Nat} {rd:ae} {σ:ab} (h:σ.box r=some rd.enc) (hn:bp rd.l≤n) (hm:bp rd.l+1≤aE) :
    ak prog 159 [.ptr (.out r) 0] σ fun v σ' => v = .agg (rd.row n).1.enc∧σ' = σ.set r (rd.row n).2.enc:=by
  have hlen:=j5 rd.l;refine aco.calls ?_;simp only[aI,LZ,aP,am];refine(mZ h).mono ?_;rintro v σ ⟨rfl,rfl⟩;cases h1:rd.sees 91
  · simp only[am];refine(uH h (by omega)).mono ?_;rintro v σ' ⟨rfl,rfl⟩;simp only[am,Word.enc,Nat.reduceAdd];refine aF rfl (ab.aS _) ⟨?_,by simp[ae.row,ae.leaf,h1]⟩;simp[ae.row,ae.leaf,h1,V.erase,aX,Nd.enc,nZ]
  · simp only[am];refine gE fun o ho=>?_
    have gA:o≠r:=by rintro rfl;rw[h] at ho;simp at ho
    simp only[am];refine aZ.tok 0 fun τ ba=>⟨_,_,_,dc.rfl,rfl,fun i c hc=>⟨c,hc,dc.rfl⟩,np.set (cs:=[.int .i64 10,.int .i64 0,.str [],.sl .full 2 [],.sl .full 5 []]) (cs' := fC τ [] []) (ab.cH _ _ _) ⟨gz.same,gz.same,gz.same,gz.same,gz.tok rfl,trivial⟩,?_⟩
    simp only[am];have rQ : ((σ.set o (fC τ [] [])).aK τ 0).box r=some rd.enc:=by
      show (σ.set o _).box r=_;rw[ab.cN _ _ (Ne.symm gA)];exact h
    have aH:∀q,((σ.set o (fC τ [] [])).aK τ 0).box q=none→q≠o∧q≠r∧σ.box q=none:=fun q hq=>by
      have cE:q≠o:=by rintro rfl;rw[show ((σ.set q (fC τ [] [])).aK τ 0).box q=_ from ab.cH _ _ _] at hq;simp at hq
      have kP : σ.box q=none:=by rw[←ab.cN σ (fC τ [] []) cE];exact hq
      exact⟨cE,by rintro rfl;rw[h] at kP;simp at kP,kP⟩
    have vA:bp (rd.take 91).1.kids≤bp rd.l:=(rd.rk 91).1;have aqm:=j5 (rd.take 91).1.kids;generalize eH:ae.rowOf n (rd.take 91).1=ins;have Ak:ins.1.1.l=(rd.take 91).1.kids:=by rw[←eH];exact amF _
    refine(Ko (kind:=91) (by simp[am]) rQ (by omega) (by omega) ins.1.1 ((σ.set o (fC τ (ins.2.map Word.enc) (ins.1.2.map Nd.enc))).aK τ (ins.1.2.map Nd.enc).length) ?_ ?_ ?_ Ak).mono ?_
    · intro bw hc q hq;obtain⟨cE,iE,_⟩:=aH q hq;have e1:(((σ.set o (fC τ [] [])).aK τ 0).set r (rd.take 91).2.enc).set q (rd.take 91).1.inner.enc=e_ (σ.set r (rd.take 91).2.enc) q o τ (rd.take 91).1.inner [] []:=by
        unfold e_;rw[ab.set_comm (b:=q) cE,ab.set_comm (b:=r) (Ne.symm gA)];rfl
      have e2:(((σ.set o (fC τ (ins.2.map Word.enc) (ins.1.2.map Nd.enc))).aK τ (ins.1.2.map Nd.enc).length).set r (rd.take 91).2.enc).set q ins.1.1.enc=e_ (σ.set r (rd.take 91).2.enc) q o τ ins.1.1 (ins.2.map Word.enc) (ins.1.2.map Nd.enc):=by
        unfold e_;rw[ab.set_comm (b:=q) cE,ab.set_comm (b:=r) (Ne.symm gA)];rfl
      have e3:ins=(rd.take 91).1.inner.mX n:=by
        rw[←eH,ae.rowOf,ah]
        rcases hc with hc | hc
        · simp at hc
        · exact hc
      rw[e1,e2,e3];exact amz cE rfl rfl (by show bp (rd.take 91).1.kids≤n;omega) (by show bp (rd.take 91).1.kids+1≤aE;omega)
    · intro q1 q2
      have:ins=(((rd.take 91).1.inner,[]),[]):=by rw[←eH,ae.rowOf,aw q2]
      rw[this];exact⟨rfl,rfl⟩
    · intro q hq;obtain⟨cE,_,kP⟩:=aH q hq;show (σ.set o _).box q=none;rw[ab.cN _ _ cE];exact kP
    rintro v σ' hv;have tE:∀(A B:List V) (n:Nat),(σ.set r A).sub (((σ.set o B).aK τ n).set r A):=fun A B n=>by
      refine⟨fun b cs hb=>?_,fun υ m hm=>?_,fun _ _ h=>h⟩
      · have Ad:b≠o:=by rintro rfl;rw[ab.cN _ _ gA,ho] at hb;simp at hb
        by_cases qG:b=r
        · subst qG;rw[ab.cH] at hb ⊢;exact hb
        · rw[ab.cN _ _ qG] at hb ⊢;show (σ.set o B).box b=_;rw[ab.cN _ _ Ad];exact hb
      · have pB : σ.aB υ=some m:=hm;have vB : υ≠τ:=by rintro rfl;rw[show (σ.set o [V.int .i64 10,.int .i64 0,.str [],.sl .full 2 [],.sl .full 5 []]).aB υ=σ.aB υ from rfl] at ba;rw[ba] at pB;simp at pB
        show ((σ.set o B).aK τ n).aB υ=some m;rw[wq vB];exact pB
    have bw:(rd.take 91).2.ok=true:=by
      rcases rd.mq 91 with ⟨_,_,e,_,_⟩ | ⟨e,_,_⟩
      · simp[ae.ok,e]
      · rw[h1] at e;simp at e
    rw[aw bw] at hv;obtain⟨rfl,rfl⟩:=hv;have hb:(((σ.set o (fC τ (ins.2.map Word.enc) (ins.1.2.map Nd.enc))).aK τ (ins.1.2.map Nd.enc).length).set r ((rd.take 91).2.under ins.1.1).enc).box o=some (fC τ (ins.2.map Word.enc) (ins.1.2.map Nd.enc)):=by
      rw[ab.cN _ _ gA];exact ab.cH _ _ _
    simp only[fC] at hb tE ⊢;simp only[am,hb,Nat.reduceAdd];refine aF rfl (an3 (tE _ _ _) (by rw[ab.cN _ _ gA];exact ho)) ⟨?_,by simp[ae.row,h1,eH]⟩;simp[ae.row,h1,eH,V.erase,aX,Nd.enc,v9]
end Go.Proofs.Tryz
namespace Go.Proofs.Tryz
open Go.Am
def Lp:AC:=.seq (.aa [⟨(some 6),.mv (.c (.sl .full 2 [])),none⟩,⟨(some 7),.alloc [(.int .i64 0),(.int .i64 0)],none⟩])
 (.seq (.aa [U 11 0,U 12 1,U 13 2,⟨(some 14),.build [(.sl .full 5 []),(.int .i64 0),(.int .i64 0),(.int .i64 0),(.int .i64 0)] [(0,1,(.s 11)),(1,1,(.s 12)),(2,1,(.s 13))],none⟩,⟨(some 15),.eD 5 (.s 14),none⟩,U 8 15])
 (.seq (.aa [U 17 8,xc 155 18 [.s 17,.c (.bool false)],U 16 18,xe 19 16 0,xe 20 16 1,U 9 19,U 10 20])
 (.seq (.seq (.aa [U 21 8,xc 156 22 [.s 21],⟨(some 23),.not (.s 22),none⟩])
 (.cond (.s 23) (.seq (.draw [(U 24 8,[]),(xk 25 24,[]),(xf 3 26 25,[]),(xl 2 27 26,[]),(⟨(some 6),.mv (.c (.sl .full 2 [])),none⟩,[]),(xs 2 7 27,[])])
 (.ret))
 (.skip)))
 (.seq (.aa [U 28 9,⟨(some 29),.build [(.int .i64 0),(.int .i64 0)] [],none⟩,U 6 28,xs 2 7 29])
 (.ret)))))
theorem abQ:aJ prog 104 Lp [.tmp 6,.cell 7 true 2] 30:=⟨f104,⟨[15],[],[]⟩,func104,by kernel_rfl,by kernel_rfl,by kernel_rfl,by kernel_rfl⟩
def Ls:AC:=.seq (.aa [⟨(some 6),.alloc [(.int .i64 0),(.int .i64 0),(.str []),(.sl .full 2 []),(.sl .full 5 [])],none⟩,xi 7 0,⟨(some 8),.alloc [(.int .i64 0),(.int .i64 0)],none⟩])
 (.seq (.aa [U 9 0,U 10 1,U 11 2,xc 157 12 [.s 9,.s 10,.s 11,.c (.fn (.func 158) [] [])],xe 13 12 0,xe 14 12 1,xe 15 12 2,xs 5 6 13,U 7 14,xs 2 8 15])
 (.ret))
theorem abT:aJ prog 107 Ls [.cell 6 true 5,.tmp 7,.cell 8 true 2] 16:=⟨f107,⟨[],[],[]⟩,func107,by kernel_rfl,by kernel_rfl,by kernel_rfl,by kernel_rfl⟩
def Lt:AC:=.seq (.aa [⟨(some 6),.alloc [(.int .i64 0),(.int .i64 0),(.str []),(.sl .full 2 []),(.sl .full 5 [])],none⟩,xi 7 0,⟨(some 8),.alloc [(.int .i64 0),(.int .i64 0)],none⟩])
 (.seq (.aa [U 9 0,U 10 1,U 11 2,xc 157 12 [.s 9,.s 10,.s 11,.c (.fn (.func 159) [] [])],xe 13 12 0,xe 14 12 1,xe 15 12 2,xs 5 6 13,U 7 14,xs 2 8 15])
 (.ret))
theorem abU:aJ prog 108 Lt [.cell 6 true 5,.tmp 7,.cell 8 true 2] 16:=⟨f108,⟨[],[],[]⟩,func108,by kernel_rfl,by kernel_rfl,by kernel_rfl,by kernel_rfl⟩
def LX:AC:=.seq (.aa [⟨(some 8),.alloc [(.int .i64 0),(.int .i64 0),(.str []),(.sl .full 2 []),(.sl .full 5 [])],none⟩,xi 9 0,⟨(some 10),.alloc [(.int .i64 0),(.int .i64 0)],none⟩])
 (.seq (.aa [U 13 0,U 14 1,U 15 2,⟨(some 16),.build [(.sl .full 5 []),(.int .i64 0),(.int .i64 0),(.int .i64 0),(.int .i64 0)] [(0,1,(.s 13)),(1,1,(.s 14)),(2,1,(.s 15))],none⟩,⟨(some 17),.eD 5 (.s 16),none⟩,U 11 17])
 (.seq (.aa [U 18 3,U 19 11,⟨(some 20),.fR (.s 18) [(.s 19)],none⟩,⟨(some 12),.alloc [(.int .i64 0),(.int .i64 0),(.str []),(.sl .full 2 []),(.sl .full 5 [])],none⟩,xs 5 12 20])
 (.seq (.seq (.aa [U 21 11,xc 156 22 [.s 21],⟨(some 23),.not (.s 22),none⟩])
 (.cond (.s 23) (.seq (.draw [(⟨(some 24),.build [(.int .i64 0),(.int .i64 0),(.str []),(.sl .full 2 []),(.sl .full 5 [])] [],none⟩,[]),(U 25 11,[]),(xk 26 25,[]),(xf 3 27 26,[]),(xl 2 28 27,[1]),(xs 5 8 24,[]),(xi 9 0,[]),(xs 2 10 28,[])])
 (.ret))
 (.skip)))
 (.seq (.draw [(xl 5 29 12,[]),(U 30 11,[]),(xk 31 30,[]),(xf 1 32 31,[]),(xo 33 32,[1]),(⟨(some 34),.build [(.int .i64 0),(.int .i64 0)] [],none⟩,[]),(xs 5 8 29,[]),(U 9 33,[]),(xs 2 10 34,[])])
 (.ret)))))
theorem acm:aJ prog 157 LX [.cell 8 true 5,.tmp 9,.cell 10 true 2] 35:=⟨f157,⟨[17],[],[]⟩,func157,by kernel_rfl,by kernel_rfl,by kernel_rfl,by kernel_rfl⟩
set_option maxRecDepth 4000
set_option maxHeartbeats 4000000
def hC (b:Option Int):V:=.agg [.int .i64 (cj b),.int .i64 (dT b)]
theorem VR {g:FuncId} {one:ae→Nd × ae} {l:List Tree} {at_ fin:Int} {σ:ab}
    (dH:∀q (σ:ab),σ.box q=some (⟨l,at_,fin,none⟩:ae).enc→ak prog g [.ptr (.out q) 0] σ fun v σ' => v = .agg (one ⟨l,at_,fin,none⟩).1.enc∧σ' = σ.set q (one ⟨l,at_,fin,none⟩).2.enc) :
    ak prog 157 [.sl .no 5 (ct l),.int .i64 at_,.int .i64 fin,.fn (.func g) [] []] σ fun v σ' => v = .aT [.agg (fi one l at_ fin).1.enc,.int .i64 (fi one l at_ fin).2.1,hC (fi one l at_ fin).2.2]∧σ' = σ:=by
  refine acm.calls ?_;simp only[aI,LX,aP,am];refine gE fun q hq=>?_
  rw[show [V.sl .no 5 (ct l),.int .i64 at_,.int .i64 fin,.int .i64 0,.int .i64 0]=(⟨l,at_,fin,none⟩:ae).enc from rfl];simp only[am];refine(dH q _ (ab.cH _ _ _)).mono ?_;rintro v σ' ⟨rfl,rfl⟩;have hb:=ab.cH σ q (one ⟨l,at_,fin,none⟩).2.enc;have fX:fi one l at_ fin=match (one ⟨l,at_,fin,none⟩).2.bad with | some b=>(.zero,0,some b) | none=>((one ⟨l,at_,fin,none⟩).1,(one ⟨l,at_,fin,none⟩).2.at_,none):=rfl
  generalize one ⟨l,at_,fin,none⟩=o at hb fX ⊢;simp only[am,Nd.len,Nd.one,Nd.A'];refine(se (ab.cH _ _ _)).mono ?_;rintro v σ' ⟨rfl,rfl⟩;cases h:o.2.bad with
  | some b =>
    simp only[am,ae.ok,h,Option.isNone,ae.ex,Nat.reduceAdd];rw[h] at fX;refine aF rfl (fv hq) ⟨?_,rfl⟩;simp[fX,V.erase,aX,Nd.zero,Nd.enc,nZ,hC]
  | none =>
    simp only[am,ae.ok,h,Option.isNone,ae.ex,Nat.reduceAdd,Nd.len,Nd.one,Nd.A',Nd.tk];rw[h] at fX;refine aF (by simp only[am,Nd.bS]) (fv hq) ⟨?_,rfl⟩;simp[fX,V.erase,aX,hC,Nd.er,cj,dT]
theorem V1 {n:Nat} {l:List Tree} {at_ fin:Int} {σ:ab} (hn:bp l≤n) (hm:bp l+1≤aE) :
    ak prog 107 [.sl .no 5 (ct l),.int .i64 at_,.int .i64 fin] σ fun v σ' => v = .aT [.agg (fi (ae.label n) l at_ fin).1.enc,.int .i64 (fi (ae.label n) l at_ fin).2.1,hC (fi (ae.label n) l at_ fin).2.2]∧σ' = σ:=by
  refine abT.calls ?_;simp only[aI,Ls,aP,am];refine(VR (one:=ae.label n) (fun q σ h=>ahd n h hn hm)).mono ?_;rintro v σ ⟨rfl,rfl⟩;generalize fi (ae.label n) l at_ fin=o;simp only[am,hC,Nd.len,Nd.A',Nd.tk,Nd.one];refine aF (by simp only[am,Nd.bS]) (ab.aS _) ⟨?_,rfl⟩;simp[V.erase,aX,Nd.er]
theorem We {n:Nat} {l:List Tree} {at_ fin:Int} {σ:ab} (hn:bp l≤n) (hm:bp l+1≤aE) :
    ak prog 108 [.sl .no 5 (ct l),.int .i64 at_,.int .i64 fin] σ fun v σ' => v = .aT [.agg (fi (ae.row n) l at_ fin).1.enc,.int .i64 (fi (ae.row n) l at_ fin).2.1,hC (fi (ae.row n) l at_ fin).2.2]∧σ' = σ:=by
  refine abU.calls ?_;simp only[aI,Lt,aP,am];refine(VR (one:=ae.row n) (fun q σ h=>apZ (n:=n) h hn hm)).mono ?_;rintro v σ ⟨rfl,rfl⟩;generalize fi (ae.row n) l at_ fin=o;simp only[am,hC,Nd.len,Nd.A',Nd.tk,Nd.one];refine aF (by simp only[am,Nd.bS]) (ab.aS _) ⟨?_,rfl⟩;simp[V.erase,aX,Nd.er]
theorem Wh {l:List Tree} {at_ fin:Int} {σ:ab} (hm:bp l+1≤aE) :
    ak prog 104 [.sl .no 5 (ct l),.int .i64 at_,.int .i64 fin] σ fun v σ' => v = .aT [.sl .no 2 ((lI l at_ fin).1.map Word.enc),hC (lI l at_ fin).2]∧σ' = σ:=by
  have hlen:=j5 l;refine abQ.calls ?_;simp only[aI,Lp,aP,am];refine gE fun q hq=>?_
  rw[show [V.sl .no 5 (ct l),.int .i64 at_,.int .i64 fin,.int .i64 0,.int .i64 0]=(⟨l,at_,fin,none⟩:ae).enc from rfl];simp only[am];refine(Kw (ab.cH _ _ _) (by simp only;omega) (vS hm rfl)).mono ?_;rintro v σ' ⟨rfl,rfl⟩;have hb:=ab.cH σ q ((⟨l,at_,fin,none⟩:ae).words false).2.enc;have fX:lI l at_ fin=match ((⟨l,at_,fin,none⟩:ae).words false).2.bad with | some b=>([],some b) | none=>(((⟨l,at_,fin,none⟩:ae).words false).1.1,none):=rfl
  generalize (⟨l,at_,fin,none⟩:ae).words false=o at hb fX ⊢;simp only[am];refine(se (ab.cH _ _ _)).mono ?_;rintro v σ' ⟨rfl,rfl⟩;cases h:o.2.bad with
  | some b =>
    simp only[am,ae.ok,h,Option.isNone,ae.ex,Nat.reduceAdd];rw[h] at fX;refine aF rfl (fv hq) ⟨?_,rfl⟩;simp[fX,V.erase,aX,hC]
  | none =>
    simp only[am,ae.ok,h,Option.isNone];rw[h] at fX;refine aF rfl (fv hq) ⟨?_,rfl⟩;simp[fX,V.erase,aX,hC,cj,dT]
end Go.Proofs.Tryz
namespace Go.Proofs.Tryz
open Go.Am
set_option maxRecDepth 4000
set_option maxHeartbeats 4000000
def Oj:AC:=.seq (.aa [⟨(some 2),.mv (.c (.bool false)),none⟩])
 (.seq (.seq (.aa [U 4 0,⟨(some 5),.gP .eql (.s 4) (.c (.str [])),none⟩,U 6 5,xh 6 (U 7 0),xh 6 (xT 8 7),xh 6 (xB .gtr 9 8 16),⟨(some 10),.pick (.s 6) (.c (.bool true)) (.s 9),none⟩,U 11 10,xh 11 (U 12 0),⟨(some 13),.pE (.s 12) (.c (.int .i64 0)),(some (11,false))⟩,xh 11 (xc 153 14 [.s 13]),⟨(some 15),.not (.s 14),(some (11,false))⟩,⟨(some 16),.pick (.s 11) (.c (.bool true)) (.s 15),none⟩])
 (.cond (.s 16) (.seq (.aa [⟨(some 2),.mv (.c (.bool false)),none⟩])
 (.ret))
 (.skip)))
 (.seq (.seq (.aa [U 17 0,xT 18 17,xi 19 0])
 (.block 0 (.loop (.seq (.aa [xb .lss 20 19 18])
 (.seq (.cond (.s 20) (.skip)
 (.exit 0))
 (.seq (.block 1 (.seq (.aa [U 21 19,U 3 21])
 (.seq (.aa [U 22 0,U 23 3,xS 24 22 23,xc 154 25 [.s 24],⟨(some 26),.not (.s 25),none⟩])
 (.cond (.s 26) (.seq (.aa [⟨(some 2),.mv (.c (.bool false)),none⟩])
 (.ret))
 (.skip)))))
 (.aa [xB .add 27 19 1,U 19 27])))))))
 (.seq (.aa [⟨(some 2),.mv (.c (.bool true)),none⟩])
 (.ret))))
theorem aeC:aJ prog 99 Oj [.tmp 2] 28:=⟨f99,⟨[],[],[]⟩,func99,by kernel_rfl,by kernel_rfl,by kernel_rfl,by kernel_rfl⟩
def LS:AC:=.seq (.aa [⟨(some 2),.mv (.c (.bool false)),none⟩])
 (.seq (.aa [U 3 0,xu .geq 4 3 97,U 5 4,xg 5 (U 6 0),xg 5 (xu .leq 7 6 122),⟨(some 8),.pick (.s 5) (.s 7) (.c (.bool false)),none⟩,U 2 8])
 (.ret))
theorem ach:aJ prog 153 LS [.tmp 2] 9:=⟨f153,⟨[],[],[]⟩,func153,by kernel_rfl,by kernel_rfl,by kernel_rfl,by kernel_rfl⟩
def LU:AC:=.seq (.aa [⟨(some 2),.mv (.c (.bool false)),none⟩])
 (.seq (.aa [U 3 0,xc 153 4 [.s 3],U 5 4,xh 5 (U 6 0),xh 5 (xu .geq 7 6 48),xh 5 (U 8 7),xg 8 (U 9 0),xg 8 (xu .leq 10 9 57),⟨(some 11),.pick (.s 8) (.s 10) (.c (.bool false)),(some (5,false))⟩,⟨(some 12),.pick (.s 5) (.c (.bool true)) (.s 11),none⟩,U 13 12,xh 13 (U 14 0),xh 13 (xu .eql 15 14 95),⟨(some 16),.pick (.s 13) (.c (.bool true)) (.s 15),none⟩,U 2 16])
 (.ret))
theorem aci:aJ prog 154 LU [.tmp 2] 17:=⟨f154,⟨[],[],[]⟩,func154,by kernel_rfl,by kernel_rfl,by kernel_rfl,by kernel_rfl⟩
def rp:=And.intro @am <| And.intro @lP <| And.intro @bV <| And.intro @ix <| And.intro @bQ <| And.intro @eT <| And.intro @Tree.af <| And.intro @Nd.af <| And.intro @Word.af @cZ.af
theorem Sf (c:Int) (σ:ab):ak prog 153 [.int .u8 c] σ fun v σ' => v = .bool (yy c)∧σ' = σ:=by
  refine ach.calls ?_;simp only[aI,LS,am,aP]
  repeat' (first
    | (refine iW (fun h=>?_) (fun h=>?_)<;>simp only[am,h])
    | (refine fk (fun h=>?_) (fun h=>?_)<;>simp only[rp,h,Nat.reduceAdd,Nat.reduceEqDiff,aD])
    | (refine je (fun h=>?_) (fun h=>?_)<;>simp only[rp,h,Nat.reduceAdd,Nat.reduceEqDiff,aD])
  )
  all_goals refine az ?_
  all_goals simp_all [V.erase,yy]
  all_goals (try omega)
theorem afd (c:Int) (σ:ab):ak prog 154 [.int .u8 c] σ fun v σ' => v = .bool (rP c)∧σ' = σ:=by
  refine aci.calls ?_;simp only[aI,LU,am,aP];refine cl (Sf c σ) ?_;simp only[am]
  repeat' (first
    | (refine iW (fun h=>?_) (fun h=>?_)<;>simp only[am,h])
    | (refine fk (fun h=>?_) (fun h=>?_)<;>simp only[rp,h,Nat.reduceAdd,Nat.reduceEqDiff,aD])
    | (refine je (fun h=>?_) (fun h=>?_)<;>simp only[rp,h,Nat.reduceAdd,Nat.reduceEqDiff,aD])
  )
  all_goals refine az ?_
  all_goals simp_all [V.erase,rP]
  all_goals (try omega)
theorem Bm {s:List UInt8} {i:Nat} (h:i<s.length):s[((i:Nat):Int).toNat]?=some s[i]:=by simp[h]
def H7 (s:List UInt8) (σ:ab) (i:Nat):St :=
  ⟨[.str s]++List.replicate 17 .any++[.int .i64 s.length,.int .i64 (i:Nat)]++List.replicate 8 .any,[],σ⟩
theorem Om {s:List UInt8} {i:Nat} {f:UInt8→Bool} (h:i<s.length):(s.take (i+1)).all f=((s.take i).all f&&f s[i]):=by
  rw[Br (cc h),Fb];simp only[uO,KL,rq]
theorem aiU {s:List UInt8} (h:s.length≤16) (h1:0<s.length):dZ s=(vY s[0]&&s.all iC):=by
  cases s with
  | nil=>simp at h1
  | cons c r =>
    simp only[dZ,h,bQ,lJ,V6,uO];cases hc:vY c
    · simp
    · have:iC c=true:=by simp only[vY] at hc;simp[iC,rP,hc]
      simp[this]
theorem pI (s:List UInt8) (σ:ab):ak prog 99 [.str s] σ fun v σ' => v = .bool (dZ s)∧σ' = σ:=by
  refine aeC.calls ?_;simp only[aI,Oj,am,aP]
  by_cases h0:s=[]
  · subst h0;simp only[am,bQ];refine az ?_;simp[V.erase,dZ]
  · have iD:0<s.length:=by cases s with | nil=>exact absurd rfl h0 | cons _ _=>simp
    simp only[am,eT,h0]
    by_cases zU:s.length≤16
    · have e:decide ((16:Int)<s.length)=false:=by simp;omega
      simp only[am,e];refine yr (by omega) (c:=s[0]) (by simp[iD]) ?_;simp only[am];refine cl (Sf s[0].toNat σ) ?_;have hl:dZ s=(vY s[0]&&s.all iC):=aiU zU iD;cases hb:yy (s[0].toNat:Nat)
      · have bl : vY s[0]=false:=hb;simp only[am];refine az ?_;simp[V.erase,hl,bl]
      · have bl : vY s[0]=true:=hb;simp only[am];refine jj (fun p:{i:Nat // i≤s.length∧(s.take i).all iC=true}=>H7 s σ p.1) (fun p=>s.length - p.1) ?_ ?_
        · refine aZ.enter ⟨0,by simp,by simp⟩ ?_ bY.rfl bC.rfl;simp[H7,List.replicate,am]
        · rintro⟨i,hi,ha⟩;simp only[H7,List.replicate,am];refine fk ?_ ?_
          · intro ag;have ag:i<s.length:=by simpa using ag
            simp only[am];refine yr (by omega) (Bm ag) ?_;simp only[am];refine cl (afd s[i].toNat σ) ?_;cases hg:rP (s[i].toNat:Nat)
            · have oz : iC s[i]=false:=hg;simp only[am];refine aF rfl (ab.aS _) ⟨?_,rfl⟩
              have:s.all iC=false:=by
                rw[Fc];exact⟨s[i],eZ ag,by simp[oz]⟩
              simp[V.erase,hl,this]
            · simp only[am];rw[wrap_i64 (by omega) (by omega)];refine aZ.again ⟨i+1,by omega,?_⟩ (by simp;omega) (by simp[am]) bY.rfl bC.rfl;rw[Om ag,ha];exact hg
          · intro ag;have ag:i=s.length:=by simp at ag;omega
            subst ag;rw[dv] at ha;simp only[am];refine az ?_;simp[V.erase,hl,bl,ha]
    · have e:decide ((16:Int)<s.length)=true:=by simp;omega
      simp only[am,e];refine az ?_;simp[V.erase,dZ,zU]
def Oc:AC:=.seq (.aa [xi 6 0])
 (.seq (.seq (.aa [U 8 0,U 7 8])
 (.block 0 (.loop (.seq (.seq (.aa [U 9 7,U 10 1,xb .lss 11 9 10])
 (.cond (.s 11) (.skip)
 (.exit 0)))
 (.seq (.block 1 (.seq (.aa [U 14 2,U 15 7,⟨(some 16),.fR (.s 14) [(.s 15)],none⟩])
 (.cond (.s 16) (.seq (.aa [U 17 7,U 6 17])
 (.ret))
 (.skip))))
 (.aa [U 12 7,xB .add 13 12 1,U 7 13]))))))
 (.seq (.aa [xi 6 (-1)])
 (.ret)))
theorem aew:aJ prog 93 Oc [.tmp 6] 18:=⟨f93,⟨[],[],[]⟩,func93,by kernel_rfl,by kernel_rfl,by kernel_rfl,by kernel_rfl⟩
def Lx:AC:=.seq (.aa [⟨(some 2),.eD 1 (.s 0),none⟩,⟨(some 3),.eD 1 (.s 1),none⟩,xi 4 0])
 (.seq (.aa [xo 5 2,xL 6 5,⟨(some 7),.gG (.func 160) [] [(.s 2),(.s 3)],none⟩,xc 93 8 [.c (.int .i64 0),.s 6,.s 7],U 4 8])
 (.ret))
theorem abY:aJ prog 112 Lx [.tmp 4] 9:=⟨f112,⟨[2,3],[],[]⟩,func112,by kernel_rfl,by kernel_rfl,by kernel_rfl,by kernel_rfl⟩
def L1:AC:=.seq (.aa [⟨(some 4),.mv (.c (.bool false)),none⟩])
 (.seq (.draw [(xo 5 1,[]),(U 6 0,[]),(xA 1 7 5 6,[]),(xo 8 7,[]),(xo 9 2,[]),(⟨(some 10),.gP .eql (.s 8) (.s 9),none⟩,[]),(U 4 10,[])])
 (.ret))
theorem acq:aJ prog 160 L1 [.tmp 4] 11:=⟨f160,⟨[],[],[]⟩,func160,by kernel_rfl,by kernel_rfl,by kernel_rfl,by kernel_rfl⟩
def M_:AC:=.seq (.aa [⟨(some 2),.mv (.c (.bool false)),none⟩])
 (.seq (.seq (.aa [U 5 0,xL 6 5,xB .lss 7 6 1,U 8 7,xh 8 (U 9 0),xh 8 (xL 10 9),xh 8 (xB .gtr 11 10 64),⟨(some 12),.pick (.s 8) (.c (.bool true)) (.s 11),none⟩,U 13 12,xh 13 (U 14 0),xh 13 (xc 270 15 [.s 14]),xh 13 (xB .geq 16 15 0),⟨(some 17),.pick (.s 13) (.c (.bool true)) (.s 16),none⟩])
 (.cond (.s 17) (.seq (.aa [⟨(some 2),.mv (.c (.bool false)),none⟩])
 (.ret))
 (.skip)))
 (.seq (.seq (.aa [U 18 0,xL 19 18,xi 20 0])
 (.block 0 (.loop (.seq (.aa [xb .lss 21 20 19])
 (.seq (.cond (.s 21) (.skip)
 (.exit 0))
 (.seq (.block 1 (.seq (.aa [xA 1 22 18 20,xo 23 22,U 4 23])
 (.seq (.aa [U 24 4,xc 99 25 [.s 24],⟨(some 26),.not (.s 25),none⟩])
 (.cond (.s 26) (.seq (.aa [⟨(some 2),.mv (.c (.bool false)),none⟩])
 (.ret))
 (.skip)))))
 (.aa [xB .add 27 20 1,U 20 27])))))))
 (.seq (.aa [⟨(some 2),.mv (.c (.bool true)),none⟩])
 (.ret))))
theorem adD:aJ prog 255 M_ [.tmp 2] 28:=⟨f255,⟨[],[],[]⟩,func255,by kernel_rfl,by kernel_rfl,by kernel_rfl,by kernel_rfl⟩
def Nk:AC:=.seq (.aa [⟨(some 1),.eD 1 (.s 0),none⟩,xi 2 0])
 (.seq (.aa [xo 3 1,xL 4 3,⟨(some 5),.gG (.func 279) [] [(.s 1)],none⟩,xc 93 6 [.c (.int .i64 0),.s 4,.s 5],U 2 6])
 (.ret))
theorem adN:aJ prog 270 Nk [.tmp 2] 7:=⟨f270,⟨[1],[],[]⟩,func270,by kernel_rfl,by kernel_rfl,by kernel_rfl,by kernel_rfl⟩
def Ns:AC:=.seq (.aa [⟨(some 3),.mv (.c (.bool false)),none⟩])
 (.seq (.draw [(xo 4 1,[]),(U 5 0,[]),(⟨(some 6),.j_ 1 (.s 4) none (some (.s 5)) none,none⟩,[]),(xo 7 1,[]),(U 8 0,[]),(xA 1 9 7 8,[]),(xo 10 9,[]),(xc 112 11 [.s 6,.s 10],[]),(xB .geq 12 11 0,[]),(U 3 12,[])])
 (.ret))
theorem adU:aJ prog 279 Ns [.tmp 3] 13:=⟨f279,⟨[],[],[]⟩,func279,by kernel_rfl,by kernel_rfl,by kernel_rfl,by kernel_rfl⟩
theorem Jb (n:Nat) (hn:n≤100000) (f:FuncId) (cap:List V) (hc:bd cap=true) (p:Nat→Bool) (σ:ab) (h:∀i,i<n→ak prog f (.int .i64 (i:Nat)::cap) σ fun v σ' => v = .bool (p i)∧σ' = σ) :
    ak prog 93 [.int .i64 0,.int .i64 (n:Nat),.fn (.func f) [] cap] σ fun v σ' => v = .int .i64 (cp ((List.range n).find? p))∧σ' = σ:=by
  refine aew.calls ?_;simp only[aI,Oc,am,aP,Nat.reduceAdd];obtain⟨F,hF⟩:∃F:Nat→Unit→St,∀i x,F i x=⟨[.any,.int .i64 (n:Nat),.fn (.func f) [] cap,.any,.any,.any,.any,.int .i64 (i:Nat)]++List.replicate 10 .any,[],σ⟩:=⟨_,fun _ _=>rfl⟩;obtain⟨JF,aO⟩:∃JF:Nat→Unit→Prop,∀i x,JF i x=(∀k,k<i→p k=false):=⟨_,fun _ _=>rfl⟩;refine db (n) F JF _ aO ?_ ?_ ?_
  · refine dA (()) ?_ ?_ ?_ ?_
    · exact Eq.mpr (aO _ _) (by intro k h;omega)
    all_goals simp[hF,List.replicate,am,bj]
  · rintro i x hi hJ;simp only[hF,List.replicate,am,c8 hi,hc];refine(h i hi).mono ?_;rintro v σ' ⟨rfl,rfl⟩;cases hb:p i with
    | false =>
      simp only[am,aM,ca hi (by omega)];refine nxt (()) hi ?_ ?_ ?_ ?_
      · exact Eq.mpr (aO _ _) (w8 hJ hb)
      all_goals simp[hF,List.replicate,am,bj]
    | true =>
      have e:=abB hi hJ hb;simp only[am,aM];refine az ?_;simp[V.erase,e,cp]
  · rintro x hJ;have e:=abE hJ;simp only[hF,List.replicate,am,aM,c9,aM];refine az ?_;simp[V.erase,e,cp]
theorem aby (l:List (List UInt8)) (s:List UInt8) (i b1 b2:Nat) {σ:ab} (hi:i<l.length) (h1:σ.box b1=some [.sl .no 1 (cU l)]) (h2:σ.box b2=some [.str s]) :
    ak prog 160 [.int .i64 (i:Nat),.ptr (.out b1) 0,.ptr (.out b2) 0] σ fun v σ' => v = .bool (decide (l.getD i []=s))∧σ' = σ:=by
  refine acq.calls ?_;simp only[aI,L1,am,aP,Nat.reduceAdd];simp only[am,h1];refine bx (by omega) (El hi) ?_;simp only[am,h2];refine az ?_;simp[V.erase]
theorem rN (l:List (List UInt8)) (s:List UInt8) (σ:ab) (hl:l.length≤100000):ak prog 112 [.sl .no 1 (cU l),.str s] σ fun v σ' => v = .int .i64 (cp (fJ l s))∧σ' = σ:=by
  refine abY.calls ?_;simp only[aI,Lx,am,aP,Nat.reduceAdd];refine gE fun b1 fK=>?_
  simp only[am];refine gE fun b2 cR=>?_
  have aH:b1≠b2:=by rintro rfl;rw[gU] at cR;simp at cR
  have hs:=ab.wy (fv (cs:=[.sl .no 1 (cU l)]) fK) (fv (cs:=[.str s]) cR);have e1:((σ.set b1 [.sl .no 1 (cU l)]).set b2 [.str s]).box b1=some [.sl .no 1 (cU l)]:=by rw[pX aH,gU]
  generalize qS:(σ.set b1 [V.sl .no 1 (cU l)]).set b2 [V.str s]=cY at hs e1;have e2:cY.box b2=some [.str s]:=by rw[←qS,gU]
  simp only[am,jO,e1];refine(Jb l.length hl _ _ rfl (fun i=>decide (l.getD i []=s)) cY fun i hi=>aby l s i b1 b2 hi e1 e2).mono ?_;rintro v cY ⟨rfl,rfl⟩;simp only[am];exact aF rfl hs ⟨rfl,rfl⟩
theorem aow (l:List (List UInt8)) (i b1:Nat) {σ:ab} (hl:l.length≤100000) (hi:i<l.length) (h1:σ.box b1=some [.sl .no 1 (cU l)]) :
    ak prog 279 [.int .i64 (i:Nat),.ptr (.out b1) 0] σ fun v σ' => v = .bool (fJ (l.take i) (l.getD i [])).isSome∧σ' = σ:=by
  refine adU.calls ?_;simp only[aI,Ns,am,aP,Nat.reduceAdd];simp only[am,bV,h1];refine UZ (b:=i) (by rw[jO];omega) ?_;simp only[am,h1];refine bx (by omega) (El hi) ?_;rw[Us];simp only[am];refine bh.intro (rN (l.take i) (l.getD i []) σ (by rw[gO];omega)) ?_;simp only[am,I0];refine az ?_;simp[V.erase]
theorem aox (l:List (List UInt8)) (σ:ab) (hl:l.length≤100000):ak prog 270 [.sl .no 1 (cU l)] σ fun v σ' => v = .int .i64 (cp (J9 l))∧σ' = σ:=by
  refine adN.calls ?_;simp only[aI,Nk,am,aP];refine gE fun b1 fK=>?_
  simp only[am,jO];refine(Jb l.length hl _ _ rfl (fun i=>(fJ (l.take i) (l.getD i [])).isSome) _ fun i hi=>aow l i b1 hl hi gU).mono ?_;rintro v cY ⟨rfl,rfl⟩;simp only[am];exact aF rfl (fv fK) ⟨rfl,rfl⟩
theorem aiV (l:List (List UInt8)) (σ:ab) (hl:l.length≤100000):ak prog 255 [.sl .no 1 (cU l)] σ fun v σ' => v = .bool (pH l)∧σ' = σ:=by
  refine adD.calls ?_;simp only[aI,M_,am,aP,jO]
  by_cases h1:l.length<1
  · simp only[am,aC (show (l.length:Int)<1 by omega)];refine az ?_;simp[V.erase,pH];omega
  · simp only[am,jO,aA (show ¬(l.length:Int)<1 by omega)]
    by_cases h2:64<l.length
    · simp only[am,aC (show (64:Int)<l.length by omega)];refine az ?_;simp[V.erase,pH];omega
    · simp only[am,aA (show ¬(64:Int)<l.length by omega)];refine cl (aox l σ hl) ?_;simp only[am,I0];cases ht:J9 l with
      | some k =>
        simp only[am,B6];refine az ?_;simp[V.erase,pH,ht]
      | none =>
        simp only[am,jO,wW];obtain⟨F,hF⟩:∃F:Nat→Unit→St,∀i x,F i x=⟨[.any,.any,.any,.any,.any,.any,.any,.any,.any,.any,.any,.any,.any,.any,.any,.any,.any,.any,.sl .no 1 (cU l),.int .i64 (l.length:Nat),.int .i64 (i:Nat)]++List.replicate 7 .any,[],σ⟩:=⟨_,fun _ _=>rfl⟩;obtain⟨JF,aO⟩:∃JF:Nat→Unit→Prop,∀i x,JF i x=(∀k,k<i→dZ (l.getD k [])=true):=⟨_,fun _ _=>rfl⟩;refine db (l.length) F JF _ aO ?_ ?_ ?_
        · refine dA (()) ?_ ?_ ?_ ?_
          · exact Eq.mpr (aO _ _) (by intro k h;omega)
          all_goals simp[hF,List.replicate,am,bj]
        · rintro i x hi hJ;simp only[hF,List.replicate,am,c8 hi];refine bx (by omega) (El hi) ?_;simp only[am];refine cl (pI _ σ) ?_;simp only[am];cases hb:dZ (l.getD i []) with
          | false =>
            have e:pH l=false:=by
              cases hq:pH l with
              | false=>rfl
              | true =>
                simp only[pH,bm,la] at hq;have hm:l.getD i []∈l:=by rw[nF hi];exact eZ hi
                rw[hq.2 _ hm] at hb;simp at hb
            simp only[am,aM];refine az ?_;simp[V.erase,e]
          | true =>
            simp only[am,aM,ca hi (by omega)];refine nxt (()) hi ?_ ?_ ?_ ?_
            · exact Eq.mpr (aO _ _) (w8 hJ hb)
            all_goals simp[hF,List.replicate,am,bj]
        · rintro x hJ;have e:pH l=true:=by
            simp only[pH,ht,bm,la,cq,wV,eC];refine⟨by omega,fun s hs=>?_⟩;obtain⟨k,hk,rfl⟩:=Fo.1 hs
            have:=hJ k hk
            rwa [nF hk] at this
          simp only[hF,List.replicate,am,aM,c9,aM];refine az ?_;simp[V.erase,e]
def Mh:AC:=.seq (.aa [⟨(some 1),.box 2 (.s 0),none⟩,⟨(some 2),.mv (.c (.bool false)),none⟩])
 (.seq (.aa [xf 1 6 1,xo 7 6,xL 8 7,U 3 8])
 (.seq (.seq (.aa [U 9 3,xB .lss 10 9 1,U 11 10,xh 11 (U 12 3),xh 11 (xB .gtr 13 12 8),⟨(some 14),.pick (.s 11) (.c (.bool true)) (.s 13),none⟩,U 15 14,xh 15 (xf 0 16 1),xh 15 (xo 17 16),⟨(some 18),.not (.s 17),(some (15,false))⟩,xh 15 (U 19 18),xg 19 (U 20 3),xg 19 (xB .neq 21 20 1),⟨(some 22),.pick (.s 19) (.s 21) (.c (.bool false)),(some (15,false))⟩,⟨(some 23),.pick (.s 15) (.c (.bool true)) (.s 22),none⟩])
 (.cond (.s 23) (.seq (.aa [⟨(some 2),.mv (.c (.bool false)),none⟩])
 (.ret))
 (.skip)))
 (.seq (.seq (.aa [xf 1 24 1,xo 25 24,xL 26 25,xi 27 0])
 (.block 0 (.loop (.seq (.aa [xb .lss 28 27 26])
 (.seq (.cond (.s 28) (.skip)
 (.exit 0))
 (.seq (.block 1 (.seq (.aa [xA 67 29 25 27,xl 67 30 29,⟨(some 5),.alloc rK,none⟩,xs 67 5 30])
 (.seq (.aa [xl 67 31 5,xc 228 32 [.s 31],⟨(some 33),.not (.s 32),none⟩])
 (.cond (.s 33) (.seq (.aa [⟨(some 2),.mv (.c (.bool false)),none⟩])
 (.ret))
 (.skip)))))
 (.aa [xB .add 34 27 1,U 27 34])))))))
 (.seq (.aa [⟨(some 2),.mv (.c (.bool true)),none⟩])
 (.ret)))))
theorem acI:aJ prog 176 Mh [.tmp 2] 35:=⟨f176,⟨[],[],[]⟩,func176,by kernel_rfl,by kernel_rfl,by kernel_rfl,by kernel_rfl⟩
def MR:AC:=.seq (.aa [⟨(some 1),.box 67 (.s 0),none⟩,⟨(some 2),.mv (.c (.bool false)),none⟩])
 (.seq (.seq (.aa [xf 1 3 1,xo 4 3,xc 255 5 [.s 4],⟨(some 6),.not (.s 5),none⟩])
 (.cond (.s 6) (.seq (.aa [⟨(some 2),.mv (.c (.bool false)),none⟩])
 (.ret))
 (.skip)))
 (.seq (.seq (.aa [xf 0 7 1,xo 8 7])
 (.block 0 (.seq (.seq (.aa [xB .eql 10 8 1,U 9 10])
 (.cond (.s 9) (.skip)
 (.aa [xB .eql 11 8 2,U 9 11])))
 (.cond (.s 9) (.seq (.aa [xf 2 12 1,xl 65 13 12,⟨(some 14),.build mW [],none⟩,xc 256 15 [.s 13,.s 14],U 2 15])
 (.ret))
 (.seq (.aa [xB .eql 17 8 3,U 16 17])
 (.cond (.s 16) (.seq (.aa [xf 2 18 1,xf 0 19 18,xo 20 19,xf 1 21 1,xo 22 21,xL 23 22,xb .eql 24 20 23,U 25 24,xg 25 (xf 2 26 1),xg 25 (xl 65 27 26),xg 25 (xc 257 28 [.s 27]),⟨(some 29),.pick (.s 25) (.s 28) (.c (.bool false)),none⟩,U 2 29])
 (.ret))
 (.seq (.aa [xB .eql 31 8 4,U 30 31])
 (.cond (.s 30) (.seq (.aa [xf 2 32 1,xf 0 33 32,xo 34 33,xf 1 35 1,xo 36 35,xL 37 36,xb .eql 38 34 37,U 39 38,xg 39 (xf 2 40 1),xg 39 (xl 65 41 40),xg 39 (xc 114 42 [.s 41]),⟨(some 43),.pick (.s 39) (.s 42) (.c (.bool false)),none⟩,U 2 43])
 (.ret))
 (.skip)))))))))
 (.seq (.aa [⟨(some 2),.mv (.c (.bool false)),none⟩])
 (.ret))))
theorem adl:aJ prog 228 MR [.tmp 2] 44:=⟨f228,⟨[],[],[]⟩,func228,by kernel_rfl,by kernel_rfl,by kernel_rfl,by kernel_rfl⟩
def ap5:=And.intro @am <| And.intro @aP <| And.intro @Rl.af @aV.af
theorem abd (f:aV) {σ:ab} (hg:TZ σ) (hl:f.names.length≤100000):ak prog 228 [.agg f.enc] σ fun v σ' => v = .bool (mG f)∧σ' = σ:=by
  refine adl.calls ?_;simp only[aI,MR,ap5];refine cl (aiV f.names σ hl) ?_;cases hn:pH f.names with
  | false =>
    simp only[am];refine az ?_;simp[V.erase,mG,hn]
  | true =>
    simp only[am,aV.af]
    by_cases h1:f.kind=1
    · simp only[am,Rl.af,aV.af,aC h1];refine cl (UE f.rel Rl.zero σ) ?_;simp only[am,Ty];refine az ?_;simp[V.erase,mG,hn,h1]
    · simp only[am,aA h1]
      by_cases h2:f.kind=2
      · simp only[am,Rl.af,aV.af,aC h2];refine cl (UE f.rel Rl.zero σ) ?_;simp only[am,Ty];refine az ?_;simp[V.erase,mG,hn,h2]
      · simp only[am,aA h2]
        by_cases h3:f.kind=3
        · simp only[am,aV.af,jO,aC h3]
          by_cases h4:f.rel.n=f.names.length
          · simp only[am,Rl.af,aV.af,aC h4];refine cl (GB f.rel σ) ?_;simp only[am];refine az ?_;simp[V.erase,mG,hn,h3,h4]
          · simp only[am,aA h4];refine az ?_;simp[V.erase,mG,hn,h3,h4]
        · simp only[am,aA h3]
          by_cases h5:f.kind=4
          · simp only[am,aV.af,jO,aC h5]
            by_cases h4:f.rel.n=f.names.length
            · simp only[am,Rl.af,aV.af,aC h4];refine cl (R5 f.rel hg) ?_;simp only[am];refine az ?_;simp[V.erase,mG,hn,h5,h4]
            · simp only[am,aA h4];refine az ?_;simp[V.erase,mG,hn,h5,h4]
          · simp only[am,aA h5];refine az ?_;simp[V.erase,mG,hn,h1,h2,h3,h5]
theorem Gh {l:List aV} {j:Nat} (h:j<l.length):(l.map aV.enc)[((j:Nat):Int).toNat]?=some l[j].enc:=by simp[h]
theorem anx {s:a_} {i:Nat} (hi:i<s.a8.length) (h:mG s.a8[i]=false):kx s=false:=by
  cases hq:kx s with
  | false=>rfl
  | true =>
    simp only[kx,bm,la] at hq;rw[hq.2 _ (eZ hi)] at h;simp at h
theorem anz {s:a_} (h1:1≤s.a8.length) (h2:s.a8.length≤8) (h3:s.tuple=true∨s.a8.length=1) (h:∀k (hk:k<s.a8.length),mG s.a8[k]=true):kx s=true:=by
  simp only[kx,bm,la,cq,jS];refine⟨⟨⟨h1,h2⟩,h3⟩,fun f hf=>?_⟩;obtain⟨k,hk,rfl⟩:=Fo.1 hf;exact h k hk
theorem anC (s:a_) {σ:ab} (hg:TZ σ) (bw:s.ok):ak prog 176 [.agg s.enc] σ fun v σ' => v = .bool (kx s)∧σ' = σ:=by
  refine acI.calls ?_;simp only[aI,Mh,am,aP,a_.af,aD]
  by_cases h1:s.a8.length<1
  · simp only[am,aC (show (s.a8.length:Int)<1 by omega)];refine az ?_;simp[V.erase,kx];omega
  · simp only[am,aA (show ¬(s.a8.length:Int)<1 by omega)]
    by_cases h2:8<s.a8.length
    · simp only[am,aC (show (8:Int)<s.a8.length by omega)];refine az ?_;simp[V.erase,kx];omega
    · simp only[am,a_.af,aA (show ¬(8:Int)<s.a8.length by omega)];have h3:(∃t,s.tuple=t∧(t=true∨s.a8.length=1))∨(s.tuple=false∧s.a8.length≠1):=by
        cases ht:s.tuple with
        | true=>exact .inl ⟨true,rfl,.inl rfl⟩
        | false =>
          by_cases hl:s.a8.length=1
          · exact .inl ⟨false,rfl,.inr hl⟩
          · exact .inr ⟨rfl,hl⟩
      rcases h3 with ⟨t,ht,h3⟩ | ⟨ht,h3⟩
      · cases t
        case' false =>
          have h3:s.a8.length=1:=by simpa using h3
          simp only[am,aD,a_.af,aD,ht,aC (show (s.a8.length:Int)=1 by omega)]
        case' true=>simp only[am,aD,a_.af,aD,ht]
        all_goals
          obtain⟨F,hF⟩:∃F:Nat→Unit→St,∀i x,F i x=⟨[.any,.ptr (.loc 0) 0,.bool false,.any,.any,.any,.any,.any,.any,.any,.any,.any,.any,.any,.any,.any,.any,.any,.any,.any,.any,.any,.any,.any,.any,.sl .no 67 (s.a8.map aV.enc),.int .i64 (s.a8.length:Nat),.int .i64 (i:Nat)]++List.replicate 7 .any,[s.enc],σ⟩:=⟨_,fun _ _=>rfl⟩;obtain⟨JF,aO⟩:∃JF:Nat→Unit→Prop,∀i x,JF i x=(∀k,k<i→∀hk:k<s.a8.length,mG s.a8[k]=true):=⟨_,fun _ _=>rfl⟩;refine db (s.a8.length) F JF _ aO ?_ ?_ ?_
          · refine dA (()) ?_ ?_ ?_ ?_
            · exact Eq.mpr (aO _ _) (by intro k h;omega)
            all_goals simp[hF,List.replicate,am,bj]
          · rintro i x hi hJ;simp only[hF,List.replicate,am,c8 hi];refine bx (by omega) (Gh hi) ?_;simp only[am,aV.af];refine cl (abd s.a8[i] hg (bw.2 _ (eZ hi))) ?_;cases hb:mG s.a8[i] with
            | false =>
              simp only[am,aM];refine az ?_;simp[V.erase,anx hi hb]
            | true =>
              simp only[am,aM,ca hi (by omega)];refine eK (()) hi ?_ ?_ ?_ ?_ ?_ ?_
              · exact Eq.mpr (aO _ _) (w8 hJ (fun _=>hb))
              all_goals simp[hF,List.replicate,am,bj,bn,cK,V.lo,a_.bO]
          · rintro x hJ;have e:=anz (s:=s) (by omega) (by omega) (by first | exact .inr h3 | exact .inl ht) fun k hk=>hJ k hk hk
            simp only[hF,List.replicate,am,aM,c9,aM];refine az ?_;simp[V.erase,e]
      · have e:kx s=false:=by simp[kx,ht,h3]
        simp only[am,ht,aA (show ¬(s.a8.length:Int)=1 by omega)];refine az ?_;simp[V.erase,e]
theorem Uf {s:List UInt8} {a n:Nat} (h:((s.drop a).take n).all iC=true) (hn:a+n≤s.length) (he:∀hl:a+n<s.length,iC s[a+n]=false):(dC (s.drop a)).length=n:=by
  have key:∀(r:List UInt8) (n:Nat),(r.take n).all iC=true→n≤r.length→(∀hl:n<r.length,iC r[n]=false)→(dC r).length=n:=by
    intro r;induction r with
    | nil=>intro n _ h2 _;simp at h2;subst h2;rfl
    | cons c r ih =>
      intro n h1 h2 h3;cases n with
      | zero=>have:=h3 (by simp);simp at this;simp[dC,this]
      | succ n =>
        simp only[nn,uO,bm] at h1
        have:=ih n h1.2 (by simpa using h2) (fun hl=>h3 (Nat.succ_lt_succ hl))
        simp only[dC] at this;simp[dC,h1.1,this]
  refine key _ _ h (by simp;omega) fun hl=>?_
  have fc : a+n<s.length:=by simp at hl;omega
  have:=he fc
  simpa using this
theorem Tok.wd {t:Tok}:t.enc.length=3:=rfl
theorem drop_cons {s:List UInt8} {a:Nat} (h:a<s.length):s.drop a=s[a]::s.drop (a+1):=jU h
theorem aoe {l:List Tok} {j:Nat} (h:j<l.length):(l.map Tok.enc)[((j:Nat):Int).toNat]?=some (gV l j).enc:=by simp[gV,h]
def NC:AC:=.seq (.aa [⟨(some 1),.box 5 (.s 0),none⟩,⟨(some 2),.mv (.c (.str [])),none⟩])
 (.seq (.seq (.aa [xf 0 3 1,xo 4 3])
 (.block 0 (.seq (.seq (.aa [xB .eql 6 4 1,U 5 6])
 (.cond (.s 5) (.skip)
 (.aa [xB .eql 7 4 2,U 5 7])))
 (.cond (.s 5) (.seq (.aa [xf 2 8 1,xo 9 8,U 2 9])
 (.ret))
 (.seq (.aa [xB .eql 11 4 3,U 10 11])
 (.cond (.s 10) (.seq (.aa [xl 5 12 1,xc 89 13 [.s 12],⟨(some 14),.cat (.c (.str [123])) (.s 13),none⟩,⟨(some 15),.cat (.s 14) (.c (.str [125])),none⟩,U 2 15])
 (.ret))
 (.seq (.aa [xB .eql 17 4 4,U 16 17])
 (.cond (.s 16) (.seq (.aa [xl 5 18 1,xc 90 19 [.s 18],⟨(some 20),.cat (.c (.str [40])) (.s 19),none⟩,⟨(some 21),.cat (.s 20) (.c (.str [41])),none⟩,U 2 21])
 (.ret))
 (.seq (.aa [xB .eql 23 4 5,U 22 23])
 (.cond (.s 22) (.seq (.aa [xl 5 24 1,xc 90 25 [.s 24],⟨(some 26),.cat (.c (.str [91])) (.s 25),none⟩,⟨(some 27),.cat (.s 26) (.c (.str [93])),none⟩,U 2 27])
 (.ret))
 (.seq (.aa [xB .eql 29 4 6,U 28 29])
 (.cond (.s 28) (.seq (.draw [(xf 2 30 1,[]),(xo 31 30,[1]),(⟨(some 32),.cat (.s 31) (.c (.str [58,123])),none⟩,[]),(xl 5 33 1,[]),(xc 89 34 [.s 33],[]),(⟨(some 35),.cat (.s 32) (.s 34),none⟩,[]),(⟨(some 36),.cat (.s 35) (.c (.str [125])),none⟩,[]),(U 2 36,[])])
 (.ret))
 (.seq (.aa [xB .eql 38 4 7,U 37 38])
 (.cond (.s 37) (.seq (.aa [xl 5 39 1,xc 91 40 [.s 39],⟨(some 41),.cat (.c (.str [35])) (.s 40),none⟩,U 2 41])
 (.ret))
 (.seq (.aa [xB .eql 43 4 8,U 42 43])
 (.cond (.s 42) (.seq (.aa [xl 5 44 1,xc 90 45 [.s 44],⟨(some 46),.cat (.c (.str [43,40])) (.s 45),none⟩,⟨(some 47),.cat (.s 46) (.c (.str [41])),none⟩,U 2 47])
 (.ret))
 (.seq (.aa [xB .eql 49 4 9,U 48 49])
 (.cond (.s 48) (.seq (.aa [xl 5 50 1,xc 90 51 [.s 50],⟨(some 52),.cat (.c (.str [38,40])) (.s 51),none⟩,⟨(some 53),.cat (.s 52) (.c (.str [41])),none⟩,U 2 53])
 (.ret))
 (.seq (.aa [xB .eql 55 4 10,U 54 55])
 (.cond (.s 54) (.seq (.aa [xl 5 56 1,xc 92 57 [.s 56],U 2 57])
 (.ret))
 (.seq (.aa [xB .eql 59 4 11,U 58 59])
 (.cond (.s 58) (.seq (.draw [(xf 2 60 1,[]),(xo 61 60,[1]),(⟨(some 62),.cat (.s 61) (.c (.str [61])),none⟩,[]),(xl 5 63 1,[]),(xc 91 64 [.s 63],[]),(⟨(some 65),.cat (.s 62) (.s 64),none⟩,[]),(U 2 65,[])])
 (.ret))
 (.skip)))))))))))))))))))))))
 (.seq (.aa [⟨(some 2),.mv (.c (.str [])),none⟩])
 (.ret)))
theorem ad4:aJ prog 40 NC [.tmp 2] 66:=⟨f40,⟨[],[],[]⟩,func40,by kernel_rfl,by kernel_rfl,by kernel_rfl,by kernel_rfl⟩
def N8:AC:=.seq (.aa [⟨(some 1),.eD 5 (.s 0),none⟩,⟨(some 2),.mv (.c (.str [])),none⟩])
 (.seq (.aa [xf 3 3 1,xo 4 3,xL 5 4,⟨(some 6),.gG (.func 151) [] [(.s 1)],none⟩,xc 150 7 [.s 5,.s 6],U 2 7])
 (.ret))
theorem aes:aJ prog 89 N8 [.tmp 2] 8:=⟨f89,⟨[1],[],[]⟩,func89,by kernel_rfl,by kernel_rfl,by kernel_rfl,by kernel_rfl⟩
def N_:AC:=.seq (.aa [⟨(some 1),.eD 5 (.s 0),none⟩,⟨(some 2),.mv (.c (.str [])),none⟩])
 (.seq (.aa [xf 4 3 1,xo 4 3,xL 5 4,⟨(some 6),.gG (.func 152) [] [(.s 1)],none⟩,xc 150 7 [.s 5,.s 6],U 2 7])
 (.ret))
theorem aet:aJ prog 90 N_ [.tmp 2] 8:=⟨f90,⟨[1],[],[]⟩,func90,by kernel_rfl,by kernel_rfl,by kernel_rfl,by kernel_rfl⟩
def Oa:AC:=.seq (.aa [⟨(some 1),.box 5 (.s 0),none⟩,⟨(some 2),.mv (.c (.str [])),none⟩])
 (.seq (.seq (.aa [xf 4 3 1,xo 4 3,xL 5 4,xB .eql 6 5 0])
 (.cond (.s 6) (.seq (.aa [⟨(some 2),.mv (.c (.str [])),none⟩])
 (.ret))
 (.skip)))
 (.seq (.aa [xf 4 7 1,xo 8 7,⟨(some 9),.jH 5 (.s 8) (.c (.int .i64 0)),none⟩,xl 5 10 9,xc 40 11 [.s 10],U 2 11])
 (.ret)))
theorem aeu:aJ prog 91 Oa [.tmp 2] 12:=⟨f91,⟨[],[],[]⟩,func91,by kernel_rfl,by kernel_rfl,by kernel_rfl,by kernel_rfl⟩
def Ob:AC:=.seq (.aa [⟨(some 1),.box 5 (.s 0),none⟩,⟨(some 2),.mv (.c (.str [])),none⟩])
 (.seq (.aa [xl 5 4 1,xc 90 5 [.s 4],⟨(some 6),.cat (.c (.str [91])) (.s 5),none⟩,U 3 6])
 (.seq (.seq (.aa [xf 3 7 1,xo 8 7,xL 9 8,xB .gtr 10 9 0])
 (.cond (.s 10) (.aa [U 11 3,xl 5 12 1,xc 89 13 [.s 12],⟨(some 14),.cat (.c (.str [124])) (.s 13),none⟩,⟨(some 15),.cat (.s 11) (.s 14),none⟩,U 3 15])
 (.skip)))
 (.seq (.aa [U 16 3,⟨(some 17),.cat (.s 16) (.c (.str [93])),none⟩,U 2 17])
 (.ret))))
theorem aev:aJ prog 92 Ob [.tmp 2] 18:=⟨f92,⟨[],[],[]⟩,func92,by kernel_rfl,by kernel_rfl,by kernel_rfl,by kernel_rfl⟩
def LP:AC:=.seq (.aa [⟨(some 4),.mv (.c (.str [])),none⟩])
 (.seq (.aa [⟨(some 5),.mv (.c (.sl .full 1 [])),none⟩])
 (.seq (.seq (.aa [U 7 0,xi 8 0])
 (.block 0 (.loop (.seq (.aa [xb .lss 9 8 7])
 (.seq (.cond (.s 9) (.skip)
 (.exit 0))
 (.seq (.block 1 (.seq (.aa [U 10 8,U 6 10])
 (.seq (.seq (.aa [U 11 6,xB .gtr 12 11 0])
 (.cond (.s 12) (.aa [U 13 5,⟨(some 14),.cB 1 [(.c (.int .u8 44))],none⟩,xa 1 15 13 14,U 5 15])
 (.skip)))
 (.aa [U 16 5,U 17 1,U 18 6,⟨(some 19),.fR (.s 17) [(.s 18)],none⟩,⟨(some 20),.jr (.s 16) (.s 19),none⟩,U 5 20]))))
 (.aa [xB .add 21 8 1,U 8 21])))))))
 (.seq (.aa [U 22 5,⟨(some 23),.qy (.s 22),none⟩,U 4 23])
 (.ret))))
theorem ace:aJ prog 150 LP [.tmp 4] 24:=⟨f150,⟨[],[],[]⟩,func150,by kernel_rfl,by kernel_rfl,by kernel_rfl,by kernel_rfl⟩
def LQ:AC:=.seq (.aa [⟨(some 3),.mv (.c (.str [])),none⟩])
 (.seq (.aa [xf 3 4 1,xo 5 4,U 6 0,xA 2 7 5 6,xf 0 8 7,xo 9 8,U 3 9])
 (.ret))
theorem acf:aJ prog 151 LQ [.tmp 3] 10:=⟨f151,⟨[],[],[]⟩,func151,by kernel_rfl,by kernel_rfl,by kernel_rfl,by kernel_rfl⟩
def LR:AC:=.seq (.aa [⟨(some 3),.mv (.c (.str [])),none⟩])
 (.seq (.aa [xf 4 4 1,xo 5 4,U 6 0,xA 5 7 5 6,xl 5 8 7,xc 40 9 [.s 8],U 3 9])
 (.ret))
theorem acg:aJ prog 152 LR [.tmp 3] 10:=⟨f152,⟨[],[],[]⟩,func152,by kernel_rfl,by kernel_rfl,by kernel_rfl,by kernel_rfl⟩
def H8 (n:Nat) (g:FuncId) (cap:List V) (f:Nat→List UInt8) (σ:ab) (i τ:Nat):St :=
  ⟨[.int .i64 (n:Nat),.fn (.func g) [] cap,.any,.any,.any,.sl (.tk τ) 1 (b6 (cn ((List.range i).map f))),.any,.int .i64 (n:Nat),.int .i64 (i:Nat)]++List.replicate 15 .any,[],σ.aK τ (cn ((List.range i).map f)).length⟩
theorem TV (f:Nat→List UInt8) (i:Nat):cn ((List.range (i+1)).map f)=cn ((List.range i).map f)++(if 0<i then [44] else [])++f i:=by
  rw[qj,fw,BZ,RU];simp
theorem al9 (f:Nat→List UInt8) {i n:Nat} (h:i≤n):(cn ((List.range i).map f)).length≤(cn ((List.range n).map f)).length:=by
  induction n with
  | zero =>
      have:i=0:=by omega
      rw[this];exact bt _
  | succ n ih =>
    by_cases hi:i=n+1
    · rw[hi];exact bt _
    · have:=ih (by omega)
      rw[TV];simp only[bz];omega
theorem Pf {n:Nat} {g:FuncId} {cap:List V} {f:Nat→List UInt8} {σ:ab} (lV:bd cap=true) (hn:n≤aE) (hb:(cn ((List.range n).map f)).length≤aE)
    (h:∀i,i<n→∀cY:ab,cY.box=σ.box→ak prog g (.int .i64 (i:Nat)::cap) cY fun v σ' => v = .str (f i)∧σ' = cY) :
    ak prog 150 [.int .i64 (n:Nat),.fn (.func g) [] cap] σ fun v σ' => v = .str (cn ((List.range n).map f))∧σ' = σ:=by
  refine ace.calls ?_;simp only[aI,LP,am,aP,Nat.reduceAdd];refine jj (fun p:{p:Nat × Nat // σ.aB p.2=none∧p.1≤n}=>H8 n g cap f σ p.1.1 p.1.2) (fun p=>n - p.1.1) ?_ ?_
  · refine aZ.wC 0 fun τ ba=>⟨⟨(0,τ),ba,by simp⟩,?_,rfl,rfl⟩
    simp[H8,List.replicate,mQ,cn,b6]
  · rintro⟨⟨i,τ⟩,ba,hi⟩;simp only at ba hi;simp only[H8,List.replicate,am];refine fk ?_ ?_
    · intro ag;have ag:i<n:=by simpa using ag
      have hs:=TV f i;have hm:=al9 f (i:=i+1) (n:=n) (by omega);simp only[aE] at hn hb;rw[hs] at hm;simp only[bz] at hm;have wi:IntKind.i64.wrap ((i:Int)+1)=(i:Int)+1:=wrap_i64 (by omega) (by omega);simp only[am]
      by_cases h0:0<i
      case' pos =>
        rw[aw h0] at hs hm;simp only[am,aC (show (0:Int)<i by omega)];refine jt (by simp[ln,aE];simp at hm;omega) (by rw[ln,kv]) ?_;simp only[am,ji];rw[show b6 (cn ((List.range i).map f))++[[.int .u8 44]]=b6 (cn ((List.range i).map f)++[44]) by simp[b6],show (b6 (cn ((List.range i).map f))).length+1=(cn ((List.range i).map f)++[44]).length by simp[b6]]
      case' neg =>
        rw[ah h0,dD] at hs;rw[ah h0] at hm;simp only[am,aA (show ¬(0:Int)<i by omega)]
      all_goals
        refine⟨lV,?_⟩;refine(h i ag (σ.aK τ _) rfl).mono ?_;rintro v σ' ⟨rfl,rfl⟩;simp only[am,bV];refine⟨_,rfl,?_⟩;refine jt (by simp[ln,aE];simp at hm;omega) (by rw[ln,kv]) ?_;simp only[am,ji,wi];rw[←Gc,ln,ln,←bz,←hs];exact aZ.again ⟨(i+1,τ),ba,ag⟩ (by simp;omega) (by simp[am]) bY.rfl bC.rfl
    · intro ag;have ag:i=n:=by simp at ag;omega
      subst ag;simp only[am,bV];refine⟨_,_,rfl,?_⟩;refine aF rfl (pY ba) ⟨?_,rfl⟩;simp[V.erase]
theorem aiW {n:Nd} {i q:Nat} {σ:ab} (hi:i<n.names.length) (hq:σ.box q=some n.enc):ak prog 151 [.int .i64 (i:Nat),.ptr (.out q) 0] σ fun v σ' => v = .str (n.names[i].text)∧σ' = σ:=by
  refine acf.calls ?_;simp only[aI,LQ,am,aP,Nat.reduceAdd];simp only[am,hq,Nd.fl];refine bx (by omega) (yZ (show n.names[i]?=some n.names[i] by simp[hi])) ?_;simp only[am,Word.enc];refine az ?_;simp[V.erase]
theorem aha {n:Nd} {i q:Nat} {σ:ab} (hi:i<n.kids.length) (hq:σ.box q=some n.enc) (ih:∀m∈n.kids,∀σ,ak prog 40 [.agg m.enc] σ fun v σ' => v = .str m.cM∧σ' = σ) :
    ak prog 152 [.int .i64 (i:Nat),.ptr (.out q) 0] σ fun v σ' => v = .str (n.kids[i].cM)∧σ' = σ:=by
  refine acg.calls ?_;simp only[aI,LR,am,aP,Nat.reduceAdd];simp only[am,hq,Nd.fl];refine bx (by omega) (l_ (show n.kids[i]?=some n.kids[i] by simp[hi])) ?_;simp only[am,Nd.af];refine cl (ih n.kids[i] (eZ hi) σ) ?_;simp only[am];refine az ?_;simp[V.erase]
theorem TU {α:Type} (l:List α) (f:α→List UInt8) (d:List UInt8):(List.range l.length).map (fun i=>if h:i<l.length then f l[i] else d)=l.map f:=by
  apply KQ;intro i
  by_cases h:i<l.length<;>simp[h]
theorem II {n:Nd} {σ:ab} (hw:n.wt≤aE):ak prog 89 [.agg n.enc] σ fun v σ' => v = .str (jR n.names)∧σ' = σ:=by
  have h1:=BH n.names;have h2:n.names.length≤di n.names:=by
    unfold di;generalize n.names=l;induction l with
    | nil=>simp
    | cons w ws ih=>simp only[bL,oe,cF];omega
  have h3:di n.names≤n.wt:=by cases n;simp only[Nd.wt,Nd.names];omega
  have e:cn ((List.range n.names.length).map (fun i=>if h:i<n.names.length then n.names[i].text else []))=jR n.names:=by
    rw[TU n.names (fun w=>w.text) []];rfl
  refine aes.calls ?_;simp only[aI,N8,am,aP,Nd.af];refine gE fun q hq=>?_
  simp only[am,aD,Nd.fl];refine(Pf (f:=fun i=>if h:i<n.names.length then n.names[i].text else []) rfl (by omega) (by rw[e];omega) (fun i hi cY h1=>?_)).mono ?_
  · rw[zE hi];exact aiW hi (by rw[h1];exact ab.cH _ _ _)
  rintro v σ' ⟨rfl,rfl⟩;simp only[am];refine aF rfl (fv hq) ⟨?_,rfl⟩;rw[e];simp[V.erase]
theorem AP {n:Nd} {σ:ab} (hw:n.wt≤aE) (ih:∀m∈n.kids,∀σ,ak prog 40 [.agg m.enc] σ fun v σ' => v = .str m.cM∧σ' = σ):ak prog 90 [.agg n.enc] σ fun v σ' => v = .str (cn (da n.kids))∧σ' = σ:=by
  have h1:=DE n.kids (wD n.kids);have h2:n.kids.length≤eg n.kids:=by
    rw[BI];generalize n.kids=l;induction l with
    | nil=>simp
    | cons w ws ih=>simp only[bL,oe,cF];omega
  have h3:eg n.kids≤n.wt:=by cases n;simp only[Nd.wt,Nd.kids];omega
  have e:cn ((List.range n.kids.length).map (fun i=>if h:i<n.kids.length then n.kids[i].cM else []))=cn (da n.kids):=by
    rw[TU n.kids (fun w=>w.cM) [],Bt]
  refine aet.calls ?_;simp only[aI,N_,am,aP,Nd.af];refine gE fun q hq=>?_
  simp only[am,aD,Nd.fl];refine(Pf (f:=fun i=>if h:i<n.kids.length then n.kids[i].cM else []) rfl (by omega) (by rw[e];omega) (fun i hi cY h1=>?_)).mono ?_
  · rw[zE hi];exact aha hi (by rw[h1];exact ab.cH _ _ _) ih
  rintro v σ' ⟨rfl,rfl⟩;simp only[am];refine aF rfl (fv hq) ⟨?_,rfl⟩;rw[e];simp[V.erase]
theorem P5 {n:Nd} {σ:ab} (ih:∀m∈n.kids,∀σ,ak prog 40 [.agg m.enc] σ fun v σ' => v = .str m.cM∧σ' = σ):ak prog 91 [.agg n.enc] σ fun v σ' => v = .str (mI (da n.kids))∧σ' = σ:=by
  refine aeu.calls ?_;simp only[aI,Oa,am,aP,Nd.af];simp only[am,aD,Nd.fl];cases hk:n.kids with
  | nil =>
    simp only[am,bQ,cX,dk,sO];refine az ?_;simp[V.erase,mI,da]
  | cons m ms =>
    simp only[am,aA (show ¬(((m::ms).length:Nat):Int)=0 by simp;omega),Nd.fl,hk];refine bx (by omega) (c:=m.enc) (by simp) ?_;simp only[am,Nd.af];refine cl (ih m (by rw[hk];simp) σ) ?_;simp only[am];refine az ?_;simp[V.erase,mI,da]
theorem amI {n:Nd} {σ:ab} (hw:n.wt≤aE) (ih:∀m∈n.kids,∀σ,ak prog 40 [.agg m.enc] σ fun v σ' => v = .str m.cM∧σ' = σ) :
    ak prog 92 [.agg n.enc] σ fun v σ' => v = .str (([91]++cn (da n.kids))++(if 0<n.names.length then [124]++jR n.names else [])++[93])∧σ' = σ:=by
  have h1:=DE n.kids (wD n.kids);have h2:=BH n.names;have h3:eg n.kids+di n.names+4≤n.wt:=by cases n;simp only[Nd.wt,Nd.kids,Nd.names];omega
  refine aev.calls ?_;simp only[aI,Ob,am,aP,Nd.af];refine cl (AP hw ih) ?_;simp only[am];refine⟨by simp;omega,?_⟩;simp only[am,aD,Nd.fl]
  by_cases h0:0<n.names.length
  · simp only[am,Nd.af,aC (show (0:Int)<n.names.length by omega)];refine cl (II hw) ?_;simp only[am];refine⟨by simp;omega,by simp;omega,by simp;omega,?_⟩;refine az ?_;simp[V.erase,h0]
  · simp only[am,aA (show ¬(0:Int)<n.names.length by omega)];refine⟨by simp;omega,?_⟩;refine az ?_;simp[V.erase,h0]
theorem aog:∀(k:Nat) (n:Nd) (σ:ab),n.wt≤k→n.wt≤aE→ak prog 40 [.agg n.enc] σ fun v σ' => v = .str n.cM∧σ' = σ:=by
  intro k;induction k with
  | zero=>intro n σ h _;cases n;simp only[Nd.wt] at h;omega
  | succ k vN =>
    intro n σ hk hw;have ih:∀m∈n.kids,∀σ,ak prog 40 [.agg m.enc] σ fun v σ' => v = .str m.cM∧σ' = σ:=fun m hm σ=>by
      have h1:=Ku hm;have h2:eg n.kids+4≤n.wt:=by cases n;simp only[Nd.wt,Nd.kids];omega
      exact vN m σ (by omega) (by omega)
    have h1:=DE n.kids (wD n.kids);have h2:=BH n.names;have h3:n.text.length+eg n.kids+di n.names+4≤n.wt:=by cases n;simp only[Nd.wt,Nd.kids,Nd.names,Nd.text];omega
    have h4:=Q1 n.kids (wD n.kids);have e:n.cM=if n.kind=1∨n.kind=2 then n.text else if n.kind=3 then [123]++jR n.names++[125] else if n.kind=4 then [40]++cn (da n.kids)++[41] else if n.kind=5 then [91]++cn (da n.kids)++[93]
        else if n.kind=6 then n.text++[58,123]++jR n.names++[125] else if n.kind=7 then [35]++mI (da n.kids) else if n.kind=8 then [43,40]++cn (da n.kids)++[41] else if n.kind=9 then [38,40]++cn (da n.kids)++[41]
        else if n.kind=10 then ([91]++cn (da n.kids))++(if 0<n.names.length then [124]++jR n.names else [])++[93] else if n.kind=11 then n.text++[61]++mI (da n.kids) else []:=by cases n;rw[Nd.cM];rfl
    rw[e];refine ad4.calls ?_;simp only[aI,NC,am,aP,Nd.af];simp only[am,Nd.fl]
    by_cases k1:n.kind=1
    · simp only[am,aC k1,Nd.fl];refine az ?_;simp[V.erase,k1]
    simp only[am,aA k1]
    by_cases k2:n.kind=2
    · simp only[am,aC k2,Nd.fl];refine az ?_;simp[V.erase,k2]
    simp only[am,aA k2]
    by_cases k3:n.kind=3
    · simp only[am,Nd.af,aC k3];refine cl (II hw) ?_;simp only[am];refine⟨by simp;omega,by simp;omega,?_⟩;refine az ?_;simp[V.erase,k3]
    simp only[am,aA k3]
    by_cases k4:n.kind=4
    · simp only[am,Nd.af,aC k4];refine cl (AP hw ih) ?_;simp only[am];refine⟨by simp;omega,by simp;omega,?_⟩;refine az ?_;simp[V.erase,k4]
    simp only[am,aA k4]
    by_cases k5:n.kind=5
    · simp only[am,Nd.af,aC k5];refine cl (AP hw ih) ?_;simp only[am];refine⟨by simp;omega,by simp;omega,?_⟩;refine az ?_;simp[V.erase,k5]
    simp only[am,aA k5]
    by_cases k6:n.kind=6
    · simp only[am,Nd.af,aC k6,Nd.fl];refine⟨by simp;omega,?_⟩;refine bh.intro (II hw) ?_;simp only[am,Nd.fl];refine⟨by simp;omega,by simp;omega,?_⟩;refine az ?_;simp[V.erase,k6]
    simp only[am,aA k6]
    by_cases k7:n.kind=7
    · simp only[am,Nd.af,aC k7];refine cl (P5 ih) ?_;simp only[am];refine⟨by simp;omega,?_⟩;refine az ?_;simp[V.erase,k7]
    simp only[am,aA k7]
    by_cases k8:n.kind=8
    · simp only[am,Nd.af,aC k8];refine cl (AP hw ih) ?_;simp only[am];refine⟨by simp;omega,by simp;omega,?_⟩;refine az ?_;simp[V.erase,k8]
    simp only[am,aA k8]
    by_cases k9:n.kind=9
    · simp only[am,Nd.af,aC k9];refine cl (AP hw ih) ?_;simp only[am];refine⟨by simp;omega,by simp;omega,?_⟩;refine az ?_;simp[V.erase,k9]
    simp only[am,aA k9]
    by_cases vR:n.kind=10
    · simp only[am,Nd.af,aC vR];refine cl (amI hw ih) ?_;simp only[am];refine az ?_;simp[V.erase,vR]
    simp only[am,aA vR]
    by_cases DA:n.kind=11
    · simp only[am,Nd.af,aC DA,Nd.fl];refine⟨by simp;omega,?_⟩;refine bh.intro (P5 ih) ?_;simp only[am,Nd.fl];refine⟨by simp;omega,?_⟩;refine az ?_;simp[V.erase,DA]
    simp only[am,aA DA];refine az ?_;simp[V.erase,k1,k2,k3,k4,k5,k6,k7,k8,k9,vR,DA]
def LK:AC:=.seq (.aa [⟨(some 1),.box 5 (.s 0),none⟩,⟨(some 2),.mv (.c (.bool false)),none⟩])
 (.seq (.seq (.aa [xf 0 3 1,xo 4 3])
 (.block 0 (.seq (.aa [xB .eql 6 4 1,U 5 6])
 (.cond (.s 5) (.seq (.aa [xl 5 7 1,xc 170 8 [.s 7],U 2 8])
 (.ret))
 (.seq (.aa [xB .eql 10 4 7,U 9 10])
 (.cond (.s 9) (.seq (.aa [xl 5 11 1,xc 171 12 [.s 11],U 13 12,xg 13 (xf 4 14 1),xg 13 (xo 15 14),xg 13 (xL 16 15),xg 13 (xB .eql 17 16 1),⟨(some 18),.pick (.s 13) (.s 17) (.c (.bool false)),none⟩,U 19 18,xg 19 (xf 4 20 1),xg 19 (xo 21 20),⟨(some 22),.jH 5 (.s 21) (.c (.int .i64 0)),(some (19,true))⟩,xg 19 (xl 5 23 22),xg 19 (xc 172 24 [.s 23]),⟨(some 25),.pick (.s 19) (.s 24) (.c (.bool false)),none⟩,U 2 25])
 (.ret))
 (.seq (.seq (.aa [xB .eql 27 4 8,U 26 27])
 (.cond (.s 26) (.skip)
 (.aa [xB .eql 28 4 9,U 26 28])))
 (.cond (.s 26) (.seq (.aa [xl 5 29 1,xc 171 30 [.s 29],U 31 30,xg 31 (xf 4 32 1),xg 31 (xo 33 32),xg 31 (xL 34 33),xg 31 (xB .gtr 35 34 0),⟨(some 36),.pick (.s 31) (.s 35) (.c (.bool false)),none⟩,U 37 36,xg 37 (xf 4 38 1),xg 37 (xo 39 38),xg 37 (xc 173 40 [.s 39,.c (.fn (.func 123) [] [])]),⟨(some 41),.pick (.s 37) (.s 40) (.c (.bool false)),none⟩,U 2 41])
 (.ret))
 (.skip)))))))))
 (.seq (.aa [⟨(some 2),.mv (.c (.bool false)),none⟩])
 (.ret)))
theorem ab_:aJ prog 123 LK [.tmp 2] 42:=⟨f123,⟨[],[],[]⟩,func123,by kernel_rfl,by kernel_rfl,by kernel_rfl,by kernel_rfl⟩
def L_:AC:=.seq (.aa [⟨(some 1),.box 5 (.s 0),none⟩,⟨(some 2),.mv (.c (.bool false)),none⟩])
 (.seq (.seq (.aa [xf 0 3 1,xo 4 3,xB .eql 5 4 10])
 (.cond (.s 5) (.seq (.aa [xf 2 6 1,xo 7 6,⟨(some 8),.gP .eql (.s 7) (.c (.str [])),none⟩,U 9 8,xg 9 (xf 3 10 1),xg 9 (xo 11 10),xg 9 (xL 12 11),xg 9 (xB .leq 13 12 1),⟨(some 14),.pick (.s 9) (.s 13) (.c (.bool false)),none⟩,U 15 14,xg 15 (xf 3 16 1),xg 15 (xo 17 16),xg 15 (xc 225 18 [.s 17]),⟨(some 19),.pick (.s 15) (.s 18) (.c (.bool false)),none⟩,U 20 19,xg 20 (xf 4 21 1),xg 20 (xo 22 21),xg 20 (xc 173 23 [.s 22,.c (.fn (.func 226) [] [])]),⟨(some 24),.pick (.s 20) (.s 23) (.c (.bool false)),none⟩,U 2 24])
 (.ret))
 (.skip)))
 (.seq (.aa [xf 0 25 1,xo 26 25,xB .eql 27 26 1,U 28 27,xg 28 (xl 5 29 1),xg 28 (xc 123 30 [.s 29]),⟨(some 31),.pick (.s 28) (.s 30) (.c (.bool false)),none⟩,U 2 31])
 (.ret)))
theorem acA:aJ prog 169 L_ [.tmp 2] 32:=⟨f169,⟨[],[],[]⟩,func169,by kernel_rfl,by kernel_rfl,by kernel_rfl,by kernel_rfl⟩
def Mb:AC:=.seq (.aa [⟨(some 1),.box 5 (.s 0),none⟩,⟨(some 2),.mv (.c (.bool false)),none⟩])
 (.seq (.aa [xf 2 3 1,xo 4 3,xc 99 5 [.s 4],U 6 5,xg 6 (xf 3 7 1),xg 6 (xo 8 7),xg 6 (xL 9 8),xg 6 (xf 4 10 1),xg 6 (xo 11 10),xg 6 (xL 12 11),xg 6 (xb .add 13 9 12),xg 6 (xB .eql 14 13 0),⟨(some 15),.pick (.s 6) (.s 14) (.c (.bool false)),none⟩,U 2 15])
 (.ret))
theorem acC:aJ prog 170 Mb [.tmp 2] 16:=⟨f170,⟨[],[],[]⟩,func170,by kernel_rfl,by kernel_rfl,by kernel_rfl,by kernel_rfl⟩
def Mc:AC:=.seq (.aa [⟨(some 1),.box 5 (.s 0),none⟩,⟨(some 2),.mv (.c (.bool false)),none⟩])
 (.seq (.aa [xf 2 3 1,xo 4 3,⟨(some 5),.gP .eql (.s 4) (.c (.str [])),none⟩,U 6 5,xg 6 (xf 3 7 1),xg 6 (xo 8 7),xg 6 (xL 9 8),xg 6 (xB .eql 10 9 0),⟨(some 11),.pick (.s 6) (.s 10) (.c (.bool false)),none⟩,U 2 11])
 (.ret))
theorem acD:aJ prog 171 Mc [.tmp 2] 12:=⟨f171,⟨[],[],[]⟩,func171,by kernel_rfl,by kernel_rfl,by kernel_rfl,by kernel_rfl⟩
def Md:AC:=.seq (.aa [⟨(some 1),.box 5 (.s 0),none⟩,⟨(some 2),.mv (.c (.bool false)),none⟩])
 (.seq (.seq (.aa [xf 0 3 1,xo 4 3])
 (.block 0 (.seq (.aa [xB .eql 6 4 2,U 5 6])
 (.cond (.s 5) (.seq (.aa [xl 5 7 1,xc 170 8 [.s 7],U 2 8])
 (.ret))
 (.seq (.aa [xB .eql 10 4 3,U 9 10])
 (.cond (.s 9) (.seq (.aa [xf 2 11 1,xo 12 11,⟨(some 13),.gP .eql (.s 12) (.c (.str [])),none⟩,U 14 13,xg 14 (xf 3 15 1),xg 14 (xo 16 15),xg 14 (xc 225 17 [.s 16]),⟨(some 18),.pick (.s 14) (.s 17) (.c (.bool false)),none⟩,U 19 18,xg 19 (xf 4 20 1),xg 19 (xo 21 20),xg 19 (xL 22 21),xg 19 (xB .eql 23 22 0),⟨(some 24),.pick (.s 19) (.s 23) (.c (.bool false)),none⟩,U 2 24])
 (.ret))
 (.seq (.aa [xB .eql 26 4 4,U 25 26])
 (.cond (.s 25) (.seq (.aa [xl 5 27 1,xc 171 28 [.s 27],U 29 28,xg 29 (xf 4 30 1),xg 29 (xo 31 30),xg 29 (xL 32 31),xg 29 (xB .gtr 33 32 0),⟨(some 34),.pick (.s 29) (.s 33) (.c (.bool false)),none⟩,U 35 34,xg 35 (xf 4 36 1),xg 35 (xo 37 36),xg 35 (xc 173 38 [.s 37,.c (.fn (.func 172) [] [])]),⟨(some 39),.pick (.s 35) (.s 38) (.c (.bool false)),none⟩,U 2 39])
 (.ret))
 (.seq (.aa [xB .eql 41 4 5,U 40 41])
 (.cond (.s 40) (.seq (.aa [xl 5 42 1,xc 171 43 [.s 42],U 44 43,xg 44 (xf 4 45 1),xg 44 (xo 46 45),xg 44 (xc 173 47 [.s 46,.c (.fn (.func 227) [] [])]),⟨(some 48),.pick (.s 44) (.s 47) (.c (.bool false)),none⟩,U 2 48])
 (.ret))
 (.skip)))))))))))
 (.seq (.aa [⟨(some 2),.mv (.c (.bool false)),none⟩])
 (.ret)))
theorem acE:aJ prog 172 Md [.tmp 2] 49:=⟨f172,⟨[],[],[]⟩,func172,by kernel_rfl,by kernel_rfl,by kernel_rfl,by kernel_rfl⟩
def Me:AC:=.seq (.aa [⟨(some 4),.mv (.c (.bool false)),none⟩])
 (.seq (.seq (.aa [U 7 0,xL 8 7,xi 9 0])
 (.block 0 (.loop (.seq (.aa [xb .lss 10 9 8])
 (.seq (.cond (.s 10) (.skip)
 (.exit 0))
 (.seq (.block 1 (.seq (.aa [xA 5 11 7 9,xl 5 12 11,⟨(some 6),.alloc [(.int .i64 0),(.int .i64 0),(.str []),(.sl .full 2 []),(.sl .full 5 [])],none⟩,xs 5 6 12])
 (.seq (.aa [U 13 1,xl 5 14 6,⟨(some 15),.fR (.s 13) [(.s 14)],none⟩,⟨(some 16),.not (.s 15),none⟩])
 (.cond (.s 16) (.seq (.aa [⟨(some 4),.mv (.c (.bool false)),none⟩])
 (.ret))
 (.skip)))))
 (.aa [xB .add 17 9 1,U 9 17])))))))
 (.seq (.aa [⟨(some 4),.mv (.c (.bool true)),none⟩])
 (.ret)))
theorem acF:aJ prog 173 Me [.tmp 4] 18:=⟨f173,⟨[],[],[]⟩,func173,by kernel_rfl,by kernel_rfl,by kernel_rfl,by kernel_rfl⟩
def MO:AC:=.seq (.aa [⟨(some 2),.mv (.c (.bool false)),none⟩])
 (.seq (.seq (.aa [U 5 0,xL 6 5,xi 7 0])
 (.block 0 (.loop (.seq (.aa [xb .lss 8 7 6])
 (.seq (.cond (.s 8) (.skip)
 (.exit 0))
 (.seq (.block 1 (.seq (.aa [xA 2 9 5 7,xl 2 10 9,⟨(some 4),.alloc [(.str []),(.int .i64 0)],none⟩,xs 2 4 10])
 (.seq (.aa [xf 0 11 4,xo 12 11,xc 99 13 [.s 12],⟨(some 14),.not (.s 13),none⟩])
 (.cond (.s 14) (.seq (.aa [⟨(some 2),.mv (.c (.bool false)),none⟩])
 (.ret))
 (.skip)))))
 (.aa [xB .add 15 7 1,U 7 15])))))))
 (.seq (.aa [⟨(some 2),.mv (.c (.bool true)),none⟩])
 (.ret)))
theorem adi:aJ prog 225 MO [.tmp 2] 16:=⟨f225,⟨[],[],[]⟩,func225,by kernel_rfl,by kernel_rfl,by kernel_rfl,by kernel_rfl⟩
def MP:AC:=.seq (.aa [⟨(some 1),.box 5 (.s 0),none⟩,⟨(some 2),.mv (.c (.bool false)),none⟩])
 (.seq (.aa [xf 0 3 1,xo 4 3,xB .eql 5 4 11,U 6 5,xg 6 (xf 2 7 1),xg 6 (xo 8 7),xg 6 (xc 99 9 [.s 8]),⟨(some 10),.pick (.s 6) (.s 9) (.c (.bool false)),none⟩,U 11 10,xg 11 (xf 3 12 1),xg 11 (xo 13 12),xg 11 (xL 14 13),xg 11 (xB .eql 15 14 0),⟨(some 16),.pick (.s 11) (.s 15) (.c (.bool false)),none⟩,U 17 16,xg 17 (xf 4 18 1),xg 17 (xo 19 18),xg 17 (xL 20 19),xg 17 (xB .eql 21 20 1),⟨(some 22),.pick (.s 17) (.s 21) (.c (.bool false)),none⟩,U 23 22,xg 23 (xf 4 24 1),xg 23 (xo 25 24),⟨(some 26),.jH 5 (.s 25) (.c (.int .i64 0)),(some (23,true))⟩,xg 23 (xl 5 27 26),xg 23 (xc 254 28 [.s 27]),⟨(some 29),.pick (.s 23) (.s 28) (.c (.bool false)),none⟩,U 2 29])
 (.ret))
theorem adj:aJ prog 226 MP [.tmp 2] 30:=⟨f226,⟨[],[],[]⟩,func226,by kernel_rfl,by kernel_rfl,by kernel_rfl,by kernel_rfl⟩
def MQ:AC:=.seq (.aa [⟨(some 1),.box 5 (.s 0),none⟩,⟨(some 2),.mv (.c (.bool false)),none⟩])
 (.seq (.aa [xf 0 3 1,xo 4 3,xB .eql 5 4 6,U 6 5,xg 6 (xf 2 7 1),xg 6 (xo 8 7),xg 6 (xc 99 9 [.s 8]),⟨(some 10),.pick (.s 6) (.s 9) (.c (.bool false)),none⟩,U 11 10,xg 11 (xf 3 12 1),xg 11 (xo 13 12),xg 11 (xc 225 14 [.s 13]),⟨(some 15),.pick (.s 11) (.s 14) (.c (.bool false)),none⟩,U 16 15,xg 16 (xf 4 17 1),xg 16 (xo 18 17),xg 16 (xL 19 18),xg 16 (xB .eql 20 19 0),⟨(some 21),.pick (.s 16) (.s 20) (.c (.bool false)),none⟩,U 2 21])
 (.ret))
theorem adk:aJ prog 227 MQ [.tmp 2] 22:=⟨f227,⟨[],[],[]⟩,func227,by kernel_rfl,by kernel_rfl,by kernel_rfl,by kernel_rfl⟩
def M9:AC:=.seq (.aa [⟨(some 1),.box 5 (.s 0),none⟩,⟨(some 2),.mv (.c (.bool false)),none⟩])
 (.seq (.aa [xf 0 3 1,xo 4 3,xB .eql 5 4 1,U 6 5,xh 6 (xf 0 7 1),xh 6 (xo 8 7),xh 6 (xB .eql 9 8 7),⟨(some 10),.pick (.s 6) (.c (.bool true)) (.s 9),none⟩,U 11 10,xg 11 (xl 5 12 1),xg 11 (xc 123 13 [.s 12]),⟨(some 14),.pick (.s 11) (.s 13) (.c (.bool false)),none⟩,U 2 14])
 (.ret))
theorem adC:aJ prog 254 M9 [.tmp 2] 15:=⟨f254,⟨[],[],[]⟩,func254,by kernel_rfl,by kernel_rfl,by kernel_rfl,by kernel_rfl⟩
theorem VT {α:Type} {l:List α} {i:Nat} {f:α→Bool} (h:i<l.length):(l.take (i+1)).all f=((l.take i).all f&&f l[i]):=by
  rw[Br (cc h),Fb];simp only[uO,KL,rq]
theorem Ol {α:Type} {l:List α} {i:Nat} {f:α→Bool} (h:i<l.length) (hf:f l[i]=false):l.all f=false:=by
  rw[Fc];exact⟨l[i],eZ h,by simp[hf]⟩
def H4 (l:List Word) (σ:ab) (i:Nat):St :=
  ⟨[.sl .no 2 (l.map Word.enc)]++List.replicate 4 .any++[.sl .no 2 (l.map Word.enc),.int .i64 l.length,.int .i64 (i:Nat)]++List.replicate 8 .any,[],σ⟩
theorem Jr (l:List Word) (σ:ab) (hb:l.length≤aE):ak prog 225 [.sl .no 2 (l.map Word.enc)] σ fun v σ' => v = .bool (kW l)∧σ' = σ:=by
  simp only[aE] at hb;refine adi.calls ?_;simp only[aI,MO,am,aP];refine jj (fun p:{i:Nat // i≤l.length∧(l.take i).all (fun w=>dZ w.text)=true}=>H4 l σ p.1) (fun p=>l.length - p.1) ?_ ?_
  · refine aZ.enter ⟨0,by simp,by simp⟩ ?_ bY.rfl bC.rfl;simp[H4,List.replicate,am]
  · rintro⟨i,hi,ha⟩;simp only[H4,List.replicate,am];refine fk ?_ ?_
    · intro ag;have ag:i<l.length:=by simpa using ag
      simp only[am];refine bx (by omega) (yZ (cc ag)) ?_;simp only[am,Nat.reduceAdd,Word.enc];refine cl (pI l[i].text σ) ?_;cases hg:dZ l[i].text
      · simp only[am];refine aF rfl (ab.aS _) ⟨?_,rfl⟩;rw[show kW l=false from Ol (f:=fun (w:Word)=>dZ w.text) ag hg];rfl
      · simp only[am];rw[wrap_i64 (by omega) (by omega)];exact aZ.qq ⟨i+1,ag,by rw[VT ag,ha,hg];rfl⟩ (by simp;omega) (by simp[am]) (by simp[am]) bC.rfl rfl rfl
    · intro ag;have ag:i=l.length:=by simp at ag;omega
      subst ag;rw[dv] at ha;simp only[am];refine az ?_;simp[V.erase,kW,ha]
def H5 (g:FuncId) (l:List Nd) (σ:ab) (i:Nat):St :=
  ⟨[.sl .no 5 (l.map Nd.enc),.fn (.func g) [] []]++List.replicate 5 .any++[.sl .no 5 (l.map Nd.enc),.int .i64 l.length,.int .i64 (i:Nat)]++List.replicate 8 .any,[],σ⟩
theorem Ce {g:FuncId} {f:Nd→Bool} (l:List Nd) (σ:ab) (hb:l.length≤aE) (h:∀n∈l,ak prog g [.agg n.enc] σ fun v σ' => v = .bool (f n)∧σ' = σ):ak prog 173 [.sl .no 5 (l.map Nd.enc),.fn (.func g) [] []] σ fun v σ' => v = .bool (l.all f)∧σ' = σ:=by
  simp only[aE] at hb;refine acF.calls ?_;simp only[aI,Me,am,aP,Nat.reduceAdd];refine jj (fun p:{i:Nat // i≤l.length∧(l.take i).all f=true}=>H5 g l σ p.1) (fun p=>l.length - p.1) ?_ ?_
  · refine aZ.enter ⟨0,by simp,by simp⟩ ?_ bY.rfl bC.rfl;simp[H5,List.replicate,am]
  · rintro⟨i,hi,ha⟩;simp only[H5,List.replicate,am];refine fk ?_ ?_
    · intro ag;have ag:i<l.length:=by simpa using ag
      simp only[am];refine bx (by omega) (l_ (cc ag)) ?_;simp only[am,Nd.af];refine cl (h l[i] (eZ ag)) ?_;cases hg:f l[i]
      · simp only[am];refine az ?_;simp[V.erase,Ol ag hg]
      · simp only[am];rw[wrap_i64 (by omega) (by omega)];exact aZ.qq ⟨i+1,ag,by rw[VT ag,ha,hg];rfl⟩ (by simp;omega) (by simp[am]) (by simp[am]) bC.rfl rfl rfl
    · intro ag;have ag:i=l.length:=by simp at ag;omega
      subst ag;rw[dv] at ha;simp only[am];refine az ?_;simp[V.erase,ha]
def p9:=And.intro @am <| And.intro @aP <| And.intro @Nd.af @Nd.fl
def f_:=And.intro @am <| And.intro @lP <| And.intro @bV <| And.intro @ix <| And.intro @bQ <| And.intro @eT <| And.intro @Tree.af <| And.intro @Nd.af <| And.intro @Word.af <| And.intro @cZ.af @Nd.fl
theorem Sa (n:Nd) (σ:ab) (hb:n.names.length+n.kids.length≤aE):ak prog 170 [.agg n.enc] σ fun v σ' => v = .bool n.l8∧σ' = σ:=by
  simp only[aE] at hb;refine acC.calls ?_;simp only[aI,Mb,p9];refine cl (pI n.text σ) ?_;simp only[am]
  repeat' (first
    | (refine iW (fun h=>?_) (fun h=>?_)<;>simp only[am,h,aD,Nd.fl,wrap_i64 (x:=(n.names.length:Int)+n.kids.length) (by omega) (by omega)])
    | (refine fk (fun h=>?_) (fun h=>?_)<;>simp only[f_,h,Nat.reduceAdd,Nat.reduceEqDiff,aD,wrap_i64 (x:=(n.names.length:Int)+n.kids.length) (by omega) (by omega)])
    | (refine je (fun h=>?_) (fun h=>?_)<;>simp only[f_,h,Nat.reduceAdd,Nat.reduceEqDiff,aD,wrap_i64 (x:=(n.names.length:Int)+n.kids.length) (by omega) (by omega)])
  )
  all_goals refine az ?_
  all_goals simp_all [V.erase,Nd.l8]
  all_goals (try omega)
theorem Cp (n:Nd) (σ:ab):ak prog 171 [.agg n.enc] σ fun v σ' => v = .bool n.kG∧σ' = σ:=by
  refine acD.calls ?_;simp only[aI,Mc,p9]
  repeat' (first
    | (refine iW (fun h=>?_) (fun h=>?_)<;>simp only[am,h,aD,Nd.fl])
    | (refine fk (fun h=>?_) (fun h=>?_)<;>simp only[f_,h,Nat.reduceAdd,Nat.reduceEqDiff,aD])
    | (refine je (fun h=>?_) (fun h=>?_)<;>simp only[f_,h,Nat.reduceAdd,Nat.reduceEqDiff,aD])
  )
  all_goals refine az ?_
  all_goals simp_all [V.erase,Nd.kG]
  all_goals (try omega)
theorem BG (n:Nd):n.names.length+n.kids.length+4≤n.wt:=by
  have h2:n.names.length≤di n.names:=by
    unfold di;generalize n.names=l;induction l with
    | nil=>simp
    | cons w ws ih=>simp only[bL,oe,cF];omega
  have h3:n.kids.length≤eg n.kids:=by
    rw[BI];generalize n.kids=l;induction l with
    | nil=>simp
    | cons w ws ih=>simp only[bL,oe,cF];omega
  have h1:eg n.kids+di n.names+4≤n.wt:=by cases n;simp only[Nd.wt,Nd.kids,Nd.names];omega
  omega
theorem amO (n:Nd) (σ:ab) (hw:n.wt≤aE):ak prog 227 [.agg n.enc] σ fun v σ' => v = .bool n.pT∧σ' = σ:=by
  have hn:=BG n;refine adk.calls ?_;simp only[aI,MQ,p9]
  repeat' (first
    | (refine iW (fun h=>?_) (fun h=>?_)<;>simp only[am,h,aD,Nd.fl])
    | (refine fk (fun h=>?_) (fun h=>?_)<;>simp only[f_,h,Nat.reduceAdd,Nat.reduceEqDiff,aD])
    | (refine je (fun h=>?_) (fun h=>?_)<;>simp only[f_,h,Nat.reduceAdd,Nat.reduceEqDiff,aD])
    | (refine(pI n.text σ).mono ?_;rintro v _ ⟨rfl,rfl⟩;simp only[am])
    | (refine(Jr n.names _ (by omega)).mono ?_;rintro v _ ⟨rfl,rfl⟩;simp only[am])
  )
  all_goals refine az ?_
  all_goals simp_all [V.erase,Nd.pT]
  all_goals (try omega)
theorem Pn:∀(k:Nat) (n:Nd) (σ:ab),n.wt≤k→n.wt≤aE→ak prog 172 [.agg n.enc] σ fun v σ' => v = .bool n.g_∧σ' = σ:=by
  intro k;induction k with
  | zero=>intro n σ h _;cases n;simp only[Nd.wt] at h;omega
  | succ k vN =>
    intro n σ hk hw;have hn:=BG n;have Hq:∀m∈n.kids,m.wt+5≤n.wt:=fun m hm=>by
      have h1:=Ku hm;have h2:eg n.kids+4≤n.wt:=by cases n;simp only[Nd.wt,Nd.kids];omega
      omega
    have bT:ak prog 173 [.sl .no 5 (n.kids.map Nd.enc),.fn (.func 172) [] []] σ fun v σ' => v = .bool (n.kids.all Nd.g_)∧σ' = σ :=
      Ce n.kids σ (by omega) fun m hm=>vN m σ (by have:=Hq m hm;omega) (by have:=Hq m hm;omega)
    have agb:ak prog 173 [.sl .no 5 (n.kids.map Nd.enc),.fn (.func 227) [] []] σ fun v σ' => v = .bool (n.kids.all Nd.pT)∧σ' = σ :=
      Ce n.kids σ (by omega) fun m hm=>amO m σ (by have:=Hq m hm;omega)
    rw[Nd.xz];refine acE.calls ?_;simp only[aI,Md,p9]
    by_cases k2:n.kind=2
    · simp only[am,Nd.af,aC k2];refine cl (Sa n σ (by omega)) ?_;simp only[am];refine az ?_;simp[V.erase,k2]
    simp only[am,aA k2]
    by_cases k3:n.kind=3
    · simp only[am,Nd.fl,aC k3]
      repeat' (first
        | (refine iW (fun h=>?_) (fun h=>?_)<;>simp only[am,h,aD,Nd.fl])
        | (refine fk (fun h=>?_) (fun h=>?_)<;>simp only[f_,h,Nat.reduceAdd,Nat.reduceEqDiff,aD])
        | (refine je (fun h=>?_) (fun h=>?_)<;>simp only[f_,h,Nat.reduceAdd,Nat.reduceEqDiff,aD])
        | (refine(Jr n.names _ (by omega)).mono ?_;rintro v _ ⟨rfl,rfl⟩;simp only[am])
      )
      all_goals refine az ?_
      all_goals simp_all [V.erase]
      all_goals (try omega)
    simp only[am,aA k3]
    by_cases k4:n.kind=4
    · simp only[am,Nd.af,aC k4];refine cl (Cp n σ) ?_;simp only[am]
      repeat' (first
        | (refine iW (fun h=>?_) (fun h=>?_)<;>simp only[am,h,aD,Nd.fl])
        | (refine fk (fun h=>?_) (fun h=>?_)<;>simp only[f_,h,Nat.reduceAdd,Nat.reduceEqDiff,aD])
        | (refine je (fun h=>?_) (fun h=>?_)<;>simp only[f_,h,Nat.reduceAdd,Nat.reduceEqDiff,aD])
        | (refine bT.mono ?_;rintro v _ ⟨rfl,rfl⟩;simp only[am])
      )
      all_goals refine az ?_
      all_goals simp_all [V.erase]
      all_goals (try omega)
    simp only[am,aA k4]
    by_cases k5:n.kind=5
    · simp only[am,Nd.af,aC k5];refine cl (Cp n σ) ?_;simp only[am]
      repeat' (first
        | (refine iW (fun h=>?_) (fun h=>?_)<;>simp only[am,h,Nd.fl])
        | (refine fk (fun h=>?_) (fun h=>?_)<;>simp only[f_,h,Nat.reduceAdd,Nat.reduceEqDiff,aD])
        | (refine je (fun h=>?_) (fun h=>?_)<;>simp only[f_,h,Nat.reduceAdd,Nat.reduceEqDiff,aD])
        | (refine agb.mono ?_;rintro v _ ⟨rfl,rfl⟩;simp only[am])
      )
      all_goals refine az ?_
      all_goals simp_all [V.erase]
      all_goals (try omega)
    simp only[am,aA k5];refine az ?_;simp[V.erase,k2,k3,k4,k5]
theorem l7 {n m:Nd} (hm:m∈n.kids):m.wt+5≤n.wt:=by
  have h1:=Ku hm;have h2:eg n.kids+4≤n.wt:=by cases n;simp only[Nd.wt,Nd.kids];omega
  omega
theorem AR:∀(k:Nat) (n:Nd) (σ:ab),n.wt≤k→n.wt≤aE→ak prog 123 [.agg n.enc] σ fun v σ' => v = .bool n.fg∧σ' = σ:=by
  intro k;induction k with
  | zero=>intro n σ h _;cases n;simp only[Nd.wt] at h;omega
  | succ k vN =>
    intro n σ hk hw;have hn:=BG n;have bT:ak prog 173 [.sl .no 5 (n.kids.map Nd.enc),.fn (.func 123) [] []] σ fun v σ' => v = .bool (n.kids.all Nd.fg)∧σ' = σ :=
      Ce n.kids σ (by omega) fun m hm=>vN m σ (by have:=l7 hm;omega) (by have:=l7 hm;omega)
    rw[Nd.qT];refine ab_.calls ?_;simp only[aI,LK,p9]
    by_cases k1:n.kind=1
    · simp only[am,Nd.af,aC k1];refine cl (Sa n σ (by omega)) ?_;simp only[am];refine az ?_;simp[V.erase,k1]
    simp only[am,aA k1]
    by_cases k7:n.kind=7
    · simp only[am,Nd.af,aC k7];refine cl (Cp n σ) ?_;simp only[am];cases eU:n.kids with
      | nil =>
        simp only[am,dk,sO,show decide ((0:Int)=1)=false from rfl]
        repeat' (first
          | (refine iW (fun h=>?_) (fun h=>?_)<;>simp only[am,h,Nd.fl,eU,cX,dk,sO,show decide ((0:Int)=1)=false from rfl])
          | (refine fk (fun h=>?_) (fun h=>?_)<;>simp only[f_,h,Nat.reduceAdd,Nat.reduceEqDiff,aD,eU,cX,dk,sO,show decide ((0:Int)=1)=false from rfl])
          | (refine je (fun h=>?_) (fun h=>?_)<;>simp only[f_,h,Nat.reduceAdd,Nat.reduceEqDiff,aD,eU,cX,dk,sO,show decide ((0:Int)=1)=false from rfl])
        )
        all_goals refine az ?_
        all_goals simp_all [V.erase]
        all_goals (try omega)
      | cons m ms =>
        have hc:ak prog 172 [.agg m.enc] σ fun v σ' => v = .bool m.g_∧σ' = σ:=Pn _ m σ (bt _) (by have:=l7 (n:=n) (m:=m) (by rw[eU];simp);omega)
        repeat' (first
          | (refine iW (fun h=>?_) (fun h=>?_)<;>simp only[am,h,aD,Nd.fl,eU])
          | (refine fk (fun h=>?_) (fun h=>?_)<;>simp only[f_,h,Nat.reduceAdd,Nat.reduceEqDiff,aD,eU])
          | (refine je (fun h=>?_) (fun h=>?_)<;>simp only[f_,h,Nat.reduceAdd,Nat.reduceEqDiff,aD,eU])
          | (refine bx (by omega) (c:=m.enc) (by simp) ?_;simp only[am,Nd.af])
          | (refine hc.mono ?_;rintro v _ ⟨rfl,rfl⟩;simp only[am])
        )
        all_goals refine az ?_
        all_goals simp_all [V.erase,qH]
        all_goals (try omega)
    simp only[am,aA k7]
    by_cases k8:n.kind=8
    case' pos =>
      simp only[am,Nd.af,aC k8]
    case' neg =>
      simp only[am,aA k8]
      by_cases k9:n.kind=9
      case' pos =>
        simp only[am,Nd.af,aC k9]
      case' neg =>
        simp only[am,aA k9];refine az ?_;simp[V.erase,k1,k7,k8,k9]
    all_goals
      refine cl (Cp n σ) ?_;simp only[am]
      repeat' (first
        | (refine iW (fun h=>?_) (fun h=>?_)<;>simp only[am,h,aD,Nd.fl])
        | (refine fk (fun h=>?_) (fun h=>?_)<;>simp only[f_,h,Nat.reduceAdd,Nat.reduceEqDiff,aD])
        | (refine je (fun h=>?_) (fun h=>?_)<;>simp only[f_,h,Nat.reduceAdd,Nat.reduceEqDiff,aD])
        | (refine bT.mono ?_;rintro v _ ⟨rfl,rfl⟩;simp only[am])
      )
      all_goals refine az ?_
      all_goals simp_all [V.erase]
      all_goals (try omega)
theorem W9 (n:Nd) (σ:ab) (hw:n.wt≤aE):ak prog 254 [.agg n.enc] σ fun v σ' => v = .bool n.mD∧σ' = σ:=by
  refine adC.calls ?_;simp only[aI,M9,p9]
  repeat' (first
    | (refine iW (fun h=>?_) (fun h=>?_)<;>simp only[am,h,Nd.af,Nd.fl])
    | (refine fk (fun h=>?_) (fun h=>?_)<;>simp only[f_,h,Nat.reduceAdd,Nat.reduceEqDiff,aD])
    | (refine je (fun h=>?_) (fun h=>?_)<;>simp only[f_,h,Nat.reduceAdd,Nat.reduceEqDiff,aD])
    | (refine(AR _ n _ (bt _) hw).mono ?_;rintro v _ ⟨rfl,rfl⟩;simp only[am])
  )
  all_goals refine az ?_
  all_goals simp_all [V.erase,Nd.mD]
  all_goals (try omega)
theorem abv (n:Nd) (σ:ab) (hw:n.wt≤aE):ak prog 226 [.agg n.enc] σ fun v σ' => v = .bool n.lp∧σ' = σ:=by
  refine adj.calls ?_;simp only[aI,MP,p9];cases eU:n.kids with
  | nil =>
    repeat' (first
      | (refine iW (fun h=>?_) (fun h=>?_)<;>simp only[am,h,aD,Nd.fl,eU,cX,dk,sO,show decide ((0:Int)=1)=false from rfl])
      | (refine fk (fun h=>?_) (fun h=>?_)<;>simp only[f_,h,Nat.reduceAdd,Nat.reduceEqDiff,aD,eU,cX,dk,sO,show decide ((0:Int)=1)=false from rfl])
      | (refine je (fun h=>?_) (fun h=>?_)<;>simp only[f_,h,Nat.reduceAdd,Nat.reduceEqDiff,aD,eU,cX,dk,sO,show decide ((0:Int)=1)=false from rfl])
      | (refine(pI n.text _).mono ?_;rintro v _ ⟨rfl,rfl⟩;simp only[am])
    )
    all_goals refine az ?_
    all_goals simp_all [V.erase,Nd.lp,qH]
    all_goals (try omega)
  | cons m ms =>
    have hc:ak prog 254 [.agg m.enc] σ fun v σ' => v = .bool m.mD∧σ' = σ:=W9 m σ (by have:=l7 (n:=n) (m:=m) (by rw[eU];simp);omega)
    repeat' (first
      | (refine iW (fun h=>?_) (fun h=>?_)<;>simp only[am,h,aD,Nd.fl,eU])
      | (refine fk (fun h=>?_) (fun h=>?_)<;>simp only[f_,h,Nat.reduceAdd,Nat.reduceEqDiff,aD,eU])
      | (refine je (fun h=>?_) (fun h=>?_)<;>simp only[f_,h,Nat.reduceAdd,Nat.reduceEqDiff,aD,eU])
      | (refine(pI n.text _).mono ?_;rintro v _ ⟨rfl,rfl⟩;simp only[am])
      | (refine bx (by omega) (c:=m.enc) (by simp) ?_;simp only[am,Nd.af])
      | (refine hc.mono ?_;rintro v _ ⟨rfl,rfl⟩;simp only[am])
    )
    all_goals refine az ?_
    all_goals simp_all [V.erase,Nd.lp,qH]
    all_goals (try omega)
theorem T9 (n:Nd) (σ:ab) (hw:n.wt≤aE):ak prog 169 [.agg n.enc] σ fun v σ' => v = .bool n.jN∧σ' = σ:=by
  have hn:=BG n;have bT:ak prog 173 [.sl .no 5 (n.kids.map Nd.enc),.fn (.func 226) [] []] σ fun v σ' => v = .bool (n.kids.all Nd.lp)∧σ' = σ :=
    Ce n.kids σ (by omega) fun m hm=>abv m σ (by have:=l7 hm;omega)
  refine acA.calls ?_;simp only[aI,L_,p9]
  by_cases vR:n.kind=10
  · simp only[am,Nd.fl,aC vR]
    repeat' (first
      | (refine iW (fun h=>?_) (fun h=>?_)<;>simp only[am,h,aD,Nd.fl])
      | (refine fk (fun h=>?_) (fun h=>?_)<;>simp only[f_,h,Nat.reduceAdd,Nat.reduceEqDiff,aD])
      | (refine je (fun h=>?_) (fun h=>?_)<;>simp only[f_,h,Nat.reduceAdd,Nat.reduceEqDiff,aD])
      | (refine(Jr n.names _ (by omega)).mono ?_;rintro v _ ⟨rfl,rfl⟩;simp only[am])
      | (refine bT.mono ?_;rintro v _ ⟨rfl,rfl⟩;simp only[am])
    )
    all_goals refine az ?_
    all_goals simp_all [V.erase,Nd.jN]
    all_goals (try omega)
  · simp only[am,Nd.fl,aA vR]
    repeat' (first
      | (refine iW (fun h=>?_) (fun h=>?_)<;>simp only[am,h,Nd.af])
      | (refine fk (fun h=>?_) (fun h=>?_)<;>simp only[f_,h,Nat.reduceAdd,Nat.reduceEqDiff,aD])
      | (refine je (fun h=>?_) (fun h=>?_)<;>simp only[f_,h,Nat.reduceAdd,Nat.reduceEqDiff,aD])
      | (refine(AR _ n _ (bt _) hw).mono ?_;rintro v _ ⟨rfl,rfl⟩;simp only[am])
    )
    all_goals refine az ?_
    all_goals simp_all [V.erase,Nd.jN]
    all_goals (try omega)
end Go.Proofs.Tryz
