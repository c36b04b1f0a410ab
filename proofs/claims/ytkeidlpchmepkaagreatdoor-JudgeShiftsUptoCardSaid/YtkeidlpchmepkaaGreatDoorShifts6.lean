/-
  Part 6 of the proof of JudgeShiftsUptoCardSaid: a logic over the model, the forms of the functions that the law reaches, and what they compute.
-/
import Derived.Test.YtkeidlpchmepkaaGreatDoorProg
import Derived.Test.YtkeidlpchmepkaaGreatDoorShifts5
set_option linter.unusedVariables false
set_option linter.unusedSimpArgs false
set_option linter.defProp false
set_option linter.unusedSectionVars false
namespace Go.Proofs.Tryz
open Go.Am
set_option maxRecDepth 4000
set_option maxHeartbeats 4000000
def LM:AC:=.seq (.aa [⟨(some 2),.box 2 (.s 0),none⟩,⟨(some 3),.box 5 (.s 1),none⟩,⟨(some 4),.alloc xF,none⟩,⟨(some 5),.alloc [(.int .i64 0),(.int .i64 0)],none⟩])
 (.seq (.aa [⟨(some 6),.alloc xF,none⟩])
 (.seq (.aa [xl 2 13 2,xl 5 14 3,xc 175 15 [.s 13,.s 14],U 12 15,xe 16 12 0,xe 17 12 1,U 7 16,U 8 17])
 (.seq (.seq (.aa [U 18 8,⟨(some 19),.not (.s 18),none⟩,U 20 19,xh 20 (xl 2 21 2),xh 20 (xc 176 22 [.s 21]),⟨(some 23),.not (.s 22),(some (20,false))⟩,⟨(some 24),.pick (.s 20) (.c (.bool true)) (.s 23),none⟩,U 25 24,xh 25 (xl 5 26 3),xh 25 (xc 172 27 [.s 26]),⟨(some 28),.not (.s 27),(some (25,false))⟩,⟨(some 29),.pick (.s 25) (.c (.bool true)) (.s 28),none⟩])
 (.cond (.s 29) (.seq (.draw [(xl 8 30 6,[]),(xf 1 31 3,[]),(xo 32 31,[1]),(⟨(some 33),.build [(.int .i64 0),(.int .i64 0)] [(0,1,(.c (.int .i64 4))),(1,1,(.s 32))],none⟩,[]),(xs 8 4 30,[]),(xs 2 5 33,[])])
 (.ret))
 (.skip)))
 (.seq (.aa [⟨(some 34),.build [(.bool false),(.int .i64 0)] [],none⟩,⟨(some 35),.eD 2 (.s 34),none⟩,U 9 35])
 (.seq (.seq (.aa [xf 1 36 2,xo 37 36,xL 38 37,xi 39 0])
 (.block 0 (.loop (.seq (.aa [xb .lss 40 39 38])
 (.seq (.cond (.s 40) (.skip)
 (.exit 0))
 (.seq (.block 1 (.seq (.aa [U 41 39,xA 67 42 37 39,xl 67 43 42,⟨(some 11),.alloc rK,none⟩,U 10 41,xs 67 11 43])
 (.draw [(U 44 10,[]),(U 45 9,[]),(xl 67 46 11,[]),(U 47 7,[]),(U 48 10,[]),(xA 5 49 47 48,[]),(xl 5 50 49,[]),(xc 177 51 [.s 45,.s 46,.s 50],[]),(⟨(some 52),.eJ 8 1 (.s 6) (.s 44),none⟩,[]),(xs 1 52 51,[])])))
 (.aa [xB .add 53 39 1,U 39 53])))))))
 (.seq (.seq (.aa [U 54 9,xk 55 54,xf 0 56 55,xo 57 56])
 (.cond (.s 57) (.seq (.draw [(⟨(some 58),.build xF [],none⟩,[]),(U 59 9,[]),(xk 60 59,[]),(xf 1 61 60,[]),(xo 62 61,[1]),(⟨(some 63),.build [(.int .i64 0),(.int .i64 0)] [(0,1,(.c (.int .i64 4))),(1,1,(.s 62))],none⟩,[]),(xs 8 4 58,[]),(xs 2 5 63,[])])
 (.ret))
 (.skip)))
 (.seq (.aa [xl 8 64 6,⟨(some 65),.build [(.int .i64 0),(.int .i64 0)] [],none⟩,xs 8 4 64,xs 2 5 65])
 (.ret))))))))
theorem aca:aJ prog 125 LM [.cell 4 true 8,.cell 5 true 2] 66:=⟨f125,⟨[35],[],[]⟩,func125,by kernel_rfl,by kernel_rfl,by kernel_rfl,by kernel_rfl⟩
def Mg:AC:=.seq (.aa [⟨(some 2),.box 2 (.s 0),none⟩,⟨(some 3),.box 5 (.s 1),none⟩,⟨(some 4),.mv (.c (.sl .full 5 [])),none⟩,⟨(some 5),.mv (.c (.bool false)),none⟩])
 (.seq (.seq (.aa [xf 0 6 2,xo 7 6,⟨(some 8),.not (.s 7),none⟩])
 (.cond (.s 8) (.seq (.aa [xl 5 9 3,⟨(some 10),.cB 5 [(.s 9)],none⟩,U 4 10,⟨(some 5),.mv (.c (.bool true)),none⟩])
 (.ret))
 (.skip)))
 (.seq (.draw [(xf 4 11 3,[]),(xo 12 11,[]),(xf 0 13 3,[]),(xo 14 13,[]),(xB .eql 15 14 4,[]),(U 16 15,[]),(xg 16 (xf 4 17 3),[]),(xg 16 (xo 18 17),[]),(xg 16 (xL 19 18),[]),(xg 16 (xf 1 20 2),[]),(xg 16 (xo 21 20),[]),(xg 16 (xL 22 21),[]),(xg 16 (xb .eql 23 19 22),[]),(⟨(some 24),.pick (.s 16) (.s 23) (.c (.bool false)),none⟩,[]),(U 4 12,[]),(U 5 24,[])])
 (.ret)))
theorem acH:aJ prog 175 Mg [.tmp 4,.tmp 5] 25:=⟨f175,⟨[],[],[]⟩,func175,by kernel_rfl,by kernel_rfl,by kernel_rfl,by kernel_rfl⟩
def Mi:AC:=.seq (.aa [⟨(some 4),.box 67 (.s 1),none⟩,⟨(some 5),.box 5 (.s 2),none⟩,⟨(some 6),.mv (.c (.int .u64 0)),none⟩])
 (.seq (.seq (.draw [(xf 0 7 5,[]),(xo 8 7,[1]),(xl 67 9 4,[]),(xc 229 10 [.s 9],[]),(xb .neq 11 8 10,[])])
 (.cond (.s 11) (.seq (.aa [U 12 0,xf 1 13 5,xo 14 13,xc 230 15 [.s 12,.s 14],U 6 15])
 (.ret))
 (.skip)))
 (.seq (.seq (.aa [xf 0 16 4,xo 17 16])
 (.block 0 (.seq (.aa [xB .eql 19 17 2,U 18 19])
 (.cond (.s 18) (.seq (.aa [U 20 0,xf 1 21 4,xo 22 21,xf 3 23 5,xo 24 23,xc 231 25 [.s 20,.s 22,.s 24],U 6 25])
 (.ret))
 (.seq (.aa [xB .eql 27 17 3,U 26 27])
 (.cond (.s 26) (.seq (.aa [U 28 0,xl 67 29 4,xl 5 30 5,xc 232 31 [.s 28,.s 29,.s 30],U 6 31])
 (.ret))
 (.skip)))))))
 (.seq (.aa [U 32 0,xl 67 33 4,xl 5 34 5,xc 233 35 [.s 32,.s 33,.s 34],U 6 35])
 (.ret))))
theorem acJ:aJ prog 177 Mi [.tmp 6] 36:=⟨f177,⟨[],[],[]⟩,func177,by kernel_rfl,by kernel_rfl,by kernel_rfl,by kernel_rfl⟩
def MS:AC:=.seq (.aa [⟨(some 1),.box 67 (.s 0),none⟩,xi 2 0])
 (.seq (.seq (.aa [xf 0 3 1,xo 4 3])
 (.block 0 (.seq (.aa [xB .eql 6 4 2,U 5 6])
 (.cond (.s 5) (.seq (.aa [xi 2 3])
 (.ret))
 (.seq (.aa [xB .eql 8 4 3,U 7 8])
 (.cond (.s 7) (.seq (.aa [xi 2 5])
 (.ret))
 (.skip)))))))
 (.seq (.aa [xi 2 2])
 (.ret)))
theorem adm:aJ prog 229 MS [.tmp 2] 9:=⟨f229,⟨[],[],[]⟩,func229,by kernel_rfl,by kernel_rfl,by kernel_rfl,by kernel_rfl⟩
def MU:AC:=.seq (.aa [⟨(some 4),.mv (.c (.int .u64 0)),none⟩])
 (.seq (.seq (.aa [U 5 0,xk 6 5,xf 0 7 6,xo 8 7,⟨(some 9),.not (.s 8),none⟩])
 (.cond (.s 9) (.aa [U 10 0,U 11 0,U 12 1,xk 13 10,xf 0 14 13,⟨none,.store 1 (.s 14) (.c (.bool true)),none⟩,xk 15 11,xf 1 16 15,xs 1 16 12])
 (.skip)))
 (.seq (.aa [⟨(some 4),.mv (.c (.int .u64 0)),none⟩])
 (.ret)))
theorem ado:aJ prog 230 MU [.tmp 4] 17:=⟨f230,⟨[],[],[]⟩,func230,by kernel_rfl,by kernel_rfl,by kernel_rfl,by kernel_rfl⟩
def MV:AC:=.seq (.aa [⟨(some 6),.mv (.c (.int .u64 0)),none⟩])
 (.seq (.aa [⟨(some 7),.mv (.c (.int .u64 0)),none⟩])
 (.seq (.seq (.aa [U 11 2,xL 12 11,xi 13 0])
 (.block 0 (.loop (.seq (.aa [xb .lss 14 13 12])
 (.seq (.cond (.s 14) (.skip)
 (.exit 0))
 (.seq (.block 1 (.seq (.aa [xA 2 15 11 13,xl 2 16 15,⟨(some 9),.alloc [(.str []),(.int .i64 0)],none⟩,xs 2 9 16])
 (.seq (.aa [U 17 1,xf 0 18 9,xo 19 18,xc 112 20 [.s 17,.s 19],U 10 20])
 (.seq (.seq (.aa [U 21 10,xB .lss 22 21 0])
 (.cond (.s 22) (.seq (.aa [U 23 0,xf 1 24 9,xo 25 24,xc 230 26 [.s 23,.s 25],U 6 26])
 (.ret))
 (.skip)))
 (.aa [U 27 7,U 28 10,xc 220 29 [.s 27,.s 28],U 7 29])))))
 (.aa [xB .add 30 13 1,U 13 30])))))))
 (.seq (.aa [U 31 7,U 6 31])
 (.ret))))
theorem adp:aJ prog 231 MV [.tmp 6] 32:=⟨f231,⟨[],[],[]⟩,func231,by kernel_rfl,by kernel_rfl,by kernel_rfl,by kernel_rfl⟩
def MW:AC:=.seq (.aa [⟨(some 4),.box 67 (.s 1),none⟩,⟨(some 5),.box 5 (.s 2),none⟩,⟨(some 6),.mv (.c (.int .u64 0)),none⟩])
 (.seq (.aa [⟨(some 7),.mv (.c (.int .u64 0)),none⟩])
 (.seq (.seq (.aa [xf 4 11 5,xo 12 11,xL 13 12,xi 14 0])
 (.block 0 (.loop (.seq (.aa [xb .lss 15 14 13])
 (.seq (.cond (.s 15) (.skip)
 (.exit 0))
 (.seq (.block 1 (.seq (.aa [xA 5 16 12 14,xl 5 17 16,⟨(some 9),.alloc [(.int .i64 0),(.int .i64 0),(.str []),(.sl .full 2 []),(.sl .full 5 [])],none⟩,xs 5 9 17])
 (.seq (.aa [xf 1 18 4,xo 19 18,xf 2 20 9,xo 21 20,xc 112 22 [.s 19,.s 21],U 10 22])
 (.seq (.seq (.aa [U 23 10,xB .lss 24 23 0])
 (.cond (.s 24) (.seq (.aa [U 25 0,xf 1 26 9,xo 27 26,xc 230 28 [.s 25,.s 27],U 6 28])
 (.ret))
 (.skip)))
 (.draw [(U 29 7,[]),(xf 2 30 4,[]),(xl 65 31 30,[1]),(U 32 10,[]),(U 33 0,[]),(xf 1 34 4,[]),(xo 35 34,[]),(xf 3 36 9,[]),(xo 37 36,[]),(xc 231 38 [.s 33,.s 35,.s 37],[]),(xc 258 39 [.s 31,.s 32,.s 38],[]),(xb .or 40 29 39,[]),(U 7 40,[])])))))
 (.aa [xB .add 41 14 1,U 14 41])))))))
 (.seq (.aa [U 42 7,U 6 42])
 (.ret))))
theorem adq:aJ prog 232 MW [.tmp 6] 43:=⟨f232,⟨[],[],[]⟩,func232,by kernel_rfl,by kernel_rfl,by kernel_rfl,by kernel_rfl⟩
def MX:AC:=.seq (.aa [⟨(some 4),.box 67 (.s 1),none⟩,⟨(some 5),.box 5 (.s 2),none⟩,⟨(some 6),.mv (.c (.int .u64 0)),none⟩])
 (.seq (.aa [xf 1 10 4,xo 11 10,xf 2 12 5,xo 13 12,xc 112 14 [.s 11,.s 13],U 7 14])
 (.seq (.seq (.aa [U 15 7,xB .lss 16 15 0])
 (.cond (.s 16) (.seq (.aa [U 17 0,xf 1 18 5,xo 19 18,xc 230 20 [.s 17,.s 19],U 6 20])
 (.ret))
 (.skip)))
 (.seq (.seq (.aa [xf 0 21 4,xo 22 21,xB .eql 23 22 4])
 (.cond (.s 23) (.seq (.aa [xf 2 24 4,xl 65 25 24,U 26 7,xc 259 27 [.s 25,.s 26],U 6 27])
 (.ret))
 (.skip)))
 (.seq (.aa [xf 1 29 4,xo 30 29,xL 31 30,U 32 7,xc 260 33 [.s 31,.s 32],U 28 33,xe 34 28 0,xe 35 28 1,U 8 34,U 9 35])
 (.seq (.aa [U 36 8,U 6 36])
 (.ret))))))
theorem adr:aJ prog 233 MX [.tmp 6] 37:=⟨f233,⟨[],[],[]⟩,func233,by kernel_rfl,by kernel_rfl,by kernel_rfl,by kernel_rfl⟩
abbrev BB (σ:ab) (b:Nat) (o:Option Int):Prop:=σ.box b=some (lQ o)
theorem aoA {σ:ab} {b:Nat} {o:Option Int} {c:List V} (hg:TZ σ) (h:BB σ b o):TZ (σ.set b c):=hg
theorem Et (b:Nat) (o:Option Int) (p:Int) {σ:ab} (h:BB σ b o):ak prog 230 [.ptr (.out b) 0,.int .i64 p] σ fun v σ' => v = .int .u64 ((0#64:aU).toNat:Nat)∧σ' = σ.set b (lQ (o.or (some p))):=by
  refine ado.calls ?_;simp only[aI,MU,am,aP,Nat.reduceAdd,p8];cases o with
  | none =>
    simp only[am,show σ.box b=some [.bool false,.int .i64 0] from h];exact aF rfl (ab.aS _) ⟨rfl,rfl⟩
  | some q =>
    have e:σ.set b (lQ ((some q).or (some p)))=σ:=ab.uv h;simp only[am,show σ.box b=some [.bool true,.int .i64 q] from h];rw[e];exact aF rfl (ab.aS _) ⟨rfl,rfl⟩
theorem ak4 {l:List (List UInt8)} {w:Word} {ws:List Word} {s:aU} {k:Nat} (h:fJ l w.text=some k):fB l s (w::ws)=fB l (im s (k:Nat)) ws:=by simp only[fB,h]
theorem ak3 {l:List (List UInt8)} {w:Word} {ws:List Word} {s:aU} (h:fJ l w.text=none):fB l s (w::ws)=(0#64,some w.pos):=by simp only[fB,h]
theorem U4 (b:Nat) (o:Option Int) (l:List (List UInt8)) (ws:List Word) {σ:ab} (h:BB σ b o) (hl:l.length≤100000) (hw:ws.length≤1000000000) :
    ak prog 231 [.ptr (.out b) 0,.sl .no 1 (cU l),.sl .no 2 (ws.map Word.enc)] σ fun v σ' => v = .int .u64 ((fB l 0#64 ws).1.toNat:Nat)∧σ' = σ.set b (lQ (o.or (fB l 0#64 ws).2)):=by
  refine adp.calls ?_;simp only[aI,MV,am,aP,Nat.reduceAdd,p8,aD];obtain⟨F,hF⟩:∃F:Nat→aU→St,∀i x,F i x=⟨[.ptr (.out b) 0,.sl .no 1 (cU l),.any,.any,.any,.any,.any,.int .u64 (x.toNat:Nat),.any,.any,.any,.sl .no 2 (ws.map Word.enc),.int .i64 (ws.length:Nat),.int .i64 (i:Nat)]++List.replicate 18 .any,[],σ⟩:=⟨_,fun _ _=>rfl⟩;obtain⟨JF,aO⟩:∃JF:Nat→aU→Prop,∀i x,JF i x=(fB l 0#64 ws=fB l x (ws.drop i)):=⟨_,fun _ _=>rfl⟩;refine db (ws.length) F JF _ aO ?_ ?_ ?_
  · refine dA (0#64) ?_ ?_ ?_ ?_
    · exact Eq.mpr (aO _ _) (rfl)
    all_goals simp[hF,List.replicate,am,bj]
  · rintro i x hi hJ;rw[jU hi] at hJ;simp only[hF,List.replicate,am,c8 hi];refine bx (by omega) (yZ (cc hi)) ?_;simp only[am,Nat.reduceAdd,Word.enc];refine cl (rN l ws[i].text σ hl) ?_;simp only[am,yE];cases hf:fJ l ws[i].text with
    | none =>
      rw[ak3 hf] at hJ;simp only[am,wV];refine(Et b o ws[i].pos h).mono ?_;rintro v σ' ⟨rfl,rfl⟩;simp only[am,aM];exact aF rfl (ab.aS _) ⟨by rw[hJ];rfl,by rw[hJ]⟩
    | some k =>
      rw[ak4 hf] at hJ;simp only[am,zi,cp];refine cl (A5 x (k:Nat) σ) ?_;simp only[am,aM,ca hi (by omega)];refine eK (im x (k:Nat)) hi ?_ ?_ ?_ ?_ ?_ ?_
      · exact Eq.mpr (aO _ _) (hJ)
      all_goals simp[hF,List.replicate,am,bj,bn,cK,V.lo]
  · rintro x hJ;rw[BP] at hJ;have e:σ.set b (lQ (o.or (fB l 0#64 ws).2))=σ:=by rw[hJ];simp only[fB,Option.or_none];exact ab.uv h
    simp only[hF,List.replicate,am,aM,c9,aM];rw[e,hJ];refine az ?_;simp[V.erase,fB]
def EP:=And.intro @am <| And.intro @aP <| And.intro @p8 <| And.intro @aV.af <| And.intro @Nd.af @Nd.fl
def ap6:=And.intro @am <| And.intro @aM <| And.intro @yY @aV.af
theorem amQ (b:Nat) (o:Option Int) (f:aV) (n:Nd) {σ:ab} (h:BB σ b o) (hg:TZ σ) (hl:f.names.length≤100000) (hk:n.kids.length≤1000000000) (hw:∀k∈n.kids,k.names.length≤1000000000) :
    ak prog 232 [.ptr (.out b) 0,.agg f.enc,.agg n.enc] σ fun v σ' => v = .int .u64 ((mo f 0#64 o n.kids).1.toNat:Nat)∧σ' = σ.set b (lQ (mo f 0#64 o n.kids).2):=by
  refine adq.calls ?_;simp only[aI,MW,EP,Nat.reduceAdd,aD];have jZ:σ.set b (lQ o)=σ:=ab.uv h;obtain⟨F,hF⟩:∃F:Nat→aU × Option Int→St,∀i x,F i x=⟨[.ptr (.out b) 0,.any,.any,.any,.ptr (.loc 0) 0,.ptr (.loc 1) 0,.any,.int .u64 (x.1.toNat:Nat),.any,.any,.any,.any,.sl .no 5 (n.kids.map Nd.enc),.int .i64 (n.kids.length:Nat),.int .i64 (i:Nat)]++List.replicate 28 .any,[f.enc,n.enc],σ.set b (lQ x.2)⟩:=⟨_,fun _ _=>rfl⟩;obtain⟨JF,aO⟩:∃JF:Nat→aU × Option Int→Prop,∀i x,JF i x=(mo f 0#64 o n.kids=mo f x.1 x.2 (n.kids.drop i)):=⟨_,fun _ _=>rfl⟩;refine db (n.kids.length) F JF _ aO ?_ ?_ ?_
  · refine dA ((0#64,o)) ?_ ?_ ?_ ?_
    · exact Eq.mpr (aO _ _) (rfl)
    all_goals simp[hF,List.replicate,am,bj,jZ]
  · rintro i ⟨x,o'⟩ hi hJ;rw[jU hi] at hJ;simp only at hJ;have h1:BB (σ.set b (lQ o')) b o' := gU;simp only[hF,List.replicate,am,c8 hi];refine bx (by omega) (l_ (cc hi)) ?_;simp only[EP,Nat.reduceAdd];refine(rN f.names n.kids[i].text _ hl).mono ?_;rintro v cY ⟨rfl,rfl⟩;simp only[am,yE];cases hf:fJ f.names n.kids[i].text with
    | none =>
      simp only[mo,hf] at hJ;simp only[am,Nd.fl,wV];refine(Et b o' n.kids[i].pos h1).mono ?_;rintro v σ' ⟨rfl,rfl⟩;simp only[am,aM];exact aF rfl (ab.aS _) ⟨by rw[hJ];rfl,by rw[hJ]⟩
    | some k =>
      simp only[mo,hf] at hJ;simp only[am,aV.af,Nd.fl,zi,cp];refine bh.intro (U4 b o' f.names n.kids[i].names h1 hl (hw _ (eZ hi))) ?_;simp only[am,Rl.af];refine bh.intro (afj f.rel k (fB f.names 0#64 n.kids[i].names).1 (aoA hg h)) ?_;simp only[ap6,ca hi (by omega)];refine eK ((x|||yL f.rel k (fB f.names 0#64 n.kids[i].names).1,o'.or (fB f.names 0#64 n.kids[i].names).2)) hi ?_ ?_ ?_ ?_ ?_ ?_
      · exact Eq.mpr (aO _ _) (hJ)
      all_goals simp[hF,List.replicate,am,bj,bn,cK,V.lo,aV.bO,Nd.bO]
  · rintro⟨x,o'⟩ hJ;rw[BP] at hJ;simp only[hF,List.replicate,am,aM,c9,aM];rw[hJ];refine az ?_;simp[V.erase,mo]
theorem ak5 (b:Nat) (o:Option Int) (f:aV) (n:Nd) {σ:ab} (h:BB σ b o) (hl:f.names.length≤100000) :
    ak prog 233 [.ptr (.out b) 0,.agg f.enc,.agg n.enc] σ fun v σ' => v = .int .u64 ((mj f n).1.toNat:Nat)∧σ' = σ.set b (lQ (o.or (mj f n).2)):=by
  refine adr.calls ?_;simp only[aI,MX,EP,Nat.reduceAdd];refine cl (rN f.names n.text _ hl) ?_;simp only[am,yE];cases hf:fJ f.names n.text with
  | none =>
    simp only[am,Nd.fl,wV];refine(Et b o n.pos h).mono ?_;rintro v σ' ⟨rfl,rfl⟩;simp only[am];exact aF rfl (ab.aS _) ⟨by simp only[mj,hf];rfl,by simp only[mj,hf]⟩
  | some k =>
    have e:σ.set b (lQ (o.or (mj f n).2))=σ:=by simp only[mj,hf,Option.or_none];exact ab.uv h
    rw[e];simp only[am,aV.af,zi,cp]
    by_cases h4:f.kind=4
    · simp only[am,Rl.af,aV.af,aC h4];refine cl (agn f.rel k σ) ?_;simp only[am];refine az ?_;simp[V.erase,mj,hf,h4]
    · simp only[am,aV.af,jO,aA h4];refine cl (am1 f.names.length k σ) ?_;simp only[am,yW];refine az ?_;simp[V.erase,mj,hf,h4]
theorem ahb (f:aV) (σ:ab):ak prog 229 [.agg f.enc] σ fun v σ' => v = .int .i64 (vU f)∧σ' = σ:=by
  refine adm.calls ?_;simp only[aI,MS,am,aP,aV.af]
  by_cases h2:f.kind=2
  · simp only[am,aC h2];refine az ?_;simp[V.erase,vU,h2]
  · simp only[am,aA h2]
    by_cases h3:f.kind=3
    · simp only[am,aC h3];refine az ?_;simp[V.erase,vU,h3]
    · simp only[am,aA h3];refine az ?_;simp[V.erase,vU,h2,h3]
theorem apl (b:Nat) (o:Option Int) (f:aV) (n:Nd) {σ:ab} (h:BB σ b o) (hg:TZ σ) (hl:f.names.length≤100000) (hk:n.names.length≤1000000000∧n.kids.length≤1000000000) (hw:∀k∈n.kids,k.names.length≤1000000000) :
    ak prog 177 [.ptr (.out b) 0,.agg f.enc,.agg n.enc] σ fun v σ' => v = .int .u64 ((ka f n o).1.toNat:Nat)∧σ' = σ.set b (lQ (ka f n o).2):=by
  refine acJ.calls ?_;simp only[aI,Mi,EP,Nat.reduceAdd];refine bh.intro (ahb f σ) ?_;simp only[am,Nd.fl]
  by_cases hq:n.kind=vU f
  · simp only[am,aV.af,aC hq]
    by_cases h2:f.kind=2
    · have e:ka f n o=((fB f.names 0#64 n.names).1,o.or (fB f.names 0#64 n.names).2):=by rw[ka,aw hq,aw h2]
      simp only[am,aV.af,Nd.fl,aC h2];refine(U4 b o f.names n.names h hl hk.1).mono ?_;rintro v σ' ⟨rfl,rfl⟩;simp only[am];exact aF rfl (ab.aS _) ⟨by rw[e];rfl,by rw[e]⟩
    · simp only[am,aA h2]
      by_cases h3:f.kind=3
      · have e:ka f n o=mo f 0#64 o n.kids:=by rw[ka,aw hq,ah h2,aw h3]
        simp only[am,aV.af,Nd.af,aC h3];refine(amQ b o f n h hg hl hk.2 hw).mono ?_;rintro v σ' ⟨rfl,rfl⟩;simp only[am];exact aF rfl (ab.aS _) ⟨by rw[e];rfl,by rw[e]⟩
      · have e:ka f n o=((mj f n).1,o.or (mj f n).2):=by rw[ka,aw hq,ah h2,ah h3]
        simp only[am,aV.af,Nd.af,aA h3];refine(ak5 b o f n h hl).mono ?_;rintro v σ' ⟨rfl,rfl⟩;simp only[am];exact aF rfl (ab.aS _) ⟨by rw[e];rfl,by rw[e]⟩
  · have e:ka f n o=(0#64,o.or (some n.pos)):=by rw[ka,ah hq]
    simp only[am,Nd.fl,aA hq];refine(Et b o n.pos h).mono ?_;rintro v σ' ⟨rfl,rfl⟩;simp only[am];exact aF rfl (ab.aS _) ⟨by rw[e];rfl,by rw[e]⟩
def ap7:=And.intro @am <| And.intro @aP <| And.intro @a_.af @Nd.af
theorem akN (s:a_) (n:Nd) (σ:ab):ak prog 175 [.agg s.enc,.agg n.enc] σ fun v σ' => v = .aT [.sl .no 5 ((ic s n).map Nd.enc),.bool (mh s n)]∧σ' = σ:=by
  refine acH.calls ?_;simp only[aI,Mg,ap7,Nat.reduceAdd];cases ht:s.tuple with
  | false =>
    simp only[am,Nd.af];refine az ?_;simp[V.erase,aX,ic,mh,ht]
  | true =>
    simp only[am,Nd.fl]
    by_cases h4:n.kind=4
    · simp only[am,aD,a_.af,Nd.fl,aD,aC h4]
      by_cases hl:n.kids.length=s.a8.length
      · simp only[aC (show (n.kids.length:Int)=s.a8.length by omega)];refine az ?_;simp[V.erase,aX,ic,mh,ht,h4,hl]
      · simp only[aA (show ¬(n.kids.length:Int)=s.a8.length by omega)];refine az ?_;simp[V.erase,aX,ic,mh,ht,h4,hl]
    · simp only[am,aA h4];refine az ?_;simp[V.erase,aX,ic,mh,ht,h4]
def Nd.ok (n:Nd):Prop:=n.names.length≤1000000000∧n.kids.length≤1000000000∧∀k∈n.kids,k.names.length≤1000000000
theorem Ga {s:a_} {n:Nd} (h:(mh s n&&kx s&&n.g_)=false):fS s n=(.zero,some n.pos):=by rw[fS,h];rfl
theorem aaA {s:a_} {n:Nd} (h1:mh s n=true) (h2:kx s=true) (h3:n.g_=true):fS s n=rI s (ic s n):=by rw[fS,h1,h2,h3];rfl
theorem UU {s:a_} (h:kx s=true):1≤s.a8.length∧s.a8.length≤8∧(s.tuple=false→s.a8.length=1):=by
  simp only[kx,bm,cq,jS] at h;refine⟨h.1.1.1,h.1.1.2,fun ht=>?_⟩
  rcases h.1.2 with h | h
  · rw[ht] at h;simp at h
  · exact h
theorem akO {s:a_} {n:Nd} (h1:mh s n=true) (h2:kx s=true):(ic s n).length=s.a8.length:=by
  have hl:=(UU h2).2.2;unfold ic;unfold mh at h1;cases ht:s.tuple with
  | false=>simp[hl ht]
  | true=>rw[ht] at h1;simpa using And.right (by simpa using h1)
def ap8:=And.intro @am <| And.intro @aP <| And.intro @a_.af <| And.intro @aN.af @Nd.af
theorem Gb (s:a_) (n:Nd) {σ:ab} (hg:TZ σ) (bw:s.ok) (hn:∀k∈ic s n,Nd.ok k) (hwt:n.wt≤aE) :
    ak prog 125 [.agg s.enc,.agg n.enc] σ fun v σ' => v = .aT [.agg (fS s n).1.enc,.agg (qD (fS s n).2)]∧σ' = σ:=by
  refine aca.calls ?_;simp only[aI,LM,ap8,Nat.reduceAdd];refine cl (akN s n σ) ?_;simp only[am];have done:∀(e:aN × Option Int) (t:List V) (l:List (List V)) (cY:ab),e=fS s n→σ.sub cY→mB (fun v σ' => v=V.aT [.agg (fS s n).1.enc,.agg (qD (fS s n).2)]∧σ' = σ) ⟨t,l,cY⟩ (.aT [.agg e.1.enc,.agg (qD e.2)]):=fun e t l cY he hs=>by
    subst he;exact aF (by simp[V.bS,bd,aN.cx,qD]) hs ⟨by simp[V.erase,aX,aN.cw,qD],rfl⟩
  cases hp:mh s n with
  | false =>
    simp only[am,Nat.reduceAdd,aN.af,Nd.fl];exact done (.zero,some n.pos) _ _ _ (Ga (by rw[hp];rfl)).symm (ab.aS _)
  | true =>
    simp only[am,a_.af];refine cl (anC s hg bw) ?_;cases hr:kx s with
    | false =>
      simp only[am,Nat.reduceAdd,aN.af,Nd.fl];exact done (.zero,some n.pos) _ _ _ (Ga (by rw[hp,hr];rfl)).symm (ab.aS _)
    | true =>
      simp only[am,Nd.af];refine cl (Pn _ n σ (bt _) hwt) ?_;cases hc:n.g_ with
      | false =>
        simp only[am,Nat.reduceAdd,aN.af,Nd.fl];exact done (.zero,some n.pos) _ _ _ (Ga (by rw[hp,hr,hc];rfl)).symm (ab.aS _)
      | true =>
        have vv:=aaA hp hr hc;obtain⟨yf,hl8,_⟩:=UU hr;have lA:=akO hp hr;simp only[am,Nat.reduceAdd];refine gE fun b hb=>?_
        have hs:∀c,σ.sub (σ.set b c):=fun c=>fv hb
        have hgb:∀c,TZ (σ.set b c):=fun c=>(hs c).2.2 _ _ hg
        simp only[am,aD,a_.af,aD];obtain⟨F,hF⟩:∃F:Nat→aN × Option Int→St,∀i x,F i x=⟨[.any,.any,.any,.any,.ptr (.loc 2) 0,.ptr (.loc 3) 0,.ptr (.loc 4) 0,.sl .no 5 ((ic s n).map Nd.enc),.any,.ptr (.out b) 0,.any,.any,.any,.any,.any,.any,.any,.any,.any,.any,.any,.any,.any,.any,.any,.any,.any,.any,.any,.any,.any,.any,.any,.any,.any,.any,.any,.sl .no 67 (s.a8.map aV.enc),.int .i64 (s.a8.length:Nat),.int .i64 (i:Nat)]++List.replicate 26 .any,[s.enc,n.enc,aN.zero.enc,[.int .i64 0,.int .i64 0],x.1.enc],σ.set b (lQ x.2)⟩:=⟨_,fun _ _=>rfl⟩;obtain⟨JF,aO⟩:∃JF:Nat→aN × Option Int→Prop,∀i x,JF i x=(zR s (ic s n) i x):=⟨_,fun _ _=>rfl⟩;refine db (s.a8.length) F JF _ aO ?_ ?_ ?_
        · refine dA ((.zero,none)) ?_ ?_ ?_ ?_
          · exact Eq.mpr (aO _ _) (afb)
          all_goals simp[hF,List.replicate,am,bj,lQ]
        · rintro i ⟨e,o⟩ hi hJ;have Ho:i<(ic s n).length:=by omega
          have h8:i<8:=by omega
          have dO:=afa hJ;rw[nF hi,nF Ho] at dO;have Au:=hn _ (eZ Ho);simp only[hF,List.replicate,am,c8 hi];refine bx (by omega) (Gh hi) ?_;simp only[am,Nat.reduceAdd,aV.af];refine bx (by omega) (l_ (cc Ho)) ?_;simp only[am,aV.af,Nd.af];refine bh.intro (apl b o s.a8[i] (ic s n)[i] gU (hgb _) (bw.2 _ (eZ hi)) ⟨Au.1,Au.2.1⟩ Au.2.2) ?_;simp only[am,bV];refine iH (by omega) (by omega) ?_;simp only[BJ,aN.yQ h8,aN.yR h8,ca hi (by omega)];refine eK ((e.put i (ka s.a8[i] (ic s n)[i] o).1,(ka s.a8[i] (ic s n)[i] o).2)) hi ?_ ?_ ?_ ?_ ?_ ?_
          · exact Eq.mpr (aO _ _) (dO)
          all_goals simp[hF,List.replicate,am,bj,bn,cK,V.lo,Nd.bO,a_.bO,aN.bO]
        · rintro⟨e,o⟩ hJ;have kg:=ae' hJ;rw[←vv] at kg;simp only[hF,List.replicate,am,aM,c9,aM,lQ];cases o with
          | some p =>
            simp only[am,Nat.reduceAdd,aN.af,B6,B5];exact done (.zero,some p) _ _ _ (by rw[kg];rfl) (hs _)
          | none =>
            simp only[am,Nat.reduceAdd,aN.af,wW];exact done (e,none) _ _ _ (by rw[kg];rfl) (hs _)
def NG:AC:=.seq (.aa [⟨(some 2),.box 5 (.s 0),none⟩,⟨(some 3),.box 5 (.s 1),none⟩,⟨(some 4),.mv (.c (.bool false)),none⟩])
 (.seq (.seq (.aa [xf 0 7 2,xo 8 7,xf 0 9 3,xo 10 9,xb .neq 11 8 10,U 12 11,xh 12 (xf 2 13 2),xh 12 (xo 14 13),xh 12 (xf 2 15 3),xh 12 (xo 16 15),⟨(some 17),.gP .neq (.s 14) (.s 16),(some (12,false))⟩,⟨(some 18),.pick (.s 12) (.c (.bool true)) (.s 17),none⟩,U 19 18,xh 19 (xf 3 20 2),xh 19 (xo 21 20),xh 19 (xL 22 21),xh 19 (xf 3 23 3),xh 19 (xo 24 23),xh 19 (xL 25 24),xh 19 (xb .neq 26 22 25),⟨(some 27),.pick (.s 19) (.c (.bool true)) (.s 26),none⟩,U 28 27,xh 28 (xf 4 29 2),xh 28 (xo 30 29),xh 28 (xL 31 30),xh 28 (xf 4 32 3),xh 28 (xo 33 32),xh 28 (xL 34 33),xh 28 (xb .neq 35 31 34),⟨(some 36),.pick (.s 28) (.c (.bool true)) (.s 35),none⟩])
 (.cond (.s 36) (.seq (.aa [⟨(some 4),.mv (.c (.bool false)),none⟩])
 (.ret))
 (.skip)))
 (.seq (.seq (.aa [xf 3 37 2,xo 38 37,xL 39 38,xi 40 0])
 (.block 0 (.loop (.seq (.aa [xb .lss 41 40 39])
 (.seq (.cond (.s 41) (.skip)
 (.exit 0))
 (.seq (.block 1 (.seq (.aa [U 42 40,U 5 42])
 (.seq (.draw [(xf 3 43 2,[]),(xo 44 43,[]),(U 45 5,[]),(xA 2 46 44 45,[]),(xf 0 47 46,[]),(xo 48 47,[]),(xf 3 49 3,[]),(xo 50 49,[]),(U 51 5,[]),(xA 2 52 50 51,[]),(xf 0 53 52,[]),(xo 54 53,[]),(⟨(some 55),.gP .neq (.s 48) (.s 54),none⟩,[])])
 (.cond (.s 55) (.seq (.aa [⟨(some 4),.mv (.c (.bool false)),none⟩])
 (.ret))
 (.skip)))))
 (.aa [xB .add 56 40 1,U 40 56])))))))
 (.seq (.seq (.aa [xf 4 57 2,xo 58 57,xL 59 58,xi 60 0])
 (.block 2 (.loop (.seq (.aa [xb .lss 61 60 59])
 (.seq (.cond (.s 61) (.skip)
 (.exit 2))
 (.seq (.block 3 (.seq (.aa [U 62 60,U 6 62])
 (.seq (.draw [(xf 4 63 2,[]),(xo 64 63,[]),(U 65 6,[]),(xA 5 66 64 65,[]),(xl 5 67 66,[]),(xf 4 68 3,[]),(xo 69 68,[]),(U 70 6,[]),(xA 5 71 69 70,[]),(xl 5 72 71,[]),(xc 43 73 [.s 67,.s 72],[]),(⟨(some 74),.not (.s 73),none⟩,[])])
 (.cond (.s 74) (.seq (.aa [⟨(some 4),.mv (.c (.bool false)),none⟩])
 (.ret))
 (.skip)))))
 (.aa [xB .add 75 60 1,U 60 75])))))))
 (.seq (.aa [⟨(some 4),.mv (.c (.bool true)),none⟩])
 (.ret)))))
theorem ad7:aJ prog 43 NG [.tmp 4] 76:=⟨f43,⟨[],[],[]⟩,func43,by kernel_rfl,by kernel_rfl,by kernel_rfl,by kernel_rfl⟩
def H3 (n m:Nd) (σ:ab) (i:Nat):St :=
  ⟨[.any,.any,.ptr (.loc 0) 0,.ptr (.loc 1) 0]++List.replicate 35 .any++[.int .i64 n.names.length,.int .i64 (i:Nat)]++List.replicate 35 .any,[n.enc,m.enc],σ⟩
def H2 (n m:Nd) (σ:ab) (i:Nat):St :=
  ⟨[.any,.any,.ptr (.loc 0) 0,.ptr (.loc 1) 0]++List.replicate 55 .any++[.int .i64 n.kids.length,.int .i64 (i:Nat)]++List.replicate 15 .any,[n.enc,m.enc],σ⟩
theorem JD:∀(k:Nat) (n m:Nd) (σ:ab),n.wt≤k→n.wt≤aE→ak prog 43 [.agg n.enc,.agg m.enc] σ fun v σ' => v = .bool (n.eN m)∧σ' = σ:=by
  intro k;induction k with
  | zero=>intro n m σ h _;cases n;simp only[Nd.wt] at h;omega
  | succ k vN =>
    intro n m σ hk hw;have hn:=BG n;have hbig:n.wt<2^62:=by simp only[aE] at hw;omega
    rw[Nd.Em];refine ad7.calls ?_;simp only[aI,NG,p9,Nat.reduceAdd]
    by_cases k1:n.kind=m.kind
    case' neg =>
      simp only[am,aA k1];refine az ?_;simp[V.erase]
    simp only[am,bQ,Nd.fl,k1]
    by_cases k2:n.text=m.text
    case' neg =>
      simp only[am,aA k2];refine az ?_;simp[V.erase]
    simp only[am,aD,bQ,Nd.fl,k2]
    by_cases k3:n.names.length=m.names.length
    case' neg =>
      have k3' : ¬(n.names.length:Int)=m.names.length:=by omega
      simp only[am,aA k3']
      have:fj n.names m.names=false:=by cases hs:fj n.names m.names with
        | false=>rfl
        | true=>exact absurd (UC hs) k3
      refine az ?_;simp[V.erase,this]
    simp only[am,aD,bQ,Nd.fl,k3]
    by_cases k4:n.kids.length=m.kids.length
    case' neg =>
      have k4' : ¬(n.kids.length:Int)=m.kids.length:=by omega
      simp only[am,aA k4']
      have:fN n.kids m.kids=false:=by cases hs:fN n.kids m.kids with
        | false=>rfl
        | true=>exact absurd (UI hs) k4
      refine az ?_;simp[V.erase,this]
    simp only[am,aD,bQ,Nd.fl,k4];refine jj (fun p:{i:Nat // i≤n.names.length∧fj (n.names.take i) (m.names.take i)=true}=>H3 n m σ p.1) (fun p=>n.names.length - p.1) ?_ ?_
    · refine aZ.enter ⟨0,by simp,by simp[fj]⟩ ?_ bY.rfl bC.rfl;simp[H3,List.replicate,am,k3]
    rintro⟨i,hi,ha⟩;simp only[H3,List.replicate,am];refine fk ?_ ?_
    · intro ag;have ag:i<n.names.length:=by simpa using ag
      obtain⟨fy,gm⟩:=UB ag (by omega) k3 ha;simp only[am,Nd.fl];refine bx (by omega) (yZ (cc ag)) ?_;simp only[am,Nd.fl,Word.enc];refine bx (by omega) (yZ (cc (show i<m.names.length by omega))) ?_;simp only[am,Word.enc]
      by_cases he:n.names[i].text=m.names[i].text
      · simp only[am,bQ,he];rw[wrap_i64 (by omega) (by omega)];exact aZ.again ⟨i+1,ag,by rw[fy];exact aC he⟩ (by simp;omega) (by simp[am]) bY.rfl bC.rfl
      · simp only[am,aA he];refine az ?_;simp[V.erase,gm (aA he)]
    intro ag;have ag:i=n.names.length:=by simp at ag;omega
    subst ag;rw[dv,k3,dv] at ha;simp only[am,aD,Nd.fl];refine jj (fun p:{i:Nat // i≤n.kids.length∧fN (n.kids.take i) (m.kids.take i)=true}=>H2 n m σ p.1) (fun p=>n.kids.length - p.1) ?_ ?_
    · refine aZ.enter ⟨0,by simp,by simp[fN]⟩ ?_ bY.rfl bC.rfl;simp[H2,List.replicate,am,k4]
    rintro⟨i,hi,hb⟩;simp only[H2,List.replicate,am];refine fk ?_ ?_
    · intro ag;have ag:i<n.kids.length:=by simpa using ag
      have nN:=l7 (n:=n) (eZ ag);obtain⟨fy,gm⟩:=UH ag (by omega) k4 hb;simp only[am,Nd.fl];refine bx (by omega) (l_ (cc ag)) ?_;simp only[am,Nd.af,Nd.fl];refine bx (by omega) (l_ (cc (show i<m.kids.length by omega))) ?_;simp only[am,Nd.af];refine bh.intro (vN n.kids[i] m.kids[i] _ (by omega) (by omega)) ?_;cases he:n.kids[i].eN m.kids[i]
      · simp only[am];refine az ?_;simp[V.erase,gm he]
      · simp only[am];rw[wrap_i64 (by omega) (by omega)];exact aZ.again ⟨i+1,ag,by rw[fy];exact he⟩ (by simp;omega) (by simp[am]) bY.rfl bC.rfl
    intro ag;have ag:i=n.kids.length:=by simp at ag;omega
    subst ag;rw[dv,k4,dv] at hb;simp only[am];refine az ?_;simp[V.erase,ha,hb]
def s1:List UInt8:=[43,40,120,44,35,123,97,44,98,125,41]
def s2:List UInt8:=[43,40,41]
def s3:List UInt8:=[91,102,61,120,44,103,61,35,104,105,124,114,93]
def Nv:AC:=.seq (.aa [⟨(some 4),.mv (.c (.bool false)),none⟩])
 (.seq (.seq (.aa [U 6 0,xL 7 6,U 8 1,xL 9 8,xb .neq 10 7 9])
 (.cond (.s 10) (.seq (.aa [⟨(some 4),.mv (.c (.bool false)),none⟩])
 (.ret))
 (.skip)))
 (.seq (.seq (.aa [xi 5 0])
 (.block 0 (.loop (.seq (.seq (.aa [U 11 5,U 12 0,xL 13 12,xb .lss 14 11 13])
 (.cond (.s 14) (.skip)
 (.exit 0)))
 (.seq (.block 1 (.seq (.draw [(U 17 0,[]),(U 18 5,[]),(xA 10 19 17 18,[]),(xl 10 20 19,[]),(U 21 1,[]),(U 22 5,[]),(xA 10 23 21 22,[]),(xl 10 24 23,[]),(⟨(some 25),.jw true [1,1,1,1,1,1,1,1,1,1] (.s 20) (.s 24),none⟩,[])])
 (.cond (.s 25) (.seq (.aa [⟨(some 4),.mv (.c (.bool false)),none⟩])
 (.ret))
 (.skip))))
 (.aa [U 15 5,xB .add 16 15 1,U 5 16]))))))
 (.seq (.aa [⟨(some 4),.mv (.c (.bool true)),none⟩])
 (.ret))))
theorem adX:aJ prog 33 Nv [.tmp 4] 26:=⟨f33,⟨[],[],[]⟩,func33,by kernel_rfl,by kernel_rfl,by kernel_rfl,by kernel_rfl⟩
def N2:AC:=.seq (.aa [⟨(some 2),.box 2 (.s 0),none⟩,xi 4 0,xi 5 0])
 (.seq (.aa [xi 6 (-1),xi 7 (-1)])
 (.seq (.seq (.aa [xf 0 10 2,xo 11 10,xL 12 11,xi 13 0])
 (.block 0 (.loop (.seq (.aa [xb .lss 14 13 12])
 (.seq (.cond (.s 14) (.skip)
 (.exit 0))
 (.seq (.block 1 (.seq (.aa [U 15 13,U 8 15])
 (.seq (.aa [U 16 6,xB .lss 17 16 0,U 18 17,xg 18 (xf 0 19 2),xg 18 (xo 20 19),xg 18 (U 21 8),xg 18 (xA 3 22 20 21),xg 18 (xf 0 23 22),xg 18 (xo 24 23),xg 18 (U 25 1),⟨(some 26),.gP .eql (.s 24) (.s 25),(some (18,true))⟩,⟨(some 27),.pick (.s 18) (.s 26) (.c (.bool false)),none⟩])
 (.cond (.s 27) (.aa [U 28 8,U 6 28])
 (.skip)))))
 (.aa [xB .add 29 13 1,U 13 29])))))))
 (.seq (.seq (.aa [xf 1 30 2,xo 31 30,xL 32 31,xi 33 0])
 (.block 2 (.loop (.seq (.aa [xb .lss 34 33 32])
 (.seq (.cond (.s 34) (.skip)
 (.exit 2))
 (.seq (.block 3 (.seq (.aa [U 35 33,U 9 35])
 (.seq (.aa [U 36 7,xB .lss 37 36 0,U 38 37,xg 38 (xf 1 39 2),xg 38 (xo 40 39),xg 38 (U 41 9),xg 38 (xA 3 42 40 41),xg 38 (xf 0 43 42),xg 38 (xo 44 43),xg 38 (U 45 1),⟨(some 46),.gP .eql (.s 44) (.s 45),(some (38,true))⟩,⟨(some 47),.pick (.s 38) (.s 46) (.c (.bool false)),none⟩])
 (.cond (.s 47) (.aa [U 48 9,U 7 48])
 (.skip)))))
 (.aa [xB .add 49 33 1,U 33 49])))))))
 (.seq (.aa [U 50 6,U 51 7,U 4 50,U 5 51])
 (.ret)))))
theorem aeo:aJ prog 63 N2 [.tmp 4,.tmp 5] 52:=⟨f63,⟨[],[],[]⟩,func63,by kernel_rfl,by kernel_rfl,by kernel_rfl,by kernel_rfl⟩
def LL:AC:=.seq (.aa [⟨(some 3),.box 2 (.s 0),none⟩,⟨(some 5),.box 5 (.s 2),none⟩,⟨(some 6),.alloc tS,none⟩,⟨(some 7),.mv (.c (.bool false)),none⟩])
 (.seq (.seq (.aa [xf 0 10 5,xo 11 10,xB .eql 12 11 1])
 (.cond (.s 12) (.seq (.aa [xl 2 13 3,U 14 1,xf 2 15 5,xo 16 15,xc 174 17 [.s 13,.s 14,.s 16],xe 18 17 0,xe 19 17 1,xs 10 6 18,U 7 19])
 (.ret))
 (.skip)))
 (.seq (.s_ [8,9] [(xf 0 21 3,[]),(xo 22 21,[]),(U 23 1,[]),(xA 3 24 22 23,[]),(xf 1 25 24,[]),(xl 2 26 25,[]),(xf 4 27 5,[]),(xo 28 27,[]),(⟨(some 29),.jH 5 (.s 28) (.c (.int .i64 0)),none⟩,[]),(xl 5 30 29,[]),(xc 125 31 [.s 26,.s 30],[]),(U 20 31,[]),(xe 32 20 0,[]),(xe 33 20 1,[]),(⟨none,.mv (.c .any),none⟩,[]),(⟨none,.mv (.c .any),none⟩,[]),(⟨(some 8),.kH 8 (.s 32),none⟩,[]),(⟨(some 9),.kH 2 (.s 33),none⟩,[])])
 (.seq (.draw [(xl 8 34 8,[]),(⟨(some 35),.build tS [(0,1,(.c (.int .i64 2))),(2,8,(.s 34))],none⟩,[]),(xf 0 36 9,[]),(xo 37 36,[1]),(xB .eql 38 37 0,[]),(xs 10 6 35,[]),(U 7 38,[])])
 (.ret))))
theorem ab':aJ prog 124 LL [.cell 6 true 10,.tmp 7] 39:=⟨f124,⟨[],[],[]⟩,func124,by kernel_rfl,by kernel_rfl,by kernel_rfl,by kernel_rfl⟩
def Mf:AC:=.seq (.aa [⟨(some 3),.box 2 (.s 0),none⟩,⟨(some 6),.alloc tS,none⟩,⟨(some 7),.mv (.c (.bool false)),none⟩])
 (.seq (.aa [xl 2 11 3,U 12 2,xc 63 13 [.s 11,.s 12],U 10 13,xe 14 10 0,xe 15 10 1,U 8 14,U 9 15])
 (.seq (.seq (.aa [U 16 9,xB .lss 17 16 0,U 18 17,xh 18 (xf 1 19 3),xh 18 (xo 20 19),xh 18 (U 21 9),xh 18 (xA 3 22 20 21),xh 18 (xf 1 23 22),xh 18 (xo 24 23),xh 18 (xB .neq 25 24 1),⟨(some 26),.pick (.s 18) (.c (.bool true)) (.s 25),none⟩,U 27 26,xh 27 (xf 1 28 3),xh 27 (xo 29 28),xh 27 (U 30 9),xh 27 (xA 3 31 29 30),xh 27 (xf 2 32 31),xh 27 (xo 33 32),xh 27 (U 34 1),xh 27 (xb .neq 35 33 34),⟨(some 36),.pick (.s 27) (.c (.bool true)) (.s 35),none⟩])
 (.cond (.s 36) (.seq (.aa [⟨(some 37),.build tS [],none⟩,xs 10 6 37,⟨(some 7),.mv (.c (.bool false)),none⟩])
 (.ret))
 (.skip)))
 (.seq (.aa [U 38 9,⟨(some 39),.build tS [(0,1,(.c (.int .i64 1))),(1,1,(.s 38))],none⟩,xs 10 6 39,⟨(some 7),.mv (.c (.bool true)),none⟩])
 (.ret))))
theorem acG:aJ prog 174 Mf [.cell 6 true 10,.tmp 7] 40:=⟨f174,⟨[],[],[]⟩,func174,by kernel_rfl,by kernel_rfl,by kernel_rfl,by kernel_rfl⟩
theorem yw {l:List dw} {j:Nat} (h:j<l.length):(l.map dw.enc)[((j:Nat):Int).toNat]?=some l[j].enc:=by simp[h]
theorem yU {l:List cQ} {j:Nat} (h:j<l.length):(l.map cQ.enc)[((j:Nat):Int).toNat]?=some l[j].enc:=by simp[h]
theorem sq (s:ar) (t:List UInt8) (σ:ab) (h1:s.bc.length≤100000) (h2:s.vars.length≤100000) :
    ak prog 63 [.agg s.enc,.str t] σ fun v σ' => v = .aT [.int .i64 (cp (gR s.bc t)),.int .i64 (cp (iy s.vars t))]∧σ' = σ:=by
  refine aeo.calls ?_;simp only[aI,N2,am,aP,Nat.reduceAdd,ar.af,aD];rw[gR,iy];generalize hpL:IF s.bc t=pL;generalize hpV:IG s.vars t=pV;have eL:∀i (hi:i<s.bc.length),pL i=decide (s.bc[i].name=t):=fun i hi=>by rw[←hpL];simp only[IF,cc hi]
  have eV:∀i (hi:i<s.vars.length),pV i=decide (s.vars[i].name=t):=fun i hi=>by rw[←hpV];simp only[IG,cc hi]
  obtain⟨F,hF⟩:∃F:Nat→Unit→St,∀i x,F i x=⟨[.any,.str t,.ptr (.loc 0) 0,.any,.any,.any,.int .i64 (cp ((List.range i).find? pL)),.int .i64 (-1),.any,.any,.any,.sl .no 3 (s.bc.map dw.enc),.int .i64 (s.bc.length:Nat),.int .i64 (i:Nat)]++List.replicate 38 .any,[s.enc],σ⟩:=⟨_,fun _ _=>rfl⟩;obtain⟨JF,aO⟩:∃JF:Nat→Unit→Prop,∀i x,JF i x=(True):=⟨_,fun _ _=>rfl⟩;refine db (s.bc.length) F JF _ aO ?_ ?_ ?_
  · refine dA (()) ?_ ?_ ?_ ?_
    · exact Eq.mpr (aO _ _) (trivial)
    all_goals simp[hF,List.replicate,am,bj,cp]
  · rintro i x hi -;simp only[hF,List.replicate,am,c8 hi,yE];cases hf:(List.range i).find? pL with
    | some k =>
      simp only[am,aM,zi,ca hi (by omega)];refine nxt (()) hi ?_ ?_ ?_ ?_
      · exact Eq.mpr (aO _ _) (trivial)
      all_goals simp[hF,List.replicate,am,bj,qj,zc,hf]
    | none =>
      simp only[am,ar.af,wV];refine bx (by omega) (yw hi) ?_;simp only[am,ar.af];rw[←eL i hi];cases hb:pL i with
      | false =>
        simp only[am,aM,ca hi (by omega)];refine nxt (()) hi ?_ ?_ ?_ ?_
        · exact Eq.mpr (aO _ _) (trivial)
        all_goals simp[hF,List.replicate,am,bj,qj,zc,hf,hb]
      | true =>
        simp only[am,aM,ca hi (by omega)];refine nxt (()) hi ?_ ?_ ?_ ?_
        · exact Eq.mpr (aO _ _) (trivial)
        all_goals simp[hF,List.replicate,am,bj,qj,zc,hf,hb,cp]
  · rintro x -;simp only[hF,List.replicate,am,aM,c9,aM,ar.af,aD];clear hF aO F JF;obtain⟨F,hF⟩:∃F:Nat→Unit→St,∀i x,F i x=⟨[.any,.str t,.ptr (.loc 0) 0,.any,.any,.any,.int .i64 (cp ((List.range s.bc.length).find? pL)),.int .i64 (cp ((List.range i).find? pV)),.any,.any,.any,.any,.any,.any,.any,.any,.any,.any,.any,.any,.any,.any,.any,.any,.any,.any,.any,.any,.any,.any,.any,.sl .no 3 (s.vars.map cQ.enc),.int .i64 (s.vars.length:Nat),.int .i64 (i:Nat)]++List.replicate 18 .any,[s.enc],σ⟩:=⟨_,fun _ _=>rfl⟩;obtain⟨JF,aO⟩:∃JF:Nat→Unit→Prop,∀i x,JF i x=(True):=⟨_,fun _ _=>rfl⟩;refine db (s.vars.length) F JF _ aO ?_ ?_ ?_
    · refine dA (()) ?_ ?_ ?_ ?_
      · exact Eq.mpr (aO _ _) (trivial)
      all_goals simp[hF,List.replicate,am,bj,cp]
    · rintro i x hi -;simp only[hF,List.replicate,am,c8 hi,yE];cases hf:(List.range i).find? pV with
      | some k =>
        simp only[am,aM,zi,ca hi (by omega)];refine nxt (()) hi ?_ ?_ ?_ ?_
        · exact Eq.mpr (aO _ _) (trivial)
        all_goals simp[hF,List.replicate,am,bj,qj,zc,hf]
      | none =>
        simp only[am,ar.af,wV];refine bx (by omega) (yU hi) ?_;simp only[am,ar.af];rw[←eV i hi];cases hb:pV i with
        | false =>
          simp only[am,aM,ca hi (by omega)];refine nxt (()) hi ?_ ?_ ?_ ?_
          · exact Eq.mpr (aO _ _) (trivial)
          all_goals simp[hF,List.replicate,am,bj,qj,zc,hf,hb]
        | true =>
          simp only[am,aM,ca hi (by omega)];refine nxt (()) hi ?_ ?_ ?_ ?_
          · exact Eq.mpr (aO _ _) (trivial)
          all_goals simp[hF,List.replicate,am,bj,qj,zc,hf,hb,cp]
    · rintro x -;simp only[hF,List.replicate,am,aM,c9,aM];refine az ?_;simp[V.erase,aX]
theorem abA {l:List cQ} {t:List UInt8} {k:Nat} (h:iy l t=some k):k<l.length:=(CM h).1
def AJ (o:Option aW):V:=.aT [.agg (match o with | some i=>i | none=>aW.zero).enc,.bool o.isSome]
def ap9:=And.intro @am <| And.intro @aP <| And.intro @ar.af @aW.af
theorem aoF (s:ar) (lat:Nat) (t:List UInt8) (σ:ab) (h1:s.bc.length≤100000) (h2:s.vars.length≤100000) :
    ak prog 174 [.agg s.enc,.int .i64 (lat:Nat),.str t] σ fun v σ' => v=AJ (sG s lat t)∧σ' = σ:=by
  refine acG.calls ?_;simp only[aI,Mf,ap9,Nat.reduceAdd];have no:∀(u:List V) (l:List (List V)),sG s lat t=none→mB (fun v σ' => v=AJ (sG s lat t)∧σ' = σ) ⟨u,l,σ⟩ (.aT [.agg aW.zero.enc,.bool false]):=fun u l h=>by
    rw[h];exact aF (by simp[V.bS,bd,aW.cx]) (ab.aS _) ⟨by simp[AJ,V.erase,aX,aW.cw],rfl⟩
  refine cl (sq s t σ h1 h2) ?_;simp only[am,yE];cases hf:iy s.vars t with
  | none =>
    simp only[am,aW.af,wV];exact no _ _ (by simp only[sG,hf])
  | some k =>
    have hk:=abA hf;have hv:s.vars[k]?=some s.vars[k]:=cc hk;simp only[am,ar.af,zi,cp];refine bx (by omega) (yU hk) ?_;simp only[am,ar.af]
    by_cases e1:s.vars[k].kind=1
    · simp only[am,ar.af,aC e1];refine bx (by omega) (yU hk) ?_;simp only[am,ar.af]
      by_cases e2:s.vars[k].lat=(lat:Nat)
      · have e:sG s lat t=some ⟨1,k,.zero⟩:=by simp only[sG,hf,hv];rw[aw ⟨e1,e2⟩]
        simp only[am,aW.af,aC e2];exact aF (by simp[V.bS,bd,aW.cx]) (ab.aS _) ⟨by simp[e,AJ,V.erase,aX,aW.cw,aW.zero],rfl⟩
      · simp only[am,aW.af,aA e2];exact no _ _ (by simp only[sG,hf,hv];rw[ah (fun h=>e2 h.2)])
    · simp only[am,aW.af,aA e1];exact no _ _ (by simp only[sG,hf,hv];rw[ah (fun h=>e1 h.1)])
theorem JS {s:ar} {lat:Nat} (h:lat<s.bc.length):ri s lat=s.bc[lat].shape:=by simp only[ri,cc h]
theorem ahG {s:ar} {lat:Nat} {n:Nd} (h1:n.kind≠1) {e:aN} (he:fS (ri s lat) (n.kids.getD 0 ib)=(e,none)):kR s lat n=some ⟨2,0,e⟩:=by rw[kR,ah h1,he]
theorem ahE {s:ar} {lat:Nat} {n:Nd} (h1:n.kind≠1) {e:aN} {p:Int} (he:fS (ri s lat) (n.kids.getD 0 ib)=(e,some p)):kR s lat n=none:=by rw[kR,ah h1,he]
theorem I_ {s:a_} {n:Nd} (hc:n.bI≤100000):∀k∈ic s n,k.names.length≤100000∧k.kids.length≤100000∧∀m∈k.kids,m.names.length≤100000:=by
  intro k hk;have Ao:k.bI≤n.bI:=by
    unfold ic at hk;split at hk
    · exact Fu (ny hk)
    · rw[lb.1 hk];exact bt _
  have h1:=zz k;have h2:=u9 k;refine⟨by omega,by omega,fun m hm=>?_⟩
  have:=ny hm
  have:=zz m
  omega
theorem akM {s:a_} {n:Nd} (hc:n.bI≤100000):∀k∈ic s n,Nd.ok k:=fun k hk=>by
  obtain⟨h1,h2,h3⟩:=I_ hc k hk;exact⟨by omega,by omega,fun m hm=>by have:=h3 m hm;omega⟩
def ER:=And.intro @am <| And.intro @aP <| And.intro @Nd.af <| And.intro @Nd.fl <| And.intro @ar.af @aW.af
theorem ahH (s:ar) (lat:Nat) (n:Nd) {σ:ab} (hg:TZ σ) (hs:s.ok) (kK:lat<s.bc.length) (hc:n.bI≤100000) (hw:n.wt≤aE) (hl:n.fg=true) (hk:n.kind=1∨n.kind=7) :
    ak prog 124 [.agg s.enc,.int .i64 (lat:Nat),.agg n.enc] σ fun v σ' => (∃i:aW,v = .aT [.agg i.enc,.bool (kR s lat n).isSome]∧∀j,kR s lat n=some j→i=j)∧σ' = σ:=by
  refine ab'.calls ?_;simp only[aI,LL,ER,Nat.reduceAdd]
  by_cases h1:n.kind=1
  · simp only[am,Nd.fl,ar.af,aC h1];refine cl (aoF s lat n.text σ hs.1 hs.2.1) ?_;simp only[am,aW.af,AJ];refine aF (by simp[V.bS,bd,aW.cx]) (ab.aS _) ⟨⟨_,by rw[kR,aw h1];simp[V.erase,aX,aW.cw];rfl,fun j hj=>?_⟩,rfl⟩;rw[kR,aw h1] at hj;rw[hj]
  · have h7:n.kind=7:=by simpa [h1] using hk
    have oC:=AQ hl h7;have hm:n.kids[0]∈n.kids:=eZ _;have tM:=ny hm;have tN:=l7 hm;simp only[am,Nat.reduceAdd,bQ,Nat.reduceLT,ar.af,aA h1];refine bx (by omega) (yw kK) ?_;simp only[am,Nd.fl,ar.af];refine bx (n:=0) (by omega) (l_ (j:=0) (cc (by omega))) ?_;simp only[am,a_.af,Nd.af];refine bh.intro (Gb s.bc[lat].shape n.kids[0] hg (hs.2.2 _ (eZ kK)) (akM (by omega)) (by omega)) ?_;obtain⟨e,he⟩:∃e,fS s.bc[lat].shape n.kids[0]=e:=⟨_,rfl⟩;rw[he];have C8 : fS (ri s lat) (n.kids.getD 0 ib)=e:=by rw[JS kK,nF (by omega)];exact he
    simp only[am,Nat.reduceAdd,aN.af,aW.af,qD];obtain⟨e,o⟩:=e;cases o with
    | none =>
      have tL:=ahG h1 C8;simp only[am,bQ,wW];exact aF (by simp[V.bS,bd,aW.cx]) (ab.aS _) ⟨⟨⟨2,0,e⟩,by rw[tL];simp[V.erase,aX,aW.cw];rfl,fun j hj=>by rw[tL] at hj;cases hj;rfl⟩,rfl⟩
    | some p =>
      have tL:=ahE h1 C8;simp only[am,eT,Int.reduceEq,B6];exact aF (by simp[V.bS,bd,aW.cx]) (ab.aS _) ⟨⟨⟨2,0,e⟩,by rw[tL];simp[V.erase,aX,aW.cw];rfl,fun j hj=>by rw[tL] at hj;simp at hj⟩,rfl⟩
theorem Pe {l:List aW} {j:Nat} (h:j<l.length):(l.map aW.enc)[((j:Nat):Int).toNat]?=some l[j].enc:=by simp[h]
theorem am8 (a b:List aW) (σ:ab) (ha:a.length≤100000) (hb:b.length≤100000):ak prog 33 [.sl .no 10 (a.map aW.enc),.sl .no 10 (b.map aW.enc)] σ fun v σ' => v = .bool (decide (a=b))∧σ' = σ:=by
  refine adX.calls ?_;simp only[aI,Nv,am,aP,Nat.reduceAdd,aD]
  by_cases aH:a.length=b.length
  · simp only[am,aC (show (a.length:Int)=b.length by omega)];obtain⟨F,hF⟩:∃F:Nat→Unit→St,∀i x,F i x=⟨[.sl .no 10 (a.map aW.enc),.sl .no 10 (b.map aW.enc),.any,.any,.any,.int .i64 (i:Nat)]++List.replicate 20 .any,[],σ⟩:=⟨_,fun _ _=>rfl⟩;obtain⟨JF,aO⟩:∃JF:Nat→Unit→Prop,∀i x,JF i x=(∀k,k<i→a[k]?=b[k]?):=⟨_,fun _ _=>rfl⟩;refine db (a.length) F JF _ aO ?_ ?_ ?_
    · refine dA (()) ?_ ?_ ?_ ?_
      · exact Eq.mpr (aO _ _) (by intro k h;omega)
      all_goals simp[hF,List.replicate,am,bj]
    · rintro i x hi hJ;have Q4:i<b.length:=by omega
      simp only[hF,List.replicate,am,c8 hi,aD];refine bx (by omega) (Pe hi) ?_;simp only[am,aW.af];refine bx (by omega) (Pe Q4) ?_;simp only[am,aW.af]
      by_cases h:a[i]=b[i]
      · simp only[am,aM,aC h,ca hi (by omega)];refine nxt (()) hi ?_ ?_ ?_ ?_
        · exact Eq.mpr (aO _ _) (w8 hJ (by rw[cc hi,cc Q4,h]))
        all_goals simp[hF,List.replicate,am,bj]
      · have e:a≠b:=fun e=>h (by subst e;rfl)
        simp only[am,aM,aA h];refine az ?_;simp[V.erase,e]
    · rintro x hJ;have e:a=b:=by
        refine Fh aH fun k h1 h2=>?_
        have:=hJ k h1
        rwa [cc h1,cc h2,aG] at this
      simp only[hF,List.replicate,am,aM,c9,aM,aD];refine az ?_;simp[V.erase,e]
  · have e:a≠b:=fun e=>aH (by rw[e])
    simp only[am,aA (show ¬(a.length:Int)=b.length by omega)];refine az ?_;simp[V.erase,e]
def FZ (o:Option (List aW)):V:=.aT [.sl .no 10 ((o.getD []).map aW.enc),.bool o.isSome]
theorem YR {s:ar} {lat:Nat} {n:Nd} (h1:lat<s.bc.length) (h2:n.fg=true):kd s (lat:Nat) n=kJ s lat n:=by
  rw[kd,aw ⟨by omega,by omega,h2⟩];rfl
def N3:AC:=.seq (.aa [⟨(some 3),.box 2 (.s 0),none⟩,⟨(some 5),.box 5 (.s 2),none⟩,⟨(some 6),.mv (.c (.sl .full 10 [])),none⟩,⟨(some 7),.mv (.c (.bool false)),none⟩])
 (.scope (.seq (.seq (.aa [U 15 1,xB .lss 16 15 0,U 17 16,xh 17 (U 18 1),xh 17 (xf 0 19 3),xh 17 (xo 20 19),xh 17 (xL 21 20),xh 17 (xb .geq 22 18 21),⟨(some 23),.pick (.s 17) (.c (.bool true)) (.s 22),none⟩,U 24 23,xh 24 (xl 5 25 5),xh 24 (xc 123 26 [.s 25]),⟨(some 27),.not (.s 26),(some (24,false))⟩,⟨(some 28),.pick (.s 24) (.c (.bool true)) (.s 27),none⟩])
 (.cond (.s 28) (.seq (.aa [⟨(some 6),.mv (.c (.sl .full 10 [])),none⟩,⟨(some 7),.mv (.c (.bool false)),none⟩])
 (.ret))
 (.skip)))
 (.seq (.aa [⟨(some 8),.mv (.c (.sl .full 10 [])),none⟩])
 (.seq (.aa [xl 5 29 5,⟨(some 30),.build [(.int .i64 0),(.int .i64 0),(.str []),(.sl .full 2 []),(.sl .full 5 []),(.int .i64 0)] [(0,5,(.s 29))],none⟩,⟨(some 31),.own (.new 6) [(.s 30)],none⟩,U 9 31])
 (.seq (.skip)
 (.seq (.block 0 (.loop (.seq (.seq (.aa [U 32 9,⟨(some 33),.own .len [(.s 32)],none⟩,xB .gtr 34 33 0])
 (.cond (.s 34) (.skip)
 (.exit 0)))
 (.block 1 (.seq (.aa [U 35 9,⟨(some 36),.own .len [(.s 35)],none⟩,xB .sub 37 36 1,U 10 37])
 (.seq (.aa [U 38 9,U 39 10,⟨(some 40),.own (.idx 6) [(.s 38),(.s 39)],none⟩,xl 6 41 40,⟨(some 11),.alloc [(.int .i64 0),(.int .i64 0),(.str []),(.sl .full 2 []),(.sl .full 5 []),(.int .i64 0)],none⟩,xs 6 11 41])
 (.seq (.aa [xi 12 3])
 (.seq (.seq (.aa [xf 0 42 11,xf 0 43 42,xo 44 43])
 (.block 2 (.seq (.seq (.aa [xB .eql 46 44 1,U 45 46])
 (.cond (.s 45) (.skip)
 (.aa [xB .eql 47 44 7,U 45 47])))
 (.cond (.s 45) (.seq (.aa [xl 2 49 3,U 50 1,xf 0 51 11,xl 5 52 51,xc 124 53 [.s 49,.s 50,.s 52],U 48 53,xe 54 48 0,xe 55 48 1,⟨(some 13),.alloc tS,none⟩,xs 10 13 54,U 14 55])
 (.seq (.seq (.aa [U 56 14,⟨(some 57),.not (.s 56),none⟩])
 (.cond (.s 57) (.seq (.aa [⟨(some 6),.mv (.c (.sl .full 10 [])),none⟩,⟨(some 7),.mv (.c (.bool false)),none⟩])
 (.ret))
 (.skip)))
 (.seq (.aa [U 58 8,xl 10 59 13,⟨(some 60),.cB 10 [(.s 59)],none⟩,xa 10 61 58 60,U 8 61])
 (.seq (.aa [U 62 9,U 63 10,⟨(some 64),.own (.j_ 6 false true false) [(.s 62),(.s 63)],none⟩,U 9 64])
 (.exit 1)))))
 (.seq (.aa [xB .eql 66 44 9,U 65 66])
 (.cond (.s 65) (.aa [xi 12 4])
 (.skip)))))))
 (.seq (.seq (.aa [xf 5 67 11,xo 68 67,xf 0 69 11,xf 4 70 69,xo 71 70,xL 72 71,xb .lss 73 68 72])
 (.cond (.s 73) (.seq (.aa [U 74 9,U 75 10,⟨(some 76),.own (.idx 6) [(.s 74),(.s 75)],none⟩,xf 5 77 76,xo 78 77,xB .add 79 78 1,⟨(some 80),.own (.idx 6) [(.s 74),(.s 75)],none⟩,xf 5 81 80,xs 1 81 79])
 (.seq (.aa [U 82 9,xf 0 83 11,xf 4 84 83,xo 85 84,xf 5 86 11,xo 87 86,xA 5 88 85 87,xl 5 89 88,⟨(some 90),.build [(.int .i64 0),(.int .i64 0),(.str []),(.sl .full 2 []),(.sl .full 5 []),(.int .i64 0)] [(0,5,(.s 89))],none⟩,⟨(some 91),.cB 6 [(.s 90)],none⟩,⟨(some 92),.own (.app 6) [(.s 82),(.s 91)],none⟩,U 9 92])
 (.exit 1)))
 (.skip)))
 (.seq (.aa [U 93 8,U 94 12,xf 0 95 11,xf 4 96 95,xo 97 96,xL 98 97,⟨(some 99),.build tS [(0,1,(.s 94)),(1,1,(.s 98))],none⟩,⟨(some 100),.cB 10 [(.s 99)],none⟩,xa 10 101 93 100,U 8 101])
 (.aa [U 102 9,U 103 10,⟨(some 104),.own (.j_ 6 false true false) [(.s 102),(.s 103)],none⟩,U 9 104])))))))))))
 (.seq (.aa [U 105 8,U 6 105,⟨(some 7),.mv (.c (.bool true)),none⟩])
 (.ret))))))))
theorem aep:aJ prog 64 N3 [.tmp 6,.tmp 7] 106:=⟨f64,⟨[33,36,40,64,76,80,92,104,100031],[],[]⟩,func64,by kernel_rfl,by kernel_rfl,by kernel_rfl,by kernel_rfl⟩
def eG (f:Nd × Nat):List V:=f.1.enc++[.int .i64 (f.2:Nat)]
section
variable {m:Nd} {d k:Nat} {x0 x1 x2 x3 x4 x5:V}
theorem nE:eG (m,d)=[.int .i64 m.kind,.int .i64 m.pos,.str m.text,.sl .no 2 (m.names.map Word.enc),.sl .no 5 (m.kids.map Nd.enc),.int .i64 (d:Nat)]:=by rw[eG,Nd.cm];rfl
theorem xO:(eG (m,d)).length=6:=by rw[nE];rfl
theorem Qm:bA (eG (m,d))=true:=by rw[nE];rfl
theorem CP:bd (eG (m,d))=true:=by rw[nE];rfl
theorem aeH:aX (eG (m,d))=eG (m,d):=by rw[nE];rfl
theorem aeL:bn k (eG (m,d))=true:=by rw[nE];rfl
theorem aeN:over [x0,x1,x2,x3,x4,x5] (eG (m,d))=eG (m,d):=by rw[nE];rfl
theorem aeJ:a9 false 1 (eG (m,d))=some (.int .i64 m.kind):=by rw[nE];rfl
theorem aeK:a9 false 1 ((eG (m,d)).drop 4)=some (.sl .no 5 (m.kids.map Nd.enc)):=by rw[nE];rfl
theorem aeG:a9 false 1 ((eG (m,d)).drop 5)=some (.int .i64 (d:Nat)):=by rw[nE];rfl
theorem aeM:takeN 5 (eG (m,d))=some m.enc:=J3 Nd.bR
theorem aeF:over [x0,x1,x2,x3,x4,.int .i64 0] m.enc=eG (m,0):=by rw[nE,Nd.cm];rfl
theorem aeI:bD 5 [x0,x1,x2,x3,x4,x5]=true:=rfl
theorem aeO:setAt (eG (m,d)) 5 [.int .i64 (k:Nat)]=eG (m,k):=by rw[nE,nE];rfl
def rO:=And.intro @xO <| And.intro @Qm <| And.intro @CP <| And.intro @aeH <| And.intro @aeL <| And.intro @aeN <| And.intro @aeJ <| And.intro @aeK <| And.intro @aeG <| And.intro @aeM <| And.intro @aeF @aeI
end
structure CF (s:ar) (lat:Nat) (n:Nd) (σ:ab) where
  fs:List (Nd × Nat)
  out:List aW
  v:V
  tk:Tk
  st:ab
  fin:oo s lat fs out=kJ s lat n
  all:∀f∈fs,f.1.fg=true∧f.1.wt≤n.wt∧f.1.bI≤n.bI
  mes:out.length+l9 fs≤2*n.bI+1
  own:dd st 6 v (fs.reverse.map eG)
  sub:wX σ st v
  gr:Gr σ st tk out.length
def yu (s:ar) (lat:Nat) (n:Nd) (out:List aW) (v:V) (tk:Tk) (σ:ab):St :=
  ⟨[.any,.int .i64 (lat:Nat),.any,.ptr (.loc 0) 0,.any,.ptr (.loc 1) 0,.any,.any,.sl tk 10 (out.map aW.enc),v]++List.replicate 96 .any,[s.enc,n.enc],σ⟩
theorem I6 {σ:ab} {k n:Nat} {v:V} {rows:List (List V)} (h:dd σ k v rows):v.lo n=true:=by obtain⟨a,cap,rfl,_⟩:=h;rfl
theorem S_ {σ σ' : ab} {k:Nat} {v:V} {rows:List (List V)} (h:dd σ k v rows) (e:σ'.box=σ.box):dd σ' k v rows:=h.frame fun b cs _ hc=>by rw[e];exact hc
theorem afg {ck σ σ' : ab} {tk:Tk} {n:Nat} (h:Gr ck σ tk n) (hs:ck.sub σ') (e:σ'.aB=σ.aB):Gr ck σ' tk n:=⟨hs,h.tk.imp id fun⟨τ,a,b,c⟩=>⟨τ,a,by rw[e];exact b,c⟩⟩
theorem SF:∀(fs:List (Nd × Nat)),fs.length≤l9 fs
  | []=>bt _
  | f::fs=>by have:=SF fs;simp only[l9,cF];omega
def ap_:=And.intro @am <| And.intro @bV <| And.intro @aP <| And.intro @Nd.af <| And.intro @ar.af @aW.af
theorem Yg (s:ar) (lat:Int) (n:Nd) {σ:ab} (hg:TZ σ) (hs:s.ok) (hw:n.wt≤aE) (hc:n.bI≤100000) :
    ak prog 64 [.agg s.enc,.int .i64 lat,.agg n.enc] σ fun v σ' => v=FZ (kd s lat n)∧σ' = σ:=by
  refine aep.calls ?_;simp only[aI,N3,ap_,Nat.reduceAdd];have no:∀(u:List V) (l:List (List V)) (cY:ab),kd s lat n=none→σ.sub cY→mB (fun v σ' => v=FZ (kd s lat n)∧σ' = σ) ⟨u,l,cY⟩ (.aT [.sl .full 10 [],.bool false]):=fun u l cY h h' => by
    rw[h];exact aF rfl h' ⟨rfl,rfl⟩
  by_cases hn:lat<0
  · simp only[am,bV,aC hn];exact no _ _ _ (by rw[kd,ah (by omega)]) (ab.aS _)
  · obtain⟨lat,rfl⟩:∃m:Nat,lat=m:=⟨lat.toNat,by omega⟩;simp only[am,aD,ar.af,aD,aA hn]
    by_cases kK:s.bc.length≤lat
    · simp only[am,bV,aC (show (s.bc.length:Int)≤(lat:Nat) by omega)];exact no _ _ _ (by rw[kd,ah (by omega)]) (ab.aS _)
    · have ag:lat<s.bc.length:=by omega
      simp only[am,Nd.af,aA (show ¬(s.bc.length:Int)≤(lat:Nat) by omega)];refine cl (AR _ n σ (bt _) hw) ?_;cases hl:n.fg with
      | false =>
        simp only[am,bV];exact no _ _ _ (by rw[kd,hl,ah (by simp)]) (ab.aS _)
      | true =>
        have hR:=YR ag hl;simp only[am,lP,Nd.af,rO];refine dd.mk1 (c:=eG (n,0)) (by simp[tX,V.cells,xO,CP,Qm,V.wd]) xO CP fun v cY hO hS=>?_
        simp only[am];obtain⟨I,hI⟩:∃I:CF s lat n σ→St,∀p,I p=yu s lat n p.out p.v p.tk p.st:=⟨_,fun _=>rfl⟩;refine jj I (fun p=>l9 p.fs) ?_ ?_
        · refine aZ.enter (I:=I) ⟨[(n,0)],[],v,.full,cY,by simp only[oo,T3];cases kJ s lat n<;>rfl,by simp[hl],?_,by simpa using hO,hS,⟨hS.sub,.inl rfl⟩⟩ ?_ ?_ ?_
          · have:=Nd.pj n
            simp only[l9,BR,dk];omega
          all_goals simp[hI,yu,List.replicate,am,bj]
        · rintro⟨fs,out,v,tk,cY,py,bT,Dd,hO,hS,hG⟩;simp only[hI,yu,List.replicate,am,lP];have hml:=SF fs;refine hO.len ?_;cases fs with
          | nil =>
            have e:kJ s lat n=some out:=by rw[←py];rfl
            simp only[am,bV,List.reverse_nil,cX,dk,show decide ((0:Int)<((0:Nat):Int))=false from rfl];exact aF rfl hG.sub ⟨by rw[hR,e];rfl,rfl⟩
          | cons f fs =>
            obtain⟨m,d⟩:=f;obtain⟨De,tN,tM⟩:=bT (m,d) (by simp);simp only at De tN tM;have dp:(List.map eG ((m,d)::fs).reverse).length=fs.length+1:=by simp
            have fy:(List.map eG ((m,d)::fs).reverse)[fs.length]?=some (eG (m,d)):=by simp
            have Rz:(List.map eG ((m,d)::fs).reverse).take fs.length=List.map eG fs.reverse:=by simp
            have Ap:fs.length+1≤2*n.bI+1:=by simp only[cF] at hml;omega
            have tI:TZ cY:=hG.sub.2.2 _ _ hg;simp only[am,lP,dp,show decide ((0:Int)<((fs.length+1:Nat):Int))=true from aC (by omega)];refine hO.len ?_;simp only[am,lP,dp];rw[wrap_i64 (by omega) (by omega),show ((fs.length+1:Nat):Int) - 1=(fs.length:Nat) by omega];refine hO.idx (by omega) (j:=(fs.length:Nat)) (c:=eG (m,d)) (by rw[iv];exact fy) fun b cs rest hb hcs Hf=>?_
            rw[iv] at Hf ⊢;have rX:takeN 6 (cs.drop (fs.length*6))=some (eG (m,d)):=by rw[Hf];exact J3 xO
            simp only[am,Nat.reduceAdd,hcs,rX,rO]
            by_cases hk:m.kind=1∨m.kind=7
            · have kQ:(decide (m.kind=1)=true)∨(decide (m.kind=1)=false∧decide (m.kind=7)=true):=by
                by_cases h1:m.kind=1
                · exact .inl (aC h1)
                · exact .inr ⟨aA h1,aC (by simpa [h1] using hk)⟩
              have tL:=amr (s:=s) (lat:=lat) (d:=d) (fs:=fs) (out:=out) hk;rw[tL] at py
              rcases kQ with e1 | ⟨e1,e2⟩
              case' inl=>simp only[am,Nd.af,ar.af,e1,rO]
              case' inr=>simp only[am,Nd.af,ar.af,e1,e2,rO]
              all_goals
                refine(ahH s lat m tI hs ag (by omega) (by omega) De hk).mono ?_;rintro v' σ' ⟨⟨i,rfl,hi⟩,rfl⟩;simp only[am,Nat.reduceAdd,aW.af];cases Hs:kR s lat m with
                | none =>
                  rw[Hs] at py;simp only[am,bV,wW];exact no _ _ _ (by rw[hR,←py]) hG.sub
                | some j =>
                  obtain rfl:=hi j Hs;rw[Hs] at py;simp only[am,aW.af,B6];refine Gr.app (by simpa using hG) (by simp only[l9] at Dd;simp[aE];omega) fun iP ir zY hB _=>?_
                  simp only[am,lP];refine(S_ hO hB).take (m:=fs.length) (by omega) (iv _) (by rw[dp];omega) fun v2 qF cR=>?_
                  rw[Rz] at qF;simp only[am,bV,Nat.reduceEqDiff,reduceCtorEq];refine aZ.qq (I:=I) ⟨fs,out++[i],v2,iP,ir,py,fun f hf=>bT f (KW _ hf),by simp only[l9] at Dd;rw[bz,jn];omega,qF,⟨zY.sub,fun b hb=>hS.new b (by rw[←cR];exact hb)⟩,by simpa using zY⟩ (by simp only[l9];omega) ?_ ?_ ?_ ?_ ?_
                  all_goals simp[hI,yu,List.replicate,am,bj,bn,cK,V.lo,ar.bO,Nd.bO,I6 qF]
            · have e1:decide (m.kind=1)=false:=aA fun h=>hk (.inl h)
              have e7:decide (m.kind=7)=false:=aA fun h=>hk (.inr h)
              simp only[am,e1,e7];have vA:=R0 De hk;have Ao:=u9 m
              by_cases h9:m.kind=9
              case' pos =>
                have eo:oW m=⟨4,m.kids.length,.zero⟩:=by rw[oW,aw h9]
                simp only[am,aD,aD,aC h9,rO]
              case' neg =>
                have eo:oW m=⟨3,m.kids.length,.zero⟩:=by rw[oW,ah h9]
                simp only[am,aD,aD,aA h9,rO]
              all_goals
                by_cases hd:d<m.kids.length
                · have QZ:cs.drop (fs.length*6+5)=(eG (m,d)).drop 5++rest:=by
                    rw[←sR,Hf,KN (by rw[xO];omega)]
                  have h5:(eG (m,d)).drop 5=[.int .i64 (d:Nat)]:=by rw[nE];rfl
                  have afZ:a9 false 1 (cs.drop (fs.length*6+5))=some (.int .i64 (d:Nat)):=by rw[QZ,h5];rfl
                  have afQ:bD 1 (cs.drop (fs.length*6+5))=true:=by rw[QZ,h5];rfl
                  obtain⟨qF,dG⟩:=hO.put (off:=5) (x:=[.int .i64 ((d+1:Nat):Int)]) fy hb hcs (by simp);have kn:(List.map eG ((m,d)::fs).reverse).set fs.length (setAt (eG (m,d)) 5 [.int .i64 ((d+1:Nat):Int)])=List.map eG ((m,d+1)::fs).reverse:=by
                    rw[aeO];simp
                  rw[kn] at qF;have Df:m.kids[d]∈m.kids:=eZ hd;have hkw:=l7 Df;have aql:=ny Df;simp only[am,lP,c8 hd];refine hO.idx (by omega) (j:=(fs.length:Nat)) (c:=eG (m,d)) (by rw[iv];exact fy) fun b2 F6 amm cR afF _=>?_
                  obtain rfl:b=b2:=by rw[hb] at cR;exact lM cR
                  rw[iv];simp only[am,lP,hcs,afZ,ca hd (by omega)];refine hO.idx (by omega) (j:=(fs.length:Nat)) (c:=eG (m,d)) (by rw[iv];exact fy) fun b2 F6 amm cR afF _=>?_
                  obtain rfl:b=b2:=by rw[hb] at cR;exact lM cR
                  rw[iv];simp only[am,hcs,afQ,rO];refine bx (by omega) (l_ (cc hd)) ?_;simp only[am,lP,Nd.af,rO];refine qF.app (m:=[eG (m.kids[d],0)]) (by simp[xO]) (by simp[CP]) (by simp[aE];omega) fun v3 σ3 QM vn=>?_
                  have QR:=(hS.step dG).step vn;have hG3:=afg hG QR.sub (vn.aB.trans dG.aB);simp only[am,bV,reduceCtorEq];refine aZ.qq (I:=I) ⟨(m.kids[d],0)::(m,d+1)::fs,out,v3,tk,σ3,by rw[←amq hk hd];exact py,?_,?_,by simpa using QM,QR,hG3⟩ (SE hd) ?_ ?_ ?_ ?_ ?_
                  · intro f hf
                    rcases iR.1 hf with rfl | hf
                    · exact⟨vA _ Df,by simp only;omega,by simp only;omega⟩
                    · rcases iR.1 hf with rfl | hf
                      · exact⟨De,tN,tM⟩
                      · exact bT f (KW _ hf)
                  · have:=SE (fs:=fs) hd;omega
                  all_goals simp[hI,yu,List.replicate,am,bj,bn,cK,V.lo,ar.bO,Nd.bO,I6 QM]
                · simp only[am,aD,aW.af,aD,aA (show ¬(d:Int)<(m.kids.length:Nat) by omega),rO];refine Gr.app (by simpa using hG) (by simp only[l9] at Dd;simp[aE];omega) fun iP ir zY hB _=>?_
                  simp only[am,lP];refine(S_ hO hB).take (m:=fs.length) (by omega) (iv _) (by rw[dp];omega) fun v2 qF cR=>?_
                  rw[Rz] at qF;simp only[am];refine aZ.qq (I:=I) ⟨fs,out++[oW m],v2,iP,ir,by rw[←amn hk (Nat.le_of_not_lt hd)];exact py,fun f hf=>bT f (KW _ hf),by simp only[l9] at Dd;rw[bz,jn];omega,qF,⟨zY.sub,fun b hb=>hS.new b (by rw[←cR];exact hb)⟩,by simpa using zY⟩ (by simp only[l9];omega) ?_ ?_ ?_ ?_ ?_
                  all_goals simp[hI,yu,List.replicate,am,bj,bn,cK,V.lo,ar.bO,Nd.bO,eo,aW.zero,I6 qF]
def N6:AC:=.seq (.aa [⟨(some 1),.box 2 (.s 0),none⟩,⟨(some 2),.mv (.c (.bool false)),none⟩])
 (.seq (.seq (.aa [xf 0 7 1,xo 8 7,xL 9 8,xB .gtr 10 9 20,U 11 10,xh 11 (xf 1 12 1),xh 11 (xo 13 12),xh 11 (xL 14 13),xh 11 (xB .gtr 15 14 80),⟨(some 16),.pick (.s 11) (.c (.bool true)) (.s 15),none⟩])
 (.cond (.s 16) (.seq (.aa [⟨(some 2),.mv (.c (.bool true)),none⟩])
 (.ret))
 (.skip)))
 (.seq (.seq (.aa [xf 0 17 1,xo 18 17,xL 19 18,xi 20 0])
 (.block 0 (.loop (.seq (.aa [xb .lss 21 20 19])
 (.seq (.cond (.s 21) (.skip)
 (.exit 0))
 (.seq (.block 1 (.seq (.aa [xA 3 22 18 20,xl 3 23 22,⟨(some 4),.alloc [(.str []),(.bool false),(.sl .full 67 [])],none⟩,xs 3 4 23])
 (.seq (.aa [xf 1 24 4,xl 2 25 24,xc 17 26 [.s 25],U 27 26,xh 27 (xf 0 28 4),xh 27 (xo 29 28),xh 27 (xT 30 29),xh 27 (xB .gtr 31 30 40),⟨(some 32),.pick (.s 27) (.c (.bool true)) (.s 31),none⟩])
 (.cond (.s 32) (.seq (.aa [⟨(some 2),.mv (.c (.bool true)),none⟩])
 (.ret))
 (.skip)))))
 (.aa [xB .add 33 20 1,U 20 33])))))))
 (.seq (.seq (.aa [xf 1 34 1,xo 35 34,xL 36 35,xi 37 0])
 (.block 2 (.loop (.seq (.aa [xb .lss 38 37 36])
 (.seq (.cond (.s 38) (.skip)
 (.exit 2))
 (.seq (.block 3 (.seq (.aa [xA 3 39 35 37,xl 3 40 39,⟨(some 6),.alloc [(.str []),(.int .i64 0),(.int .i64 0)],none⟩,xs 3 6 40])
 (.seq (.aa [xf 0 41 6,xo 42 41,xT 43 42,xB .gtr 44 43 40])
 (.cond (.s 44) (.seq (.aa [⟨(some 2),.mv (.c (.bool true)),none⟩])
 (.ret))
 (.skip)))))
 (.aa [xB .add 45 37 1,U 37 45])))))))
 (.seq (.aa [⟨(some 2),.mv (.c (.bool false)),none⟩])
 (.ret)))))
theorem fn7:aJ prog 7 N6 [.tmp 2] 46:=⟨f7,⟨[],[],[]⟩,func7,by kernel_rfl,by kernel_rfl,by kernel_rfl,by kernel_rfl⟩
def Ma:AC:=.seq (.aa [⟨(some 1),.box 2 (.s 0),none⟩,⟨(some 2),.mv (.c (.bool false)),none⟩])
 (.seq (.seq (.aa [xf 1 6 1,xo 7 6,xL 8 7,xB .gtr 9 8 12])
 (.cond (.s 9) (.seq (.aa [⟨(some 2),.mv (.c (.bool true)),none⟩])
 (.ret))
 (.skip)))
 (.seq (.seq (.aa [xi 3 0])
 (.block 0 (.loop (.seq (.seq (.aa [U 10 3,xf 1 11 1,xo 12 11,xL 13 12,xb .lss 14 10 13])
 (.cond (.s 14) (.skip)
 (.exit 0)))
 (.seq (.block 1 (.seq (.aa [xf 1 17 1,xo 18 17,U 19 3,xA 67 20 18 19,xl 67 21 20,⟨(some 4),.alloc rK,none⟩,xs 67 4 21])
 (.seq (.seq (.aa [xf 1 22 4,xo 23 22,xL 24 23,xB .gtr 25 24 70])
 (.cond (.s 25) (.seq (.aa [⟨(some 2),.mv (.c (.bool true)),none⟩])
 (.ret))
 (.skip)))
 (.seq (.aa [xi 5 0])
 (.block 2 (.loop (.seq (.seq (.aa [U 26 5,xf 1 27 4,xo 28 27,xL 29 28,xb .lss 30 26 29])
 (.cond (.s 30) (.skip)
 (.exit 2)))
 (.seq (.block 3 (.seq (.aa [xf 1 33 4,xo 34 33,U 35 5,xA 1 36 34 35,xo 37 36,xT 38 37,xB .gtr 39 38 40])
 (.cond (.s 39) (.seq (.aa [⟨(some 2),.mv (.c (.bool true)),none⟩])
 (.ret))
 (.skip))))
 (.aa [U 31 5,xB .add 32 31 1,U 5 32])))))))))
 (.aa [U 15 3,xB .add 16 15 1,U 3 16]))))))
 (.seq (.aa [⟨(some 2),.mv (.c (.bool false)),none⟩])
 (.ret))))
theorem acB:aJ prog 17 Ma [.tmp 2] 40:=⟨f17,⟨[],[],[]⟩,func17,by kernel_rfl,by kernel_rfl,by kernel_rfl,by kernel_rfl⟩
def tm (f:aV):Bool:=decide (70<f.names.length)||f.names.any fun t=>decide (40<t.length)
theorem Xv (s:a_):s5 s=(decide (12<s.a8.length)||s.a8.any tm):=rfl
theorem w9 {α:Type} {l:List α} {p:α→Bool} {i:Nat} (hi:i<l.length) (h:p l[i]=true):l.any p=true:=za.2 ⟨_,eZ hi,h⟩
theorem Cg {α:Type} {l:List α} {p:α→Bool} (h:∀k∈l,p k=false):l.any p=false:=by
  rw[Fe];exact fun k hk=>by rw[h k hk];simp
def ap':=And.intro @am <| And.intro @aM <| And.intro @aV.af @jO
theorem Xu (s:a_) (σ:ab):ak prog 17 [.agg s.enc] σ fun v σ' => v = .bool (s5 s)∧σ' = σ:=by
  refine acB.calls ?_;simp only[aI,Ma,am,aP,a_.af,aD];rw[Xv]
  by_cases h1:12<s.a8.length
  · simp only[am,aC (show (12:Int)<s.a8.length by omega)];refine az ?_;simp[V.erase,h1]
  · simp only[am,aA (show ¬(12:Int)<s.a8.length by omega)];rw[aA h1,wL];obtain⟨F,hF⟩:∃F:Nat→Unit→St,∀i x,F i x=⟨[.any,.ptr (.loc 0) 0,.any,.int .i64 (i:Nat)]++List.replicate 36 .any,[s.enc],σ⟩:=⟨_,fun _ _=>rfl⟩;obtain⟨JF,aO⟩:∃JF:Nat→Unit→Prop,∀i x,JF i x=(∀f∈s.a8.take i,tm f=false):=⟨_,fun _ _=>rfl⟩;refine db (s.a8.length) F JF _ aO ?_ ?_ ?_
    · refine dA (()) ?_ ?_ ?_ ?_
      · exact Eq.mpr (aO _ _) (by simp)
      all_goals simp[hF,List.replicate,am,bj]
    · rintro i x hi hJ;simp only[hF,List.replicate,am,c8 hi,a_.af,aD];refine bx (by omega) (Gh hi) ?_;simp only[am,aV.af,jO]
      by_cases h2:70<s.a8[i].names.length
      · simp only[am,aM,aC (show (70:Int)<s.a8[i].names.length by omega)];refine az ?_;simp[V.erase,w9 hi (show tm s.a8[i]=true by rw[tm,aC h2];rfl)]
      · simp only[am,aA (show ¬(70:Int)<s.a8[i].names.length by omega)];obtain⟨F2,dG⟩:∃F2:Nat→Unit→St,∀j y,F2 j y=⟨[.any,.ptr (.loc 0) 0,.any,.int .i64 (i:Nat),.ptr (.loc 1) 0,.int .i64 (j:Nat)]++List.replicate 34 .any,[s.enc,s.a8[i].enc],σ⟩:=⟨_,fun _ _=>rfl⟩;obtain⟨ga,fT⟩:∃ga:Nat→Unit→Prop,∀j y,ga j y=(∀t∈s.a8[i].names.take j,decide (40<t.length)=false):=⟨_,fun _ _=>rfl⟩;refine db (s.a8[i].names.length) F2 ga _ fT ?_ ?_ ?_
        · refine dA (()) ?_ ?_ ?_ ?_
          · exact Eq.mpr (fT _ _) (by simp)
          all_goals simp[dG,List.replicate,am,bj]
        · rintro j y hj nI;simp only[dG,List.replicate,am,c8 hj,aV.af,jO];refine bx (by omega) (El hj) ?_;simp only[am,nF hj]
          by_cases h3:40<s.a8[i].names[j].length
          · simp only[am,aM,aC (show (40:Int)<s.a8[i].names[j].length by omega)];refine az ?_;simp[V.erase,w9 hi (show tm s.a8[i]=true by rw[tm,w9 hj (aC h3)];simp)]
          · simp only[am,aM,aA (show ¬(40:Int)<s.a8[i].names[j].length by omega),ca hj (by omega)];refine nxt (()) hj ?_ ?_ ?_ ?_
            · exact Eq.mpr (fT _ _) (Bp nI hj (aA h3))
            all_goals simp[dG,List.replicate,am,bj]
        · rintro y nI;rw[dv] at nI;simp only[dG,List.replicate,ap',c9,Nat.reduceEqDiff,reduceCtorEq];simp only[ca hi (by omega)];refine eK (()) hi ?_ ?_ ?_ ?_ ?_ ?_
          · exact Eq.mpr (aO _ _) (Bp hJ hi (show tm s.a8[i]=false by rw[tm,aA h2,Cg nI];rfl))
          all_goals simp[hF,List.replicate,am,bj,bn,cK,V.lo,a_.bO]
    · rintro x hJ;rw[dv] at hJ;simp only[hF,List.replicate,am,aM,c9,aM,a_.af,aD];refine az ?_;simp[V.erase,Cg hJ]
section
variable {l:dw} {v:cQ} {a b c:V} {m:Nat}
theorem dw.Ed:takeN 3 l.enc=some l.enc:=rfl
theorem dw.Ec:over [a,b,c] l.enc=l.enc:=rfl
theorem dw.Ea:l.enc.length=3:=rfl
theorem dw.Eb:bA l.enc=true:=rfl
theorem cQ.Ea:v.enc.length=3:=rfl
theorem cQ.Eb:bA v.enc=true:=rfl
theorem cQ.Ed:takeN 3 v.enc=some v.enc:=rfl
theorem cQ.Ec:over [a,b,c] v.enc=v.enc:=rfl
end
def uc (l:dw):Bool:=s5 l.shape||decide (40<l.name.length)
def EK (v:cQ):Bool:=decide (40<v.name.length)
theorem Xr (s:ar):u1 s=(decide (20<s.bc.length)||decide (80<s.vars.length)||s.bc.any uc||s.vars.any EK):=rfl
theorem Xq (s:ar) (σ:ab):ak prog 7 [.agg s.enc] σ fun v σ' => v = .bool (u1 s)∧σ' = σ:=by
  refine fn7.calls ?_;simp only[aI,N6,am,aP,ar.af,aD,ar.af,aD];rw[Xr]
  by_cases h1:20<s.bc.length
  · simp only[am,aC (show (20:Int)<s.bc.length by omega)];refine az ?_;simp[V.erase,h1]
  · simp only[am,aD,ar.af,aD,ar.af,aD,aA (show ¬(20:Int)<s.bc.length by omega)]
    by_cases h2:80<s.vars.length
    · simp only[am,aC (show (80:Int)<s.vars.length by omega)];refine az ?_;simp[V.erase,h2]
    · simp only[am,aD,ar.af,aD,ar.af,aD,aA (show ¬(80:Int)<s.vars.length by omega)];rw[aA h1,aA h2,Bool.or_self,wL];obtain⟨F,hF⟩:∃F:Nat→Unit→St,∀i x,F i x=⟨[.any,.ptr (.loc 0) 0,.any,.any,.any,.any,.any,.any,.any,.any,.any,.any,.any,.any,.any,.any,.any,.any,.sl .no 3 (s.bc.map dw.enc),.int .i64 (s.bc.length:Nat),.int .i64 (i:Nat)]++List.replicate 25 .any,[s.enc],σ⟩:=⟨_,fun _ _=>rfl⟩;obtain⟨JF,aO⟩:∃JF:Nat→Unit→Prop,∀i x,JF i x=(∀f∈s.bc.take i,uc f=false):=⟨_,fun _ _=>rfl⟩;refine db (s.bc.length) F JF _ aO ?_ ?_ ?_
      · refine dA (()) ?_ ?_ ?_ ?_
        · exact Eq.mpr (aO _ _) (by simp)
        all_goals simp[hF,List.replicate,am,bj]
      · rintro i x hi hJ;simp only[hF,List.replicate,am,c8 hi];refine bx (by omega) (yw hi) ?_;simp only[am,a_.af,ar.af,a_.af,ar.af,dw.Ea,dw.Eb,dw.Ed,dw.Ec];refine cl (Xu s.bc[i].shape σ) ?_;cases h3:s5 s.bc[i].shape with
        | true =>
          simp only[am,aM,aM];refine az ?_;simp[V.erase,w9 hi (show uc s.bc[i]=true by rw[uc,h3];rfl)]
        | false =>
          simp only[am,ar.af,ar.af]
          by_cases h4:40<s.bc[i].name.length
          · simp only[am,aM,aM,aC (show (40:Int)<s.bc[i].name.length by omega)];refine az ?_;simp[V.erase,w9 hi (show uc s.bc[i]=true by rw[uc,aC h4,Bool.or_true])]
          · simp only[am,aM,aM,aA (show ¬(40:Int)<s.bc[i].name.length by omega),ca hi (by omega)];refine eK (()) hi ?_ ?_ ?_ ?_ ?_ ?_
            · exact Eq.mpr (aO _ _) (Bp hJ hi (show uc s.bc[i]=false by rw[uc,aA h4,h3];rfl))
            all_goals simp[hF,List.replicate,am,bj,bn,cK,V.lo,ar.bO]
      · rintro x hJ;rw[dv] at hJ;simp only[hF,List.replicate,am,aM,c9,aM,ar.af,aD,aM,ar.af,aD];obtain⟨F2,dG⟩:∃F2:Nat→Unit→St,∀j y,F2 j y=⟨[.any,.ptr (.loc 0) 0,.any,.any,.any,.any,.any,.any,.any,.any,.any,.any,.any,.any,.any,.any,.any,.any,.any,.any,.any,.any,.any,.any,.any,.any,.any,.any,.any,.any,.any,.any,.any,.any,.any,.sl .no 3 (s.vars.map cQ.enc),.int .i64 (s.vars.length:Nat),.int .i64 (j:Nat)]++List.replicate 8 .any,[s.enc],σ⟩:=⟨_,fun _ _=>rfl⟩;obtain⟨ga,fT⟩:∃ga:Nat→Unit→Prop,∀j y,ga j y=(∀f∈s.vars.take j,EK f=false):=⟨_,fun _ _=>rfl⟩;refine db (s.vars.length) F2 ga _ fT ?_ ?_ ?_
        · refine dA (()) ?_ ?_ ?_ ?_
          · exact Eq.mpr (fT _ _) (by simp)
          all_goals simp[dG,List.replicate,am,bj]
        · rintro j y hj nI;simp only[dG,List.replicate,am,c8 hj];refine bx (by omega) (yU hj) ?_;simp only[am,ar.af,ar.af,cQ.Ea,cQ.Eb,cQ.Ed,cQ.Ec]
          by_cases h4:40<s.vars[j].name.length
          · simp only[am,aM,aM,aC (show (40:Int)<s.vars[j].name.length by omega)];refine az ?_;simp[V.erase,w9 hj (show EK s.vars[j]=true from aC h4)]
          · simp only[am,aM,aM,aA (show ¬(40:Int)<s.vars[j].name.length by omega),ca hj (by omega)];refine eK (()) hj ?_ ?_ ?_ ?_ ?_ ?_
            · exact Eq.mpr (fT _ _) (Bp nI hj (show EK s.vars[j]=false from aA h4))
            all_goals simp[dG,List.replicate,am,bj,bn,cK,V.lo,ar.bO]
        · rintro y nI;rw[dv] at nI;simp only[dG,List.replicate,am,aM,c9,aM,aM];refine az ?_;simp[V.erase,Cg hJ,Cg nI]
def NU:AC:=.seq (.aa [U 12 0,xk 13 12,xf 1 14 13,xl 2 15 14,U 16 1,xc 63 17 [.s 15,.s 16],U 11 17,xe 18 11 0,xe 19 11 1,U 8 18,U 9 19])
 (.seq (.aa [U 20 0,xk 21 20,xf 0 22 21,U 23 8,xB .lss 24 23 0,U 25 24,xg 25 (U 26 9),xg 25 (xB .lss 27 26 0),⟨(some 28),.pick (.s 25) (.s 27) (.c (.bool false)),none⟩,U 29 2,xc 59 30 [.s 22,.s 28,.c (.int .i64 3),.s 29]])
 (.seq (.seq (.aa [U 31 9,xB .lss 32 31 0])
 (.cond (.s 32) (.seq (.aa [U 33 0,xk 34 33,xf 0 35 34,U 36 8,xB .geq 37 36 0,U 38 2,xc 59 39 [.s 35,.s 37,.c (.int .i64 4),.s 38]])
 (.ret))
 (.skip)))
 (.seq (.aa [U 40 0,xk 41 40,xf 1 42 41,xf 1 43 42,xo 44 43,U 45 9,xA 3 46 44 45,xl 3 47 46,⟨(some 10),.alloc [(.str []),(.int .i64 0),(.int .i64 0)],none⟩,xs 3 10 47])
 (.draw [(U 48 0,[]),(xk 49 48,[]),(xf 0 50 49,[]),(xf 1 51 10,[]),(xo 52 51,[]),(U 53 3,[]),(xb .neq 54 52 53,[]),(U 55 54,[]),(xh 55 (U 56 0),[]),(xh 55 (xk 57 56),[]),(xh 55 (xf 3 58 57),[]),(xh 55 (xo 59 58),[]),(xh 55 (xB .geq 60 59 0),[]),(xh 55 (U 61 60),[]),(xg 61 (xf 2 62 10),[]),(xg 61 (xo 63 62),[]),(xg 61 (U 64 0),[]),(xg 61 (xk 65 64),[]),(xg 61 (xf 3 66 65),[]),(xg 61 (xo 67 66),[]),(xg 61 (xb .neq 68 63 67),[]),(⟨(some 69),.pick (.s 61) (.s 68) (.c (.bool false)),(some (55,false))⟩,[]),(⟨(some 70),.pick (.s 55) (.c (.bool true)) (.s 69),none⟩,[]),(U 71 2,[]),(xc 59 72 [.s 50,.s 70,.c (.int .i64 4),.s 71],[])]))))
theorem aeh:aJ prog 56 NU [] 73:=⟨f56,⟨[],[],[]⟩,func56,by kernel_rfl,by kernel_rfl,by kernel_rfl,by kernel_rfl⟩
def NV:AC:=.seq (.aa [⟨(some 3),.box 2 (.s 1),none⟩])
 (.seq (.draw [(U 7 0,[]),(xk 8 7,[]),(xf 1 9 8,[]),(xl 2 10 9,[]),(xf 0 11 3,[]),(xo 12 11,[]),(xc 63 13 [.s 10,.s 12],[]),(U 6 13,[]),(xe 14 6 0,[]),(xe 15 6 1,[]),(U 4 14,[]),(U 5 15,[])])
 (.seq (.aa [U 16 0,U 17 4,xk 18 16,xf 3 19 18,xs 1 19 17])
 (.seq (.draw [(U 20 0,[]),(xk 21 20,[]),(xf 0 22 21,[]),(U 23 4,[]),(xB .lss 24 23 0,[]),(U 25 24,[]),(xg 25 (U 26 5),[]),(xg 25 (xB .lss 27 26 0),[]),(⟨(some 28),.pick (.s 25) (.s 27) (.c (.bool false)),none⟩,[]),(xf 1 29 3,[]),(xo 30 29,[]),(xc 59 31 [.s 22,.s 28,.c (.int .i64 3),.s 30],[])])
 (.draw [(U 32 0,[]),(xk 33 32,[]),(xf 0 34 33,[]),(U 35 4,[]),(xB .lss 36 35 0,[]),(U 37 36,[]),(xg 37 (U 38 5),[]),(xg 37 (xB .geq 39 38 0),[]),(⟨(some 40),.pick (.s 37) (.s 39) (.c (.bool false)),none⟩,[]),(xf 1 41 3,[]),(xo 42 41,[]),(xc 59 43 [.s 34,.s 40,.c (.int .i64 4),.s 42],[])]))))
theorem aei:aJ prog 57 NV [] 44:=⟨f57,⟨[],[],[]⟩,func57,by kernel_rfl,by kernel_rfl,by kernel_rfl,by kernel_rfl⟩
def NY:AC:=.seq (.aa [U 8 1])
 (.cond (.s 8) (.aa [U 9 0,U 10 0,xk 11 10,xf 0 12 11,xo 13 12,U 14 2,U 15 3,⟨(some 16),.build [(.int .i64 0),(.int .i64 0)] [(0,1,(.s 14)),(1,1,(.s 15))],none⟩,⟨(some 17),.cB 2 [(.s 16)],none⟩,xa 2 18 13 17,xk 19 9,xf 0 20 19,xs 1 20 18])
 (.skip))
theorem aek:aJ prog 59 NY [] 21:=⟨f59,⟨[],[],[]⟩,func59,by kernel_rfl,by kernel_rfl,by kernel_rfl,by kernel_rfl⟩
def LD:AC:=.seq (.aa [⟨(some 3),.box 5 (.s 1),none⟩])
 (.seq (.aa [xf 0 6 3,xo 7 6])
 (.block 0 (.seq (.aa [xB .eql 9 7 1,U 8 9])
 (.cond (.s 8) (.aa [U 10 0,xf 2 11 3,xo 12 11,xf 1 13 3,xo 14 13,xc 56 15 [.s 10,.s 12,.s 14,.c (.int .i64 1)]])
 (.seq (.aa [xB .eql 17 7 7,U 16 17])
 (.cond (.s 16) (.seq (.aa [xf 4 18 3,xo 19 18,xL 20 19,xB .gtr 21 20 0,U 22 21,xg 22 (U 23 0),xg 22 (xk 24 23),xg 22 (xf 3 25 24),xg 22 (xo 26 25),xg 22 (xB .geq 27 26 0),⟨(some 28),.pick (.s 22) (.s 27) (.c (.bool false)),none⟩])
 (.cond (.s 28) (.seq (.s_ [4,5] [(U 30 0,[]),(xk 31 30,[]),(xf 1 32 31,[]),(xf 0 33 32,[]),(xo 34 33,[]),(U 35 0,[]),(xk 36 35,[]),(xf 3 37 36,[]),(xo 38 37,[]),(xA 3 39 34 38,[]),(xf 1 40 39,[]),(xl 2 41 40,[]),(xf 4 42 3,[]),(xo 43 42,[]),(⟨(some 44),.jH 5 (.s 43) (.c (.int .i64 0)),none⟩,[]),(xl 5 45 44,[]),(xc 125 46 [.s 41,.s 45],[]),(U 29 46,[]),(xe 47 29 0,[]),(xe 48 29 1,[]),(⟨none,.mv (.c .any),none⟩,[]),(⟨none,.mv (.c .any),none⟩,[]),(⟨(some 4),.kH 8 (.s 47),none⟩,[]),(⟨(some 5),.kH 2 (.s 48),none⟩,[])])
 (.draw [(U 49 0,[]),(xk 50 49,[]),(xf 0 51 50,[]),(xf 0 52 5,[]),(xo 53 52,[]),(xB .neq 54 53 0,[]),(xf 0 55 5,[]),(xo 56 55,[]),(xf 1 57 5,[]),(xo 58 57,[]),(xc 59 59 [.s 51,.s 54,.s 56,.s 58],[])]))
 (.skip)))
 (.skip)))))))
theorem ab4:aJ prog 118 LD [] 60:=⟨f118,⟨[],[],[]⟩,func118,by kernel_rfl,by kernel_rfl,by kernel_rfl,by kernel_rfl⟩
theorem sD (σ:ab) (b τ:Nat) (l:List au) (s:ar) (lat p x y:Int) (is:Bool) (hl:l.length≤100000000) :
    ak prog 59 [.ptr (.out b) 0,.bool is,.int .i64 x,.int .i64 y] (bX σ b τ l s lat p) fun v σ' => v = .aT []∧σ' = bX σ b τ (l++if is then [⟨x,y⟩] else []) s lat p:=by
  refine aek.calls ?_;simp only[aI,NY,am,aP,Nat.reduceAdd];cases is with
  | false =>
    simp only[am,dD,dD];exact aF rfl (ab.aS _) ⟨rfl,by simp⟩
  | true =>
    simp only[am,Nat.reduceAdd,gM];refine jt (by simp[aE];omega) (by rw[aD];exact Kt) ?_;simp only[am,aD,gM,aD,jn,apT];exact aF rfl (ab.aS _) ⟨rfl,by simp⟩
theorem Bn (σ:ab) (b τ:Nat) (l:List au) (s:ar) (lat p y k:Int) (t:List UInt8) (hl:l.length≤90000000) (hs:s.ok) :
    ak prog 56 [.ptr (.out b) 0,.str t,.int .i64 y,.int .i64 k] (bX σ b τ l s lat p) fun v σ' => v = .aT []∧σ' = bX σ b τ (l++fD s lat t y k) s lat p:=by
  refine aeh.calls ?_;simp only[aI,NU,am,aP,Nat.reduceAdd,gM,ar.af];refine cl (sq s t _ hs.1 hs.2.1) ?_;cases hV:iy s.vars t with
  | none =>
    cases hL:gR s.bc t with
    | none =>
      have e:fD s lat t y k=[⟨3,y⟩]:=by rw[fD,hV,hL];rfl
      simp only[am,bQ,Int.reduceNeg,cp,Int.reduceLT];refine cl (sD σ b τ l s lat p 3 y true (by omega)) ?_;simp only[am,bQ,eT,Int.reduceNeg,Int.reduceLT,Int.reduceLE];refine cl (sD σ b τ (l++[⟨3,y⟩]) s lat p 4 y false (by simp;omega)) ?_;simp only[am,Int.reduceNeg,dD];exact aF rfl (ab.aS _) ⟨rfl,by rw[e]⟩
    | some j =>
      have e:fD s lat t y k=[⟨4,y⟩]:=by rw[fD,hV,hL];rfl
      simp only[am,Int.reduceNeg,cp,aA (show ¬((j:Nat):Int)<0 by omega)];refine cl (sD σ b τ l s lat p 3 y false (by omega)) ?_;simp only[am,bQ,Int.reduceNeg,dD,Int.reduceLT,aC (show (0:Int)≤((j:Nat):Int) by omega)];refine cl (sD σ b τ l s lat p 4 y true (by omega)) ?_;simp only[am,Int.reduceNeg];exact aF rfl (ab.aS _) ⟨rfl,by rw[e]⟩
  | some v =>
    have hv:=P4 hV;have hx:s.vars[v]?=some s.vars[v]:=cc hv;have e:fD s lat t y k=if s.vars[v].kind≠k∨(0≤lat∧s.vars[v].lat≠lat) then [⟨4,y⟩] else []:=by rw[fD,hV];simp only[hx]
    have nv:decide (((v:Nat):Int)<0)=false:=aA (by omega);have mid:ak prog 59 [.ptr (.out b) 0,.bool false,.int .i64 3,.int .i64 y] (bX σ b τ l s lat p) fun u σ' => u = .aT []∧σ' = bX σ b τ l s lat p:=by
      simpa using sD σ b τ l s lat p 3 y false (by omega)
    have fin:∀is:Bool,is=decide (s.vars[v].kind≠k∨(0≤lat∧s.vars[v].lat≠lat))→ak prog 59 [.ptr (.out b) 0,.bool is,.int .i64 4,.int .i64 y] (bX σ b τ l s lat p) fun u σ' => u = .aT []∧σ' = bX σ b τ (l++fD s lat t y k) s lat p:=fun is he=>by
      have:=sD σ b τ l s lat p 4 y is (by omega)
      rw[he] at this ⊢;rw[e];simpa using this
    cases hL:gR s.bc t
    case' none=>simp only[am,bQ,Int.reduceNeg,cp,Int.reduceLT,nv]
    case' some j =>
      simp only[am,cp,aA (show ¬((j:Nat):Int)<0 by omega)]
    all_goals
      refine cl mid ?_;simp only[am,Nat.reduceAdd,Int.reduceNeg,gM,nv];refine bx (by omega) (yU hv) ?_;simp only[am,Int.reduceNeg,ar.af,cQ.Ea,cQ.Eb,cQ.Ed,cQ.Ec]
      by_cases hk:s.vars[v].kind=k
      case neg =>
        simp only[am,Int.reduceNeg,aA hk];refine bh.intro (fin true (by simp[hk])) ?_;simp only[am,Int.reduceNeg];exact aF rfl (ab.aS _) ⟨rfl,rfl⟩
      simp only[am,Int.reduceNeg,gM,aC hk]
      by_cases h0:0≤lat
      case neg =>
        simp only[am,Int.reduceNeg,aA h0];refine bh.intro (fin false (by simp[hk,h0])) ?_;simp only[am,Int.reduceNeg];exact aF rfl (ab.aS _) ⟨rfl,rfl⟩
      simp only[am,Int.reduceNeg,gM,ar.af,aC h0]
      by_cases h1:s.vars[v].lat=lat
      case neg =>
        simp only[am,Int.reduceNeg,aA h1];refine bh.intro (fin true (by simp[h0,h1])) ?_;simp only[am,Int.reduceNeg];exact aF rfl (ab.aS _) ⟨rfl,rfl⟩
      simp only[am,Int.reduceNeg,aC h1];refine bh.intro (fin false (by simp[hk,h1])) ?_;simp only[am,Int.reduceNeg];exact aF rfl (ab.aS _) ⟨rfl,rfl⟩
theorem wA (σ:ab) (b τ:Nat) (l:List au) (s:ar) (lat p x y:Int) (hl:l.length≤100000000):ak prog 59 [.ptr (.out b) 0,.bool false,.int .i64 x,.int .i64 y] (bX σ b τ l s lat p) fun u σ' => u = .aT []∧σ' = bX σ b τ l s lat p:=by
  simpa using sD σ b τ l s lat p x y false hl
theorem Bs (σ:ab) (b τ:Nat) (l:List au) (s:ar) (lat p x y:Int) (hl:l.length≤100000000):ak prog 59 [.ptr (.out b) 0,.bool true,.int .i64 x,.int .i64 y] (bX σ b τ l s lat p) fun u σ' => u = .aT []∧σ' = bX σ b τ (l++[⟨x,y⟩]) s lat p:=by
  simpa using sD σ b τ l s lat p x y true hl
def aqa:=And.intro @am <| And.intro @aP <| And.intro @ar.af @Word.af
theorem UY (σ:ab) (b τ:Nat) (l:List au) (s:ar) (lat p:Int) (w:Word) (hl:l.length≤90000000) (hs:s.ok) :
    ak prog 57 [.ptr (.out b) 0,.agg w.enc] (bX σ b τ l s lat p) fun v σ' => v = .aT []∧σ' = bX σ b τ (l++eX s w) s (cp (gR s.bc w.text)) p:=by
  refine aei.calls ?_;simp only[aI,NV,aqa,Nat.reduceAdd,Int.reduceNeg,cp,gM];refine bh.intro (sq s w.text (bX σ b τ l s lat p) hs.1 hs.2.1) ?_;simp only[am,Int.reduceNeg,cp,gM,apU];cases hL:gR s.bc w.text with
  | none =>
    cases hV:iy s.vars w.text with
    | none =>
      have e:eX s w=[⟨3,w.pos⟩]:=by rw[eX,hL,hV];rfl
      simp only[am,bQ,Int.reduceNeg,Int.reduceLT,gM];refine bh.intro (Bs σ b τ l s (-1) p 3 w.pos (by omega)) ?_;simp only[am,bQ,eT,Int.reduceNeg,Int.reduceLT,Int.reduceLE,gM];refine bh.intro (wA σ b τ (l++[⟨3,w.pos⟩]) s (-1) p 4 w.pos (by simp;omega)) ?_;simp only[am,Int.reduceNeg];exact aF rfl (ab.aS _) ⟨rfl,by rw[e]⟩
    | some j =>
      have e:eX s w=[⟨4,w.pos⟩]:=by rw[eX,hL,hV];rfl
      simp only[am,bQ,Int.reduceNeg,Int.reduceLT,gM,aA (show ¬((j:Nat):Int)<0 by omega)];refine bh.intro (wA σ b τ l s (-1) p 3 w.pos (by omega)) ?_;simp only[am,bQ,Int.reduceNeg,Int.reduceLT,gM,aC (show (0:Int)≤((j:Nat):Int) by omega)];refine bh.intro (Bs σ b τ l s (-1) p 4 w.pos (by omega)) ?_;simp only[am,Int.reduceNeg];exact aF rfl (ab.aS _) ⟨rfl,by rw[e]⟩
  | some j =>
    have e:eX s w=[]:=by rw[eX,hL];rfl
    simp only[am,Int.reduceNeg,gM,aA (show ¬((j:Nat):Int)<0 by omega)];refine bh.intro (wA σ b τ l s (j:Nat) p 3 w.pos (by omega)) ?_;simp only[am,Int.reduceNeg,gM,aA (show ¬((j:Nat):Int)<0 by omega)];refine bh.intro (wA σ b τ l s (j:Nat) p 4 w.pos (by omega)) ?_;simp only[am,Int.reduceNeg];exact aF rfl (ab.aS _) ⟨rfl,by rw[e,dD]⟩
theorem apS {σ:ab} {b τ:Nat} {l:List au} {s:ar} {lat p:Int} (hg:TZ σ) (hb:σ.box b=none):TZ (bX σ b τ l s lat p):=hg
theorem UJ (σ:ab) (b τ:Nat) (l:List au) (s:ar) (lat p:Int) (n:Nd) (hl:l.length≤90000000) (hs:s.ok) (hg:TZ σ) (hb:σ.box b=none) (kK:lat<s.bc.length) (hc:n.bI≤100000) (hw:n.wt≤aE) :
    ak prog 118 [.ptr (.out b) 0,.agg n.enc] (bX σ b τ l s lat p) fun v σ' => v = .aT []∧σ' = bX σ b τ (l++iw s lat n) s lat p:=by
  refine ab4.calls ?_;simp only[aI,LD,p9,Nat.reduceAdd]
  by_cases h1:n.kind=1
  · simp only[am,Nd.fl,aC h1];refine cl (Bn σ b τ l s lat p n.pos 1 n.text hl hs) ?_;simp only[am];exact aF rfl (ab.aS _) ⟨rfl,by rw[iw,aw h1]⟩
  simp only[am,aA h1]
  by_cases h7:n.kind=7
  case neg =>
    simp only[am,aA h7];exact aF rfl (ab.aS _) ⟨rfl,by rw[iw,ah h1,ah h7,dD]⟩
  simp only[am,aD,Nd.fl,aD,aC h7];have ea:iw s lat n=va s lat n:=by rw[iw,ah h1,aw h7]
  by_cases hk:0<n.kids.length
  case neg =>
    simp only[am,aA (show ¬(0:Int)<(n.kids.length:Nat) by omega)];exact aF rfl (ab.aS _) ⟨rfl,by rw[ea,va,ah (fun h=>hk h.1),dD]⟩
  simp only[am,gM,aC (show (0:Int)<(n.kids.length:Nat) by omega)]
  by_cases h0:0≤lat
  case neg =>
    simp only[am,aA h0];exact aF rfl (ab.aS _) ⟨rfl,by rw[ea,va,ah (fun h=>h0 h.2),dD]⟩
  simp only[am,Nat.reduceAdd,bQ,Nat.reduceLT,gM,aC h0];obtain⟨k,rfl⟩:∃k:Nat,lat=k:=⟨lat.toNat,by omega⟩;have oC:k<s.bc.length:=by omega
  have hm:n.kids[0]∈n.kids:=eZ _;have tM:=ny hm;have tN:=l7 hm;refine bx (by omega) (yw oC) ?_;simp only[am,ar.af,Nd.fl];refine bx (n:=0) (by omega) (l_ (j:=0) (cc hk)) ?_;simp only[am,a_.af,Nd.af];refine bh.intro (Gb s.bc[k].shape n.kids[0] (apS hg hb) (hs.2.2 _ (eZ oC)) (fun m hm=>by obtain⟨a,b,c⟩:=I_ (n:=n.kids[0]) (by omega) m hm;exact⟨by omega,by omega,fun q hq=>by have:=c q hq;omega⟩) (by omega)) ?_;have eo:rJ s (k:Nat) n=(fS s.bc[k].shape n.kids[0]).2:=by rw[rJ,iv,JS oC,nF hk]
  have ee:iw s (k:Nat) n=match (fS s.bc[k].shape n.kids[0]).2 with | some q=>[⟨4,q⟩] | none=>[]:=by rw[ea,va,aw ⟨hk,h0⟩,eo];cases (fS s.bc[k].shape n.kids[0]).2<;>rfl
  generalize fS s.bc[k].shape n.kids[0]=g at ee;obtain⟨e,o⟩:=g;cases o with
  | none =>
    simp only[am,Nat.reduceAdd,bQ,aN.af,show qD none=[.int .i64 0,.int .i64 0] from rfl];refine bh.intro (wA σ b τ l s (k:Nat) p 0 0 (by omega)) ?_;simp only[am];exact aF rfl (ab.aS _) ⟨rfl,by rw[ee,dD]⟩
  | some q =>
    simp only[am,Nat.reduceAdd,eT,Int.reduceEq,aN.af,show qD (some q)=[.int .i64 4,.int .i64 q] from rfl];refine bh.intro (Bs σ b τ l s (k:Nat) p 4 q (by omega)) ?_;simp only[am];exact aF rfl (ab.aS _) ⟨rfl,by rw[ee]⟩
def NW:AC:=.seq (.aa [⟨(some 2),.eD 1 (.s 0),none⟩,⟨(some 3),.box 5 (.s 1),none⟩])
 (.seq (.aa [⟨(some 4),.lO [(.raw .nilFunc)],none⟩])
 (.seq (.aa [⟨(some 5),.gG (.func 117) [] [(.s 2),(.s 4)],none⟩,xs 1 4 5])
 (.aa [xo 6 4,xl 5 7 3,⟨(some 8),.fR (.s 6) [(.s 7)],none⟩])))
theorem aej:aJ prog 58 NW [] 9:=⟨f58,⟨[2,4],[],[]⟩,func58,by kernel_rfl,by kernel_rfl,by kernel_rfl,by kernel_rfl⟩
def LC:AC:=.seq (.aa [⟨(some 3),.box 5 (.s 0),none⟩])
 (.seq (.aa [xo 6 1,xl 5 7 3,xc 118 8 [.s 6,.s 7]])
 (.seq (.seq (.aa [xf 0 9 3,xo 10 9,xB .eql 11 10 1,U 12 11,xh 12 (xf 0 13 3),xh 12 (xo 14 13),xh 12 (xB .eql 15 14 7),⟨(some 16),.pick (.s 12) (.c (.bool true)) (.s 15),none⟩])
 (.cond (.s 16) (.ret)
 (.skip)))
 (.seq (.aa [xf 4 17 3,xo 18 17,xL 19 18,xi 20 0])
 (.block 0 (.loop (.seq (.aa [xb .lss 21 20 19])
 (.seq (.cond (.s 21) (.skip)
 (.exit 0))
 (.seq (.block 1 (.seq (.aa [xA 5 22 18 20,xl 5 23 22,⟨(some 5),.alloc [(.int .i64 0),(.int .i64 0),(.str []),(.sl .full 2 []),(.sl .full 5 [])],none⟩,xs 5 5 23])
 (.aa [xo 24 2,xl 5 25 5,⟨(some 26),.fR (.s 24) [(.s 25)],none⟩])))
 (.aa [xB .add 27 20 1,U 20 27])))))))))
theorem ab3:aJ prog 117 LC [] 28:=⟨f117,⟨[],[],[]⟩,func117,by kernel_rfl,by kernel_rfl,by kernel_rfl,by kernel_rfl⟩
theorem anG (σ:ab) (b τ b2 b4:Nat) (s:ar) (lat p:Int) (hs:s.ok) (hg:TZ σ) (hb:σ.box b=none) (kK:lat<s.bc.length) (n2:b2≠b) (n4:b4≠b) (h2:σ.box b2=some [.ptr (.out b) 0]) (h4:σ.box b4=some [.fn (.func 117) [] [.ptr (.out b2) 0,.ptr (.out b4) 0]]) :
    ∀(k:Nat) (n:Nd) (l:List au),n.wt≤k→l.length+n.bI≤90000000→n.bI≤100000→n.wt≤aE →
    ak prog 117 [.agg n.enc,.ptr (.out b2) 0,.ptr (.out b4) 0] (bX σ b τ l s lat p) fun v σ' => v = .aT []∧σ' = bX σ b τ (l++dq s lat n) s lat p:=by
  have e2:∀l,(bX σ b τ l s lat p).box b2=some [.ptr (.out b) 0]:=fun l=>by rw[wH n2];exact h2
  have e4:∀l,(bX σ b τ l s lat p).box b4=some [.fn (.func 117) [] [.ptr (.out b2) 0,.ptr (.out b4) 0]]:=fun l=>by rw[wH n4];exact h4
  intro k;induction k with
  | zero=>intro n l h;have:=Nd.pj n;have:=Cx n;omega
  | succ k ih =>
    intro n l hk hl hc hw;refine ab3.calls ?_;simp only[aI,LC,am,aP,Nat.reduceAdd,Nd.af];simp only[am,Nd.af,e2];refine cl (UJ σ b τ l s lat p n (by omega) hs hg hb kK hc hw) ?_;have ha:=@Ck s lat n;simp only[am,Nd.fl]
    by_cases vm:n.kind=1∨n.kind=7
    · have e:dq s lat n=iw s lat n:=by rw[DF,aw vm,dD]
      have kQ:(decide (n.kind=1)=true)∨(decide (n.kind=1)=false∧decide (n.kind=7)=true):=by
        by_cases h:n.kind=1
        · exact .inl (aC h)
        · exact .inr ⟨aA h,aC (by simpa [h] using vm)⟩
      rcases kQ with e1 | ⟨e1,e7⟩
      case' inl=>simp only[am,e1]
      case' inr=>simp only[am,Nd.fl,e1,e7]
      all_goals exact aF rfl (ab.aS _) ⟨rfl,by rw[e]⟩
    have e:dq s lat n=iw s lat n++n.kids.flatMap (dq s lat):=by rw[DF,ah vm]
    simp only[am,aD,Nd.fl,aD,aA (fun h=>vm (.inl h)),aA (fun h=>vm (.inr h))];have Ao:=u9 n;have hnc:=Nd.pj n;obtain⟨F,hF⟩:∃F:Nat→Unit→St,∀i x,F i x=⟨[.any,.ptr (.out b2) 0,.ptr (.out b4) 0,.ptr (.loc 0) 0,.any,.any,.any,.any,.any,.any,.any,.any,.any,.any,.any,.any,.any,.any,.sl .no 5 (n.kids.map Nd.enc),.int .i64 (n.kids.length:Nat),.int .i64 (i:Nat)]++List.replicate 7 .any,[n.enc],bX σ b τ (l++iw s lat n++(n.kids.take i).flatMap (dq s lat)) s lat p⟩:=⟨_,fun _ _=>rfl⟩;obtain⟨JF,aO⟩:∃JF:Nat→Unit→Prop,∀i x,JF i x=(True):=⟨_,fun _ _=>rfl⟩;refine db (n.kids.length) F JF _ aO ?_ ?_ ?_
    · refine dA (()) ?_ ?_ ?_ ?_
      · exact Eq.mpr (aO _ _) (trivial)
      all_goals simp[hF,List.replicate,am,bj]
    · rintro i x hi -;have hm:n.kids[i]∈n.kids:=eZ _;have tM:=ny hm;have tN:=l7 hm;have hlen:=ahf (s:=s) (lat:=lat) hi;simp only[hF,List.replicate,am,c8 hi];refine bx (by omega) (l_ (cc hi)) ?_;simp only[am,Nd.af,e4];refine cl (ih n.kids[i] _ (by omega) (by simp only[bz];omega) (by omega) (by omega)) ?_;simp only[am,aM,ca hi (by omega),eh];refine eK (()) hi ?_ ?_ ?_ ?_ ?_ ?_
      · exact Eq.mpr (aO _ _) (trivial)
      all_goals simp[hF,List.replicate,am,bj,bn,cK,V.lo,Gl hi,eh,Nd.bO]
    · rintro x -;simp only[hF,List.replicate,am,aM,c9,aM,dv];exact aF rfl (ab.aS _) ⟨rfl,by rw[e,eh]⟩
theorem UX (σ:ab) (b τ:Nat) (l:List au) (s:ar) (lat p:Int) (n:Nd) (hs:s.ok) (hg:TZ σ) (hb:σ.box b=none) (kK:lat<s.bc.length) (hl:l.length+n.bI≤90000000) (hc:n.bI≤100000) (hw:n.wt≤aE) :
    ak prog 58 [.ptr (.out b) 0,.agg n.enc] (bX σ b τ l s lat p) fun v σ' => v = .aT []∧σ' = bX σ b τ (l++dq s lat n) s lat p:=by
  have fresh:∀{x:Nat} {ck:ab},(bX ck b τ l s lat p).box x=none→x≠b:=fun {x ck} h=>by rintro rfl;rw[EO] at h;simp at h
  refine aej.calls ?_;simp only[aI,NW,am,aP,Nat.reduceAdd];intro b2 cR;have n2:=fresh cR;rw[wH n2] at cR;simp only[am,Nd.af];rw[VO n2];intro b4 rR;have n4:=fresh rR;rw[wH n4] at rR;have SJ:b4≠b2:=by rintro rfl;simp[ab.set] at rR
  have aqj : σ.box b4=none:=by simpa [ab.set,SJ] using rR
  simp only[am,Nd.af];rw[VO n4];have vu:TZ ((σ.set b2 [V.ptr (Pl.out b) 0]).set b4 [V.fn (Fn.func 117) [] [V.ptr (Pl.out b2) 0,V.ptr (Pl.out b4) 0]]):=hg;refine cl (anG _ b τ b2 b4 s lat p hs vu (by rw[pX n4.symm,pX n2.symm];exact hb) kK n2 n4 (by rw[pX SJ.symm,gU]) gU n.wt n l (bt _) hl hc hw) ?_;simp only[am];exact aF rfl (ab.wy (VN n2 cR) (VN n4 rR)) ⟨rfl,rfl⟩
def NZ:AC:=.seq (.aa [⟨(some 3),.box 5 (.s 1),none⟩])
 (.seq (.seq (.aa [xf 0 11 3,xo 12 11,xB .eql 13 12 1])
 (.cond (.s 13) (.aa [U 14 0,xf 2 15 3,xo 16 15,xf 1 17 3,xo 18 17,xc 56 19 [.s 14,.s 16,.s 18,.c (.int .i64 2)]])
 (.skip)))
 (.seq (.seq (.aa [xf 0 20 3,xo 21 20,xB .neq 22 21 10])
 (.cond (.s 22) (.ret)
 (.skip)))
 (.seq (.aa [⟨(some 4),.mv (.c (.sl .full 1 [])),none⟩])
 (.seq (.seq (.aa [xf 4 23 3,xo 24 23,xL 25 24,xi 26 0])
 (.block 0 (.loop (.seq (.aa [xb .lss 27 26 25])
 (.seq (.cond (.s 27) (.skip)
 (.exit 0))
 (.seq (.block 1 (.seq (.aa [xA 5 28 24 26,xl 5 29 28,⟨(some 6),.alloc [(.int .i64 0),(.int .i64 0),(.str []),(.sl .full 2 []),(.sl .full 5 [])],none⟩,xs 5 6 29])
 (.seq (.draw [(U 30 0,[]),(xk 31 30,[]),(xf 0 32 31,[]),(U 33 4,[]),(xf 2 34 6,[]),(xo 35 34,[]),(xc 112 36 [.s 33,.s 35],[]),(xB .geq 37 36 0,[]),(xf 1 38 6,[]),(xo 39 38,[0]),(xc 59 40 [.s 32,.s 37,.c (.int .i64 4),.s 39],[])])
 (.seq (.aa [U 41 4,xf 2 42 6,xo 43 42,⟨(some 44),.cB 1 [(.s 43)],none⟩,xa 1 45 41 44,U 4 45])
 (.seq (.aa [xf 4 46 6,xo 47 46,xL 48 47,xi 49 0])
 (.block 2 (.loop (.seq (.aa [xb .lss 50 49 48])
 (.seq (.cond (.s 50) (.skip)
 (.exit 2))
 (.seq (.block 3 (.seq (.aa [xA 5 51 47 49,xl 5 52 51,⟨(some 8),.alloc [(.int .i64 0),(.int .i64 0),(.str []),(.sl .full 2 []),(.sl .full 5 [])],none⟩,xs 5 8 52])
 (.aa [U 53 0,xl 5 54 8,xc 118 55 [.s 53,.s 54]])))
 (.aa [xB .add 56 49 1,U 49 56])))))))))))
 (.aa [xB .add 57 26 1,U 26 57])))))))
 (.seq (.seq (.aa [xf 3 58 3,xo 59 58,xL 60 59,xi 61 0])
 (.block 4 (.loop (.seq (.aa [xb .lss 62 61 60])
 (.seq (.cond (.s 62) (.skip)
 (.exit 4))
 (.seq (.block 5 (.seq (.aa [xA 2 63 59 61,xl 2 64 63,⟨(some 10),.alloc [(.str []),(.int .i64 0)],none⟩,xs 2 10 64])
 (.aa [U 65 0,xf 0 66 10,xo 67 66,xf 1 68 10,xo 69 68,xc 56 70 [.s 65,.s 67,.s 69,.c (.int .i64 2)]])))
 (.aa [xB .add 71 61 1,U 61 71])))))))
 (.draw [(U 72 0,[]),(xk 73 72,[]),(xf 0 74 73,[]),(xf 4 75 3,[]),(xo 76 75,[]),(xL 77 76,[]),(xB .gtr 78 77 16,[]),(U 79 0,[]),(xk 80 79,[]),(xf 4 81 80,[]),(xo 82 81,[]),(xc 59 83 [.s 74,.s 78,.c (.int .i64 7),.s 82],[])]))))))
theorem ael:aJ prog 60 NZ [] 84:=⟨f60,⟨[],[],[]⟩,func60,by kernel_rfl,by kernel_rfl,by kernel_rfl,by kernel_rfl⟩
theorem am2 {l:List (List UInt8)} {x:List UInt8}:cU (l++[x])=cU l++[[.str x]]:=by simp[cU]
theorem y4 {l:List Word} {j:Nat} (h:j<l.length):(l.map Word.enc)[((j:Nat):Int).toNat]?=some l[j].enc:=by simp[h]
theorem U6 (σ:ab) (b τ:Nat) (l:List au) (s:ar) (lat p:Int) (n:Nd) (hs:s.ok) (hg:TZ σ) (hb:σ.box b=none) (kK:lat<s.bc.length) (hl:l.length≤30000000) (hc:n.bI≤100000) (hw:n.wt≤aE) :
    ak prog 60 [.ptr (.out b) 0,.agg n.enc] (bX σ b τ l s lat p) fun v σ' => v = .aT []∧σ' = bX σ b τ (l++jg s lat p n) s lat p:=by
  refine ael.calls ?_;simp only[aI,NZ,p9,Nat.reduceAdd]
  by_cases h1:n.kind=1
  · simp only[am,Nd.fl,aC h1];refine cl (Bn σ b τ l s lat p n.pos 2 n.text (by omega) hs) ?_;simp only[am,Nd.fl,aA (show ¬n.kind=10 by omega)];exact aF rfl (ab.aS _) ⟨rfl,by rw[jg,aw h1]⟩
  simp only[am,Nd.fl,aA h1]
  by_cases gd:n.kind=10
  case neg =>
    simp only[am,aA gd];exact aF rfl (ab.aS _) ⟨rfl,by rw[jg,ah h1,ah gd,dD]⟩
  simp only[am,aD,Nd.fl,aD,aC gd];have Rp:jg s lat p n=lr s lat n.kids n.kids.length++sA s lat n.names++(if 16<n.kids.length then [⟨7,p⟩] else []):=by rw[jg,ah h1,aw gd]
  have Ao:=u9 n;have hnc:=zz n;have fV:∀k∈n.kids,k.kids.length≤100000:=fun k hk=>by have:=u9 k;have:=ny hk;omega
  have jA:∀{i:Nat},i≤n.kids.length→(lr s lat n.kids i).length≤100000:=fun {i} hi=>by
    have:=Gn (s:=s) (lat:=lat) hi
    have:=Pb n.kids i
    have:=Nd.pj n
    omega
  obtain⟨F,hF⟩:∃F:Nat→Tk × ab→St,∀i x,F i x=⟨[.ptr (.out b) 0,.any,.any,.ptr (.loc 0) 0,.sl x.1 1 (cU ((n.kids.take i).map Nd.text)),.any,.any,.any,.any,.any,.any,.any,.any,.any,.any,.any,.any,.any,.any,.any,.any,.any,.any,.any,.sl .no 5 (n.kids.map Nd.enc),.int .i64 (n.kids.length:Nat),.int .i64 (i:Nat)]++List.replicate 57 .any,[n.enc],bX x.2 b τ (l++lr s lat n.kids i) s lat p⟩:=⟨_,fun _ _=>rfl⟩;obtain⟨JF,aO⟩:∃JF:Nat→Tk × ab→Prop,∀i x,JF i x=(Ah σ x.2 τ x.1 i):=⟨_,fun _ _=>rfl⟩;refine db (n.kids.length) F JF _ aO ?_ ?_ ?_
  · refine dA ((.full,σ)) ?_ ?_ ?_ ?_
    · exact Eq.mpr (aO _ _) (Ah.nil)
    all_goals simp[hF,List.replicate,am,bj,lr,cU]
  · rintro i ⟨tk,cY⟩ hi hA;simp only at hA;have hm:n.kids[i]∈n.kids:=eZ _;have tM:=ny hm;have tN:=l7 hm;have oB:=fV _ hm;have hL:=jA (Fu hi);have C_:TZ cY:=hA.sub.2.2 _ _ hg;have fK:cY.box b=none:=by rw[hA.box];exact hb
    have vF:((n.kids.take i).map Nd.text).length=i:=by simp;omega
    have x_:n.kids.getD i ib=n.kids[i]:=nF hi;simp only[hF,List.replicate,am,c8 hi];refine bx (by omega) (l_ (cc hi)) ?_;simp only[am,Nd.af,Nd.fl];refine bh.intro (ak.dh (as' := [.sl .no 1 (cU ((n.kids.take i).map Nd.text)),.str n.kids[i].text]) (rN ((n.kids.take i).map Nd.text) n.kids[i].text _ (by omega)) ⟨cz.no,cz.rfl,trivial⟩ bC.rfl) ?_;simp only[am,Nd.fl,I0];have ed:qA n.kids i=if (fJ ((n.kids.take i).map Nd.text) n.kids[i].text).isSome then [⟨4,n.kids[i].pos⟩] else []:=by rw[qA,x_]
    have C6:(qA n.kids i).length≤1:=by rw[ed];split<;>simp
    refine bh.intro (sD cY b τ (l++lr s lat n.kids i) s lat p 4 n.kids[i].pos _ (by simp only[bz];omega)) ?_;rw[←ed];simp only[am,Nd.fl];refine Ah.app (by rw[jO,vF];exact hA) (by simp[jO,aE];omega) fun iP ir xV=>?_
    have xV:Ah σ ir τ iP (i+1):=by rw[bz,jO,vF] at xV;exact xV
    have vu:TZ ir:=xV.sub.2.2 _ _ hg;have cR:ir.box b=none:=by rw[xV.box];exact hb
    simp only[am,aD,Nd.fl,aD];obtain⟨F2,dG⟩:∃F2:Nat→Unit→St,∀j y,F2 j y=⟨[.ptr (.out b) 0,.any,.any,.ptr (.loc 0) 0,.sl iP 1 (cU ((n.kids.take i).map Nd.text)++[[.str n.kids[i].text]]),.any,.any,.any,.any,.any,.any,.any,.any,.any,.any,.any,.any,.any,.any,.any,.any,.any,.any,.any,.sl .no 5 (n.kids.map Nd.enc),.int .i64 (n.kids.length:Nat),.int .i64 (i:Nat),.any,.any,.any,.any,.any,.any,.any,.any,.any,.any,.any,.any,.any,.any,.any,.any,.any,.any,.any,.any,.sl .no 5 (n.kids[i].kids.map Nd.enc),.int .i64 (n.kids[i].kids.length:Nat),.int .i64 (j:Nat)]++List.replicate 34 .any,[n.enc,n.kids[i].enc],bX ir b τ (l++lr s lat n.kids i++qA n.kids i++(n.kids[i].kids.take j).flatMap (iw s lat)) s lat p⟩:=⟨_,fun _ _=>rfl⟩;obtain⟨ga,fT⟩:∃ga:Nat→Unit→Prop,∀j y,ga j y=(True):=⟨_,fun _ _=>rfl⟩;refine db (n.kids[i].kids.length) F2 ga _ fT ?_ ?_ ?_
    · refine dA (()) ?_ ?_ ?_ ?_
      · exact Eq.mpr (fT _ _) (trivial)
      all_goals simp[dG,List.replicate,am,bj]
    · rintro j y hj -;have yg:n.kids[i].kids[j]∈n.kids[i].kids:=eZ _;have af2:=ny yg;have af3:=l7 yg;have hL2:((n.kids[i].kids.take j).flatMap (iw s lat)).length≤100000:=by
        have:=zL (f:=iw s lat) (m:=1) (l:=n.kids[i].kids.take j) fun _ _=>Ck
        rw[og,gO] at this;omega
      simp only[dG,List.replicate,am,c8 hj];refine bx (by omega) (l_ (cc hj)) ?_;simp only[am,Nat.reduceAdd,Nd.af];refine cl (UJ ir b τ _ s lat p n.kids[i].kids[j] (by simp only[bz];omega) hs vu cR kK (by omega) (by omega)) ?_;simp only[am,aM,ca hj (by omega)];refine eK (()) hj ?_ ?_ ?_ ?_ ?_ ?_
      · exact Eq.mpr (fT _ _) (trivial)
      all_goals simp[dG,List.replicate,am,bj,bn,cK,V.lo,Gl hj,eh,Nd.bO]
    · rintro y -;simp only[dG,List.replicate,am,aM,c9,Nat.reduceEqDiff,aM,reduceCtorEq,Nd.fl,aD,dv,ca hi (by omega)];have ef:lr s lat n.kids (i+1)=lr s lat n.kids i++(qA n.kids i++n.kids[i].kids.flatMap (iw s lat)):=by rw[P',vh,x_]
      have et:(n.kids.take (i+1)).map Nd.text=(n.kids.take i).map Nd.text++[n.kids[i].text]:=by rw[jV hi,fw];rfl
      refine eK ((iP,ir)) hi ?_ ?_ ?_ ?_ ?_ ?_
      · exact Eq.mpr (aO _ _) (xV)
      all_goals simp[hF,List.replicate,am,bj,bn,cK,V.lo,ef,et,am2,eh,Nd.bO]
  · rintro⟨tk,cY⟩ hA;simp only at hA;have hL:=jA (bt _);simp only[hF,List.replicate,am,aM,c9,aM,Nd.fl,aD];obtain⟨F3,vn⟩:∃F3:Nat→Unit→St,∀j y,F3 j y=⟨[.ptr (.out b) 0,.any,.any,.ptr (.loc 0) 0,.any,.any,.any,.any,.any,.any,.any,.any,.any,.any,.any,.any,.any,.any,.any,.any,.any,.any,.any,.any,.any,.any,.any,.any,.any,.any,.any,.any,.any,.any,.any,.any,.any,.any,.any,.any,.any,.any,.any,.any,.any,.any,.any,.any,.any,.any,.any,.any,.any,.any,.any,.any,.any,.any,.any,.sl .no 2 (n.names.map Word.enc),.int .i64 (n.names.length:Nat),.int .i64 (j:Nat)]++List.replicate 22 .any,[n.enc],bX cY b τ (l++lr s lat n.kids n.kids.length++sA s lat (n.names.take j)) s lat p⟩:=⟨_,fun _ _=>rfl⟩;obtain⟨E9,GH⟩:∃E9:Nat→Unit→Prop,∀j y,E9 j y=(True):=⟨_,fun _ _=>rfl⟩;refine db (n.names.length) F3 E9 _ GH ?_ ?_ ?_
    · refine dA (()) ?_ ?_ ?_ ?_
      · exact Eq.mpr (GH _ _) (trivial)
      all_goals simp[vn,List.replicate,am,bj,sA]
    · rintro j y hk -;have QK:=@J2 s lat (n.names.take j);rw[gO] at QK;simp only[vn,List.replicate,am,c8 hk];refine bx (by omega) (y4 hk) ?_;simp only[am,gM,Word.af];refine cl (Bn cY b τ _ s lat p n.names[j].pos 2 n.names[j].text (by simp only[bz];omega) hs) ?_;simp only[am,aM,ca hk (by omega)];have ef:sA s lat (n.names.take (j+1))=sA s lat (n.names.take j)++fD s lat n.names[j].text n.names[j].pos 2:=by rw[sA,Gl hk];rfl
      refine eK (()) hk ?_ ?_ ?_ ?_ ?_ ?_
      · exact Eq.mpr (GH _ _) (trivial)
      all_goals simp[vn,List.replicate,am,bj,bn,cK,V.lo,ef,eh,Nd.bO]
    · rintro y -;have QK:=@J2 s lat n.names;simp only[vn,List.replicate,am,aM,c9,aM,gM,Nd.fl,aD,dv];have bound:(l++lr s lat n.kids n.kids.length++sA s lat n.names).length≤100000000:=by simp only[bz];omega
      by_cases zU:16<n.kids.length
      · rw[aC (show (16:Int)<(n.kids.length:Nat) by omega)];refine bh.intro (Bs cY b τ _ s lat p 7 p bound) ?_;simp only[am];exact aF rfl (VM hA.sub) ⟨rfl,by rw[Rp,aw zU];simp only[eh]⟩
      · rw[aA (show ¬(16:Int)<(n.kids.length:Nat) by omega)];refine bh.intro (wA cY b τ _ s lat p 7 p bound) ?_;simp only[am];exact aF rfl (VM hA.sub) ⟨rfl,by rw[Rp,ah zU,dD,eh]⟩
section
variable {c:aj}
theorem XU:c.enc.length=17:=rfl
theorem X0:bA c.enc=true:=rfl
theorem XZ:bd c.enc=true:=rfl
theorem XF:aX c.enc=c.enc:=rfl
theorem X':takeN 17 c.enc=some c.enc:=rfl
theorem X1 {z0 z1 z2 z3 z4 z5 z6 z7 z8 z9 Kx Ky Kz KA KB KC KD:V}:over [z0,z1,z2,z3,z4,z5,z6,z7,z8,z9,Kx,Ky,Kz,KA,KB,KC,KD] c.enc=c.enc:=rfl
theorem XV:a9 false 1 (c.enc.drop 7)=some (.int .i64 c.left.kind):=rfl
theorem X3 {w:Word}:setAt c.enc 2 w.enc=({c with name:=w}:aj).enc:=rfl
theorem XH:bD 2 (c.enc.drop 2)=true:=rfl
theorem X4 {ws:List Word}:setAt c.enc 4 [.sl .no 2 (ws.map Word.enc)]=({c with names:=ws}:aj).enc:=rfl
theorem XI:bD 1 (c.enc.drop 4)=true:=rfl
theorem X5 {ps:List (Word × Word)}:setAt c.enc 5 [.sl .no 4 (ps.map dr)]=({c with aY:=ps}:aj).enc:=rfl
theorem XJ:bD 1 (c.enc.drop 5)=true:=rfl
theorem X6 {n:Int}:setAt c.enc 6 [.int .i64 n]=({c with jM:=n}:aj).enc:=rfl
theorem XK:bD 1 (c.enc.drop 6)=true:=rfl
theorem X2 {n:Nd}:setAt c.enc 7 n.enc=({c with left:=n}:aj).enc:=by rw[Nd.cm];rfl
theorem XG:bD 5 (c.enc.drop 7)=true:=rfl
theorem X7 {n:Nd}:setAt c.enc 12 n.enc=({c with right:=n}:aj).enc:=by rw[Nd.cm];rfl
theorem XL:bD 5 (c.enc.drop 12)=true:=rfl
def dx:=And.intro @XU <| And.intro @X0 <| And.intro @XZ <| And.intro @XF <| And.intro @X' <| And.intro @X1 <| And.intro @XV <| And.intro @X3 <| And.intro @XH <| And.intro @X4 <| And.intro @XI <| And.intro @X5 <| And.intro @XJ <| And.intro @X6 <| And.intro @XK <| And.intro @X2 <| And.intro @XG <| And.intro @X7 @XL
end
def Oe:AC:=.seq (.aa [xi 3 0])
 (.seq (.block 0 (.loop (.seq (.seq (.aa [U 4 0,xo 5 1,xT 6 5,xb .lss 7 4 6,U 8 7,xg 8 (xo 9 1),xg 8 (U 10 0),xg 8 (xS 11 9 10),xg 8 (xc 96 12 [.s 11]),⟨(some 13),.pick (.s 8) (.s 12) (.c (.bool false)),none⟩])
 (.cond (.s 13) (.skip)
 (.exit 0)))
 (.block 1 (.aa [U 14 0,xB .add 15 14 1,U 0 15])))))
 (.seq (.aa [U 16 0,U 3 16])
 (.ret)))
theorem aey:aJ prog 95 Oe [.tmp 3] 17:=⟨f95,⟨[],[],[]⟩,func95,by kernel_rfl,by kernel_rfl,by kernel_rfl,by kernel_rfl⟩
def Og:AC:=.seq (.aa [⟨(some 2),.mv (.c (.bool false)),none⟩])
 (.seq (.aa [U 3 0,xu .geq 4 3 97,U 5 4,xg 5 (U 6 0),xg 5 (xu .leq 7 6 122),⟨(some 8),.pick (.s 5) (.s 7) (.c (.bool false)),none⟩,U 9 8,xh 9 (U 10 0),xh 9 (xu .geq 11 10 48),xh 9 (U 12 11),xg 12 (U 13 0),xg 12 (xu .leq 14 13 57),⟨(some 15),.pick (.s 12) (.s 14) (.c (.bool false)),(some (9,false))⟩,⟨(some 16),.pick (.s 9) (.c (.bool true)) (.s 15),none⟩,U 17 16,xh 17 (U 18 0),xh 17 (xu .eql 19 18 95),⟨(some 20),.pick (.s 17) (.c (.bool true)) (.s 19),none⟩,U 2 20])
 (.ret))
theorem aez:aJ prog 96 Og [.tmp 2] 21:=⟨f96,⟨[],[],[]⟩,func96,by kernel_rfl,by kernel_rfl,by kernel_rfl,by kernel_rfl⟩
def Oh:AC:=.seq (.aa [⟨(some 4),.mv (.c (.bool false)),none⟩])
 (.seq (.aa [U 5 0,U 6 1,xS 7 5 6,xu .eql 8 7 45,U 9 8,xg 9 (U 10 1),xg 9 (xB .add 11 10 1),xg 9 (U 12 0),xg 9 (xT 13 12),xg 9 (xb .lss 14 11 13),⟨(some 15),.pick (.s 9) (.s 14) (.c (.bool false)),none⟩,U 16 15,xg 16 (U 17 0),xg 16 (U 18 1),xg 16 (xB .add 19 18 1),xg 16 (xS 20 17 19),xg 16 (xu .eql 21 20 45),⟨(some 22),.pick (.s 16) (.s 21) (.c (.bool false)),none⟩,U 4 22])
 (.ret))
theorem aeA:aJ prog 97 Oh [.tmp 4] 23:=⟨f97,⟨[],[],[]⟩,func97,by kernel_rfl,by kernel_rfl,by kernel_rfl,by kernel_rfl⟩
def Oi:AC:=.seq (.aa [⟨(some 2),.mv (.c (.bool false)),none⟩])
 (.seq (.seq (.aa [U 3 0])
 (.block 0 (.seq (.seq (.aa [xu .eql 5 3 35,U 4 5])
 (.cond (.s 4) (.skip)
 (.seq (.aa [xu .eql 6 3 43,U 4 6])
 (.cond (.s 4) (.skip)
 (.seq (.aa [xu .eql 7 3 38,U 4 7])
 (.cond (.s 4) (.skip)
 (.seq (.aa [xu .eql 8 3 40,U 4 8])
 (.cond (.s 4) (.skip)
 (.seq (.aa [xu .eql 9 3 41,U 4 9])
 (.cond (.s 4) (.skip)
 (.seq (.aa [xu .eql 10 3 123,U 4 10])
 (.cond (.s 4) (.skip)
 (.seq (.aa [xu .eql 11 3 125,U 4 11])
 (.cond (.s 4) (.skip)
 (.seq (.aa [xu .eql 12 3 91,U 4 12])
 (.cond (.s 4) (.skip)
 (.seq (.aa [xu .eql 13 3 93,U 4 13])
 (.cond (.s 4) (.skip)
 (.seq (.aa [xu .eql 14 3 44,U 4 14])
 (.cond (.s 4) (.skip)
 (.seq (.aa [xu .eql 15 3 58,U 4 15])
 (.cond (.s 4) (.skip)
 (.seq (.aa [xu .eql 16 3 61,U 4 16])
 (.cond (.s 4) (.skip)
 (.seq (.aa [xu .eql 17 3 124,U 4 17])
 (.cond (.s 4) (.skip)
 (.aa [xu .eql 18 3 60,U 4 18])))))))))))))))))))))))))))
 (.cond (.s 4) (.seq (.aa [⟨(some 2),.mv (.c (.bool true)),none⟩])
 (.ret))
 (.skip)))))
 (.seq (.aa [⟨(some 2),.mv (.c (.bool false)),none⟩])
 (.ret)))
theorem aeB:aJ prog 98 Oi [.tmp 2] 19:=⟨f98,⟨[],[],[]⟩,func98,by kernel_rfl,by kernel_rfl,by kernel_rfl,by kernel_rfl⟩
theorem anF {c:Int} (h:o5 c=true):rP c=false∧c≠45∧c≠32∧c≠9:=by
  simp only[o5,JT,List.any_cons,List.any_nil,jS,cq,fO,or_false] at h
  rcases h with h | h | h | h | h | h | h | h | h | h | h | h | h | h<;>subst h<;>exact⟨by decide,by decide,by decide,by decide⟩
theorem ahQ {n p:Nat} {c:UInt8} {r:List UInt8} {acc:List Tok}:dB (n+1) p (c::r) acc =
    if c.toNat=32∨c.toNat=9 then dB n (p+1) r acc
    else if c.toNat=45∧(r.head?.map UInt8.toNat)=some 45 then (acc,none)
    else if o5 (c.toNat:Nat)=true then dB n (p+1) r (acc++[⟨(c.toNat:Nat),[c],p⟩])
    else if dZ (dC (c::r))=true then dB n (p+(dC (c::r)).length) ((c::r).drop (dC (c::r)).length) (acc++[⟨97,dC (c::r),p⟩])
    else ([],some p):=by
  simp only[dB]
  by_cases hb:c.toNat=32∨c.toNat=9
  · have h1:iC c=false:=by
      simp only[iC]
      rcases hb with h | h<;>rw[h]<;>decide
    have h2:o5 (c.toNat:Nat)=false:=by rcases hb with h | h<;>rw[h]<;>decide
    have h3:¬c.toNat=45:=by omega
    simp[hb,h2,h3,Jy h1]
  · rw[ah hb];split
    · rfl
    · cases hs:o5 (c.toNat:Nat)
      · by_cases hn:dZ (dC (c::r))=true
        · have:0<(dC (c::r)).length:=by
            cases hq:dC (c::r) with
            | nil=>rw[hq] at hn;simp[dZ] at hn
            | cons _ _=>simp
          simp[hn,this]
        · simp[hn]
      · have h1:iC c=false:=(anF hs).1;simp[Jy h1]
theorem afc (c:Int) (σ:ab):ak prog 96 [.int .u8 c] σ fun v σ' => v = .bool (rP c)∧σ' = σ:=by
  refine aez.calls ?_;simp only[aI,Og,am,aP]
  repeat' (first
    | (refine iW (fun h=>?_) (fun h=>?_)<;>simp only[am,h])
    | (refine fk (fun h=>?_) (fun h=>?_)<;>simp only[rp,h,Nat.reduceAdd,Nat.reduceEqDiff,aD])
    | (refine je (fun h=>?_) (fun h=>?_)<;>simp only[rp,h,Nat.reduceAdd,Nat.reduceEqDiff,aD])
  )
  all_goals refine az ?_
  all_goals simp_all [V.erase,rP,yy]
  all_goals (try omega)
theorem anE (c:Int) (σ:ab):ak prog 98 [.int .u8 c] σ fun v σ' => v = .bool (o5 c)∧σ' = σ:=by
  refine aeB.calls ?_;simp only[aI,Oi,am,aP]
  repeat' (first
    | (refine iW (fun h=>?_) (fun h=>?_)<;>simp only[rp,h,Nat.reduceAdd,Nat.reduceEqDiff,aD])
    | (refine fk (fun h=>?_) (fun h=>?_)<;>simp only[am,h])
    | (refine je (fun h=>?_) (fun h=>?_)<;>simp only[rp,h,Nat.reduceAdd,Nat.reduceEqDiff,aD])
  )
  all_goals refine az ?_
  all_goals simp_all [V.erase,o5,JT]
  all_goals (try omega)
theorem YP (s:List UInt8) (a:Nat) (σ:ab) (ha:a<s.length) (hb:s.length≤aE):ak prog 97 [.str s,.int .i64 (a:Nat)] σ fun v σ' => v = .bool (decide (s[a].toNat=45∧(s.drop (a+1)).head?.map UInt8.toNat=some 45))∧σ' = σ:=by
  simp only[aE] at hb;have w1:IntKind.i64.wrap ((a:Int)+1)=((a+1:Nat):Int):=by rw[wrap_i64 (by omega) (by omega)];simp
  have hh:(s.drop (a+1)).head?.map UInt8.toNat=if h:a+1<s.length then some s[a+1].toNat else none:=by
    by_cases h:a+1<s.length
    · rw[zE h,drop_cons h];rfl
    · rw[dif_neg h,KO (by omega)];rfl
  rw[hh];refine aeA.calls ?_;simp only[aI,Oh,am,aP,Nat.reduceAdd];refine yr (by omega) (Bm ha) ?_;simp only[am]
  by_cases QE:s[a].toNat=45
  · simp only[am,aC (show ((s[a].toNat:Nat):Int)=45 by omega),w1]
    by_cases hl:a+1<s.length
    · simp only[am,aC (show ((a+1:Nat):Int)<s.length by omega),w1];refine yr (by omega) (Bm hl) ?_;simp only[am];refine az ?_;simp[V.erase,QE,hl];omega
    · simp only[am,aA (show ¬((a+1:Nat):Int)<s.length by omega)];refine az ?_;simp[V.erase,hl]
  · simp only[am,aA (show ¬((s[a].toNat:Nat):Int)=45 by omega)];refine az ?_;simp[V.erase,QE]
def H6 (s:List UInt8) (σ:ab) (p a n:Nat):St:=⟨[.int .i64 ((a+n:Nat):Int),.ptr (.out p) 0]++List.replicate 15 .any,[],σ⟩
theorem aaE {s:List UInt8} {p a:Nat} {σ:ab} (hp:σ.box p=some [.str s]) (ha:a≤s.length) (hb:s.length≤aE):ak prog 95 [.int .i64 (a:Nat),.ptr (.out p) 0] σ fun v σ' => v = .int .i64 ((a+(dC (s.drop a)).length:Nat):Int)∧σ' = σ:=by
  simp only[aE] at hb;refine aey.calls ?_;simp only[aI,Oe,am,aP,Nat.reduceAdd];refine jj (fun q:{n:Nat // a+n≤s.length∧((s.drop a).take n).all iC=true}=>H6 s σ p a q.1) (fun q=>s.length - q.1) ?_ ?_
  · refine aZ.enter ⟨0,by simpa using ha,by simp⟩ ?_ bY.rfl bC.rfl;simp[H6,List.replicate,am]
  · rintro⟨n,hn,bT⟩;simp only[H6,List.replicate,am,hp];have w1:IntKind.i64.wrap (((a+n:Nat):Int)+1)=((a+(n+1):Nat):Int):=by rw[wrap_i64 (by omega) (by omega)];omega
    by_cases ag:a+n<s.length
    · simp only[am,aC (show ((a+n:Nat):Int)<s.length by omega),hp];refine yr (by omega) (Bm ag) ?_;simp only[am];refine cl (afc s[a+n].toNat σ) ?_;cases hg:rP (s[a+n].toNat:Nat)
      · simp only[am];refine aF rfl (ab.aS _) ⟨?_,rfl⟩;simp[V.erase,Uf bT hn (fun _=>hg)]
      · simp only[am,w1];refine aZ.again ⟨n+1,by omega,?_⟩ (by simp;omega) (by simp[am]) bY.rfl bC.rfl;have hd:n<(s.drop a).length:=by simp;omega
        rw[Om hd,bT];simp only[lJ,List.getElem_drop];exact hg
    · simp only[am,aA (show ¬((a+n:Nat):Int)<s.length by omega)];refine aF rfl (ab.aS _) ⟨?_,rfl⟩;simp[V.erase,Uf bT hn (fun h=>absurd h ag)]
def NH:AC:=.seq (.aa [⟨(some 1),.eD 1 (.s 0),none⟩,⟨(some 2),.mv (.c (.sl .full 3 [])),none⟩,⟨(some 3),.alloc [(.int .i64 0),(.int .i64 0)],none⟩])
 (.scope (.seq (.aa [⟨(some 9),.gG (.func 95) [] [(.s 1)],none⟩,U 4 9])
 (.seq (.aa [⟨(some 5),.mv (.c (.sl .full 3 [])),none⟩])
 (.seq (.aa [xi 6 0])
 (.seq (.skip)
 (.seq (.block 0 (.loop (.seq (.seq (.aa [U 10 6,xo 11 1,xT 12 11,xb .lss 13 10 12])
 (.cond (.s 13) (.skip)
 (.exit 0)))
 (.block 1 (.seq (.aa [xo 14 1,U 15 6,xS 16 14 15,U 7 16])
 (.seq (.block 2 (.seq (.aa [U 18 7,xu .eql 19 18 32,U 20 19,xh 20 (U 21 7),xh 20 (xu .eql 22 21 9),⟨(some 23),.pick (.s 20) (.c (.bool true)) (.s 22),none⟩,U 17 23])
 (.cond (.s 17) (.seq (.aa [U 24 6,xB .add 25 24 1,U 6 25])
 (.exit 1))
 (.seq (.aa [xo 27 1,U 28 6,xc 97 29 [.s 27,.s 28],U 26 29])
 (.cond (.s 26) (.exit 0)
 (.seq (.aa [U 31 7,xc 98 32 [.s 31],U 30 32])
 (.cond (.s 30) (.seq (.aa [U 33 5,U 34 7,xo 35 1,U 36 6,U 37 6,xB .add 38 37 1,⟨(some 39),.rj (.s 35) (some (.s 36)) (some (.s 38)),none⟩,U 40 6,⟨(some 41),.build [(.int .u8 0),(.str []),(.int .i64 0)] [(0,1,(.s 34)),(1,1,(.s 39)),(2,1,(.s 40))],none⟩,⟨(some 42),.cB 3 [(.s 41)],none⟩,xa 3 43 33 42,U 5 43])
 (.seq (.aa [U 44 6,xB .add 45 44 1,U 6 45])
 (.exit 1)))
 (.skip))))))))
 (.seq (.aa [U 46 4,U 47 6,⟨(some 48),.fR (.s 46) [(.s 47)],none⟩,U 8 48])
 (.seq (.seq (.aa [xo 49 1,U 50 6,U 51 8,⟨(some 52),.rj (.s 49) (some (.s 50)) (some (.s 51)),none⟩,xc 99 53 [.s 52],⟨(some 54),.not (.s 53),none⟩])
 (.cond (.s 54) (.seq (.aa [U 55 6,⟨(some 56),.build [(.int .i64 0),(.int .i64 0)] [(0,1,(.c (.int .i64 1))),(1,1,(.s 55))],none⟩,⟨(some 2),.mv (.c (.sl .full 3 [])),none⟩,xs 2 3 56])
 (.ret))
 (.skip)))
 (.seq (.aa [U 57 5,xo 58 1,U 59 6,U 60 8,⟨(some 61),.rj (.s 58) (some (.s 59)) (some (.s 60)),none⟩,U 62 6,⟨(some 63),.build [(.int .u8 0),(.str []),(.int .i64 0)] [(0,1,(.c (.int .u8 97))),(1,1,(.s 61)),(2,1,(.s 62))],none⟩,⟨(some 64),.cB 3 [(.s 63)],none⟩,xa 3 65 57 64,U 5 65])
 (.aa [U 66 8,U 6 66]))))))))))
 (.seq (.aa [U 67 5,⟨(some 68),.build [(.int .i64 0),(.int .i64 0)] [],none⟩,U 2 67,xs 2 3 68])
 (.ret))))))))
theorem ad8:aJ prog 44 NH [.tmp 2,.cell 3 true 2] 69:=⟨f44,⟨[1],[],[]⟩,func44,by kernel_rfl,by kernel_rfl,by kernel_rfl,by kernel_rfl⟩
abbrev E_ (s:List UInt8) (σ:ab) (p:Nat) (R:List Tok × Option Int):={q:Nat × Nat × Nat × List Tok // (σ.set p [.str s]).aB q.2.2.1=none∧dB q.1 q.2.1 (s.drop q.2.1) q.2.2.2=R∧q.2.2.2.length≤q.2.1∧q.2.1≤s.length∧s.length≤q.2.1+q.1}
def r9 (s:List UInt8) (σ:ab) (p a τ:Nat) (acc:List Tok):St :=
  ⟨[.str s,.ptr (.out p) 0,.any,.ptr (.loc 0) 0,.fn (.func 95) [] [.ptr (.out p) 0],.sl (.tk τ) 3 (acc.map Tok.enc),.int .i64 (a:Nat)]++List.replicate 62 .any,[[.int .i64 0,.int .i64 0]],(σ.set p [.str s]).aK τ acc.length⟩
theorem ahR (s:List UInt8) (σ:ab) (hb:s.length+1≤aE):ak prog 44 [.str s] σ fun v σ' => v = .aT [.sl .no 3 ((dJ s).1.map Tok.enc),zt (dJ s).2]∧σ' = σ:=by
  simp only[aE] at hb;generalize hR:dJ s=R;refine ad8.calls ?_;simp only[aI,NH,am,aP];refine gE fun p hp=>?_
  simp only[am,bV];have lv:∀τ m,((σ.set p [.str s]).aK τ m).box p=some [.str s]:=fun τ m=>by simp[ab.aK,ab.set]
  have ko:∀τ m,(σ.set p [.str s]).aB τ=none→σ.sub ((σ.set p [.str s]).aK τ m):=fun τ m h=>ab.wy (fv hp) (pY h)
  refine jj (fun q:E_ s σ p R=>r9 s σ p q.1.2.1 q.1.2.2.1 q.1.2.2.2) (fun q=>s.length - q.1.2.1) ?_ ?_
  · refine aZ.wC 0 fun τ ba=>⟨⟨(s.length,0,τ,[]),ba,hR,by simp,by simp,by simp⟩,?_,rfl,rfl⟩
    simp[r9,List.replicate,mQ]
  · rintro⟨⟨n,a,τ,acc⟩,ba,hR,h1,h2,h3⟩;simp only at ba hR h1 h2 h3;simp only[r9,List.replicate,am];refine fk ?_ ?_
    · intro ag;have ag:a<s.length:=by simpa using ag
      obtain⟨m,rfl⟩:∃m,n=m+1:=⟨n - 1,by omega⟩;rw[drop_cons ag] at hR;rw[ahQ,←drop_cons ag] at hR;have cg:=amR (s:=s) (a:=a);have w1:IntKind.i64.wrap ((a:Int)+1)=((a+1:Nat):Int):=by rw[wrap_i64 (by omega) (by omega)];simp
      have again:∀(b:Nat) (acc' : List Tok) (t:List V) (l:List (List V)),dB m b (s.drop b) acc' = R→acc'.length≤b→a<b→b≤s.length →
          bZ t (r9 s σ p b τ acc').t→l=[[.int .i64 0,.int .i64 0]] →
          aZ ⟨t,l,(σ.set p [.str s]).aK τ acc'.length⟩ fun al => ∃j:E_ s σ p R,al = r9 s σ p j.1.2.1 j.1.2.2.1 j.1.2.2.2∧s.length - j.1.2.1<s.length - a:=fun b acc' t l e1 e2 e3 e4 e5 e6=>by
        refine aZ.again (μ:=fun q:E_ s σ p R=>s.length - q.1.2.1) (I:=fun q=>r9 s σ p q.1.2.1 q.1.2.2.1 q.1.2.2.2) ⟨(m,b,τ,acc'),ba,e1,e2,e4,by simp only;omega⟩ (by simp;omega) e5 (by rw[e6];exact bY.rfl) bC.rfl
      simp only[am];refine yr (by omega) (Bm ag) ?_;simp only[am]
      by_cases jY:s[a].toNat=32∨s[a].toNat=9
      · rw[aw jY] at hR
        by_cases h32:s[a].toNat=32
        case' pos=>simp only[am,bV,Nat.reduceAdd,Nat.reduceEqDiff,aC (show ((s[a].toNat:Nat):Int)=32 by omega),w1]
        case' neg=>simp only[am,bV,Nat.reduceAdd,Nat.reduceEqDiff,aA (show ¬((s[a].toNat:Nat):Int)=32 by omega),aC (show ((s[a].toNat:Nat):Int)=9 by omega),w1]
        all_goals exact again (a+1) acc _ _ hR (by omega) (by omega) (by omega) (by simp[r9,List.replicate,am]) rfl
      · rw[ah jY] at hR;simp only[am,aA (show ¬((s[a].toNat:Nat):Int)=32 by omega),aA (show ¬((s[a].toNat:Nat):Int)=9 by omega)];refine(YP s a _ ag (by simp only[aE];omega)).mono ?_;rintro v σ' ⟨rfl,rfl⟩
        by_cases tC:s[a].toNat=45∧(s.drop (a+1)).head?.map UInt8.toNat=some 45
        · rw[aw tC] at hR;simp only[am,bV,Nat.reduceAdd,Nat.reduceEqDiff,aC tC];refine aF rfl (ko τ _ ba) ⟨?_,rfl⟩;simp[V.erase,aX,←hR,zt,dT]
        · rw[ah tC] at hR;simp only[am,aA tC];refine(anE (s[a].toNat:Nat) _).mono ?_;rintro v σ' ⟨rfl,rfl⟩;cases Rt:o5 (s[a].toNat:Nat)
          · rw[ah (by simp[Rt])] at hR;simp only[am];refine(aaE (s:=s) (lv τ _) (by omega) (by simp only[aE];omega)).mono ?_;rintro v σ' ⟨rfl,rfl⟩;simp only[am,bV];refine JV (by omega) (by omega) ?_;rw[Pq];simp only[am];refine(pI (dC (s.drop a)) _).mono ?_;rintro v σ' ⟨rfl,rfl⟩;cases Dg:dZ (dC (s.drop a))
            · rw[ah (by simp[Dg])] at hR;simp only[am,bV,Nat.reduceAdd];refine aF rfl (ko τ _ ba) ⟨?_,rfl⟩;simp[V.erase,aX,←hR,zt,dT]
            · rw[aw Dg] at hR;have hN:0<(dC (s.drop a)).length:=by
                cases hq:dC (s.drop a) with
                | nil=>rw[hq] at Dg;simp[dZ] at Dg
                | cons _ _=>simp
              simp only[am,bV];refine JV (by omega) (by omega) ?_;rw[Pq];simp only[am,Nat.reduceAdd];refine jt (by simp[aE];omega) (by rw[aD,kv]) ?_;simp only[am,aD,ji];have e:acc.length+1=(acc++[(⟨97,dC (s.drop a),a⟩:Tok)]).length:=by simp
              rw[e];rw[sR] at hR;exact again (a+(dC (s.drop a)).length) _ _ _ hR (by simp;omega) (by omega) (by omega) (by simp[r9,List.replicate,am,Tok.enc]) rfl
          · rw[aw Rt] at hR;simp only[am,bV,w1];refine JV (by omega) (by omega) ?_;rw[Zk ag];simp only[am,Nat.reduceAdd];refine jt (by simp[aE];omega) (by rw[aD,kv]) ?_;simp only[am,bV,Nat.reduceAdd,Nat.reduceEqDiff,aD,ji,w1];have e:acc.length+1=(acc++[(⟨(s[a].toNat:Nat),[s[a]],a⟩:Tok)]).length:=by simp
            rw[e];exact again (a+1) _ _ _ hR (by simp;omega) (by omega) (by omega) (by simp[r9,List.replicate,am,Tok.enc]) rfl
    · intro ag;have ag:a=s.length:=by simp at ag;omega
      subst ag;rw[BP] at hR;have lT : (acc,none)=R:=by cases n<;>simpa [dB] using hR
      simp only[am,bV,Nat.reduceAdd];refine aF rfl (ko τ _ ba) ⟨?_,rfl⟩;simp[V.erase,aX,←lT,zt,dT]
def NI:AC:=.seq (.aa [⟨(some 2),.mv (.c (.sl .full 5 [])),none⟩,⟨(some 3),.alloc [(.int .i64 0),(.int .i64 0)],none⟩])
 (.seq (.aa [⟨(some 4),.mv (.c (.sl .full 4 [])),none⟩])
 (.seq (.aa [⟨(some 5),.mv (.c (.sl .full 5 [])),none⟩])
 (.seq (.seq (.aa [U 11 0,xL 12 11,xi 13 0])
 (.block 0 (.loop (.seq (.aa [xb .lss 14 13 12])
 (.seq (.cond (.s 14) (.skip)
 (.exit 0))
 (.seq (.block 1 (.seq (.aa [xA 3 15 11 13,xl 3 16 15,⟨(some 7),.alloc [(.int .u8 0),(.str []),(.int .i64 0)],none⟩,xs 3 7 16])
 (.seq (.aa [U 17 4,xL 18 17,U 8 18])
 (.block 2 (.seq (.aa [xf 0 27 7,xo 28 27,xc 100 29 [.s 28],xu .neq 30 29 0,U 26 30])
 (.cond (.s 26) (.seq (.seq (.aa [U 31 8,xB .geq 32 31 24])
 (.cond (.s 32) (.seq (.aa [xl 3 33 7,xc 101 34 [.s 33],xe 35 34 0,xe 36 34 1,U 2 35,xs 2 3 36])
 (.ret))
 (.skip)))
 (.seq (.aa [U 37 4,xl 3 38 7,U 39 5,⟨(some 40),.build [(.int .u8 0),(.str []),(.int .i64 0),(.sl .full 5 [])] [(0,3,(.s 38)),(3,1,(.s 39))],none⟩,⟨(some 41),.own (.jI 4) [(.s 40)],none⟩,xa 4 42 37 41,U 4 42])
 (.aa [⟨(some 5),.mv (.c (.sl .full 5 [])),none⟩])))
 (.seq (.aa [xf 0 44 7,xo 45 44,xc 102 46 [.s 45],U 43 46])
 (.cond (.s 43) (.seq (.seq (.draw [(U 47 8,[]),(xB .eql 48 47 0,[]),(U 49 48,[]),(xh 49 (U 50 4),[]),(xh 49 (U 51 8),[]),(xh 49 (xB .sub 52 51 1),[]),(xh 49 (xA 4 53 50 52),[]),(xh 49 (xf 0 54 53),[]),(xh 49 (xf 0 55 54),[]),(xh 49 (xo 56 55),[]),(xh 49 (xc 100 57 [.s 56]),[]),(xh 49 (xf 0 58 7),[]),(xh 49 (xo 59 58),[0]),(xh 49 (xb .neq 60 57 59),[]),(⟨(some 61),.pick (.s 49) (.c (.bool true)) (.s 60),none⟩,[])])
 (.cond (.s 61) (.seq (.aa [xl 3 62 7,xc 101 63 [.s 62],xe 64 63 0,xe 65 63 1,U 2 64,xs 2 3 65])
 (.ret))
 (.skip)))
 (.seq (.aa [U 66 4,U 67 8,xB .sub 68 67 1,xA 4 69 66 68,xl 4 70 69,⟨(some 9),.alloc [(.int .u8 0),(.str []),(.int .i64 0),(.sl .full 5 [])],none⟩,xs 4 9 70])
 (.seq (.aa [U 71 4,U 72 8,xB .sub 73 72 1,U 74 8,xB .sub 75 74 1,⟨(some 76),.j_ 4 (.s 71) none (some (.s 73)) (some (.s 75)),none⟩,U 4 76])
 (.aa [xf 3 77 9,xo 78 77,xf 0 79 9,xl 3 80 79,U 81 5,xf 2 82 7,xo 83 82,⟨(some 84),.build [(.int .u8 0),(.str []),(.int .i64 0),(.sl .full 5 []),(.int .i64 0)] [(0,3,(.s 80)),(3,1,(.s 81)),(4,1,(.s 83))],none⟩,⟨(some 85),.cB 5 [(.s 84)],none⟩,xa 5 86 78 85,U 5 86]))))
 (.aa [U 19 5,xl 3 20 7,xf 2 21 7,xo 22 21,⟨(some 23),.build [(.int .u8 0),(.str []),(.int .i64 0),(.sl .full 5 []),(.int .i64 0)] [(0,3,(.s 20)),(4,1,(.s 22))],none⟩,⟨(some 24),.cB 5 [(.s 23)],none⟩,xa 5 25 19 24,U 5 25])))))))))
 (.aa [xB .add 87 13 1,U 13 87])))))))
 (.seq (.seq (.aa [U 88 4,xL 89 88,U 10 89])
 (.seq (.aa [U 90 10,xB .gtr 91 90 0])
 (.cond (.s 91) (.seq (.aa [U 92 4,U 93 10,xB .sub 94 93 1,xA 4 95 92 94,xf 0 96 95,xl 3 97 96,xc 101 98 [.s 97],xe 99 98 0,xe 100 98 1,U 2 99,xs 2 3 100])
 (.ret))
 (.skip))))
 (.seq (.aa [U 101 5,⟨(some 102),.build [(.int .i64 0),(.int .i64 0)] [],none⟩,U 2 101,xs 2 3 102])
 (.ret))))))
theorem ad9:aJ prog 45 NI [.tmp 2,.cell 3 true 2] 103:=⟨f45,⟨[41],[],[]⟩,func45,by kernel_rfl,by kernel_rfl,by kernel_rfl,by kernel_rfl⟩
def Ll:AC:=.seq (.aa [⟨(some 2),.mv (.c (.int .u8 0)),none⟩])
 (.seq (.aa [⟨(some 3),.mv (.c (.int .u8 0)),none⟩])
 (.seq (.seq (.aa [U 4 0])
 (.block 0 (.seq (.block 2 (.seq (.block 1 (.seq (.seq (.seq (.seq (.aa [xu .eql 6 4 123,U 5 6])
 (.cond (.s 5) (.skip)
 (.aa [xu .eql 7 4 91,U 5 7])))
 (.cond (.s 5) (.exit 1)
 (.skip)))
 (.seq (.aa [xu .eql 9 4 40,U 8 9])
 (.cond (.s 8) (.exit 2)
 (.skip))))
 (.exit 0)))
 (.aa [U 10 3,xu .add 11 10 1,U 3 11])))
 (.seq (.seq (.aa [U 12 0,xu .add 13 12 1,U 14 3,xb .add 15 13 14,U 2 15])
 (.ret))
 (.exit 0)))))
 (.seq (.aa [⟨(some 2),.mv (.c (.int .u8 0)),none⟩])
 (.ret))))
theorem abM:aJ prog 100 Ll [.tmp 2] 16:=⟨f100,⟨[],[],[]⟩,func100,by kernel_rfl,by kernel_rfl,by kernel_rfl,by kernel_rfl⟩
def Lm:AC:=.seq (.aa [⟨(some 1),.box 3 (.s 0),none⟩,⟨(some 2),.mv (.c (.sl .full 5 [])),none⟩,⟨(some 3),.alloc [(.int .i64 0),(.int .i64 0)],none⟩])
 (.seq (.draw [(xf 2 4 1,[]),(xo 5 4,[]),(⟨(some 6),.build [(.int .i64 0),(.int .i64 0)] [(0,1,(.c (.int .i64 2))),(1,1,(.s 5))],none⟩,[]),(⟨(some 2),.mv (.c (.sl .full 5 [])),none⟩,[]),(xs 2 3 6,[])])
 (.ret))
theorem abN:aJ prog 101 Lm [.tmp 2,.cell 3 true 2] 7:=⟨f101,⟨[],[],[]⟩,func101,by kernel_rfl,by kernel_rfl,by kernel_rfl,by kernel_rfl⟩
def Ln:AC:=.seq (.aa [⟨(some 2),.mv (.c (.bool false)),none⟩])
 (.seq (.aa [U 3 0,xu .eql 4 3 41,U 5 4,xh 5 (U 6 0),xh 5 (xu .eql 7 6 125),⟨(some 8),.pick (.s 5) (.c (.bool true)) (.s 7),none⟩,U 9 8,xh 9 (U 10 0),xh 9 (xu .eql 11 10 93),⟨(some 12),.pick (.s 9) (.c (.bool true)) (.s 11),none⟩,U 2 12])
 (.ret))
theorem abO:aJ prog 102 Ln [.tmp 2] 13:=⟨f102,⟨[],[],[]⟩,func102,by kernel_rfl,by kernel_rfl,by kernel_rfl,by kernel_rfl⟩
theorem O2 (c:Int) (σ:ab):ak prog 100 [.int .u8 c] σ fun v σ' => v = .int .u8 (closing c)∧σ' = σ:=by
  refine abM.calls ?_;simp only[aI,Ll,am,aP]
  by_cases h1:c=123
  · subst h1;simp only[am,Nat.reduceEqDiff,bQ];refine az ?_;simp[V.erase];rfl
  · simp only[am,aA h1]
    by_cases h2:c=91
    · subst h2;simp only[am,Nat.reduceEqDiff,bQ];refine az ?_;simp[V.erase];rfl
    · simp only[am,aA h2]
      by_cases h3:c=40
      · subst h3;simp only[am,Nat.reduceEqDiff,bQ];refine az ?_;simp[V.erase];rfl
      · simp only[am,Nat.reduceEqDiff,aA h3];refine az ?_;simp[V.erase,closing,h1,h2,h3]
theorem YK (c:Int) (σ:ab):ak prog 102 [.int .u8 c] σ fun v σ' => v = .bool (kI c)∧σ' = σ:=by
  refine abO.calls ?_;simp only[aI,Ln,am,aP]
  repeat' (first
    | (refine iW (fun h=>?_) (fun h=>?_)<;>simp only[am,h])
    | (refine fk (fun h=>?_) (fun h=>?_)<;>simp only[rp,h,Nat.reduceAdd,Nat.reduceEqDiff,aD])
    | (refine je (fun h=>?_) (fun h=>?_)<;>simp only[rp,h,Nat.reduceAdd,Nat.reduceEqDiff,aD])
  )
  all_goals refine az ?_
  all_goals simp_all [V.erase,kI]
  all_goals (try omega)
theorem Cn (t:Tok) (σ:ab):ak prog 101 [.agg t.enc] σ fun v σ' => v = .aT [.sl .no 5 [],hC (some t.pos)]∧σ' = σ:=by
  refine abN.calls ?_;simp only[aI,Lm,am,aP,Tok.enc,am];refine az ?_;simp[V.erase,aX,hC,cj,dT]
structure fP where
  tok:Tok
  tk:Tk
  ahead:List Tree
def fP.enc (x:fP):List V:=[.int .u8 x.tok.kind,.str x.tok.text,.int .i64 x.tok.pos,.sl x.tk 5 (ct x.ahead)]
def fP.pair (x:fP):Tok × List Tree:=(x.tok,x.ahead)
def fP.tn (x:fP):Tk × Nat:=(x.tk,(ct x.ahead).length)
structure w7 where
  i:Nat
  Ev:Tk
  op:List fP
  yP:Tk
  row:List Tree
  τ:ab
def pF (l:List Tok) (q:w7):St :=
  ⟨[.sl .no 3 (l.map Tok.enc),.any,.any,.ptr (.loc 0) 0,.sl q.Ev 4 (q.op.map fP.enc),.sl q.yP 5 (ct q.row)]++List.replicate 5 .any++[.sl .no 3 (l.map Tok.enc),.int .i64 l.length,.int .i64 (q.i:Nat)]++List.replicate 89 .any,[[.int .i64 0,.int .i64 0]],q.τ⟩
def Cd (l:List Tok) (σ:ab) (R:List Tree × Option Int) (q:w7):Prop :=
  q.i≤l.length∧du (l.drop q.i) (q.op.map fP.pair) q.row=R∧gy σ q.τ ((q.Ev,(q.op.map fP.enc).length)::(q.yP,(ct q.row).length)::q.op.map fP.tn)∧q.op.length≤q.i∧q.row.length≤q.i∧∀x∈q.op,x.ahead.length+1≤q.i
theorem U0 {α:Type} (l:List α):l=[]∨∃ys x,l=ys++[x]:=by
  rcases KP l with h | ⟨ys,x,h⟩
  · exact .inl h
  · exact .inr ⟨ys,x,by rw[h];simp⟩
theorem aor (l:List Tok) (σ:ab) (hb:l.length+1≤aE):ak prog 45 [.sl .no 3 (l.map Tok.enc)] σ fun v σ' => v = .aT [.sl .no 5 (ct (du l [] []).1),hC (du l [] []).2]∧σ' = σ:=by
  simp only[aE] at hb;generalize hR:du l [] []=R;refine ad9.calls ?_;simp only[aI,NI,am,aP];refine jj (fun q:{q:w7 // Cd l σ R q}=>pF l q.1) (fun q=>l.length - q.1.i) ?_ ?_
  · refine aZ.enter ⟨⟨0,.full,[],.full,[],σ⟩,by simp,hR,gy.init (by simp),by simp,by simp,by simp⟩ ?_ bY.rfl bC.rfl;simp[pF,List.replicate,am,ct]
  · rintro⟨⟨i,Ev,op,yP,row,τ⟩,h1,hR,hT,fK,cR,nK⟩;simp only at h1 hR hT fK cR nK;simp only[pF,List.replicate,am];refine fk ?_ ?_
    · intro ag;have ag:i<l.length:=by simpa using ag
      rw[jU ag] at hR;have agj:gV l i=l[i]:=by simp[gV,ag]
      rw[←agj] at hR;generalize ht:gV l i=t at hR;have wi:IntKind.i64.wrap ((i:Int)+1)=((i+1:Nat):Int):=by rw[wrap_i64 (by omega) (by omega)];simp
      have again:∀(q:w7) (t:List V) (m:List (List V)),Cd l σ R q→q.i=i+1→bZ t (pF l q).t→bY (m.take 1) [[.int .i64 0,.int .i64 0]] →
          aZ ⟨t,m,q.τ⟩ fun al => ∃j:{q:w7 // Cd l σ R q},al = pF l j.1∧l.length - j.1.i<l.length - i:=fun q t m hq hi ht hm=>by
        refine aZ.qq (I:=fun q:{q:w7 // Cd l σ R q}=>pF l q.1) (μ:=fun q=>l.length - q.1.i) ⟨q,hq⟩ (by simp only;omega) ht hm bC.rfl (by simp[pF,List.replicate,bn,V.lo]) (by simp[pF,cK,bn,V.lo])
      simp only[am];refine bx (by omega) (aoe ag) ?_;rw[ht];simp only[am,Nat.reduceAdd,aD,Tok.enc];refine(O2 t.kind _).mono ?_;rintro v σ' ⟨rfl,rfl⟩;simp only[du] at hR
      by_cases hc:closing t.kind=0
      · rw[ah (by simp[hc])] at hR;simp only[am,aC hc];refine(YK t.kind _).mono ?_;rintro v σ' ⟨rfl,rfl⟩;cases fU:kI t.kind
        · rw[fU] at hR;simp only[fO,ey] at hR;simp only[am,Nat.reduceAdd];refine FF (hT.perm (List.Perm.swap _ _ _)) (by rw[ix];simp[aE];omega) fun υ oQ=>?_
          simp only[ix,aD,cF,dk,gh] at oQ;simp only[am,ix,wi];have e:ct row++[[V.int .u8 t.kind,.str t.text,.int .i64 t.pos,.sl .no 5 [],.int .i64 t.pos]]=ct (row++[.mk t [] t.pos]):=by simp[po,Tree.enc,ct]
          rw[e];refine again ⟨i+1,Ev,op,.tk υ,row++[.mk t [] t.pos],σ'.aK υ (row.length+1)⟩ _ _ ⟨ag,hR,?_,by simp only;omega,by simp;omega,fun x hx=>by have:=nK x hx;simp only;omega⟩ rfl (by simp[pF,List.replicate,am]) (by simp[am]);refine gy.perm ?_ (List.Perm.swap _ _ _);simpa [ix] using oQ
        · rw[fU] at hR;simp only[dP] at hR
          rcases U0 op with rfl | ⟨ys,x,rfl⟩
          · simp only[cX,List.getLast?_nil] at hR;simp only[am,cX,dk,show decide (((0:Nat):Int)=0)=true from rfl];refine(Cn t _).mono ?_;rintro v σ' ⟨rfl,rfl⟩;simp only[am,Nat.reduceAdd,hC];refine aF rfl hT.1 ⟨?_,rfl⟩;simp[V.erase,aX,←hR,cj,dT,ct]
          · have aH:¬(((ys++[x]).length:Nat):Int)=0:=by simp;omega
            have wn:IntKind.i64.wrap ((((ys++[x]).length:Nat):Int) - 1)=(ys.length:Nat):=by rw[wrap_i64 (by simp<;>omega) (by simp at fK ⊢<;>omega)];simp
            have fy:((ys++[x]).map fP.enc)[((ys.length:Nat):Int).toNat]?=some x.enc:=by simp
            simp only[fw,bL,cX,BW,Ff,fP.pair] at hR;simp only[am,aA aH,wn];refine bx (by omega) (fy) ?_;simp only[am,fP.enc];refine bh.intro (O2 x.tok.kind _) ?_;simp only[am]
            by_cases hk:closing x.tok.kind=t.kind
            · rw[aw hk] at hR;simp only[am,aC hk,wn];refine bx (by omega) (fy) ?_;simp only[am,bV,Nat.reduceAdd,fP.enc,wn];refine anI (by simp) ?_;have hT2:gy σ σ' ((x.tk,(ct x.ahead).length)::ys.map fP.tn):=by
                refine(hT.tail.tail).perm ?_;simp only[fw,bL,cX,fP.tn];exact V8 _ _
              have hx3:=nK x (by simp);simp only[bz,cF,dk] at fK;simp only[am,Nat.reduceAdd];refine FF hT2 (by rw[ix];simp[aE];omega) fun υ oQ=>?_
              simp only[ix,cF,dk,gh] at oQ;simp only[am,ix,wi];have e:ct x.ahead++[[V.int .u8 x.tok.kind,.str x.tok.text,.int .i64 x.tok.pos,.sl .no 5 (ct row),.int .i64 t.pos]]=ct (x.ahead++[.mk x.tok row t.pos]):=by simp[po,Tree.enc]
              have e2:((ys++[x]).map fP.enc).take ys.length=ys.map fP.enc:=by simp
              rw[e,e2];refine again ⟨i+1,.full,ys,.tk υ,x.ahead++[.mk x.tok row t.pos],σ'.aK υ (x.ahead.length+1)⟩ _ _ ⟨ag,hR,?_,by simp only;omega,by simp;omega,fun y hy=>by have:=nK y (by simp[hy]);simp only;omega⟩ rfl (by simp[pF,List.replicate,am]) (by simp[am]);refine gy.full ?_;simpa [ix] using oQ
            · rw[ah hk] at hR;simp only[am,aA hk];refine(Cn t _).mono ?_;rintro v σ' ⟨rfl,rfl⟩;simp only[am,Nat.reduceAdd,hC];refine aF rfl hT.1 ⟨?_,rfl⟩;simp[V.erase,aX,←hR,cj,dT,ct]
      · rw[aw hc] at hR;simp only[am,aA hc];rw[aD] at hR
        by_cases pr:24≤op.length
        · rw[aw pr] at hR;simp only[am,aC (show (24:Int)≤op.length by omega)];refine(Cn t _).mono ?_;rintro v σ' ⟨rfl,rfl⟩;simp only[am,Nat.reduceAdd,hC];refine aF rfl hT.1 ⟨?_,rfl⟩;simp[V.erase,aX,←hR,cj,dT,ct]
        · rw[ah pr] at hR;simp only[am,lP,Nat.reduceAdd,aA (show ¬(24:Int)≤op.length by omega),akw];refine FF hT (by simp[aE];omega) fun υ oQ=>?_
          simp only[aD,cF,dk,gh] at oQ;simp only[am,aD,wi];have e:op.map fP.enc++[[V.int .u8 t.kind,.str t.text,.int .i64 t.pos,.sl yP 5 (ct row)]]=(op++[(⟨t,yP,row⟩:fP)]).map fP.enc:=by simp[fP.enc]
          rw[e];refine again ⟨i+1,.tk υ,op++[⟨t,yP,row⟩],.full,[],σ'.aK υ (op.length+1)⟩ _ _ ⟨ag,by simpa [fP.pair] using hR,?_,by simp;omega,by simp,fun x hx=>?_⟩ rfl (by simp[pF,List.replicate,am,ct]) (by simp[am])
          · simp only[aD,bz,cF,dk,gh,fw,bL,cX,fP.tn];refine gy.perm (gy.full (n:=(ct []).length) oQ) ?_;refine(List.Perm.swap _ _ _).trans (List.Perm.cons _ (List.Perm.cons _ ?_));exact(V8 _ _).symm
          · rcases gY.1 hx with hx | hx
            · have:=nK x hx;simp only;omega
            · simp at hx;subst hx;simp only;omega
    · intro ag;have ag:i=l.length:=by simp at ag;omega
      subst ag;rw[BP] at hR;simp only[du] at hR;simp only[am,aD];refine fk ?_ ?_
      · intro h0
        rcases U0 op with rfl | ⟨ys,x,rfl⟩
        · simp at h0
        have wn:IntKind.i64.wrap ((((ys++[x]).length:Nat):Int) - 1)=(ys.length:Nat):=by rw[wrap_i64 (by simp<;>omega) (by simp at fK ⊢<;>omega)];simp
        have fy:((ys++[x]).map fP.enc)[((ys.length:Nat):Int).toNat]?=some x.enc:=by simp
        simp only[fw,bL,cX,BW,fP.pair] at hR;simp only[am,wn];refine bx (by omega) (fy) ?_;simp only[am,fP.enc];refine(Cn x.tok _).mono ?_;rintro v σ' ⟨rfl,rfl⟩;simp only[am,Nat.reduceAdd,hC];refine aF rfl hT.1 ⟨?_,rfl⟩;simp[V.erase,aX,←hR,cj,dT,ct]
      · intro h0;have h0:op=[]:=by
          cases op with
          | nil=>rfl
          | cons x xs=>simp at h0<;>omega
        subst h0;simp only[cX,List.getLast?_nil] at hR;simp only[am,Nat.reduceAdd];refine aF rfl hT.1 ⟨?_,rfl⟩;simp[V.erase,aX,←hR,hC,cj,dT]
def NJ:AC:=.seq (.aa [⟨(some 2),.alloc [(.str []),(.int .i64 0)],none⟩])
 (.seq (.aa [U 4 0,xc 103 5 [.s 4,.c (.int .u8 97)],⟨(some 3),.alloc [(.int .u8 0),(.str []),(.int .i64 0),(.sl .full 5 []),(.int .i64 0)],none⟩,xs 5 3 5])
 (.seq (.aa [xf 0 6 3,xf 1 7 6,xo 8 7,xf 0 9 3,xf 2 10 9,xo 11 10,⟨(some 12),.build [(.str []),(.int .i64 0)] [(0,1,(.s 8)),(1,1,(.s 11))],none⟩,xs 2 2 12])
 (.ret)))
theorem ad_:aJ prog 46 NJ [.cell 2 true 2] 13:=⟨f46,⟨[],[],[]⟩,func46,by kernel_rfl,by kernel_rfl,by kernel_rfl,by kernel_rfl⟩
def NL:AC:=.seq (.seq (.aa [U 2 0,xk 3 2,xf 3 4 3,xf 0 5 4,xo 6 5,xB .neq 7 6 0])
 (.cond (.s 7) (.ret)
 (.skip)))
 (.seq (.aa [U 8 0,U 9 0,xk 10 9,xf 2 11 10,xo 12 11,⟨(some 13),.build [(.int .i64 0),(.int .i64 0)] [(0,1,(.c (.int .i64 2))),(1,1,(.s 12))],none⟩,xk 14 8,xf 3 15 14,xs 2 15 13])
 (.seq (.draw [(U 16 0,[]),(xk 17 16,[]),(xf 1 18 17,[]),(xo 19 18,[]),(U 20 0,[]),(xk 21 20,[]),(xf 0 22 21,[]),(xo 23 22,[]),(xL 24 23,[]),(xb .lss 25 19 24,[])])
 (.cond (.s 25) (.draw [(U 26 0,[]),(U 27 0,[]),(xk 28 27,[]),(xf 0 29 28,[]),(xo 30 29,[]),(U 31 0,[]),(xk 32 31,[]),(xf 1 33 32,[]),(xo 34 33,[]),(xA 5 35 30 34,[]),(xf 0 36 35,[]),(xf 2 37 36,[]),(xo 38 37,[]),(xk 39 26,[]),(xf 3 40 39,[]),(xf 1 41 40,[]),(xs 1 41 38,[])])
 (.skip))))
theorem aea:aJ prog 49 NL [] 42:=⟨f49,⟨[],[],[]⟩,func49,by kernel_rfl,by kernel_rfl,by kernel_rfl,by kernel_rfl⟩
def Lo:AC:=.seq (.aa [⟨(some 4),.alloc [(.int .u8 0),(.str []),(.int .i64 0),(.sl .full 5 []),(.int .i64 0)],none⟩])
 (.seq (.seq (.draw [(U 5 0,[]),(xk 6 5,[]),(xf 3 7 6,[]),(xf 0 8 7,[]),(xo 9 8,[]),(xB .neq 10 9 0,[]),(U 11 10,[]),(xh 11 (U 12 0),[]),(xh 11 (xk 13 12),[]),(xh 11 (xf 1 14 13),[]),(xh 11 (xo 15 14),[]),(xh 11 (U 16 0),[]),(xh 11 (xk 17 16),[]),(xh 11 (xf 0 18 17),[]),(xh 11 (xo 19 18),[]),(xh 11 (xL 20 19),[]),(xh 11 (xb .geq 21 15 20),[]),(⟨(some 22),.pick (.s 11) (.c (.bool true)) (.s 21),none⟩,[]),(U 23 22,[]),(xh 23 (U 24 0),[]),(xh 23 (xk 25 24),[]),(xh 23 (xf 0 26 25),[]),(xh 23 (xo 27 26),[]),(xh 23 (U 28 0),[]),(xh 23 (xk 29 28),[]),(xh 23 (xf 1 30 29),[]),(xh 23 (xo 31 30),[]),(xh 23 (xA 5 32 27 31),[]),(xh 23 (xf 0 33 32),[]),(xh 23 (xf 0 34 33),[]),(xh 23 (xo 35 34),[]),(xh 23 (U 36 1),[]),(xh 23 (xb .neq 37 35 36),[]),(⟨(some 38),.pick (.s 23) (.c (.bool true)) (.s 37),none⟩,[])])
 (.cond (.s 38) (.seq (.aa [U 39 0,xc 49 40 [.s 39]])
 (.seq (.aa [⟨(some 41),.build [(.int .u8 0),(.str []),(.int .i64 0),(.sl .full 5 []),(.int .i64 0)] [],none⟩,xs 5 4 41])
 (.ret)))
 (.skip)))
 (.seq (.aa [U 42 0,xk 43 42,xf 1 44 43,xo 45 44,xB .add 46 45 1,xk 47 42,xf 1 48 47,xs 1 48 46])
 (.seq (.draw [(U 49 0,[]),(xk 50 49,[]),(xf 0 51 50,[]),(xo 52 51,[]),(U 53 0,[]),(xk 54 53,[]),(xf 1 55 54,[]),(xo 56 55,[]),(xB .sub 57 56 1,[]),(xA 5 58 52 57,[]),(xl 5 59 58,[]),(xs 5 4 59,[])])
 (.ret))))
theorem abP:aJ prog 103 Lo [.cell 4 true 5] 60:=⟨f103,⟨[],[],[]⟩,func103,by kernel_rfl,by kernel_rfl,by kernel_rfl,by kernel_rfl⟩
def Lr:AC:=.seq (.aa [⟨(some 5),.box 5 (.s 1),none⟩,⟨(some 7),.box 2 (.s 3),none⟩])
 (.seq (.seq (.aa [xf 0 8 7,xo 9 8,xB .neq 10 9 0])
 (.cond (.s 10) (.seq (.aa [U 11 0,xl 2 12 7,xk 13 11,xf 3 14 13,xs 2 14 12])
 (.ret))
 (.skip)))
 (.seq (.aa [U 15 0,U 16 2,xk 17 15,xf 1 18 17,xs 1 18 16])
 (.seq (.seq (.aa [U 19 0,xk 20 19,xf 5 21 20,xf 7 22 21,xf 0 23 22,xo 24 23,xB .eql 25 24 0])
 (.cond (.s 25) (.seq (.aa [U 26 0,xl 5 27 5,xk 28 26,xf 5 29 28,xf 7 30 29,xs 5 30 27])
 (.ret))
 (.skip)))
 (.aa [U 31 0,xl 5 32 5,xk 33 31,xf 5 34 33,xf 12 35 34,xs 5 35 32]))))
theorem abS:aJ prog 106 Lr [] 36:=⟨f106,⟨[],[],[]⟩,func106,by kernel_rfl,by kernel_rfl,by kernel_rfl,by kernel_rfl⟩
theorem OV {r:Nat} {rd:ae} {cs:List V} {σ:ab} (h:σ.box r=some (rd.enc++cs)) (h0:0≤rd.at_):ak prog 49 [.ptr (.out r) 0] σ fun v σ' => v = .aT []∧σ' = σ.set r (rd.fail.enc++cs):=by
  refine aea.calls ?_;simp only[aI,NL,am,aP,am,h,ae.enc];cases hb:rd.bad with
  | some b =>
    simp only[am,eT,Int.reduceEq,cj];refine aF rfl (ab.aS _) ⟨rfl,?_⟩;rw[ae.fail,hb];exact(ab.uv h).symm
  | none =>
    simp only[am,Nat.reduceAdd,ix,bQ,cj,h,ae.enc]
    by_cases h1:rd.at_<rd.l.length
    · obtain⟨j,hj⟩:=E8 h0;have gl : j<rd.l.length:=by omega
      simp only[am,bQ,h1,bQ];refine bx h0 (c:=rd.l[j].enc) (by simp[po,hj,gl]) ?_;simp only[am,Nat.reduceAdd,cm];refine aF rfl (ab.aS _) ⟨rfl,?_⟩;simp[ae.fail,ae.spot,hb,hj,gl,dT]
    · simp only[am,eT,h1,eT];refine aF rfl (ab.aS _) ⟨rfl,?_⟩
      have:rd.l[rd.at_.toNat]?=none:=uR (by omega)
      simp[ae.fail,ae.spot,hb,this,dT]
theorem Cz {r:Nat} {rd:ae} {k:Int} {cs:List V} {σ:ab} (h:σ.box r=some (rd.enc++cs)) (h0:0≤rd.at_) (hb:rd.l.length≤aE):ak prog 103 [.ptr (.out r) 0,.int .u8 k] σ fun v σ' => v = .agg (rd.take k).1.enc∧σ' = σ.set r ((rd.take k).2.enc++cs):=by
  refine abP.calls ?_;simp only[aI,Lo,am,aP,am,h,ae.enc];have gm:rd.sees k=false→ak prog 49 [.ptr (.out r) 0] σ fun v σ' => v = .aT []∧σ' = σ.set r (rd.fail.enc++cs):=fun _=>OV h h0
  cases dV:rd.bad with
  | some b =>
    have hs:rd.sees k=false:=by simp[ae.sees,ae.ok,dV]
    simp only[am,eT,Int.reduceEq,cj];refine(gm hs).mono ?_;rintro v σ' ⟨rfl,rfl⟩;simp only[am,Nat.reduceAdd];refine aF rfl (ab.aS _) ⟨?_,?_⟩
    · simp[ae.take,hs,V.erase,aX,Tree.zero,Tree.enc,ct]
    · simp[ae.take,hs,ae.enc,cj]
  | none =>
    simp only[am,ix,bQ,cj,h,ae.enc]
    by_cases h1:rd.at_<rd.l.length
    · obtain⟨j,hj⟩:=E8 h0;have gl : j<rd.l.length:=by omega
      simp only[am,aA (show ¬(rd.l.length:Int)≤rd.at_ by omega),h,ae.enc];refine bx h0 (c:=rd.l[j].enc) (by simp[po,hj,gl]) ?_;simp only[am,cm]
      by_cases hk:rd.l[j].tok.kind=k
      · have hs:rd.sees k=true:=by simp[ae.sees,ae.ok,dV,l6,hj,gl,hk]
        have w1:IntKind.i64.wrap (rd.at_+1)=rd.at_+1:=by simp only[aE] at hb;exact wrap_i64 (by omega) (by omega)
        have w2:IntKind.i64.wrap (rd.at_+1 - 1)=rd.at_:=by rw[show rd.at_+1 - 1=rd.at_ by omega];simp only[aE] at hb;exact wrap_i64 (by omega) (by omega)
        simp only[am,aC hk,h,ae.enc,w1,w2];refine bx h0 (c:=rd.l[j].enc) (by simp[po,hj,gl]) ?_;simp only[am,Tree.af];refine aF Tree.cx (ab.aS _) ⟨?_,?_⟩
        · simp[ae.take,hs,V.erase,hj,gl,List.getD,Tree.af];exact cm _
        · simp[ae.take,hs,cj]
      · have hs:rd.sees k=false:=by simp[ae.sees,ae.ok,dV,l6,hj,gl,hk]
        simp only[am,aA hk];refine(gm hs).mono ?_;rintro v σ' ⟨rfl,rfl⟩;simp only[am,Nat.reduceAdd];refine aF rfl (ab.aS _) ⟨?_,?_⟩
        · simp[ae.take,hs,V.erase,aX,Tree.zero,ct,Tree.tok,Tree.kids,Tree.fin]
        · simp[ae.take,hs,ae.enc,cj]
    · have hs:rd.sees k=false:=by
        have:rd.l[rd.at_.toNat]?=none:=uR (by omega)
        simp[ae.sees,ae.ok,dV,l6,this]
      simp only[am,aC (show (rd.l.length:Int)≤rd.at_ by omega)];refine(gm hs).mono ?_;rintro v σ' ⟨rfl,rfl⟩;simp only[am,Nat.reduceAdd];refine aF rfl (ab.aS _) ⟨?_,?_⟩
      · simp[ae.take,hs,V.erase,aX,Tree.zero,Tree.enc,ct]
      · simp[ae.take,hs,ae.enc,cj]
theorem zC {r:Nat} {rd:ae} {cs:List V} {σ:ab} (h:σ.box r=some (rd.enc++cs)) (h0:0≤rd.at_) (hb:rd.l.length≤aE):ak prog 46 [.ptr (.out r) 0] σ fun v σ' => v = .agg rd.word.1.enc∧σ' = σ.set r (rd.word.2.enc++cs):=by
  refine ad_.calls ?_;simp only[aI,NJ,am,aP];refine(Cz h h0 hb).mono ?_;rintro v σ' ⟨rfl,rfl⟩;simp only[am,Nat.reduceAdd,Tree.af,Tree.fl];refine aF rfl (ab.aS _) ⟨?_,?_⟩
  · simp[ae.word,V.erase,aX,Word.enc]
  · simp[ae.word]
theorem O9 {r:Nat} {rd:ae} {c:aj} {pc:V} {g:Nd × Int × Option Int} {σ:ab} (h:σ.box r=some (rd.enc++c.b7 pc)) (hb:rd.bad=none):ak prog 106 [.ptr (.out r) 0,.agg g.1.enc,.int .i64 g.2.1,hC g.2.2] σ fun v σ' => v = .aT []∧σ' = σ.set r ((jK rd c g).1.enc++(jK rd c g).2.b7 pc):=by
  refine abS.calls ?_;simp only[aI,Lr,am,aP,Nat.reduceAdd,Nd.af];simp only[am,Nat.reduceAdd,hC,ae.enc,aj.b7];cases hg:g.2.2 with
  | some a =>
    simp only[am,Nat.reduceAdd,eT,Int.reduceEq,cj,h,ae.enc,aj.b7];refine aF rfl (ab.aS _) ⟨rfl,?_⟩;simp[jK,hg]
  | none =>
    simp only[am,Nat.reduceAdd,bQ,cj,h,ae.enc,aj.b7]
    by_cases hk:c.left.kind=0
    · simp only[am,Nat.reduceAdd,aC hk,Nd.cm];refine aF rfl (ab.aS _) ⟨rfl,?_⟩;simp[jK,hg,hk]
    · simp only[am,Nat.reduceAdd,aA hk,Nd.cm];refine aF rfl (ab.aS _) ⟨rfl,?_⟩;simp[jK,hg,hk]
def Nx:AC:=.seq (.aa [⟨(some 2),.alloc [(.str []),(.str [])],none⟩])
 (.seq (.seq (.aa [U 3 0,xB .lss 4 3 0,U 5 4,xh 5 (U 6 0),xh 5 (xB .geq 7 6 16),⟨(some 8),.pick (.s 5) (.c (.bool true)) (.s 7),none⟩])
 (.cond (.s 8) (.seq (.aa [⟨(some 9),.build [(.str []),(.str [])] [],none⟩,xs 2 2 9])
 (.ret))
 (.skip)))
 (.seq (.aa [U 10 0,⟨(some 11),.eJ 16 2 (.c (.ptr (.iB 0) 0)) (.s 10),none⟩,xl 2 12 11,xs 2 2 12])
 (.ret)))
theorem adZ:aJ prog 35 Nx [.cell 2 true 2] 13:=⟨f35,⟨[],[],[]⟩,func35,by kernel_rfl,by kernel_rfl,by kernel_rfl,by kernel_rfl⟩
def NK:AC:=.seq (.aa [xi 2 0])
 (.seq (.seq (.aa [xi 4 0])
 (.block 0 (.loop (.seq (.aa [xB .lss 5 4 16])
 (.seq (.cond (.s 5) (.skip)
 (.exit 0))
 (.seq (.block 1 (.seq (.aa [U 6 4,U 3 6])
 (.seq (.aa [U 7 3,xB .gtr 8 7 0,U 9 8,xg 9 (U 10 3),⟨(some 11),.eJ 16 2 (.c (.ptr (.iB 0) 0)) (.s 10),(some (9,true))⟩,xg 9 (xf 0 12 11),xg 9 (xo 13 12),xg 9 (U 14 0),⟨(some 15),.gP .eql (.s 13) (.s 14),(some (9,true))⟩,⟨(some 16),.pick (.s 9) (.s 15) (.c (.bool false)),none⟩])
 (.cond (.s 16) (.seq (.aa [U 17 3,U 2 17])
 (.ret))
 (.skip)))))
 (.aa [xB .add 18 4 1,U 4 18])))))))
 (.seq (.aa [xi 2 0])
 (.ret)))
theorem ad':aJ prog 47 NK [.tmp 2] 19:=⟨f47,⟨[],[],[]⟩,func47,by kernel_rfl,by kernel_rfl,by kernel_rfl,by kernel_rfl⟩
theorem Qk {i:Nat} (h:i<16):fq.drop (i*2)=[V.str (iV.getD i ([],[])).1,.str (iV.getD i ([],[])).2]++((iV.map fun p=>[V.str p.1,V.str p.2]).drop (i+1)).flatten:=by
  unfold fq;rw[CN (k:=2) (by intro r hr;simp only[qh] at hr;obtain⟨p,_,rfl⟩:=hr;rfl),jU (by simpa [iV] using h)]
  have:i<iV.length:=by simpa [iV] using h
  simp[List.getD,this]
theorem IV (op:Int) {σ:ab} (hg:σ.bH 0=some fq):ak prog 35 [.int .i64 op] σ fun v σ' => v = .agg [.str (cL op).1,.str (cL op).2]∧σ' = σ:=by
  refine adZ.calls ?_;simp only[aI,Nx,am,aP]
  by_cases h0:op<0
  · simp only[am,Nat.reduceAdd,aC h0];refine aF rfl (ab.aS _) ⟨?_,rfl⟩
    have:¬(0≤op∧op<16):=by omega
    simp[V.erase,aX,cL,this]
  · simp only[am,aA h0]
    by_cases h1:16≤op
    · simp only[am,Nat.reduceAdd,aC h1];refine aF rfl (ab.aS _) ⟨?_,rfl⟩
      have:¬(0≤op∧op<16):=by omega
      simp[V.erase,aX,cL,this]
    · simp only[am,bV,aA h1];refine iH (by omega) (by omega) ?_;simp only[am,Nat.reduceAdd,hg,Qk (show op.toNat<16 by omega)];refine aF rfl (ab.aS _) ⟨?_,rfl⟩
      have:0≤op∧op<16:=by omega
      simp[V.erase,aX,cL,this]
def tT (w:List UInt8) (σ:ab) (i:Nat):St:=⟨[.str w,.any,.any,.any,.int .i64 (i:Nat)]++List.replicate 14 .any,[],σ⟩
theorem aiP (w:List UInt8) {σ:ab} (hg:σ.bH 0=some fq):ak prog 47 [.str w] σ fun v σ' => v = .int .i64 (jL w)∧σ' = σ:=by
  generalize hR:jL w=R;unfold jL at hR;refine ad'.calls ?_;simp only[aI,NK,am,aP];refine jj (fun p:{p:Nat × Nat // mR w p.1 p.2=R∧p.2+p.1=16}=>tT w σ p.1.2) (fun p=>p.1.1) ?_ ?_
  · refine aZ.enter ⟨(16,0),hR,rfl⟩ ?_ bY.rfl bC.rfl;simp[tT,List.replicate,am]
  · rintro⟨⟨n,i⟩,hR,hs⟩;simp only at hR hs;simp only[tT,List.replicate,am]
    by_cases ag:i<16
    · obtain⟨m,rfl⟩:∃m,n=m+1:=⟨n - 1,by omega⟩;simp only[mR] at hR;have wi:IntKind.i64.wrap ((i:Int)+1)=((i+1:Nat):Int):=by rw[wrap_i64 (by omega) (by omega)];simp
      have hf:cL (i:Nat)=iV.getD i ([],[]):=by simp only[cL];rw[aw (by omega)];simp
      have again:∀(t:List V),mR w m (i+1)=R→bZ t (tT w σ (i+1)).t→aZ ⟨t,[],σ⟩ fun al => ∃j:{p:Nat × Nat // mR w p.1 p.2=R∧p.2+p.1=16},al = tT w σ j.1.2∧j.1.1<m+1:=fun t h ht =>
        aZ.again (I:=fun p:{p:Nat × Nat // mR w p.1 p.2=R∧p.2+p.1=16}=>tT w σ p.1.2) (μ:=fun p=>p.1.1) ⟨(m,i+1),h,by simp only;omega⟩ (by simp) ht bY.rfl bC.rfl
      simp only[am,aC (show (i:Int)<16 by omega)]
      by_cases h0:0<i
      · simp only[am,bV,aC (show (0:Int)<i by omega)];refine iH (by omega) (by omega) ?_;simp only[am,hg,Qk ag,iv]
        by_cases hw:(iV.getD i ([],[])).1=w
        · rw[aw ⟨h0,by rw[hf];exact hw⟩] at hR;simp only[am,aC hw];refine az ?_;simp[V.erase,hR]
        · rw[ah (by rw[hf];exact fun h=>hw h.2)] at hR;simp only[am,aA hw,wi];exact again _ hR (by simp[tT,List.replicate,am])
      · rw[ah (by simp[h0])] at hR;simp only[am,aA (show ¬(0:Int)<i by omega),wi];exact again _ hR (by simp[tT,List.replicate,am])
    · obtain rfl:n=0:=by omega
      simp only[mR] at hR;simp only[am,aA (show ¬(i:Int)<16 by omega)];refine az ?_;simp[V.erase,hR]
def Lq:AC:=.seq (.aa [U 6 0,xc 103 7 [.s 6,.c (.int .u8 123)],⟨(some 2),.alloc [(.int .u8 0),(.str []),(.int .i64 0),(.sl .full 5 []),(.int .i64 0)],none⟩,xs 5 2 7])
 (.seq (.aa [U 8 0,xf 0 9 2,xf 2 10 9,xo 11 10,xk 12 8,xf 5 13 12,xf 6 14 13,xs 1 14 11])
 (.seq (.seq (.aa [U 15 0,xk 16 15,xf 3 17 16,xf 0 18 17,xo 19 18,xB .neq 20 19 0,U 21 20,xh 21 (xf 3 22 2),xh 21 (xo 23 22),xh 21 (xL 24 23),xh 21 (xB .eql 25 24 0),⟨(some 26),.pick (.s 21) (.c (.bool true)) (.s 25),none⟩])
 (.cond (.s 26) (.ret)
 (.skip)))
 (.seq (.aa [xf 3 27 2,xo 28 27,xf 4 29 2,xo 30 29,⟨(some 31),.build [(.sl .full 5 []),(.int .i64 0),(.int .i64 0),(.int .i64 0),(.int .i64 0),(.int .i64 0),(.int .i64 0),(.str []),(.int .i64 0),(.sl .full 2 []),(.sl .full 4 []),(.int .i64 0),(.int .i64 0),(.int .i64 0),(.str []),(.sl .full 2 []),(.sl .full 5 []),(.int .i64 0),(.int .i64 0),(.str []),(.sl .full 2 []),(.sl .full 5 [])] [(0,1,(.s 28)),(2,1,(.s 30))],none⟩,⟨(some 32),.eD 22 (.s 31),none⟩,U 3 32])
 (.seq (.block 0 (.loop (.seq (.seq (.aa [U 33 3,xk 34 33,xf 3 35 34,xf 0 36 35,xo 37 36,xB .eql 38 37 0])
 (.cond (.s 38) (.skip)
 (.exit 0)))
 (.block 1 (.seq (.aa [U 39 3,xc 46 40 [.s 39],⟨(some 4),.alloc [(.str []),(.int .i64 0)],none⟩,xs 2 4 40])
 (.seq (.aa [U 41 3,xc 103 42 [.s 41,.c (.int .u8 60)]])
 (.seq (.aa [U 43 3,xc 46 44 [.s 43],⟨(some 5),.alloc [(.str []),(.int .i64 0)],none⟩,xs 2 5 44])
 (.seq (.draw [(U 45 0,[]),(U 46 0,[]),(xk 47 46,[]),(xf 5 48 47,[]),(xf 5 49 48,[]),(xo 50 49,[]),(xl 2 51 4,[]),(xl 2 52 5,[]),(⟨(some 53),.build [(.str []),(.int .i64 0),(.str []),(.int .i64 0)] [(0,2,(.s 51)),(2,2,(.s 52))],none⟩,[]),(⟨(some 54),.cB 4 [(.s 53)],none⟩,[]),(xa 4 55 50 54,[]),(xk 56 45,[]),(xf 5 57 56,[]),(xf 5 58 57,[]),(xs 1 58 55,[])])
 (.seq (.seq (.draw [(U 59 3,[]),(xk 60 59,[]),(xf 1 61 60,[]),(xo 62 61,[]),(U 63 3,[]),(xk 64 63,[]),(xf 0 65 64,[]),(xo 66 65,[]),(xL 67 66,[]),(xb .eql 68 62 67,[])])
 (.cond (.s 68) (.exit 0)
 (.skip)))
 (.aa [U 69 3,xc 103 70 [.s 69,.c (.int .u8 44)]]))))))))))
 (.seq (.lH (.aa [U 71 3,xk 72 71,xf 3 73 72,xf 0 74 73,xo 75 74,xB .neq 76 75 0]))
 (.cond (.s 76) (.aa [U 77 0,U 78 3,xk 79 78,xf 3 80 79,xl 2 81 80,xk 82 77,xf 3 83 82,xs 2 83 81])
 (.skip)))))))
theorem abR:aJ prog 105 Lq [] 84:=⟨f105,⟨[32],[11],[]⟩,func105,by kernel_rfl,by kernel_rfl,by kernel_rfl,by kernel_rfl⟩
theorem aob {r:ae} {k:Int}:((r.take k).1.kids.length:Int)≤bp r.l:=by
  have:=(r.rk k).1
  have:=j5 (r.take k).1.kids
  omega
theorem VA (r:ae):jm r r.word.2:=tA r
def fE:List V:=[.int .i64 0,.int .i64 0,.str [],.int .i64 0,.sl .full 2 [],.sl .full 4 [],.int .i64 0,.int .i64 0,.int .i64 0,.str [],.sl .full 2 [],.sl .full 5 [],.int .i64 0,.int .i64 0,.str [],.sl .full 2 [],.sl .full 5 []]
theorem aj6 {σ σ' : ab} (h:σ=σ'):bC σ σ' := h▸bC.rfl
structure B8 where
  n:Nat
  i:ae
  acc:List (Word × Word)
  τ:Nat
def mg (σ:ab) (r q τ:Nat) (i rd:ae) (c:aj) (acc:List (Word × Word)):ab:=((σ.set q (i.enc++fE)).set r (rd.enc++c.b7 (.sl (.tk τ) 4 (acc.map dr)))).aK τ acc.length
section
variable {σ:ab} {r q τ:Nat} {i i' rd:ae} {c:aj} {acc:List (Word × Word)}
theorem yG (h:q≠r):(mg σ r q τ i rd c acc).box q=some (i.enc++fE):=by simp[mg,ab.aK,ab.set,h]
theorem Ta:(mg σ r q τ i rd c acc).box r=some (rd.enc++c.b7 (.sl (.tk τ) 4 (acc.map dr))):=by simp[mg,ab.aK,ab.set]
theorem akB:(mg σ r q τ i rd c acc).aB τ=some acc.length:=by simp[mg,ab.aK]
theorem D2 (h:q≠r):(mg σ r q τ i rd c acc).set q (i'.enc++fE)=mg σ r q τ i' rd c acc:=by
  have:((σ.set q (i.enc++fE)).set r (rd.enc++c.b7 (.sl (.tk τ) 4 (acc.map dr)))).set q (i'.enc++fE)=(σ.set q (i'.enc++fE)).set r (rd.enc++c.b7 (.sl (.tk τ) 4 (acc.map dr))):=by rw[ab.set_comm (Ne.symm h),ab.set_set]
  show (((σ.set q (i.enc++fE)).set r (rd.enc++c.b7 (.sl (.tk τ) 4 (acc.map dr)))).set q (i'.enc++fE)).aK τ acc.length=_;rw[this];rfl
theorem Y_ {pc:V}:a9 false 1 ((rd.enc++c.b7 pc).drop 10)=some pc:=rfl
theorem Zd {pc x:V}:setAt (rd.enc++c.b7 pc) 10 [x]=rd.enc++c.b7 x:=rfl
theorem Y8 {pc:V}:bD 1 ((rd.enc++c.b7 pc).drop 10)=true:=rfl
theorem Y9 {cs:List V}:a9 false 1 (rd.enc++cs)=some (.sl .no 5 (ct rd.l)):=rfl
theorem Y0 {cs:List V}:a9 false 1 ((rd.enc++cs).drop 1)=some (.int .i64 rd.at_):=rfl
theorem Y3 {cs:List V}:a9 false 1 ((rd.enc++cs).drop 2)=some (.int .i64 rd.fin):=rfl
theorem Y1 {cs:List V}:a9 false 1 ((rd.enc++cs).drop 3)=some (.int .i64 (cj rd.bad)):=rfl
theorem Y2 {cs:List V}:takeN 2 ((rd.enc++cs).drop 3)=some [.int .i64 (cj rd.bad),.int .i64 (dT rd.bad)]:=rfl
theorem Y5 {cs:List V}:bD 2 ((rd.enc++cs).drop 3)=true:=rfl
theorem Za {cs:List V} {b:Option Int}:setAt (rd.enc++cs) 3 [.int .i64 (cj b),.int .i64 (dT b)]=({rd with bad:=b}:ae).enc++cs:=by cases cs<;>rfl
def jv:=And.intro @Y_ <| And.intro @Zd <| And.intro @Y8 <| And.intro @Y9 <| And.intro @Y0 <| And.intro @Y3 <| And.intro @Y1 <| And.intro @Y2 <| And.intro @Y5 @Za
theorem akA {p:Word × Word} {n:Nat} (hn:n=acc.length+1):((mg σ r q τ i rd c acc).aK τ n).set r (rd.enc++c.b7 (.sl (.tk τ) 4 (acc.map dr++[dr p])))=mg σ r q τ i rd c (acc++[p]):=by
  subst hn;unfold mg;rw[bz,cF,dk,fw,bL,cX];show ((((σ.set q (i.enc++fE)).set r (rd.enc++c.b7 (.sl (.tk τ) 4 (acc.map dr)))).set r (rd.enc++c.b7 (.sl (.tk τ) 4 (acc.map dr++[dr p])))).aK τ acc.length).aK τ (acc.length+1)=_;rw[ab.set_set,ji]
end
theorem ab.J0 {σ σ' : ab} {r:Nat} {X:List V} (h:σ.sub σ'):(σ.set r X).sub (σ'.set r X):=by
  refine⟨fun b cs hb=>?_,h.2⟩;simp only[ab.set] at hb ⊢
  by_cases e:b=r
  · rw[aw e] at hb ⊢;exact hb
  · rw[ah e] at hb ⊢;exact h.1 b cs hb
def sX (r q:Nat):List V:=[.ptr (.out r) 0,.any,.any,.ptr (.out q) 0]++List.replicate 80 .any
theorem Ti {σ:ab} {r q τ:Nat} {i rd:ae} {c:aj} {acc:List (Word × Word)} {t:List V} {l:List (List V)} {K:St→Prop} (ba:σ.aB τ=none) (ht:bZ t (sX r q))
    (hK:K ⟨sX r q,[],(σ.set q (i.enc++fE)).set r (rd.enc++c.b7 (.sl .no 4 (acc.map dr)))⟩):aZ ⟨t,l,mg σ r q τ i rd c acc⟩ K:=by
  refine aZ.xD (l' := []) ht (by simp[bY]) ?_ (by simp[sX,List.replicate,bn,V.lo]) rfl hK;refine⟨fun b cs' hb=>?_,fun υ m hm=>?_,fun _ _ h=>h⟩
  · simp only[mg,ab.aK,ab.set] at hb ⊢;split at hb
    · rename_i h;subst h;simp only[aG] at hb;subst hb;exact⟨_,by rw[aw rfl],by simp[ae.enc,aj.b7,am]⟩
    · rename_i h;exact⟨cs',by rw[ah h];exact hb,bZ.rfl⟩
  · have hm:σ.aB υ=some m:=hm;have aH:υ≠τ:=by rintro rfl;rw[ba] at hm;simp at hm
    simp only[mg,ab.aK,ab.set,ah aH];exact hm
theorem Td {n:Nat} {i:ae} {acc:List (Word × Word)} (h:i.bad≠none):ae.gH n i acc=(i,acc):=by
  cases n<;>simp[ae.gH,h]
theorem I' {ps:List (Word × Word)} (h:ps≠[]):mU ps = .sl .no 4 (ps.map dr):=by cases ps with | nil=>exact absurd rfl h | cons _ _=>rfl
def r_ (σ:ab) (r q:Nat) (rd:ae) (c:aj) (p:B8):St :=
  ⟨[.ptr (.out r) 0,.any,.any,.ptr (.out q) 0]++List.replicate 80 .any,[],mg σ r q p.τ p.i rd c p.acc⟩
def K9 (t:Tree) (σ:ab) (R:ae × List (Word × Word)) (p:B8):Prop :=
  ae.gH p.n p.i p.acc=R∧p.i.l=t.kids∧0≤p.i.at_∧p.i.at_≤p.i.l.length∧(p.i.bad=none→(t.kids.length:Int)+1≤p.i.at_+p.n)∧(p.acc.length:Int)≤p.i.at_+1∧(p.i.bad=none→(p.acc.length:Int)≤p.i.at_)∧σ.aB p.τ=none∧(p.i.bad=none∨p.acc≠[])
theorem akG {r:Nat} {rd:ae} {c:aj} {σ:ab} (h:σ.box r=some (rd.enc++c.b7 (.sl .full 4 []))) (hc:c.aY=[]) (h0:0≤rd.at_) (hm:bp rd.l+1≤aE) :
    ak prog 105 [.ptr (.out r) 0] σ fun v σ' => v = .aT []∧σ' = σ.set r ((n6 rd c).1.enc++(n6 rd c).2.b7 (mU (n6 rd c).2.aY)):=by
  have hlen:=j5 rd.l;refine abR.calls ?_;simp only[aI,Lq,am,aP];refine(Cz h h0 (by omega)).mono ?_;rintro v σ' ⟨rfl,rfl⟩;have eU:=aob (r:=rd) (k:=123);have hpp:n6 rd c=if (rd.take 123).2.bad≠none∨(rd.take 123).1.kids.length=0 then ((rd.take 123).2,{c with jM:=(rd.take 123).1.tok.pos})
    else ((rd.take 123).2.qt ((rd.take 123).1.inner.gH ((rd.take 123).1.kids.length+1) []).1.bad,{c with jM:=(rd.take 123).1.tok.pos,aY:=((rd.take 123).1.inner.gH ((rd.take 123).1.kids.length+1) []).2}):=rfl
  rw[hpp];generalize (rd.take 123).1=t at eU ⊢;generalize (rd.take 123).2=r1;simp only[am,Nat.reduceAdd,Tree.af,Tree.fl,ae.enc,aj.b7];cases hb:r1.bad with
  | some b =>
    simp only[am,eT,Int.reduceEq,cj];refine aF rfl (ab.aS _) ⟨rfl,?_⟩;simp[hc,mU,hb]
  | none =>
    simp only[am,ix,bQ,cj,Tree.fl]
    by_cases hk:t.kids.length=0
    · simp only[am,aC (show (t.kids.length:Int)=0 by omega)];refine aF rfl (ab.aS _) ⟨rfl,?_⟩;simp[hc,mU,hb,hk]
    · simp only[am,Nat.reduceAdd,aA (show ¬(t.kids.length:Int)=0 by omega),Tree.fl];refine gE fun q hq=>?_
      have iE:q≠r:=by rintro rfl;simp[ab.set] at hq
      have HJ:σ.box q=none:=by simpa [ab.set,iE] using hq
      generalize hR:ae.gH (t.kids.length+1) t.inner []=R;rw[ah (by simp[hk])];have eH:t.inner=(⟨t.kids,0,t.fin,none⟩:ae):=rfl;generalize C2:({c with jM:=t.tok.pos}:aj)=c1;have e1:∀A B,(σ.set r A).set q B=(σ.set q B).set r A:=fun A B=>ab.set_comm (Ne.symm iE)
      rw[e1];refine jj (fun p:{p:B8 // K9 t σ R p}=>r_ σ r q r1 c1 p.1) (fun p=>p.1.n) ?_ ?_
      · refine(aZ.xD (t' := (r_ σ r q r1 c1 ⟨0,t.inner,[],0⟩).t) (l' := []) (σ' := (σ.set q (t.inner.enc++fE)).set r (r1.enc++c1.b7 (.sl .full 4 []))) ?_ trivial ?_ (by simp[r_,List.replicate,bn,V.lo]) rfl rfl).bind ?_
        · simp[r_,List.replicate,am]
        · refine aj6 ?_;simp[ae.enc,aj.b7,fE,←C2,eH,hb,cj,dT];rfl
        · rintro _ rfl;refine aZ.tok 0 fun τ ba=>⟨_,[],(σ.set q (t.inner.enc++fE)).set r (r1.enc++c1.b7 (.sl (.tk τ) 4 [])),dc.rfl,rfl,by simp,?_,⟨⟨t.kids.length+1,t.inner,[],τ⟩,?_⟩,?_⟩
          · have:=np.set (σ:=(σ.set q (t.inner.enc++fE)).set r (r1.enc++c1.b7 (.sl .full 4 []))) (b:=r) (τ:=τ) (n:=0) (cs' := r1.enc++c1.b7 (.sl (.tk τ) 4 [])) (ab.cH _ _ _) (by simp[ae.enc,aj.b7,mQ])
            rwa [ab.set_set] at this
          · exact⟨hR,rfl,by simp[eH],by simp[eH],fun _=>by simp[eH],by simp[eH],fun _=>by simp[eH],ba,.inl rfl⟩
          · rfl
      · rintro⟨⟨n,i,acc,τ⟩,hR,hl,Hn,mK,hn,ha1,G0,ba,aH⟩;simp only at hR hl Hn mK hn ha1 G0 ba aH;simp only[r_,List.replicate,am,yG iE,jv];have fc : i.l.length=t.kids.length:=by rw[hl]
        have Ap:i.l.length≤aE:=by rw[hl];omega
        cases dV:i.bad with
        | some b =>
          simp only[am,eT,Int.reduceEq,cj];rw[Td (by simp[dV])] at hR;have afp:acc≠[]:=by rcases aH with h | h;rw[dV] at h;simp at h;exact h
          refine Ti ba (by simp[sX,List.replicate,am]) ?_;have rS:∀B,((σ.set q (i.enc++fE)).set r B).box q=some (i.enc++fE):=fun B=>by simp[ab.set,iE]
          have qG:∀A B,((σ.set q A).set r B).box r=some B:=fun A B=>by simp[ab.set]
          simp only[sX,List.replicate,am,rS,jv,dV,cj];simp only[am,Nat.reduceAdd,eT,Int.reduceEq,rS,jv,dV,cj];refine aF rfl (ab.J0 (fv HJ)) ⟨rfl,?_⟩;simp[←hR,ae.qt,dV,I' afp,←C2,ae.enc,aj.b7,cj,dT];rfl
        | none =>
          have G0:=G0 dV;have hn:=hn dV;obtain⟨m,rfl⟩:∃m,n=m+1:=⟨n - 1,by omega⟩;simp only[ae.gH,dV,ne_eq,IM,ey] at hR;simp only[am,bQ,cj];refine(zC (yG iE) Hn Ap).mono ?_;rintro v σ' ⟨rfl,rfl⟩;rw[D2 iE];obtain⟨g1,g2⟩:=VA i;have g2:=g2 Hn mK;have e1:i.word.2.l.length=i.l.length:=by rw[g1]
          generalize i.word.2=i1 at *;generalize i.word.1=lo at *;simp only[am,Word.af];refine(Cz (yG iE) (by omega) (by rw[g1];exact Ap)).mono ?_;rintro v σ' ⟨rfl,rfl⟩;rw[D2 iE];obtain⟨g3,g4⟩:=pq i1 60;have g4:=g4 (by omega) (by omega);have e2:(i1.take 60).2.l.length=i1.l.length:=by rw[g3]
          generalize (i1.take 60).2=i2 at *;simp only[am];refine(zC (yG iE) (by omega) (by rw[g3,g1];exact Ap)).mono ?_;rintro v σ' ⟨rfl,rfl⟩;rw[D2 iE];obtain⟨g5,g6⟩:=VA i2;have g6:=g6 (by omega) (by omega);have e3:i2.word.2.l.length=i2.l.length:=by rw[g5]
          generalize i2.word.2=i3 at *;generalize i2.word.1=hi at *;simp only[am,Nat.reduceAdd,Ta,jv,Word.enc];refine zm (by simp[aE] at hm ⊢;omega) (by rw[aD];exact akB) ?_;simp only[am,Nat.reduceAdd,aD,Ta,jv];rw[show [V.str lo.text,V.int .i64 lo.pos,.str hi.text,.int .i64 hi.pos]=dr (lo,hi) from rfl,akA rfl];simp only[am,ix,yG iE,jv];have hnc:acc++[(lo,hi)]≠[]:=by simp
          by_cases kg:i3.at_=i.l.length
          · rw[aw kg] at hR;simp only[am,Nat.reduceEqDiff,aC (show i3.at_=(i3.l.length:Int) by omega)];refine Ti ba (by simp[sX,List.replicate,am]) ?_;have rS:∀B,((σ.set q (i3.enc++fE)).set r B).box q=some (i3.enc++fE):=fun B=>by simp[ab.set,iE]
            have qG:∀A B,((σ.set q A).set r B).box r=some B:=fun A B=>by simp[ab.set]
            cases nK:i3.bad with
            | none =>
              simp only[sX,List.replicate,am,rS,jv,nK,cj];simp only[am,bQ];refine aF rfl (ab.J0 (fv HJ)) ⟨rfl,?_⟩;simp[←hR,ae.qt,nK,I' hnc,←C2,hb,ae.enc,aj.b7,cj,dT]
            | some b =>
              simp only[sX,List.replicate,am,rS,jv,nK,cj];simp only[am,Nat.reduceAdd,eT,Int.reduceEq,rS,jv,nK,cj];refine aF rfl (ab.J0 (fv HJ)) ⟨rfl,?_⟩;simp[←hR,ae.qt,nK,I' hnc,←C2,ae.enc,aj.b7,cj,dT];rfl
          · rw[ah kg] at hR;simp only[am,aA (show ¬i3.at_=(i3.l.length:Int) by omega)];refine(Cz (yG iE) (by omega) (by omega)).mono ?_;rintro v σ' ⟨rfl,rfl⟩;rw[D2 iE];obtain⟨g7,g8⟩:=pq i3 44;have g8:=g8 (by omega) (by omega);have e4:(i3.take 44).2.l.length=i3.l.length:=by rw[g7]
            generalize (i3.take 44).2=i4 at *;simp only[am];refine aZ.qq (I:=fun p:{p:B8 // K9 t σ R p}=>r_ σ r q r1 c1 p.1) (μ:=fun p=>p.1.n) ⟨⟨m,i4,acc++[(lo,hi)],τ⟩,hR,by rw[←hl,g7,g5,g3,g1],by simp only;omega,by simp only;omega,fun rR=>?_,?_,fun rR=>?_,ba,.inr hnc⟩ (by simp) (by simp[r_,List.replicate,am]) (by simp[bY,r_]) bC.rfl (by simp[r_,List.replicate,bn,V.lo]) rfl
            · have:=g8.2.2 rR;simp only;omega
            · simp;omega
            · have:=g8.2.2 rR;simp;omega
def FB:AC:=.seq (.seq (.aa [U 6 0,xk 7 6,xf 3 8 7,xf 0 9 8,xo 10 9,xB .neq 11 10 0])
 (.cond (.s 11) (.ret)
 (.skip)))
 (.seq (.aa [U 12 1])
 (.block 0 (.seq (.aa [⟨(some 14),.de .eql (.s 12) (.c (.int .i32 110)),none⟩,U 13 14])
 (.cond (.s 13) (.aa [U 15 0,U 16 0,xc 46 17 [.s 16],xk 18 15,xf 5 19 18,xf 2 20 19,xs 2 20 17])
 (.seq (.aa [⟨(some 22),.de .eql (.s 12) (.c (.int .i32 102)),none⟩,U 21 22])
 (.cond (.s 21) (.aa [U 23 0,U 24 0,xc 46 25 [.s 24],⟨(some 26),.cB 2 [(.s 25)],none⟩,xk 27 23,xf 5 28 27,xf 4 29 28,xs 1 29 26])
 (.seq (.aa [⟨(some 31),.de .eql (.s 12) (.c (.int .i32 119)),none⟩,U 30 31])
 (.cond (.s 30) (.seq (.s_ [5] [(U 33 0,[]),(xk 34 33,[]),(xf 0 35 34,[]),(xo 36 35,[]),(U 37 0,[]),(xk 38 37,[]),(xf 1 39 38,[]),(xo 40 39,[]),(U 41 0,[]),(xk 42 41,[]),(xf 2 43 42,[]),(xo 44 43,[]),(xc 104 45 [.s 36,.s 40,.s 44],[]),(U 32 45,[]),(xe 46 32 0,[]),(xe 47 32 1,[]),(⟨none,.mv (.c .any),none⟩,[]),(U 4 46,[]),(⟨(some 5),.kH 2 (.s 47),none⟩,[])])
 (.seq (.draw [(U 48 0,[]),(U 49 0,[]),(U 50 4,[]),(xl 2 51 5,[1]),(xk 52 48,[]),(xf 5 53 52,[]),(xf 4 54 53,[]),(xs 1 54 50,[]),(xk 55 49,[]),(xf 3 56 55,[]),(xs 2 56 51,[])])
 (.aa [U 57 0,xk 58 57,xf 1 59 58,xo 60 59,xB .add 61 60 1,xk 62 57,xf 1 63 62,xs 1 63 61])))
 (.seq (.aa [⟨(some 65),.de .eql (.s 12) (.c (.int .i32 112)),none⟩,U 64 65])
 (.cond (.s 64) (.aa [U 66 0,xc 105 67 [.s 66]])
 (.seq (.aa [⟨(some 69),.de .eql (.s 12) (.c (.int .i32 116)),none⟩,U 68 69])
 (.cond (.s 68) (.draw [(U 70 0,[]),(U 71 0,[]),(xk 72 71,[]),(xf 0 73 72,[]),(xo 74 73,[]),(U 75 0,[]),(xk 76 75,[]),(xf 1 77 76,[]),(xo 78 77,[]),(U 79 0,[]),(xk 80 79,[]),(xf 2 81 80,[]),(xo 82 81,[]),(xc 107 83 [.s 74,.s 78,.s 82],[]),(xe 84 83 0,[]),(xe 85 83 1,[]),(xe 86 83 2,[]),(xc 106 87 [.s 70,.s 84,.s 85,.s 86],[])])
 (.seq (.aa [⟨(some 89),.de .eql (.s 12) (.c (.int .i32 114)),none⟩,U 88 89])
 (.cond (.s 88) (.draw [(U 90 0,[]),(U 91 0,[]),(xk 92 91,[]),(xf 0 93 92,[]),(xo 94 93,[]),(U 95 0,[]),(xk 96 95,[]),(xf 1 97 96,[]),(xo 98 97,[]),(U 99 0,[]),(xk 100 99,[]),(xf 2 101 100,[]),(xo 102 101,[]),(xc 108 103 [.s 94,.s 98,.s 102],[]),(xe 104 103 0,[]),(xe 105 103 1,[]),(xe 106 103 2,[]),(xc 106 107 [.s 90,.s 104,.s 105,.s 106],[])])
 (.skip)))))))))))))))
theorem Qf:aJ prog 48 FB [] 108:=⟨f48,⟨[],[],[]⟩,func48,by kernel_rfl,by kernel_rfl,by kernel_rfl,by kernel_rfl⟩
theorem P1 {b:Option Int}:(hC b).bS=true:=rfl
section
variable {rd:ae} {c:aj} {pc:V} {cs:List V}
theorem Zb {w:Word}:setAt (rd.enc++c.b7 pc) 7 w.enc=rd.enc++({c with name:=w}:aj).b7 pc:=rfl
theorem Y6:bD 2 ((rd.enc++c.b7 pc).drop 7)=true:=rfl
theorem Zc {ws:List Word}:setAt (rd.enc++c.b7 pc) 9 [.sl .no 2 (ws.map Word.enc)]=rd.enc++({c with names:=ws}:aj).b7 pc:=rfl
theorem Y7:bD 1 ((rd.enc++c.b7 pc).drop 9)=true:=rfl
theorem Y' {n:Int}:setAt (rd.enc++cs) 1 [.int .i64 n]=({rd with at_:=n}:ae).enc++cs:=by cases cs<;>rfl
theorem Y4:bD 1 ((rd.enc++cs).drop 1)=true:=rfl
def F5:=And.intro @Zb <| And.intro @Y6 <| And.intro @Zc <| And.intro @Y7 <| And.intro @Y' @Y4
end
theorem akH {r:Nat} {rd:ae} {c:aj} {pc:V} {σ:ab} (h:σ.box r=some (rd.enc++c.b7 pc)) (hb:rd.bad=none) (h0:0≤rd.at_) (hlen:rd.l.length≤aE) :
    ak prog 48 [.ptr (.out r) 0,.int .i32 102] σ fun v σ' => v = .aT []∧σ' = σ.set r (rd.word.2.enc++({c with names:=[rd.word.1]}:aj).b7 pc):=by
  refine ak.le (S:=σ.set r (setAt (rd.word.2.enc++c.b7 pc) 9 [.sl .full 2 [rd.word.1.enc]])) ?_ (bC.set ?_)
  · refine Qf.calls ?_;simp only[aI,FB,am,aP,Nat.reduceAdd];simp only[am,bQ,eT,Int.reduceEq,h,jv,hb,cj];refine(zC h h0 hlen).mono ?_;rintro v σ' ⟨rfl,rfl⟩;simp only[am,Nat.reduceAdd,Word.af,F5];refine aF rfl (ab.aS _) ⟨rfl,rfl⟩
  · show bZ ([V.sl .no 5 (ct rd.word.2.l),.int .i64 rd.word.2.at_,.int .i64 rd.word.2.fin,.int .i64 (cj rd.word.2.bad),.int .i64 (dT rd.word.2.bad)]++_) ([V.sl .no 5 (ct rd.word.2.l),.int .i64 rd.word.2.at_,.int .i64 rd.word.2.fin,.int .i64 (cj rd.word.2.bad),.int .i64 (dT rd.word.2.bad)]++_);simp[am,aj.b7]
theorem akJ {r:Nat} {x:ae × aj} {k:UInt8} {pc:V} {σ:ab} (h:σ.box r=some (x.1.enc++x.2.b7 pc)) (hp:k=112→pc = .sl .full 4 []∧x.2.aY=[]) (h0:0≤x.1.at_) (hm:bp x.1.l+1≤aE) (ha:x.1.at_≤aE) :
    ak prog 48 [.ptr (.out r) 0,.int .i32 (k.toNat:Nat)] σ fun v σ' => v = .aT []∧σ' = σ.set r ((gu k x).1.enc++(gu k x).2.b7 (if k=112∧x.1.bad=none then mU (gu k x).2.aY else pc)):=by
  obtain⟨rd,c⟩:=x;simp only at h hp h0 hm ha;have hlen:=j5 rd.l;have fV:∀n:UInt8,((k.toNat:Nat):Int)=(n.toNat:Nat)↔k=n:=fun n=>by
    constructor
    · intro h;exact Lk.1 (by omega)
    · rintro rfl;rfl
  by_cases k2:k=102∧rd.bad=none
  · obtain⟨k2,hb⟩:=k2;subst k2
    have:=akH h hb h0 (by omega)
    simpa [gu,hb] using this
  refine Qf.calls ?_;simp only[aI,FB,am,aP,Nat.reduceAdd];simp only[am,h,jv];cases hb:rd.bad with
  | some b =>
    simp only[am,eT,Int.reduceEq,cj];refine aF rfl (ab.aS _) ⟨rfl,?_⟩;rw[show gu k (rd,c)=(rd,c) by simp[gu,hb],ah (by simp)];exact(ab.uv h).symm
  | none =>
    have k2:¬k=102:=fun h=>k2 ⟨h,hb⟩
    simp only[am,bQ,cj];have kN:gu k (rd,c)=if k=110 then (rd.word.2,{c with name:=rd.word.1})
        else if k=119 then ({rd with bad:=(lI rd.l rd.at_ rd.fin).2,at_:=rd.at_+1},{c with names:=(lI rd.l rd.at_ rd.fin).1})
        else if k=112 then n6 rd c
        else if k=116 then jK rd c (fi (ae.label (bp rd.l)) rd.l rd.at_ rd.fin)
        else if k=114 then jK rd c (fi (ae.row (bp rd.l)) rd.l rd.at_ rd.fin)
        else (rd,c):=by simp[gu,hb,k2]
    have zF:((k.toNat:Nat):Int)=110↔k=110:=fV 110;have CC:((k.toNat:Nat):Int)=102↔k=102:=fV 102;have zH:((k.toNat:Nat):Int)=119↔k=119:=fV 119;have zG:((k.toNat:Nat):Int)=112↔k=112:=fV 112;have Py:((k.toNat:Nat):Int)=116↔k=116:=fV 116;have Px:((k.toNat:Nat):Int)=114↔k=114:=fV 114
    by_cases k1:k=110
    · rw[aw k1] at kN;simp only[am,aC (zF.2 k1)];refine(zC h h0 (by omega)).mono ?_;rintro v σ' ⟨rfl,rfl⟩;simp only[am,Nat.reduceAdd,Word.af,F5];refine aF rfl (ab.aS _) ⟨rfl,?_⟩;rw[kN,ah (by simp[k1])]
    rw[ah k1] at kN;simp only[am,aA (fun h=>k1 (zF.1 h))];simp only[am,aA (fun h=>k2 (CC.1 h))]
    by_cases k3:k=119
    · rw[aw k3] at kN;simp only[am,Nat.reduceAdd,bQ,Nat.reduceLT,aC (zH.2 k3),h,jv];refine bh.intro (Wh hm) ?_;rw[kN,ah (by simp[k3])];generalize lI rd.l rd.at_ rd.fin=o;have w1:IntKind.i64.wrap (rd.at_+1)=rd.at_+1:=by simp only[aE] at ha;exact wrap_i64 (by omega) (by omega)
      simp only[am,Nat.reduceAdd,hC,h,jv,F5,w1];exact aF rfl (ab.aS _) ⟨rfl,rfl⟩
    rw[ah k3] at kN;simp only[am,aA (fun h=>k3 (zH.1 h))]
    by_cases k4:k=112
    · rw[aw k4] at kN;obtain⟨rfl,hc⟩:=hp k4;simp only[am,aC (zG.2 k4)];refine(akG h hc h0 hm).mono ?_;rintro v σ' ⟨rfl,rfl⟩;simp only[am];refine aF rfl (ab.aS _) ⟨rfl,?_⟩;rw[kN,aw k4]
    rw[ah k4] at kN;simp only[am,aA (fun h=>k4 (zG.1 h))]
    by_cases k5:k=116
    · rw[aw k5] at kN;simp only[am,aC (Py.2 k5),h,jv];refine bh.intro (V1 (bt _) hm) ?_;rw[kN,ah (by simp[k4])];generalize fi (ae.label (bp rd.l)) rd.l rd.at_ rd.fin=g;simp only[am,Nd.af,P1];refine bh.intro (O9 h hb) ?_;simp only[am];refine aF rfl (ab.aS _) ⟨rfl,rfl⟩
    rw[ah k5] at kN;simp only[am,aA (fun h=>k5 (Py.1 h))]
    by_cases k6:k=114
    · rw[aw k6] at kN;simp only[am,aC (Px.2 k6),h,jv];refine bh.intro (We (bt _) hm) ?_;rw[kN,ah (by simp[k4])];generalize fi (ae.row (bp rd.l)) rd.l rd.at_ rd.fin=g;simp only[am,Nd.af,P1];refine bh.intro (O9 h hb) ?_;simp only[am];refine aF rfl (ab.aS _) ⟨rfl,rfl⟩
    rw[ah k6] at kN;simp only[am,aA (fun h=>k6 (Px.1 h))];refine aF rfl (ab.aS _) ⟨rfl,?_⟩;rw[kN,ah (by simp[k4])];exact(ab.uv h).symm
def Mj:AC:=.seq (.aa [⟨(some 2),.alloc [(.int .i64 0),(.int .i64 0),(.str []),(.int .i64 0),(.sl .full 2 []),(.sl .full 4 []),(.int .i64 0),(.int .i64 0),(.int .i64 0),(.str []),(.sl .full 2 []),(.sl .full 5 []),(.int .i64 0),(.int .i64 0),(.str []),(.sl .full 2 []),(.sl .full 5 [])],none⟩,⟨(some 3),.alloc [(.int .i64 0),(.int .i64 0)],none⟩])
 (.seq (.aa [U 12 0,xc 44 13 [.s 12],U 11 13,xe 14 11 0,xe 15 11 1,⟨(some 5),.alloc [(.int .i64 0),(.int .i64 0)],none⟩,U 4 14,xs 2 5 15])
 (.seq (.seq (.aa [xf 0 16 5,xo 17 16,xB .neq 18 17 0])
 (.cond (.s 18) (.seq (.draw [(⟨(some 19),.build [(.int .i64 0),(.int .i64 0),(.str []),(.int .i64 0),(.sl .full 2 []),(.sl .full 4 []),(.int .i64 0),(.int .i64 0),(.int .i64 0),(.str []),(.sl .full 2 []),(.sl .full 5 []),(.int .i64 0),(.int .i64 0),(.str []),(.sl .full 2 []),(.sl .full 5 [])] [],none⟩,[]),(xl 2 20 5,[1]),(xs 17 2 19,[]),(xs 2 3 20,[])])
 (.ret))
 (.skip)))
 (.seq (.aa [U 22 4,xc 45 23 [.s 22],U 21 23,xe 24 21 0,xe 25 21 1,U 6 24,xs 2 5 25])
 (.seq (.seq (.aa [xf 0 26 5,xo 27 26,xB .neq 28 27 0,U 29 28,xh 29 (U 30 6),xh 29 (xL 31 30),xh 29 (xB .eql 32 31 0),⟨(some 33),.pick (.s 29) (.c (.bool true)) (.s 32),none⟩])
 (.cond (.s 33) (.seq (.draw [(⟨(some 34),.build [(.int .i64 0),(.int .i64 0),(.str []),(.int .i64 0),(.sl .full 2 []),(.sl .full 4 []),(.int .i64 0),(.int .i64 0),(.int .i64 0),(.str []),(.sl .full 2 []),(.sl .full 5 []),(.int .i64 0),(.int .i64 0),(.str []),(.sl .full 2 []),(.sl .full 5 [])] [],none⟩,[]),(xl 2 35 5,[1]),(xs 17 2 34,[]),(xs 2 3 35,[])])
 (.ret))
 (.skip)))
 (.seq (.aa [U 36 6,U 37 0,xT 38 37,⟨(some 39),.build [(.sl .full 5 []),(.int .i64 0),(.int .i64 0),(.int .i64 0),(.int .i64 0),(.int .i64 0),(.int .i64 0),(.str []),(.int .i64 0),(.sl .full 2 []),(.sl .full 4 []),(.int .i64 0),(.int .i64 0),(.int .i64 0),(.str []),(.sl .full 2 []),(.sl .full 5 []),(.int .i64 0),(.int .i64 0),(.str []),(.sl .full 2 []),(.sl .full 5 [])] [(0,1,(.s 36)),(2,1,(.s 38))],none⟩,⟨(some 40),.eD 22 (.s 39),none⟩,U 7 40])
 (.seq (.aa [U 41 7,xc 46 42 [.s 41],⟨(some 8),.alloc [(.str []),(.int .i64 0)],none⟩,xs 2 8 42])
 (.seq (.draw [(U 43 7,[]),(xf 0 44 8,[]),(xo 45 44,[]),(xc 47 46 [.s 45],[]),(xf 1 47 8,[]),(xo 48 47,[0]),(⟨(some 49),.build [(.int .i64 0),(.int .i64 0),(.str []),(.int .i64 0),(.sl .full 2 []),(.sl .full 4 []),(.int .i64 0),(.int .i64 0),(.int .i64 0),(.str []),(.sl .full 2 []),(.sl .full 5 []),(.int .i64 0),(.int .i64 0),(.str []),(.sl .full 2 []),(.sl .full 5 [])] [(0,1,(.s 46)),(1,1,(.s 48))],none⟩,[]),(xk 50 43,[]),(xf 5 51 50,[]),(xs 17 51 49,[])])
 (.seq (.seq (.aa [U 52 7,xk 53 52,xf 5 54 53,xf 0 55 54,xo 56 55,xB .eql 57 56 0])
 (.cond (.s 57) (.seq (.draw [(⟨(some 58),.build [(.int .i64 0),(.int .i64 0),(.str []),(.int .i64 0),(.sl .full 2 []),(.sl .full 4 []),(.int .i64 0),(.int .i64 0),(.int .i64 0),(.str []),(.sl .full 2 []),(.sl .full 5 []),(.int .i64 0),(.int .i64 0),(.str []),(.sl .full 2 []),(.sl .full 5 [])] [],none⟩,[]),(U 59 6,[]),(⟨(some 60),.jH 5 (.s 59) (.c (.int .i64 0)),none⟩,[]),(xf 0 61 60,[]),(xf 2 62 61,[]),(xo 63 62,[1]),(⟨(some 64),.build [(.int .i64 0),(.int .i64 0)] [(0,1,(.c (.int .i64 2))),(1,1,(.s 63))],none⟩,[]),(xs 17 2 58,[]),(xs 2 3 64,[])])
 (.ret))
 (.skip)))
 (.seq (.yI [U 65 7,xk 66 65,xf 5 67 66,xf 0 68 67,xo 69 68,xc 35 70 [.s 69],xw 1 71 70] (.s 71) 72 73 74 0 1
 (.seq (.aa [xe 75 73 2,U 10 75])
 (.aa [U 76 7,U 77 10,xc 48 78 [.s 76,.s 77]])))
 (.seq (.seq (.aa [U 79 7,xk 80 79,xf 3 81 80,xf 0 82 81,xo 83 82,xB .eql 84 83 0,U 85 84,xg 85 (U 86 7),xg 85 (xk 87 86),xg 85 (xf 1 88 87),xg 85 (xo 89 88),xg 85 (U 90 6),xg 85 (xL 91 90),xg 85 (xb .lss 92 89 91),⟨(some 93),.pick (.s 85) (.s 92) (.c (.bool false)),none⟩])
 (.cond (.s 93) (.aa [U 94 7,xc 49 95 [.s 94]])
 (.skip)))
 (.seq (.seq (.aa [U 96 7,xk 97 96,xf 3 98 97,xf 0 99 98,xo 100 99,xB .neq 101 100 0])
 (.cond (.s 101) (.seq (.draw [(⟨(some 102),.build [(.int .i64 0),(.int .i64 0),(.str []),(.int .i64 0),(.sl .full 2 []),(.sl .full 4 []),(.int .i64 0),(.int .i64 0),(.int .i64 0),(.str []),(.sl .full 2 []),(.sl .full 5 []),(.int .i64 0),(.int .i64 0),(.str []),(.sl .full 2 []),(.sl .full 5 [])] [],none⟩,[]),(U 103 7,[]),(xk 104 103,[]),(xf 3 105 104,[]),(xl 2 106 105,[1]),(xs 17 2 102,[]),(xs 2 3 106,[])])
 (.ret))
 (.skip)))
 (.seq (.aa [U 107 7,xk 108 107,xf 5 109 108,xl 17 110 109,⟨(some 111),.build [(.int .i64 0),(.int .i64 0)] [],none⟩,xs 17 2 110,xs 2 3 111])
 (.ret)))))))))))))
theorem acK:aJ prog 18 Mj [.cell 2 true 17,.cell 3 true 2] 112:=⟨f18,⟨[40],[],[]⟩,func18,by kernel_rfl,by kernel_rfl,by kernel_rfl,by kernel_rfl⟩
def Gp (f:Int × Int):V:=.agg [.int .i64 f.1,.int .i64 f.2]
def uX (s:List UInt8) (L:List Tree) (b r:Nat):List V:=[.str s,.any,.ptr (.loc 0) 0,.ptr (.loc 1) 0,.any,.any,.sl .no 5 (ct L),.ptr (.out r) 0]++List.replicate 64 .any++[.raw (.pointer (some ⟨b,0,none⟩))]++List.replicate 39 .any
theorem akQ {ps:List (Word × Word)}:(mU ps).erase = .sl .no 4 (ps.map dr):=by cases ps<;>rfl
theorem YZ {rd:ae} {c:aj} {pc:V}:takeN 17 ((rd.enc++c.b7 pc).drop 5)=some (c.b7 pc):=rfl
theorem Yi {c:aj} {pc:V}:(c.b7 pc).length=17:=rfl
theorem Yk {c:aj} {ps:List (Word × Word)}:bA (c.b7 (mU ps))=true:=by cases ps<;>rfl
theorem Yl {z0 z1 z2 z3 z4 z5 z6 z7 z8 z9 Kx Ky Kz KA KB KC KD:V} {c:aj} {pc:V}:over [z0,z1,z2,z3,z4,z5,z6,z7,z8,z9,Kx,Ky,Kz,KA,KB,KC,KD] (c.b7 pc)=c.b7 pc:=rfl
theorem Ym {c:aj} {pc:V}:takeN 17 (c.b7 pc)=some (c.b7 pc):=rfl
theorem Yj {c:aj} {ps:List (Word × Word)}:bd (c.b7 (mU ps))=true:=by cases ps<;>rfl
theorem Yh {c:aj}:aX (c.b7 (mU c.aY))=c.enc:=by simp only[aj.enc,aj.b7,aX,akQ];rfl
def ce:=And.intro @Yi <| And.intro @Yk <| And.intro @Yl @Ym
def qc:List (List V):=[fE,[.int .i64 0,.int .i64 0]]
theorem Ze (s:List UInt8) {σ:ab} (hg:σ.bH 0=some fq) (hb:s.length+1≤aE) (hm:bp (du (dJ s).1 [] []).1+8≤aE) :
    ak prog 18 [.str s] σ fun v σ' => v = .aT [.agg (cS s).1.enc,Gp (cS s).2]∧σ' = σ:=by
  have hll:=Si s;refine acK.calls ?_;simp only[aI,Mj,am,aP];refine cl (ahR s σ hb) ?_;generalize hR:cS s=R;unfold cS at hR;simp only[am,Nat.reduceAdd,zt];cases hl:(dJ s).2 with
  | some a =>
    rw[hl] at hR;simp only[am,Nat.reduceAdd,eT,Int.reduceEq];refine aF rfl (ab.aS _) ⟨?_,rfl⟩;rw[←hR];rfl
  | none =>
    rw[hl] at hR;simp only[am,bQ];refine cl (aor (dJ s).1 σ (by omega)) ?_;simp only[am,Nat.reduceAdd,hC];simp only at hR;cases ht:(du (dJ s).1 [] []).2 with
    | some a =>
      rw[ht] at hR;simp only[am,Nat.reduceAdd,eT,Int.reduceEq,cj];refine aF rfl (ab.aS _) ⟨?_,rfl⟩;rw[←hR];rfl
    | none =>
      rw[ht] at hR;simp only at hR;simp only[am,ix,bQ,cj];generalize (du (dJ s).1 [] []).1=l at hm hR ⊢;have hlen:=j5 l;cases l with
      | nil =>
        simp only[am,Nat.reduceAdd,bQ,dk,show (((0:Nat):Int)=0)=True by simp];refine aF rfl (ab.aS _) ⟨?_,rfl⟩;rw[←hR];rfl
      | cons t ts =>
        generalize hL:t::ts=L at *;have aH:¬(L.length:Int)=0:=by rw[←hL];simp;omega
        simp only[am,Nat.reduceAdd,aA aH];refine gE fun r hr=>?_
        have oz : ∀X,(σ.set r X).bH 0=some fq:=fun X=>hg
        have bF : ∀X,(σ.set r X).box r=some X:=fun X=>ab.cH _ _ _
        simp only[am];change ak prog 46 [.ptr (.out r) 0] (σ.set r ((⟨L,0,s.length,none⟩:ae).enc++fE)) _;have afC:s6 L s.length=if jL (⟨L,0,s.length,none⟩:ae).word.1.text=0 then (.zero,2,t.tok.pos)
          else td (fZ (cL (jL (⟨L,0,s.length,none⟩:ae).word.1.text)).2 ((⟨L,0,s.length,none⟩:ae).word.2,{aj.zero with op:=jL (⟨L,0,s.length,none⟩:ae).word.1.text,pos:=(⟨L,0,s.length,none⟩:ae).word.1.pos})):=by rw[←hL];rfl
        rw[afC] at hR;refine(zC (bF _) (by simp) (show L.length≤aE by omega)).mono ?_;rintro v _ ⟨rfl,rfl⟩;have hI:∀c,gZ L s.length ((⟨L,0,s.length,none⟩:ae).word.2,c):=fun c=>gZ.goes (x:=(⟨L,0,s.length,none⟩,c)) ⟨rfl,rfl,by simp,by simp;omega,by simp⟩ rfl (tA _) (Bq _ 97)
        generalize (⟨L,0,s.length,none⟩:ae).word.2=r1 at hI hR ⊢;generalize (⟨L,0,s.length,none⟩:ae).word.1=w at hR ⊢;simp only[am,Nat.reduceAdd,Word.enc];refine bh.intro (aiP w.text (oz _)) ?_;have e5:∀X:List V,X.length=17→setAt (r1.enc++fE) 5 X=r1.enc++X:=fun X hX=>by
          match X,hX with
          | [_,_,_,_,_,_,_,_,_,_,_,_,_,_,_,_,_],_=>rfl
        have vm:bD 17 fE=true:=rfl;have d5:∀X:List V,(r1.enc++X).drop 5=X:=fun X=>rfl
        generalize jL w.text=op at hR ⊢;simp only[am,Nat.reduceAdd,e5,vm,d5]
        by_cases lW:op=0
        · rw[aw lW] at hR;simp only[am,aC lW];refine bx (by omega) (c:=t.enc) (by rw[←hL];simp[po]) ?_;simp only[am,Nat.reduceAdd,Tree.fl];refine aF rfl (fv hr) ⟨?_,rfl⟩;rw[←hR];rfl
        · rw[ah lW] at hR;simp only[am,aA lW];refine Ke ?_;simp only[am,d5];refine(IV op (oz _)).mono ?_;rintro v σ' ⟨rfl,rfl⟩;simp only[am];generalize eU:(cL op).2=ks at hR ⊢;generalize AF:((r1,{aj.zero with op:=op,pos:=w.pos}):ae × aj)=x0 at hR;have QJ:gZ L s.length x0:=by rw[←AF];exact hI _
          refine⟨ks,rfl,by rw[←eU];exact Gs op,fun b i al => al = ⟨uX s L b r,qc,σ.set r ((fZ (ks.take i) x0).1.enc++(fZ (ks.take i) x0).2.b7 (mU (fZ (ks.take i) x0).2.aY))⟩,?_,?_,?_,?_⟩
          · intro b;simp only[];refine aZ.xD (l' := qc) ?_ ?_ ?_ (by simp[uX,qc,List.replicate,bn,V.lo]) (by simp[qc,fE,cK,bn,V.lo]) rfl
            · simp[uX,List.replicate,am]
            · simp[qc,fE,am]
            · rw[←AF];exact bC.set (by simp[ae.enc,aj.b7,aj.zero,Nd.zero,Nd.kind,Nd.pos,Nd.text,Nd.names,Nd.kids,fZ,mU,am])
          · rintro b i _ rfl;exact⟨rfl,by simp[uX],by simp[uX]⟩
          · rintro b i c _ hc rfl;simp only[uX,List.replicate,am];have CY:=I9 (ks.take i) QJ;have nP:fZ (ks.take (i+1)) x0=gu c (fZ (ks.take i) x0):=by rw[Br hc,Tr]
            have Rj:c=112→(fZ (ks.take i) x0).2.aY=[]:=fun h=>by
              rw[Tq (ks.take i) (by rw[←eU];exact aeD op i (by rw[eU,hc,h])),←AF];rfl
            rw[nP];generalize fZ (ks.take i) x0=x at CY Rj ⊢;have hle:=CY.le;refine(akJ (k:=c) (bF _) (fun h=>by rw[Rj h];exact⟨rfl,rfl⟩) CY.ge (by rw[CY.hl];omega) (by omega)).mono ?_;rintro v _ ⟨rfl,rfl⟩;have HC:(if c=112∧x.1.bad=none then mU (gu c x).2.aY else mU x.2.aY)=mU (gu c x).2.aY:=by
              by_cases h:c=112∧x.1.bad=none
              · rw[aw h]
              · rw[ah h,Tm]
                by_cases h1:c=112
                · exact .inr fun h2=>h ⟨h1,h2⟩
                · exact .inl h1
            rw[HC];simp only[am,bV];exact aZ.xD (l' := qc) (by simp[am]) (by simp[qc,fE,am]) bC.rfl (by simp[qc,bn,V.lo]) (by simp[qc,fE,cK,bn,V.lo]) rfl
          · rintro b _ rfl;simp only[uX,qc,List.replicate,am];rw[dv];have GG:=I9 ks QJ;generalize fZ ks x0=x at GG hR ⊢;obtain⟨rd,c⟩:=x;have h1:=GG.hl;have h2:=GG.ge;simp only at h1 h2;unfold td at hR;simp only[h1] at hR;simp only[am,jv];cases dV:rd.bad with
            | some a =>
              simp only[dV] at hR;simp only[am,Nat.reduceAdd,eT,Int.reduceEq,cj,jv,dV,fE];refine aF rfl (fv hr) ⟨?_,rfl⟩;have hR:(aj.zero,(2:Int),a)=R:=by simpa [dV] using hR
              rw[←hR];rfl
            | none =>
              simp only[dV,o7] at hR;simp only[am,ix,bQ,cj,jv]
              by_cases kg:rd.at_<L.length
              · rw[aw kg] at hR;simp only[am,aC kg];refine(OV (bF _) h2).mono ?_;rintro v _ ⟨rfl,rfl⟩;obtain⟨a,ha⟩:∃a,rd.fail.bad=some a:=by
                  have:=ae.zK rd
                  cases hq:rd.fail.bad with
                  | none=>exact absurd hq this
                  | some a=>exact⟨a,rfl⟩
                rw[ha] at hR;simp only[am,Nat.reduceAdd,eT,Int.reduceEq,jv,ha,cj,fE];refine aF rfl (fv hr) ⟨?_,rfl⟩;rw[←hR];rfl
              · rw[ah kg,dV] at hR;simp only[am,Nat.reduceAdd,bQ,aA kg,jv,dV,cj,fE,YZ,ce];refine aF ?_ (fv hr) ⟨?_,rfl⟩
                · simp[V.bS,bd,Yj]
                rw[←hR];simp[V.erase,aX,Yh,Gp]
section
variable {c:aj}
theorem XW:a9 false 1 c.enc=some (.int .i64 c.op):=rfl
theorem XX:a9 false 1 (c.enc.drop 0)=some (.int .i64 c.op):=rfl
theorem XY:a9 false 1 (c.enc.drop 1)=some (.int .i64 c.pos):=rfl
def eQ:=And.intro @XW <| And.intro @XX @XY
end
theorem Ql (op:Int):(cL op).2.length≤3:=by
  unfold cL;split
  · rename_i h1;have ag:op.toNat<16:=by omega
    generalize op.toNat=n at ag ⊢;have key:∀n<16,(iV.getD n ([],[])).2.length≤3:=by decide
    exact key n ag
  · simp
section
variable {c:aj}
theorem XO:a9 false 1 (c.enc.drop 2)=some (.str c.name.text):=rfl
theorem X9:takeN 2 (c.enc.drop 2)=some [.str c.name.text,.int .i64 c.name.pos]:=rfl
theorem XQ:a9 false 1 (c.enc.drop 4)=some (.sl .no 2 (c.names.map Word.enc)):=rfl
theorem XR:a9 false 1 (c.enc.drop 5)=some (.sl .no 4 (c.aY.map dr)):=rfl
theorem XT:a9 false 1 (c.enc.drop 6)=some (.int .i64 c.jM):=rfl
theorem X_:takeN 5 (c.enc.drop 7)=some c.left.enc:=by rw[Nd.cm];rfl
theorem X8:takeN 5 (c.enc.drop 12)=some c.right.enc:=by rw[Nd.cm];rfl
def cC:=And.intro @XO <| And.intro @X9 <| And.intro @XQ <| And.intro @XR <| And.intro @XT <| And.intro @X_ @X8
end
theorem yH {l:List (Word × Word)} {j:Nat} {p:Word × Word} (h:l[j]?=some p):(l.map dr)[(j:Int).toNat]?=some (dr p):=by simp[h]
def Ml:AC:=.seq (.aa [⟨(some 2),.box 2 (.s 0),none⟩,⟨(some 3),.box 17 (.s 1),none⟩,⟨(some 4),.alloc [(.int .i64 0),(.int .i64 0)],none⟩])
 (.seq (.aa [xl 2 6 2,xf 1 7 3,xo 8 7,⟨(some 9),.build [(.sl .full 2 []),(.sl .full 3 []),(.sl .full 3 []),(.int .i64 0),(.int .i64 0)] [(1,2,(.s 6)),(3,1,(.c (.int .i64 (-1)))),(4,1,(.s 8))],none⟩,⟨(some 10),.eD 5 (.s 9),none⟩,U 5 10])
 (.seq (.seq (.lH (.aa [xf 0 11 3,xo 12 11]))
 (.block 0 (.seq (.aa [xB .eql 14 12 10,U 13 14])
 (.cond (.s 13) (.aa [U 15 5,xf 2 16 3,xf 0 17 16,xo 18 17,xf 2 19 3,xf 1 20 19,xo 21 20,xc 56 22 [.s 15,.s 18,.s 21,.c (.int .i64 2)]])
 (.seq (.aa [xB .eql 24 12 15,U 23 24])
 (.cond (.s 23) (.aa [U 25 5,xf 2 26 3,xf 0 27 26,xo 28 27,xf 2 29 3,xf 1 30 29,xo 31 30,xc 56 32 [.s 25,.s 28,.s 31,.c (.int .i64 1)]])
 (.seq (.aa [xB .eql 34 12 8,U 33 34])
 (.cond (.s 33) (.seq (.aa [U 35 5,xf 2 36 3,xl 2 37 36,xc 57 38 [.s 35,.s 37]])
 (.seq (.aa [U 39 5,xf 7 40 3,xl 5 41 40,xc 58 42 [.s 39,.s 41]])
 (.seq (.aa [U 43 5,xf 12 44 3,xl 5 45 44,xc 58 46 [.s 43,.s 45]])
 (.draw [(U 47 5,[]),(xk 48 47,[]),(xf 0 49 48,[]),(xf 12 50 3,[]),(xf 0 51 50,[]),(xo 52 51,[]),(xB .eql 53 52 8,[]),(U 54 53,[]),(xh 54 (xf 12 55 3),[]),(xh 54 (xf 0 56 55),[]),(xh 54 (xo 57 56),[]),(xh 54 (xB .eql 58 57 9),[]),(⟨(some 59),.pick (.s 54) (.c (.bool true)) (.s 58),none⟩,[]),(xf 12 60 3,[]),(xf 1 61 60,[]),(xo 62 61,[]),(xc 59 63 [.s 49,.s 59,.c (.int .i64 6),.s 62],[])]))))
 (.seq (.aa [xB .eql 65 12 9,U 64 65])
 (.cond (.s 64) (.seq (.aa [U 66 5,xf 2 67 3,xl 2 68 67,xc 57 69 [.s 66,.s 68]])
 (.seq (.aa [U 70 5,xf 7 71 3,xl 5 72 71,xc 60 73 [.s 70,.s 72]])
 (.aa [U 74 5,xf 12 75 3,xl 5 76 75,xc 60 77 [.s 74,.s 76]])))
 (.skip)))))))))))
 (.seq (.aa [U 78 5,xk 79 78,xf 0 80 79,xf 0 81 80,xo 82 81,xc 22 83 [.s 82],xs 2 4 83])
 (.ret))))
theorem acM:aJ prog 20 Ml [.cell 4 true 2] 84:=⟨f20,⟨[10],[2],[]⟩,func20,by kernel_rfl,by kernel_rfl,by kernel_rfl,by kernel_rfl⟩
def MH:AC:=.seq (.aa [⟨(some 2),.alloc [(.int .i64 0),(.int .i64 0)],none⟩])
 (.seq (.aa [⟨(some 3),.alloc [(.int .i64 0),(.int .i64 0)],none⟩])
 (.seq (.seq (.aa [U 6 0,xL 7 6,xi 8 0])
 (.block 0 (.loop (.seq (.aa [xb .lss 9 8 7])
 (.seq (.cond (.s 9) (.skip)
 (.exit 0))
 (.seq (.block 1 (.seq (.aa [xA 2 10 6 8,xl 2 11 10,⟨(some 5),.alloc [(.int .i64 0),(.int .i64 0)],none⟩,xs 2 5 11])
 (.seq (.seq (.aa [xf 0 12 5,xo 13 12,xB .eql 14 13 0])
 (.cond (.s 14) (.exit 1)
 (.skip)))
 (.seq (.aa [xf 0 15 3,xo 16 15,xB .eql 17 16 0,U 18 17,xh 18 (xf 0 19 5),xh 18 (xo 20 19),xh 18 (xf 0 21 3),xh 18 (xo 22 21),xh 18 (xb .lss 23 20 22),⟨(some 24),.pick (.s 18) (.c (.bool true)) (.s 23),none⟩,U 25 24,xh 25 (xf 0 26 5),xh 25 (xo 27 26),xh 25 (xf 0 28 3),xh 25 (xo 29 28),xh 25 (xb .eql 30 27 29),xh 25 (U 31 30),xg 31 (xf 1 32 5),xg 31 (xo 33 32),xg 31 (xf 1 34 3),xg 31 (xo 35 34),xg 31 (xb .lss 36 33 35),⟨(some 37),.pick (.s 31) (.s 36) (.c (.bool false)),(some (25,false))⟩,⟨(some 38),.pick (.s 25) (.c (.bool true)) (.s 37),none⟩])
 (.cond (.s 38) (.aa [xl 2 39 5,xs 2 3 39])
 (.skip))))))
 (.aa [xB .add 40 8 1,U 8 40])))))))
 (.seq (.aa [xl 2 41 3,xs 2 2 41])
 (.ret))))
theorem ada:aJ prog 22 MH [.cell 2 true 2] 42:=⟨f22,⟨[],[],[]⟩,func22,by kernel_rfl,by kernel_rfl,by kernel_rfl,by kernel_rfl⟩
section
variable {c:aj}
theorem XP:a9 false 1 (c.enc.drop 3)=some (.int .i64 c.name.pos):=rfl
theorem XM:a9 false 1 (c.enc.drop 12)=some (.int .i64 c.right.kind):=rfl
theorem XN:a9 false 1 (c.enc.drop 13)=some (.int .i64 c.right.pos):=rfl
def qv:=And.intro @XP <| And.intro @XM @XN
end
theorem abL {l:List au} {j:Nat} (h:j<l.length):(l.map au.enc)[((j:Nat):Int).toNat]?=some l[j].enc:=by simp[h]
theorem tZ (l:List au) (σ:ab) (hl:l.length≤100000000):ak prog 22 [.sl .no 2 (l.map au.enc)] σ fun v σ' => v = .agg (dg l).enc∧σ' = σ:=by
  refine ada.calls ?_;simp only[aI,MH,am,aP,aD];obtain⟨F,hF⟩:∃F:Nat→Unit→St,∀i x,F i x=⟨[.any,.any,.ptr (.loc 0) 0,.ptr (.loc 1) 0,.any,.any,.sl .no 2 (l.map au.enc),.int .i64 (l.length:Nat),.int .i64 (i:Nat)]++List.replicate 33 .any,[au.zero.enc,(dg (l.take i)).enc],σ⟩:=⟨_,fun _ _=>rfl⟩;obtain⟨JF,aO⟩:∃JF:Nat→Unit→Prop,∀i x,JF i x=(True):=⟨_,fun _ _=>rfl⟩;refine db (l.length) F JF _ aO ?_ ?_ ?_
  · refine dA (()) ?_ ?_ ?_ ?_
    · exact Eq.mpr (aO _ _) (trivial)
    all_goals simp[hF,List.replicate,am,bj,dg,au.zero,au.enc]
  · rintro i x hi -;have hT:=ahK hi;simp only[hF,List.replicate,am,c8 hi];refine bx (by omega) (abL hi) ?_;simp only[am,Nat.reduceAdd,au.af];generalize dg (l.take i)=o at hT;generalize l[i]=f at hT
    by_cases h0:f.cls=0
    · rw[e9,aw h0] at hT;simp only[am,aM,reduceCtorEq,au.af,aC h0,ca hi (by omega)];refine eK (()) hi ?_ ?_ ?_ ?_ ?_ ?_
      · exact Eq.mpr (aO _ _) (trivial)
      all_goals simp[hF,List.replicate,am,bj,bn,cK,V.lo,hT,au.bO]
    rw[e9,ah h0] at hT;simp only[am,au.af,aA h0];have yes:nV o f=true→dg (l.take (i+1))=f:=fun h=>by rw[hT,h,aw rfl]
    have no:nV o f=false→dg (l.take (i+1))=o:=fun h=>by rw[hT,h];rfl
    by_cases h1:o.cls=0
    · have e:=yes (by simp[nV,h1]);simp only[am,aM,au.af,aC h1,ca hi (by omega)];refine eK (()) hi ?_ ?_ ?_ ?_ ?_ ?_
      · exact Eq.mpr (aO _ _) (trivial)
      all_goals simp[hF,List.replicate,am,bj,bn,cK,V.lo,e,au.bO]
    simp only[am,au.af,aA h1]
    by_cases h2:f.cls<o.cls
    · have e:=yes (by simp[nV,h2]);simp only[am,aM,au.af,aC h2,ca hi (by omega)];refine eK (()) hi ?_ ?_ ?_ ?_ ?_ ?_
      · exact Eq.mpr (aO _ _) (trivial)
      all_goals simp[hF,List.replicate,am,bj,bn,cK,V.lo,e,au.bO]
    simp only[am,au.af,aA h2]
    by_cases h3:f.cls=o.cls
    case neg =>
      have e:=no (by simp[nV,h1,h2,h3]);simp only[am,aM,aA h3,ca hi (by omega)];refine eK (()) hi ?_ ?_ ?_ ?_ ?_ ?_
      · exact Eq.mpr (aO _ _) (trivial)
      all_goals simp[hF,List.replicate,am,bj,bn,cK,V.lo,e,au.bO]
    simp only[am,au.af,aC h3]
    by_cases h4:f.loc<o.loc
    · have e:=yes (by simp[nV,h3,h4]);simp only[am,aM,au.af,aC h4,ca hi (by omega)];refine eK (()) hi ?_ ?_ ?_ ?_ ?_ ?_
      · exact Eq.mpr (aO _ _) (trivial)
      all_goals simp[hF,List.replicate,am,bj,bn,cK,V.lo,e,au.bO]
    · have e:=no (by simp[nV,h1,h2,h4]);simp only[am,aM,aA h4,ca hi (by omega)];refine eK (()) hi ?_ ?_ ?_ ?_ ?_ ?_
      · exact Eq.mpr (aO _ _) (trivial)
      all_goals simp[hF,List.replicate,am,bj,bn,cK,V.lo,e,au.bO]
  · rintro x -;simp only[hF,List.replicate,am,aM,c9,aM,au.af,dv];refine az ?_;simp[V.erase,au.cw]
theorem P6 (s:ar) (c:aj) {σ:ab} (hs:s.ok) (hg:TZ σ) (hl:c.left.bI≤100000) (hr:c.right.bI≤100000) (vH:c.left.wt≤aE) (r8:c.right.wt≤aE) :
    ak prog 20 [.agg s.enc,.agg c.enc] σ fun v σ' => v = .agg (fI s c).enc∧σ' = σ:=by
  refine acM.calls ?_;simp only[aI,Ml,am,aP,Nat.reduceAdd,Int.reduceNeg,gM,ar.af,dx,eQ];intro b hb;simp only[am,Int.reduceNeg];refine aZ.tok 0 fun τ ba=>⟨_,_,(σ.set b _).set b (k_ τ [] s (-1) c.pos),dc.rfl,rfl,fun i c' hc=>⟨c',hc,dc.rfl⟩,np.set gU (by simp[k_,mQ]),?_⟩
  have ba:σ.aB τ=none:=ba;rw[ab.set_set,show (σ.set b (k_ τ [] s (-1) c.pos)).aK τ 0=bX σ b τ [] s (-1) c.pos from rfl];have fin:∀(L:List au) (t:List V) (lo:List (List V)) (lat:Int),dg L=fI s c→mB (fun v σ' => v = .agg (fI s c).enc∧σ' = σ) ⟨t,lo,bX σ b τ L s lat c.pos⟩ (.agg (dg L).enc):=fun L t lo lat h=>by
    rw[h];exact aF rfl (apV hb ba) ⟨rfl,rfl⟩
  have hv:∀{t:List UInt8} {y k lat:Int},(fD s lat t y k).length≤1:=yT;have aqp:=@ahh s c.name;have e1:cp (gR s.bc c.name.text)=bP s c:=rfl;have ag:bP s c<s.bc.length:=by
    rw[bP];cases h:gR s.bc c.name.text with
    | none=>simp only[cp];omega
    | some k=>have:=(CM h).1;simp only[cp];omega
  simp only[am,Int.reduceNeg,eQ]
  by_cases gd:c.op=10
  · simp only[am,Nat.reduceAdd,Int.reduceNeg,cC,qv,aC gd];refine cl (Bn σ b τ [] s (-1) c.pos c.name.pos 2 c.name.text (by simp) hs) ?_;simp only[am,Int.reduceNeg,gM,iS];have hlen:=@yT s (-1) c.name.text c.name.pos 2;refine cl (ak.dh (as' := [.sl .no 2 ((fD s (-1) c.name.text c.name.pos 2).map au.enc)]) (tZ (fD s (-1) c.name.text c.name.pos 2) _ (by omega)) ⟨cz.no,trivial⟩ bC.rfl) ?_;simp only[am,Int.reduceNeg,au.af];exact fin _ _ _ _ (by rw[fI,lk];rw[aw gd])
  simp only[am,Int.reduceNeg,aA gd]
  by_cases xR:c.op=15
  · simp only[am,Nat.reduceAdd,Int.reduceNeg,cC,qv,aC xR];refine cl (Bn σ b τ [] s (-1) c.pos c.name.pos 1 c.name.text (by simp) hs) ?_;simp only[am,Int.reduceNeg,gM,iS];have hlen:=@yT s (-1) c.name.text c.name.pos 1;refine cl (ak.dh (as' := [.sl .no 2 ((fD s (-1) c.name.text c.name.pos 1).map au.enc)]) (tZ (fD s (-1) c.name.text c.name.pos 1) _ (by omega)) ⟨cz.no,trivial⟩ bC.rfl) ?_;simp only[am,Int.reduceNeg,au.af];exact fin _ _ _ _ (by rw[fI,lk];rw[ah gd,aw xR])
  simp only[am,Int.reduceNeg,aA xR]
  by_cases h8:c.op=8
  · simp only[am,Int.reduceNeg,cC,aC h8];have l1:=@Ia s (bP s c) c.left;have l2:=@Ia s (bP s c) c.right;refine cl (UY σ b τ [] s (-1) c.pos c.name (by simp) hs) ?_;rw[e1,iS];simp only[am,Int.reduceNeg,Nd.af,cC];refine cl (UX σ b τ (eX s c.name) s (bP s c) c.pos c.left hs hg hb ag (by omega) (by omega) vH) ?_;simp only[am,Int.reduceNeg,Nd.af,cC];refine cl (UX σ b τ (eX s c.name++dq s (bP s c) c.left) s (bP s c) c.pos c.right hs hg hb ag (by simp only[bz];omega) (by omega) r8) ?_;simp only[am,Int.reduceNeg,qv];have hlen:(eX s c.name++dq s (bP s c) c.left++dq s (bP s c) c.right).length≤200001:=by simp only[bz];omega
    have done:∀(d:List au) (t:List V) (lo:List (List V)),d=qz c.right→mB (fun v σ' => v = .agg (fI s c).enc∧σ' = σ) ⟨t,lo,bX σ b τ ((eX s c.name++dq s (bP s c) c.left++dq s (bP s c) c.right)++d) s (bP s c) c.pos⟩ (.agg (dg ((eX s c.name++dq s (bP s c) c.left++dq s (bP s c) c.right)++d)).enc):=fun d t lo hd=>fin _ _ _ _ (by rw[fI,lk,ah gd,ah xR,aw h8,hd])
    by_cases k8:c.right.kind=8∨c.right.kind=9
    · have kQ:(decide (c.right.kind=8)=true)∨(decide (c.right.kind=8)=false∧decide (c.right.kind=9)=true):=by
        by_cases h:c.right.kind=8
        · exact .inl (aC h)
        · exact .inr ⟨aA h,aC (by simpa [h] using k8)⟩
      rcases kQ with q1 | ⟨q1,q2⟩
      case' inl=>simp only[am,Nat.reduceAdd,Int.reduceNeg,qv,q1]
      case' inr=>simp only[am,Nat.reduceAdd,Int.reduceNeg,qv,q1,q2]
      all_goals
        refine bh.intro (Bs σ b τ (eX s c.name++dq s (bP s c) c.left++dq s (bP s c) c.right) s (bP s c) c.pos 6 c.right.pos (by omega)) ?_;simp only[am,Int.reduceNeg,gM];refine cl (ak.dh (as' := [.sl .no 2 (((eX s c.name++dq s (bP s c) c.left++dq s (bP s c) c.right)++[(⟨6,c.right.pos⟩:au)]).map au.enc)]) (tZ ((eX s c.name++dq s (bP s c) c.left++dq s (bP s c) c.right)++[(⟨6,c.right.pos⟩:au)]) _ (by simp only[bz,jn];omega)) ⟨cz.no,trivial⟩ bC.rfl) ?_;simp only[am,Int.reduceNeg,au.af];exact done _ _ _ (by rw[qz,aw k8])
    · simp only[am,Nat.reduceAdd,Int.reduceNeg,qv,aA (fun h=>k8 (.inl h)),aA (fun h=>k8 (.inr h))];refine bh.intro (wA σ b τ (eX s c.name++dq s (bP s c) c.left++dq s (bP s c) c.right) s (bP s c) c.pos 6 c.right.pos (by omega)) ?_;simp only[am,Int.reduceNeg,gM];refine cl (ak.dh (as' := [.sl .no 2 ((eX s c.name++dq s (bP s c) c.left++dq s (bP s c) c.right).map au.enc)]) (tZ (eX s c.name++dq s (bP s c) c.left++dq s (bP s c) c.right) _ (by omega)) ⟨cz.no,trivial⟩ bC.rfl) ?_;simp only[am,Int.reduceNeg,au.af]
      have:=done [] ?_ ?_ (by rw[qz,ah k8])
      · rw[dD] at this;exact this
  simp only[am,Int.reduceNeg,aA h8]
  by_cases h9:c.op=9
  · simp only[am,Int.reduceNeg,cC,aC h9];refine cl (UY σ b τ [] s (-1) c.pos c.name (by simp) hs) ?_;rw[e1,iS];simp only[am,Int.reduceNeg,Nd.af,cC];refine cl (U6 σ b τ (eX s c.name) s (bP s c) c.pos c.left hs hg hb ag (by omega) hl vH) ?_;simp only[am,Int.reduceNeg,Nd.af,cC];have r1:=@T6 s (bP s c) c.pos c.left;have r2:=@T6 s (bP s c) c.pos c.right;refine cl (U6 σ b τ (eX s c.name++jg s (bP s c) c.pos c.left) s (bP s c) c.pos c.right hs hg hb ag (by simp only[bz];omega) hr r8) ?_;simp only[am,Int.reduceNeg,gM];refine cl (ak.dh (as' := [.sl .no 2 ((eX s c.name++jg s (bP s c) c.pos c.left++jg s (bP s c) c.pos c.right).map au.enc)]) (tZ (eX s c.name++jg s (bP s c) c.pos c.left++jg s (bP s c) c.pos c.right) _ (by simp only[bz];omega)) ⟨cz.no,trivial⟩ bC.rfl) ?_;simp only[am,Int.reduceNeg,au.af];exact fin _ _ _ _ (by rw[fI,lk];rw[ah gd,ah xR,ah h8,aw h9])
  simp only[am,Int.reduceNeg,gM,aA h9];refine cl (ak.dh (as' := [.sl .no 2 (([]:List au).map au.enc)]) (tZ ([]:List au) _ (by simp)) ⟨cz.no,trivial⟩ bC.rfl) ?_;simp only[am,Int.reduceNeg,au.af];exact fin _ _ _ _ (by rw[fI,lk];rw[ah gd,ah xR,ah h8,ah h9])
def Ny:AC:=.seq (.aa [⟨(some 4),.mv (.c (.str [])),none⟩])
 (.seq (.aa [⟨(some 5),.mv (.c (.sl .full 1 [])),none⟩])
 (.seq (.seq (.aa [U 7 0,xL 8 7,xi 9 0])
 (.block 0 (.loop (.seq (.aa [xb .lss 10 9 8])
 (.seq (.cond (.s 10) (.skip)
 (.exit 0))
 (.seq (.block 1 (.seq (.aa [U 11 9,U 6 11])
 (.seq (.seq (.aa [U 12 6,xB .gtr 13 12 0])
 (.cond (.s 13) (.aa [U 14 5,U 15 1,⟨(some 16),.jr (.s 14) (.s 15),none⟩,U 5 16])
 (.skip)))
 (.aa [U 17 5,U 18 0,U 19 6,xA 1 20 18 19,xo 21 20,⟨(some 22),.jr (.s 17) (.s 21),none⟩,U 5 22]))))
 (.aa [xB .add 23 9 1,U 9 23])))))))
 (.seq (.aa [U 24 5,⟨(some 25),.qy (.s 24),none⟩,U 4 25])
 (.ret))))
theorem ad0:aJ prog 36 Ny [.tmp 4] 26:=⟨f36,⟨[],[],[]⟩,func36,by kernel_rfl,by kernel_rfl,by kernel_rfl,by kernel_rfl⟩
def Nz:AC:=.seq (.aa [⟨(some 2),.mv (.c (.sl .full 1 [])),none⟩])
 (.seq (.aa [⟨(some 3),.mv (.c (.sl .full 1 [])),none⟩])
 (.seq (.seq (.aa [U 6 0,xL 7 6,xi 8 0])
 (.block 0 (.loop (.seq (.aa [xb .lss 9 8 7])
 (.seq (.cond (.s 9) (.skip)
 (.exit 0))
 (.seq (.block 1 (.seq (.aa [xA 2 10 6 8,xl 2 11 10,⟨(some 5),.alloc [(.str []),(.int .i64 0)],none⟩,xs 2 5 11])
 (.aa [U 12 3,xf 0 13 5,xo 14 13,⟨(some 15),.cB 1 [(.s 14)],none⟩,xa 1 16 12 15,U 3 16])))
 (.aa [xB .add 17 8 1,U 8 17])))))))
 (.seq (.aa [U 18 3,U 2 18])
 (.ret))))
theorem ad1:aJ prog 37 Nz [.tmp 2] 19:=⟨f37,⟨[],[],[]⟩,func37,by kernel_rfl,by kernel_rfl,by kernel_rfl,by kernel_rfl⟩
def NA:AC:=.seq (.aa [⟨(some 2),.mv (.c (.str [])),none⟩])
 (.seq (.aa [U 3 0,xc 36 4 [.s 3,.c (.str [44])],⟨(some 5),.cat (.c (.str [123])) (.s 4),none⟩,⟨(some 6),.cat (.s 5) (.c (.str [125])),none⟩,U 2 6])
 (.ret))
theorem ad2:aJ prog 38 NA [.tmp 2] 7:=⟨f38,⟨[],[],[]⟩,func38,by kernel_rfl,by kernel_rfl,by kernel_rfl,by kernel_rfl⟩
def NB:AC:=.seq (.aa [⟨(some 2),.mv (.c (.sl .full 1 [])),none⟩])
 (.seq (.aa [⟨(some 3),.mv (.c (.sl .full 1 [])),none⟩])
 (.seq (.seq (.aa [U 6 0,xL 7 6,xi 8 0])
 (.block 0 (.loop (.seq (.aa [xb .lss 9 8 7])
 (.seq (.cond (.s 9) (.skip)
 (.exit 0))
 (.seq (.block 1 (.seq (.aa [xA 4 10 6 8,xl 4 11 10,⟨(some 5),.alloc [(.str []),(.int .i64 0),(.str []),(.int .i64 0)],none⟩,xs 4 5 11])
 (.aa [U 12 3,⟨(some 13),.eJ 2 2 (.s 5) (.c (.int .i64 0)),none⟩,xf 0 14 13,xo 15 14,⟨(some 16),.cat (.s 15) (.c (.str [60])),none⟩,⟨(some 17),.eJ 2 2 (.s 5) (.c (.int .i64 1)),none⟩,xf 0 18 17,xo 19 18,⟨(some 20),.cat (.s 16) (.s 19),none⟩,⟨(some 21),.cB 1 [(.s 20)],none⟩,xa 1 22 12 21,U 3 22])))
 (.aa [xB .add 23 8 1,U 8 23])))))))
 (.seq (.aa [U 24 3,U 2 24])
 (.ret))))
theorem ad3:aJ prog 39 NB [.tmp 2] 25:=⟨f39,⟨[],[],[]⟩,func39,by kernel_rfl,by kernel_rfl,by kernel_rfl,by kernel_rfl⟩
def eE (l:List (List UInt8)):List (List V):=l.map fun s=>[V.str s]
theorem pn {l:List (List UInt8)}:(eE l).length=l.length:=aD ..
theorem CD {l:List (List UInt8)} {j:Nat} {s:List UInt8} (h:l[j]?=some s):(eE l)[(j:Int).toNat]?=some [.str s]:=by simp[eE,h]
def AK (l:List (List UInt8)) (sep:List UInt8) (σ:ab) (i τ:Nat):St :=
  ⟨[.sl .no 1 (eE l),.str sep,.any,.any,.any,.sl (.tk τ) 1 (b6 (gT sep (l.take i))),.any,.any,.int .i64 l.length,.int .i64 (i:Nat)]++List.replicate 16 .any,[],σ.aK τ (gT sep (l.take i)).length⟩
theorem IC (l:List (List UInt8)) (sep:List UInt8) (σ:ab) (hl:l.length≤aE) (hb:(gT sep l).length≤aE) :
    ak prog 36 [.sl .no 1 (eE l),.str sep] σ fun v σ' => v = .str (gT sep l)∧σ' = σ:=by
  refine ad0.calls ?_;simp only[aI,Ny,am,aP,Nat.reduceAdd,pn];refine jj (fun p:{p:Nat × Nat // σ.aB p.2=none∧p.1≤l.length}=>AK l sep σ p.1.1 p.1.2) (fun p=>l.length - p.1.1) ?_ ?_
  · refine aZ.wC 0 fun τ ba=>⟨⟨(0,τ),ba,by simp⟩,?_,rfl,rfl⟩
    simp[AK,List.replicate,mQ,gT,b6]
  · rintro⟨⟨i,τ⟩,ba,hi⟩;simp only at ba hi;simp only[AK,List.replicate,am];have wi:IntKind.i64.wrap ((i:Int)+1)=((i+1:Nat):Int):=by simp only[aE] at hl;rw[wrap_i64 (by omega) (by omega)];simp
    by_cases ag:i<l.length
    · have hs:=agQ (sep:=sep) ag;have hm:=agN (sep:=sep) (l:=l) (i:=i+1);rw[hs] at hm;simp only[bz] at hm;simp only[am,aC (show (i:Int)<l.length by omega)]
      by_cases h0:0<i
      case' pos =>
        rw[aw h0] at hs hm;simp only[am,bV,aC (show (0:Int)<i by omega)];refine⟨_,rfl,?_⟩;refine jt (by rw[ln,ln];omega) (by rw[ln,kv]) ?_;simp only[am,ji];rw[←Gc,ln,ln,←bz]
      case' neg =>
        rw[ah h0,dD] at hs;rw[ah h0] at hm;simp only[am,aA (show ¬(0:Int)<i by omega)]
      all_goals
        refine bx (by omega) (CD (cc ag)) ?_;simp only[am,bV];refine⟨_,rfl,?_⟩;refine jt (by rw[ln,ln];simp at hm ⊢;omega) (by rw[ln,kv]) ?_;simp only[am,ji,wi];rw[←Gc,ln,ln,←bz,←hs];exact aZ.again (I:=fun p:{p:Nat × Nat // σ.aB p.2=none∧p.1≤l.length}=>AK l sep σ p.1.1 p.1.2) (μ:=fun p=>l.length - p.1.1) ⟨(i+1,τ),ba,ag⟩ (by simp;omega) (by simp[AK,am,List.replicate]) bY.rfl bC.rfl
    · have ag:i=l.length:=by omega
      subst ag;simp only[am,bV,aA (show ¬(l.length:Int)<l.length by omega),dv];refine⟨_,_,rfl,?_⟩;refine aF rfl (pY ba) ⟨?_,rfl⟩;simp[V.erase]
def tU (l:List Word) (σ:ab) (i τ:Nat) (loc:List (List V)):St :=
  ⟨[.any,.any,.any,.sl (.tk τ) 1 (eE ((l.take i).map Word.text)),.any,.any,.sl .no 2 (l.map Word.enc),.int .i64 l.length,.int .i64 (i:Nat)]++List.replicate 10 .any,loc,σ.aK τ i⟩
theorem vb {l:List (List UInt8)} {s:List UInt8}:eE l++[[.str s]]=eE (l++[s]):=by simp[eE]
theorem yO (l:List Word) (σ:ab) (hl:l.length+1≤aE):ak prog 37 [.sl .no 2 (l.map Word.enc)] σ fun v σ' => v = .sl .no 1 (eE (l.map Word.text))∧σ' = σ:=by
  refine ad1.calls ?_;simp only[aI,Nz,am,aP];refine jj (fun p:{p:Nat × Nat // σ.aB p.2=none∧p.1≤l.length}=>tU l σ p.1.1 p.1.2 []) (fun p=>l.length - p.1.1) ?_ ?_
  · refine aZ.wC 0 fun τ ba=>⟨⟨(0,τ),ba,by simp⟩,?_,rfl,rfl⟩
    simp[tU,List.replicate,mQ,eE]
  · rintro⟨⟨i,τ⟩,ba,hi⟩;simp only at ba hi;simp only[tU,List.replicate,am];have wi:IntKind.i64.wrap ((i:Int)+1)=((i+1:Nat):Int):=by simp only[aE] at hl;rw[wrap_i64 (by omega) (by omega)];simp
    by_cases ag:i<l.length
    · have r7:((l.take i).map Word.text).length=i:=by simp;omega
      have nP:(l.take i).map Word.text++[l[i].text]=(l.take (i+1)).map Word.text:=by rw[jV ag,fw,BZ]
      simp only[am,aC (show (i:Int)<l.length by omega)];refine bx (by omega) (yZ (cc ag)) ?_;simp only[am,Nat.reduceAdd,Word.enc];refine jt (by rw[pn,r7];simp;omega) (by rw[pn,r7,kv]) ?_;simp only[am,pn,ji,wi,r7];rw[vb,nP];exact aZ.qq (I:=fun p:{p:Nat × Nat // σ.aB p.2=none∧p.1≤l.length}=>tU l σ p.1.1 p.1.2 []) (μ:=fun p=>l.length - p.1.1) ⟨(i+1,τ),ba,ag⟩ (by simp;omega) (by simp[tU,am,List.replicate]) (by simp[tU,am]) bC.rfl (by simp[tU,List.replicate,bn,V.lo]) (by simp[tU,cK])
    · have ag:i=l.length:=by omega
      subst ag;simp only[am,aA (show ¬(l.length:Int)<l.length by omega),dv];refine aF rfl (pY ba) ⟨?_,rfl⟩;simp[V.erase]
def tV (l:List (Word × Word)) (σ:ab) (i τ:Nat) (loc:List (List V)):St :=
  ⟨[.any,.any,.any,.sl (.tk τ) 1 (eE ((l.take i).map kV)),.any,.any,.sl .no 4 (l.map dr),.int .i64 l.length,.int .i64 (i:Nat)]++List.replicate 16 .any,loc,σ.aK τ i⟩
theorem akF (l:List (Word × Word)) (σ:ab) (hl:l.length+1≤aE) (hp:ig l≤aE):ak prog 39 [.sl .no 4 (l.map dr)] σ fun v σ' => v = .sl .no 1 (eE (l.map kV))∧σ' = σ:=by
  refine ad3.calls ?_;simp only[aI,NB,am,aP];refine jj (fun p:{p:Nat × Nat // σ.aB p.2=none∧p.1≤l.length}=>tV l σ p.1.1 p.1.2 []) (fun p=>l.length - p.1.1) ?_ ?_
  · refine aZ.wC 0 fun τ ba=>⟨⟨(0,τ),ba,by simp⟩,?_,rfl,rfl⟩
    simp[tV,List.replicate,mQ,eE]
  · rintro⟨⟨i,τ⟩,ba,hi⟩;simp only at ba hi;simp only[tV,List.replicate,am];have wi:IntKind.i64.wrap ((i:Int)+1)=((i+1:Nat):Int):=by simp only[aE] at hl;rw[wrap_i64 (by omega) (by omega)];simp
    by_cases ag:i<l.length
    · have r7:((l.take i).map kV).length=i:=by simp;omega
      have nP:(l.take i).map kV++[kV l[i]]=(l.take (i+1)).map kV:=by rw[jV ag,fw,BZ]
      simp only[am,aC (show (i:Int)<l.length by omega)];refine bx (by omega) (yH (cc ag)) ?_;simp only[am,bV,Nat.reduceAdd,dr];have lA:=ald ag;refine iH (by omega) (by omega) ?_;simp only[am,bV,Int.reduceToNat,Nat.reduceMul];refine⟨by simp;omega,?_⟩;refine iH (by omega) (by omega) ?_;simp only[am,Int.reduceToNat,Nat.reduceMul];refine⟨by simp;omega,?_⟩;refine jt (by rw[pn,r7];simp;omega) (by rw[pn,r7,kv]) ?_;simp only[am,pn,ji,wi,r7];rw[show l[i].1.text++[60]++l[i].2.text=kV l[i] from rfl,vb,nP];exact aZ.qq (I:=fun p:{p:Nat × Nat // σ.aB p.2=none∧p.1≤l.length}=>tV l σ p.1.1 p.1.2 []) (μ:=fun p=>l.length - p.1.1) ⟨(i+1,τ),ba,ag⟩ (by simp;omega) (by simp[tV,am,List.replicate]) (by simp[tV,am]) bC.rfl (by simp[tV,List.replicate,bn,V.lo]) (by simp[tV,cK])
    · have ag:i=l.length:=by omega
      subst ag;simp only[am,aA (show ¬(l.length:Int)<l.length by omega),dv];refine aF rfl (pY ba) ⟨?_,rfl⟩;simp[V.erase]
theorem OP (l:List (List UInt8)) (σ:ab) (hl:l.length≤aE) (hb:(cn l).length+2≤aE):ak prog 38 [.sl .no 1 (eE l)] σ fun v σ' => v = .str (u6 l)∧σ' = σ:=by
  refine ad2.calls ?_;simp only[aI,NA,am,aP];refine cl (IC l [44] σ hl (by rw[Dz];omega)) ?_;simp only[am,Dz];refine⟨by simp;omega,by simp;omega,?_⟩;refine az ?_;simp[V.erase,u6]
def LO:AC:=.seq (.aa [⟨(some 1),.box 17 (.s 0),none⟩,⟨(some 2),.mv (.c (.str [])),none⟩])
 (.seq (.aa [xf 0 8 1,xo 9 8,xc 35 10 [.s 9],⟨(some 3),.alloc [(.str []),(.str [])],none⟩,xs 2 3 10])
 (.seq (.aa [xf 0 11 3,xo 12 11,⟨(some 13),.cB 1 [(.s 12)],none⟩,U 4 13])
 (.seq (.aa [xf 7 14 1,xl 5 15 14,xf 12 16 1,xl 5 17 16,⟨(some 18),.cB 5 [(.s 15),(.s 17)],none⟩,U 5 18])
 (.seq (.yI [xf 1 19 3,xo 20 19] (.s 20) 21 22 23 0 1
 (.seq (.aa [xe 24 22 2,U 7 24])
 (.seq (.aa [U 25 7])
 (.block 2 (.seq (.aa [⟨(some 36),.de .eql (.s 25) (.c (.int .i32 110)),none⟩,U 35 36])
 (.cond (.s 35) (.aa [U 37 4,xf 2 38 1,xf 0 39 38,xo 40 39,⟨(some 41),.cB 1 [(.s 40)],none⟩,xa 1 42 37 41,U 4 42])
 (.seq (.aa [⟨(some 44),.de .eql (.s 25) (.c (.int .i32 102)),none⟩,U 43 44])
 (.cond (.s 43) (.aa [U 45 4,xf 4 46 1,xo 47 46,xc 37 48 [.s 47],xc 36 49 [.s 48,.c (.str [44])],⟨(some 50),.cB 1 [(.s 49)],none⟩,xa 1 51 45 50,U 4 51])
 (.seq (.aa [⟨(some 53),.de .eql (.s 25) (.c (.int .i32 119)),none⟩,U 52 53])
 (.cond (.s 52) (.aa [U 54 4,xf 4 55 1,xo 56 55,xc 37 57 [.s 56],xc 38 58 [.s 57],⟨(some 59),.cB 1 [(.s 58)],none⟩,xa 1 60 54 59,U 4 60])
 (.seq (.aa [⟨(some 62),.de .eql (.s 25) (.c (.int .i32 112)),none⟩,U 61 62])
 (.cond (.s 61) (.aa [U 63 4,xf 5 64 1,xo 65 64,xc 39 66 [.s 65],xc 38 67 [.s 66],⟨(some 68),.cB 1 [(.s 67)],none⟩,xa 1 69 63 68,U 4 69])
 (.seq (.aa [U 26 4,U 27 5,⟨(some 28),.jH 5 (.s 27) (.c (.int .i64 0)),none⟩,xl 5 29 28,xc 40 30 [.s 29],⟨(some 31),.cB 1 [(.s 30)],none⟩,xa 1 32 26 31,U 4 32])
 (.aa [U 33 5,⟨(some 34),.j_ 5 (.s 33) (some (.c (.int .i64 1))) none none,none⟩,U 5 34]))))))))))))))
 (.seq (.aa [U 70 4,xc 36 71 [.s 70,.c (.str [32])],U 2 71])
 (.ret))))))
theorem acd:aJ prog 15 LO [.tmp 2] 72:=⟨f15,⟨[],[],[]⟩,func15,by kernel_rfl,by kernel_rfl,by kernel_rfl,by kernel_rfl⟩
def wv (c:aj) (σ:ab) (ks:List UInt8) (b i τ:Nat):St :=
  ⟨[.any,.ptr (.loc 0) 0,.any,.any,.sl (.tk τ) 1 (eE (jf c (ks.take i)).1),.sl .no 5 ((jf c (ks.take i)).2.map Nd.enc)]++List.replicate 15 .any++[.raw (.pointer (some ⟨b,0,none⟩))]++List.replicate 50 .any,[c.enc,[.str (cL c.op).1,.str ks]],σ.aK τ (i+1)⟩
theorem Zi (c:aj) {σ:ab} (hg:σ.bH 0=some fq) (hw:16*c.wt+64≤aE):ak prog 15 [.agg c.enc] σ fun v σ' => v = .str (na c)∧σ' = σ:=by
  have hcw:c.wt=c.name.text.length+di c.names+ig c.aY+c.left.wt+c.right.wt:=rfl;have hn1:=Jf c.names;have HB:=TG c.aY;refine acd.calls ?_;simp only[aI,LO,am,aP,dx,eQ];refine cl (IV c.op hg) ?_;simp only[am,Nat.reduceAdd,Nd.af,cC];refine Ke ?_;simp only[am];have C9:=aeE c.op;have vF:na c=gT [32] (jf c (cL c.op).2).1:=rfl;have oC:=Ql c.op;generalize eU:(cL c.op).2=ks at C9 vF oC;refine⟨ks,rfl,by rw[←eU];exact Gs c.op,fun b i al => ∃τ:{τ:Nat // σ.aB τ=none},al = wv c σ ks b i τ.1,?_,?_,?_,?_⟩
  · intro b;refine aZ.wC 1 fun τ ba=>⟨⟨τ,ba⟩,?_,?_,rfl⟩
    · simp[wv,List.replicate,mQ,eE,jf];exact⟨gz.tok rfl,gz.le cz.no⟩
    · simp[wv]
  · rintro b i _ ⟨τ,rfl⟩;exact⟨rfl,by simp[wv],by simp[wv]⟩
  · rintro b i k _ hk ⟨⟨τ,ba⟩,rfl⟩;have hi:i<ks.length:=(dj.1 hk).1;have nN:ks.take (i+1)=ks.take i++[k]:=by rw[Br hk]
    obtain⟨o1,o2,o3,o4⟩:=Ja c (ks.take i);have nP:=Tu c (ks.take i) k;rw[←nN] at nP;have kM:(eE (jf c (ks.take i)).1).length=i+1:=by rw[pn,o3,gO];omega
    have fV:∀n:UInt8,((k.toNat:Nat):Int)=(n.toNat:Nat)↔k=n:=fun n=>by
      constructor
      · intro h;exact Lk.1 (by omega)
      · rintro rfl;rfl
    have zF:((k.toNat:Nat):Int)=110↔k=110:=fV 110;have CC:((k.toNat:Nat):Int)=102↔k=102:=fV 102;have zH:((k.toNat:Nat):Int)=119↔k=119:=fV 119;have zG:((k.toNat:Nat):Int)=112↔k=112:=fV 112;have ht:=C9 i hi k hk;simp only[wv,List.replicate,am];generalize hX:jf c (ks.take i)=X at *;obtain⟨rows,ts⟩:=X;simp only at o1 o2 o3 o4 kM;simp only;rw[nP];simp only[uC];have Ap:rows.length+1≤aE:=by
      have:(List.take i ks).length≤3:=by rw[gO];omega
      simp only[aE];omega
    by_cases k1:k=110
    · have hp:mV k c (ts.headD .zero)=c.name.text:=by subst k1;rfl
      have hq:isTerm k=false:=by subst k1;rfl
      simp only[am,cC,aC (zF.2 k1),hp,hq];refine jt (by rw[kM];simp only[jn,aE] at *;omega) (by rw[kM,kv]) ?_;simp only[am,bV,ji,kM];rw[vb];exact aZ.dh (by simp[am]) (by simp[am]) bC.rfl ⟨⟨τ,ba⟩,rfl⟩
    simp only[am,aA (fun h=>k1 (zF.1 h))]
    by_cases k2:k=102
    · have hp:mV k c (ts.headD .zero)=cn (c.names.map Word.text):=by subst k2;rfl
      have hq:isTerm k=false:=by subst k2;rfl
      simp only[am,cC,aC (CC.2 k2),hp,hq];refine cl (yO c.names _ (by omega)) ?_;simp only[am];refine cl (IC (c.names.map Word.text) [44] _ (by rw[aD];omega) (by rw[Dz];omega)) ?_;simp only[am,Dz];refine jt (by rw[kM];simp only[jn,aE] at *;omega) (by rw[kM,kv]) ?_;simp only[am,bV,ji,kM];rw[vb];exact aZ.dh (by simp[am]) (by simp[am]) bC.rfl ⟨⟨τ,ba⟩,rfl⟩
    simp only[am,aA (fun h=>k2 (CC.1 h))]
    by_cases k3:k=119
    · have hp:mV k c (ts.headD .zero)=u6 (c.names.map Word.text):=by subst k3;rfl
      have hq:isTerm k=false:=by subst k3;rfl
      simp only[am,cC,aC (zH.2 k3),hp,hq];refine cl (yO c.names _ (by omega)) ?_;simp only[am];refine cl (OP (c.names.map Word.text) _ (by rw[aD];omega) (by omega)) ?_;simp only[am];refine jt (by rw[kM];simp only[jn,aE] at *;omega) (by rw[kM,kv]) ?_;simp only[am,bV,ji,kM];rw[vb];exact aZ.dh (by simp[am]) (by simp[am]) bC.rfl ⟨⟨τ,ba⟩,rfl⟩
    simp only[am,aA (fun h=>k3 (zH.1 h))]
    by_cases k4:k=112
    · have hp:mV k c (ts.headD .zero)=u6 (c.aY.map kV):=by subst k4;rfl
      have hq:isTerm k=false:=by subst k4;rfl
      simp only[am,cC,aC (zG.2 k4),hp,hq];refine cl (akF c.aY _ (by omega) (by omega)) ?_;simp only[am];refine cl (OP (c.aY.map kV) _ (by rw[aD];omega) (by omega)) ?_;simp only[am];refine jt (by rw[kM];simp only[jn,aE] at *;omega) (by rw[kM,kv]) ?_;simp only[am,bV,ji,kM];rw[vb];exact aZ.dh (by simp[am]) (by simp[am]) bC.rfl ⟨⟨τ,ba⟩,rfl⟩
    simp only[am,aA (fun h=>k4 (zG.1 h))];have hq:isTerm k=true:=by simp[isTerm,k1,k2,k3,k4]
    have ht2:=ht hq;obtain⟨n,ns,lY⟩:∃n ns,ts=n::ns:=by
      rw[o4]
      match (List.filter isTerm (List.take i ks)).length,ht2 with
      | 0,_=>exact⟨_,_,rfl⟩
      | 1,_=>exact⟨_,_,rfl⟩
    have hnw:n.wt≤c.wt:=o2 n (by rw[lY];simp);have hp:mV k c (ts.headD .zero)=n.cM:=by rw[lY];simp[mV,k1,k2,k3,k4]
    have nR:ts.map Nd.enc=n.enc::ns.map Nd.enc:=by rw[lY];rfl
    have r7:ts.tail=ns:=by rw[lY];rfl
    simp only[am,hp,hq,r7,nR];refine bx (by omega) (c:=n.enc) (by simp) ?_;simp only[am,Nd.af];refine cl (aog _ n _ (bt _) (by omega)) ?_;simp only[am];refine jt (by rw[kM];simp only[jn,aE] at *;omega) (by rw[kM,kv]) ?_;simp only[am,bV,ji,kM];refine anH (a:=1) (by simp) ?_;simp only[am,bV];rw[vb];exact aZ.dh (by simp[am]) (by simp[am]) bC.rfl ⟨⟨τ,ba⟩,rfl⟩
  · rintro b _ ⟨⟨τ,ba⟩,rfl⟩;simp only[wv,List.replicate,am];rw[dv];obtain⟨o1,o2,o3,o4⟩:=Ja c ks;have vz:=agO _ o1;rw[o3] at vz;have hjb:(gT [32] (jf c ks).1).length≤aE:=by
      have:(ks.length+1)*(c.wt+8+1)≤4*(c.wt+8+1):=mA _ (by omega)
      omega
    refine(ak.dh (IC (jf c ks).1 [32] (σ.aK τ (ks.length+1)) (by rw[o3];simp only[aE];omega) hjb) ?_ bC.rfl).mono ?_
    · simp[am]
    rintro v _ ⟨rfl,rfl⟩;simp only[am];refine aF rfl (pY ba) ⟨?_,rfl⟩;rw[vF];rfl
end Go.Proofs.Tryz
