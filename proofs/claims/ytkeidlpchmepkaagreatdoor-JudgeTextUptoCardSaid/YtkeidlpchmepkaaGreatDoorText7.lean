/-
  Part 7 of the proof of JudgeTextUptoCardSaid: a logic over the model, the forms of the functions that the law reaches, and what they compute.
-/
import Derived.Test.YtkeidlpchmepkaaGreatDoorProg
import Derived.Test.YtkeidlpchmepkaaGreatDoorText6
set_option linter.unusedVariables false
set_option linter.unusedSimpArgs false
set_option linter.defProp false
set_option linter.unusedSectionVars false
namespace Go.Proofs.Tryz
open Go.Am
set_option maxRecDepth 4000
set_option maxHeartbeats 4000000
def Ov:AC:=.seq (.aa [⟨(some 2),.box 2 (.s 0),none⟩,⟨(some 3),.box 5 (.s 1),none⟩,⟨(some 4),.alloc zm,none⟩,⟨(some 5),.alloc [(.int .i64 0),(.int .i64 0)],none⟩])
 (.seq (.aa [⟨(some 6),.alloc zm,none⟩])
 (.seq (.aa [xl 2 13 2,xl 5 14 3,xc 175 15 [.s 13,.s 14],xm 12 15,xe 16 12 0,xe 17 12 1,xm 7 16,xm 8 17])
 (.seq (.seq (.aa [xm 18 8,⟨(some 19),.not (.s 18),none⟩,xm 20 19,xh 20 (xl 2 21 2),xh 20 (xc 176 22 [.s 21]),⟨(some 23),.not (.s 22),(some (20,false))⟩,⟨(some 24),.pick (.s 20) (.c (.bool true)) (.s 23),none⟩,xm 25 24,xh 25 (xl 5 26 3),xh 25 (xc 172 27 [.s 26]),⟨(some 28),.not (.s 27),(some (25,false))⟩,⟨(some 29),.pick (.s 25) (.c (.bool true)) (.s 28),none⟩])
 (.cond (.s 29) (.seq (.draw [(xl 8 30 6,[]),(xf 1 31 3,[]),(xo 32 31,[1]),(⟨(some 33),.build [(.int .i64 0),(.int .i64 0)] [(0,1,(.c (.int .i64 4))),(1,1,(.s 32))],none⟩,[]),(xs 8 4 30,[]),(xs 2 5 33,[])])
 (.ret))
 (.skip)))
 (.seq (.aa [⟨(some 34),.build [(.bool false),(.int .i64 0)] [],none⟩,⟨(some 35),.ff 2 (.s 34),none⟩,xm 9 35])
 (.seq (.seq (.aa [xf 1 36 2,xo 37 36,xL 38 37,xi 39 0])
 (.block 0 (.loop (.seq (.aa [xb .lss 40 39 38])
 (.seq (.cond (.s 40) (.skip)
 (.exit 0))
 (.seq (.block 1 (.seq (.aa [xm 41 39,xA 67 42 37 39,xl 67 43 42,⟨(some 11),.alloc tC,none⟩,xm 10 41,xs 67 11 43])
 (.draw [(xm 44 10,[]),(xm 45 9,[]),(xl 67 46 11,[]),(xm 47 7,[]),(xm 48 10,[]),(xA 5 49 47 48,[]),(xl 5 50 49,[]),(xc 177 51 [.s 45,.s 46,.s 50],[]),(⟨(some 52),.fk 8 1 (.s 6) (.s 44),none⟩,[]),(xs 1 52 51,[])])))
 (.aa [xB .add 53 39 1,xm 39 53])))))))
 (.seq (.seq (.aa [xm 54 9,xk 55 54,xf 0 56 55,xo 57 56])
 (.cond (.s 57) (.seq (.draw [(⟨(some 58),.build zm [],none⟩,[]),(xm 59 9,[]),(xk 60 59,[]),(xf 1 61 60,[]),(xo 62 61,[1]),(⟨(some 63),.build [(.int .i64 0),(.int .i64 0)] [(0,1,(.c (.int .i64 4))),(1,1,(.s 62))],none⟩,[]),(xs 8 4 58,[]),(xs 2 5 63,[])])
 (.ret))
 (.skip)))
 (.seq (.aa [xl 8 64 6,⟨(some 65),.build [(.int .i64 0),(.int .i64 0)] [],none⟩,xs 8 4 64,xs 2 5 65])
 (.ret))))))))
theorem afF:aK prog 125 Ov [.cell 4 true 8,.cell 5 true 2] 66:=⟨f125,⟨[35],[],[]⟩,func125,by kernel_rfl,by kernel_rfl,by kernel_rfl,by kernel_rfl⟩
def O3:AC:=.seq (.aa [⟨(some 2),.box 2 (.s 0),none⟩,⟨(some 3),.box 5 (.s 1),none⟩,⟨(some 4),.mv (.c (.sl .full 5 [])),none⟩,⟨(some 5),.mv (.c (.bool false)),none⟩])
 (.seq (.seq (.aa [xf 0 6 2,xo 7 6,⟨(some 8),.not (.s 7),none⟩])
 (.cond (.s 8) (.seq (.aa [xl 5 9 3,⟨(some 10),.cR 5 [(.s 9)],none⟩,xm 4 10,⟨(some 5),.mv (.c (.bool true)),none⟩])
 (.ret))
 (.skip)))
 (.seq (.draw [(xf 4 11 3,[]),(xo 12 11,[]),(xf 0 13 3,[]),(xo 14 13,[]),(xB .eql 15 14 4,[]),(xm 16 15,[]),(xg 16 (xf 4 17 3),[]),(xg 16 (xo 18 17),[]),(xg 16 (xL 19 18),[]),(xg 16 (xf 1 20 2),[]),(xg 16 (xo 21 20),[]),(xg 16 (xL 22 21),[]),(xg 16 (xb .eql 23 19 22),[]),(⟨(some 24),.pick (.s 16) (.s 23) (.c (.bool false)),none⟩,[]),(xm 4 12,[]),(xm 5 24,[])])
 (.ret)))
theorem af9:aK prog 175 O3 [.tmp 4,.tmp 5] 25:=⟨f175,⟨[],[],[]⟩,func175,by kernel_rfl,by kernel_rfl,by kernel_rfl,by kernel_rfl⟩
def O5:AC:=.seq (.aa [⟨(some 4),.box 67 (.s 1),none⟩,⟨(some 5),.box 5 (.s 2),none⟩,⟨(some 6),.mv (.c (.int .u64 0)),none⟩])
 (.seq (.seq (.draw [(xf 0 7 5,[]),(xo 8 7,[1]),(xl 67 9 4,[]),(xc 229 10 [.s 9],[]),(xb .neq 11 8 10,[])])
 (.cond (.s 11) (.seq (.aa [xm 12 0,xf 1 13 5,xo 14 13,xc 230 15 [.s 12,.s 14],xm 6 15])
 (.ret))
 (.skip)))
 (.seq (.seq (.aa [xf 0 16 4,xo 17 16])
 (.block 0 (.seq (.aa [xB .eql 19 17 2,xm 18 19])
 (.cond (.s 18) (.seq (.aa [xm 20 0,xf 1 21 4,xo 22 21,xf 3 23 5,xo 24 23,xc 231 25 [.s 20,.s 22,.s 24],xm 6 25])
 (.ret))
 (.seq (.aa [xB .eql 27 17 3,xm 26 27])
 (.cond (.s 26) (.seq (.aa [xm 28 0,xl 67 29 4,xl 5 30 5,xc 232 31 [.s 28,.s 29,.s 30],xm 6 31])
 (.ret))
 (.skip)))))))
 (.seq (.aa [xm 32 0,xl 67 33 4,xl 5 34 5,xc 233 35 [.s 32,.s 33,.s 34],xm 6 35])
 (.ret))))
theorem af':aK prog 177 O5 [.tmp 6] 36:=⟨f177,⟨[],[],[]⟩,func177,by kernel_rfl,by kernel_rfl,by kernel_rfl,by kernel_rfl⟩
def PF:AC:=.seq (.aa [⟨(some 1),.box 67 (.s 0),none⟩,xi 2 0])
 (.seq (.seq (.aa [xf 0 3 1,xo 4 3])
 (.block 0 (.seq (.aa [xB .eql 6 4 2,xm 5 6])
 (.cond (.s 5) (.seq (.aa [xi 2 3])
 (.ret))
 (.seq (.aa [xB .eql 8 4 3,xm 7 8])
 (.cond (.s 7) (.seq (.aa [xi 2 5])
 (.ret))
 (.skip)))))))
 (.seq (.aa [xi 2 2])
 (.ret)))
theorem agJ:aK prog 229 PF [.tmp 2] 9:=⟨f229,⟨[],[],[]⟩,func229,by kernel_rfl,by kernel_rfl,by kernel_rfl,by kernel_rfl⟩
def PH:AC:=.seq (.aa [⟨(some 4),.mv (.c (.int .u64 0)),none⟩])
 (.seq (.seq (.aa [xm 5 0,xk 6 5,xf 0 7 6,xo 8 7,⟨(some 9),.not (.s 8),none⟩])
 (.cond (.s 9) (.aa [xm 10 0,xm 11 0,xm 12 1,xk 13 10,xf 0 14 13,⟨none,.store 1 (.s 14) (.c (.bool true)),none⟩,xk 15 11,xf 1 16 15,xs 1 16 12])
 (.skip)))
 (.seq (.aa [⟨(some 4),.mv (.c (.int .u64 0)),none⟩])
 (.ret)))
theorem agL:aK prog 230 PH [.tmp 4] 17:=⟨f230,⟨[],[],[]⟩,func230,by kernel_rfl,by kernel_rfl,by kernel_rfl,by kernel_rfl⟩
def PI:AC:=.seq (.aa [⟨(some 6),.mv (.c (.int .u64 0)),none⟩])
 (.seq (.aa [⟨(some 7),.mv (.c (.int .u64 0)),none⟩])
 (.seq (.seq (.aa [xm 11 2,xL 12 11,xi 13 0])
 (.block 0 (.loop (.seq (.aa [xb .lss 14 13 12])
 (.seq (.cond (.s 14) (.skip)
 (.exit 0))
 (.seq (.block 1 (.seq (.aa [xA 2 15 11 13,xl 2 16 15,⟨(some 9),.alloc [(.str []),(.int .i64 0)],none⟩,xs 2 9 16])
 (.seq (.aa [xm 17 1,xf 0 18 9,xo 19 18,xc 112 20 [.s 17,.s 19],xm 10 20])
 (.seq (.seq (.aa [xm 21 10,xB .lss 22 21 0])
 (.cond (.s 22) (.seq (.aa [xm 23 0,xf 1 24 9,xo 25 24,xc 230 26 [.s 23,.s 25],xm 6 26])
 (.ret))
 (.skip)))
 (.aa [xm 27 7,xm 28 10,xc 220 29 [.s 27,.s 28],xm 7 29])))))
 (.aa [xB .add 30 13 1,xm 13 30])))))))
 (.seq (.aa [xm 31 7,xm 6 31])
 (.ret))))
theorem agM:aK prog 231 PI [.tmp 6] 32:=⟨f231,⟨[],[],[]⟩,func231,by kernel_rfl,by kernel_rfl,by kernel_rfl,by kernel_rfl⟩
def PJ:AC:=.seq (.aa [⟨(some 4),.box 67 (.s 1),none⟩,⟨(some 5),.box 5 (.s 2),none⟩,⟨(some 6),.mv (.c (.int .u64 0)),none⟩])
 (.seq (.aa [⟨(some 7),.mv (.c (.int .u64 0)),none⟩])
 (.seq (.seq (.aa [xf 4 11 5,xo 12 11,xL 13 12,xi 14 0])
 (.block 0 (.loop (.seq (.aa [xb .lss 15 14 13])
 (.seq (.cond (.s 15) (.skip)
 (.exit 0))
 (.seq (.block 1 (.seq (.aa [xA 5 16 12 14,xl 5 17 16,⟨(some 9),.alloc [(.int .i64 0),(.int .i64 0),(.str []),(.sl .full 2 []),(.sl .full 5 [])],none⟩,xs 5 9 17])
 (.seq (.aa [xf 1 18 4,xo 19 18,xf 2 20 9,xo 21 20,xc 112 22 [.s 19,.s 21],xm 10 22])
 (.seq (.seq (.aa [xm 23 10,xB .lss 24 23 0])
 (.cond (.s 24) (.seq (.aa [xm 25 0,xf 1 26 9,xo 27 26,xc 230 28 [.s 25,.s 27],xm 6 28])
 (.ret))
 (.skip)))
 (.draw [(xm 29 7,[]),(xf 2 30 4,[]),(xl 65 31 30,[1]),(xm 32 10,[]),(xm 33 0,[]),(xf 1 34 4,[]),(xo 35 34,[]),(xf 3 36 9,[]),(xo 37 36,[]),(xc 231 38 [.s 33,.s 35,.s 37],[]),(xc 258 39 [.s 31,.s 32,.s 38],[]),(xb .or 40 29 39,[]),(xm 7 40,[])])))))
 (.aa [xB .add 41 14 1,xm 14 41])))))))
 (.seq (.aa [xm 42 7,xm 6 42])
 (.ret))))
theorem agN:aK prog 232 PJ [.tmp 6] 43:=⟨f232,⟨[],[],[]⟩,func232,by kernel_rfl,by kernel_rfl,by kernel_rfl,by kernel_rfl⟩
def PK:AC:=.seq (.aa [⟨(some 4),.box 67 (.s 1),none⟩,⟨(some 5),.box 5 (.s 2),none⟩,⟨(some 6),.mv (.c (.int .u64 0)),none⟩])
 (.seq (.aa [xf 1 10 4,xo 11 10,xf 2 12 5,xo 13 12,xc 112 14 [.s 11,.s 13],xm 7 14])
 (.seq (.seq (.aa [xm 15 7,xB .lss 16 15 0])
 (.cond (.s 16) (.seq (.aa [xm 17 0,xf 1 18 5,xo 19 18,xc 230 20 [.s 17,.s 19],xm 6 20])
 (.ret))
 (.skip)))
 (.seq (.seq (.aa [xf 0 21 4,xo 22 21,xB .eql 23 22 4])
 (.cond (.s 23) (.seq (.aa [xf 2 24 4,xl 65 25 24,xm 26 7,xc 259 27 [.s 25,.s 26],xm 6 27])
 (.ret))
 (.skip)))
 (.seq (.aa [xf 1 29 4,xo 30 29,xL 31 30,xm 32 7,xc 260 33 [.s 31,.s 32],xm 28 33,xe 34 28 0,xe 35 28 1,xm 8 34,xm 9 35])
 (.seq (.aa [xm 36 8,xm 6 36])
 (.ret))))))
theorem agO:aK prog 233 PK [.tmp 6] 37:=⟨f233,⟨[],[],[]⟩,func233,by kernel_rfl,by kernel_rfl,by kernel_rfl,by kernel_rfl⟩
abbrev BB (σ:ae) (b:Nat) (o:Option Int):Prop:=σ.box b=some (m_ o)
theorem asd {σ:ae} {b:Nat} {o:Option Int} {c:List V} (hg:TZ σ) (h:BB σ b o):TZ (σ.set b c):=hg
theorem G1 (b:Nat) (o:Option Int) (p:Int) {σ:ae} (h:BB σ b o):al prog 230 [.ptr (.out b) 0,.int .i64 p] σ fun v σ' => v = .int .u64 ((0#64:aY).toNat:Nat)∧σ' = σ.set b (m_ (o.or (some p))):=by
  refine agL.calls ?_;simp only[aJ,PH,am,aR,Nat.reduceAdd,ry];cases o with
  | none =>
    simp only[am,show σ.box b=some [.bool false,.int .i64 0] from h];exact aG rfl (ae.aW _) ⟨rfl,rfl⟩
  | some q =>
    have e:σ.set b (m_ ((some q).or (some p)))=σ:=ae.wa h;simp only[am,show σ.box b=some [.bool true,.int .i64 q] from h];rw[e];exact aG rfl (ae.aW _) ⟨rfl,rfl⟩
theorem aoN {l:List (List UInt8)} {w:Word} {ws:List Word} {s:aY} {k:Nat} (h:gn l w.text=some k):f_ l s (w::ws)=f_ l (jg s (k:Nat)) ws:=by simp only[f_,h]
theorem aoM {l:List (List UInt8)} {w:Word} {ws:List Word} {s:aY} (h:gn l w.text=none):f_ l s (w::ws)=(0#64,some w.pos):=by simp only[f_,h]
theorem Yi (b:Nat) (o:Option Int) (l:List (List UInt8)) (ws:List Word) {σ:ae} (h:BB σ b o) (hl:l.length≤100000) (hw:ws.length≤1000000000) :
    al prog 231 [.ptr (.out b) 0,.sl .no 1 (di l),.sl .no 2 (ws.map Word.enc)] σ fun v σ' => v = .int .u64 ((f_ l 0#64 ws).1.toNat:Nat)∧σ' = σ.set b (m_ (o.or (f_ l 0#64 ws).2)):=by
  refine agM.calls ?_;simp only[aJ,PI,am,aR,Nat.reduceAdd,ry,aE];obtain⟨F,hF⟩:∃F:Nat→aY→St,∀i x,F i x=⟨[.ptr (.out b) 0,.sl .no 1 (di l),.any,.any,.any,.any,.any,.int .u64 (x.toNat:Nat),.any,.any,.any,.sl .no 2 (ws.map Word.enc),.int .i64 (ws.length:Nat),.int .i64 (i:Nat)]++List.replicate 18 .any,[],σ⟩:=⟨_,fun _ _=>rfl⟩;obtain⟨JF,aQ⟩:∃JF:Nat→aY→Prop,∀i x,JF i x=(f_ l 0#64 ws=f_ l x (ws.drop i)):=⟨_,fun _ _=>rfl⟩;refine dC (ws.length) F JF _ aQ ?_ ?_ ?_
  · refine en (0#64) ?_ ?_ ?_ ?_
    · exact Eq.mpr (aQ _ _) (rfl)
    all_goals simp[hF,List.replicate,am,bu]
  · rintro i x hi hJ;rw[kN hi] at hJ;simp only[hF,List.replicate,am,dB hi];refine bD (by omega) (AR (cw hi)) ?_;simp only[am,Nat.reduceAdd,Word.enc];refine cl (tE l ws[i].text σ hl) ?_;simp only[am,An];cases hf:gn l ws[i].text with
    | none =>
      rw[aoM hf] at hJ;simp only[am,yZ];refine(G1 b o ws[i].pos h).mono ?_;rintro v σ' ⟨rfl,rfl⟩;simp only[am,aO];exact aG rfl (ae.aW _) ⟨by rw[hJ];rfl,by rw[hJ]⟩
    | some k =>
      rw[aoN hf] at hJ;simp only[am,Bd,cF];refine cl (CQ x (k:Nat) σ) ?_;simp only[am,aO,cu hi (by omega)];refine fm (jg x (k:Nat)) hi ?_ ?_ ?_ ?_ ?_ ?_
      · exact Eq.mpr (aQ _ _) (hJ)
      all_goals simp[hF,List.replicate,am,bu,bx,c8,V.lo]
  · rintro x hJ;rw[DF] at hJ;have e:σ.set b (m_ (o.or (f_ l 0#64 ws).2))=σ:=by rw[hJ];simp only[f_,Option.or_none];exact ae.wa h
    simp only[hF,List.replicate,am,aO,dG,aO];rw[e,hJ];refine az ?_;simp[V.erase,f_]
def Hl:=And.intro @am <| And.intro @aR <| And.intro @ry <| And.intro @aZ.af <| And.intro @Nd.af @Nd.fl
def atL:=And.intro @am <| And.intro @aO <| And.intro @AQ @aZ.af
theorem aqt (b:Nat) (o:Option Int) (f:aZ) (n:Nd) {σ:ae} (h:BB σ b o) (hg:TZ σ) (hl:f.names.length≤100000) (hk:n.kids.length≤1000000000) (hw:∀k∈n.kids,k.names.length≤1000000000) :
    al prog 232 [.ptr (.out b) 0,.agg f.enc,.agg n.enc] σ fun v σ' => v = .int .u64 ((nK f 0#64 o n.kids).1.toNat:Nat)∧σ' = σ.set b (m_ (nK f 0#64 o n.kids).2):=by
  refine agN.calls ?_;simp only[aJ,PJ,Hl,Nat.reduceAdd,aE];have kU:σ.set b (m_ o)=σ:=ae.wa h;obtain⟨F,hF⟩:∃F:Nat→aY × Option Int→St,∀i x,F i x=⟨[.ptr (.out b) 0,.any,.any,.any,.ptr (.loc 0) 0,.ptr (.loc 1) 0,.any,.int .u64 (x.1.toNat:Nat),.any,.any,.any,.any,.sl .no 5 (n.kids.map Nd.enc),.int .i64 (n.kids.length:Nat),.int .i64 (i:Nat)]++List.replicate 28 .any,[f.enc,n.enc],σ.set b (m_ x.2)⟩:=⟨_,fun _ _=>rfl⟩;obtain⟨JF,aQ⟩:∃JF:Nat→aY × Option Int→Prop,∀i x,JF i x=(nK f 0#64 o n.kids=nK f x.1 x.2 (n.kids.drop i)):=⟨_,fun _ _=>rfl⟩;refine dC (n.kids.length) F JF _ aQ ?_ ?_ ?_
  · refine en ((0#64,o)) ?_ ?_ ?_ ?_
    · exact Eq.mpr (aQ _ _) (rfl)
    all_goals simp[hF,List.replicate,am,bu,kU]
  · rintro i ⟨x,o'⟩ hi hJ;rw[kN hi] at hJ;simp only at hJ;have h1:BB (σ.set b (m_ o')) b o' := iM;simp only[hF,List.replicate,am,dB hi];refine bD (by omega) (ny (cw hi)) ?_;simp only[Hl,Nat.reduceAdd];refine(tE f.names n.kids[i].text _ hl).mono ?_;rintro v dq ⟨rfl,rfl⟩;simp only[am,An];cases hf:gn f.names n.kids[i].text with
    | none =>
      simp only[nK,hf] at hJ;simp only[am,Nd.fl,yZ];refine(G1 b o' n.kids[i].pos h1).mono ?_;rintro v σ' ⟨rfl,rfl⟩;simp only[am,aO];exact aG rfl (ae.aW _) ⟨by rw[hJ];rfl,by rw[hJ]⟩
    | some k =>
      simp only[nK,hf] at hJ;simp only[am,aZ.af,Nd.fl,Bd,cF];refine br.intro (Yi b o' f.names n.kids[i].names h1 hl (hw _ (fD hi))) ?_;simp only[am,Rl.af];refine br.intro (aiL f.rel k (f_ f.names 0#64 n.kids[i].names).1 (asd hg h)) ?_;simp only[atL,cu hi (by omega)];refine fm ((x|||Aw f.rel k (f_ f.names 0#64 n.kids[i].names).1,o'.or (f_ f.names 0#64 n.kids[i].names).2)) hi ?_ ?_ ?_ ?_ ?_ ?_
      · exact Eq.mpr (aQ _ _) (hJ)
      all_goals simp[hF,List.replicate,am,bu,bx,c8,V.lo,aZ.bY,Nd.bY]
  · rintro⟨x,o'⟩ hJ;rw[DF] at hJ;simp only[hF,List.replicate,am,aO,dG,aO];rw[hJ];refine az ?_;simp[V.erase,nK]
theorem aoO (b:Nat) (o:Option Int) (f:aZ) (n:Nd) {σ:ae} (h:BB σ b o) (hl:f.names.length≤100000) :
    al prog 233 [.ptr (.out b) 0,.agg f.enc,.agg n.enc] σ fun v σ' => v = .int .u64 ((nI f n).1.toNat:Nat)∧σ' = σ.set b (m_ (o.or (nI f n).2)):=by
  refine agO.calls ?_;simp only[aJ,PK,Hl,Nat.reduceAdd];refine cl (tE f.names n.text _ hl) ?_;simp only[am,An];cases hf:gn f.names n.text with
  | none =>
    simp only[am,Nd.fl,yZ];refine(G1 b o n.pos h).mono ?_;rintro v σ' ⟨rfl,rfl⟩;simp only[am];exact aG rfl (ae.aW _) ⟨by simp only[nI,hf];rfl,by simp only[nI,hf]⟩
  | some k =>
    have e:σ.set b (m_ (o.or (nI f n).2))=σ:=by simp only[nI,hf,Option.or_none];exact ae.wa h
    rw[e];simp only[am,aZ.af,Bd,cF]
    by_cases h4:f.kind=4
    · simp only[am,Rl.af,aZ.af,aD h4];refine cl (ajR f.rel k σ) ?_;simp only[am];refine az ?_;simp[V.erase,nI,hf,h4]
    · simp only[am,aZ.af,kG,aB h4];refine cl (aqD f.names.length k σ) ?_;simp only[am,AN];refine az ?_;simp[V.erase,nI,hf,h4]
theorem akG (f:aZ) (σ:ae):al prog 229 [.agg f.enc] σ fun v σ' => v = .int .i64 (ya f)∧σ' = σ:=by
  refine agJ.calls ?_;simp only[aJ,PF,am,aR,aZ.af]
  by_cases U:f.kind=2
  · simp only[am,aD U];refine az ?_;simp[V.erase,ya,U]
  · simp only[am,aB U]
    by_cases h3:f.kind=3
    · simp only[am,aD h3];refine az ?_;simp[V.erase,ya,h3]
    · simp only[am,aB h3];refine az ?_;simp[V.erase,ya,U,h3]
theorem as2 (b:Nat) (o:Option Int) (f:aZ) (n:Nd) {σ:ae} (h:BB σ b o) (hg:TZ σ) (hl:f.names.length≤100000) (hk:n.names.length≤1000000000∧n.kids.length≤1000000000) (hw:∀k∈n.kids,k.names.length≤1000000000) :
    al prog 177 [.ptr (.out b) 0,.agg f.enc,.agg n.enc] σ fun v σ' => v = .int .u64 ((lj f n o).1.toNat:Nat)∧σ' = σ.set b (m_ (lj f n o).2):=by
  refine af'.calls ?_;simp only[aJ,O5,Hl,Nat.reduceAdd];refine br.intro (akG f σ) ?_;simp only[am,Nd.fl]
  by_cases hq:n.kind=ya f
  · simp only[am,aZ.af,aD hq]
    by_cases U:f.kind=2
    · have e:lj f n o=((f_ f.names 0#64 n.names).1,o.or (f_ f.names 0#64 n.names).2):=by rw[lj,ak hq,ak U]
      simp only[am,aZ.af,Nd.fl,aD U];refine(Yi b o f.names n.names h hl hk.1).mono ?_;rintro v σ' ⟨rfl,rfl⟩;simp only[am];exact aG rfl (ae.aW _) ⟨by rw[e];rfl,by rw[e]⟩
    · simp only[am,aB U]
      by_cases h3:f.kind=3
      · have e:lj f n o=nK f 0#64 o n.kids:=by rw[lj,ak hq,ah U,ak h3]
        simp only[am,aZ.af,Nd.af,aD h3];refine(aqt b o f n h hg hl hk.2 hw).mono ?_;rintro v σ' ⟨rfl,rfl⟩;simp only[am];exact aG rfl (ae.aW _) ⟨by rw[e];rfl,by rw[e]⟩
      · have e:lj f n o=((nI f n).1,o.or (nI f n).2):=by rw[lj,ak hq,ah U,ah h3]
        simp only[am,aZ.af,Nd.af,aB h3];refine(aoO b o f n h hl).mono ?_;rintro v σ' ⟨rfl,rfl⟩;simp only[am];exact aG rfl (ae.aW _) ⟨by rw[e];rfl,by rw[e]⟩
  · have e:lj f n o=(0#64,o.or (some n.pos)):=by rw[lj,ah hq]
    simp only[am,Nd.fl,aB hq];refine(G1 b o n.pos h).mono ?_;rintro v σ' ⟨rfl,rfl⟩;simp only[am];exact aG rfl (ae.aW _) ⟨by rw[e];rfl,by rw[e]⟩
def atM:=And.intro @am <| And.intro @aR <| And.intro @bg.af @Nd.af
theorem aow (s:bg) (n:Nd) (σ:ae):al prog 175 [.agg s.enc,.agg n.enc] σ fun v σ' => v = .aX [.sl .no 5 ((jb s n).map Nd.enc),.bool (nG s n)]∧σ' = σ:=by
  refine af9.calls ?_;simp only[aJ,O3,atM,Nat.reduceAdd];cases ht:s.tuple with
  | false =>
    simp only[am,Nd.af];refine az ?_;simp[V.erase,a9,jb,nG,ht]
  | true =>
    simp only[am,Nd.fl]
    by_cases h4:n.kind=4
    · simp only[am,aE,bg.af,Nd.fl,aE,aD h4]
      by_cases hl:n.kids.length=s.bd.length
      · simp only[aD (show (n.kids.length:Int)=s.bd.length by omega)];refine az ?_;simp[V.erase,a9,jb,nG,ht,h4,hl]
      · simp only[aB (show ¬(n.kids.length:Int)=s.bd.length by omega)];refine az ?_;simp[V.erase,a9,jb,nG,ht,h4,hl]
    · simp only[am,aB h4];refine az ?_;simp[V.erase,a9,jb,nG,ht,h4]
def Nd.ok (n:Nd):Prop:=n.names.length≤1000000000∧n.kids.length≤1000000000∧∀k∈n.kids,k.names.length≤1000000000
theorem IC {s:bg} {n:Nd} (h:(nG s n&&lL s&&n.gE)=false):gF s n=(.zero,some n.pos):=by rw[gF,h];rfl
theorem ad6 {s:bg} {n:Nd} (h1:nG s n=true) (U:lL s=true) (h3:n.gE=true):gF s n=tz s (jb s n):=by rw[gF,h1,U,h3];rfl
theorem X_ {s:bg} (h:lL s=true):1≤s.bd.length∧s.bd.length≤8∧(s.tuple=false→s.bd.length=1):=by
  simp only[lL,a_,bH,kK] at h;refine⟨h.1.1.1,h.1.1.2,fun ht=>?_⟩
  rcases h.1.2 with h | h
  · rw[ht] at h;simp at h
  · exact h
theorem aox {s:bg} {n:Nd} (h1:nG s n=true) (U:lL s=true):(jb s n).length=s.bd.length:=by
  have hl:=(X_ U).2.2;unfold jb;unfold nG at h1;cases ht:s.tuple with
  | false=>simp[hl ht]
  | true=>rw[ht] at h1;simpa using And.right (by simpa using h1)
def atN:=And.intro @am <| And.intro @aR <| And.intro @bg.af <| And.intro @aN.af @Nd.af
theorem ID (s:bg) (n:Nd) {σ:ae} (hg:TZ σ) (bM:s.ok) (hn:∀k∈jb s n,Nd.ok k) (hwt:n.wt≤aF) :
    al prog 125 [.agg s.enc,.agg n.enc] σ fun v σ' => v = .aX [.agg (gF s n).1.enc,.agg (r_ (gF s n).2)]∧σ' = σ:=by
  refine afF.calls ?_;simp only[aJ,Ov,atN,Nat.reduceAdd];refine cl (aow s n σ) ?_;simp only[am];have done:∀(e:aN × Option Int) (t:List V) (l:List (List V)) (dq:ae),e=gF s n→σ.sub dq→nU (fun v σ' => v=V.aX [.agg (gF s n).1.enc,.agg (r_ (gF s n).2)]∧σ' = σ) ⟨t,l,dq⟩ (.aX [.agg e.1.enc,.agg (r_ e.2)]):=fun e t l dq he hs=>by
    subst he;exact aG (by simp[V.cc,bm,aN.cN,r_]) hs ⟨by simp[V.erase,a9,aN.cM,r_],rfl⟩
  cases hp:nG s n with
  | false =>
    simp only[am,Nat.reduceAdd,aN.af,Nd.fl];exact done (.zero,some n.pos) _ _ _ (IC (by rw[hp];rfl)).symm (ae.aW _)
  | true =>
    simp only[am,bg.af];refine cl (aq_ s hg bM) ?_;cases hr:lL s with
    | false =>
      simp only[am,Nat.reduceAdd,aN.af,Nd.fl];exact done (.zero,some n.pos) _ _ _ (IC (by rw[hp,hr];rfl)).symm (ae.aW _)
    | true =>
      simp only[am,Nd.af];refine cl (R5 _ n σ (bt _) hwt) ?_;cases hc:n.gE with
      | false =>
        simp only[am,Nat.reduceAdd,aN.af,Nd.fl];exact done (.zero,some n.pos) _ _ _ (IC (by rw[hp,hr,hc];rfl)).symm (ae.aW _)
      | true =>
        have xF:=ad6 hp hr hc;obtain⟨zO,hl8,_⟩:=X_ hr;have mG:=aox hp hr;simp only[am,Nat.reduceAdd];refine iw fun b hb=>?_
        have hs:∀c,σ.sub (σ.set b c):=fun c=>fU hb
        have hgb:∀c,TZ (σ.set b c):=fun c=>(hs c).2.2 _ _ hg
        simp only[am,aE,bg.af,aE];obtain⟨F,hF⟩:∃F:Nat→aN × Option Int→St,∀i x,F i x=⟨[.any,.any,.any,.any,.ptr (.loc 2) 0,.ptr (.loc 3) 0,.ptr (.loc 4) 0,.sl .no 5 ((jb s n).map Nd.enc),.any,.ptr (.out b) 0,.any,.any,.any,.any,.any,.any,.any,.any,.any,.any,.any,.any,.any,.any,.any,.any,.any,.any,.any,.any,.any,.any,.any,.any,.any,.any,.any,.sl .no 67 (s.bd.map aZ.enc),.int .i64 (s.bd.length:Nat),.int .i64 (i:Nat)]++List.replicate 26 .any,[s.enc,n.enc,aN.zero.enc,[.int .i64 0,.int .i64 0],x.1.enc],σ.set b (m_ x.2)⟩:=⟨_,fun _ _=>rfl⟩;obtain⟨JF,aQ⟩:∃JF:Nat→aN × Option Int→Prop,∀i x,JF i x=(BL s (jb s n) i x):=⟨_,fun _ _=>rfl⟩;refine dC (s.bd.length) F JF _ aQ ?_ ?_ ?_
        · refine en ((.zero,none)) ?_ ?_ ?_ ?_
          · exact Eq.mpr (aQ _ _) (aiz)
          all_goals simp[hF,List.replicate,am,bu,m_]
        · rintro i ⟨e,o⟩ hi hJ;have JR:i<(jb s n).length:=by omega
          have h8:i<8:=by omega
          have dH:=aiy hJ;rw[oX hi,oX JR] at dH;have Ce:=hn _ (fD JR);simp only[hF,List.replicate,am,dB hi];refine bD (by omega) (II hi) ?_;simp only[am,Nat.reduceAdd,aZ.af];refine bD (by omega) (ny (cw JR)) ?_;simp only[am,aZ.af,Nd.af];refine br.intro (as2 b o s.bd[i] (jb s n)[i] iM (hgb _) (bM.2 _ (fD hi)) ⟨Ce.1,Ce.2.1⟩ Ce.2.2) ?_;simp only[am,cf];refine jx (by omega) (by omega) ?_;simp only[Dw,aN.AH h8,aN.AI h8,cu hi (by omega)];refine fm ((e.put i (lj s.bd[i] (jb s n)[i] o).1,(lj s.bd[i] (jb s n)[i] o).2)) hi ?_ ?_ ?_ ?_ ?_ ?_
          · exact Eq.mpr (aQ _ _) (dH)
          all_goals simp[hF,List.replicate,am,bu,bx,c8,V.lo,Nd.bY,bg.bY,aN.bY]
        · rintro⟨e,o⟩ hJ;have fS:=aix hJ;rw[←xF] at fS;simp only[hF,List.replicate,am,aO,dG,aO,m_];cases o with
          | some p =>
            simp only[am,Nat.reduceAdd,aN.af,DX,DW];exact done (.zero,some p) _ _ _ (by rw[fS];rfl) (hs _)
          | none =>
            simp only[am,Nat.reduceAdd,aN.af,Be];exact done (e,none) _ _ _ (by rw[fS];rfl) (hs _)
def Qq:AC:=.seq (.aa [⟨(some 2),.box 5 (.s 0),none⟩,⟨(some 3),.box 5 (.s 1),none⟩,⟨(some 4),.mv (.c (.bool false)),none⟩])
 (.seq (.seq (.aa [xf 0 7 2,xo 8 7,xf 0 9 3,xo 10 9,xb .neq 11 8 10,xm 12 11,xh 12 (xf 2 13 2),xh 12 (xo 14 13),xh 12 (xf 2 15 3),xh 12 (xo 16 15),⟨(some 17),.iG .neq (.s 14) (.s 16),(some (12,false))⟩,⟨(some 18),.pick (.s 12) (.c (.bool true)) (.s 17),none⟩,xm 19 18,xh 19 (xf 3 20 2),xh 19 (xo 21 20),xh 19 (xL 22 21),xh 19 (xf 3 23 3),xh 19 (xo 24 23),xh 19 (xL 25 24),xh 19 (xb .neq 26 22 25),⟨(some 27),.pick (.s 19) (.c (.bool true)) (.s 26),none⟩,xm 28 27,xh 28 (xf 4 29 2),xh 28 (xo 30 29),xh 28 (xL 31 30),xh 28 (xf 4 32 3),xh 28 (xo 33 32),xh 28 (xL 34 33),xh 28 (xb .neq 35 31 34),⟨(some 36),.pick (.s 28) (.c (.bool true)) (.s 35),none⟩])
 (.cond (.s 36) (.seq (.aa [⟨(some 4),.mv (.c (.bool false)),none⟩])
 (.ret))
 (.skip)))
 (.seq (.seq (.aa [xf 3 37 2,xo 38 37,xL 39 38,xi 40 0])
 (.block 0 (.loop (.seq (.aa [xb .lss 41 40 39])
 (.seq (.cond (.s 41) (.skip)
 (.exit 0))
 (.seq (.block 1 (.seq (.aa [xm 42 40,xm 5 42])
 (.seq (.draw [(xf 3 43 2,[]),(xo 44 43,[]),(xm 45 5,[]),(xA 2 46 44 45,[]),(xf 0 47 46,[]),(xo 48 47,[]),(xf 3 49 3,[]),(xo 50 49,[]),(xm 51 5,[]),(xA 2 52 50 51,[]),(xf 0 53 52,[]),(xo 54 53,[]),(⟨(some 55),.iG .neq (.s 48) (.s 54),none⟩,[])])
 (.cond (.s 55) (.seq (.aa [⟨(some 4),.mv (.c (.bool false)),none⟩])
 (.ret))
 (.skip)))))
 (.aa [xB .add 56 40 1,xm 40 56])))))))
 (.seq (.seq (.aa [xf 4 57 2,xo 58 57,xL 59 58,xi 60 0])
 (.block 2 (.loop (.seq (.aa [xb .lss 61 60 59])
 (.seq (.cond (.s 61) (.skip)
 (.exit 2))
 (.seq (.block 3 (.seq (.aa [xm 62 60,xm 6 62])
 (.seq (.draw [(xf 4 63 2,[]),(xo 64 63,[]),(xm 65 6,[]),(xA 5 66 64 65,[]),(xl 5 67 66,[]),(xf 4 68 3,[]),(xo 69 68,[]),(xm 70 6,[]),(xA 5 71 69 70,[]),(xl 5 72 71,[]),(xc 43 73 [.s 67,.s 72],[]),(⟨(some 74),.not (.s 73),none⟩,[])])
 (.cond (.s 74) (.seq (.aa [⟨(some 4),.mv (.c (.bool false)),none⟩])
 (.ret))
 (.skip)))))
 (.aa [xB .add 75 60 1,xm 60 75])))))))
 (.seq (.aa [⟨(some 4),.mv (.c (.bool true)),none⟩])
 (.ret)))))
theorem ahs:aK prog 43 Qq [.tmp 4] 76:=⟨f43,⟨[],[],[]⟩,func43,by kernel_rfl,by kernel_rfl,by kernel_rfl,by kernel_rfl⟩
def Kw (n m:Nd) (σ:ae) (i:Nat):St :=
  ⟨[.any,.any,.ptr (.loc 0) 0,.ptr (.loc 1) 0]++List.replicate 35 .any++[.int .i64 n.names.length,.int .i64 (i:Nat)]++List.replicate 35 .any,[n.enc,m.enc],σ⟩
def Kv (n m:Nd) (σ:ae) (i:Nat):St :=
  ⟨[.any,.any,.ptr (.loc 0) 0,.ptr (.loc 1) 0]++List.replicate 55 .any++[.int .i64 n.kids.length,.int .i64 (i:Nat)]++List.replicate 15 .any,[n.enc,m.enc],σ⟩
theorem Ma:∀(k:Nat) (n m:Nd) (σ:ae),n.wt≤k→n.wt≤aF→al prog 43 [.agg n.enc,.agg m.enc] σ fun v σ' => v = .bool (n.b9 m)∧σ' = σ:=by
  intro k;induction k with
  | zero=>intro n m σ h _;cases n;simp only[Nd.wt] at h;omega
  | succ k xY =>
    intro n m σ hk hw;have hn:=Dt n;have hbig:n.wt<2^62:=by simp only[aF] at hw;omega
    rw[Nd.Ax];refine ahs.calls ?_;simp only[aJ,Qq,rz,Nat.reduceAdd]
    by_cases k1:n.kind=m.kind
    case' neg =>
      simp only[am,aB k1];refine az ?_;simp[V.erase]
    simp only[am,bZ,Nd.fl,k1]
    by_cases k2:n.text=m.text
    case' neg =>
      simp only[am,aB k2];refine az ?_;simp[V.erase]
    simp only[am,aE,bZ,Nd.fl,k2]
    by_cases k3:n.names.length=m.names.length
    case' neg =>
      have k3' : ¬(n.names.length:Int)=m.names.length:=by omega
      simp only[am,aB k3']
      have:c9 n.names m.names=false:=by cases hs:c9 n.names m.names with
        | false=>rfl
        | true=>exact absurd (XL hs) k3
      refine az ?_;simp[V.erase,this]
    simp only[am,aE,bZ,Nd.fl,k3]
    by_cases k4:n.kids.length=m.kids.length
    case' neg =>
      have k4' : ¬(n.kids.length:Int)=m.kids.length:=by omega
      simp only[am,aB k4']
      have:cH n.kids m.kids=false:=by cases hs:cH n.kids m.kids with
        | false=>rfl
        | true=>exact absurd (XT hs) k4
      refine az ?_;simp[V.erase,this]
    simp only[am,aE,bZ,Nd.fl,k4];refine j6 (fun p:{i:Nat // i≤n.names.length∧c9 (n.names.take i) (m.names.take i)=true}=>Kw n m σ p.1) (fun p=>n.names.length - p.1) ?_ ?_
    · refine ba.enter ⟨0,by simp,by simp[c9]⟩ ?_ cj.rfl bG.rfl;simp[Kw,List.replicate,am,k3]
    rintro⟨i,hi,ha⟩;simp only[Kw,List.replicate,am];refine fL ?_ ?_
    · intro aj;have aj:i<n.names.length:=by simpa using aj
      obtain⟨eQ,g_⟩:=XK aj (by omega) k3 ha;simp only[am,Nd.fl];refine bD (by omega) (AR (cw aj)) ?_;simp only[am,Nd.fl,Word.enc];refine bD (by omega) (AR (cw (show i<m.names.length by omega))) ?_;simp only[am,Word.enc]
      by_cases he:n.names[i].text=m.names[i].text
      · simp only[am,bZ,he];rw[wrap_i64 (by omega) (by omega)];exact ba.again ⟨i+1,aj,by rw[eQ];exact aD he⟩ (by simp;omega) (by simp[am]) cj.rfl bG.rfl
      · simp only[am,aB he];refine az ?_;simp[V.erase,g_ (aB he)]
    intro aj;have aj:i=n.names.length:=by simp at aj;omega
    subst aj;rw[dW,k3,dW] at ha;simp only[am,aE,Nd.fl];refine j6 (fun p:{i:Nat // i≤n.kids.length∧cH (n.kids.take i) (m.kids.take i)=true}=>Kv n m σ p.1) (fun p=>n.kids.length - p.1) ?_ ?_
    · refine ba.enter ⟨0,by simp,by simp[cH]⟩ ?_ cj.rfl bG.rfl;simp[Kv,List.replicate,am,k4]
    rintro⟨i,hi,hb⟩;simp only[Kv,List.replicate,am];refine fL ?_ ?_
    · intro aj;have aj:i<n.kids.length:=by simpa using aj
      have pd:=nu (n:=n) (fD aj);obtain⟨eQ,g_⟩:=XR aj (by omega) k4 hb;simp only[am,Nd.fl];refine bD (by omega) (ny (cw aj)) ?_;simp only[am,Nd.af,Nd.fl];refine bD (by omega) (ny (cw (show i<m.kids.length by omega))) ?_;simp only[am,Nd.af];refine br.intro (xY n.kids[i] m.kids[i] _ (by omega) (by omega)) ?_;cases he:n.kids[i].b9 m.kids[i]
      · simp only[am];refine az ?_;simp[V.erase,g_ he]
      · simp only[am];rw[wrap_i64 (by omega) (by omega)];exact ba.again ⟨i+1,aj,by rw[eQ];exact he⟩ (by simp;omega) (by simp[am]) cj.rfl bG.rfl
    intro aj;have aj:i=n.kids.length:=by simp at aj;omega
    subst aj;rw[dW,k4,dW] at hb;simp only[am];refine az ?_;simp[V.erase,ha,hb]
def s1:List UInt8:=[43,40,120,44,35,123,97,44,98,125,41]
def s2:List UInt8:=[43,40,41]
def s3:List UInt8:=[91,102,61,120,44,103,61,35,104,105,124,114,93]
def Qf:AC:=.seq (.aa [⟨(some 4),.mv (.c (.bool false)),none⟩])
 (.seq (.seq (.aa [xm 6 0,xL 7 6,xm 8 1,xL 9 8,xb .neq 10 7 9])
 (.cond (.s 10) (.seq (.aa [⟨(some 4),.mv (.c (.bool false)),none⟩])
 (.ret))
 (.skip)))
 (.seq (.seq (.aa [xi 5 0])
 (.block 0 (.loop (.seq (.seq (.aa [xm 11 5,xm 12 0,xL 13 12,xb .lss 14 11 13])
 (.cond (.s 14) (.skip)
 (.exit 0)))
 (.seq (.block 1 (.seq (.draw [(xm 17 0,[]),(xm 18 5,[]),(xA 10 19 17 18,[]),(xl 10 20 19,[]),(xm 21 1,[]),(xm 22 5,[]),(xA 10 23 21 22,[]),(xl 10 24 23,[]),(⟨(some 25),.kS true [1,1,1,1,1,1,1,1,1,1] (.s 20) (.s 24),none⟩,[])])
 (.cond (.s 25) (.seq (.aa [⟨(some 4),.mv (.c (.bool false)),none⟩])
 (.ret))
 (.skip))))
 (.aa [xm 15 5,xB .add 16 15 1,xm 5 16]))))))
 (.seq (.aa [⟨(some 4),.mv (.c (.bool true)),none⟩])
 (.ret))))
theorem ahi:aK prog 33 Qf [.tmp 4] 26:=⟨f33,⟨[],[],[]⟩,func33,by kernel_rfl,by kernel_rfl,by kernel_rfl,by kernel_rfl⟩
def QJ:AC:=.seq (.aa [⟨(some 2),.box 2 (.s 0),none⟩,xi 4 0,xi 5 0])
 (.seq (.aa [xi 6 (-1),xi 7 (-1)])
 (.seq (.seq (.aa [xf 0 10 2,xo 11 10,xL 12 11,xi 13 0])
 (.block 0 (.loop (.seq (.aa [xb .lss 14 13 12])
 (.seq (.cond (.s 14) (.skip)
 (.exit 0))
 (.seq (.block 1 (.seq (.aa [xm 15 13,xm 8 15])
 (.seq (.aa [xm 16 6,xB .lss 17 16 0,xm 18 17,xg 18 (xf 0 19 2),xg 18 (xo 20 19),xg 18 (xm 21 8),xg 18 (xA 3 22 20 21),xg 18 (xf 0 23 22),xg 18 (xo 24 23),xg 18 (xm 25 1),⟨(some 26),.iG .eql (.s 24) (.s 25),(some (18,true))⟩,⟨(some 27),.pick (.s 18) (.s 26) (.c (.bool false)),none⟩])
 (.cond (.s 27) (.aa [xm 28 8,xm 6 28])
 (.skip)))))
 (.aa [xB .add 29 13 1,xm 13 29])))))))
 (.seq (.seq (.aa [xf 1 30 2,xo 31 30,xL 32 31,xi 33 0])
 (.block 2 (.loop (.seq (.aa [xb .lss 34 33 32])
 (.seq (.cond (.s 34) (.skip)
 (.exit 2))
 (.seq (.block 3 (.seq (.aa [xm 35 33,xm 9 35])
 (.seq (.aa [xm 36 7,xB .lss 37 36 0,xm 38 37,xg 38 (xf 1 39 2),xg 38 (xo 40 39),xg 38 (xm 41 9),xg 38 (xA 3 42 40 41),xg 38 (xf 0 43 42),xg 38 (xo 44 43),xg 38 (xm 45 1),⟨(some 46),.iG .eql (.s 44) (.s 45),(some (38,true))⟩,⟨(some 47),.pick (.s 38) (.s 46) (.c (.bool false)),none⟩])
 (.cond (.s 47) (.aa [xm 48 9,xm 7 48])
 (.skip)))))
 (.aa [xB .add 49 33 1,xm 33 49])))))))
 (.seq (.aa [xm 50 6,xm 51 7,xm 4 50,xm 5 51])
 (.ret)))))
theorem ahL:aK prog 63 QJ [.tmp 4,.tmp 5] 52:=⟨f63,⟨[],[],[]⟩,func63,by kernel_rfl,by kernel_rfl,by kernel_rfl,by kernel_rfl⟩
def Ou:AC:=.seq (.aa [⟨(some 3),.box 2 (.s 0),none⟩,⟨(some 5),.box 5 (.s 2),none⟩,⟨(some 6),.alloc vF,none⟩,⟨(some 7),.mv (.c (.bool false)),none⟩])
 (.seq (.seq (.aa [xf 0 10 5,xo 11 10,xB .eql 12 11 1])
 (.cond (.s 12) (.seq (.aa [xl 2 13 3,xm 14 1,xf 2 15 5,xo 16 15,xc 174 17 [.s 13,.s 14,.s 16],xe 18 17 0,xe 19 17 1,xs 10 6 18,xm 7 19])
 (.ret))
 (.skip)))
 (.seq (.tu [8,9] [(xf 0 21 3,[]),(xo 22 21,[]),(xm 23 1,[]),(xA 3 24 22 23,[]),(xf 1 25 24,[]),(xl 2 26 25,[]),(xf 4 27 5,[]),(xo 28 27,[]),(⟨(some 29),.kv 5 (.s 28) (.c (.int .i64 0)),none⟩,[]),(xl 5 30 29,[]),(xc 125 31 [.s 26,.s 30],[]),(xm 20 31,[]),(xe 32 20 0,[]),(xe 33 20 1,[]),(⟨none,.mv (.c .any),none⟩,[]),(⟨none,.mv (.c .any),none⟩,[]),(⟨(some 8),.kf 8 (.s 32),none⟩,[]),(⟨(some 9),.kf 2 (.s 33),none⟩,[])])
 (.seq (.draw [(xl 8 34 8,[]),(⟨(some 35),.build vF [(0,1,(.c (.int .i64 2))),(2,8,(.s 34))],none⟩,[]),(xf 0 36 9,[]),(xo 37 36,[1]),(xB .eql 38 37 0,[]),(xs 10 6 35,[]),(xm 7 38,[])])
 (.ret))))
theorem afE:aK prog 124 Ou [.cell 6 true 10,.tmp 7] 39:=⟨f124,⟨[],[],[]⟩,func124,by kernel_rfl,by kernel_rfl,by kernel_rfl,by kernel_rfl⟩
def O2:AC:=.seq (.aa [⟨(some 3),.box 2 (.s 0),none⟩,⟨(some 6),.alloc vF,none⟩,⟨(some 7),.mv (.c (.bool false)),none⟩])
 (.seq (.aa [xl 2 11 3,xm 12 2,xc 63 13 [.s 11,.s 12],xm 10 13,xe 14 10 0,xe 15 10 1,xm 8 14,xm 9 15])
 (.seq (.seq (.aa [xm 16 9,xB .lss 17 16 0,xm 18 17,xh 18 (xf 1 19 3),xh 18 (xo 20 19),xh 18 (xm 21 9),xh 18 (xA 3 22 20 21),xh 18 (xf 1 23 22),xh 18 (xo 24 23),xh 18 (xB .neq 25 24 1),⟨(some 26),.pick (.s 18) (.c (.bool true)) (.s 25),none⟩,xm 27 26,xh 27 (xf 1 28 3),xh 27 (xo 29 28),xh 27 (xm 30 9),xh 27 (xA 3 31 29 30),xh 27 (xf 2 32 31),xh 27 (xo 33 32),xh 27 (xm 34 1),xh 27 (xb .neq 35 33 34),⟨(some 36),.pick (.s 27) (.c (.bool true)) (.s 35),none⟩])
 (.cond (.s 36) (.seq (.aa [⟨(some 37),.build vF [],none⟩,xs 10 6 37,⟨(some 7),.mv (.c (.bool false)),none⟩])
 (.ret))
 (.skip)))
 (.seq (.aa [xm 38 9,⟨(some 39),.build vF [(0,1,(.c (.int .i64 1))),(1,1,(.s 38))],none⟩,xs 10 6 39,⟨(some 7),.mv (.c (.bool true)),none⟩])
 (.ret))))
theorem af8:aK prog 174 O2 [.cell 6 true 10,.tmp 7] 40:=⟨f174,⟨[],[],[]⟩,func174,by kernel_rfl,by kernel_rfl,by kernel_rfl,by kernel_rfl⟩
theorem Ad {l:List dX} {j:Nat} (h:j<l.length):(l.map dX.enc)[((j:Nat):Int).toNat]?=some l[j].enc:=by simp[h]
theorem AL {l:List df} {j:Nat} (h:j<l.length):(l.map df.enc)[((j:Nat):Int).toNat]?=some l[j].enc:=by simp[h]
theorem uv (s:au) (t:List UInt8) (σ:ae) (h1:s.bj.length≤100000) (U:s.vars.length≤100000) :
    al prog 63 [.agg s.enc,.str t] σ fun v σ' => v = .aX [.int .i64 (cF (iI s.bj t)),.int .i64 (cF (jq s.vars t))]∧σ' = σ:=by
  refine ahL.calls ?_;simp only[aJ,QJ,am,aR,Nat.reduceAdd,au.af,aE];rw[iI,jq];generalize hpL:La s.bj t=pL;generalize hpV:Lb s.vars t=pV;have eL:∀i (hi:i<s.bj.length),pL i=decide (s.bj[i].name=t):=fun i hi=>by rw[←hpL];simp only[La,cw hi]
  have eV:∀i (hi:i<s.vars.length),pV i=decide (s.vars[i].name=t):=fun i hi=>by rw[←hpV];simp only[Lb,cw hi]
  obtain⟨F,hF⟩:∃F:Nat→Unit→St,∀i x,F i x=⟨[.any,.str t,.ptr (.loc 0) 0,.any,.any,.any,.int .i64 (cF ((List.range i).find? pL)),.int .i64 (-1),.any,.any,.any,.sl .no 3 (s.bj.map dX.enc),.int .i64 (s.bj.length:Nat),.int .i64 (i:Nat)]++List.replicate 38 .any,[s.enc],σ⟩:=⟨_,fun _ _=>rfl⟩;obtain⟨JF,aQ⟩:∃JF:Nat→Unit→Prop,∀i x,JF i x=(True):=⟨_,fun _ _=>rfl⟩;refine dC (s.bj.length) F JF _ aQ ?_ ?_ ?_
  · refine en (()) ?_ ?_ ?_ ?_
    · exact Eq.mpr (aQ _ _) (trivial)
    all_goals simp[hF,List.replicate,am,bu,cF]
  · rintro i x hi -;simp only[hF,List.replicate,am,dB hi,An];cases hf:(List.range i).find? pL with
    | some k =>
      simp only[am,aO,Bd,cu hi (by omega)];refine nxt (()) hi ?_ ?_ ?_ ?_
      · exact Eq.mpr (aQ _ _) (trivial)
      all_goals simp[hF,List.replicate,am,bu,rK,A6,hf]
    | none =>
      simp only[am,au.af,yZ];refine bD (by omega) (Ad hi) ?_;simp only[am,au.af];rw[←eL i hi];cases hb:pL i with
      | false =>
        simp only[am,aO,cu hi (by omega)];refine nxt (()) hi ?_ ?_ ?_ ?_
        · exact Eq.mpr (aQ _ _) (trivial)
        all_goals simp[hF,List.replicate,am,bu,rK,A6,hf,hb]
      | true =>
        simp only[am,aO,cu hi (by omega)];refine nxt (()) hi ?_ ?_ ?_ ?_
        · exact Eq.mpr (aQ _ _) (trivial)
        all_goals simp[hF,List.replicate,am,bu,rK,A6,hf,hb,cF]
  · rintro x -;simp only[hF,List.replicate,am,aO,dG,aO,au.af,aE];clear hF aQ F JF;obtain⟨F,hF⟩:∃F:Nat→Unit→St,∀i x,F i x=⟨[.any,.str t,.ptr (.loc 0) 0,.any,.any,.any,.int .i64 (cF ((List.range s.bj.length).find? pL)),.int .i64 (cF ((List.range i).find? pV)),.any,.any,.any,.any,.any,.any,.any,.any,.any,.any,.any,.any,.any,.any,.any,.any,.any,.any,.any,.any,.any,.any,.any,.sl .no 3 (s.vars.map df.enc),.int .i64 (s.vars.length:Nat),.int .i64 (i:Nat)]++List.replicate 18 .any,[s.enc],σ⟩:=⟨_,fun _ _=>rfl⟩;obtain⟨JF,aQ⟩:∃JF:Nat→Unit→Prop,∀i x,JF i x=(True):=⟨_,fun _ _=>rfl⟩;refine dC (s.vars.length) F JF _ aQ ?_ ?_ ?_
    · refine en (()) ?_ ?_ ?_ ?_
      · exact Eq.mpr (aQ _ _) (trivial)
      all_goals simp[hF,List.replicate,am,bu,cF]
    · rintro i x hi -;simp only[hF,List.replicate,am,dB hi,An];cases hf:(List.range i).find? pV with
      | some k =>
        simp only[am,aO,Bd,cu hi (by omega)];refine nxt (()) hi ?_ ?_ ?_ ?_
        · exact Eq.mpr (aQ _ _) (trivial)
        all_goals simp[hF,List.replicate,am,bu,rK,A6,hf]
      | none =>
        simp only[am,au.af,yZ];refine bD (by omega) (AL hi) ?_;simp only[am,au.af];rw[←eV i hi];cases hb:pV i with
        | false =>
          simp only[am,aO,cu hi (by omega)];refine nxt (()) hi ?_ ?_ ?_ ?_
          · exact Eq.mpr (aQ _ _) (trivial)
          all_goals simp[hF,List.replicate,am,bu,rK,A6,hf,hb]
        | true =>
          simp only[am,aO,cu hi (by omega)];refine nxt (()) hi ?_ ?_ ?_ ?_
          · exact Eq.mpr (aQ _ _) (trivial)
          all_goals simp[hF,List.replicate,am,bu,rK,A6,hf,hb,cF]
    · rintro x -;simp only[hF,List.replicate,am,aO,dG,aO];refine az ?_;simp[V.erase,a9]
theorem ae3 {l:List df} {t:List UInt8} {k:Nat} (h:jq l t=some k):k<l.length:=(EI h).1
def Cs (o:Option a7):V:=.aX [.agg (match o with | some i=>i | none=>a7.zero).enc,.bool o.isSome]
def atO:=And.intro @am <| And.intro @aR <| And.intro @au.af @a7.af
theorem asj (s:au) (lat:Nat) (t:List UInt8) (σ:ae) (h1:s.bj.length≤100000) (U:s.vars.length≤100000) :
    al prog 174 [.agg s.enc,.int .i64 (lat:Nat),.str t] σ fun v σ' => v=Cs (uH s lat t)∧σ' = σ:=by
  refine af8.calls ?_;simp only[aJ,O2,atO,Nat.reduceAdd];have no:∀(u:List V) (l:List (List V)),uH s lat t=none→nU (fun v σ' => v=Cs (uH s lat t)∧σ' = σ) ⟨u,l,σ⟩ (.aX [.agg a7.zero.enc,.bool false]):=fun u l h=>by
    rw[h];exact aG (by simp[V.cc,bm,a7.cN]) (ae.aW _) ⟨by simp[Cs,V.erase,a9,a7.cM],rfl⟩
  refine cl (uv s t σ h1 U) ?_;simp only[am,An];cases hf:jq s.vars t with
  | none =>
    simp only[am,a7.af,yZ];exact no _ _ (by simp only[uH,hf])
  | some k =>
    have hk:=ae3 hf;have hv:s.vars[k]?=some s.vars[k]:=cw hk;simp only[am,au.af,Bd,cF];refine bD (by omega) (AL hk) ?_;simp only[am,au.af]
    by_cases e1:s.vars[k].kind=1
    · simp only[am,au.af,aD e1];refine bD (by omega) (AL hk) ?_;simp only[am,au.af]
      by_cases e2:s.vars[k].lat=(lat:Nat)
      · have e:uH s lat t=some ⟨1,k,.zero⟩:=by simp only[uH,hf,hv];rw[ak ⟨e1,e2⟩]
        simp only[am,a7.af,aD e2];exact aG (by simp[V.cc,bm,a7.cN]) (ae.aW _) ⟨by simp[e,Cs,V.erase,a9,a7.cM,a7.zero],rfl⟩
      · simp only[am,a7.af,aB e2];exact no _ _ (by simp only[uH,hf,hv];rw[ah (fun h=>e2 h.2)])
    · simp only[am,a7.af,aB e1];exact no _ _ (by simp only[uH,hf,hv];rw[ah (fun h=>e1 h.1)])
theorem Mn {s:au} {lat:Nat} (h:lat<s.bj.length):sQ s lat=s.bj[lat].shape:=by simp only[sQ,cw h]
theorem ala {s:au} {lat:Nat} {n:Nd} (h1:n.kind≠1) {e:aN} (he:gF (sQ s lat) (n.kids.getD 0 ja)=(e,none)):l_ s lat n=some ⟨2,0,e⟩:=by rw[l_,ah h1,he]
theorem ak_ {s:au} {lat:Nat} {n:Nd} (h1:n.kind≠1) {e:aN} {p:Int} (he:gF (sQ s lat) (n.kids.getD 0 ja)=(e,some p)):l_ s lat n=none:=by rw[l_,ah h1,he]
theorem LB {s:bg} {n:Nd} (hc:n.bS≤100000):∀k∈jb s n,k.names.length≤100000∧k.kids.length≤100000∧∀m∈k.kids,m.names.length≤100000:=by
  intro k hk;have B':k.bS≤n.bS:=by
    unfold jb at hk;split at hk
    · exact HS (oQ hk)
    · rw[lS.1 hk];exact bt _
  have h1:=Bs k;have U:=wT k;refine⟨by omega,by omega,fun m hm=>?_⟩
  have:=oQ hm
  have:=Bs m
  omega
theorem aov {s:bg} {n:Nd} (hc:n.bS≤100000):∀k∈jb s n,Nd.ok k:=fun k hk=>by
  obtain⟨h1,U,h3⟩:=LB hc k hk;exact⟨by omega,by omega,fun m hm=>by have:=h3 m hm;omega⟩
def Hm:=And.intro @am <| And.intro @aR <| And.intro @Nd.af <| And.intro @Nd.fl <| And.intro @au.af @a7.af
theorem alb (s:au) (lat:Nat) (n:Nd) {σ:ae} (hg:TZ σ) (hs:s.ok) (lZ:lat<s.bj.length) (hc:n.bS≤100000) (hw:n.wt≤aF) (hl:n.dS=true) (hk:n.kind=1∨n.kind=7) :
    al prog 124 [.agg s.enc,.int .i64 (lat:Nat),.agg n.enc] σ fun v σ' => (∃i:a7,v = .aX [.agg i.enc,.bool (l_ s lat n).isSome]∧∀j,l_ s lat n=some j→i=j)∧σ' = σ:=by
  refine afE.calls ?_;simp only[aJ,Ou,Hm,Nat.reduceAdd]
  by_cases h1:n.kind=1
  · simp only[am,Nd.fl,au.af,aD h1];refine cl (asj s lat n.text σ hs.1 hs.2.1) ?_;simp only[am,a7.af,Cs];refine aG (by simp[V.cc,bm,a7.cN]) (ae.aW _) ⟨⟨_,by rw[l_,ak h1];simp[V.erase,a9,a7.cM];rfl,fun j hj=>?_⟩,rfl⟩;rw[l_,ak h1] at hj;rw[hj]
  · have h7:n.kind=7:=by simpa [h1] using hk
    have vv:=Cz hl h7;have hm:n.kids[0]∈n.kids:=fD _;have vz:=oQ hm;have vA:=nu hm;simp only[am,Nat.reduceAdd,bZ,Nat.reduceLT,au.af,aB h1];refine bD (by omega) (Ad lZ) ?_;simp only[am,Nd.fl,au.af];refine bD (n:=0) (by omega) (ny (j:=0) (cw (by omega))) ?_;simp only[am,bg.af,Nd.af];refine br.intro (ID s.bj[lat].shape n.kids[0] hg (hs.2.2 _ (fD lZ)) (aov (by omega)) (by omega)) ?_;obtain⟨e,he⟩:∃e,gF s.bj[lat].shape n.kids[0]=e:=⟨_,rfl⟩;rw[he];have Fh : gF (sQ s lat) (n.kids.getD 0 ja)=e:=by rw[Mn lZ,oX (by omega)];exact he
    simp only[am,Nat.reduceAdd,aN.af,a7.af,r_];obtain⟨e,o⟩:=e;cases o with
    | none =>
      have vw:=ala h1 Fh;simp only[am,bZ,Be];exact aG (by simp[V.cc,bm,a7.cN]) (ae.aW _) ⟨⟨⟨2,0,e⟩,by rw[vw];simp[V.erase,a9,a7.cM];rfl,fun j hj=>by rw[vw] at hj;cases hj;rfl⟩,rfl⟩
    | some p =>
      have vw:=ak_ h1 Fh;simp only[am,fh,Int.reduceEq,DX];exact aG (by simp[V.cc,bm,a7.cN]) (ae.aW _) ⟨⟨⟨2,0,e⟩,by rw[vw];simp[V.erase,a9,a7.cM];rfl,fun j hj=>by rw[vw] at hj;simp at hj⟩,rfl⟩
theorem RW {l:List a7} {j:Nat} (h:j<l.length):(l.map a7.enc)[((j:Nat):Int).toNat]?=some l[j].enc:=by simp[h]
theorem aqJ (a b:List a7) (σ:ae) (ha:a.length≤100000) (hb:b.length≤100000):al prog 33 [.sl .no 10 (a.map a7.enc),.sl .no 10 (b.map a7.enc)] σ fun v σ' => v = .bool (decide (a=b))∧σ' = σ:=by
  refine ahi.calls ?_;simp only[aJ,Qf,am,aR,Nat.reduceAdd,aE]
  by_cases aI:a.length=b.length
  · simp only[am,aD (show (a.length:Int)=b.length by omega)];obtain⟨F,hF⟩:∃F:Nat→Unit→St,∀i x,F i x=⟨[.sl .no 10 (a.map a7.enc),.sl .no 10 (b.map a7.enc),.any,.any,.any,.int .i64 (i:Nat)]++List.replicate 20 .any,[],σ⟩:=⟨_,fun _ _=>rfl⟩;obtain⟨JF,aQ⟩:∃JF:Nat→Unit→Prop,∀i x,JF i x=(∀k,k<i→a[k]?=b[k]?):=⟨_,fun _ _=>rfl⟩;refine dC (a.length) F JF _ aQ ?_ ?_ ?_
    · refine en (()) ?_ ?_ ?_ ?_
      · exact Eq.mpr (aQ _ _) (by intro k h;omega)
      all_goals simp[hF,List.replicate,am,bu]
    · rintro i x hi hJ;have Fp:i<b.length:=by omega
      simp only[hF,List.replicate,am,dB hi,aE];refine bD (by omega) (RW hi) ?_;simp only[am,a7.af];refine bD (by omega) (RW Fp) ?_;simp only[am,a7.af]
      by_cases h:a[i]=b[i]
      · simp only[am,aO,aD h,cu hi (by omega)];refine nxt (()) hi ?_ ?_ ?_ ?_
        · exact Eq.mpr (aQ _ _) (y8 hJ (by rw[cw hi,cw Fp,h]))
        all_goals simp[hF,List.replicate,am,bu]
      · have e:a≠b:=fun e=>h (by subst e;rfl)
        simp only[am,aO,aB h];refine az ?_;simp[V.erase,e]
    · rintro x hJ;have e:a=b:=by
        refine HJ aI fun k h1 U=>?_
        have:=hJ k h1
        rwa [cw h1,cw U,aH] at this
      simp only[hF,List.replicate,am,aO,dG,aO,aE];refine az ?_;simp[V.erase,e]
  · have e:a≠b:=fun e=>aI (by rw[e])
    simp only[am,aB (show ¬(a.length:Int)=b.length by omega)];refine az ?_;simp[V.erase,e]
def Iq (o:Option (List a7)):V:=.aX [.sl .no 10 ((o.getD []).map a7.enc),.bool o.isSome]
theorem acb {s:au} {lat:Nat} {n:Nd} (h1:lat<s.bj.length) (U:n.dS=true):ln s (lat:Nat) n=lV s lat n:=by
  rw[ln,ak ⟨by omega,by omega,U⟩];rfl
def QK:AC:=.seq (.aa [⟨(some 3),.box 2 (.s 0),none⟩,⟨(some 5),.box 5 (.s 2),none⟩,⟨(some 6),.mv (.c (.sl .full 10 [])),none⟩,⟨(some 7),.mv (.c (.bool false)),none⟩])
 (.scope (.seq (.seq (.aa [xm 15 1,xB .lss 16 15 0,xm 17 16,xh 17 (xm 18 1),xh 17 (xf 0 19 3),xh 17 (xo 20 19),xh 17 (xL 21 20),xh 17 (xb .geq 22 18 21),⟨(some 23),.pick (.s 17) (.c (.bool true)) (.s 22),none⟩,xm 24 23,xh 24 (xl 5 25 5),xh 24 (xc 123 26 [.s 25]),⟨(some 27),.not (.s 26),(some (24,false))⟩,⟨(some 28),.pick (.s 24) (.c (.bool true)) (.s 27),none⟩])
 (.cond (.s 28) (.seq (.aa [⟨(some 6),.mv (.c (.sl .full 10 [])),none⟩,⟨(some 7),.mv (.c (.bool false)),none⟩])
 (.ret))
 (.skip)))
 (.seq (.aa [⟨(some 8),.mv (.c (.sl .full 10 [])),none⟩])
 (.seq (.aa [xl 5 29 5,⟨(some 30),.build [(.int .i64 0),(.int .i64 0),(.str []),(.sl .full 2 []),(.sl .full 5 []),(.int .i64 0)] [(0,5,(.s 29))],none⟩,⟨(some 31),.own (.new 6) [(.s 30)],none⟩,xm 9 31])
 (.seq (.skip)
 (.seq (.block 0 (.loop (.seq (.seq (.aa [xm 32 9,⟨(some 33),.own .len [(.s 32)],none⟩,xB .gtr 34 33 0])
 (.cond (.s 34) (.skip)
 (.exit 0)))
 (.block 1 (.seq (.aa [xm 35 9,⟨(some 36),.own .len [(.s 35)],none⟩,xB .sub 37 36 1,xm 10 37])
 (.seq (.aa [xm 38 9,xm 39 10,⟨(some 40),.own (.idx 6) [(.s 38),(.s 39)],none⟩,xl 6 41 40,⟨(some 11),.alloc [(.int .i64 0),(.int .i64 0),(.str []),(.sl .full 2 []),(.sl .full 5 []),(.int .i64 0)],none⟩,xs 6 11 41])
 (.seq (.aa [xi 12 3])
 (.seq (.seq (.aa [xf 0 42 11,xf 0 43 42,xo 44 43])
 (.block 2 (.seq (.seq (.aa [xB .eql 46 44 1,xm 45 46])
 (.cond (.s 45) (.skip)
 (.aa [xB .eql 47 44 7,xm 45 47])))
 (.cond (.s 45) (.seq (.aa [xl 2 49 3,xm 50 1,xf 0 51 11,xl 5 52 51,xc 124 53 [.s 49,.s 50,.s 52],xm 48 53,xe 54 48 0,xe 55 48 1,⟨(some 13),.alloc vF,none⟩,xs 10 13 54,xm 14 55])
 (.seq (.seq (.aa [xm 56 14,⟨(some 57),.not (.s 56),none⟩])
 (.cond (.s 57) (.seq (.aa [⟨(some 6),.mv (.c (.sl .full 10 [])),none⟩,⟨(some 7),.mv (.c (.bool false)),none⟩])
 (.ret))
 (.skip)))
 (.seq (.aa [xm 58 8,xl 10 59 13,⟨(some 60),.cR 10 [(.s 59)],none⟩,xa 10 61 58 60,xm 8 61])
 (.seq (.aa [xm 62 9,xm 63 10,⟨(some 64),.own (.lg 6 false true false) [(.s 62),(.s 63)],none⟩,xm 9 64])
 (.exit 1)))))
 (.seq (.aa [xB .eql 66 44 9,xm 65 66])
 (.cond (.s 65) (.aa [xi 12 4])
 (.skip)))))))
 (.seq (.seq (.aa [xf 5 67 11,xo 68 67,xf 0 69 11,xf 4 70 69,xo 71 70,xL 72 71,xb .lss 73 68 72])
 (.cond (.s 73) (.seq (.aa [xm 74 9,xm 75 10,⟨(some 76),.own (.idx 6) [(.s 74),(.s 75)],none⟩,xf 5 77 76,xo 78 77,xB .add 79 78 1,⟨(some 80),.own (.idx 6) [(.s 74),(.s 75)],none⟩,xf 5 81 80,xs 1 81 79])
 (.seq (.aa [xm 82 9,xf 0 83 11,xf 4 84 83,xo 85 84,xf 5 86 11,xo 87 86,xA 5 88 85 87,xl 5 89 88,⟨(some 90),.build [(.int .i64 0),(.int .i64 0),(.str []),(.sl .full 2 []),(.sl .full 5 []),(.int .i64 0)] [(0,5,(.s 89))],none⟩,⟨(some 91),.cR 6 [(.s 90)],none⟩,⟨(some 92),.own (.app 6) [(.s 82),(.s 91)],none⟩,xm 9 92])
 (.exit 1)))
 (.skip)))
 (.seq (.aa [xm 93 8,xm 94 12,xf 0 95 11,xf 4 96 95,xo 97 96,xL 98 97,⟨(some 99),.build vF [(0,1,(.s 94)),(1,1,(.s 98))],none⟩,⟨(some 100),.cR 10 [(.s 99)],none⟩,xa 10 101 93 100,xm 8 101])
 (.aa [xm 102 9,xm 103 10,⟨(some 104),.own (.lg 6 false true false) [(.s 102),(.s 103)],none⟩,xm 9 104])))))))))))
 (.seq (.aa [xm 105 8,xm 6 105,⟨(some 7),.mv (.c (.bool true)),none⟩])
 (.ret))))))))
theorem ahM:aK prog 64 QK [.tmp 6,.tmp 7] 106:=⟨f64,⟨[33,36,40,64,76,80,92,104,100031],[],[]⟩,func64,by kernel_rfl,by kernel_rfl,by kernel_rfl,by kernel_rfl⟩
def fj (f:Nd × Nat):List V:=f.1.enc++[.int .i64 (f.2:Nat)]
section
variable {m:Nd} {d k:Nat} {x0 x1 x2 x3 x4 x5:V}
theorem oW:fj (m,d)=[.int .i64 m.kind,.int .i64 m.pos,.str m.text,.sl .no 2 (m.names.map Word.enc),.sl .no 5 (m.kids.map Nd.enc),.int .i64 (d:Nat)]:=by rw[fj,Nd.cD];rfl
theorem zt:(fj (m,d)).length=6:=by rw[oW];rfl
theorem S9:bE (fj (m,d))=true:=by rw[oW];rfl
theorem EO:bm (fj (m,d))=true:=by rw[oW];rfl
theorem ah4:a9 (fj (m,d))=fj (m,d):=by rw[oW];rfl
theorem ah8:bx k (fj (m,d))=true:=by rw[oW];rfl
theorem ah_:over [x0,x1,x2,x3,x4,x5] (fj (m,d))=fj (m,d):=by rw[oW];rfl
theorem ah6:bf false 1 (fj (m,d))=some (.int .i64 m.kind):=by rw[oW];rfl
theorem ah7:bf false 1 ((fj (m,d)).drop 4)=some (.sl .no 5 (m.kids.map Nd.enc)):=by rw[oW];rfl
theorem ah3:bf false 1 ((fj (m,d)).drop 5)=some (.int .i64 (d:Nat)):=by rw[oW];rfl
theorem ah9:takeN 5 (fj (m,d))=some m.enc:=MA Nd.b_
theorem ah2:over [x0,x1,x2,x3,x4,.int .i64 0] m.enc=fj (m,0):=by rw[oW,Nd.cD];rfl
theorem ah5:bI 5 [x0,x1,x2,x3,x4,x5]=true:=rfl
theorem ah':setAt (fj (m,d)) 5 [.int .i64 (k:Nat)]=fj (m,k):=by rw[oW,oW];rfl
def tF:=And.intro @zt <| And.intro @S9 <| And.intro @EO <| And.intro @ah4 <| And.intro @ah8 <| And.intro @ah_ <| And.intro @ah6 <| And.intro @ah7 <| And.intro @ah3 <| And.intro @ah9 <| And.intro @ah2 @ah5
end
structure CF (s:au) (lat:Nat) (n:Nd) (σ:ae) where
  fs:List (Nd × Nat)
  out:List a7
  v:V
  tk:Tk
  st:ae
  fin:pO s lat fs out=lV s lat n
  all:∀f∈fs,f.1.dS=true∧f.1.wt≤n.wt∧f.1.bS≤n.bS
  mes:out.length+nw fs≤2*n.bS+1
  own:dz st 6 v (fs.reverse.map fj)
  sub:y3 σ st v
  gr:Gr σ st tk out.length
def Ab (s:au) (lat:Nat) (n:Nd) (out:List a7) (v:V) (tk:Tk) (σ:ae):St :=
  ⟨[.any,.int .i64 (lat:Nat),.any,.ptr (.loc 0) 0,.any,.ptr (.loc 1) 0,.any,.any,.sl tk 10 (out.map a7.enc),v]++List.replicate 96 .any,[s.enc,n.enc],σ⟩
theorem Lv {σ:ae} {k n:Nat} {v:V} {rows:List (List V)} (h:dz σ k v rows):v.lo n=true:=by obtain⟨a,cap,rfl,_⟩:=h;rfl
theorem Wg {σ σ' : ae} {k:Nat} {v:V} {rows:List (List V)} (h:dz σ k v rows) (e:σ'.box=σ.box):dz σ' k v rows:=h.frame fun b cs _ hc=>by rw[e];exact hc
theorem aiI {cC σ σ' : ae} {tk:Tk} {n:Nat} (h:Gr cC σ tk n) (hs:cC.sub σ') (e:σ'.aC=σ.aC):Gr cC σ' tk n:=⟨hs,h.tk.imp id fun⟨τ,a,b,c⟩=>⟨τ,a,by rw[e];exact b,c⟩⟩
theorem VM:∀(fs:List (Nd × Nat)),fs.length≤nw fs
  | []=>bt _
  | f::fs=>by have:=VM fs;simp only[nw,cG];omega
def atP:=And.intro @am <| And.intro @cf <| And.intro @aR <| And.intro @Nd.af <| And.intro @au.af @a7.af
theorem aby (s:au) (lat:Int) (n:Nd) {σ:ae} (hg:TZ σ) (hs:s.ok) (hw:n.wt≤aF) (hc:n.bS≤100000) :
    al prog 64 [.agg s.enc,.int .i64 lat,.agg n.enc] σ fun v σ' => v=Iq (ln s lat n)∧σ' = σ:=by
  refine ahM.calls ?_;simp only[aJ,QK,atP,Nat.reduceAdd];have no:∀(u:List V) (l:List (List V)) (dq:ae),ln s lat n=none→σ.sub dq→nU (fun v σ' => v=Iq (ln s lat n)∧σ' = σ) ⟨u,l,dq⟩ (.aX [.sl .full 10 [],.bool false]):=fun u l dq h h' => by
    rw[h];exact aG rfl h' ⟨rfl,rfl⟩
  by_cases hn:lat<0
  · simp only[am,cf,aD hn];exact no _ _ _ (by rw[ln,ah (by omega)]) (ae.aW _)
  · obtain⟨lat,rfl⟩:∃m:Nat,lat=m:=⟨lat.toNat,by omega⟩;simp only[am,aE,au.af,aE,aB hn]
    by_cases lZ:s.bj.length≤lat
    · simp only[am,cf,aD (show (s.bj.length:Int)≤(lat:Nat) by omega)];exact no _ _ _ (by rw[ln,ah (by omega)]) (ae.aW _)
    · have aj:lat<s.bj.length:=by omega
      simp only[am,Nd.af,aB (show ¬(s.bj.length:Int)≤(lat:Nat) by omega)];refine cl (CC _ n σ (bt _) hw) ?_;cases hl:n.dS with
      | false =>
        simp only[am,cf];exact no _ _ _ (by rw[ln,hl,ah (by simp)]) (ae.aW _)
      | true =>
        have hR:=acb aj hl;simp only[am,mY,Nd.af,tF];refine dz.mk1 (c:=fj (n,0)) (by simp[vL,V.cells,zt,EO,S9,V.wd]) zt EO fun v dq hO hS=>?_
        simp only[am];obtain⟨I,hI⟩:∃I:CF s lat n σ→St,∀p,I p=Ab s lat n p.out p.v p.tk p.st:=⟨_,fun _=>rfl⟩;refine j6 I (fun p=>nw p.fs) ?_ ?_
        · refine ba.enter (I:=I) ⟨[(n,0)],[],v,.full,dq,by simp only[pO,W8];cases lV s lat n<;>rfl,by simp[hl],?_,by simpa using hO,hS,⟨hS.sub,.inl rfl⟩⟩ ?_ ?_ ?_
          · have:=Nd.qB n
            simp only[nw,DH,dv];omega
          all_goals simp[hI,Ab,List.replicate,am,bu]
        · rintro⟨fs,out,v,tk,dq,qK,b8,Fs,hO,hS,hG⟩;simp only[hI,Ab,List.replicate,am,mY];have hml:=VM fs;refine hO.len ?_;cases fs with
          | nil =>
            have e:lV s lat n=some out:=by rw[←qK];rfl
            simp only[am,cf,List.reverse_nil,dp,dv,show decide ((0:Int)<((0:Nat):Int))=false from rfl];exact aG rfl hG.sub ⟨by rw[hR,e];rfl,rfl⟩
          | cons f fs =>
            obtain⟨m,d⟩:=f;obtain⟨Ft,vA,vz⟩:=b8 (m,d) (by simp);simp only at Ft vA vz;have dR:(List.map fj ((m,d)::fs).reverse).length=fs.length+1:=by simp
            have eQ:(List.map fj ((m,d)::fs).reverse)[fs.length]?=some (fj (m,d)):=by simp
            have UA:(List.map fj ((m,d)::fs).reverse).take fs.length=List.map fj fs.reverse:=by simp
            have Ca:fs.length+1≤2*n.bS+1:=by simp only[cG] at hml;omega
            have vt:TZ dq:=hG.sub.2.2 _ _ hg;simp only[am,mY,dR,show decide ((0:Int)<((fs.length+1:Nat):Int))=true from aD (by omega)];refine hO.len ?_;simp only[am,mY,dR];rw[wrap_i64 (by omega) (by omega),show ((fs.length+1:Nat):Int) - 1=(fs.length:Nat) by omega];refine hO.idx (by omega) (j:=(fs.length:Nat)) (c:=fj (m,d)) (by rw[iP];exact eQ) fun b cs rest hb hcs JG=>?_
            rw[iP] at JG ⊢;have tU:takeN 6 (cs.drop (fs.length*6))=some (fj (m,d)):=by rw[JG];exact MA zt
            simp only[am,Nat.reduceAdd,hcs,tU,tF]
            by_cases hk:m.kind=1∨m.kind=7
            · have l9:(decide (m.kind=1)=true)∨(decide (m.kind=1)=false∧decide (m.kind=7)=true):=by
                by_cases h1:m.kind=1
                · exact .inl (aD h1)
                · exact .inr ⟨aB h1,aD (by simpa [h1] using hk)⟩
              have vw:=ap3 (s:=s) (lat:=lat) (d:=d) (fs:=fs) (out:=out) hk;rw[vw] at qK
              rcases l9 with e1 | ⟨e1,e2⟩
              case' inl=>simp only[am,Nd.af,au.af,e1,tF]
              case' inr=>simp only[am,Nd.af,au.af,e1,e2,tF]
              all_goals
                refine(alb s lat m vt hs aj (by omega) (by omega) Ft hk).mono ?_;rintro v' σ' ⟨⟨i,rfl,hi⟩,rfl⟩;simp only[am,Nat.reduceAdd,a7.af];cases JW:l_ s lat m with
                | none =>
                  rw[JW] at qK;simp only[am,cf,Be];exact no _ _ _ (by rw[hR,←qK]) hG.sub
                | some j =>
                  obtain rfl:=hi j JW;rw[JW] at qK;simp only[am,a7.af,DX];refine Gr.app (by simpa using hG) (by simp only[nw] at Fs;simp[aF];omega) fun jI ji BQ hB _=>?_
                  simp only[am,mY];refine(Wg hO hB).take (m:=fs.length) (by omega) (iP _) (by rw[dR];omega) fun v2 sc dg=>?_
                  rw[UA] at sc;simp only[am,cf,Nat.reduceEqDiff,reduceCtorEq];refine ba.rT (I:=I) ⟨fs,out++[i],v2,jI,ji,qK,fun f hf=>b8 f (NA _ hf),by simp only[nw] at Fs;rw[bw,iE];omega,sc,⟨BQ.sub,fun b hb=>hS.new b (by rw[←dg];exact hb)⟩,by simpa using BQ⟩ (by simp only[nw];omega) ?_ ?_ ?_ ?_ ?_
                  all_goals simp[hI,Ab,List.replicate,am,bu,bx,c8,V.lo,au.bY,Nd.bY,Lv sc]
            · have e1:decide (m.kind=1)=false:=aB fun h=>hk (.inl h)
              have e7:decide (m.kind=7)=false:=aB fun h=>hk (.inr h)
              simp only[am,e1,e7];have pZ:=U3 Ft hk;have B':=wT m
              by_cases h9:m.kind=9
              case' pos =>
                have eo:qo m=⟨4,m.kids.length,.zero⟩:=by rw[qo,ak h9]
                simp only[am,aE,aE,aD h9,tF]
              case' neg =>
                have eo:qo m=⟨3,m.kids.length,.zero⟩:=by rw[qo,ah h9]
                simp only[am,aE,aE,aB h9,tF]
              all_goals
                by_cases hd:d<m.kids.length
                · have TX:cs.drop (fs.length*6+5)=(fj (m,d)).drop 5++rest:=by
                    rw[←uR,JG,Nr (by rw[zt];omega)]
                  have h5:(fj (m,d)).drop 5=[.int .i64 (d:Nat)]:=by rw[oW];rfl
                  have ajr:bf false 1 (cs.drop (fs.length*6+5))=some (.int .i64 (d:Nat)):=by rw[TX,h5];rfl
                  have aji:bI 1 (cs.drop (fs.length*6+5))=true:=by rw[TX,h5];rfl
                  obtain⟨sc,ep⟩:=hO.put (off:=5) (x:=[.int .i64 ((d+1:Nat):Int)]) eQ hb hcs (by simp);have ly:(List.map fj ((m,d)::fs).reverse).set fs.length (setAt (fj (m,d)) 5 [.int .i64 ((d+1:Nat):Int)])=List.map fj ((m,d+1)::fs).reverse:=by
                    rw[ah'];simp
                  rw[ly] at sc;have Fu:m.kids[d]∈m.kids:=fD hd;have hkw:=nu Fu;have at3:=oQ Fu;simp only[am,mY,dB hd];refine hO.idx (by omega) (j:=(fs.length:Nat)) (c:=fj (m,d)) (by rw[iP];exact eQ) fun b2 Iv ap0 dg ai8 _=>?_
                  obtain rfl:b=b2:=by rw[hb] at dg;exact mV dg
                  rw[iP];simp only[am,mY,hcs,ajr,cu hd (by omega)];refine hO.idx (by omega) (j:=(fs.length:Nat)) (c:=fj (m,d)) (by rw[iP];exact eQ) fun b2 Iv ap0 dg ai8 _=>?_
                  obtain rfl:b=b2:=by rw[hb] at dg;exact mV dg
                  rw[iP];simp only[am,hcs,aji,tF];refine bD (by omega) (ny (cw hd)) ?_;simp only[am,mY,Nd.af,tF];refine sc.app (m:=[fj (m.kids[d],0)]) (by simp[zt]) (by simp[EO]) (by simp[aF];omega) fun v3 σ3 TE xy=>?_
                  have TJ:=(hS.step ep).step xy;have hG3:=aiI hG TJ.sub (xy.aC.trans ep.aC);simp only[am,cf,reduceCtorEq];refine ba.rT (I:=I) ⟨(m.kids[d],0)::(m,d+1)::fs,out,v3,tk,σ3,by rw[←ap2 hk hd];exact qK,?_,?_,by simpa using TE,TJ,hG3⟩ (VL hd) ?_ ?_ ?_ ?_ ?_
                  · intro f hf
                    rcases j_.1 hf with rfl | hf
                    · exact⟨pZ _ Fu,by simp only;omega,by simp only;omega⟩
                    · rcases j_.1 hf with rfl | hf
                      · exact⟨Ft,vA,vz⟩
                      · exact b8 f (NA _ hf)
                  · have:=VL (fs:=fs) hd;omega
                  all_goals simp[hI,Ab,List.replicate,am,bu,bx,c8,V.lo,au.bY,Nd.bY,Lv TE]
                · simp only[am,aE,a7.af,aE,aB (show ¬(d:Int)<(m.kids.length:Nat) by omega),tF];refine Gr.app (by simpa using hG) (by simp only[nw] at Fs;simp[aF];omega) fun jI ji BQ hB _=>?_
                  simp only[am,mY];refine(Wg hO hB).take (m:=fs.length) (by omega) (iP _) (by rw[dR];omega) fun v2 sc dg=>?_
                  rw[UA] at sc;simp only[am];refine ba.rT (I:=I) ⟨fs,out++[qo m],v2,jI,ji,by rw[←ap1 hk (Nat.le_of_not_lt hd)];exact qK,fun f hf=>b8 f (NA _ hf),by simp only[nw] at Fs;rw[bw,iE];omega,sc,⟨BQ.sub,fun b hb=>hS.new b (by rw[←dg];exact hb)⟩,by simpa using BQ⟩ (by simp only[nw];omega) ?_ ?_ ?_ ?_ ?_
                  all_goals simp[hI,Ab,List.replicate,am,bu,bx,c8,V.lo,au.bY,Nd.bY,eo,a7.zero,Lv sc]
def QN:AC:=.seq (.aa [⟨(some 1),.box 2 (.s 0),none⟩,⟨(some 2),.mv (.c (.bool false)),none⟩])
 (.seq (.seq (.aa [xf 0 7 1,xo 8 7,xL 9 8,xB .gtr 10 9 20,xm 11 10,xh 11 (xf 1 12 1),xh 11 (xo 13 12),xh 11 (xL 14 13),xh 11 (xB .gtr 15 14 80),⟨(some 16),.pick (.s 11) (.c (.bool true)) (.s 15),none⟩])
 (.cond (.s 16) (.seq (.aa [⟨(some 2),.mv (.c (.bool true)),none⟩])
 (.ret))
 (.skip)))
 (.seq (.seq (.aa [xf 0 17 1,xo 18 17,xL 19 18,xi 20 0])
 (.block 0 (.loop (.seq (.aa [xb .lss 21 20 19])
 (.seq (.cond (.s 21) (.skip)
 (.exit 0))
 (.seq (.block 1 (.seq (.aa [xA 3 22 18 20,xl 3 23 22,⟨(some 4),.alloc [(.str []),(.bool false),(.sl .full 67 [])],none⟩,xs 3 4 23])
 (.seq (.aa [xf 1 24 4,xl 2 25 24,xc 17 26 [.s 25],xm 27 26,xh 27 (xf 0 28 4),xh 27 (xo 29 28),xh 27 (xT 30 29),xh 27 (xB .gtr 31 30 40),⟨(some 32),.pick (.s 27) (.c (.bool true)) (.s 31),none⟩])
 (.cond (.s 32) (.seq (.aa [⟨(some 2),.mv (.c (.bool true)),none⟩])
 (.ret))
 (.skip)))))
 (.aa [xB .add 33 20 1,xm 20 33])))))))
 (.seq (.seq (.aa [xf 1 34 1,xo 35 34,xL 36 35,xi 37 0])
 (.block 2 (.loop (.seq (.aa [xb .lss 38 37 36])
 (.seq (.cond (.s 38) (.skip)
 (.exit 2))
 (.seq (.block 3 (.seq (.aa [xA 3 39 35 37,xl 3 40 39,⟨(some 6),.alloc [(.str []),(.int .i64 0),(.int .i64 0)],none⟩,xs 3 6 40])
 (.seq (.aa [xf 0 41 6,xo 42 41,xT 43 42,xB .gtr 44 43 40])
 (.cond (.s 44) (.seq (.aa [⟨(some 2),.mv (.c (.bool true)),none⟩])
 (.ret))
 (.skip)))))
 (.aa [xB .add 45 37 1,xm 37 45])))))))
 (.seq (.aa [⟨(some 2),.mv (.c (.bool false)),none⟩])
 (.ret)))))
theorem fn7:aK prog 7 QN [.tmp 2] 46:=⟨f7,⟨[],[],[]⟩,func7,by kernel_rfl,by kernel_rfl,by kernel_rfl,by kernel_rfl⟩
def OX:AC:=.seq (.aa [⟨(some 1),.box 2 (.s 0),none⟩,⟨(some 2),.mv (.c (.bool false)),none⟩])
 (.seq (.seq (.aa [xf 1 6 1,xo 7 6,xL 8 7,xB .gtr 9 8 12])
 (.cond (.s 9) (.seq (.aa [⟨(some 2),.mv (.c (.bool true)),none⟩])
 (.ret))
 (.skip)))
 (.seq (.seq (.aa [xi 3 0])
 (.block 0 (.loop (.seq (.seq (.aa [xm 10 3,xf 1 11 1,xo 12 11,xL 13 12,xb .lss 14 10 13])
 (.cond (.s 14) (.skip)
 (.exit 0)))
 (.seq (.block 1 (.seq (.aa [xf 1 17 1,xo 18 17,xm 19 3,xA 67 20 18 19,xl 67 21 20,⟨(some 4),.alloc tC,none⟩,xs 67 4 21])
 (.seq (.seq (.aa [xf 1 22 4,xo 23 22,xL 24 23,xB .gtr 25 24 70])
 (.cond (.s 25) (.seq (.aa [⟨(some 2),.mv (.c (.bool true)),none⟩])
 (.ret))
 (.skip)))
 (.seq (.aa [xi 5 0])
 (.block 2 (.loop (.seq (.seq (.aa [xm 26 5,xf 1 27 4,xo 28 27,xL 29 28,xb .lss 30 26 29])
 (.cond (.s 30) (.skip)
 (.exit 2)))
 (.seq (.block 3 (.seq (.aa [xf 1 33 4,xo 34 33,xm 35 5,xA 1 36 34 35,xo 37 36,xT 38 37,xB .gtr 39 38 40])
 (.cond (.s 39) (.seq (.aa [⟨(some 2),.mv (.c (.bool true)),none⟩])
 (.ret))
 (.skip))))
 (.aa [xm 31 5,xB .add 32 31 1,xm 5 32])))))))))
 (.aa [xm 15 3,xB .add 16 15 1,xm 3 16]))))))
 (.seq (.aa [⟨(some 2),.mv (.c (.bool false)),none⟩])
 (.ret))))
theorem af3:aK prog 17 OX [.tmp 2] 40:=⟨f17,⟨[],[],[]⟩,func17,by kernel_rfl,by kernel_rfl,by kernel_rfl,by kernel_rfl⟩
def ve (f:aZ):Bool:=decide (70<f.names.length)||f.names.any fun t=>decide (40<t.length)
theorem aaM (s:bg):u4 s=(decide (12<s.bd.length)||s.bd.any ve):=rfl
theorem y9 {α:Type} {l:List α} {p:α→Bool} {i:Nat} (hi:i<l.length) (h:p l[i]=true):l.any p=true:=A4.2 ⟨_,fD hi,h⟩
theorem D_ {α:Type} {l:List α} {p:α→Bool} (h:∀k∈l,p k=false):l.any p=false:=by
  rw[HD];exact fun k hk=>by rw[h k hk];simp
def atQ:=And.intro @am <| And.intro @aO <| And.intro @aZ.af @kG
theorem aaL (s:bg) (σ:ae):al prog 17 [.agg s.enc] σ fun v σ' => v = .bool (u4 s)∧σ' = σ:=by
  refine af3.calls ?_;simp only[aJ,OX,am,aR,bg.af,aE];rw[aaM]
  by_cases h1:12<s.bd.length
  · simp only[am,aD (show (12:Int)<s.bd.length by omega)];refine az ?_;simp[V.erase,h1]
  · simp only[am,aB (show ¬(12:Int)<s.bd.length by omega)];rw[aB h1,yT];obtain⟨F,hF⟩:∃F:Nat→Unit→St,∀i x,F i x=⟨[.any,.ptr (.loc 0) 0,.any,.int .i64 (i:Nat)]++List.replicate 36 .any,[s.enc],σ⟩:=⟨_,fun _ _=>rfl⟩;obtain⟨JF,aQ⟩:∃JF:Nat→Unit→Prop,∀i x,JF i x=(∀f∈s.bd.take i,ve f=false):=⟨_,fun _ _=>rfl⟩;refine dC (s.bd.length) F JF _ aQ ?_ ?_ ?_
    · refine en (()) ?_ ?_ ?_ ?_
      · exact Eq.mpr (aQ _ _) (by simp)
      all_goals simp[hF,List.replicate,am,bu]
    · rintro i x hi hJ;simp only[hF,List.replicate,am,dB hi,bg.af,aE];refine bD (by omega) (II hi) ?_;simp only[am,aZ.af,kG]
      by_cases U:70<s.bd[i].names.length
      · simp only[am,aO,aD (show (70:Int)<s.bd[i].names.length by omega)];refine az ?_;simp[V.erase,y9 hi (show ve s.bd[i]=true by rw[ve,aD U];rfl)]
      · simp only[am,aB (show ¬(70:Int)<s.bd[i].names.length by omega)];obtain⟨F2,ep⟩:∃F2:Nat→Unit→St,∀j y,F2 j y=⟨[.any,.ptr (.loc 0) 0,.any,.int .i64 (i:Nat),.ptr (.loc 1) 0,.int .i64 (j:Nat)]++List.replicate 34 .any,[s.enc,s.bd[i].enc],σ⟩:=⟨_,fun _ _=>rfl⟩;obtain⟨gO,gG⟩:∃gO:Nat→Unit→Prop,∀j y,gO j y=(∀t∈s.bd[i].names.take j,decide (40<t.length)=false):=⟨_,fun _ _=>rfl⟩;refine dC (s.bd[i].names.length) F2 gO _ gG ?_ ?_ ?_
        · refine en (()) ?_ ?_ ?_ ?_
          · exact Eq.mpr (gG _ _) (by simp)
          all_goals simp[ep,List.replicate,am,bu]
        · rintro j y hj o5;simp only[ep,List.replicate,am,dB hj,aZ.af,kG];refine bD (by omega) (GX hj) ?_;simp only[am,oX hj]
          by_cases h3:40<s.bd[i].names[j].length
          · simp only[am,aO,aD (show (40:Int)<s.bd[i].names[j].length by omega)];refine az ?_;simp[V.erase,y9 hi (show ve s.bd[i]=true by rw[ve,y9 hj (aD h3)];simp)]
          · simp only[am,aO,aB (show ¬(40:Int)<s.bd[i].names[j].length by omega),cu hj (by omega)];refine nxt (()) hj ?_ ?_ ?_ ?_
            · exact Eq.mpr (gG _ _) (De o5 hj (aB h3))
            all_goals simp[ep,List.replicate,am,bu]
        · rintro y o5;rw[dW] at o5;simp only[ep,List.replicate,atQ,dG,Nat.reduceEqDiff,reduceCtorEq];simp only[cu hi (by omega)];refine fm (()) hi ?_ ?_ ?_ ?_ ?_ ?_
          · exact Eq.mpr (aQ _ _) (De hJ hi (show ve s.bd[i]=false by rw[ve,aB U,D_ o5];rfl))
          all_goals simp[hF,List.replicate,am,bu,bx,c8,V.lo,bg.bY]
    · rintro x hJ;rw[dW] at hJ;simp only[hF,List.replicate,am,aO,dG,aO,bg.af,aE];refine az ?_;simp[V.erase,D_ hJ]
section
variable {l:dX} {v:df} {a b c:V} {m:Nat}
theorem dX.GK:takeN 3 l.enc=some l.enc:=rfl
theorem dX.GJ:over [a,b,c] l.enc=l.enc:=rfl
theorem dX.GH:l.enc.length=3:=rfl
theorem dX.GI:bE l.enc=true:=rfl
theorem df.GH:v.enc.length=3:=rfl
theorem df.GI:bE v.enc=true:=rfl
theorem df.GK:takeN 3 v.enc=some v.enc:=rfl
theorem df.GJ:over [a,b,c] v.enc=v.enc:=rfl
end
def vR (l:dX):Bool:=u4 l.shape||decide (40<l.name.length)
def Hf (v:df):Bool:=decide (40<v.name.length)
theorem aaI (s:au):wO s=(decide (20<s.bj.length)||decide (80<s.vars.length)||s.bj.any vR||s.vars.any Hf):=rfl
theorem aaH (s:au) (σ:ae):al prog 7 [.agg s.enc] σ fun v σ' => v = .bool (wO s)∧σ' = σ:=by
  refine fn7.calls ?_;simp only[aJ,QN,am,aR,au.af,aE,au.af,aE];rw[aaI]
  by_cases h1:20<s.bj.length
  · simp only[am,aD (show (20:Int)<s.bj.length by omega)];refine az ?_;simp[V.erase,h1]
  · simp only[am,aE,au.af,aE,au.af,aE,aB (show ¬(20:Int)<s.bj.length by omega)]
    by_cases U:80<s.vars.length
    · simp only[am,aD (show (80:Int)<s.vars.length by omega)];refine az ?_;simp[V.erase,U]
    · simp only[am,aE,au.af,aE,au.af,aE,aB (show ¬(80:Int)<s.vars.length by omega)];rw[aB h1,aB U,Bool.or_self,yT];obtain⟨F,hF⟩:∃F:Nat→Unit→St,∀i x,F i x=⟨[.any,.ptr (.loc 0) 0,.any,.any,.any,.any,.any,.any,.any,.any,.any,.any,.any,.any,.any,.any,.any,.any,.sl .no 3 (s.bj.map dX.enc),.int .i64 (s.bj.length:Nat),.int .i64 (i:Nat)]++List.replicate 25 .any,[s.enc],σ⟩:=⟨_,fun _ _=>rfl⟩;obtain⟨JF,aQ⟩:∃JF:Nat→Unit→Prop,∀i x,JF i x=(∀f∈s.bj.take i,vR f=false):=⟨_,fun _ _=>rfl⟩;refine dC (s.bj.length) F JF _ aQ ?_ ?_ ?_
      · refine en (()) ?_ ?_ ?_ ?_
        · exact Eq.mpr (aQ _ _) (by simp)
        all_goals simp[hF,List.replicate,am,bu]
      · rintro i x hi hJ;simp only[hF,List.replicate,am,dB hi];refine bD (by omega) (Ad hi) ?_;simp only[am,bg.af,au.af,bg.af,au.af,dX.GH,dX.GI,dX.GK,dX.GJ];refine cl (aaL s.bj[i].shape σ) ?_;cases h3:u4 s.bj[i].shape with
        | true =>
          simp only[am,aO,aO];refine az ?_;simp[V.erase,y9 hi (show vR s.bj[i]=true by rw[vR,h3];rfl)]
        | false =>
          simp only[am,au.af,au.af]
          by_cases h4:40<s.bj[i].name.length
          · simp only[am,aO,aO,aD (show (40:Int)<s.bj[i].name.length by omega)];refine az ?_;simp[V.erase,y9 hi (show vR s.bj[i]=true by rw[vR,aD h4,Bool.or_true])]
          · simp only[am,aO,aO,aB (show ¬(40:Int)<s.bj[i].name.length by omega),cu hi (by omega)];refine fm (()) hi ?_ ?_ ?_ ?_ ?_ ?_
            · exact Eq.mpr (aQ _ _) (De hJ hi (show vR s.bj[i]=false by rw[vR,aB h4,h3];rfl))
            all_goals simp[hF,List.replicate,am,bu,bx,c8,V.lo,au.bY]
      · rintro x hJ;rw[dW] at hJ;simp only[hF,List.replicate,am,aO,dG,aO,au.af,aE,aO,au.af,aE];obtain⟨F2,ep⟩:∃F2:Nat→Unit→St,∀j y,F2 j y=⟨[.any,.ptr (.loc 0) 0,.any,.any,.any,.any,.any,.any,.any,.any,.any,.any,.any,.any,.any,.any,.any,.any,.any,.any,.any,.any,.any,.any,.any,.any,.any,.any,.any,.any,.any,.any,.any,.any,.any,.sl .no 3 (s.vars.map df.enc),.int .i64 (s.vars.length:Nat),.int .i64 (j:Nat)]++List.replicate 8 .any,[s.enc],σ⟩:=⟨_,fun _ _=>rfl⟩;obtain⟨gO,gG⟩:∃gO:Nat→Unit→Prop,∀j y,gO j y=(∀f∈s.vars.take j,Hf f=false):=⟨_,fun _ _=>rfl⟩;refine dC (s.vars.length) F2 gO _ gG ?_ ?_ ?_
        · refine en (()) ?_ ?_ ?_ ?_
          · exact Eq.mpr (gG _ _) (by simp)
          all_goals simp[ep,List.replicate,am,bu]
        · rintro j y hj o5;simp only[ep,List.replicate,am,dB hj];refine bD (by omega) (AL hj) ?_;simp only[am,au.af,au.af,df.GH,df.GI,df.GK,df.GJ]
          by_cases h4:40<s.vars[j].name.length
          · simp only[am,aO,aO,aD (show (40:Int)<s.vars[j].name.length by omega)];refine az ?_;simp[V.erase,y9 hj (show Hf s.vars[j]=true from aD h4)]
          · simp only[am,aO,aO,aB (show ¬(40:Int)<s.vars[j].name.length by omega),cu hj (by omega)];refine fm (()) hj ?_ ?_ ?_ ?_ ?_ ?_
            · exact Eq.mpr (gG _ _) (De o5 hj (show Hf s.vars[j]=false from aB h4))
            all_goals simp[ep,List.replicate,am,bu,bx,c8,V.lo,au.bY]
        · rintro y o5;rw[dW] at o5;simp only[ep,List.replicate,am,aO,dG,aO,aO];refine az ?_;simp[V.erase,D_ hJ,D_ o5]
def QC:AC:=.seq (.aa [xm 12 0,xk 13 12,xf 1 14 13,xl 2 15 14,xm 16 1,xc 63 17 [.s 15,.s 16],xm 11 17,xe 18 11 0,xe 19 11 1,xm 8 18,xm 9 19])
 (.seq (.aa [xm 20 0,xk 21 20,xf 0 22 21,xm 23 8,xB .lss 24 23 0,xm 25 24,xg 25 (xm 26 9),xg 25 (xB .lss 27 26 0),⟨(some 28),.pick (.s 25) (.s 27) (.c (.bool false)),none⟩,xm 29 2,xc 59 30 [.s 22,.s 28,.c (.int .i64 3),.s 29]])
 (.seq (.seq (.aa [xm 31 9,xB .lss 32 31 0])
 (.cond (.s 32) (.seq (.aa [xm 33 0,xk 34 33,xf 0 35 34,xm 36 8,xB .geq 37 36 0,xm 38 2,xc 59 39 [.s 35,.s 37,.c (.int .i64 4),.s 38]])
 (.ret))
 (.skip)))
 (.seq (.aa [xm 40 0,xk 41 40,xf 1 42 41,xf 1 43 42,xo 44 43,xm 45 9,xA 3 46 44 45,xl 3 47 46,⟨(some 10),.alloc [(.str []),(.int .i64 0),(.int .i64 0)],none⟩,xs 3 10 47])
 (.draw [(xm 48 0,[]),(xk 49 48,[]),(xf 0 50 49,[]),(xf 1 51 10,[]),(xo 52 51,[]),(xm 53 3,[]),(xb .neq 54 52 53,[]),(xm 55 54,[]),(xh 55 (xm 56 0),[]),(xh 55 (xk 57 56),[]),(xh 55 (xf 3 58 57),[]),(xh 55 (xo 59 58),[]),(xh 55 (xB .geq 60 59 0),[]),(xh 55 (xm 61 60),[]),(xg 61 (xf 2 62 10),[]),(xg 61 (xo 63 62),[]),(xg 61 (xm 64 0),[]),(xg 61 (xk 65 64),[]),(xg 61 (xf 3 66 65),[]),(xg 61 (xo 67 66),[]),(xg 61 (xb .neq 68 63 67),[]),(⟨(some 69),.pick (.s 61) (.s 68) (.c (.bool false)),(some (55,false))⟩,[]),(⟨(some 70),.pick (.s 55) (.c (.bool true)) (.s 69),none⟩,[]),(xm 71 2,[]),(xc 59 72 [.s 50,.s 70,.c (.int .i64 4),.s 71],[])]))))
theorem ahE:aK prog 56 QC [] 73:=⟨f56,⟨[],[],[]⟩,func56,by kernel_rfl,by kernel_rfl,by kernel_rfl,by kernel_rfl⟩
def QD:AC:=.seq (.aa [⟨(some 3),.box 2 (.s 1),none⟩])
 (.seq (.draw [(xm 7 0,[]),(xk 8 7,[]),(xf 1 9 8,[]),(xl 2 10 9,[]),(xf 0 11 3,[]),(xo 12 11,[]),(xc 63 13 [.s 10,.s 12],[]),(xm 6 13,[]),(xe 14 6 0,[]),(xe 15 6 1,[]),(xm 4 14,[]),(xm 5 15,[])])
 (.seq (.aa [xm 16 0,xm 17 4,xk 18 16,xf 3 19 18,xs 1 19 17])
 (.seq (.draw [(xm 20 0,[]),(xk 21 20,[]),(xf 0 22 21,[]),(xm 23 4,[]),(xB .lss 24 23 0,[]),(xm 25 24,[]),(xg 25 (xm 26 5),[]),(xg 25 (xB .lss 27 26 0),[]),(⟨(some 28),.pick (.s 25) (.s 27) (.c (.bool false)),none⟩,[]),(xf 1 29 3,[]),(xo 30 29,[]),(xc 59 31 [.s 22,.s 28,.c (.int .i64 3),.s 30],[])])
 (.draw [(xm 32 0,[]),(xk 33 32,[]),(xf 0 34 33,[]),(xm 35 4,[]),(xB .lss 36 35 0,[]),(xm 37 36,[]),(xg 37 (xm 38 5),[]),(xg 37 (xB .geq 39 38 0),[]),(⟨(some 40),.pick (.s 37) (.s 39) (.c (.bool false)),none⟩,[]),(xf 1 41 3,[]),(xo 42 41,[]),(xc 59 43 [.s 34,.s 40,.c (.int .i64 4),.s 42],[])]))))
theorem ahF:aK prog 57 QD [] 44:=⟨f57,⟨[],[],[]⟩,func57,by kernel_rfl,by kernel_rfl,by kernel_rfl,by kernel_rfl⟩
def QF:AC:=.seq (.aa [xm 8 1])
 (.cond (.s 8) (.aa [xm 9 0,xm 10 0,xk 11 10,xf 0 12 11,xo 13 12,xm 14 2,xm 15 3,⟨(some 16),.build [(.int .i64 0),(.int .i64 0)] [(0,1,(.s 14)),(1,1,(.s 15))],none⟩,⟨(some 17),.cR 2 [(.s 16)],none⟩,xa 2 18 13 17,xk 19 9,xf 0 20 19,xs 1 20 18])
 (.skip))
theorem ahH:aK prog 59 QF [] 21:=⟨f59,⟨[],[],[]⟩,func59,by kernel_rfl,by kernel_rfl,by kernel_rfl,by kernel_rfl⟩
def Ok:AC:=.seq (.aa [⟨(some 3),.box 5 (.s 1),none⟩])
 (.seq (.aa [xf 0 6 3,xo 7 6])
 (.block 0 (.seq (.aa [xB .eql 9 7 1,xm 8 9])
 (.cond (.s 8) (.aa [xm 10 0,xf 2 11 3,xo 12 11,xf 1 13 3,xo 14 13,xc 56 15 [.s 10,.s 12,.s 14,.c (.int .i64 1)]])
 (.seq (.aa [xB .eql 17 7 7,xm 16 17])
 (.cond (.s 16) (.seq (.aa [xf 4 18 3,xo 19 18,xL 20 19,xB .gtr 21 20 0,xm 22 21,xg 22 (xm 23 0),xg 22 (xk 24 23),xg 22 (xf 3 25 24),xg 22 (xo 26 25),xg 22 (xB .geq 27 26 0),⟨(some 28),.pick (.s 22) (.s 27) (.c (.bool false)),none⟩])
 (.cond (.s 28) (.seq (.tu [4,5] [(xm 30 0,[]),(xk 31 30,[]),(xf 1 32 31,[]),(xf 0 33 32,[]),(xo 34 33,[]),(xm 35 0,[]),(xk 36 35,[]),(xf 3 37 36,[]),(xo 38 37,[]),(xA 3 39 34 38,[]),(xf 1 40 39,[]),(xl 2 41 40,[]),(xf 4 42 3,[]),(xo 43 42,[]),(⟨(some 44),.kv 5 (.s 43) (.c (.int .i64 0)),none⟩,[]),(xl 5 45 44,[]),(xc 125 46 [.s 41,.s 45],[]),(xm 29 46,[]),(xe 47 29 0,[]),(xe 48 29 1,[]),(⟨none,.mv (.c .any),none⟩,[]),(⟨none,.mv (.c .any),none⟩,[]),(⟨(some 4),.kf 8 (.s 47),none⟩,[]),(⟨(some 5),.kf 2 (.s 48),none⟩,[])])
 (.draw [(xm 49 0,[]),(xk 50 49,[]),(xf 0 51 50,[]),(xf 0 52 5,[]),(xo 53 52,[]),(xB .neq 54 53 0,[]),(xf 0 55 5,[]),(xo 56 55,[]),(xf 1 57 5,[]),(xo 58 57,[]),(xc 59 59 [.s 51,.s 54,.s 56,.s 58],[])]))
 (.skip)))
 (.skip)))))))
theorem afx:aK prog 118 Ok [] 60:=⟨f118,⟨[],[],[]⟩,func118,by kernel_rfl,by kernel_rfl,by kernel_rfl,by kernel_rfl⟩
theorem uD (σ:ae) (b τ:Nat) (l:List aA) (s:au) (lat p x y:Int) (is:Bool) (hl:l.length≤100000000) :
    al prog 59 [.ptr (.out b) 0,.bool is,.int .i64 x,.int .i64 y] (ch σ b τ l s lat p) fun v σ' => v = .aX []∧σ' = ch σ b τ (l++if is then [⟨x,y⟩] else []) s lat p:=by
  refine ahH.calls ?_;simp only[aJ,QF,am,aR,Nat.reduceAdd];cases is with
  | false =>
    simp only[am,dn,dn];exact aG rfl (ae.aW _) ⟨rfl,by simp⟩
  | true =>
    simp only[am,Nat.reduceAdd,iB];refine ke (by simp[aF];omega) (by rw[aE];exact M4) ?_;simp only[am,aE,iB,aE,iE,atx];exact aG rfl (ae.aW _) ⟨rfl,by simp⟩
theorem Dd (σ:ae) (b τ:Nat) (l:List aA) (s:au) (lat p y k:Int) (t:List UInt8) (hl:l.length≤90000000) (hs:s.ok) :
    al prog 56 [.ptr (.out b) 0,.str t,.int .i64 y,.int .i64 k] (ch σ b τ l s lat p) fun v σ' => v = .aX []∧σ' = ch σ b τ (l++gg s lat t y k) s lat p:=by
  refine ahE.calls ?_;simp only[aJ,QC,am,aR,Nat.reduceAdd,iB,au.af];refine cl (uv s t _ hs.1 hs.2.1) ?_;cases hV:jq s.vars t with
  | none =>
    cases hL:iI s.bj t with
    | none =>
      have e:gg s lat t y k=[⟨3,y⟩]:=by rw[gg,hV,hL];rfl
      simp only[am,bZ,Int.reduceNeg,cF,Int.reduceLT];refine cl (uD σ b τ l s lat p 3 y true (by omega)) ?_;simp only[am,bZ,fh,Int.reduceNeg,Int.reduceLT,Int.reduceLE];refine cl (uD σ b τ (l++[⟨3,y⟩]) s lat p 4 y false (by simp;omega)) ?_;simp only[am,Int.reduceNeg,dn];exact aG rfl (ae.aW _) ⟨rfl,by rw[e]⟩
    | some j =>
      have e:gg s lat t y k=[⟨4,y⟩]:=by rw[gg,hV,hL];rfl
      simp only[am,Int.reduceNeg,cF,aB (show ¬((j:Nat):Int)<0 by omega)];refine cl (uD σ b τ l s lat p 3 y false (by omega)) ?_;simp only[am,bZ,Int.reduceNeg,dn,Int.reduceLT,aD (show (0:Int)≤((j:Nat):Int) by omega)];refine cl (uD σ b τ l s lat p 4 y true (by omega)) ?_;simp only[am,Int.reduceNeg];exact aG rfl (ae.aW _) ⟨rfl,by rw[e]⟩
  | some v =>
    have hv:=SK hV;have hx:s.vars[v]?=some s.vars[v]:=cw hv;have e:gg s lat t y k=if s.vars[v].kind≠k∨(0≤lat∧s.vars[v].lat≠lat) then [⟨4,y⟩] else []:=by rw[gg,hV];simp only[hx]
    have nv:decide (((v:Nat):Int)<0)=false:=aB (by omega);have mid:al prog 59 [.ptr (.out b) 0,.bool false,.int .i64 3,.int .i64 y] (ch σ b τ l s lat p) fun u σ' => u = .aX []∧σ' = ch σ b τ l s lat p:=by
      simpa using uD σ b τ l s lat p 3 y false (by omega)
    have fin:∀is:Bool,is=decide (s.vars[v].kind≠k∨(0≤lat∧s.vars[v].lat≠lat))→al prog 59 [.ptr (.out b) 0,.bool is,.int .i64 4,.int .i64 y] (ch σ b τ l s lat p) fun u σ' => u = .aX []∧σ' = ch σ b τ (l++gg s lat t y k) s lat p:=fun is he=>by
      have:=uD σ b τ l s lat p 4 y is (by omega)
      rw[he] at this ⊢;rw[e];simpa using this
    cases hL:iI s.bj t
    case' none=>simp only[am,bZ,Int.reduceNeg,cF,Int.reduceLT,nv]
    case' some j =>
      simp only[am,cF,aB (show ¬((j:Nat):Int)<0 by omega)]
    all_goals
      refine cl mid ?_;simp only[am,Nat.reduceAdd,Int.reduceNeg,iB,nv];refine bD (by omega) (AL hv) ?_;simp only[am,Int.reduceNeg,au.af,df.GH,df.GI,df.GK,df.GJ]
      by_cases hk:s.vars[v].kind=k
      case neg =>
        simp only[am,Int.reduceNeg,aB hk];refine br.intro (fin true (by simp[hk])) ?_;simp only[am,Int.reduceNeg];exact aG rfl (ae.aW _) ⟨rfl,rfl⟩
      simp only[am,Int.reduceNeg,iB,aD hk]
      by_cases h0:0≤lat
      case neg =>
        simp only[am,Int.reduceNeg,aB h0];refine br.intro (fin false (by simp[hk,h0])) ?_;simp only[am,Int.reduceNeg];exact aG rfl (ae.aW _) ⟨rfl,rfl⟩
      simp only[am,Int.reduceNeg,iB,au.af,aD h0]
      by_cases h1:s.vars[v].lat=lat
      case neg =>
        simp only[am,Int.reduceNeg,aB h1];refine br.intro (fin true (by simp[h0,h1])) ?_;simp only[am,Int.reduceNeg];exact aG rfl (ae.aW _) ⟨rfl,rfl⟩
      simp only[am,Int.reduceNeg,aD h1];refine br.intro (fin false (by simp[hk,h1])) ?_;simp only[am,Int.reduceNeg];exact aG rfl (ae.aW _) ⟨rfl,rfl⟩
theorem yG (σ:ae) (b τ:Nat) (l:List aA) (s:au) (lat p x y:Int) (hl:l.length≤100000000):al prog 59 [.ptr (.out b) 0,.bool false,.int .i64 x,.int .i64 y] (ch σ b τ l s lat p) fun u σ' => u = .aX []∧σ' = ch σ b τ l s lat p:=by
  simpa using uD σ b τ l s lat p x y false hl
theorem Dh (σ:ae) (b τ:Nat) (l:List aA) (s:au) (lat p x y:Int) (hl:l.length≤100000000):al prog 59 [.ptr (.out b) 0,.bool true,.int .i64 x,.int .i64 y] (ch σ b τ l s lat p) fun u σ' => u = .aX []∧σ' = ch σ b τ (l++[⟨x,y⟩]) s lat p:=by
  simpa using uD σ b τ l s lat p x y true hl
def atS:=And.intro @am <| And.intro @aR <| And.intro @au.af @Word.af
theorem Yc (σ:ae) (b τ:Nat) (l:List aA) (s:au) (lat p:Int) (w:Word) (hl:l.length≤90000000) (hs:s.ok) :
    al prog 57 [.ptr (.out b) 0,.agg w.enc] (ch σ b τ l s lat p) fun v σ' => v = .aX []∧σ' = ch σ b τ (l++fy s w) s (cF (iI s.bj w.text)) p:=by
  refine ahF.calls ?_;simp only[aJ,QD,atS,Nat.reduceAdd,Int.reduceNeg,cF,iB];refine br.intro (uv s w.text (ch σ b τ l s lat p) hs.1 hs.2.1) ?_;simp only[am,Int.reduceNeg,cF,iB,aty];cases hL:iI s.bj w.text with
  | none =>
    cases hV:jq s.vars w.text with
    | none =>
      have e:fy s w=[⟨3,w.pos⟩]:=by rw[fy,hL,hV];rfl
      simp only[am,bZ,Int.reduceNeg,Int.reduceLT,iB];refine br.intro (Dh σ b τ l s (-1) p 3 w.pos (by omega)) ?_;simp only[am,bZ,fh,Int.reduceNeg,Int.reduceLT,Int.reduceLE,iB];refine br.intro (yG σ b τ (l++[⟨3,w.pos⟩]) s (-1) p 4 w.pos (by simp;omega)) ?_;simp only[am,Int.reduceNeg];exact aG rfl (ae.aW _) ⟨rfl,by rw[e]⟩
    | some j =>
      have e:fy s w=[⟨4,w.pos⟩]:=by rw[fy,hL,hV];rfl
      simp only[am,bZ,Int.reduceNeg,Int.reduceLT,iB,aB (show ¬((j:Nat):Int)<0 by omega)];refine br.intro (yG σ b τ l s (-1) p 3 w.pos (by omega)) ?_;simp only[am,bZ,Int.reduceNeg,Int.reduceLT,iB,aD (show (0:Int)≤((j:Nat):Int) by omega)];refine br.intro (Dh σ b τ l s (-1) p 4 w.pos (by omega)) ?_;simp only[am,Int.reduceNeg];exact aG rfl (ae.aW _) ⟨rfl,by rw[e]⟩
  | some j =>
    have e:fy s w=[]:=by rw[fy,hL];rfl
    simp only[am,Int.reduceNeg,iB,aB (show ¬((j:Nat):Int)<0 by omega)];refine br.intro (yG σ b τ l s (j:Nat) p 3 w.pos (by omega)) ?_;simp only[am,Int.reduceNeg,iB,aB (show ¬((j:Nat):Int)<0 by omega)];refine br.intro (yG σ b τ l s (j:Nat) p 4 w.pos (by omega)) ?_;simp only[am,Int.reduceNeg];exact aG rfl (ae.aW _) ⟨rfl,by rw[e,dn]⟩
theorem atw {σ:ae} {b τ:Nat} {l:List aA} {s:au} {lat p:Int} (hg:TZ σ) (hb:σ.box b=none):TZ (ch σ b τ l s lat p):=hg
theorem XW (σ:ae) (b τ:Nat) (l:List aA) (s:au) (lat p:Int) (n:Nd) (hl:l.length≤90000000) (hs:s.ok) (hg:TZ σ) (hb:σ.box b=none) (lZ:lat<s.bj.length) (hc:n.bS≤100000) (hw:n.wt≤aF) :
    al prog 118 [.ptr (.out b) 0,.agg n.enc] (ch σ b τ l s lat p) fun v σ' => v = .aX []∧σ' = ch σ b τ (l++jm s lat n) s lat p:=by
  refine afx.calls ?_;simp only[aJ,Ok,rz,Nat.reduceAdd]
  by_cases h1:n.kind=1
  · simp only[am,Nd.fl,aD h1];refine cl (Dd σ b τ l s lat p n.pos 1 n.text hl hs) ?_;simp only[am];exact aG rfl (ae.aW _) ⟨rfl,by rw[jm,ak h1]⟩
  simp only[am,aB h1]
  by_cases h7:n.kind=7
  case neg =>
    simp only[am,aB h7];exact aG rfl (ae.aW _) ⟨rfl,by rw[jm,ah h1,ah h7,dn]⟩
  simp only[am,aE,Nd.fl,aE,aD h7];have ea:jm s lat n=wY s lat n:=by rw[jm,ah h1,ak h7]
  by_cases hk:0<n.kids.length
  case neg =>
    simp only[am,aB (show ¬(0:Int)<(n.kids.length:Nat) by omega)];exact aG rfl (ae.aW _) ⟨rfl,by rw[ea,wY,ah (fun h=>hk h.1),dn]⟩
  simp only[am,iB,aD (show (0:Int)<(n.kids.length:Nat) by omega)]
  by_cases h0:0≤lat
  case neg =>
    simp only[am,aB h0];exact aG rfl (ae.aW _) ⟨rfl,by rw[ea,wY,ah (fun h=>h0 h.2),dn]⟩
  simp only[am,Nat.reduceAdd,bZ,Nat.reduceLT,iB,aD h0];obtain⟨k,rfl⟩:∃k:Nat,lat=k:=⟨lat.toNat,by omega⟩;have vv:k<s.bj.length:=by omega
  have hm:n.kids[0]∈n.kids:=fD _;have vz:=oQ hm;have vA:=nu hm;refine bD (by omega) (Ad vv) ?_;simp only[am,au.af,Nd.fl];refine bD (n:=0) (by omega) (ny (j:=0) (cw hk)) ?_;simp only[am,bg.af,Nd.af];refine br.intro (ID s.bj[k].shape n.kids[0] (atw hg hb) (hs.2.2 _ (fD vv)) (fun m hm=>by obtain⟨a,b,c⟩:=LB (n:=n.kids[0]) (by omega) m hm;exact⟨by omega,by omega,fun q hq=>by have:=c q hq;omega⟩) (by omega)) ?_;have eo:tA s (k:Nat) n=(gF s.bj[k].shape n.kids[0]).2:=by rw[tA,iP,Mn vv,oX hk]
  have ee:jm s (k:Nat) n=match (gF s.bj[k].shape n.kids[0]).2 with | some q=>[⟨4,q⟩] | none=>[]:=by rw[ea,wY,ak ⟨hk,h0⟩,eo];cases (gF s.bj[k].shape n.kids[0]).2<;>rfl
  generalize gF s.bj[k].shape n.kids[0]=g at ee;obtain⟨e,o⟩:=g;cases o with
  | none =>
    simp only[am,Nat.reduceAdd,bZ,aN.af,show r_ none=[.int .i64 0,.int .i64 0] from rfl];refine br.intro (yG σ b τ l s (k:Nat) p 0 0 (by omega)) ?_;simp only[am];exact aG rfl (ae.aW _) ⟨rfl,by rw[ee,dn]⟩
  | some q =>
    simp only[am,Nat.reduceAdd,fh,Int.reduceEq,aN.af,show r_ (some q)=[.int .i64 4,.int .i64 q] from rfl];refine br.intro (Dh σ b τ l s (k:Nat) p 4 q (by omega)) ?_;simp only[am];exact aG rfl (ae.aW _) ⟨rfl,by rw[ee]⟩
def QE:AC:=.seq (.aa [⟨(some 2),.ff 1 (.s 0),none⟩,⟨(some 3),.box 5 (.s 1),none⟩])
 (.seq (.aa [⟨(some 4),.mX [(.raw .nilFunc)],none⟩])
 (.seq (.aa [⟨(some 5),.ix (.func 117) [] [(.s 2),(.s 4)],none⟩,xs 1 4 5])
 (.aa [xo 6 4,xl 5 7 3,⟨(some 8),.gC (.s 6) [(.s 7)],none⟩])))
theorem ahG:aK prog 58 QE [] 9:=⟨f58,⟨[2,4],[],[]⟩,func58,by kernel_rfl,by kernel_rfl,by kernel_rfl,by kernel_rfl⟩
def Oj:AC:=.seq (.aa [⟨(some 3),.box 5 (.s 0),none⟩])
 (.seq (.aa [xo 6 1,xl 5 7 3,xc 118 8 [.s 6,.s 7]])
 (.seq (.seq (.aa [xf 0 9 3,xo 10 9,xB .eql 11 10 1,xm 12 11,xh 12 (xf 0 13 3),xh 12 (xo 14 13),xh 12 (xB .eql 15 14 7),⟨(some 16),.pick (.s 12) (.c (.bool true)) (.s 15),none⟩])
 (.cond (.s 16) (.ret)
 (.skip)))
 (.seq (.aa [xf 4 17 3,xo 18 17,xL 19 18,xi 20 0])
 (.block 0 (.loop (.seq (.aa [xb .lss 21 20 19])
 (.seq (.cond (.s 21) (.skip)
 (.exit 0))
 (.seq (.block 1 (.seq (.aa [xA 5 22 18 20,xl 5 23 22,⟨(some 5),.alloc [(.int .i64 0),(.int .i64 0),(.str []),(.sl .full 2 []),(.sl .full 5 [])],none⟩,xs 5 5 23])
 (.aa [xo 24 2,xl 5 25 5,⟨(some 26),.gC (.s 24) [(.s 25)],none⟩])))
 (.aa [xB .add 27 20 1,xm 20 27])))))))))
theorem afw:aK prog 117 Oj [] 28:=⟨f117,⟨[],[],[]⟩,func117,by kernel_rfl,by kernel_rfl,by kernel_rfl,by kernel_rfl⟩
theorem arf (σ:ae) (b τ b2 b4:Nat) (s:au) (lat p:Int) (hs:s.ok) (hg:TZ σ) (hb:σ.box b=none) (lZ:lat<s.bj.length) (n2:b2≠b) (n4:b4≠b) (U:σ.box b2=some [.ptr (.out b) 0]) (h4:σ.box b4=some [.fn (.func 117) [] [.ptr (.out b2) 0,.ptr (.out b4) 0]]) :
    ∀(k:Nat) (n:Nd) (l:List aA),n.wt≤k→l.length+n.bS≤90000000→n.bS≤100000→n.wt≤aF →
    al prog 117 [.agg n.enc,.ptr (.out b2) 0,.ptr (.out b4) 0] (ch σ b τ l s lat p) fun v σ' => v = .aX []∧σ' = ch σ b τ (l++eG s lat n) s lat p:=by
  have e2:∀l,(ch σ b τ l s lat p).box b2=some [.ptr (.out b) 0]:=fun l=>by rw[yP n2];exact U
  have e4:∀l,(ch σ b τ l s lat p).box b4=some [.fn (.func 117) [] [.ptr (.out b2) 0,.ptr (.out b4) 0]]:=fun l=>by rw[yP n4];exact h4
  intro k;induction k with
  | zero=>intro n l h;have:=Nd.qB n;have:=Et n;omega
  | succ k ih =>
    intro n l hk hl hc hw;refine afw.calls ?_;simp only[aJ,Oj,am,aR,Nat.reduceAdd,Nd.af];simp only[am,Nd.af,e2];refine cl (XW σ b τ l s lat p n (by omega) hs hg hb lZ hc hw) ?_;have ha:=@Ee s lat n;simp only[am,Nd.fl]
    by_cases xx:n.kind=1∨n.kind=7
    · have e:eG s lat n=jm s lat n:=by rw[FY,ak xx,dn]
      have l9:(decide (n.kind=1)=true)∨(decide (n.kind=1)=false∧decide (n.kind=7)=true):=by
        by_cases h:n.kind=1
        · exact .inl (aD h)
        · exact .inr ⟨aB h,aD (by simpa [h] using xx)⟩
      rcases l9 with e1 | ⟨e1,e7⟩
      case' inl=>simp only[am,e1]
      case' inr=>simp only[am,Nd.fl,e1,e7]
      all_goals exact aG rfl (ae.aW _) ⟨rfl,by rw[e]⟩
    have e:eG s lat n=jm s lat n++n.kids.flatMap (eG s lat):=by rw[FY,ah xx]
    simp only[am,aE,Nd.fl,aE,aB (fun h=>xx (.inl h)),aB (fun h=>xx (.inr h))];have B':=wT n;have hnc:=Nd.qB n;obtain⟨F,hF⟩:∃F:Nat→Unit→St,∀i x,F i x=⟨[.any,.ptr (.out b2) 0,.ptr (.out b4) 0,.ptr (.loc 0) 0,.any,.any,.any,.any,.any,.any,.any,.any,.any,.any,.any,.any,.any,.any,.sl .no 5 (n.kids.map Nd.enc),.int .i64 (n.kids.length:Nat),.int .i64 (i:Nat)]++List.replicate 7 .any,[n.enc],ch σ b τ (l++jm s lat n++(n.kids.take i).flatMap (eG s lat)) s lat p⟩:=⟨_,fun _ _=>rfl⟩;obtain⟨JF,aQ⟩:∃JF:Nat→Unit→Prop,∀i x,JF i x=(True):=⟨_,fun _ _=>rfl⟩;refine dC (n.kids.length) F JF _ aQ ?_ ?_ ?_
    · refine en (()) ?_ ?_ ?_ ?_
      · exact Eq.mpr (aQ _ _) (trivial)
      all_goals simp[hF,List.replicate,am,bu]
    · rintro i x hi -;have hm:n.kids[i]∈n.kids:=fD _;have vz:=oQ hm;have vA:=nu hm;have hlen:=akL (s:=s) (lat:=lat) hi;simp only[hF,List.replicate,am,dB hi];refine bD (by omega) (ny (cw hi)) ?_;simp only[am,Nd.af,e4];refine cl (ih n.kids[i] _ (by omega) (by simp only[bw];omega) (by omega) (by omega)) ?_;simp only[am,aO,cu hi (by omega),dt];refine fm (()) hi ?_ ?_ ?_ ?_ ?_ ?_
      · exact Eq.mpr (aQ _ _) (trivial)
      all_goals simp[hF,List.replicate,am,bu,bx,c8,V.lo,IQ hi,dt,Nd.bY]
    · rintro x -;simp only[hF,List.replicate,am,aO,dG,aO,dW];exact aG rfl (ae.aW _) ⟨rfl,by rw[e,dt]⟩
theorem Yb (σ:ae) (b τ:Nat) (l:List aA) (s:au) (lat p:Int) (n:Nd) (hs:s.ok) (hg:TZ σ) (hb:σ.box b=none) (lZ:lat<s.bj.length) (hl:l.length+n.bS≤90000000) (hc:n.bS≤100000) (hw:n.wt≤aF) :
    al prog 58 [.ptr (.out b) 0,.agg n.enc] (ch σ b τ l s lat p) fun v σ' => v = .aX []∧σ' = ch σ b τ (l++eG s lat n) s lat p:=by
  have fresh:∀{x:Nat} {cC:ae},(ch cC b τ l s lat p).box x=none→x≠b:=fun {x cC} h=>by rintro rfl;rw[Hj] at h;simp at h
  refine ahG.calls ?_;simp only[aJ,QE,am,aR,Nat.reduceAdd];intro b2 dg;have n2:=fresh dg;rw[yP n2] at dg;simp only[am,Nd.af];rw[Y6 n2];intro b4 tM;have n4:=fresh tM;rw[yP n4] at tM;have VR:b4≠b2:=by rintro rfl;simp[ae.set] at tM
  have at1 : σ.box b4=none:=by simpa [ae.set,VR] using tM
  simp only[am,Nd.af];rw[Y6 n4];have tR:TZ ((σ.set b2 [V.ptr (Pl.out b) 0]).set b4 [V.fn (Fn.func 117) [] [V.ptr (Pl.out b2) 0,V.ptr (Pl.out b4) 0]]):=hg;refine cl (arf _ b τ b2 b4 s lat p hs tR (by rw[rm n4.symm,rm n2.symm];exact hb) lZ n2 n4 (by rw[rm VR.symm,iM]) iM n.wt n l (bt _) hl hc hw) ?_;simp only[am];exact aG rfl (ae.yE (Y5 n2 dg) (Y5 n4 tM)) ⟨rfl,rfl⟩
def QG:AC:=.seq (.aa [⟨(some 3),.box 5 (.s 1),none⟩])
 (.seq (.seq (.aa [xf 0 11 3,xo 12 11,xB .eql 13 12 1])
 (.cond (.s 13) (.aa [xm 14 0,xf 2 15 3,xo 16 15,xf 1 17 3,xo 18 17,xc 56 19 [.s 14,.s 16,.s 18,.c (.int .i64 2)]])
 (.skip)))
 (.seq (.seq (.aa [xf 0 20 3,xo 21 20,xB .neq 22 21 10])
 (.cond (.s 22) (.ret)
 (.skip)))
 (.seq (.aa [⟨(some 4),.mv (.c (.sl .full 1 [])),none⟩])
 (.seq (.seq (.aa [xf 4 23 3,xo 24 23,xL 25 24,xi 26 0])
 (.block 0 (.loop (.seq (.aa [xb .lss 27 26 25])
 (.seq (.cond (.s 27) (.skip)
 (.exit 0))
 (.seq (.block 1 (.seq (.aa [xA 5 28 24 26,xl 5 29 28,⟨(some 6),.alloc [(.int .i64 0),(.int .i64 0),(.str []),(.sl .full 2 []),(.sl .full 5 [])],none⟩,xs 5 6 29])
 (.seq (.draw [(xm 30 0,[]),(xk 31 30,[]),(xf 0 32 31,[]),(xm 33 4,[]),(xf 2 34 6,[]),(xo 35 34,[]),(xc 112 36 [.s 33,.s 35],[]),(xB .geq 37 36 0,[]),(xf 1 38 6,[]),(xo 39 38,[0]),(xc 59 40 [.s 32,.s 37,.c (.int .i64 4),.s 39],[])])
 (.seq (.aa [xm 41 4,xf 2 42 6,xo 43 42,⟨(some 44),.cR 1 [(.s 43)],none⟩,xa 1 45 41 44,xm 4 45])
 (.seq (.aa [xf 4 46 6,xo 47 46,xL 48 47,xi 49 0])
 (.block 2 (.loop (.seq (.aa [xb .lss 50 49 48])
 (.seq (.cond (.s 50) (.skip)
 (.exit 2))
 (.seq (.block 3 (.seq (.aa [xA 5 51 47 49,xl 5 52 51,⟨(some 8),.alloc [(.int .i64 0),(.int .i64 0),(.str []),(.sl .full 2 []),(.sl .full 5 [])],none⟩,xs 5 8 52])
 (.aa [xm 53 0,xl 5 54 8,xc 118 55 [.s 53,.s 54]])))
 (.aa [xB .add 56 49 1,xm 49 56])))))))))))
 (.aa [xB .add 57 26 1,xm 26 57])))))))
 (.seq (.seq (.aa [xf 3 58 3,xo 59 58,xL 60 59,xi 61 0])
 (.block 4 (.loop (.seq (.aa [xb .lss 62 61 60])
 (.seq (.cond (.s 62) (.skip)
 (.exit 4))
 (.seq (.block 5 (.seq (.aa [xA 2 63 59 61,xl 2 64 63,⟨(some 10),.alloc [(.str []),(.int .i64 0)],none⟩,xs 2 10 64])
 (.aa [xm 65 0,xf 0 66 10,xo 67 66,xf 1 68 10,xo 69 68,xc 56 70 [.s 65,.s 67,.s 69,.c (.int .i64 2)]])))
 (.aa [xB .add 71 61 1,xm 61 71])))))))
 (.draw [(xm 72 0,[]),(xk 73 72,[]),(xf 0 74 73,[]),(xf 4 75 3,[]),(xo 76 75,[]),(xL 77 76,[]),(xB .gtr 78 77 16,[]),(xm 79 0,[]),(xk 80 79,[]),(xf 4 81 80,[]),(xo 82 81,[]),(xc 59 83 [.s 74,.s 78,.c (.int .i64 7),.s 82],[])]))))))
theorem ahI:aK prog 60 QG [] 84:=⟨f60,⟨[],[],[]⟩,func60,by kernel_rfl,by kernel_rfl,by kernel_rfl,by kernel_rfl⟩
theorem aqE {l:List (List UInt8)} {x:List UInt8}:di (l++[x])=di l++[[.str x]]:=by simp[di]
theorem AW {l:List Word} {j:Nat} (h:j<l.length):(l.map Word.enc)[((j:Nat):Int).toNat]?=some l[j].enc:=by simp[h]
theorem Yk (σ:ae) (b τ:Nat) (l:List aA) (s:au) (lat p:Int) (n:Nd) (hs:s.ok) (hg:TZ σ) (hb:σ.box b=none) (lZ:lat<s.bj.length) (hl:l.length≤30000000) (hc:n.bS≤100000) (hw:n.wt≤aF) :
    al prog 60 [.ptr (.out b) 0,.agg n.enc] (ch σ b τ l s lat p) fun v σ' => v = .aX []∧σ' = ch σ b τ (l++mg s lat p n) s lat p:=by
  refine ahI.calls ?_;simp only[aJ,QG,rz,Nat.reduceAdd]
  by_cases h1:n.kind=1
  · simp only[am,Nd.fl,aD h1];refine cl (Dd σ b τ l s lat p n.pos 2 n.text (by omega) hs) ?_;simp only[am,Nd.fl,aB (show ¬n.kind=10 by omega)];exact aG rfl (ae.aW _) ⟨rfl,by rw[mg,ak h1]⟩
  simp only[am,Nd.fl,aB h1]
  by_cases gS:n.kind=10
  case neg =>
    simp only[am,aB gS];exact aG rfl (ae.aW _) ⟨rfl,by rw[mg,ah h1,ah gS,dn]⟩
  simp only[am,aE,Nd.fl,aE,aD gS];have Uq:mg s lat p n=mC s lat n.kids n.kids.length++uB s lat n.names++(if 16<n.kids.length then [⟨7,p⟩] else []):=by rw[mg,ah h1,ak gS]
  have B':=wT n;have hnc:=Bs n;have gH:∀k∈n.kids,k.kids.length≤100000:=fun k hk=>by have:=wT k;have:=oQ hk;omega
  have km:∀{i:Nat},i≤n.kids.length→(mC s lat n.kids i).length≤100000:=fun {i} hi=>by
    have:=IU (s:=s) (lat:=lat) hi
    have:=RS n.kids i
    have:=Nd.qB n
    omega
  obtain⟨F,hF⟩:∃F:Nat→Tk × ae→St,∀i x,F i x=⟨[.ptr (.out b) 0,.any,.any,.ptr (.loc 0) 0,.sl x.1 1 (di ((n.kids.take i).map Nd.text)),.any,.any,.any,.any,.any,.any,.any,.any,.any,.any,.any,.any,.any,.any,.any,.any,.any,.any,.any,.sl .no 5 (n.kids.map Nd.enc),.int .i64 (n.kids.length:Nat),.int .i64 (i:Nat)]++List.replicate 57 .any,[n.enc],ch x.2 b τ (l++mC s lat n.kids i) s lat p⟩:=⟨_,fun _ _=>rfl⟩;obtain⟨JF,aQ⟩:∃JF:Nat→Tk × ae→Prop,∀i x,JF i x=(Ah σ x.2 τ x.1 i):=⟨_,fun _ _=>rfl⟩;refine dC (n.kids.length) F JF _ aQ ?_ ?_ ?_
  · refine en ((.full,σ)) ?_ ?_ ?_ ?_
    · exact Eq.mpr (aQ _ _) (Ah.nil)
    all_goals simp[hF,List.replicate,am,bu,mC,di]
  · rintro i ⟨tk,dq⟩ hi hA;simp only at hA;have hm:n.kids[i]∈n.kids:=fD _;have vz:=oQ hm;have vA:=nu hm;have pY:=gH _ hm;have hL:=km (HS hi);have Fk:TZ dq:=hA.sub.2.2 _ _ hg;have fG:dq.box b=none:=by rw[hA.box];exact hb
    have xN:((n.kids.take i).map Nd.text).length=i:=by simp;omega
    have tS:n.kids.getD i ja=n.kids[i]:=oX hi;simp only[hF,List.replicate,am,dB hi];refine bD (by omega) (ny (cw hi)) ?_;simp only[am,Nd.af,Nd.fl];refine br.intro (al.dK (as' := [.sl .no 1 (di ((n.kids.take i).map Nd.text)),.str n.kids[i].text]) (tE ((n.kids.take i).map Nd.text) n.kids[i].text _ (by omega)) ⟨cQ.no,cQ.rfl,trivial⟩ bG.rfl) ?_;simp only[am,Nd.fl,Lp];have ed:r7 n.kids i=if (gn ((n.kids.take i).map Nd.text) n.kids[i].text).isSome then [⟨4,n.kids[i].pos⟩] else []:=by rw[r7,tS]
    have Ff:(r7 n.kids i).length≤1:=by rw[ed];split<;>simp
    refine br.intro (uD dq b τ (l++mC s lat n.kids i) s lat p 4 n.kids[i].pos _ (by simp only[bw];omega)) ?_;rw[←ed];simp only[am,Nd.fl];refine Ah.app (by rw[kG,xN];exact hA) (by simp[kG,aF];omega) fun jI ji zB=>?_
    have zB:Ah σ ji τ jI (i+1):=by rw[bw,kG,xN] at zB;exact zB
    have tR:TZ ji:=zB.sub.2.2 _ _ hg;have dg:ji.box b=none:=by rw[zB.box];exact hb
    simp only[am,aE,Nd.fl,aE];obtain⟨F2,ep⟩:∃F2:Nat→Unit→St,∀j y,F2 j y=⟨[.ptr (.out b) 0,.any,.any,.ptr (.loc 0) 0,.sl jI 1 (di ((n.kids.take i).map Nd.text)++[[.str n.kids[i].text]]),.any,.any,.any,.any,.any,.any,.any,.any,.any,.any,.any,.any,.any,.any,.any,.any,.any,.any,.any,.sl .no 5 (n.kids.map Nd.enc),.int .i64 (n.kids.length:Nat),.int .i64 (i:Nat),.any,.any,.any,.any,.any,.any,.any,.any,.any,.any,.any,.any,.any,.any,.any,.any,.any,.any,.any,.any,.sl .no 5 (n.kids[i].kids.map Nd.enc),.int .i64 (n.kids[i].kids.length:Nat),.int .i64 (j:Nat)]++List.replicate 34 .any,[n.enc,n.kids[i].enc],ch ji b τ (l++mC s lat n.kids i++r7 n.kids i++(n.kids[i].kids.take j).flatMap (jm s lat)) s lat p⟩:=⟨_,fun _ _=>rfl⟩;obtain⟨gO,gG⟩:∃gO:Nat→Unit→Prop,∀j y,gO j y=(True):=⟨_,fun _ _=>rfl⟩;refine dC (n.kids[i].kids.length) F2 gO _ gG ?_ ?_ ?_
    · refine en (()) ?_ ?_ ?_ ?_
      · exact Eq.mpr (gG _ _) (trivial)
      all_goals simp[ep,List.replicate,am,bu]
    · rintro j y hj -;have zP:n.kids[i].kids[j]∈n.kids[i].kids:=fD _;have aju:=oQ zP;have ajv:=nu zP;have hL2:((n.kids[i].kids.take j).flatMap (jm s lat)).length≤100000:=by
        have:=BF (f:=jm s lat) (m:=1) (l:=n.kids[i].kids.take j) fun _ _=>Ee
        rw[pJ,gZ] at this;omega
      simp only[ep,List.replicate,am,dB hj];refine bD (by omega) (ny (cw hj)) ?_;simp only[am,Nat.reduceAdd,Nd.af];refine cl (XW ji b τ _ s lat p n.kids[i].kids[j] (by simp only[bw];omega) hs tR dg lZ (by omega) (by omega)) ?_;simp only[am,aO,cu hj (by omega)];refine fm (()) hj ?_ ?_ ?_ ?_ ?_ ?_
      · exact Eq.mpr (gG _ _) (trivial)
      all_goals simp[ep,List.replicate,am,bu,bx,c8,V.lo,IQ hj,dt,Nd.bY]
    · rintro y -;simp only[ep,List.replicate,am,aO,dG,Nat.reduceEqDiff,aO,reduceCtorEq,Nd.fl,aE,dW,cu hi (by omega)];have ef:mC s lat n.kids (i+1)=mC s lat n.kids i++(r7 n.kids i++n.kids[i].kids.flatMap (jm s lat)):=by rw[SV,xd,tS]
      have et:(n.kids.take (i+1)).map Nd.text=(n.kids.take i).map Nd.text++[n.kids[i].text]:=by rw[kP hi,fE];rfl
      refine fm ((jI,ji)) hi ?_ ?_ ?_ ?_ ?_ ?_
      · exact Eq.mpr (aQ _ _) (zB)
      all_goals simp[hF,List.replicate,am,bu,bx,c8,V.lo,ef,et,aqE,dt,Nd.bY]
  · rintro⟨tk,dq⟩ hA;simp only at hA;have hL:=km (bt _);simp only[hF,List.replicate,am,aO,dG,aO,Nd.fl,aE];obtain⟨F3,xy⟩:∃F3:Nat→Unit→St,∀j y,F3 j y=⟨[.ptr (.out b) 0,.any,.any,.ptr (.loc 0) 0,.any,.any,.any,.any,.any,.any,.any,.any,.any,.any,.any,.any,.any,.any,.any,.any,.any,.any,.any,.any,.any,.any,.any,.any,.any,.any,.any,.any,.any,.any,.any,.any,.any,.any,.any,.any,.any,.any,.any,.any,.any,.any,.any,.any,.any,.any,.any,.any,.any,.any,.any,.any,.any,.any,.any,.sl .no 2 (n.names.map Word.enc),.int .i64 (n.names.length:Nat),.int .i64 (j:Nat)]++List.replicate 22 .any,[n.enc],ch dq b τ (l++mC s lat n.kids n.kids.length++uB s lat (n.names.take j)) s lat p⟩:=⟨_,fun _ _=>rfl⟩;obtain⟨Hz,Ja⟩:∃Hz:Nat→Unit→Prop,∀j y,Hz j y=(True):=⟨_,fun _ _=>rfl⟩;refine dC (n.names.length) F3 Hz _ Ja ?_ ?_ ?_
    · refine en (()) ?_ ?_ ?_ ?_
      · exact Eq.mpr (Ja _ _) (trivial)
      all_goals simp[xy,List.replicate,am,bu,uB]
    · rintro j y hk -;have TC:=@Mz s lat (n.names.take j);rw[gZ] at TC;simp only[xy,List.replicate,am,dB hk];refine bD (by omega) (AW hk) ?_;simp only[am,iB,Word.af];refine cl (Dd dq b τ _ s lat p n.names[j].pos 2 n.names[j].text (by simp only[bw];omega) hs) ?_;simp only[am,aO,cu hk (by omega)];have ef:uB s lat (n.names.take (j+1))=uB s lat (n.names.take j)++gg s lat n.names[j].text n.names[j].pos 2:=by rw[uB,IQ hk];rfl
      refine fm (()) hk ?_ ?_ ?_ ?_ ?_ ?_
      · exact Eq.mpr (Ja _ _) (trivial)
      all_goals simp[xy,List.replicate,am,bu,bx,c8,V.lo,ef,dt,Nd.bY]
    · rintro y -;have TC:=@Mz s lat n.names;simp only[xy,List.replicate,am,aO,dG,aO,iB,Nd.fl,aE,dW];have bound:(l++mC s lat n.kids n.kids.length++uB s lat n.names).length≤100000000:=by simp only[bw];omega
      by_cases BN:16<n.kids.length
      · rw[aD (show (16:Int)<(n.kids.length:Nat) by omega)];refine br.intro (Dh dq b τ _ s lat p 7 p bound) ?_;simp only[am];exact aG rfl (Y4 hA.sub) ⟨rfl,by rw[Uq,ak BN];simp only[dt]⟩
      · rw[aB (show ¬(16:Int)<(n.kids.length:Nat) by omega)];refine br.intro (yG dq b τ _ s lat p 7 p bound) ?_;simp only[am];exact aG rfl (Y4 hA.sub) ⟨rfl,by rw[Uq,ah BN,dn,dt]⟩
section
variable {c:ag}
theorem aa':c.enc.length=17:=rfl
theorem abf:bE c.enc=true:=rfl
theorem abe:bm c.enc=true:=rfl
theorem aaX:a9 c.enc=c.enc:=rfl
theorem abq:takeN 17 c.enc=some c.enc:=rfl
theorem abg {z0 z1 z2 z3 z4 z5 z6 z7 z8 z9 M7 M8 M9 M_ M' Na Nb:V}:over [z0,z1,z2,z3,z4,z5,z6,z7,z8,z9,M7,M8,M9,M_,M',Na,Nb] c.enc=c.enc:=rfl
theorem aba:bf false 1 (c.enc.drop 7)=some (.int .i64 c.left.kind):=rfl
theorem abi {w:Word}:setAt c.enc 2 w.enc=({c with name:=w}:ag).enc:=rfl
theorem aaZ:bI 2 (c.enc.drop 2)=true:=rfl
theorem abj {ws:List Word}:setAt c.enc 4 [.sl .no 2 (ws.map Word.enc)]=({c with names:=ws}:ag).enc:=rfl
theorem aa0:bI 1 (c.enc.drop 4)=true:=rfl
theorem abk {ps:List (Word × Word)}:setAt c.enc 5 [.sl .no 4 (ps.map dT)]=({c with aV:=ps}:ag).enc:=rfl
theorem aa1:bI 1 (c.enc.drop 5)=true:=rfl
theorem abl {n:Int}:setAt c.enc 6 [.int .i64 n]=({c with lG:=n}:ag).enc:=rfl
theorem aa2:bI 1 (c.enc.drop 6)=true:=rfl
theorem abh {n:Nd}:setAt c.enc 7 n.enc=({c with left:=n}:ag).enc:=by rw[Nd.cD];rfl
theorem aaY:bI 5 (c.enc.drop 7)=true:=rfl
theorem abm {n:Nd}:setAt c.enc 12 n.enc=({c with right:=n}:ag).enc:=by rw[Nd.cD];rfl
theorem aa3:bI 5 (c.enc.drop 12)=true:=rfl
def eg:=And.intro @aa' <| And.intro @abf <| And.intro @abe <| And.intro @aaX <| And.intro @abq <| And.intro @abg <| And.intro @aba <| And.intro @abi <| And.intro @aaZ <| And.intro @abj <| And.intro @aa0 <| And.intro @abk <| And.intro @aa1 <| And.intro @abl <| And.intro @aa2 <| And.intro @abh <| And.intro @aaY <| And.intro @abm @aa3
end
def QX:AC:=.seq (.aa [xi 3 0])
 (.seq (.block 0 (.loop (.seq (.seq (.aa [xm 4 0,xo 5 1,xT 6 5,xb .lss 7 4 6,xm 8 7,xg 8 (xo 9 1),xg 8 (xm 10 0),xg 8 (xS 11 9 10),xg 8 (xc 96 12 [.s 11]),⟨(some 13),.pick (.s 8) (.s 12) (.c (.bool false)),none⟩])
 (.cond (.s 13) (.skip)
 (.exit 0)))
 (.block 1 (.aa [xm 14 0,xB .add 15 14 1,xm 0 15])))))
 (.seq (.aa [xm 16 0,xm 3 16])
 (.ret)))
theorem ahV:aK prog 95 QX [.tmp 3] 17:=⟨f95,⟨[],[],[]⟩,func95,by kernel_rfl,by kernel_rfl,by kernel_rfl,by kernel_rfl⟩
def QY:AC:=.seq (.aa [⟨(some 2),.mv (.c (.bool false)),none⟩])
 (.seq (.aa [xm 3 0,xu .geq 4 3 97,xm 5 4,xg 5 (xm 6 0),xg 5 (xu .leq 7 6 122),⟨(some 8),.pick (.s 5) (.s 7) (.c (.bool false)),none⟩,xm 9 8,xh 9 (xm 10 0),xh 9 (xu .geq 11 10 48),xh 9 (xm 12 11),xg 12 (xm 13 0),xg 12 (xu .leq 14 13 57),⟨(some 15),.pick (.s 12) (.s 14) (.c (.bool false)),(some (9,false))⟩,⟨(some 16),.pick (.s 9) (.c (.bool true)) (.s 15),none⟩,xm 17 16,xh 17 (xm 18 0),xh 17 (xu .eql 19 18 95),⟨(some 20),.pick (.s 17) (.c (.bool true)) (.s 19),none⟩,xm 2 20])
 (.ret))
theorem ahW:aK prog 96 QY [.tmp 2] 21:=⟨f96,⟨[],[],[]⟩,func96,by kernel_rfl,by kernel_rfl,by kernel_rfl,by kernel_rfl⟩
def QZ:AC:=.seq (.aa [⟨(some 4),.mv (.c (.bool false)),none⟩])
 (.seq (.aa [xm 5 0,xm 6 1,xS 7 5 6,xu .eql 8 7 45,xm 9 8,xg 9 (xm 10 1),xg 9 (xB .add 11 10 1),xg 9 (xm 12 0),xg 9 (xT 13 12),xg 9 (xb .lss 14 11 13),⟨(some 15),.pick (.s 9) (.s 14) (.c (.bool false)),none⟩,xm 16 15,xg 16 (xm 17 0),xg 16 (xm 18 1),xg 16 (xB .add 19 18 1),xg 16 (xS 20 17 19),xg 16 (xu .eql 21 20 45),⟨(some 22),.pick (.s 16) (.s 21) (.c (.bool false)),none⟩,xm 4 22])
 (.ret))
theorem ahX:aK prog 97 QZ [.tmp 4] 23:=⟨f97,⟨[],[],[]⟩,func97,by kernel_rfl,by kernel_rfl,by kernel_rfl,by kernel_rfl⟩
def Q0:AC:=.seq (.aa [⟨(some 2),.mv (.c (.bool false)),none⟩])
 (.seq (.seq (.aa [xm 3 0])
 (.block 0 (.seq (.seq (.aa [xu .eql 5 3 35,xm 4 5])
 (.cond (.s 4) (.skip)
 (.seq (.aa [xu .eql 6 3 43,xm 4 6])
 (.cond (.s 4) (.skip)
 (.seq (.aa [xu .eql 7 3 38,xm 4 7])
 (.cond (.s 4) (.skip)
 (.seq (.aa [xu .eql 8 3 40,xm 4 8])
 (.cond (.s 4) (.skip)
 (.seq (.aa [xu .eql 9 3 41,xm 4 9])
 (.cond (.s 4) (.skip)
 (.seq (.aa [xu .eql 10 3 123,xm 4 10])
 (.cond (.s 4) (.skip)
 (.seq (.aa [xu .eql 11 3 125,xm 4 11])
 (.cond (.s 4) (.skip)
 (.seq (.aa [xu .eql 12 3 91,xm 4 12])
 (.cond (.s 4) (.skip)
 (.seq (.aa [xu .eql 13 3 93,xm 4 13])
 (.cond (.s 4) (.skip)
 (.seq (.aa [xu .eql 14 3 44,xm 4 14])
 (.cond (.s 4) (.skip)
 (.seq (.aa [xu .eql 15 3 58,xm 4 15])
 (.cond (.s 4) (.skip)
 (.seq (.aa [xu .eql 16 3 61,xm 4 16])
 (.cond (.s 4) (.skip)
 (.seq (.aa [xu .eql 17 3 124,xm 4 17])
 (.cond (.s 4) (.skip)
 (.aa [xu .eql 18 3 60,xm 4 18])))))))))))))))))))))))))))
 (.cond (.s 4) (.seq (.aa [⟨(some 2),.mv (.c (.bool true)),none⟩])
 (.ret))
 (.skip)))))
 (.seq (.aa [⟨(some 2),.mv (.c (.bool false)),none⟩])
 (.ret)))
theorem ahY:aK prog 98 Q0 [.tmp 2] 19:=⟨f98,⟨[],[],[]⟩,func98,by kernel_rfl,by kernel_rfl,by kernel_rfl,by kernel_rfl⟩
theorem arb {c:Int} (h:lf c=true):sb c=false∧c≠45∧c≠32∧c≠9:=by
  simp only[lf,Mo,List.any_cons,List.any_nil,kK,bH,cI,Gs] at h
  rcases h with h | h | h | h | h | h | h | h | h | h | h | h | h | h<;>subst h<;>exact⟨by decide,by decide,by decide,by decide⟩
theorem ali {n p:Nat} {c:UInt8} {r:List UInt8} {acc:List Tok}:d_ (n+1) p (c::r) acc =
    if c.toNat=32∨c.toNat=9 then d_ n (p+1) r acc
    else if c.toNat=45∧(r.head?.map UInt8.toNat)=some 45 then (acc,none)
    else if lf (c.toNat:Nat)=true then d_ n (p+1) r (acc++[⟨(c.toNat:Nat),[c],p⟩])
    else if cV (ei (c::r))=true then d_ n (p+(ei (c::r)).length) ((c::r).drop (ei (c::r)).length) (acc++[⟨97,ei (c::r),p⟩])
    else ([],some p):=by
  simp only[d_]
  by_cases hb:c.toNat=32∨c.toNat=9
  · have h1:fR c=false:=by
      simp only[fR]
      rcases hb with h | h<;>rw[h]<;>decide
    have U:lf (c.toNat:Nat)=false:=by rcases hb with h | h<;>rw[h]<;>decide
    have h3:¬c.toNat=45:=by omega
    simp[hb,U,h3,GR h1]
  · rw[ah hb];split
    · rfl
    · cases hs:lf (c.toNat:Nat)
      · by_cases hn:cV (ei (c::r))=true
        · have:0<(ei (c::r)).length:=by
            cases hq:ei (c::r) with
            | nil=>rw[hq] at hn;simp[cV] at hn
            | cons _ _=>simp
          simp[hn,this]
        · simp[hn]
      · have h1:fR c=false:=(arb hs).1;simp[GR h1]
theorem aiA (c:Int) (σ:ae):al prog 96 [.int .u8 c] σ fun v σ' => v = .bool (sb c)∧σ' = σ:=by
  refine ahW.calls ?_;simp only[aJ,QY,am,aR]
  repeat' (first
    | (refine jO (fun h=>?_) (fun h=>?_)<;>simp only[am,h])
    | (refine fL (fun h=>?_) (fun h=>?_)<;>simp only[sZ,h,Nat.reduceAdd,Nat.reduceEqDiff,aE])
    | (refine j1 (fun h=>?_) (fun h=>?_)<;>simp only[sZ,h,Nat.reduceAdd,Nat.reduceEqDiff,aE])
  )
  all_goals refine az ?_
  all_goals simp_all [V.erase,sb,vO]
  all_goals (try omega)
theorem ara (c:Int) (σ:ae):al prog 98 [.int .u8 c] σ fun v σ' => v = .bool (lf c)∧σ' = σ:=by
  refine ahY.calls ?_;simp only[aJ,Q0,am,aR]
  repeat' (first
    | (refine jO (fun h=>?_) (fun h=>?_)<;>simp only[sZ,h,Nat.reduceAdd,Nat.reduceEqDiff,aE])
    | (refine fL (fun h=>?_) (fun h=>?_)<;>simp only[am,h])
    | (refine j1 (fun h=>?_) (fun h=>?_)<;>simp only[sZ,h,Nat.reduceAdd,Nat.reduceEqDiff,aE])
  )
  all_goals refine az ?_
  all_goals simp_all [V.erase,lf,Mo]
  all_goals (try omega)
theorem ab' (s:List UInt8) (a:Nat) (σ:ae) (ha:a<s.length) (hb:s.length≤aF):al prog 97 [.str s,.int .i64 (a:Nat)] σ fun v σ' => v = .bool (decide (s[a].toNat=45∧(s.drop (a+1)).head?.map UInt8.toNat=some 45))∧σ' = σ:=by
  simp only[aF] at hb;have w1:IntKind.i64.wrap ((a:Int)+1)=((a+1:Nat):Int):=by rw[wrap_i64 (by omega) (by omega)];simp
  have hh:(s.drop (a+1)).head?.map UInt8.toNat=if h:a+1<s.length then some s[a+1].toNat else none:=by
    by_cases h:a+1<s.length
    · rw[By h,drop_cons h];rfl
    · rw[dif_neg h,Ns (by omega)];rfl
  rw[hh];refine ahX.calls ?_;simp only[aJ,QZ,am,aR,Nat.reduceAdd];refine z_ (by omega) (Dc ha) ?_;simp only[am]
  by_cases EY:s[a].toNat=45
  · simp only[am,aD (show ((s[a].toNat:Nat):Int)=45 by omega),w1]
    by_cases hl:a+1<s.length
    · simp only[am,aD (show ((a+1:Nat):Int)<s.length by omega),w1];refine z_ (by omega) (Dc hl) ?_;simp only[am];refine az ?_;simp[V.erase,EY,hl];omega
    · simp only[am,aB (show ¬((a+1:Nat):Int)<s.length by omega)];refine az ?_;simp[V.erase,hl]
  · simp only[am,aB (show ¬((s[a].toNat:Nat):Int)=45 by omega)];refine az ?_;simp[V.erase,EY]
def Kz (s:List UInt8) (σ:ae) (p a n:Nat):St:=⟨[.int .i64 ((a+n:Nat):Int),.ptr (.out p) 0]++List.replicate 15 .any,[],σ⟩
theorem ad_ {s:List UInt8} {p a:Nat} {σ:ae} (hp:σ.box p=some [.str s]) (ha:a≤s.length) (hb:s.length≤aF):al prog 95 [.int .i64 (a:Nat),.ptr (.out p) 0] σ fun v σ' => v = .int .i64 ((a+(ei (s.drop a)).length:Nat):Int)∧σ' = σ:=by
  simp only[aF] at hb;refine ahV.calls ?_;simp only[aJ,QX,am,aR,Nat.reduceAdd];refine j6 (fun q:{n:Nat // a+n≤s.length∧((s.drop a).take n).all fR=true}=>Kz s σ p a q.1) (fun q=>s.length - q.1) ?_ ?_
  · refine ba.enter ⟨0,by simpa using ha,by simp⟩ ?_ cj.rfl bG.rfl;simp[Kz,List.replicate,am]
  · rintro⟨n,hn,b8⟩;simp only[Kz,List.replicate,am,hp];have w1:IntKind.i64.wrap (((a+n:Nat):Int)+1)=((a+(n+1):Nat):Int):=by rw[wrap_i64 (by omega) (by omega)];omega
    by_cases aj:a+n<s.length
    · simp only[am,aD (show ((a+n:Nat):Int)<s.length by omega),hp];refine z_ (by omega) (Dc aj) ?_;simp only[am];refine cl (aiA s[a+n].toNat σ) ?_;cases hg:sb (s[a+n].toNat:Nat)
      · simp only[am];refine aG rfl (ae.aW _) ⟨?_,rfl⟩;simp[V.erase,Xp b8 hn (fun _=>hg)]
      · simp only[am,w1];refine ba.again ⟨n+1,by omega,?_⟩ (by simp;omega) (by simp[am]) cj.rfl bG.rfl;have hd:n<(s.drop a).length:=by simp;omega
        rw[Q7 hd,b8];simp only[mS,List.getElem_drop];exact hg
    · simp only[am,aB (show ¬((a+n:Nat):Int)<s.length by omega)];refine aG rfl (ae.aW _) ⟨?_,rfl⟩;simp[V.erase,Xp b8 hn (fun h=>absurd h aj)]
def Qr:AC:=.seq (.aa [⟨(some 1),.ff 1 (.s 0),none⟩,⟨(some 2),.mv (.c (.sl .full 3 [])),none⟩,⟨(some 3),.alloc [(.int .i64 0),(.int .i64 0)],none⟩])
 (.scope (.seq (.aa [⟨(some 9),.ix (.func 95) [] [(.s 1)],none⟩,xm 4 9])
 (.seq (.aa [⟨(some 5),.mv (.c (.sl .full 3 [])),none⟩])
 (.seq (.aa [xi 6 0])
 (.seq (.skip)
 (.seq (.block 0 (.loop (.seq (.seq (.aa [xm 10 6,xo 11 1,xT 12 11,xb .lss 13 10 12])
 (.cond (.s 13) (.skip)
 (.exit 0)))
 (.block 1 (.seq (.aa [xo 14 1,xm 15 6,xS 16 14 15,xm 7 16])
 (.seq (.block 2 (.seq (.aa [xm 18 7,xu .eql 19 18 32,xm 20 19,xh 20 (xm 21 7),xh 20 (xu .eql 22 21 9),⟨(some 23),.pick (.s 20) (.c (.bool true)) (.s 22),none⟩,xm 17 23])
 (.cond (.s 17) (.seq (.aa [xm 24 6,xB .add 25 24 1,xm 6 25])
 (.exit 1))
 (.seq (.aa [xo 27 1,xm 28 6,xc 97 29 [.s 27,.s 28],xm 26 29])
 (.cond (.s 26) (.exit 0)
 (.seq (.aa [xm 31 7,xc 98 32 [.s 31],xm 30 32])
 (.cond (.s 30) (.seq (.aa [xm 33 5,xm 34 7,xo 35 1,xm 36 6,xm 37 6,xB .add 38 37 1,⟨(some 39),.sR (.s 35) (some (.s 36)) (some (.s 38)),none⟩,xm 40 6,⟨(some 41),.build [(.int .u8 0),(.str []),(.int .i64 0)] [(0,1,(.s 34)),(1,1,(.s 39)),(2,1,(.s 40))],none⟩,⟨(some 42),.cR 3 [(.s 41)],none⟩,xa 3 43 33 42,xm 5 43])
 (.seq (.aa [xm 44 6,xB .add 45 44 1,xm 6 45])
 (.exit 1)))
 (.skip))))))))
 (.seq (.aa [xm 46 4,xm 47 6,⟨(some 48),.gC (.s 46) [(.s 47)],none⟩,xm 8 48])
 (.seq (.seq (.aa [xo 49 1,xm 50 6,xm 51 8,⟨(some 52),.sR (.s 49) (some (.s 50)) (some (.s 51)),none⟩,xc 99 53 [.s 52],⟨(some 54),.not (.s 53),none⟩])
 (.cond (.s 54) (.seq (.aa [xm 55 6,⟨(some 56),.build [(.int .i64 0),(.int .i64 0)] [(0,1,(.c (.int .i64 1))),(1,1,(.s 55))],none⟩,⟨(some 2),.mv (.c (.sl .full 3 [])),none⟩,xs 2 3 56])
 (.ret))
 (.skip)))
 (.seq (.aa [xm 57 5,xo 58 1,xm 59 6,xm 60 8,⟨(some 61),.sR (.s 58) (some (.s 59)) (some (.s 60)),none⟩,xm 62 6,⟨(some 63),.build [(.int .u8 0),(.str []),(.int .i64 0)] [(0,1,(.c (.int .u8 97))),(1,1,(.s 61)),(2,1,(.s 62))],none⟩,⟨(some 64),.cR 3 [(.s 63)],none⟩,xa 3 65 57 64,xm 5 65])
 (.aa [xm 66 8,xm 6 66]))))))))))
 (.seq (.aa [xm 67 5,⟨(some 68),.build [(.int .i64 0),(.int .i64 0)] [],none⟩,xm 2 67,xs 2 3 68])
 (.ret))))))))
theorem aht:aK prog 44 Qr [.tmp 2,.cell 3 true 2] 69:=⟨f44,⟨[1],[],[]⟩,func44,by kernel_rfl,by kernel_rfl,by kernel_rfl,by kernel_rfl⟩
abbrev HA (s:List UInt8) (σ:ae) (p:Nat) (R:List Tok × Option Int):={q:Nat × Nat × Nat × List Tok // (σ.set p [.str s]).aC q.2.2.1=none∧d_ q.1 q.2.1 (s.drop q.2.1) q.2.2.2=R∧q.2.2.2.length≤q.2.1∧q.2.1≤s.length∧s.length≤q.2.1+q.1}
def t_ (s:List UInt8) (σ:ae) (p a τ:Nat) (acc:List Tok):St :=
  ⟨[.str s,.ptr (.out p) 0,.any,.ptr (.loc 0) 0,.fn (.func 95) [] [.ptr (.out p) 0],.sl (.tk τ) 3 (acc.map Tok.enc),.int .i64 (a:Nat)]++List.replicate 62 .any,[[.int .i64 0,.int .i64 0]],(σ.set p [.str s]).aL τ acc.length⟩
theorem alj (s:List UInt8) (σ:ae) (hb:s.length+1≤aF):al prog 44 [.str s] σ fun v σ' => v = .aX [.sl .no 3 ((c_ s).1.map Tok.enc),Bo (c_ s).2]∧σ' = σ:=by
  simp only[aF] at hb;generalize hR:c_ s=R;refine aht.calls ?_;simp only[aJ,Qr,am,aR];refine iw fun p hp=>?_
  simp only[am,cf];have mD:∀τ m,((σ.set p [.str s]).aL τ m).box p=some [.str s]:=fun τ m=>by simp[ae.aL,ae.set]
  have lz:∀τ m,(σ.set p [.str s]).aC τ=none→σ.sub ((σ.set p [.str s]).aL τ m):=fun τ m h=>ae.yE (fU hp) (rp h)
  refine j6 (fun q:HA s σ p R=>t_ s σ p q.1.2.1 q.1.2.2.1 q.1.2.2.2) (fun q=>s.length - q.1.2.1) ?_ ?_
  · refine ba.yI 0 fun τ bh=>⟨⟨(s.length,0,τ,[]),bh,hR,by simp,by simp,by simp⟩,?_,rfl,rfl⟩
    simp[t_,List.replicate,od]
  · rintro⟨⟨n,a,τ,acc⟩,bh,hR,h1,U,h3⟩;simp only at bh hR h1 U h3;simp only[t_,List.replicate,am];refine fL ?_ ?_
    · intro aj;have aj:a<s.length:=by simpa using aj
      obtain⟨m,rfl⟩:∃m,n=m+1:=⟨n - 1,by omega⟩;rw[drop_cons aj] at hR;rw[ali,←drop_cons aj] at hR;have cn:=aqu (s:=s) (a:=a);have w1:IntKind.i64.wrap ((a:Int)+1)=((a+1:Nat):Int):=by rw[wrap_i64 (by omega) (by omega)];simp
      have again:∀(b:Nat) (y7 : List Tok) (t:List V) (l:List (List V)),d_ m b (s.drop b) y7 = R→y7.length≤b→a<b→b≤s.length →
          ck t (t_ s σ p b τ y7).t→l=[[.int .i64 0,.int .i64 0]] →
          ba ⟨t,l,(σ.set p [.str s]).aL τ y7.length⟩ fun aq => ∃j:HA s σ p R,aq = t_ s σ p j.1.2.1 j.1.2.2.1 j.1.2.2.2∧s.length - j.1.2.1<s.length - a:=fun b y7 t l e1 e2 e3 e4 e5 e6=>by
        refine ba.again (μ:=fun q:HA s σ p R=>s.length - q.1.2.1) (I:=fun q=>t_ s σ p q.1.2.1 q.1.2.2.1 q.1.2.2.2) ⟨(m,b,τ,y7),bh,e1,e2,e4,by simp only;omega⟩ (by simp;omega) e5 (by rw[e6];exact cj.rfl) bG.rfl
      simp only[am];refine z_ (by omega) (Dc aj) ?_;simp only[am]
      by_cases kT:s[a].toNat=32∨s[a].toNat=9
      · rw[ak kT] at hR
        by_cases h32:s[a].toNat=32
        case' pos=>simp only[am,cf,Nat.reduceAdd,Nat.reduceEqDiff,aD (show ((s[a].toNat:Nat):Int)=32 by omega),w1]
        case' neg=>simp only[am,cf,Nat.reduceAdd,Nat.reduceEqDiff,aB (show ¬((s[a].toNat:Nat):Int)=32 by omega),aD (show ((s[a].toNat:Nat):Int)=9 by omega),w1]
        all_goals exact again (a+1) acc _ _ hR (by omega) (by omega) (by omega) (by simp[t_,List.replicate,am]) rfl
      · rw[ah kT] at hR;simp only[am,aB (show ¬((s[a].toNat:Nat):Int)=32 by omega),aB (show ¬((s[a].toNat:Nat):Int)=9 by omega)];refine(ab' s a _ aj (by simp only[aF];omega)).mono ?_;rintro v σ' ⟨rfl,rfl⟩
        by_cases vn:s[a].toNat=45∧(s.drop (a+1)).head?.map UInt8.toNat=some 45
        · rw[ak vn] at hR;simp only[am,cf,Nat.reduceAdd,Nat.reduceEqDiff,aD vn];refine aG rfl (lz τ _ bh) ⟨?_,rfl⟩;simp[V.erase,a9,←hR,Bo,eN]
        · rw[ah vn] at hR;simp only[am,aB vn];refine(ara (s[a].toNat:Nat) _).mono ?_;rintro v σ' ⟨rfl,rfl⟩;cases Uu:lf (s[a].toNat:Nat)
          · rw[ah (by simp[Uu])] at hR;simp only[am];refine(ad_ (s:=s) (mD τ _) (by omega) (by simp only[aF];omega)).mono ?_;rintro v σ' ⟨rfl,rfl⟩;simp only[am,cf];refine Mq (by omega) (by omega) ?_;rw[R_];simp only[am];refine(qX (ei (s.drop a)) _).mono ?_;rintro v σ' ⟨rfl,rfl⟩;cases Fv:cV (ei (s.drop a))
            · rw[ah (by simp[Fv])] at hR;simp only[am,cf,Nat.reduceAdd];refine aG rfl (lz τ _ bh) ⟨?_,rfl⟩;simp[V.erase,a9,←hR,Bo,eN]
            · rw[ak Fv] at hR;have hN:0<(ei (s.drop a)).length:=by
                cases hq:ei (s.drop a) with
                | nil=>rw[hq] at Fv;simp[cV] at Fv
                | cons _ _=>simp
              simp only[am,cf];refine Mq (by omega) (by omega) ?_;rw[R_];simp only[am,Nat.reduceAdd];refine ke (by simp[aF];omega) (by rw[aE,lK]) ?_;simp only[am,aE,j5];have e:acc.length+1=(acc++[(⟨97,ei (s.drop a),a⟩:Tok)]).length:=by simp
              rw[e];rw[uR] at hR;exact again (a+(ei (s.drop a)).length) _ _ _ hR (by simp;omega) (by omega) (by omega) (by simp[t_,List.replicate,am,Tok.enc]) rfl
          · rw[ak Uu] at hR;simp only[am,cf,w1];refine Mq (by omega) (by omega) ?_;rw[acJ aj];simp only[am,Nat.reduceAdd];refine ke (by simp[aF];omega) (by rw[aE,lK]) ?_;simp only[am,cf,Nat.reduceAdd,Nat.reduceEqDiff,aE,j5,w1];have e:acc.length+1=(acc++[(⟨(s[a].toNat:Nat),[s[a]],a⟩:Tok)]).length:=by simp
            rw[e];exact again (a+1) _ _ _ hR (by simp;omega) (by omega) (by omega) (by simp[t_,List.replicate,am,Tok.enc]) rfl
    · intro aj;have aj:a=s.length:=by simp at aj;omega
      subst aj;rw[DF] at hR;have nh : (acc,none)=R:=by cases n<;>simpa [d_] using hR
      simp only[am,cf,Nat.reduceAdd];refine aG rfl (lz τ _ bh) ⟨?_,rfl⟩;simp[V.erase,a9,←nh,Bo,eN]
def Qs:AC:=.seq (.aa [⟨(some 2),.mv (.c (.sl .full 5 [])),none⟩,⟨(some 3),.alloc [(.int .i64 0),(.int .i64 0)],none⟩])
 (.seq (.aa [⟨(some 4),.mv (.c (.sl .full 4 [])),none⟩])
 (.seq (.aa [⟨(some 5),.mv (.c (.sl .full 5 [])),none⟩])
 (.seq (.seq (.aa [xm 11 0,xL 12 11,xi 13 0])
 (.block 0 (.loop (.seq (.aa [xb .lss 14 13 12])
 (.seq (.cond (.s 14) (.skip)
 (.exit 0))
 (.seq (.block 1 (.seq (.aa [xA 3 15 11 13,xl 3 16 15,⟨(some 7),.alloc [(.int .u8 0),(.str []),(.int .i64 0)],none⟩,xs 3 7 16])
 (.seq (.aa [xm 17 4,xL 18 17,xm 8 18])
 (.block 2 (.seq (.aa [xf 0 27 7,xo 28 27,xc 100 29 [.s 28],xu .neq 30 29 0,xm 26 30])
 (.cond (.s 26) (.seq (.seq (.aa [xm 31 8,xB .geq 32 31 24])
 (.cond (.s 32) (.seq (.aa [xl 3 33 7,xc 101 34 [.s 33],xe 35 34 0,xe 36 34 1,xm 2 35,xs 2 3 36])
 (.ret))
 (.skip)))
 (.seq (.aa [xm 37 4,xl 3 38 7,xm 39 5,⟨(some 40),.build [(.int .u8 0),(.str []),(.int .i64 0),(.sl .full 5 [])] [(0,3,(.s 38)),(3,1,(.s 39))],none⟩,⟨(some 41),.own (.kx 4) [(.s 40)],none⟩,xa 4 42 37 41,xm 4 42])
 (.aa [⟨(some 5),.mv (.c (.sl .full 5 [])),none⟩])))
 (.seq (.aa [xf 0 44 7,xo 45 44,xc 102 46 [.s 45],xm 43 46])
 (.cond (.s 43) (.seq (.seq (.draw [(xm 47 8,[]),(xB .eql 48 47 0,[]),(xm 49 48,[]),(xh 49 (xm 50 4),[]),(xh 49 (xm 51 8),[]),(xh 49 (xB .sub 52 51 1),[]),(xh 49 (xA 4 53 50 52),[]),(xh 49 (xf 0 54 53),[]),(xh 49 (xf 0 55 54),[]),(xh 49 (xo 56 55),[]),(xh 49 (xc 100 57 [.s 56]),[]),(xh 49 (xf 0 58 7),[]),(xh 49 (xo 59 58),[0]),(xh 49 (xb .neq 60 57 59),[]),(⟨(some 61),.pick (.s 49) (.c (.bool true)) (.s 60),none⟩,[])])
 (.cond (.s 61) (.seq (.aa [xl 3 62 7,xc 101 63 [.s 62],xe 64 63 0,xe 65 63 1,xm 2 64,xs 2 3 65])
 (.ret))
 (.skip)))
 (.seq (.aa [xm 66 4,xm 67 8,xB .sub 68 67 1,xA 4 69 66 68,xl 4 70 69,⟨(some 9),.alloc [(.int .u8 0),(.str []),(.int .i64 0),(.sl .full 5 [])],none⟩,xs 4 9 70])
 (.seq (.aa [xm 71 4,xm 72 8,xB .sub 73 72 1,xm 74 8,xB .sub 75 74 1,⟨(some 76),.lg 4 (.s 71) none (some (.s 73)) (some (.s 75)),none⟩,xm 4 76])
 (.aa [xf 3 77 9,xo 78 77,xf 0 79 9,xl 3 80 79,xm 81 5,xf 2 82 7,xo 83 82,⟨(some 84),.build [(.int .u8 0),(.str []),(.int .i64 0),(.sl .full 5 []),(.int .i64 0)] [(0,3,(.s 80)),(3,1,(.s 81)),(4,1,(.s 83))],none⟩,⟨(some 85),.cR 5 [(.s 84)],none⟩,xa 5 86 78 85,xm 5 86]))))
 (.aa [xm 19 5,xl 3 20 7,xf 2 21 7,xo 22 21,⟨(some 23),.build [(.int .u8 0),(.str []),(.int .i64 0),(.sl .full 5 []),(.int .i64 0)] [(0,3,(.s 20)),(4,1,(.s 22))],none⟩,⟨(some 24),.cR 5 [(.s 23)],none⟩,xa 5 25 19 24,xm 5 25])))))))))
 (.aa [xB .add 87 13 1,xm 13 87])))))))
 (.seq (.seq (.aa [xm 88 4,xL 89 88,xm 10 89])
 (.seq (.aa [xm 90 10,xB .gtr 91 90 0])
 (.cond (.s 91) (.seq (.aa [xm 92 4,xm 93 10,xB .sub 94 93 1,xA 4 95 92 94,xf 0 96 95,xl 3 97 96,xc 101 98 [.s 97],xe 99 98 0,xe 100 98 1,xm 2 99,xs 2 3 100])
 (.ret))
 (.skip))))
 (.seq (.aa [xm 101 5,⟨(some 102),.build [(.int .i64 0),(.int .i64 0)] [],none⟩,xm 2 101,xs 2 3 102])
 (.ret))))))
theorem ahu:aK prog 45 Qs [.tmp 2,.cell 3 true 2] 103:=⟨f45,⟨[41],[],[]⟩,func45,by kernel_rfl,by kernel_rfl,by kernel_rfl,by kernel_rfl⟩
def N2:AC:=.seq (.aa [⟨(some 2),.mv (.c (.int .u8 0)),none⟩])
 (.seq (.aa [⟨(some 3),.mv (.c (.int .u8 0)),none⟩])
 (.seq (.seq (.aa [xm 4 0])
 (.block 0 (.seq (.block 2 (.seq (.block 1 (.seq (.seq (.seq (.seq (.aa [xu .eql 6 4 123,xm 5 6])
 (.cond (.s 5) (.skip)
 (.aa [xu .eql 7 4 91,xm 5 7])))
 (.cond (.s 5) (.exit 1)
 (.skip)))
 (.seq (.aa [xu .eql 9 4 40,xm 8 9])
 (.cond (.s 8) (.exit 2)
 (.skip))))
 (.exit 0)))
 (.aa [xm 10 3,xu .add 11 10 1,xm 3 11])))
 (.seq (.seq (.aa [xm 12 0,xu .add 13 12 1,xm 14 3,xb .add 15 13 14,xm 2 15])
 (.ret))
 (.exit 0)))))
 (.seq (.aa [⟨(some 2),.mv (.c (.int .u8 0)),none⟩])
 (.ret))))
theorem aff:aK prog 100 N2 [.tmp 2] 16:=⟨f100,⟨[],[],[]⟩,func100,by kernel_rfl,by kernel_rfl,by kernel_rfl,by kernel_rfl⟩
def N3:AC:=.seq (.aa [⟨(some 1),.box 3 (.s 0),none⟩,⟨(some 2),.mv (.c (.sl .full 5 [])),none⟩,⟨(some 3),.alloc [(.int .i64 0),(.int .i64 0)],none⟩])
 (.seq (.draw [(xf 2 4 1,[]),(xo 5 4,[]),(⟨(some 6),.build [(.int .i64 0),(.int .i64 0)] [(0,1,(.c (.int .i64 2))),(1,1,(.s 5))],none⟩,[]),(⟨(some 2),.mv (.c (.sl .full 5 [])),none⟩,[]),(xs 2 3 6,[])])
 (.ret))
theorem afg:aK prog 101 N3 [.tmp 2,.cell 3 true 2] 7:=⟨f101,⟨[],[],[]⟩,func101,by kernel_rfl,by kernel_rfl,by kernel_rfl,by kernel_rfl⟩
def N4:AC:=.seq (.aa [⟨(some 2),.mv (.c (.bool false)),none⟩])
 (.seq (.aa [xm 3 0,xu .eql 4 3 41,xm 5 4,xh 5 (xm 6 0),xh 5 (xu .eql 7 6 125),⟨(some 8),.pick (.s 5) (.c (.bool true)) (.s 7),none⟩,xm 9 8,xh 9 (xm 10 0),xh 9 (xu .eql 11 10 93),⟨(some 12),.pick (.s 9) (.c (.bool true)) (.s 11),none⟩,xm 2 12])
 (.ret))
theorem afh:aK prog 102 N4 [.tmp 2] 13:=⟨f102,⟨[],[],[]⟩,func102,by kernel_rfl,by kernel_rfl,by kernel_rfl,by kernel_rfl⟩
theorem RH (c:Int) (σ:ae):al prog 100 [.int .u8 c] σ fun v σ' => v = .int .u8 (closing c)∧σ' = σ:=by
  refine aff.calls ?_;simp only[aJ,N2,am,aR]
  by_cases h1:c=123
  · subst h1;simp only[am,Nat.reduceEqDiff,bZ];refine az ?_;simp[V.erase];rfl
  · simp only[am,aB h1]
    by_cases U:c=91
    · subst U;simp only[am,Nat.reduceEqDiff,bZ];refine az ?_;simp[V.erase];rfl
    · simp only[am,aB U]
      by_cases h3:c=40
      · subst h3;simp only[am,Nat.reduceEqDiff,bZ];refine az ?_;simp[V.erase];rfl
      · simp only[am,Nat.reduceEqDiff,aB h3];refine az ?_;simp[V.erase,closing,h1,U,h3]
theorem ab2 (c:Int) (σ:ae):al prog 102 [.int .u8 c] σ fun v σ' => v = .bool (jN c)∧σ' = σ:=by
  refine afh.calls ?_;simp only[aJ,N4,am,aR]
  repeat' (first
    | (refine jO (fun h=>?_) (fun h=>?_)<;>simp only[am,h])
    | (refine fL (fun h=>?_) (fun h=>?_)<;>simp only[sZ,h,Nat.reduceAdd,Nat.reduceEqDiff,aE])
    | (refine j1 (fun h=>?_) (fun h=>?_)<;>simp only[sZ,h,Nat.reduceAdd,Nat.reduceEqDiff,aE])
  )
  all_goals refine az ?_
  all_goals simp_all [V.erase,jN]
  all_goals (try omega)
theorem Ei (t:Tok) (σ:ae):al prog 101 [.agg t.enc] σ fun v σ' => v = .aX [.sl .no 5 [],iT (some t.pos)]∧σ' = σ:=by
  refine afg.calls ?_;simp only[aJ,N3,am,aR,Tok.enc,am];refine az ?_;simp[V.erase,a9,iT,cz,eN]
structure gz where
  tok:Tok
  tk:Tk
  ahead:List Tree
def gz.enc (x:gz):List V:=[.int .u8 x.tok.kind,.str x.tok.text,.int .i64 x.tok.pos,.sl x.tk 5 (cK x.ahead)]
def gz.pair (x:gz):Tok × List Tree:=(x.tok,x.ahead)
def gz.tn (x:gz):Tk × Nat:=(x.tk,(cK x.ahead).length)
structure y6 where
  i:Nat
  G5:Tk
  op:List gz
  AG:Tk
  row:List Tree
  τ:ae
def qR (l:List Tok) (q:y6):St :=
  ⟨[.sl .no 3 (l.map Tok.enc),.any,.any,.ptr (.loc 0) 0,.sl q.G5 4 (q.op.map gz.enc),.sl q.AG 5 (cK q.row)]++List.replicate 5 .any++[.sl .no 3 (l.map Tok.enc),.int .i64 l.length,.int .i64 (q.i:Nat)]++List.replicate 89 .any,[[.int .i64 0,.int .i64 0]],q.τ⟩
def D5 (l:List Tok) (σ:ae) (R:List Tree × Option Int) (q:y6):Prop :=
  q.i≤l.length∧fe (l.drop q.i) (q.op.map gz.pair) q.row=R∧im σ q.τ ((q.G5,(q.op.map gz.enc).length)::(q.AG,(cK q.row).length)::q.op.map gz.tn)∧q.op.length≤q.i∧q.row.length≤q.i∧∀x∈q.op,x.ahead.length+1≤q.i
theorem Ye {α:Type} (l:List α):l=[]∨∃ys x,l=ys++[x]:=by
  rcases Nt l with h | ⟨ys,x,h⟩
  · exact .inl h
  · exact .inr ⟨ys,x,by rw[h];simp⟩
theorem ar5 (l:List Tok) (σ:ae) (hb:l.length+1≤aF):al prog 45 [.sl .no 3 (l.map Tok.enc)] σ fun v σ' => v = .aX [.sl .no 5 (cK (fe l [] []).1),iT (fe l [] []).2]∧σ' = σ:=by
  simp only[aF] at hb;generalize hR:fe l [] []=R;refine ahu.calls ?_;simp only[aJ,Qs,am,aR];refine j6 (fun q:{q:y6 // D5 l σ R q}=>qR l q.1) (fun q=>l.length - q.1.i) ?_ ?_
  · refine ba.enter ⟨⟨0,.full,[],.full,[],σ⟩,by simp,hR,im.init (by simp),by simp,by simp,by simp⟩ ?_ cj.rfl bG.rfl;simp[qR,List.replicate,am,cK]
  · rintro⟨⟨i,G5,op,AG,row,τ⟩,h1,hR,hT,fG,dg,o7⟩;simp only at h1 hR hT fG dg o7;simp only[qR,List.replicate,am];refine fL ?_ ?_
    · intro aj;have aj:i<l.length:=by simpa using aj
      rw[kN aj] at hR;have ajN:ia l i=l[i]:=by simp[ia,aj]
      rw[←ajN] at hR;generalize ht:ia l i=t at hR;have wi:IntKind.i64.wrap ((i:Int)+1)=((i+1:Nat):Int):=by rw[wrap_i64 (by omega) (by omega)];simp
      have again:∀(q:y6) (t:List V) (m:List (List V)),D5 l σ R q→q.i=i+1→ck t (qR l q).t→cj (m.take 1) [[.int .i64 0,.int .i64 0]] →
          ba ⟨t,m,q.τ⟩ fun aq => ∃j:{q:y6 // D5 l σ R q},aq = qR l j.1∧l.length - j.1.i<l.length - i:=fun q t m hq hi ht hm=>by
        refine ba.rT (I:=fun q:{q:y6 // D5 l σ R q}=>qR l q.1) (μ:=fun q=>l.length - q.1.i) ⟨q,hq⟩ (by simp only;omega) ht hm bG.rfl (by simp[qR,List.replicate,bx,V.lo]) (by simp[qR,c8,bx,V.lo])
      simp only[am];refine bD (by omega) (arP aj) ?_;rw[ht];simp only[am,Nat.reduceAdd,aE,Tok.enc];refine(RH t.kind _).mono ?_;rintro v σ' ⟨rfl,rfl⟩;simp only[fe] at hR
      by_cases hc:closing t.kind=0
      · rw[ah (by simp[hc])] at hR;simp only[am,aD hc];refine(ab2 t.kind _).mono ?_;rintro v σ' ⟨rfl,rfl⟩;cases fW:jN t.kind
        · rw[fW] at hR;simp only[cI,bP] at hR;simp only[am,Nat.reduceAdd];refine H4 (hT.perm (List.Perm.swap _ _ _)) (by rw[jn];simp[aF];omega) fun υ qh=>?_
          simp only[jn,aE,cG,dv,gQ] at qh;simp only[am,jn,wi];have e:cK row++[[V.int .u8 t.kind,.str t.text,.int .i64 t.pos,.sl .no 5 [],.int .i64 t.pos]]=cK (row++[.mk t [] t.pos]):=by simp[qE,Tree.enc,cK]
          rw[e];refine again ⟨i+1,G5,op,.tk υ,row++[.mk t [] t.pos],σ'.aL υ (row.length+1)⟩ _ _ ⟨aj,hR,?_,by simp only;omega,by simp;omega,fun x hx=>by have:=o7 x hx;simp only;omega⟩ rfl (by simp[qR,List.replicate,am]) (by simp[am]);refine im.perm ?_ (List.Perm.swap _ _ _);simpa [jn] using qh
        · rw[fW] at hR;simp only[b7] at hR
          rcases Ye op with rfl | ⟨ys,x,rfl⟩
          · simp only[dp,List.getLast?_nil] at hR;simp only[am,dp,dv,show decide (((0:Nat):Int)=0)=true from rfl];refine(Ei t _).mono ?_;rintro v σ' ⟨rfl,rfl⟩;simp only[am,Nat.reduceAdd,iT];refine aG rfl hT.1 ⟨?_,rfl⟩;simp[V.erase,a9,←hR,cz,eN,cK]
          · have aI:¬(((ys++[x]).length:Nat):Int)=0:=by simp;omega
            have wn:IntKind.i64.wrap ((((ys++[x]).length:Nat):Int) - 1)=(ys.length:Nat):=by rw[wrap_i64 (by simp<;>omega) (by simp at fG ⊢<;>omega)];simp
            have eQ:((ys++[x]).map gz.enc)[((ys.length:Nat):Int).toNat]?=some x.enc:=by simp
            simp only[fE,bC,dp,DN,HE,gz.pair] at hR;simp only[am,aB aI,wn];refine bD (by omega) (eQ) ?_;simp only[am,gz.enc];refine br.intro (RH x.tok.kind _) ?_;simp only[am]
            by_cases hk:closing x.tok.kind=t.kind
            · rw[ak hk] at hR;simp only[am,aD hk,wn];refine bD (by omega) (eQ) ?_;simp only[am,cf,Nat.reduceAdd,gz.enc,wn];refine ari (by simp) ?_;have BV:im σ σ' ((x.tk,(cK x.ahead).length)::ys.map gz.tn):=by
                refine(hT.tail.tail).perm ?_;simp only[fE,bC,dp,gz.tn];exact Zo _ _
              have hx3:=o7 x (by simp);simp only[bw,cG,dv] at fG;simp only[am,Nat.reduceAdd];refine H4 BV (by rw[jn];simp[aF];omega) fun υ qh=>?_
              simp only[jn,cG,dv,gQ] at qh;simp only[am,jn,wi];have e:cK x.ahead++[[V.int .u8 x.tok.kind,.str x.tok.text,.int .i64 x.tok.pos,.sl .no 5 (cK row),.int .i64 t.pos]]=cK (x.ahead++[.mk x.tok row t.pos]):=by simp[qE,Tree.enc]
              have e2:((ys++[x]).map gz.enc).take ys.length=ys.map gz.enc:=by simp
              rw[e,e2];refine again ⟨i+1,.full,ys,.tk υ,x.ahead++[.mk x.tok row t.pos],σ'.aL υ (x.ahead.length+1)⟩ _ _ ⟨aj,hR,?_,by simp only;omega,by simp;omega,fun y hy=>by have:=o7 y (by simp[hy]);simp only;omega⟩ rfl (by simp[qR,List.replicate,am]) (by simp[am]);refine im.full ?_;simpa [jn] using qh
            · rw[ah hk] at hR;simp only[am,aB hk];refine(Ei t _).mono ?_;rintro v σ' ⟨rfl,rfl⟩;simp only[am,Nat.reduceAdd,iT];refine aG rfl hT.1 ⟨?_,rfl⟩;simp[V.erase,a9,←hR,cz,eN,cK]
      · rw[ak hc] at hR;simp only[am,aB hc];rw[aE] at hR
        by_cases qH:24≤op.length
        · rw[ak qH] at hR;simp only[am,aD (show (24:Int)≤op.length by omega)];refine(Ei t _).mono ?_;rintro v σ' ⟨rfl,rfl⟩;simp only[am,Nat.reduceAdd,iT];refine aG rfl hT.1 ⟨?_,rfl⟩;simp[V.erase,a9,←hR,cz,eN,cK]
        · rw[ah qH] at hR;simp only[am,mY,Nat.reduceAdd,aB (show ¬(24:Int)≤op.length by omega),aoa];refine H4 hT (by simp[aF];omega) fun υ qh=>?_
          simp only[aE,cG,dv,gQ] at qh;simp only[am,aE,wi];have e:op.map gz.enc++[[V.int .u8 t.kind,.str t.text,.int .i64 t.pos,.sl AG 5 (cK row)]]=(op++[(⟨t,AG,row⟩:gz)]).map gz.enc:=by simp[gz.enc]
          rw[e];refine again ⟨i+1,.tk υ,op++[⟨t,AG,row⟩],.full,[],σ'.aL υ (op.length+1)⟩ _ _ ⟨aj,by simpa [gz.pair] using hR,?_,by simp;omega,by simp,fun x hx=>?_⟩ rfl (by simp[qR,List.replicate,am,cK]) (by simp[am])
          · simp only[aE,bw,cG,dv,gQ,fE,bC,dp,gz.tn];refine im.perm (im.full (n:=(cK []).length) qh) ?_;refine(List.Perm.swap _ _ _).trans (List.Perm.cons _ (List.Perm.cons _ ?_));exact(Zo _ _).symm
          · rcases il.1 hx with hx | hx
            · have:=o7 x hx;simp only;omega
            · simp at hx;subst hx;simp only;omega
    · intro aj;have aj:i=l.length:=by simp at aj;omega
      subst aj;rw[DF] at hR;simp only[fe] at hR;simp only[am,aE];refine fL ?_ ?_
      · intro h0
        rcases Ye op with rfl | ⟨ys,x,rfl⟩
        · simp at h0
        have wn:IntKind.i64.wrap ((((ys++[x]).length:Nat):Int) - 1)=(ys.length:Nat):=by rw[wrap_i64 (by simp<;>omega) (by simp at fG ⊢<;>omega)];simp
        have eQ:((ys++[x]).map gz.enc)[((ys.length:Nat):Int).toNat]?=some x.enc:=by simp
        simp only[fE,bC,dp,DN,gz.pair] at hR;simp only[am,wn];refine bD (by omega) (eQ) ?_;simp only[am,gz.enc];refine(Ei x.tok _).mono ?_;rintro v σ' ⟨rfl,rfl⟩;simp only[am,Nat.reduceAdd,iT];refine aG rfl hT.1 ⟨?_,rfl⟩;simp[V.erase,a9,←hR,cz,eN,cK]
      · intro h0;have h0:op=[]:=by
          cases op with
          | nil=>rfl
          | cons x xs=>simp at h0<;>omega
        subst h0;simp only[dp,List.getLast?_nil] at hR;simp only[am,Nat.reduceAdd];refine aG rfl hT.1 ⟨?_,rfl⟩;simp[V.erase,a9,←hR,iT,cz,eN]
def Qt:AC:=.seq (.aa [⟨(some 2),.alloc [(.str []),(.int .i64 0)],none⟩])
 (.seq (.aa [xm 4 0,xc 103 5 [.s 4,.c (.int .u8 97)],⟨(some 3),.alloc [(.int .u8 0),(.str []),(.int .i64 0),(.sl .full 5 []),(.int .i64 0)],none⟩,xs 5 3 5])
 (.seq (.aa [xf 0 6 3,xf 1 7 6,xo 8 7,xf 0 9 3,xf 2 10 9,xo 11 10,⟨(some 12),.build [(.str []),(.int .i64 0)] [(0,1,(.s 8)),(1,1,(.s 11))],none⟩,xs 2 2 12])
 (.ret)))
theorem ahv:aK prog 46 Qt [.cell 2 true 2] 13:=⟨f46,⟨[],[],[]⟩,func46,by kernel_rfl,by kernel_rfl,by kernel_rfl,by kernel_rfl⟩
def Qv:AC:=.seq (.seq (.aa [xm 2 0,xk 3 2,xf 3 4 3,xf 0 5 4,xo 6 5,xB .neq 7 6 0])
 (.cond (.s 7) (.ret)
 (.skip)))
 (.seq (.aa [xm 8 0,xm 9 0,xk 10 9,xf 2 11 10,xo 12 11,⟨(some 13),.build [(.int .i64 0),(.int .i64 0)] [(0,1,(.c (.int .i64 2))),(1,1,(.s 12))],none⟩,xk 14 8,xf 3 15 14,xs 2 15 13])
 (.seq (.draw [(xm 16 0,[]),(xk 17 16,[]),(xf 1 18 17,[]),(xo 19 18,[]),(xm 20 0,[]),(xk 21 20,[]),(xf 0 22 21,[]),(xo 23 22,[]),(xL 24 23,[]),(xb .lss 25 19 24,[])])
 (.cond (.s 25) (.draw [(xm 26 0,[]),(xm 27 0,[]),(xk 28 27,[]),(xf 0 29 28,[]),(xo 30 29,[]),(xm 31 0,[]),(xk 32 31,[]),(xf 1 33 32,[]),(xo 34 33,[]),(xA 5 35 30 34,[]),(xf 0 36 35,[]),(xf 2 37 36,[]),(xo 38 37,[]),(xk 39 26,[]),(xf 3 40 39,[]),(xf 1 41 40,[]),(xs 1 41 38,[])])
 (.skip))))
theorem ahx:aK prog 49 Qv [] 42:=⟨f49,⟨[],[],[]⟩,func49,by kernel_rfl,by kernel_rfl,by kernel_rfl,by kernel_rfl⟩
def N5:AC:=.seq (.aa [⟨(some 4),.alloc [(.int .u8 0),(.str []),(.int .i64 0),(.sl .full 5 []),(.int .i64 0)],none⟩])
 (.seq (.seq (.draw [(xm 5 0,[]),(xk 6 5,[]),(xf 3 7 6,[]),(xf 0 8 7,[]),(xo 9 8,[]),(xB .neq 10 9 0,[]),(xm 11 10,[]),(xh 11 (xm 12 0),[]),(xh 11 (xk 13 12),[]),(xh 11 (xf 1 14 13),[]),(xh 11 (xo 15 14),[]),(xh 11 (xm 16 0),[]),(xh 11 (xk 17 16),[]),(xh 11 (xf 0 18 17),[]),(xh 11 (xo 19 18),[]),(xh 11 (xL 20 19),[]),(xh 11 (xb .geq 21 15 20),[]),(⟨(some 22),.pick (.s 11) (.c (.bool true)) (.s 21),none⟩,[]),(xm 23 22,[]),(xh 23 (xm 24 0),[]),(xh 23 (xk 25 24),[]),(xh 23 (xf 0 26 25),[]),(xh 23 (xo 27 26),[]),(xh 23 (xm 28 0),[]),(xh 23 (xk 29 28),[]),(xh 23 (xf 1 30 29),[]),(xh 23 (xo 31 30),[]),(xh 23 (xA 5 32 27 31),[]),(xh 23 (xf 0 33 32),[]),(xh 23 (xf 0 34 33),[]),(xh 23 (xo 35 34),[]),(xh 23 (xm 36 1),[]),(xh 23 (xb .neq 37 35 36),[]),(⟨(some 38),.pick (.s 23) (.c (.bool true)) (.s 37),none⟩,[])])
 (.cond (.s 38) (.seq (.aa [xm 39 0,xc 49 40 [.s 39]])
 (.seq (.aa [⟨(some 41),.build [(.int .u8 0),(.str []),(.int .i64 0),(.sl .full 5 []),(.int .i64 0)] [],none⟩,xs 5 4 41])
 (.ret)))
 (.skip)))
 (.seq (.aa [xm 42 0,xk 43 42,xf 1 44 43,xo 45 44,xB .add 46 45 1,xk 47 42,xf 1 48 47,xs 1 48 46])
 (.seq (.draw [(xm 49 0,[]),(xk 50 49,[]),(xf 0 51 50,[]),(xo 52 51,[]),(xm 53 0,[]),(xk 54 53,[]),(xf 1 55 54,[]),(xo 56 55,[]),(xB .sub 57 56 1,[]),(xA 5 58 52 57,[]),(xl 5 59 58,[]),(xs 5 4 59,[])])
 (.ret))))
theorem afi:aK prog 103 N5 [.cell 4 true 5] 60:=⟨f103,⟨[],[],[]⟩,func103,by kernel_rfl,by kernel_rfl,by kernel_rfl,by kernel_rfl⟩
def N8:AC:=.seq (.aa [⟨(some 5),.box 5 (.s 1),none⟩,⟨(some 7),.box 2 (.s 3),none⟩])
 (.seq (.seq (.aa [xf 0 8 7,xo 9 8,xB .neq 10 9 0])
 (.cond (.s 10) (.seq (.aa [xm 11 0,xl 2 12 7,xk 13 11,xf 3 14 13,xs 2 14 12])
 (.ret))
 (.skip)))
 (.seq (.aa [xm 15 0,xm 16 2,xk 17 15,xf 1 18 17,xs 1 18 16])
 (.seq (.seq (.aa [xm 19 0,xk 20 19,xf 5 21 20,xf 7 22 21,xf 0 23 22,xo 24 23,xB .eql 25 24 0])
 (.cond (.s 25) (.seq (.aa [xm 26 0,xl 5 27 5,xk 28 26,xf 5 29 28,xf 7 30 29,xs 5 30 27])
 (.ret))
 (.skip)))
 (.aa [xm 31 0,xl 5 32 5,xk 33 31,xf 5 34 33,xf 12 35 34,xs 5 35 32]))))
theorem afl:aK prog 106 N8 [] 36:=⟨f106,⟨[],[],[]⟩,func106,by kernel_rfl,by kernel_rfl,by kernel_rfl,by kernel_rfl⟩
theorem RB {r:Nat} {rd:ab} {cs:List V} {σ:ae} (h:σ.box r=some (rd.enc++cs)) (h0:0≤rd.at_):al prog 49 [.ptr (.out r) 0] σ fun v σ' => v = .aX []∧σ' = σ.set r (rd.fail.enc++cs):=by
  refine ahx.calls ?_;simp only[aJ,Qv,am,aR,am,h,ab.enc];cases hb:rd.bad with
  | some b =>
    simp only[am,fh,Int.reduceEq,cz];refine aG rfl (ae.aW _) ⟨rfl,?_⟩;rw[ab.fail,hb];exact(ae.wa h).symm
  | none =>
    simp only[am,Nat.reduceAdd,jn,bZ,cz,h,ab.enc]
    by_cases h1:rd.at_<rd.l.length
    · obtain⟨j,hj⟩:=A3 h0;have fX : j<rd.l.length:=by omega
      simp only[am,bZ,h1,bZ];refine bD h0 (c:=rd.l[j].enc) (by simp[qE,hj,fX]) ?_;simp only[am,Nat.reduceAdd,cD];refine aG rfl (ae.aW _) ⟨rfl,?_⟩;simp[ab.fail,ab.spot,hb,hj,fX,eN]
    · simp only[am,fh,h1,fh];refine aG rfl (ae.aW _) ⟨rfl,?_⟩
      have:rd.l[rd.at_.toNat]?=none:=wF (by omega)
      simp[ab.fail,ab.spot,hb,this,eN]
theorem Ev {r:Nat} {rd:ab} {k:Int} {cs:List V} {σ:ae} (h:σ.box r=some (rd.enc++cs)) (h0:0≤rd.at_) (hb:rd.l.length≤aF):al prog 103 [.ptr (.out r) 0,.int .u8 k] σ fun v σ' => v = .agg (rd.take k).1.enc∧σ' = σ.set r ((rd.take k).2.enc++cs):=by
  refine afi.calls ?_;simp only[aJ,N5,am,aR,am,h,ab.enc];have g_:rd.sees k=false→al prog 49 [.ptr (.out r) 0] σ fun v σ' => v = .aX []∧σ' = σ.set r (rd.fail.enc++cs):=fun _=>RB h h0
  cases eR:rd.bad with
  | some b =>
    have hs:rd.sees k=false:=by simp[ab.sees,ab.ok,eR]
    simp only[am,fh,Int.reduceEq,cz];refine(g_ hs).mono ?_;rintro v σ' ⟨rfl,rfl⟩;simp only[am,Nat.reduceAdd];refine aG rfl (ae.aW _) ⟨?_,?_⟩
    · simp[ab.take,hs,V.erase,a9,Tree.zero,Tree.enc,cK]
    · simp[ab.take,hs,ab.enc,cz]
  | none =>
    simp only[am,jn,bZ,cz,h,ab.enc]
    by_cases h1:rd.at_<rd.l.length
    · obtain⟨j,hj⟩:=A3 h0;have fX : j<rd.l.length:=by omega
      simp only[am,aB (show ¬(rd.l.length:Int)≤rd.at_ by omega),h,ab.enc];refine bD h0 (c:=rd.l[j].enc) (by simp[qE,hj,fX]) ?_;simp only[am,cD]
      by_cases hk:rd.l[j].tok.kind=k
      · have hs:rd.sees k=true:=by simp[ab.sees,ab.ok,eR,a8,hj,fX,hk]
        have w1:IntKind.i64.wrap (rd.at_+1)=rd.at_+1:=by simp only[aF] at hb;exact wrap_i64 (by omega) (by omega)
        have w2:IntKind.i64.wrap (rd.at_+1 - 1)=rd.at_:=by rw[show rd.at_+1 - 1=rd.at_ by omega];simp only[aF] at hb;exact wrap_i64 (by omega) (by omega)
        simp only[am,aD hk,h,ab.enc,w1,w2];refine bD h0 (c:=rd.l[j].enc) (by simp[qE,hj,fX]) ?_;simp only[am,Tree.af];refine aG Tree.cN (ae.aW _) ⟨?_,?_⟩
        · simp[ab.take,hs,V.erase,hj,fX,List.getD,Tree.af];exact cD _
        · simp[ab.take,hs,cz]
      · have hs:rd.sees k=false:=by simp[ab.sees,ab.ok,eR,a8,hj,fX,hk]
        simp only[am,aB hk];refine(g_ hs).mono ?_;rintro v σ' ⟨rfl,rfl⟩;simp only[am,Nat.reduceAdd];refine aG rfl (ae.aW _) ⟨?_,?_⟩
        · simp[ab.take,hs,V.erase,a9,Tree.zero,cK,Tree.tok,Tree.kids,Tree.fin]
        · simp[ab.take,hs,ab.enc,cz]
    · have hs:rd.sees k=false:=by
        have:rd.l[rd.at_.toNat]?=none:=wF (by omega)
        simp[ab.sees,ab.ok,eR,a8,this]
      simp only[am,aD (show (rd.l.length:Int)≤rd.at_ by omega)];refine(g_ hs).mono ?_;rintro v σ' ⟨rfl,rfl⟩;simp only[am,Nat.reduceAdd];refine aG rfl (ae.aW _) ⟨?_,?_⟩
      · simp[ab.take,hs,V.erase,a9,Tree.zero,Tree.enc,cK]
      · simp[ab.take,hs,ab.enc,cz]
theorem Bv {r:Nat} {rd:ab} {cs:List V} {σ:ae} (h:σ.box r=some (rd.enc++cs)) (h0:0≤rd.at_) (hb:rd.l.length≤aF):al prog 46 [.ptr (.out r) 0] σ fun v σ' => v = .agg rd.word.1.enc∧σ' = σ.set r (rd.word.2.enc++cs):=by
  refine ahv.calls ?_;simp only[aJ,Qt,am,aR];refine(Ev h h0 hb).mono ?_;rintro v σ' ⟨rfl,rfl⟩;simp only[am,Nat.reduceAdd,Tree.af,Tree.fl];refine aG rfl (ae.aW _) ⟨?_,?_⟩
  · simp[ab.word,V.erase,a9,Word.enc]
  · simp[ab.word]
theorem RO {r:Nat} {rd:ab} {c:ag} {pc:V} {g:Nd × Int × Option Int} {σ:ae} (h:σ.box r=some (rd.enc++c.cp pc)) (hb:rd.bad=none):al prog 106 [.ptr (.out r) 0,.agg g.1.enc,.int .i64 g.2.1,iT g.2.2] σ fun v σ' => v = .aX []∧σ' = σ.set r ((gW rd c g).1.enc++(gW rd c g).2.cp pc):=by
  refine afl.calls ?_;simp only[aJ,N8,am,aR,Nat.reduceAdd,Nd.af];simp only[am,Nat.reduceAdd,iT,ab.enc,ag.cp];cases hg:g.2.2 with
  | some a =>
    simp only[am,Nat.reduceAdd,fh,Int.reduceEq,cz,h,ab.enc,ag.cp];refine aG rfl (ae.aW _) ⟨rfl,?_⟩;simp[gW,hg]
  | none =>
    simp only[am,Nat.reduceAdd,bZ,cz,h,ab.enc,ag.cp]
    by_cases hk:c.left.kind=0
    · simp only[am,Nat.reduceAdd,aD hk,Nd.cD];refine aG rfl (ae.aW _) ⟨rfl,?_⟩;simp[gW,hg,hk]
    · simp only[am,Nat.reduceAdd,aB hk,Nd.cD];refine aG rfl (ae.aW _) ⟨rfl,?_⟩;simp[gW,hg,hk]
def Qh:AC:=.seq (.aa [⟨(some 2),.alloc [(.str []),(.str [])],none⟩])
 (.seq (.seq (.aa [xm 3 0,xB .lss 4 3 0,xm 5 4,xh 5 (xm 6 0),xh 5 (xB .geq 7 6 16),⟨(some 8),.pick (.s 5) (.c (.bool true)) (.s 7),none⟩])
 (.cond (.s 8) (.seq (.aa [⟨(some 9),.build [(.str []),(.str [])] [],none⟩,xs 2 2 9])
 (.ret))
 (.skip)))
 (.seq (.aa [xm 10 0,⟨(some 11),.fk 16 2 (.c (.ptr (.jt 0) 0)) (.s 10),none⟩,xl 2 12 11,xs 2 2 12])
 (.ret)))
theorem ahk:aK prog 35 Qh [.cell 2 true 2] 13:=⟨f35,⟨[],[],[]⟩,func35,by kernel_rfl,by kernel_rfl,by kernel_rfl,by kernel_rfl⟩
def Qu:AC:=.seq (.aa [xi 2 0])
 (.seq (.seq (.aa [xi 4 0])
 (.block 0 (.loop (.seq (.aa [xB .lss 5 4 16])
 (.seq (.cond (.s 5) (.skip)
 (.exit 0))
 (.seq (.block 1 (.seq (.aa [xm 6 4,xm 3 6])
 (.seq (.aa [xm 7 3,xB .gtr 8 7 0,xm 9 8,xg 9 (xm 10 3),⟨(some 11),.fk 16 2 (.c (.ptr (.jt 0) 0)) (.s 10),(some (9,true))⟩,xg 9 (xf 0 12 11),xg 9 (xo 13 12),xg 9 (xm 14 0),⟨(some 15),.iG .eql (.s 13) (.s 14),(some (9,true))⟩,⟨(some 16),.pick (.s 9) (.s 15) (.c (.bool false)),none⟩])
 (.cond (.s 16) (.seq (.aa [xm 17 3,xm 2 17])
 (.ret))
 (.skip)))))
 (.aa [xB .add 18 4 1,xm 4 18])))))))
 (.seq (.aa [xi 2 0])
 (.ret)))
theorem ahw:aK prog 47 Qu [.tmp 2] 19:=⟨f47,⟨[],[],[]⟩,func47,by kernel_rfl,by kernel_rfl,by kernel_rfl,by kernel_rfl⟩
theorem S7 {i:Nat} (h:i<16):fQ.drop (i*2)=[V.str (iU.getD i ([],[])).1,.str (iU.getD i ([],[])).2]++((iU.map fun p=>[V.str p.1,V.str p.2]).drop (i+1)).flatten:=by
  unfold fQ;rw[EK (k:=2) (by intro r hr;simp only[rI] at hr;obtain⟨p,_,rfl⟩:=hr;rfl),kN (by simpa [iU] using h)]
  have:i<iU.length:=by simpa [iU] using h
  simp[List.getD,this]
theorem Lk (op:Int) {σ:ae} (hg:σ.bR 0=some fQ):al prog 35 [.int .i64 op] σ fun v σ' => v = .agg [.str (bT op).1,.str (bT op).2]∧σ' = σ:=by
  refine ahk.calls ?_;simp only[aJ,Qh,am,aR]
  by_cases h0:op<0
  · simp only[am,Nat.reduceAdd,aD h0];refine aG rfl (ae.aW _) ⟨?_,rfl⟩
    have:¬(0≤op∧op<16):=by omega
    simp[V.erase,a9,bT,this]
  · simp only[am,aB h0]
    by_cases h1:16≤op
    · simp only[am,Nat.reduceAdd,aD h1];refine aG rfl (ae.aW _) ⟨?_,rfl⟩
      have:¬(0≤op∧op<16):=by omega
      simp[V.erase,a9,bT,this]
    · simp only[am,cf,aB h1];refine jx (by omega) (by omega) ?_;simp only[am,Nat.reduceAdd,hg,S7 (show op.toNat<16 by omega)];refine aG rfl (ae.aW _) ⟨?_,rfl⟩
      have:0≤op∧op<16:=by omega
      simp[V.erase,a9,bT,this]
def vG (w:List UInt8) (σ:ae) (i:Nat):St:=⟨[.str w,.any,.any,.any,.int .i64 (i:Nat)]++List.replicate 14 .any,[],σ⟩
theorem amj (w:List UInt8) {σ:ae} (hg:σ.bR 0=some fQ):al prog 47 [.str w] σ fun v σ' => v = .int .i64 (gM w)∧σ' = σ:=by
  generalize hR:gM w=R;unfold gM at hR;refine ahw.calls ?_;simp only[aJ,Qu,am,aR];refine j6 (fun p:{p:Nat × Nat // mc w p.1 p.2=R∧p.2+p.1=16}=>vG w σ p.1.2) (fun p=>p.1.1) ?_ ?_
  · refine ba.enter ⟨(16,0),hR,rfl⟩ ?_ cj.rfl bG.rfl;simp[vG,List.replicate,am]
  · rintro⟨⟨n,i⟩,hR,hs⟩;simp only at hR hs;simp only[vG,List.replicate,am]
    by_cases aj:i<16
    · obtain⟨m,rfl⟩:∃m,n=m+1:=⟨n - 1,by omega⟩;simp only[mc] at hR;have wi:IntKind.i64.wrap ((i:Int)+1)=((i+1:Nat):Int):=by rw[wrap_i64 (by omega) (by omega)];simp
      have hf:bT (i:Nat)=iU.getD i ([],[]):=by simp only[bT];rw[ak (by omega)];simp
      have again:∀(t:List V),mc w m (i+1)=R→ck t (vG w σ (i+1)).t→ba ⟨t,[],σ⟩ fun aq => ∃j:{p:Nat × Nat // mc w p.1 p.2=R∧p.2+p.1=16},aq = vG w σ j.1.2∧j.1.1<m+1:=fun t h ht =>
        ba.again (I:=fun p:{p:Nat × Nat // mc w p.1 p.2=R∧p.2+p.1=16}=>vG w σ p.1.2) (μ:=fun p=>p.1.1) ⟨(m,i+1),h,by simp only;omega⟩ (by simp) ht cj.rfl bG.rfl
      simp only[am,aD (show (i:Int)<16 by omega)]
      by_cases h0:0<i
      · simp only[am,cf,aD (show (0:Int)<i by omega)];refine jx (by omega) (by omega) ?_;simp only[am,hg,S7 aj,iP]
        by_cases hw:(iU.getD i ([],[])).1=w
        · rw[ak ⟨h0,by rw[hf];exact hw⟩] at hR;simp only[am,aD hw];refine az ?_;simp[V.erase,hR]
        · rw[ah (by rw[hf];exact fun h=>hw h.2)] at hR;simp only[am,aB hw,wi];exact again _ hR (by simp[vG,List.replicate,am])
      · rw[ah (by simp[h0])] at hR;simp only[am,aB (show ¬(0:Int)<i by omega),wi];exact again _ hR (by simp[vG,List.replicate,am])
    · obtain rfl:n=0:=by omega
      simp only[mc] at hR;simp only[am,aB (show ¬(i:Int)<16 by omega)];refine az ?_;simp[V.erase,hR]
def N7:AC:=.seq (.aa [xm 6 0,xc 103 7 [.s 6,.c (.int .u8 123)],⟨(some 2),.alloc [(.int .u8 0),(.str []),(.int .i64 0),(.sl .full 5 []),(.int .i64 0)],none⟩,xs 5 2 7])
 (.seq (.aa [xm 8 0,xf 0 9 2,xf 2 10 9,xo 11 10,xk 12 8,xf 5 13 12,xf 6 14 13,xs 1 14 11])
 (.seq (.seq (.aa [xm 15 0,xk 16 15,xf 3 17 16,xf 0 18 17,xo 19 18,xB .neq 20 19 0,xm 21 20,xh 21 (xf 3 22 2),xh 21 (xo 23 22),xh 21 (xL 24 23),xh 21 (xB .eql 25 24 0),⟨(some 26),.pick (.s 21) (.c (.bool true)) (.s 25),none⟩])
 (.cond (.s 26) (.ret)
 (.skip)))
 (.seq (.aa [xf 3 27 2,xo 28 27,xf 4 29 2,xo 30 29,⟨(some 31),.build [(.sl .full 5 []),(.int .i64 0),(.int .i64 0),(.int .i64 0),(.int .i64 0),(.int .i64 0),(.int .i64 0),(.str []),(.int .i64 0),(.sl .full 2 []),(.sl .full 4 []),(.int .i64 0),(.int .i64 0),(.int .i64 0),(.str []),(.sl .full 2 []),(.sl .full 5 []),(.int .i64 0),(.int .i64 0),(.str []),(.sl .full 2 []),(.sl .full 5 [])] [(0,1,(.s 28)),(2,1,(.s 30))],none⟩,⟨(some 32),.ff 22 (.s 31),none⟩,xm 3 32])
 (.seq (.block 0 (.loop (.seq (.seq (.aa [xm 33 3,xk 34 33,xf 3 35 34,xf 0 36 35,xo 37 36,xB .eql 38 37 0])
 (.cond (.s 38) (.skip)
 (.exit 0)))
 (.block 1 (.seq (.aa [xm 39 3,xc 46 40 [.s 39],⟨(some 4),.alloc [(.str []),(.int .i64 0)],none⟩,xs 2 4 40])
 (.seq (.aa [xm 41 3,xc 103 42 [.s 41,.c (.int .u8 60)]])
 (.seq (.aa [xm 43 3,xc 46 44 [.s 43],⟨(some 5),.alloc [(.str []),(.int .i64 0)],none⟩,xs 2 5 44])
 (.seq (.draw [(xm 45 0,[]),(xm 46 0,[]),(xk 47 46,[]),(xf 5 48 47,[]),(xf 5 49 48,[]),(xo 50 49,[]),(xl 2 51 4,[]),(xl 2 52 5,[]),(⟨(some 53),.build [(.str []),(.int .i64 0),(.str []),(.int .i64 0)] [(0,2,(.s 51)),(2,2,(.s 52))],none⟩,[]),(⟨(some 54),.cR 4 [(.s 53)],none⟩,[]),(xa 4 55 50 54,[]),(xk 56 45,[]),(xf 5 57 56,[]),(xf 5 58 57,[]),(xs 1 58 55,[])])
 (.seq (.seq (.draw [(xm 59 3,[]),(xk 60 59,[]),(xf 1 61 60,[]),(xo 62 61,[]),(xm 63 3,[]),(xk 64 63,[]),(xf 0 65 64,[]),(xo 66 65,[]),(xL 67 66,[]),(xb .eql 68 62 67,[])])
 (.cond (.s 68) (.exit 0)
 (.skip)))
 (.aa [xm 69 3,xc 103 70 [.s 69,.c (.int .u8 44)]]))))))))))
 (.seq (.mQ (.aa [xm 71 3,xk 72 71,xf 3 73 72,xf 0 74 73,xo 75 74,xB .neq 76 75 0]))
 (.cond (.s 76) (.aa [xm 77 0,xm 78 3,xk 79 78,xf 3 80 79,xl 2 81 80,xk 82 77,xf 3 83 82,xs 2 83 81])
 (.skip)))))))
theorem afk:aK prog 105 N7 [] 84:=⟨f105,⟨[32],[11],[]⟩,func105,by kernel_rfl,by kernel_rfl,by kernel_rfl,by kernel_rfl⟩
theorem arM {r:ab} {k:Int}:((r.take k).1.kids.length:Int)≤aP r.l:=by
  have:=(r.sS k).1
  have:=kB (r.take k).1.kids
  omega
theorem YP (r:ab):j9 r r.word.2:=vj r
def gh:List V:=[.int .i64 0,.int .i64 0,.str [],.int .i64 0,.sl .full 2 [],.sl .full 4 [],.int .i64 0,.int .i64 0,.int .i64 0,.str [],.sl .full 2 [],.sl .full 5 [],.int .i64 0,.int .i64 0,.str [],.sl .full 2 [],.sl .full 5 []]
theorem anJ {σ σ' : ae} (h:σ=σ'):bG σ σ' := h▸bG.rfl
structure DY where
  n:Nat
  i:ab
  acc:List (Word × Word)
  τ:Nat
def nF (σ:ae) (r q τ:Nat) (i rd:ab) (c:ag) (acc:List (Word × Word)):ae:=((σ.set q (i.enc++gh)).set r (rd.enc++c.cp (.sl (.tk τ) 4 (acc.map dT)))).aL τ acc.length
section
variable {σ:ae} {r q τ:Nat} {i i' rd:ab} {c:ag} {acc:List (Word × Word)}
theorem Ap (h:q≠r):(nF σ r q τ i rd c acc).box q=some (i.enc++gh):=by simp[nF,ae.aL,ae.set,h]
theorem Wh:(nF σ r q τ i rd c acc).box r=some (rd.enc++c.cp (.sl (.tk τ) 4 (acc.map dT))):=by simp[nF,ae.aL,ae.set]
theorem aof:(nF σ r q τ i rd c acc).aC τ=some acc.length:=by simp[nF,ae.aL]
theorem Gv (h:q≠r):(nF σ r q τ i rd c acc).set q (i'.enc++gh)=nF σ r q τ i' rd c acc:=by
  have:((σ.set q (i.enc++gh)).set r (rd.enc++c.cp (.sl (.tk τ) 4 (acc.map dT)))).set q (i'.enc++gh)=(σ.set q (i'.enc++gh)).set r (rd.enc++c.cp (.sl (.tk τ) 4 (acc.map dT))):=by rw[ae.set_comm (Ne.symm h),ae.set_set]
  show (((σ.set q (i.enc++gh)).set r (rd.enc++c.cp (.sl (.tk τ) 4 (acc.map dT)))).set q (i'.enc++gh)).aL τ acc.length=_;rw[this];rfl
theorem acz {pc:V}:bf false 1 ((rd.enc++c.cp pc).drop 10)=some pc:=rfl
theorem acE {pc x:V}:setAt (rd.enc++c.cp pc) 10 [x]=rd.enc++c.cp x:=rfl
theorem acx {pc:V}:bI 1 ((rd.enc++c.cp pc).drop 10)=true:=rfl
theorem acy {cs:List V}:bf false 1 (rd.enc++cs)=some (.sl .no 5 (cK rd.l)):=rfl
theorem aco {cs:List V}:bf false 1 ((rd.enc++cs).drop 1)=some (.int .i64 rd.at_):=rfl
theorem acr {cs:List V}:bf false 1 ((rd.enc++cs).drop 2)=some (.int .i64 rd.fin):=rfl
theorem acp {cs:List V}:bf false 1 ((rd.enc++cs).drop 3)=some (.int .i64 (cz rd.bad)):=rfl
theorem acq {cs:List V}:takeN 2 ((rd.enc++cs).drop 3)=some [.int .i64 (cz rd.bad),.int .i64 (eN rd.bad)]:=rfl
theorem acu {cs:List V}:bI 2 ((rd.enc++cs).drop 3)=true:=rfl
theorem acB {cs:List V} {b:Option Int}:setAt (rd.enc++cs) 3 [.int .i64 (cz b),.int .i64 (eN b)]=({rd with bad:=b}:ab).enc++cs:=by cases cs<;>rfl
def kg:=And.intro @acz <| And.intro @acE <| And.intro @acx <| And.intro @acy <| And.intro @aco <| And.intro @acr <| And.intro @acp <| And.intro @acq <| And.intro @acu @acB
theorem aoe {p:Word × Word} {n:Nat} (hn:n=acc.length+1):((nF σ r q τ i rd c acc).aL τ n).set r (rd.enc++c.cp (.sl (.tk τ) 4 (acc.map dT++[dT p])))=nF σ r q τ i rd c (acc++[p]):=by
  subst hn;unfold nF;rw[bw,cG,dv,fE,bC,dp];show ((((σ.set q (i.enc++gh)).set r (rd.enc++c.cp (.sl (.tk τ) 4 (acc.map dT)))).set r (rd.enc++c.cp (.sl (.tk τ) 4 (acc.map dT++[dT p])))).aL τ acc.length).aL τ (acc.length+1)=_;rw[ae.set_set,j5]
end
theorem ae.Mx {σ σ' : ae} {r:Nat} {X:List V} (h:σ.sub σ'):(σ.set r X).sub (σ'.set r X):=by
  refine⟨fun b cs hb=>?_,h.2⟩;simp only[ae.set] at hb ⊢
  by_cases e:b=r
  · rw[ak e] at hb ⊢;exact hb
  · rw[ah e] at hb ⊢;exact h.1 b cs hb
def uX (r q:Nat):List V:=[.ptr (.out r) 0,.any,.any,.ptr (.out q) 0]++List.replicate 80 .any
theorem Wp {σ:ae} {r q τ:Nat} {i rd:ab} {c:ag} {acc:List (Word × Word)} {t:List V} {l:List (List V)} {K:St→Prop} (bh:σ.aC τ=none) (ht:ck t (uX r q))
    (hK:K ⟨uX r q,[],(σ.set q (i.enc++gh)).set r (rd.enc++c.cp (.sl .no 4 (acc.map dT)))⟩):ba ⟨t,l,nF σ r q τ i rd c acc⟩ K:=by
  refine ba.zj (l' := []) ht (by simp[cj]) ?_ (by simp[uX,List.replicate,bx,V.lo]) rfl hK;refine⟨fun b cs' hb=>?_,fun υ m hm=>?_,fun _ _ h=>h⟩
  · simp only[nF,ae.aL,ae.set] at hb ⊢;split at hb
    · rename_i h;subst h;simp only[aH] at hb;subst hb;exact⟨_,by rw[ak rfl],by simp[ab.enc,ag.cp,am]⟩
    · rename_i h;exact⟨cs',by rw[ah h];exact hb,ck.rfl⟩
  · have hm:σ.aC υ=some m:=hm;have aI:υ≠τ:=by rintro rfl;rw[bh] at hm;simp at hm
    simp only[nF,ae.aL,ae.set,ah aI];exact hm
theorem vW {n:Nat} {i:ab} {acc:List (Word × Word)} (h:i.bad≠none):ab.fp n i acc=(i,acc):=by
  cases n<;>simp[ab.fp,h]
theorem LC {ps:List (Word × Word)} (h:ps≠[]):oi ps = .sl .no 4 (ps.map dT):=by cases ps with | nil=>exact absurd rfl h | cons _ _=>rfl
def ub (σ:ae) (r q:Nat) (rd:ab) (c:ag) (p:DY):St :=
  ⟨[.ptr (.out r) 0,.any,.any,.ptr (.out q) 0]++List.replicate 80 .any,[],nF σ r q p.τ p.i rd c p.acc⟩
def NN (t:Tree) (σ:ae) (R:ab × List (Word × Word)) (p:DY):Prop :=
  ab.fp p.n p.i p.acc=R∧p.i.l=t.kids∧0≤p.i.at_∧p.i.at_≤p.i.l.length∧(p.i.bad=none→(t.kids.length:Int)+1≤p.i.at_+p.n)∧(p.acc.length:Int)≤p.i.at_+1∧(p.i.bad=none→(p.acc.length:Int)≤p.i.at_)∧σ.aC p.τ=none∧(p.i.bad=none∨p.acc≠[])
theorem aok {r:Nat} {rd:ab} {c:ag} {σ:ae} (h:σ.box r=some (rd.enc++c.cp (.sl .full 4 []))) (hc:c.aV=[]) (h0:0≤rd.at_) (hm:aP rd.l+1≤aF) :
    al prog 105 [.ptr (.out r) 0] σ fun v σ' => v = .aX []∧σ' = σ.set r ((mN rd c).1.enc++(mN rd c).2.cp (oi (mN rd c).2.aV)):=by
  have hlen:=kB rd.l;refine afk.calls ?_;simp only[aJ,N7,am,aR];refine(Ev h h0 (by omega)).mono ?_;rintro v σ' ⟨rfl,rfl⟩;have e9:=arM (r:=rd) (k:=123);have Fw:mN rd c=if (rd.take 123).2.bad≠none∨(rd.take 123).1.kids.length=0 then ((rd.take 123).2,{c with lG:=(rd.take 123).1.tok.pos})
    else ((rd.take 123).2.rU ((rd.take 123).1.inner.fp ((rd.take 123).1.kids.length+1) []).1.bad,{c with lG:=(rd.take 123).1.tok.pos,aV:=((rd.take 123).1.inner.fp ((rd.take 123).1.kids.length+1) []).2}):=rfl
  rw[Fw];generalize (rd.take 123).1=t at e9 ⊢;generalize (rd.take 123).2=r1;simp only[am,Nat.reduceAdd,Tree.af,Tree.fl,ab.enc,ag.cp];cases hb:r1.bad with
  | some b =>
    simp only[am,fh,Int.reduceEq,cz];refine aG rfl (ae.aW _) ⟨rfl,?_⟩;simp[hc,oi,hb]
  | none =>
    simp only[am,jn,bZ,cz,Tree.fl]
    by_cases hk:t.kids.length=0
    · simp only[am,aD (show (t.kids.length:Int)=0 by omega)];refine aG rfl (ae.aW _) ⟨rfl,?_⟩;simp[hc,oi,hb,hk]
    · simp only[am,Nat.reduceAdd,aB (show ¬(t.kids.length:Int)=0 by omega),Tree.fl];refine iw fun q hq=>?_
      have ju:q≠r:=by rintro rfl;simp[ae.set] at hq
      have Ka:σ.box q=none:=by simpa [ae.set,ju] using hq
      generalize hR:ab.fp (t.kids.length+1) t.inner []=R;rw[ah (by simp[hk])];have dx:t.inner=(⟨t.kids,0,t.fin,none⟩:ab):=rfl;generalize Fa:({c with lG:=t.tok.pos}:ag)=c1;have e1:∀A B,(σ.set r A).set q B=(σ.set q B).set r A:=fun A B=>ae.set_comm (Ne.symm ju)
      rw[e1];refine j6 (fun p:{p:DY // NN t σ R p}=>ub σ r q r1 c1 p.1) (fun p=>p.1.n) ?_ ?_
      · refine(ba.zj (t' := (ub σ r q r1 c1 ⟨0,t.inner,[],0⟩).t) (l' := []) (σ' := (σ.set q (t.inner.enc++gh)).set r (r1.enc++c1.cp (.sl .full 4 []))) ?_ trivial ?_ (by simp[ub,List.replicate,bx,V.lo]) rfl rfl).bind ?_
        · simp[ub,List.replicate,am]
        · refine anJ ?_;simp[ab.enc,ag.cp,gh,←Fa,dx,hb,cz,eN];rfl
        · rintro _ rfl;refine ba.tok 0 fun τ bh=>⟨_,[],(σ.set q (t.inner.enc++gh)).set r (r1.enc++c1.cp (.sl (.tk τ) 4 [])),dy.rfl,rfl,by simp,?_,⟨⟨t.kids.length+1,t.inner,[],τ⟩,?_⟩,?_⟩
          · have:=oG.set (σ:=(σ.set q (t.inner.enc++gh)).set r (r1.enc++c1.cp (.sl .full 4 []))) (b:=r) (τ:=τ) (n:=0) (cs' := r1.enc++c1.cp (.sl (.tk τ) 4 [])) (ae.cX _ _ _) (by simp[ab.enc,ag.cp,od])
            rwa [ae.set_set] at this
          · exact⟨hR,rfl,by simp[dx],by simp[dx],fun _=>by simp[dx],by simp[dx],fun _=>by simp[dx],bh,.inl rfl⟩
          · rfl
      · rintro⟨⟨n,i,acc,τ⟩,hR,hl,JO,lY,hn,ha1,Jo,bh,aI⟩;simp only at hR hl JO lY hn ha1 Jo bh aI;simp only[ub,List.replicate,am,Ap ju,kg];have fH : i.l.length=t.kids.length:=by rw[hl]
        have Ca:i.l.length≤aF:=by rw[hl];omega
        cases eR:i.bad with
        | some b =>
          simp only[am,fh,Int.reduceEq,cz];rw[vW (by simp[eR])] at hR;have aiS:acc≠[]:=by rcases aI with h | h;rw[eR] at h;simp at h;exact h
          refine Wp bh (by simp[uX,List.replicate,am]) ?_;have tN:∀B,((σ.set q (i.enc++gh)).set r B).box q=some (i.enc++gh):=fun B=>by simp[ae.set,ju]
          have sd:∀A B,((σ.set q A).set r B).box r=some B:=fun A B=>by simp[ae.set]
          simp only[uX,List.replicate,am,tN,kg,eR,cz];simp only[am,Nat.reduceAdd,fh,Int.reduceEq,tN,kg,eR,cz];refine aG rfl (ae.Mx (fU Ka)) ⟨rfl,?_⟩;simp[←hR,ab.rU,eR,LC aiS,←Fa,ab.enc,ag.cp,cz,eN];rfl
        | none =>
          have Jo:=Jo eR;have hn:=hn eR;obtain⟨m,rfl⟩:∃m,n=m+1:=⟨n - 1,by omega⟩;simp only[ab.fp,eR,ne_eq,Gl,bP] at hR;simp only[am,bZ,cz];refine(Bv (Ap ju) JO Ca).mono ?_;rintro v σ' ⟨rfl,rfl⟩;rw[Gv ju];obtain⟨g1,g2⟩:=YP i;have g2:=g2 JO lY;have e1:i.word.2.l.length=i.l.length:=by rw[g1]
          generalize i.word.2=i1 at *;generalize i.word.1=lo at *;simp only[am,Word.af];refine(Ev (Ap ju) (by omega) (by rw[g1];exact Ca)).mono ?_;rintro v σ' ⟨rfl,rfl⟩;rw[Gv ju];obtain⟨g3,g4⟩:=qF i1 60;have g4:=g4 (by omega) (by omega);have e2:(i1.take 60).2.l.length=i1.l.length:=by rw[g3]
          generalize (i1.take 60).2=i2 at *;simp only[am];refine(Bv (Ap ju) (by omega) (by rw[g3,g1];exact Ca)).mono ?_;rintro v σ' ⟨rfl,rfl⟩;rw[Gv ju];obtain⟨g5,g6⟩:=YP i2;have g6:=g6 (by omega) (by omega);have e3:i2.word.2.l.length=i2.l.length:=by rw[g5]
          generalize i2.word.2=i3 at *;generalize i2.word.1=hi at *;simp only[am,Nat.reduceAdd,Wh,kg,Word.enc];refine Bj (by simp[aF] at hm ⊢;omega) (by rw[aE];exact aof) ?_;simp only[am,Nat.reduceAdd,aE,Wh,kg];rw[show [V.str lo.text,V.int .i64 lo.pos,.str hi.text,.int .i64 hi.pos]=dT (lo,hi) from rfl,aoe rfl];simp only[am,jn,Ap ju,kg];have hnc:acc++[(lo,hi)]≠[]:=by simp
          by_cases fS:i3.at_=i.l.length
          · rw[ak fS] at hR;simp only[am,Nat.reduceEqDiff,aD (show i3.at_=(i3.l.length:Int) by omega)];refine Wp bh (by simp[uX,List.replicate,am]) ?_;have tN:∀B,((σ.set q (i3.enc++gh)).set r B).box q=some (i3.enc++gh):=fun B=>by simp[ae.set,ju]
            have sd:∀A B,((σ.set q A).set r B).box r=some B:=fun A B=>by simp[ae.set]
            cases o7:i3.bad with
            | none =>
              simp only[uX,List.replicate,am,tN,kg,o7,cz];simp only[am,bZ];refine aG rfl (ae.Mx (fU Ka)) ⟨rfl,?_⟩;simp[←hR,ab.rU,o7,LC hnc,←Fa,hb,ab.enc,ag.cp,cz,eN]
            | some b =>
              simp only[uX,List.replicate,am,tN,kg,o7,cz];simp only[am,Nat.reduceAdd,fh,Int.reduceEq,tN,kg,o7,cz];refine aG rfl (ae.Mx (fU Ka)) ⟨rfl,?_⟩;simp[←hR,ab.rU,o7,LC hnc,←Fa,ab.enc,ag.cp,cz,eN];rfl
          · rw[ah fS] at hR;simp only[am,aB (show ¬i3.at_=(i3.l.length:Int) by omega)];refine(Ev (Ap ju) (by omega) (by omega)).mono ?_;rintro v σ' ⟨rfl,rfl⟩;rw[Gv ju];obtain⟨g7,g8⟩:=qF i3 44;have g8:=g8 (by omega) (by omega);have e4:(i3.take 44).2.l.length=i3.l.length:=by rw[g7]
            generalize (i3.take 44).2=i4 at *;simp only[am];refine ba.rT (I:=fun p:{p:DY // NN t σ R p}=>ub σ r q r1 c1 p.1) (μ:=fun p=>p.1.n) ⟨⟨m,i4,acc++[(lo,hi)],τ⟩,hR,by rw[←hl,g7,g5,g3,g1],by simp only;omega,by simp only;omega,fun tM=>?_,?_,fun tM=>?_,bh,.inr hnc⟩ (by simp) (by simp[ub,List.replicate,am]) (by simp[cj,ub]) bG.rfl (by simp[ub,List.replicate,bx,V.lo]) rfl
            · have:=g8.2.2 tM;simp only;omega
            · simp;omega
            · have:=g8.2.2 tM;simp;omega
def HX:AC:=.seq (.seq (.aa [xm 6 0,xk 7 6,xf 3 8 7,xf 0 9 8,xo 10 9,xB .neq 11 10 0])
 (.cond (.s 11) (.ret)
 (.skip)))
 (.seq (.aa [xm 12 1])
 (.block 0 (.seq (.aa [⟨(some 14),.dA .eql (.s 12) (.c (.int .i32 110)),none⟩,xm 13 14])
 (.cond (.s 13) (.aa [xm 15 0,xm 16 0,xc 46 17 [.s 16],xk 18 15,xf 5 19 18,xf 2 20 19,xs 2 20 17])
 (.seq (.aa [⟨(some 22),.dA .eql (.s 12) (.c (.int .i32 102)),none⟩,xm 21 22])
 (.cond (.s 21) (.aa [xm 23 0,xm 24 0,xc 46 25 [.s 24],⟨(some 26),.cR 2 [(.s 25)],none⟩,xk 27 23,xf 5 28 27,xf 4 29 28,xs 1 29 26])
 (.seq (.aa [⟨(some 31),.dA .eql (.s 12) (.c (.int .i32 119)),none⟩,xm 30 31])
 (.cond (.s 30) (.seq (.tu [5] [(xm 33 0,[]),(xk 34 33,[]),(xf 0 35 34,[]),(xo 36 35,[]),(xm 37 0,[]),(xk 38 37,[]),(xf 1 39 38,[]),(xo 40 39,[]),(xm 41 0,[]),(xk 42 41,[]),(xf 2 43 42,[]),(xo 44 43,[]),(xc 104 45 [.s 36,.s 40,.s 44],[]),(xm 32 45,[]),(xe 46 32 0,[]),(xe 47 32 1,[]),(⟨none,.mv (.c .any),none⟩,[]),(xm 4 46,[]),(⟨(some 5),.kf 2 (.s 47),none⟩,[])])
 (.seq (.draw [(xm 48 0,[]),(xm 49 0,[]),(xm 50 4,[]),(xl 2 51 5,[1]),(xk 52 48,[]),(xf 5 53 52,[]),(xf 4 54 53,[]),(xs 1 54 50,[]),(xk 55 49,[]),(xf 3 56 55,[]),(xs 2 56 51,[])])
 (.aa [xm 57 0,xk 58 57,xf 1 59 58,xo 60 59,xB .add 61 60 1,xk 62 57,xf 1 63 62,xs 1 63 61])))
 (.seq (.aa [⟨(some 65),.dA .eql (.s 12) (.c (.int .i32 112)),none⟩,xm 64 65])
 (.cond (.s 64) (.aa [xm 66 0,xc 105 67 [.s 66]])
 (.seq (.aa [⟨(some 69),.dA .eql (.s 12) (.c (.int .i32 116)),none⟩,xm 68 69])
 (.cond (.s 68) (.draw [(xm 70 0,[]),(xm 71 0,[]),(xk 72 71,[]),(xf 0 73 72,[]),(xo 74 73,[]),(xm 75 0,[]),(xk 76 75,[]),(xf 1 77 76,[]),(xo 78 77,[]),(xm 79 0,[]),(xk 80 79,[]),(xf 2 81 80,[]),(xo 82 81,[]),(xc 107 83 [.s 74,.s 78,.s 82],[]),(xe 84 83 0,[]),(xe 85 83 1,[]),(xe 86 83 2,[]),(xc 106 87 [.s 70,.s 84,.s 85,.s 86],[])])
 (.seq (.aa [⟨(some 89),.dA .eql (.s 12) (.c (.int .i32 114)),none⟩,xm 88 89])
 (.cond (.s 88) (.draw [(xm 90 0,[]),(xm 91 0,[]),(xk 92 91,[]),(xf 0 93 92,[]),(xo 94 93,[]),(xm 95 0,[]),(xk 96 95,[]),(xf 1 97 96,[]),(xo 98 97,[]),(xm 99 0,[]),(xk 100 99,[]),(xf 2 101 100,[]),(xo 102 101,[]),(xc 108 103 [.s 94,.s 98,.s 102],[]),(xe 104 103 0,[]),(xe 105 103 1,[]),(xe 106 103 2,[]),(xc 106 107 [.s 90,.s 104,.s 105,.s 106],[])])
 (.skip)))))))))))))))
theorem S2:aK prog 48 HX [] 108:=⟨f48,⟨[],[],[]⟩,func48,by kernel_rfl,by kernel_rfl,by kernel_rfl,by kernel_rfl⟩
theorem SH {b:Option Int}:(iT b).cc=true:=rfl
section
variable {rd:ab} {c:ag} {pc:V} {cs:List V}
theorem acC {w:Word}:setAt (rd.enc++c.cp pc) 7 w.enc=rd.enc++({c with name:=w}:ag).cp pc:=rfl
theorem acv:bI 2 ((rd.enc++c.cp pc).drop 7)=true:=rfl
theorem acD {ws:List Word}:setAt (rd.enc++c.cp pc) 9 [.sl .no 2 (ws.map Word.enc)]=rd.enc++({c with names:=ws}:ag).cp pc:=rfl
theorem acw:bI 1 ((rd.enc++c.cp pc).drop 9)=true:=rfl
theorem acA {n:Int}:setAt (rd.enc++cs) 1 [.int .i64 n]=({rd with at_:=n}:ab).enc++cs:=by cases cs<;>rfl
theorem acs:bI 1 ((rd.enc++cs).drop 1)=true:=rfl
def Iu:=And.intro @acC <| And.intro @acv <| And.intro @acD <| And.intro @acw <| And.intro @acA @acs
end
theorem aom {r:Nat} {rd:ab} {c:ag} {pc:V} {σ:ae} (h:σ.box r=some (rd.enc++c.cp pc)) (hb:rd.bad=none) (h0:0≤rd.at_) (hlen:rd.l.length≤aF) :
    al prog 48 [.ptr (.out r) 0,.int .i32 102] σ fun v σ' => v = .aX []∧σ' = σ.set r (rd.word.2.enc++({c with names:=[rd.word.1]}:ag).cp pc):=by
  refine al.le (S:=σ.set r (setAt (rd.word.2.enc++c.cp pc) 9 [.sl .full 2 [rd.word.1.enc]])) ?_ (bG.set ?_)
  · refine S2.calls ?_;simp only[aJ,HX,am,aR,Nat.reduceAdd];simp only[am,bZ,fh,Int.reduceEq,h,kg,hb,cz];refine(Bv h h0 hlen).mono ?_;rintro v σ' ⟨rfl,rfl⟩;simp only[am,Nat.reduceAdd,Word.af,Iu];refine aG rfl (ae.aW _) ⟨rfl,rfl⟩
  · show ck ([V.sl .no 5 (cK rd.word.2.l),.int .i64 rd.word.2.at_,.int .i64 rd.word.2.fin,.int .i64 (cz rd.word.2.bad),.int .i64 (eN rd.word.2.bad)]++_) ([V.sl .no 5 (cK rd.word.2.l),.int .i64 rd.word.2.at_,.int .i64 rd.word.2.fin,.int .i64 (cz rd.word.2.bad),.int .i64 (eN rd.word.2.bad)]++_);simp[am,ag.cp]
theorem aor {r:Nat} {x:ab × ag} {k:UInt8} {pc:V} {σ:ae} (h:σ.box r=some (x.1.enc++x.2.cp pc)) (hp:k=112→pc = .sl .full 4 []∧x.2.aV=[]) (h0:0≤x.1.at_) (hm:aP x.1.l+1≤aF) (ha:x.1.at_≤aF) :
    al prog 48 [.ptr (.out r) 0,.int .i32 (k.toNat:Nat)] σ fun v σ' => v = .aX []∧σ' = σ.set r ((cB k x).1.enc++(cB k x).2.cp (if k=112∧x.1.bad=none then oi (cB k x).2.aV else pc)):=by
  obtain⟨rd,c⟩:=x;simp only at h hp h0 hm ha;have hlen:=kB rd.l;have gH:∀n:UInt8,((k.toNat:Nat):Int)=(n.toNat:Nat)↔k=n:=fun n=>by
    constructor
    · intro h;exact N1.1 (by omega)
    · rintro rfl;rfl
  by_cases k2:k=102∧rd.bad=none
  · obtain⟨k2,hb⟩:=k2;subst k2
    have:=aom h hb h0 (by omega)
    simpa [cB,hb] using this
  refine S2.calls ?_;simp only[aJ,HX,am,aR,Nat.reduceAdd];simp only[am,h,kg];cases hb:rd.bad with
  | some b =>
    simp only[am,fh,Int.reduceEq,cz];refine aG rfl (ae.aW _) ⟨rfl,?_⟩;rw[show cB k (rd,c)=(rd,c) by simp[cB,hb],ah (by simp)];exact(ae.wa h).symm
  | none =>
    have k2:¬k=102:=fun h=>k2 ⟨h,hb⟩
    simp only[am,bZ,cz];have l7:cB k (rd,c)=if k=110 then (rd.word.2,{c with name:=rd.word.1})
        else if k=119 then ({rd with bad:=(ib rd.l rd.at_ rd.fin).2,at_:=rd.at_+1},{c with names:=(ib rd.l rd.at_ rd.fin).1})
        else if k=112 then mN rd c
        else if k=116 then gW rd c (eh (ab.label (aP rd.l)) rd.l rd.at_ rd.fin)
        else if k=114 then gW rd c (eh (ab.row (aP rd.l)) rd.l rd.at_ rd.fin)
        else (rd,c):=by simp[cB,hb,k2]
    have Bz:((k.toNat:Nat):Int)=110↔k=110:=gH 110;have Ex:((k.toNat:Nat):Int)=102↔k=102:=gH 102;have wX:((k.toNat:Nat):Int)=119↔k=119:=gH 119;have wW:((k.toNat:Nat):Int)=112↔k=112:=gH 112;have Ez:((k.toNat:Nat):Int)=116↔k=116:=gH 116;have Ey:((k.toNat:Nat):Int)=114↔k=114:=gH 114
    by_cases k1:k=110
    · rw[ak k1] at l7;simp only[am,aD (Bz.2 k1)];refine(Bv h h0 (by omega)).mono ?_;rintro v σ' ⟨rfl,rfl⟩;simp only[am,Nat.reduceAdd,Word.af,Iu];refine aG rfl (ae.aW _) ⟨rfl,?_⟩;rw[l7,ah (by simp[k1])]
    rw[ah k1] at l7;simp only[am,aB (fun h=>k1 (Bz.1 h))];simp only[am,aB (fun h=>k2 (Ex.1 h))]
    by_cases k3:k=119
    · rw[ak k3] at l7;simp only[am,Nat.reduceAdd,bZ,Nat.reduceLT,aD (wX.2 k3),h,kg];refine br.intro (ZA hm) ?_;rw[l7,ah (by simp[k3])];generalize ib rd.l rd.at_ rd.fin=o;have w1:IntKind.i64.wrap (rd.at_+1)=rd.at_+1:=by simp only[aF] at ha;exact wrap_i64 (by omega) (by omega)
      simp only[am,Nat.reduceAdd,iT,h,kg,Iu,w1];exact aG rfl (ae.aW _) ⟨rfl,rfl⟩
    rw[ah k3] at l7;simp only[am,aB (fun h=>k3 (wX.1 h))]
    by_cases k4:k=112
    · rw[ak k4] at l7;obtain⟨rfl,hc⟩:=hp k4;simp only[am,aD (wW.2 k4)];refine(aok h hc h0 hm).mono ?_;rintro v σ' ⟨rfl,rfl⟩;simp only[am];refine aG rfl (ae.aW _) ⟨rfl,?_⟩;rw[l7,ak k4]
    rw[ah k4] at l7;simp only[am,aB (fun h=>k4 (wW.1 h))]
    by_cases k5:k=116
    · rw[ak k5] at l7;simp only[am,aD (Ez.2 k5),h,kg];refine br.intro (Zh (bt _) hm) ?_;rw[l7,ah (by simp[k4])];generalize eh (ab.label (aP rd.l)) rd.l rd.at_ rd.fin=g;simp only[am,Nd.af,SH];refine br.intro (RO h hb) ?_;simp only[am];refine aG rfl (ae.aW _) ⟨rfl,rfl⟩
    rw[ah k5] at l7;simp only[am,aB (fun h=>k5 (Ez.1 h))]
    by_cases k6:k=114
    · rw[ak k6] at l7;simp only[am,aD (Ey.2 k6),h,kg];refine br.intro (Zx (bt _) hm) ?_;rw[l7,ah (by simp[k4])];generalize eh (ab.row (aP rd.l)) rd.l rd.at_ rd.fin=g;simp only[am,Nd.af,SH];refine br.intro (RO h hb) ?_;simp only[am];refine aG rfl (ae.aW _) ⟨rfl,rfl⟩
    rw[ah k6] at l7;simp only[am,aB (fun h=>k6 (Ey.1 h))];refine aG rfl (ae.aW _) ⟨rfl,?_⟩;rw[l7,ah (by simp[k4])];exact(ae.wa h).symm
def O6:AC:=.seq (.aa [⟨(some 2),.alloc [(.int .i64 0),(.int .i64 0),(.str []),(.int .i64 0),(.sl .full 2 []),(.sl .full 4 []),(.int .i64 0),(.int .i64 0),(.int .i64 0),(.str []),(.sl .full 2 []),(.sl .full 5 []),(.int .i64 0),(.int .i64 0),(.str []),(.sl .full 2 []),(.sl .full 5 [])],none⟩,⟨(some 3),.alloc [(.int .i64 0),(.int .i64 0)],none⟩])
 (.seq (.aa [xm 12 0,xc 44 13 [.s 12],xm 11 13,xe 14 11 0,xe 15 11 1,⟨(some 5),.alloc [(.int .i64 0),(.int .i64 0)],none⟩,xm 4 14,xs 2 5 15])
 (.seq (.seq (.aa [xf 0 16 5,xo 17 16,xB .neq 18 17 0])
 (.cond (.s 18) (.seq (.draw [(⟨(some 19),.build [(.int .i64 0),(.int .i64 0),(.str []),(.int .i64 0),(.sl .full 2 []),(.sl .full 4 []),(.int .i64 0),(.int .i64 0),(.int .i64 0),(.str []),(.sl .full 2 []),(.sl .full 5 []),(.int .i64 0),(.int .i64 0),(.str []),(.sl .full 2 []),(.sl .full 5 [])] [],none⟩,[]),(xl 2 20 5,[1]),(xs 17 2 19,[]),(xs 2 3 20,[])])
 (.ret))
 (.skip)))
 (.seq (.aa [xm 22 4,xc 45 23 [.s 22],xm 21 23,xe 24 21 0,xe 25 21 1,xm 6 24,xs 2 5 25])
 (.seq (.seq (.aa [xf 0 26 5,xo 27 26,xB .neq 28 27 0,xm 29 28,xh 29 (xm 30 6),xh 29 (xL 31 30),xh 29 (xB .eql 32 31 0),⟨(some 33),.pick (.s 29) (.c (.bool true)) (.s 32),none⟩])
 (.cond (.s 33) (.seq (.draw [(⟨(some 34),.build [(.int .i64 0),(.int .i64 0),(.str []),(.int .i64 0),(.sl .full 2 []),(.sl .full 4 []),(.int .i64 0),(.int .i64 0),(.int .i64 0),(.str []),(.sl .full 2 []),(.sl .full 5 []),(.int .i64 0),(.int .i64 0),(.str []),(.sl .full 2 []),(.sl .full 5 [])] [],none⟩,[]),(xl 2 35 5,[1]),(xs 17 2 34,[]),(xs 2 3 35,[])])
 (.ret))
 (.skip)))
 (.seq (.aa [xm 36 6,xm 37 0,xT 38 37,⟨(some 39),.build [(.sl .full 5 []),(.int .i64 0),(.int .i64 0),(.int .i64 0),(.int .i64 0),(.int .i64 0),(.int .i64 0),(.str []),(.int .i64 0),(.sl .full 2 []),(.sl .full 4 []),(.int .i64 0),(.int .i64 0),(.int .i64 0),(.str []),(.sl .full 2 []),(.sl .full 5 []),(.int .i64 0),(.int .i64 0),(.str []),(.sl .full 2 []),(.sl .full 5 [])] [(0,1,(.s 36)),(2,1,(.s 38))],none⟩,⟨(some 40),.ff 22 (.s 39),none⟩,xm 7 40])
 (.seq (.aa [xm 41 7,xc 46 42 [.s 41],⟨(some 8),.alloc [(.str []),(.int .i64 0)],none⟩,xs 2 8 42])
 (.seq (.draw [(xm 43 7,[]),(xf 0 44 8,[]),(xo 45 44,[]),(xc 47 46 [.s 45],[]),(xf 1 47 8,[]),(xo 48 47,[0]),(⟨(some 49),.build [(.int .i64 0),(.int .i64 0),(.str []),(.int .i64 0),(.sl .full 2 []),(.sl .full 4 []),(.int .i64 0),(.int .i64 0),(.int .i64 0),(.str []),(.sl .full 2 []),(.sl .full 5 []),(.int .i64 0),(.int .i64 0),(.str []),(.sl .full 2 []),(.sl .full 5 [])] [(0,1,(.s 46)),(1,1,(.s 48))],none⟩,[]),(xk 50 43,[]),(xf 5 51 50,[]),(xs 17 51 49,[])])
 (.seq (.seq (.aa [xm 52 7,xk 53 52,xf 5 54 53,xf 0 55 54,xo 56 55,xB .eql 57 56 0])
 (.cond (.s 57) (.seq (.draw [(⟨(some 58),.build [(.int .i64 0),(.int .i64 0),(.str []),(.int .i64 0),(.sl .full 2 []),(.sl .full 4 []),(.int .i64 0),(.int .i64 0),(.int .i64 0),(.str []),(.sl .full 2 []),(.sl .full 5 []),(.int .i64 0),(.int .i64 0),(.str []),(.sl .full 2 []),(.sl .full 5 [])] [],none⟩,[]),(xm 59 6,[]),(⟨(some 60),.kv 5 (.s 59) (.c (.int .i64 0)),none⟩,[]),(xf 0 61 60,[]),(xf 2 62 61,[]),(xo 63 62,[1]),(⟨(some 64),.build [(.int .i64 0),(.int .i64 0)] [(0,1,(.c (.int .i64 2))),(1,1,(.s 63))],none⟩,[]),(xs 17 2 58,[]),(xs 2 3 64,[])])
 (.ret))
 (.skip)))
 (.seq (.As [xm 65 7,xk 66 65,xf 5 67 66,xf 0 68 67,xo 69 68,xc 35 70 [.s 69],xw 1 71 70] (.s 71) 72 73 74 0 1
 (.seq (.aa [xe 75 73 2,xm 10 75])
 (.aa [xm 76 7,xm 77 10,xc 48 78 [.s 76,.s 77]])))
 (.seq (.seq (.aa [xm 79 7,xk 80 79,xf 3 81 80,xf 0 82 81,xo 83 82,xB .eql 84 83 0,xm 85 84,xg 85 (xm 86 7),xg 85 (xk 87 86),xg 85 (xf 1 88 87),xg 85 (xo 89 88),xg 85 (xm 90 6),xg 85 (xL 91 90),xg 85 (xb .lss 92 89 91),⟨(some 93),.pick (.s 85) (.s 92) (.c (.bool false)),none⟩])
 (.cond (.s 93) (.aa [xm 94 7,xc 49 95 [.s 94]])
 (.skip)))
 (.seq (.seq (.aa [xm 96 7,xk 97 96,xf 3 98 97,xf 0 99 98,xo 100 99,xB .neq 101 100 0])
 (.cond (.s 101) (.seq (.draw [(⟨(some 102),.build [(.int .i64 0),(.int .i64 0),(.str []),(.int .i64 0),(.sl .full 2 []),(.sl .full 4 []),(.int .i64 0),(.int .i64 0),(.int .i64 0),(.str []),(.sl .full 2 []),(.sl .full 5 []),(.int .i64 0),(.int .i64 0),(.str []),(.sl .full 2 []),(.sl .full 5 [])] [],none⟩,[]),(xm 103 7,[]),(xk 104 103,[]),(xf 3 105 104,[]),(xl 2 106 105,[1]),(xs 17 2 102,[]),(xs 2 3 106,[])])
 (.ret))
 (.skip)))
 (.seq (.aa [xm 107 7,xk 108 107,xf 5 109 108,xl 17 110 109,⟨(some 111),.build [(.int .i64 0),(.int .i64 0)] [],none⟩,xs 17 2 110,xs 2 3 111])
 (.ret)))))))))))))
theorem aga:aK prog 18 O6 [.cell 2 true 17,.cell 3 true 2] 112:=⟨f18,⟨[40],[],[]⟩,func18,by kernel_rfl,by kernel_rfl,by kernel_rfl,by kernel_rfl⟩
def IV (f:Int × Int):V:=.agg [.int .i64 f.1,.int .i64 f.2]
def wL (s:List UInt8) (L:List Tree) (b r:Nat):List V:=[.str s,.any,.ptr (.loc 0) 0,.ptr (.loc 1) 0,.any,.any,.sl .no 5 (cK L),.ptr (.out r) 0]++List.replicate 64 .any++[.raw (.pointer (some ⟨b,0,none⟩))]++List.replicate 39 .any
theorem aoz {ps:List (Word × Word)}:(oi ps).erase = .sl .no 4 (ps.map dT):=by cases ps<;>rfl
theorem acn {rd:ab} {c:ag} {pc:V}:takeN 17 ((rd.enc++c.cp pc).drop 5)=some (c.cp pc):=rfl
theorem abA {c:ag} {pc:V}:(c.cp pc).length=17:=rfl
theorem abC {c:ag} {ps:List (Word × Word)}:bE (c.cp (oi ps))=true:=by cases ps<;>rfl
theorem abD {z0 z1 z2 z3 z4 z5 z6 z7 z8 z9 M7 M8 M9 M_ M' Na Nb:V} {c:ag} {pc:V}:over [z0,z1,z2,z3,z4,z5,z6,z7,z8,z9,M7,M8,M9,M_,M',Na,Nb] (c.cp pc)=c.cp pc:=rfl
theorem abE {c:ag} {pc:V}:takeN 17 (c.cp pc)=some (c.cp pc):=rfl
theorem abB {c:ag} {ps:List (Word × Word)}:bm (c.cp (oi ps))=true:=by cases ps<;>rfl
theorem abz {c:ag}:a9 (c.cp (oi c.aV))=c.enc:=by simp only[ag.enc,ag.cp,a9,aoz];rfl
def ce:=And.intro @abA <| And.intro @abC <| And.intro @abD @abE
def rF:List (List V):=[gh,[.int .i64 0,.int .i64 0]]
theorem acF (s:List UInt8) {σ:ae} (hg:σ.bR 0=some fQ) (hb:s.length+1≤aF) (hm:aP (fe (c_ s).1 [] []).1+8≤aF) :
    al prog 18 [.str s] σ fun v σ' => v = .aX [.agg (cO s).1.enc,IV (cO s).2]∧σ' = σ:=by
  have hll:=Vj s;refine aga.calls ?_;simp only[aJ,O6,am,aR];refine cl (alj s σ hb) ?_;generalize hR:cO s=R;unfold cO at hR;simp only[am,Nat.reduceAdd,Bo];cases hl:(c_ s).2 with
  | some a =>
    rw[hl] at hR;simp only[am,Nat.reduceAdd,fh,Int.reduceEq];refine aG rfl (ae.aW _) ⟨?_,rfl⟩;rw[←hR];rfl
  | none =>
    rw[hl] at hR;simp only[am,bZ];refine cl (ar5 (c_ s).1 σ (by omega)) ?_;simp only[am,Nat.reduceAdd,iT];simp only at hR;cases ht:(fe (c_ s).1 [] []).2 with
    | some a =>
      rw[ht] at hR;simp only[am,Nat.reduceAdd,fh,Int.reduceEq,cz];refine aG rfl (ae.aW _) ⟨?_,rfl⟩;rw[←hR];rfl
    | none =>
      rw[ht] at hR;simp only at hR;simp only[am,jn,bZ,cz];generalize (fe (c_ s).1 [] []).1=l at hm hR ⊢;have hlen:=kB l;cases l with
      | nil =>
        simp only[am,Nat.reduceAdd,bZ,dv,show (((0:Nat):Int)=0)=True by simp];refine aG rfl (ae.aW _) ⟨?_,rfl⟩;rw[←hR];rfl
      | cons t ts =>
        generalize hL:t::ts=L at *;have aI:¬(L.length:Int)=0:=by rw[←hL];simp;omega
        simp only[am,Nat.reduceAdd,aB aI];refine iw fun r hr=>?_
        have pW : ∀X,(σ.set r X).bR 0=some fQ:=fun X=>hg
        have bN : ∀X,(σ.set r X).box r=some X:=fun X=>ae.cX _ _ _
        simp only[am];change al prog 46 [.ptr (.out r) 0] (σ.set r ((⟨L,0,s.length,none⟩:ab).enc++gh)) _;have ai5:qA L s.length=if gM (⟨L,0,s.length,none⟩:ab).word.1.text=0 then (.zero,2,t.tok.pos)
          else tB (gq (bT (gM (⟨L,0,s.length,none⟩:ab).word.1.text)).2 ((⟨L,0,s.length,none⟩:ab).word.2,{ag.zero with op:=gM (⟨L,0,s.length,none⟩:ab).word.1.text,pos:=(⟨L,0,s.length,none⟩:ab).word.1.pos})):=by rw[←hL];rfl
        rw[ai5] at hR;refine(Bv (bN _) (by simp) (show L.length≤aF by omega)).mono ?_;rintro v _ ⟨rfl,rfl⟩;have hI:∀c,iR L s.length ((⟨L,0,s.length,none⟩:ab).word.2,c):=fun c=>iR.goes (x:=(⟨L,0,s.length,none⟩,c)) ⟨rfl,rfl,by simp,by simp;omega,by simp⟩ rfl (vj _) (Df _ 97)
        generalize (⟨L,0,s.length,none⟩:ab).word.2=r1 at hI hR ⊢;generalize (⟨L,0,s.length,none⟩:ab).word.1=w at hR ⊢;simp only[am,Nat.reduceAdd,Word.enc];refine br.intro (amj w.text (pW _)) ?_;have e5:∀X:List V,X.length=17→setAt (r1.enc++gh) 5 X=r1.enc++X:=fun X hX=>by
          match X,hX with
          | [_,_,_,_,_,_,_,_,_,_,_,_,_,_,_,_,_],_=>rfl
        have xx:bI 17 gh=true:=rfl;have d5:∀X:List V,(r1.enc++X).drop 5=X:=fun X=>rfl
        generalize gM w.text=op at hR ⊢;simp only[am,Nat.reduceAdd,e5,xx,d5]
        by_cases qb:op=0
        · rw[ak qb] at hR;simp only[am,aD qb];refine bD (by omega) (c:=t.enc) (by rw[←hL];simp[qE]) ?_;simp only[am,Nat.reduceAdd,Tree.fl];refine aG rfl (fU hr) ⟨?_,rfl⟩;rw[←hR];rfl
        · rw[ah qb] at hR;simp only[am,aB qb];refine ML ?_;simp only[am,d5];refine(Lk op (pW _)).mono ?_;rintro v σ' ⟨rfl,rfl⟩;simp only[am];generalize e9:(bT op).2=ks at hR ⊢;generalize Cp:((r1,{ag.zero with op:=op,pos:=w.pos}):ab × ag)=x0 at hR;have TB:iR L s.length x0:=by rw[←Cp];exact hI _
          refine⟨ks,rfl,by rw[←e9];exact IW op,fun b i aq => aq = ⟨wL s L b r,rF,σ.set r ((gq (ks.take i) x0).1.enc++(gq (ks.take i) x0).2.cp (oi (gq (ks.take i) x0).2.aV))⟩,?_,?_,?_,?_⟩
          · intro b;simp only[];refine ba.zj (l' := rF) ?_ ?_ ?_ (by simp[wL,rF,List.replicate,bx,V.lo]) (by simp[rF,gh,c8,bx,V.lo]) rfl
            · simp[wL,List.replicate,am]
            · simp[rF,gh,am]
            · rw[←Cp];exact bG.set (by simp[ab.enc,ag.cp,ag.zero,Nd.zero,Nd.kind,Nd.pos,Nd.text,Nd.names,Nd.kids,gq,oi,am])
          · rintro b i _ rfl;exact⟨rfl,by simp[wL],by simp[wL]⟩
          · rintro b i c _ hc rfl;simp only[wL,List.replicate,am];have E5:=Lz (ks.take i) TB;have pf:gq (ks.take (i+1)) x0=cB c (gq (ks.take i) x0):=by rw[Dg hc,Wu]
            have Um:c=112→(gq (ks.take i) x0).2.aV=[]:=fun h=>by
              rw[Wt (ks.take i) (by rw[←e9];exact ah0 op i (by rw[e9,hc,h])),←Cp];rfl
            rw[pf];generalize gq (ks.take i) x0=x at E5 Um ⊢;have hle:=E5.le;refine(aor (k:=c) (bN _) (fun h=>by rw[Um h];exact⟨rfl,rfl⟩) E5.ge (by rw[E5.hl];omega) (by omega)).mono ?_;rintro v _ ⟨rfl,rfl⟩;have J7:(if c=112∧x.1.bad=none then oi (cB c x).2.aV else oi x.2.aV)=oi (cB c x).2.aV:=by
              by_cases h:c=112∧x.1.bad=none
              · rw[ak h]
              · rw[ah h,Wr]
                by_cases h1:c=112
                · exact .inr fun U=>h ⟨h1,U⟩
                · exact .inl h1
            rw[J7];simp only[am,cf];exact ba.zj (l' := rF) (by simp[am]) (by simp[rF,gh,am]) bG.rfl (by simp[rF,bx,V.lo]) (by simp[rF,gh,c8,bx,V.lo]) rfl
          · rintro b _ rfl;simp only[wL,rF,List.replicate,am];rw[dW];have I':=Lz ks TB;generalize gq ks x0=x at I' hR ⊢;obtain⟨rd,c⟩:=x;have h1:=I'.hl;have U:=I'.ge;simp only at h1 U;unfold tB at hR;simp only[h1] at hR;simp only[am,kg];cases eR:rd.bad with
            | some a =>
              simp only[eR] at hR;simp only[am,Nat.reduceAdd,fh,Int.reduceEq,cz,kg,eR,gh];refine aG rfl (fU hr) ⟨?_,rfl⟩;have hR:(ag.zero,(2:Int),a)=R:=by simpa [eR] using hR
              rw[←hR];rfl
            | none =>
              simp only[eR,nL] at hR;simp only[am,jn,bZ,cz,kg]
              by_cases fS:rd.at_<L.length
              · rw[ak fS] at hR;simp only[am,aD fS];refine(RB (bN _) U).mono ?_;rintro v _ ⟨rfl,rfl⟩;obtain⟨a,ha⟩:∃a,rd.fail.bad=some a:=by
                  have:=ab.EG rd
                  cases hq:rd.fail.bad with
                  | none=>exact absurd hq this
                  | some a=>exact⟨a,rfl⟩
                rw[ha] at hR;simp only[am,Nat.reduceAdd,fh,Int.reduceEq,kg,ha,cz,gh];refine aG rfl (fU hr) ⟨?_,rfl⟩;rw[←hR];rfl
              · rw[ah fS,eR] at hR;simp only[am,Nat.reduceAdd,bZ,aB fS,kg,eR,cz,gh,acn,ce];refine aG ?_ (fU hr) ⟨?_,rfl⟩
                · simp[V.cc,bm,abB]
                rw[←hR];simp[V.erase,a9,abz,IV]
section
variable {c:ag}
theorem abb:bf false 1 c.enc=some (.int .i64 c.op):=rfl
theorem abc:bf false 1 (c.enc.drop 0)=some (.int .i64 c.op):=rfl
theorem abd:bf false 1 (c.enc.drop 1)=some (.int .i64 c.pos):=rfl
def fg:=And.intro @abb <| And.intro @abc @abd
end
theorem S8 (op:Int):(bT op).2.length≤3:=by
  unfold bT;split
  · rename_i h1;have aj:op.toNat<16:=by omega
    generalize op.toNat=n at aj ⊢;have key:∀n<16,(iU.getD n ([],[])).2.length≤3:=by decide
    exact key n aj
  · simp
section
variable {c:ag}
theorem aa6:bf false 1 (c.enc.drop 2)=some (.str c.name.text):=rfl
theorem abo:takeN 2 (c.enc.drop 2)=some [.str c.name.text,.int .i64 c.name.pos]:=rfl
theorem aa8:bf false 1 (c.enc.drop 4)=some (.sl .no 2 (c.names.map Word.enc)):=rfl
theorem aa9:bf false 1 (c.enc.drop 5)=some (.sl .no 4 (c.aV.map dT)):=rfl
theorem aa_:bf false 1 (c.enc.drop 6)=some (.int .i64 c.lG):=rfl
theorem abp:takeN 5 (c.enc.drop 7)=some c.left.enc:=by rw[Nd.cD];rfl
theorem abn:takeN 5 (c.enc.drop 12)=some c.right.enc:=by rw[Nd.cD];rfl
def cS:=And.intro @aa6 <| And.intro @abo <| And.intro @aa8 <| And.intro @aa9 <| And.intro @aa_ <| And.intro @abp @abn
end
theorem Ar {l:List (Word × Word)} {j:Nat} {p:Word × Word} (h:l[j]?=some p):(l.map dT)[(j:Int).toNat]?=some (dT p):=by simp[h]
def O8:AC:=.seq (.aa [⟨(some 2),.box 2 (.s 0),none⟩,⟨(some 3),.box 17 (.s 1),none⟩,⟨(some 4),.alloc [(.int .i64 0),(.int .i64 0)],none⟩])
 (.seq (.aa [xl 2 6 2,xf 1 7 3,xo 8 7,⟨(some 9),.build [(.sl .full 2 []),(.sl .full 3 []),(.sl .full 3 []),(.int .i64 0),(.int .i64 0)] [(1,2,(.s 6)),(3,1,(.c (.int .i64 (-1)))),(4,1,(.s 8))],none⟩,⟨(some 10),.ff 5 (.s 9),none⟩,xm 5 10])
 (.seq (.seq (.mQ (.aa [xf 0 11 3,xo 12 11]))
 (.block 0 (.seq (.aa [xB .eql 14 12 10,xm 13 14])
 (.cond (.s 13) (.aa [xm 15 5,xf 2 16 3,xf 0 17 16,xo 18 17,xf 2 19 3,xf 1 20 19,xo 21 20,xc 56 22 [.s 15,.s 18,.s 21,.c (.int .i64 2)]])
 (.seq (.aa [xB .eql 24 12 15,xm 23 24])
 (.cond (.s 23) (.aa [xm 25 5,xf 2 26 3,xf 0 27 26,xo 28 27,xf 2 29 3,xf 1 30 29,xo 31 30,xc 56 32 [.s 25,.s 28,.s 31,.c (.int .i64 1)]])
 (.seq (.aa [xB .eql 34 12 8,xm 33 34])
 (.cond (.s 33) (.seq (.aa [xm 35 5,xf 2 36 3,xl 2 37 36,xc 57 38 [.s 35,.s 37]])
 (.seq (.aa [xm 39 5,xf 7 40 3,xl 5 41 40,xc 58 42 [.s 39,.s 41]])
 (.seq (.aa [xm 43 5,xf 12 44 3,xl 5 45 44,xc 58 46 [.s 43,.s 45]])
 (.draw [(xm 47 5,[]),(xk 48 47,[]),(xf 0 49 48,[]),(xf 12 50 3,[]),(xf 0 51 50,[]),(xo 52 51,[]),(xB .eql 53 52 8,[]),(xm 54 53,[]),(xh 54 (xf 12 55 3),[]),(xh 54 (xf 0 56 55),[]),(xh 54 (xo 57 56),[]),(xh 54 (xB .eql 58 57 9),[]),(⟨(some 59),.pick (.s 54) (.c (.bool true)) (.s 58),none⟩,[]),(xf 12 60 3,[]),(xf 1 61 60,[]),(xo 62 61,[]),(xc 59 63 [.s 49,.s 59,.c (.int .i64 6),.s 62],[])]))))
 (.seq (.aa [xB .eql 65 12 9,xm 64 65])
 (.cond (.s 64) (.seq (.aa [xm 66 5,xf 2 67 3,xl 2 68 67,xc 57 69 [.s 66,.s 68]])
 (.seq (.aa [xm 70 5,xf 7 71 3,xl 5 72 71,xc 60 73 [.s 70,.s 72]])
 (.aa [xm 74 5,xf 12 75 3,xl 5 76 75,xc 60 77 [.s 74,.s 76]])))
 (.skip)))))))))))
 (.seq (.aa [xm 78 5,xk 79 78,xf 0 80 79,xf 0 81 80,xo 82 81,xc 22 83 [.s 82],xs 2 4 83])
 (.ret))))
theorem agc:aK prog 20 O8 [.cell 4 true 2] 84:=⟨f20,⟨[10],[2],[]⟩,func20,by kernel_rfl,by kernel_rfl,by kernel_rfl,by kernel_rfl⟩
def Pu:AC:=.seq (.aa [⟨(some 2),.alloc [(.int .i64 0),(.int .i64 0)],none⟩])
 (.seq (.aa [⟨(some 3),.alloc [(.int .i64 0),(.int .i64 0)],none⟩])
 (.seq (.seq (.aa [xm 6 0,xL 7 6,xi 8 0])
 (.block 0 (.loop (.seq (.aa [xb .lss 9 8 7])
 (.seq (.cond (.s 9) (.skip)
 (.exit 0))
 (.seq (.block 1 (.seq (.aa [xA 2 10 6 8,xl 2 11 10,⟨(some 5),.alloc [(.int .i64 0),(.int .i64 0)],none⟩,xs 2 5 11])
 (.seq (.seq (.aa [xf 0 12 5,xo 13 12,xB .eql 14 13 0])
 (.cond (.s 14) (.exit 1)
 (.skip)))
 (.seq (.aa [xf 0 15 3,xo 16 15,xB .eql 17 16 0,xm 18 17,xh 18 (xf 0 19 5),xh 18 (xo 20 19),xh 18 (xf 0 21 3),xh 18 (xo 22 21),xh 18 (xb .lss 23 20 22),⟨(some 24),.pick (.s 18) (.c (.bool true)) (.s 23),none⟩,xm 25 24,xh 25 (xf 0 26 5),xh 25 (xo 27 26),xh 25 (xf 0 28 3),xh 25 (xo 29 28),xh 25 (xb .eql 30 27 29),xh 25 (xm 31 30),xg 31 (xf 1 32 5),xg 31 (xo 33 32),xg 31 (xf 1 34 3),xg 31 (xo 35 34),xg 31 (xb .lss 36 33 35),⟨(some 37),.pick (.s 31) (.s 36) (.c (.bool false)),(some (25,false))⟩,⟨(some 38),.pick (.s 25) (.c (.bool true)) (.s 37),none⟩])
 (.cond (.s 38) (.aa [xl 2 39 5,xs 2 3 39])
 (.skip))))))
 (.aa [xB .add 40 8 1,xm 8 40])))))))
 (.seq (.aa [xl 2 41 3,xs 2 2 41])
 (.ret))))
theorem agz:aK prog 22 Pu [.cell 2 true 2] 42:=⟨f22,⟨[],[],[]⟩,func22,by kernel_rfl,by kernel_rfl,by kernel_rfl,by kernel_rfl⟩
section
variable {c:ag}
theorem aa7:bf false 1 (c.enc.drop 3)=some (.int .i64 c.name.pos):=rfl
theorem aa4:bf false 1 (c.enc.drop 12)=some (.int .i64 c.right.kind):=rfl
theorem aa5:bf false 1 (c.enc.drop 13)=some (.int .i64 c.right.pos):=rfl
def rX:=And.intro @aa7 <| And.intro @aa4 @aa5
end
theorem afd {l:List aA} {j:Nat} (h:j<l.length):(l.map aA.enc)[((j:Nat):Int).toNat]?=some l[j].enc:=by simp[h]
theorem vN (l:List aA) (σ:ae) (hl:l.length≤100000000):al prog 22 [.sl .no 2 (l.map aA.enc)] σ fun v σ' => v = .agg (fz l).enc∧σ' = σ:=by
  refine agz.calls ?_;simp only[aJ,Pu,am,aR,aE];obtain⟨F,hF⟩:∃F:Nat→Unit→St,∀i x,F i x=⟨[.any,.any,.ptr (.loc 0) 0,.ptr (.loc 1) 0,.any,.any,.sl .no 2 (l.map aA.enc),.int .i64 (l.length:Nat),.int .i64 (i:Nat)]++List.replicate 33 .any,[aA.zero.enc,(fz (l.take i)).enc],σ⟩:=⟨_,fun _ _=>rfl⟩;obtain⟨JF,aQ⟩:∃JF:Nat→Unit→Prop,∀i x,JF i x=(True):=⟨_,fun _ _=>rfl⟩;refine dC (l.length) F JF _ aQ ?_ ?_ ?_
  · refine en (()) ?_ ?_ ?_ ?_
    · exact Eq.mpr (aQ _ _) (trivial)
    all_goals simp[hF,List.replicate,am,bu,fz,aA.zero,aA.enc]
  · rintro i x hi -;have hT:=ald hi;simp only[hF,List.replicate,am,dB hi];refine bD (by omega) (afd hi) ?_;simp only[am,Nat.reduceAdd,aA.af];generalize fz (l.take i)=o at hT;generalize l[i]=f at hT
    by_cases h0:f.cls=0
    · rw[jL,ak h0] at hT;simp only[am,aO,reduceCtorEq,aA.af,aD h0,cu hi (by omega)];refine fm (()) hi ?_ ?_ ?_ ?_ ?_ ?_
      · exact Eq.mpr (aQ _ _) (trivial)
      all_goals simp[hF,List.replicate,am,bu,bx,c8,V.lo,hT,aA.bY]
    rw[jL,ah h0] at hT;simp only[am,aA.af,aB h0];have yes:sE o f=true→fz (l.take (i+1))=f:=fun h=>by rw[hT,h,ak rfl]
    have no:sE o f=false→fz (l.take (i+1))=o:=fun h=>by rw[hT,h];rfl
    by_cases h1:o.cls=0
    · have e:=yes (by simp[sE,h1]);simp only[am,aO,aA.af,aD h1,cu hi (by omega)];refine fm (()) hi ?_ ?_ ?_ ?_ ?_ ?_
      · exact Eq.mpr (aQ _ _) (trivial)
      all_goals simp[hF,List.replicate,am,bu,bx,c8,V.lo,e,aA.bY]
    simp only[am,aA.af,aB h1]
    by_cases U:f.cls<o.cls
    · have e:=yes (by simp[sE,U]);simp only[am,aO,aA.af,aD U,cu hi (by omega)];refine fm (()) hi ?_ ?_ ?_ ?_ ?_ ?_
      · exact Eq.mpr (aQ _ _) (trivial)
      all_goals simp[hF,List.replicate,am,bu,bx,c8,V.lo,e,aA.bY]
    simp only[am,aA.af,aB U]
    by_cases h3:f.cls=o.cls
    case neg =>
      have e:=no (by simp[sE,h1,U,h3]);simp only[am,aO,aB h3,cu hi (by omega)];refine fm (()) hi ?_ ?_ ?_ ?_ ?_ ?_
      · exact Eq.mpr (aQ _ _) (trivial)
      all_goals simp[hF,List.replicate,am,bu,bx,c8,V.lo,e,aA.bY]
    simp only[am,aA.af,aD h3]
    by_cases h4:f.loc<o.loc
    · have e:=yes (by simp[sE,h3,h4]);simp only[am,aO,aA.af,aD h4,cu hi (by omega)];refine fm (()) hi ?_ ?_ ?_ ?_ ?_ ?_
      · exact Eq.mpr (aQ _ _) (trivial)
      all_goals simp[hF,List.replicate,am,bu,bx,c8,V.lo,e,aA.bY]
    · have e:=no (by simp[sE,h1,U,h4]);simp only[am,aO,aB h4,cu hi (by omega)];refine fm (()) hi ?_ ?_ ?_ ?_ ?_ ?_
      · exact Eq.mpr (aQ _ _) (trivial)
      all_goals simp[hF,List.replicate,am,bu,bx,c8,V.lo,e,aA.bY]
  · rintro x -;simp only[hF,List.replicate,am,aO,dG,aO,aA.af,dW];refine az ?_;simp[V.erase,aA.cM]
theorem SP (s:au) (c:ag) {σ:ae} (hs:s.ok) (hg:TZ σ) (hl:c.left.bS≤100000) (hr:c.right.bS≤100000) (xP:c.left.wt≤aF) (tZ:c.right.wt≤aF) :
    al prog 20 [.agg s.enc,.agg c.enc] σ fun v σ' => v = .agg (jo s c).enc∧σ' = σ:=by
  refine agc.calls ?_;simp only[aJ,O8,am,aR,Nat.reduceAdd,Int.reduceNeg,iB,au.af,eg,fg];intro b hb;simp only[am,Int.reduceNeg];refine ba.tok 0 fun τ bh=>⟨_,_,(σ.set b _).set b (mq τ [] s (-1) c.pos),dy.rfl,rfl,fun i c' hc=>⟨c',hc,dy.rfl⟩,oG.set iM (by simp[mq,od]),?_⟩
  have bh:σ.aC τ=none:=bh;rw[ae.set_set,show (σ.set b (mq τ [] s (-1) c.pos)).aL τ 0=ch σ b τ [] s (-1) c.pos from rfl];have fin:∀(L:List aA) (t:List V) (lo:List (List V)) (lat:Int),fz L=jo s c→nU (fun v σ' => v = .agg (jo s c).enc∧σ' = σ) ⟨t,lo,ch σ b τ L s lat c.pos⟩ (.agg (fz L).enc):=fun L t lo lat h=>by
    rw[h];exact aG rfl (atz hb bh) ⟨rfl,rfl⟩
  have hv:∀{t:List UInt8} {y k lat:Int},(gg s lat t y k).length≤1:=AK;have at7:=@akN s c.name;have e1:cF (iI s.bj c.name.text)=ca s c:=rfl;have aj:ca s c<s.bj.length:=by
    rw[ca];cases h:iI s.bj c.name.text with
    | none=>simp only[cF];omega
    | some k=>have:=(EI h).1;simp only[cF];omega
  simp only[am,Int.reduceNeg,fg]
  by_cases gS:c.op=10
  · simp only[am,Nat.reduceAdd,Int.reduceNeg,cS,rX,aD gS];refine cl (Dd σ b τ [] s (-1) c.pos c.name.pos 2 c.name.text (by simp) hs) ?_;simp only[am,Int.reduceNeg,iB,gk];have hlen:=@AK s (-1) c.name.text c.name.pos 2;refine cl (al.dK (as' := [.sl .no 2 ((gg s (-1) c.name.text c.name.pos 2).map aA.enc)]) (vN (gg s (-1) c.name.text c.name.pos 2) _ (by omega)) ⟨cQ.no,trivial⟩ bG.rfl) ?_;simp only[am,Int.reduceNeg,aA.af];exact fin _ _ _ _ (by rw[jo,oP];rw[ak gS])
  simp only[am,Int.reduceNeg,aB gS]
  by_cases qG:c.op=15
  · simp only[am,Nat.reduceAdd,Int.reduceNeg,cS,rX,aD qG];refine cl (Dd σ b τ [] s (-1) c.pos c.name.pos 1 c.name.text (by simp) hs) ?_;simp only[am,Int.reduceNeg,iB,gk];have hlen:=@AK s (-1) c.name.text c.name.pos 1;refine cl (al.dK (as' := [.sl .no 2 ((gg s (-1) c.name.text c.name.pos 1).map aA.enc)]) (vN (gg s (-1) c.name.text c.name.pos 1) _ (by omega)) ⟨cQ.no,trivial⟩ bG.rfl) ?_;simp only[am,Int.reduceNeg,aA.af];exact fin _ _ _ _ (by rw[jo,oP];rw[ah gS,ak qG])
  simp only[am,Int.reduceNeg,aB qG]
  by_cases h8:c.op=8
  · simp only[am,Int.reduceNeg,cS,aD h8];have l1:=@KF s (ca s c) c.left;have l2:=@KF s (ca s c) c.right;refine cl (Yc σ b τ [] s (-1) c.pos c.name (by simp) hs) ?_;rw[e1,gk];simp only[am,Int.reduceNeg,Nd.af,cS];refine cl (Yb σ b τ (fy s c.name) s (ca s c) c.pos c.left hs hg hb aj (by omega) (by omega) xP) ?_;simp only[am,Int.reduceNeg,Nd.af,cS];refine cl (Yb σ b τ (fy s c.name++eG s (ca s c) c.left) s (ca s c) c.pos c.right hs hg hb aj (by simp only[bw];omega) (by omega) tZ) ?_;simp only[am,Int.reduceNeg,rX];have hlen:(fy s c.name++eG s (ca s c) c.left++eG s (ca s c) c.right).length≤200001:=by simp only[bw];omega
    have done:∀(d:List aA) (t:List V) (lo:List (List V)),d=u7 c.right→nU (fun v σ' => v = .agg (jo s c).enc∧σ' = σ) ⟨t,lo,ch σ b τ ((fy s c.name++eG s (ca s c) c.left++eG s (ca s c) c.right)++d) s (ca s c) c.pos⟩ (.agg (fz ((fy s c.name++eG s (ca s c) c.left++eG s (ca s c) c.right)++d)).enc):=fun d t lo hd=>fin _ _ _ _ (by rw[jo,oP,ah gS,ah qG,ak h8,hd])
    by_cases k8:c.right.kind=8∨c.right.kind=9
    · have l9:(decide (c.right.kind=8)=true)∨(decide (c.right.kind=8)=false∧decide (c.right.kind=9)=true):=by
        by_cases h:c.right.kind=8
        · exact .inl (aD h)
        · exact .inr ⟨aB h,aD (by simpa [h] using k8)⟩
      rcases l9 with q1 | ⟨q1,q2⟩
      case' inl=>simp only[am,Nat.reduceAdd,Int.reduceNeg,rX,q1]
      case' inr=>simp only[am,Nat.reduceAdd,Int.reduceNeg,rX,q1,q2]
      all_goals
        refine br.intro (Dh σ b τ (fy s c.name++eG s (ca s c) c.left++eG s (ca s c) c.right) s (ca s c) c.pos 6 c.right.pos (by omega)) ?_;simp only[am,Int.reduceNeg,iB];refine cl (al.dK (as' := [.sl .no 2 (((fy s c.name++eG s (ca s c) c.left++eG s (ca s c) c.right)++[(⟨6,c.right.pos⟩:aA)]).map aA.enc)]) (vN ((fy s c.name++eG s (ca s c) c.left++eG s (ca s c) c.right)++[(⟨6,c.right.pos⟩:aA)]) _ (by simp only[bw,iE];omega)) ⟨cQ.no,trivial⟩ bG.rfl) ?_;simp only[am,Int.reduceNeg,aA.af];exact done _ _ _ (by rw[u7,ak k8])
    · simp only[am,Nat.reduceAdd,Int.reduceNeg,rX,aB (fun h=>k8 (.inl h)),aB (fun h=>k8 (.inr h))];refine br.intro (yG σ b τ (fy s c.name++eG s (ca s c) c.left++eG s (ca s c) c.right) s (ca s c) c.pos 6 c.right.pos (by omega)) ?_;simp only[am,Int.reduceNeg,iB];refine cl (al.dK (as' := [.sl .no 2 ((fy s c.name++eG s (ca s c) c.left++eG s (ca s c) c.right).map aA.enc)]) (vN (fy s c.name++eG s (ca s c) c.left++eG s (ca s c) c.right) _ (by omega)) ⟨cQ.no,trivial⟩ bG.rfl) ?_;simp only[am,Int.reduceNeg,aA.af]
      have:=done [] ?_ ?_ (by rw[u7,ah k8])
      · rw[dn] at this;exact this
  simp only[am,Int.reduceNeg,aB h8]
  by_cases h9:c.op=9
  · simp only[am,Int.reduceNeg,cS,aD h9];refine cl (Yc σ b τ [] s (-1) c.pos c.name (by simp) hs) ?_;rw[e1,gk];simp only[am,Int.reduceNeg,Nd.af,cS];refine cl (Yk σ b τ (fy s c.name) s (ca s c) c.pos c.left hs hg hb aj (by omega) hl xP) ?_;simp only[am,Int.reduceNeg,Nd.af,cS];have r1:=@Xb s (ca s c) c.pos c.left;have r2:=@Xb s (ca s c) c.pos c.right;refine cl (Yk σ b τ (fy s c.name++mg s (ca s c) c.pos c.left) s (ca s c) c.pos c.right hs hg hb aj (by simp only[bw];omega) hr tZ) ?_;simp only[am,Int.reduceNeg,iB];refine cl (al.dK (as' := [.sl .no 2 ((fy s c.name++mg s (ca s c) c.pos c.left++mg s (ca s c) c.pos c.right).map aA.enc)]) (vN (fy s c.name++mg s (ca s c) c.pos c.left++mg s (ca s c) c.pos c.right) _ (by simp only[bw];omega)) ⟨cQ.no,trivial⟩ bG.rfl) ?_;simp only[am,Int.reduceNeg,aA.af];exact fin _ _ _ _ (by rw[jo,oP];rw[ah gS,ah qG,ah h8,ak h9])
  simp only[am,Int.reduceNeg,iB,aB h9];refine cl (al.dK (as' := [.sl .no 2 (([]:List aA).map aA.enc)]) (vN ([]:List aA) _ (by simp)) ⟨cQ.no,trivial⟩ bG.rfl) ?_;simp only[am,Int.reduceNeg,aA.af];exact fin _ _ _ _ (by rw[jo,oP];rw[ah gS,ah qG,ah h8,ah h9])
def Qi:AC:=.seq (.aa [⟨(some 4),.mv (.c (.str [])),none⟩])
 (.seq (.aa [⟨(some 5),.mv (.c (.sl .full 1 [])),none⟩])
 (.seq (.seq (.aa [xm 7 0,xL 8 7,xi 9 0])
 (.block 0 (.loop (.seq (.aa [xb .lss 10 9 8])
 (.seq (.cond (.s 10) (.skip)
 (.exit 0))
 (.seq (.block 1 (.seq (.aa [xm 11 9,xm 6 11])
 (.seq (.seq (.aa [xm 12 6,xB .gtr 13 12 0])
 (.cond (.s 13) (.aa [xm 14 5,xm 15 1,⟨(some 16),.kc (.s 14) (.s 15),none⟩,xm 5 16])
 (.skip)))
 (.aa [xm 17 5,xm 18 0,xm 19 6,xA 1 20 18 19,xo 21 20,⟨(some 22),.kc (.s 17) (.s 21),none⟩,xm 5 22]))))
 (.aa [xB .add 23 9 1,xm 9 23])))))))
 (.seq (.aa [xm 24 5,⟨(some 25),.r6 (.s 24),none⟩,xm 4 25])
 (.ret))))
theorem ahl:aK prog 36 Qi [.tmp 4] 26:=⟨f36,⟨[],[],[]⟩,func36,by kernel_rfl,by kernel_rfl,by kernel_rfl,by kernel_rfl⟩
def Qj:AC:=.seq (.aa [⟨(some 2),.mv (.c (.sl .full 1 [])),none⟩])
 (.seq (.aa [⟨(some 3),.mv (.c (.sl .full 1 [])),none⟩])
 (.seq (.seq (.aa [xm 6 0,xL 7 6,xi 8 0])
 (.block 0 (.loop (.seq (.aa [xb .lss 9 8 7])
 (.seq (.cond (.s 9) (.skip)
 (.exit 0))
 (.seq (.block 1 (.seq (.aa [xA 2 10 6 8,xl 2 11 10,⟨(some 5),.alloc [(.str []),(.int .i64 0)],none⟩,xs 2 5 11])
 (.aa [xm 12 3,xf 0 13 5,xo 14 13,⟨(some 15),.cR 1 [(.s 14)],none⟩,xa 1 16 12 15,xm 3 16])))
 (.aa [xB .add 17 8 1,xm 8 17])))))))
 (.seq (.aa [xm 18 3,xm 2 18])
 (.ret))))
theorem ahm:aK prog 37 Qj [.tmp 2] 19:=⟨f37,⟨[],[],[]⟩,func37,by kernel_rfl,by kernel_rfl,by kernel_rfl,by kernel_rfl⟩
def Qk:AC:=.seq (.aa [⟨(some 2),.mv (.c (.str [])),none⟩])
 (.seq (.aa [xm 3 0,xc 36 4 [.s 3,.c (.str [44])],⟨(some 5),.cat (.c (.str [123])) (.s 4),none⟩,⟨(some 6),.cat (.s 5) (.c (.str [125])),none⟩,xm 2 6])
 (.ret))
theorem ahn:aK prog 38 Qk [.tmp 2] 7:=⟨f38,⟨[],[],[]⟩,func38,by kernel_rfl,by kernel_rfl,by kernel_rfl,by kernel_rfl⟩
def Ql:AC:=.seq (.aa [⟨(some 2),.mv (.c (.sl .full 1 [])),none⟩])
 (.seq (.aa [⟨(some 3),.mv (.c (.sl .full 1 [])),none⟩])
 (.seq (.seq (.aa [xm 6 0,xL 7 6,xi 8 0])
 (.block 0 (.loop (.seq (.aa [xb .lss 9 8 7])
 (.seq (.cond (.s 9) (.skip)
 (.exit 0))
 (.seq (.block 1 (.seq (.aa [xA 4 10 6 8,xl 4 11 10,⟨(some 5),.alloc [(.str []),(.int .i64 0),(.str []),(.int .i64 0)],none⟩,xs 4 5 11])
 (.aa [xm 12 3,⟨(some 13),.fk 2 2 (.s 5) (.c (.int .i64 0)),none⟩,xf 0 14 13,xo 15 14,⟨(some 16),.cat (.s 15) (.c (.str [60])),none⟩,⟨(some 17),.fk 2 2 (.s 5) (.c (.int .i64 1)),none⟩,xf 0 18 17,xo 19 18,⟨(some 20),.cat (.s 16) (.s 19),none⟩,⟨(some 21),.cR 1 [(.s 20)],none⟩,xa 1 22 12 21,xm 3 22])))
 (.aa [xB .add 23 8 1,xm 8 23])))))))
 (.seq (.aa [xm 24 3,xm 2 24])
 (.ret))))
theorem aho:aK prog 39 Ql [.tmp 2] 25:=⟨f39,⟨[],[],[]⟩,func39,by kernel_rfl,by kernel_rfl,by kernel_rfl,by kernel_rfl⟩
def fi (l:List (List UInt8)):List (List V):=l.map fun s=>[V.str s]
theorem qD {l:List (List UInt8)}:(fi l).length=l.length:=aE ..
theorem EB {l:List (List UInt8)} {j:Nat} {s:List UInt8} (h:l[j]?=some s):(fi l)[(j:Int).toNat]?=some [.str s]:=by simp[fi,h]
def Ct (l:List (List UInt8)) (sep:List UInt8) (σ:ae) (i τ:Nat):St :=
  ⟨[.sl .no 1 (fi l),.str sep,.any,.any,.any,.sl (.tk τ) 1 (cm (iv sep (l.take i))),.any,.any,.int .i64 l.length,.int .i64 (i:Nat)]++List.replicate 16 .any,[],σ.aL τ (iv sep (l.take i)).length⟩
theorem K9 (l:List (List UInt8)) (sep:List UInt8) (σ:ae) (hl:l.length≤aF) (hb:(iv sep l).length≤aF) :
    al prog 36 [.sl .no 1 (fi l),.str sep] σ fun v σ' => v = .str (iv sep l)∧σ' = σ:=by
  refine ahl.calls ?_;simp only[aJ,Qi,am,aR,Nat.reduceAdd,qD];refine j6 (fun p:{p:Nat × Nat // σ.aC p.2=none∧p.1≤l.length}=>Ct l sep σ p.1.1 p.1.2) (fun p=>l.length - p.1.1) ?_ ?_
  · refine ba.yI 0 fun τ bh=>⟨⟨(0,τ),bh,by simp⟩,?_,rfl,rfl⟩
    simp[Ct,List.replicate,od,iv,cm]
  · rintro⟨⟨i,τ⟩,bh,hi⟩;simp only at bh hi;simp only[Ct,List.replicate,am];have wi:IntKind.i64.wrap ((i:Int)+1)=((i+1:Nat):Int):=by simp only[aF] at hl;rw[wrap_i64 (by omega) (by omega)];simp
    by_cases aj:i<l.length
    · have hs:=aki (sep:=sep) aj;have hm:=akf (sep:=sep) (l:=l) (i:=i+1);rw[hs] at hm;simp only[bw] at hm;simp only[am,aD (show (i:Int)<l.length by omega)]
      by_cases h0:0<i
      case' pos =>
        rw[ak h0] at hs hm;simp only[am,cf,aD (show (0:Int)<i by omega)];refine⟨_,rfl,?_⟩;refine ke (by rw[mA,mA];omega) (by rw[mA,lK]) ?_;simp only[am,j5];rw[←IE,mA,mA,←bw]
      case' neg =>
        rw[ah h0,dn] at hs;rw[ah h0] at hm;simp only[am,aB (show ¬(0:Int)<i by omega)]
      all_goals
        refine bD (by omega) (EB (cw aj)) ?_;simp only[am,cf];refine⟨_,rfl,?_⟩;refine ke (by rw[mA,mA];simp at hm ⊢;omega) (by rw[mA,lK]) ?_;simp only[am,j5,wi];rw[←IE,mA,mA,←bw,←hs];exact ba.again (I:=fun p:{p:Nat × Nat // σ.aC p.2=none∧p.1≤l.length}=>Ct l sep σ p.1.1 p.1.2) (μ:=fun p=>l.length - p.1.1) ⟨(i+1,τ),bh,aj⟩ (by simp;omega) (by simp[Ct,am,List.replicate]) cj.rfl bG.rfl
    · have aj:i=l.length:=by omega
      subst aj;simp only[am,cf,aB (show ¬(l.length:Int)<l.length by omega),dW];refine⟨_,_,rfl,?_⟩;refine aG rfl (rp bh) ⟨?_,rfl⟩;simp[V.erase]
def vH (l:List Word) (σ:ae) (i τ:Nat) (loc:List (List V)):St :=
  ⟨[.any,.any,.any,.sl (.tk τ) 1 (fi ((l.take i).map Word.text)),.any,.any,.sl .no 2 (l.map Word.enc),.int .i64 l.length,.int .i64 (i:Nat)]++List.replicate 10 .any,loc,σ.aL τ i⟩
theorem wZ {l:List (List UInt8)} {s:List UInt8}:fi l++[[.str s]]=fi (l++[s]):=by simp[fi]
theorem AF (l:List Word) (σ:ae) (hl:l.length+1≤aF):al prog 37 [.sl .no 2 (l.map Word.enc)] σ fun v σ' => v = .sl .no 1 (fi (l.map Word.text))∧σ' = σ:=by
  refine ahm.calls ?_;simp only[aJ,Qj,am,aR];refine j6 (fun p:{p:Nat × Nat // σ.aC p.2=none∧p.1≤l.length}=>vH l σ p.1.1 p.1.2 []) (fun p=>l.length - p.1.1) ?_ ?_
  · refine ba.yI 0 fun τ bh=>⟨⟨(0,τ),bh,by simp⟩,?_,rfl,rfl⟩
    simp[vH,List.replicate,od,fi]
  · rintro⟨⟨i,τ⟩,bh,hi⟩;simp only at bh hi;simp only[vH,List.replicate,am];have wi:IntKind.i64.wrap ((i:Int)+1)=((i+1:Nat):Int):=by simp only[aF] at hl;rw[wrap_i64 (by omega) (by omega)];simp
    by_cases aj:i<l.length
    · have tY:((l.take i).map Word.text).length=i:=by simp;omega
      have pf:(l.take i).map Word.text++[l[i].text]=(l.take (i+1)).map Word.text:=by rw[kP aj,fE,DP]
      simp only[am,aD (show (i:Int)<l.length by omega)];refine bD (by omega) (AR (cw aj)) ?_;simp only[am,Nat.reduceAdd,Word.enc];refine ke (by rw[qD,tY];simp;omega) (by rw[qD,tY,lK]) ?_;simp only[am,qD,j5,wi,tY];rw[wZ,pf];exact ba.rT (I:=fun p:{p:Nat × Nat // σ.aC p.2=none∧p.1≤l.length}=>vH l σ p.1.1 p.1.2 []) (μ:=fun p=>l.length - p.1.1) ⟨(i+1,τ),bh,aj⟩ (by simp;omega) (by simp[vH,am,List.replicate]) (by simp[vH,am]) bG.rfl (by simp[vH,List.replicate,bx,V.lo]) (by simp[vH,c8])
    · have aj:i=l.length:=by omega
      subst aj;simp only[am,aB (show ¬(l.length:Int)<l.length by omega),dW];refine aG rfl (rp bh) ⟨?_,rfl⟩;simp[V.erase]
def vI (l:List (Word × Word)) (σ:ae) (i τ:Nat) (loc:List (List V)):St :=
  ⟨[.any,.any,.any,.sl (.tk τ) 1 (fi ((l.take i).map iL)),.any,.any,.sl .no 4 (l.map dT),.int .i64 l.length,.int .i64 (i:Nat)]++List.replicate 16 .any,loc,σ.aL τ i⟩
theorem aoj (l:List (Word × Word)) (σ:ae) (hl:l.length+1≤aF) (hp:jc l≤aF):al prog 39 [.sl .no 4 (l.map dT)] σ fun v σ' => v = .sl .no 1 (fi (l.map iL))∧σ' = σ:=by
  refine aho.calls ?_;simp only[aJ,Ql,am,aR];refine j6 (fun p:{p:Nat × Nat // σ.aC p.2=none∧p.1≤l.length}=>vI l σ p.1.1 p.1.2 []) (fun p=>l.length - p.1.1) ?_ ?_
  · refine ba.yI 0 fun τ bh=>⟨⟨(0,τ),bh,by simp⟩,?_,rfl,rfl⟩
    simp[vI,List.replicate,od,fi]
  · rintro⟨⟨i,τ⟩,bh,hi⟩;simp only at bh hi;simp only[vI,List.replicate,am];have wi:IntKind.i64.wrap ((i:Int)+1)=((i+1:Nat):Int):=by simp only[aF] at hl;rw[wrap_i64 (by omega) (by omega)];simp
    by_cases aj:i<l.length
    · have tY:((l.take i).map iL).length=i:=by simp;omega
      have pf:(l.take i).map iL++[iL l[i]]=(l.take (i+1)).map iL:=by rw[kP aj,fE,DP]
      simp only[am,aD (show (i:Int)<l.length by omega)];refine bD (by omega) (Ar (cw aj)) ?_;simp only[am,cf,Nat.reduceAdd,dT];have mG:=aoY aj;refine jx (by omega) (by omega) ?_;simp only[am,cf,Int.reduceToNat,Nat.reduceMul];refine⟨by simp;omega,?_⟩;refine jx (by omega) (by omega) ?_;simp only[am,Int.reduceToNat,Nat.reduceMul];refine⟨by simp;omega,?_⟩;refine ke (by rw[qD,tY];simp;omega) (by rw[qD,tY,lK]) ?_;simp only[am,qD,j5,wi,tY];rw[show l[i].1.text++[60]++l[i].2.text=iL l[i] from rfl,wZ,pf];exact ba.rT (I:=fun p:{p:Nat × Nat // σ.aC p.2=none∧p.1≤l.length}=>vI l σ p.1.1 p.1.2 []) (μ:=fun p=>l.length - p.1.1) ⟨(i+1,τ),bh,aj⟩ (by simp;omega) (by simp[vI,am,List.replicate]) (by simp[vI,am]) bG.rfl (by simp[vI,List.replicate,bx,V.lo]) (by simp[vI,c8])
    · have aj:i=l.length:=by omega
      subst aj;simp only[am,aB (show ¬(l.length:Int)<l.length by omega),dW];refine aG rfl (rp bh) ⟨?_,rfl⟩;simp[V.erase]
theorem Rx (l:List (List UInt8)) (σ:ae) (hl:l.length≤aF) (hb:(bW l).length+2≤aF):al prog 38 [.sl .no 1 (fi l)] σ fun v σ' => v = .str (rW l)∧σ' = σ:=by
  refine ahn.calls ?_;simp only[aJ,Qk,am,aR];refine cl (K9 l [44] σ hl (by rw[FR];omega)) ?_;simp only[am,FR];refine⟨by simp;omega,by simp;omega,?_⟩;refine az ?_;simp[V.erase,rW]
def Ox:AC:=.seq (.aa [⟨(some 1),.box 17 (.s 0),none⟩,⟨(some 2),.mv (.c (.str [])),none⟩])
 (.seq (.aa [xf 0 8 1,xo 9 8,xc 35 10 [.s 9],⟨(some 3),.alloc [(.str []),(.str [])],none⟩,xs 2 3 10])
 (.seq (.aa [xf 0 11 3,xo 12 11,⟨(some 13),.cR 1 [(.s 12)],none⟩,xm 4 13])
 (.seq (.aa [xf 7 14 1,xl 5 15 14,xf 12 16 1,xl 5 17 16,⟨(some 18),.cR 5 [(.s 15),(.s 17)],none⟩,xm 5 18])
 (.seq (.As [xf 1 19 3,xo 20 19] (.s 20) 21 22 23 0 1
 (.seq (.aa [xe 24 22 2,xm 7 24])
 (.seq (.aa [xm 25 7])
 (.block 2 (.seq (.aa [⟨(some 36),.dA .eql (.s 25) (.c (.int .i32 110)),none⟩,xm 35 36])
 (.cond (.s 35) (.aa [xm 37 4,xf 2 38 1,xf 0 39 38,xo 40 39,⟨(some 41),.cR 1 [(.s 40)],none⟩,xa 1 42 37 41,xm 4 42])
 (.seq (.aa [⟨(some 44),.dA .eql (.s 25) (.c (.int .i32 102)),none⟩,xm 43 44])
 (.cond (.s 43) (.aa [xm 45 4,xf 4 46 1,xo 47 46,xc 37 48 [.s 47],xc 36 49 [.s 48,.c (.str [44])],⟨(some 50),.cR 1 [(.s 49)],none⟩,xa 1 51 45 50,xm 4 51])
 (.seq (.aa [⟨(some 53),.dA .eql (.s 25) (.c (.int .i32 119)),none⟩,xm 52 53])
 (.cond (.s 52) (.aa [xm 54 4,xf 4 55 1,xo 56 55,xc 37 57 [.s 56],xc 38 58 [.s 57],⟨(some 59),.cR 1 [(.s 58)],none⟩,xa 1 60 54 59,xm 4 60])
 (.seq (.aa [⟨(some 62),.dA .eql (.s 25) (.c (.int .i32 112)),none⟩,xm 61 62])
 (.cond (.s 61) (.aa [xm 63 4,xf 5 64 1,xo 65 64,xc 39 66 [.s 65],xc 38 67 [.s 66],⟨(some 68),.cR 1 [(.s 67)],none⟩,xa 1 69 63 68,xm 4 69])
 (.seq (.aa [xm 26 4,xm 27 5,⟨(some 28),.kv 5 (.s 27) (.c (.int .i64 0)),none⟩,xl 5 29 28,xc 40 30 [.s 29],⟨(some 31),.cR 1 [(.s 30)],none⟩,xa 1 32 26 31,xm 4 32])
 (.aa [xm 33 5,⟨(some 34),.lg 5 (.s 33) (some (.c (.int .i64 1))) none none,none⟩,xm 5 34]))))))))))))))
 (.seq (.aa [xm 70 4,xc 36 71 [.s 70,.c (.str [32])],xm 2 71])
 (.ret))))))
theorem afH:aK prog 15 Ox [.tmp 2] 72:=⟨f15,⟨[],[],[]⟩,func15,by kernel_rfl,by kernel_rfl,by kernel_rfl,by kernel_rfl⟩
def yB (c:ag) (σ:ae) (ks:List UInt8) (b i τ:Nat):St :=
  ⟨[.any,.ptr (.loc 0) 0,.any,.any,.sl (.tk τ) 1 (fi (jG c (ks.take i)).1),.sl .no 5 ((jG c (ks.take i)).2.map Nd.enc)]++List.replicate 15 .any++[.raw (.pointer (some ⟨b,0,none⟩))]++List.replicate 50 .any,[c.enc,[.str (bT c.op).1,.str ks]],σ.aL τ (i+1)⟩
theorem R9 (c:ag) {σ:ae} (hg:σ.bR 0=some fQ) (hw:16*c.wt+64≤aF):al prog 15 [.agg c.enc] σ fun v σ' => v = .str (fc c)∧σ' = σ:=by
  have hcw:c.wt=c.name.text.length+dL c.names+jc c.aV+c.left.wt+c.right.wt:=rfl;have hn1:=LK c.names;have J6:=WM c.aV;refine afH.calls ?_;simp only[aJ,Ox,am,aR,eg,fg];refine cl (Lk c.op hg) ?_;simp only[am,Nat.reduceAdd,Nd.af,cS];refine ML ?_;simp only[am];have Fj:=ah1 c.op;have xN:fc c=iv [32] (jG c (bT c.op).2).1:=rfl;have vv:=S8 c.op;generalize e9:(bT c.op).2=ks at Fj xN vv;refine⟨ks,rfl,by rw[←e9];exact IW c.op,fun b i aq => ∃τ:{τ:Nat // σ.aC τ=none},aq = yB c σ ks b i τ.1,?_,?_,?_,?_⟩
  · intro b;refine ba.yI 1 fun τ bh=>⟨⟨τ,bh⟩,?_,?_,rfl⟩
    · simp[yB,List.replicate,od,fi,jG];exact⟨iq.tok rfl,iq.le cQ.no⟩
    · simp[yB]
  · rintro b i _ ⟨τ,rfl⟩;exact⟨rfl,by simp[yB],by simp[yB]⟩
  · rintro b i k _ hk ⟨⟨τ,bh⟩,rfl⟩;have hi:i<ks.length:=(dD.1 hk).1;have pd:ks.take (i+1)=ks.take i++[k]:=by rw[Dg hk]
    obtain⟨o1,o2,o3,o4⟩:=LD c (ks.take i);have pf:=WA c (ks.take i) k;rw[←pd] at pf;have l6:(fi (jG c (ks.take i)).1).length=i+1:=by rw[qD,o3,gZ];omega
    have gH:∀n:UInt8,((k.toNat:Nat):Int)=(n.toNat:Nat)↔k=n:=fun n=>by
      constructor
      · intro h;exact N1.1 (by omega)
      · rintro rfl;rfl
    have Bz:((k.toNat:Nat):Int)=110↔k=110:=gH 110;have Ex:((k.toNat:Nat):Int)=102↔k=102:=gH 102;have wX:((k.toNat:Nat):Int)=119↔k=119:=gH 119;have wW:((k.toNat:Nat):Int)=112↔k=112:=gH 112;have ht:=Fj i hi k hk;simp only[yB,List.replicate,am];generalize hX:jG c (ks.take i)=X at *;obtain⟨rows,ts⟩:=X;simp only at o1 o2 o3 o4 l6;simp only;rw[pf];simp only[wk];have Ca:rows.length+1≤aF:=by
      have:(List.take i ks).length≤3:=by rw[gZ];omega
      simp only[aF];omega
    by_cases k1:k=110
    · have hp:kZ k c (ts.headD .zero)=c.name.text:=by subst k1;rfl
      have hq:isTerm k=false:=by subst k1;rfl
      simp only[am,cS,aD (Bz.2 k1),hp,hq];refine ke (by rw[l6];simp only[iE,aF] at *;omega) (by rw[l6,lK]) ?_;simp only[am,cf,j5,l6];rw[wZ];exact ba.dK (by simp[am]) (by simp[am]) bG.rfl ⟨⟨τ,bh⟩,rfl⟩
    simp only[am,aB (fun h=>k1 (Bz.1 h))]
    by_cases k2:k=102
    · have hp:kZ k c (ts.headD .zero)=bW (c.names.map Word.text):=by subst k2;rfl
      have hq:isTerm k=false:=by subst k2;rfl
      simp only[am,cS,aD (Ex.2 k2),hp,hq];refine cl (AF c.names _ (by omega)) ?_;simp only[am];refine cl (K9 (c.names.map Word.text) [44] _ (by rw[aE];omega) (by rw[FR];omega)) ?_;simp only[am,FR];refine ke (by rw[l6];simp only[iE,aF] at *;omega) (by rw[l6,lK]) ?_;simp only[am,cf,j5,l6];rw[wZ];exact ba.dK (by simp[am]) (by simp[am]) bG.rfl ⟨⟨τ,bh⟩,rfl⟩
    simp only[am,aB (fun h=>k2 (Ex.1 h))]
    by_cases k3:k=119
    · have hp:kZ k c (ts.headD .zero)=rW (c.names.map Word.text):=by subst k3;rfl
      have hq:isTerm k=false:=by subst k3;rfl
      simp only[am,cS,aD (wX.2 k3),hp,hq];refine cl (AF c.names _ (by omega)) ?_;simp only[am];refine cl (Rx (c.names.map Word.text) _ (by rw[aE];omega) (by omega)) ?_;simp only[am];refine ke (by rw[l6];simp only[iE,aF] at *;omega) (by rw[l6,lK]) ?_;simp only[am,cf,j5,l6];rw[wZ];exact ba.dK (by simp[am]) (by simp[am]) bG.rfl ⟨⟨τ,bh⟩,rfl⟩
    simp only[am,aB (fun h=>k3 (wX.1 h))]
    by_cases k4:k=112
    · have hp:kZ k c (ts.headD .zero)=rW (c.aV.map iL):=by subst k4;rfl
      have hq:isTerm k=false:=by subst k4;rfl
      simp only[am,cS,aD (wW.2 k4),hp,hq];refine cl (aoj c.aV _ (by omega) (by omega)) ?_;simp only[am];refine cl (Rx (c.aV.map iL) _ (by rw[aE];omega) (by omega)) ?_;simp only[am];refine ke (by rw[l6];simp only[iE,aF] at *;omega) (by rw[l6,lK]) ?_;simp only[am,cf,j5,l6];rw[wZ];exact ba.dK (by simp[am]) (by simp[am]) bG.rfl ⟨⟨τ,bh⟩,rfl⟩
    simp only[am,aB (fun h=>k4 (wW.1 h))];have hq:isTerm k=true:=by simp[isTerm,k1,k2,k3,k4]
    have ht2:=ht hq;obtain⟨n,ns,nq⟩:∃n ns,ts=n::ns:=by
      rw[o4]
      match (List.filter isTerm (List.take i ks)).length,ht2 with
      | 0,_=>exact⟨_,_,rfl⟩
      | 1,_=>exact⟨_,_,rfl⟩
    have hnw:n.wt≤c.wt:=o2 n (by rw[nq];simp);have hp:kZ k c (ts.headD .zero)=n.cE:=by rw[nq];simp[kZ,k1,k2,k3,k4]
    have pj:ts.map Nd.enc=n.enc::ns.map Nd.enc:=by rw[nq];rfl
    have tY:ts.tail=ns:=by rw[nq];rfl
    simp only[am,hp,hq,tY,pj];refine bD (by omega) (c:=n.enc) (by simp) ?_;simp only[am,Nd.af];refine cl (arT _ n _ (bt _) (by omega)) ?_;simp only[am];refine ke (by rw[l6];simp only[iE,aF] at *;omega) (by rw[l6,lK]) ?_;simp only[am,cf,j5,l6];refine arh (a:=1) (by simp) ?_;simp only[am,cf];rw[wZ];exact ba.dK (by simp[am]) (by simp[am]) bG.rfl ⟨⟨τ,bh⟩,rfl⟩
  · rintro b _ ⟨⟨τ,bh⟩,rfl⟩;simp only[yB,List.replicate,am];rw[dW];obtain⟨o1,o2,o3,o4⟩:=LD c ks;have xH:=akg _ o1;rw[o3] at xH;have hjb:(iv [32] (jG c ks).1).length≤aF:=by
      have:(ks.length+1)*(c.wt+8+1)≤4*(c.wt+8+1):=nT _ (by omega)
      omega
    refine(al.dK (K9 (jG c ks).1 [32] (σ.aL τ (ks.length+1)) (by rw[o3];simp only[aF];omega) hjb) ?_ bG.rfl).mono ?_
    · simp[am]
    rintro v _ ⟨rfl,rfl⟩;simp only[am];refine aG rfl (rp bh) ⟨?_,rfl⟩;rw[xN];rfl
end Go.Proofs.Tryz
