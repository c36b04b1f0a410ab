/-
  Part 6 of the proof of JudgeRoomUptoCardSaid: a logic over the model, the forms of the functions that the law reaches, and what they compute.
-/
import Derived.Test.YtkeidlpchmepkaaGreatDoorProg
import Derived.Test.YtkeidlpchmepkaaGreatDoorRoom5
set_option linter.unusedVariables false
set_option linter.unusedSimpArgs false
set_option linter.defProp false
set_option linter.unusedSectionVars false

namespace Go.Proofs.Tryz
open Go.Am
set_option maxRecDepth 4000
set_option maxHeartbeats 4000000
def ac125:AC:=.seq (.reg [⟨(some 2),.box 2 (.s 0),none⟩,⟨(some 3),.box 5 (.s 1),none⟩,⟨(some 4),.alloc elmZ,none⟩,⟨(some 5),.alloc [(.int .i64 0),(.int .i64 0)],none⟩])
 (.seq (.reg [⟨(some 6),.alloc elmZ,none⟩])
 (.seq (.reg [xl 2 13 2,xl 5 14 3,xc 175 15 [.s 13,.s 14],xm 12 15,xe 16 12 0,xe 17 12 1,xm 7 16,xm 8 17])
 (.seq (.seq (.reg [xm 18 8,⟨(some 19),.not (.s 18),none⟩,xm 20 19,xh 20 (xl 2 21 2),xh 20 (xc 176 22 [.s 21]),⟨(some 23),.not (.s 22),(some (20,false))⟩,⟨(some 24),.pick (.s 20) (.c (.bool true)) (.s 23),none⟩,xm 25 24,xh 25 (xl 5 26 3),xh 25 (xc 172 27 [.s 26]),⟨(some 28),.not (.s 27),(some (25,false))⟩,⟨(some 29),.pick (.s 25) (.c (.bool true)) (.s 28),none⟩])
 (.cond (.s 29) (.seq (.draw [(xl 8 30 6,[]),(xf 1 31 3,[]),(xo 32 31,[1]),(⟨(some 33),.build [(.int .i64 0),(.int .i64 0)] [(0,1,(.c (.int .i64 4))),(1,1,(.s 32))],none⟩,[]),(xs 8 4 30,[]),(xs 2 5 33,[])])
 (.ret))
 (.skip)))
 (.seq (.reg [⟨(some 34),.build [(.bool false),(.int .i64 0)] [],none⟩,⟨(some 35),.boxO 2 (.s 34),none⟩,xm 9 35])
 (.seq (.seq (.reg [xf 1 36 2,xo 37 36,xL 38 37,xi 39 0])
 (.block 0 (.loop (.seq (.reg [xb .lss 40 39 38])
 (.seq (.cond (.s 40) (.skip)
 (.exit 0))
 (.seq (.block 1 (.seq (.reg [xm 41 39,xA 67 42 37 39,xl 67 43 42,⟨(some 11),.alloc facZ,none⟩,xm 10 41,xs 67 11 43])
 (.draw [(xm 44 10,[]),(xm 45 9,[]),(xl 67 46 11,[]),(xm 47 7,[]),(xm 48 10,[]),(xA 5 49 47 48,[]),(xl 5 50 49,[]),(xc 177 51 [.s 45,.s 46,.s 50],[]),(⟨(some 52),.idxP 8 1 (.s 6) (.s 44),none⟩,[]),(xs 1 52 51,[])])))
 (.reg [xB .add 53 39 1,xm 39 53])))))))
 (.seq (.seq (.reg [xm 54 9,xk 55 54,xf 0 56 55,xo 57 56])
 (.cond (.s 57) (.seq (.draw [(⟨(some 58),.build elmZ [],none⟩,[]),(xm 59 9,[]),(xk 60 59,[]),(xf 1 61 60,[]),(xo 62 61,[1]),(⟨(some 63),.build [(.int .i64 0),(.int .i64 0)] [(0,1,(.c (.int .i64 4))),(1,1,(.s 62))],none⟩,[]),(xs 8 4 58,[]),(xs 2 5 63,[])])
 (.ret))
 (.skip)))
 (.seq (.reg [xl 8 64 6,⟨(some 65),.build [(.int .i64 0),(.int .i64 0)] [],none⟩,xs 8 4 64,xs 2 5 65])
 (.ret))))))))
theorem fn125:IsFn prog 125 ac125 [.cell 4 true 8,.cell 5 true 2] 66:=⟨f125,⟨[35],[],[]⟩,func125,by kernel_rfl,by kernel_rfl,by kernel_rfl,by kernel_rfl⟩
def ac175:AC:=.seq (.reg [⟨(some 2),.box 2 (.s 0),none⟩,⟨(some 3),.box 5 (.s 1),none⟩,⟨(some 4),.mv (.c (.sl .full 5 [])),none⟩,⟨(some 5),.mv (.c (.bool false)),none⟩])
 (.seq (.seq (.reg [xf 0 6 2,xo 7 6,⟨(some 8),.not (.s 7),none⟩])
 (.cond (.s 8) (.seq (.reg [xl 5 9 3,⟨(some 10),.bslice 5 [(.s 9)],none⟩,xm 4 10,⟨(some 5),.mv (.c (.bool true)),none⟩])
 (.ret))
 (.skip)))
 (.seq (.draw [(xf 4 11 3,[]),(xo 12 11,[]),(xf 0 13 3,[]),(xo 14 13,[]),(xB .eql 15 14 4,[]),(xm 16 15,[]),(xg 16 (xf 4 17 3),[]),(xg 16 (xo 18 17),[]),(xg 16 (xL 19 18),[]),(xg 16 (xf 1 20 2),[]),(xg 16 (xo 21 20),[]),(xg 16 (xL 22 21),[]),(xg 16 (xb .eql 23 19 22),[]),(⟨(some 24),.pick (.s 16) (.s 23) (.c (.bool false)),none⟩,[]),(xm 4 12,[]),(xm 5 24,[])])
 (.ret)))
theorem fn175:IsFn prog 175 ac175 [.tmp 4,.tmp 5] 25:=⟨f175,⟨[],[],[]⟩,func175,by kernel_rfl,by kernel_rfl,by kernel_rfl,by kernel_rfl⟩
def ac177:AC:=.seq (.reg [⟨(some 4),.box 67 (.s 1),none⟩,⟨(some 5),.box 5 (.s 2),none⟩,⟨(some 6),.mv (.c (.int .u64 0)),none⟩])
 (.seq (.seq (.draw [(xf 0 7 5,[]),(xo 8 7,[1]),(xl 67 9 4,[]),(xc 229 10 [.s 9],[]),(xb .neq 11 8 10,[])])
 (.cond (.s 11) (.seq (.reg [xm 12 0,xf 1 13 5,xo 14 13,xc 230 15 [.s 12,.s 14],xm 6 15])
 (.ret))
 (.skip)))
 (.seq (.seq (.reg [xf 0 16 4,xo 17 16])
 (.block 0 (.seq (.reg [xB .eql 19 17 2,xm 18 19])
 (.cond (.s 18) (.seq (.reg [xm 20 0,xf 1 21 4,xo 22 21,xf 3 23 5,xo 24 23,xc 231 25 [.s 20,.s 22,.s 24],xm 6 25])
 (.ret))
 (.seq (.reg [xB .eql 27 17 3,xm 26 27])
 (.cond (.s 26) (.seq (.reg [xm 28 0,xl 67 29 4,xl 5 30 5,xc 232 31 [.s 28,.s 29,.s 30],xm 6 31])
 (.ret))
 (.skip)))))))
 (.seq (.reg [xm 32 0,xl 67 33 4,xl 5 34 5,xc 233 35 [.s 32,.s 33,.s 34],xm 6 35])
 (.ret))))
theorem fn177:IsFn prog 177 ac177 [.tmp 6] 36:=⟨f177,⟨[],[],[]⟩,func177,by kernel_rfl,by kernel_rfl,by kernel_rfl,by kernel_rfl⟩
def ac229:AC:=.seq (.reg [⟨(some 1),.box 67 (.s 0),none⟩,xi 2 0])
 (.seq (.seq (.reg [xf 0 3 1,xo 4 3])
 (.block 0 (.seq (.reg [xB .eql 6 4 2,xm 5 6])
 (.cond (.s 5) (.seq (.reg [xi 2 3])
 (.ret))
 (.seq (.reg [xB .eql 8 4 3,xm 7 8])
 (.cond (.s 7) (.seq (.reg [xi 2 5])
 (.ret))
 (.skip)))))))
 (.seq (.reg [xi 2 2])
 (.ret)))
theorem fn229:IsFn prog 229 ac229 [.tmp 2] 9:=⟨f229,⟨[],[],[]⟩,func229,by kernel_rfl,by kernel_rfl,by kernel_rfl,by kernel_rfl⟩
def ac230:AC:=.seq (.reg [⟨(some 4),.mv (.c (.int .u64 0)),none⟩])
 (.seq (.seq (.reg [xm 5 0,xk 6 5,xf 0 7 6,xo 8 7,⟨(some 9),.not (.s 8),none⟩])
 (.cond (.s 9) (.reg [xm 10 0,xm 11 0,xm 12 1,xk 13 10,xf 0 14 13,⟨none,.store 1 (.s 14) (.c (.bool true)),none⟩,xk 15 11,xf 1 16 15,xs 1 16 12])
 (.skip)))
 (.seq (.reg [⟨(some 4),.mv (.c (.int .u64 0)),none⟩])
 (.ret)))
theorem fn230:IsFn prog 230 ac230 [.tmp 4] 17:=⟨f230,⟨[],[],[]⟩,func230,by kernel_rfl,by kernel_rfl,by kernel_rfl,by kernel_rfl⟩
def ac231:AC:=.seq (.reg [⟨(some 6),.mv (.c (.int .u64 0)),none⟩])
 (.seq (.reg [⟨(some 7),.mv (.c (.int .u64 0)),none⟩])
 (.seq (.seq (.reg [xm 11 2,xL 12 11,xi 13 0])
 (.block 0 (.loop (.seq (.reg [xb .lss 14 13 12])
 (.seq (.cond (.s 14) (.skip)
 (.exit 0))
 (.seq (.block 1 (.seq (.reg [xA 2 15 11 13,xl 2 16 15,⟨(some 9),.alloc [(.str []),(.int .i64 0)],none⟩,xs 2 9 16])
 (.seq (.reg [xm 17 1,xf 0 18 9,xo 19 18,xc 112 20 [.s 17,.s 19],xm 10 20])
 (.seq (.seq (.reg [xm 21 10,xB .lss 22 21 0])
 (.cond (.s 22) (.seq (.reg [xm 23 0,xf 1 24 9,xo 25 24,xc 230 26 [.s 23,.s 25],xm 6 26])
 (.ret))
 (.skip)))
 (.reg [xm 27 7,xm 28 10,xc 220 29 [.s 27,.s 28],xm 7 29])))))
 (.reg [xB .add 30 13 1,xm 13 30])))))))
 (.seq (.reg [xm 31 7,xm 6 31])
 (.ret))))
theorem fn231:IsFn prog 231 ac231 [.tmp 6] 32:=⟨f231,⟨[],[],[]⟩,func231,by kernel_rfl,by kernel_rfl,by kernel_rfl,by kernel_rfl⟩
def ac232:AC:=.seq (.reg [⟨(some 4),.box 67 (.s 1),none⟩,⟨(some 5),.box 5 (.s 2),none⟩,⟨(some 6),.mv (.c (.int .u64 0)),none⟩])
 (.seq (.reg [⟨(some 7),.mv (.c (.int .u64 0)),none⟩])
 (.seq (.seq (.reg [xf 4 11 5,xo 12 11,xL 13 12,xi 14 0])
 (.block 0 (.loop (.seq (.reg [xb .lss 15 14 13])
 (.seq (.cond (.s 15) (.skip)
 (.exit 0))
 (.seq (.block 1 (.seq (.reg [xA 5 16 12 14,xl 5 17 16,⟨(some 9),.alloc [(.int .i64 0),(.int .i64 0),(.str []),(.sl .full 2 []),(.sl .full 5 [])],none⟩,xs 5 9 17])
 (.seq (.reg [xf 1 18 4,xo 19 18,xf 2 20 9,xo 21 20,xc 112 22 [.s 19,.s 21],xm 10 22])
 (.seq (.seq (.reg [xm 23 10,xB .lss 24 23 0])
 (.cond (.s 24) (.seq (.reg [xm 25 0,xf 1 26 9,xo 27 26,xc 230 28 [.s 25,.s 27],xm 6 28])
 (.ret))
 (.skip)))
 (.draw [(xm 29 7,[]),(xf 2 30 4,[]),(xl 65 31 30,[1]),(xm 32 10,[]),(xm 33 0,[]),(xf 1 34 4,[]),(xo 35 34,[]),(xf 3 36 9,[]),(xo 37 36,[]),(xc 231 38 [.s 33,.s 35,.s 37],[]),(xc 258 39 [.s 31,.s 32,.s 38],[]),(xb .or 40 29 39,[]),(xm 7 40,[])])))))
 (.reg [xB .add 41 14 1,xm 14 41])))))))
 (.seq (.reg [xm 42 7,xm 6 42])
 (.ret))))
theorem fn232:IsFn prog 232 ac232 [.tmp 6] 43:=⟨f232,⟨[],[],[]⟩,func232,by kernel_rfl,by kernel_rfl,by kernel_rfl,by kernel_rfl⟩
def ac233:AC:=.seq (.reg [⟨(some 4),.box 67 (.s 1),none⟩,⟨(some 5),.box 5 (.s 2),none⟩,⟨(some 6),.mv (.c (.int .u64 0)),none⟩])
 (.seq (.reg [xf 1 10 4,xo 11 10,xf 2 12 5,xo 13 12,xc 112 14 [.s 11,.s 13],xm 7 14])
 (.seq (.seq (.reg [xm 15 7,xB .lss 16 15 0])
 (.cond (.s 16) (.seq (.reg [xm 17 0,xf 1 18 5,xo 19 18,xc 230 20 [.s 17,.s 19],xm 6 20])
 (.ret))
 (.skip)))
 (.seq (.seq (.reg [xf 0 21 4,xo 22 21,xB .eql 23 22 4])
 (.cond (.s 23) (.seq (.reg [xf 2 24 4,xl 65 25 24,xm 26 7,xc 259 27 [.s 25,.s 26],xm 6 27])
 (.ret))
 (.skip)))
 (.seq (.reg [xf 1 29 4,xo 30 29,xL 31 30,xm 32 7,xc 260 33 [.s 31,.s 32],xm 28 33,xe 34 28 0,xe 35 28 1,xm 8 34,xm 9 35])
 (.seq (.reg [xm 36 8,xm 6 36])
 (.ret))))))
theorem fn233:IsFn prog 233 ac233 [.tmp 6] 37:=⟨f233,⟨[],[],[]⟩,func233,by kernel_rfl,by kernel_rfl,by kernel_rfl,by kernel_rfl⟩
abbrev BB (σ:Store) (b:Nat) (o:Option Int):Prop:=σ.box b=some (badV o)
theorem tz_set {σ:Store} {b:Nat} {o:Option Int} {c:List V} (hg:TZ σ) (h:BB σ b o):TZ (σ.set b c):=hg
theorem spfail_calls (b:Nat) (o:Option Int) (p:Int) {σ:Store} (h:BB σ b o):PCalls prog 230 [.ptr (.out b) 0,.int .i64 p] σ fun v σ' => v = .int .u64 ((0#64:B64).toNat:Nat)∧σ' = σ.set b (badV (o.or (some p))):=by
  refine fn230.calls ?_;simp only[slots,ac230,am,ams,Nat.reduceAdd,w_zero];cases o with
  | none =>
    simp only[am,show σ.box b=some [.bool false,.int .i64 0] from h];exact retK_intro rfl (Store.sub_refl _) ⟨rfl,rfl⟩
  | some q =>
    have e:σ.set b (badV ((some q).or (some p)))=σ:=Store.set_id h;simp only[am,show σ.box b=some [.bool true,.int .i64 q] from h];rw[e];exact retK_intro rfl (Store.sub_refl _) ⟨rfl,rfl⟩
theorem plcF_step {l:List (List UInt8)} {w:Word} {ws:List Word} {s:B64} {k:Nat} (h:findS l w.text=some k):plcF l s (w::ws)=plcF l (withB s (k:Nat)) ws:=by simp only[plcF,h]
theorem plcF_fail {l:List (List UInt8)} {w:Word} {ws:List Word} {s:B64} (h:findS l w.text=none):plcF l s (w::ws)=(0#64,some w.pos):=by simp only[plcF,h]
theorem spplaces_calls (b:Nat) (o:Option Int) (l:List (List UInt8)) (ws:List Word) {σ:Store} (h:BB σ b o) (hl:l.length≤100000) (hw:ws.length≤1000000000) :
    PCalls prog 231 [.ptr (.out b) 0,.sl .no 1 (sCells l),.sl .no 2 (ws.map Word.enc)] σ fun v σ' => v = .int .u64 ((plcF l 0#64 ws).1.toNat:Nat)∧σ' = σ.set b (badV (o.or (plcF l 0#64 ws).2)):=by
  refine fn231.calls ?_;simp only[slots,ac231,am,ams,Nat.reduceAdd,w_zero,List.length_map];obtain⟨F,hF⟩:∃F:Nat→B64→St,∀i x,F i x=⟨[.ptr (.out b) 0,.sl .no 1 (sCells l),.any,.any,.any,.any,.any,.int .u64 (x.toNat:Nat),.any,.any,.any,.sl .no 2 (ws.map Word.enc),.int .i64 (ws.length:Nat),.int .i64 (i:Nat)]++List.replicate 18 .any,[],σ⟩:=⟨_,fun _ _=>rfl⟩;obtain⟨JF,hJF⟩:∃JF:Nat→B64→Prop,∀i x,JF i x=(plcF l 0#64 ws=plcF l x (ws.drop i)):=⟨_,fun _ _=>rfl⟩;refine vc_count (ws.length) F JF _ hJF ?_ ?_ ?_
  · refine ent (0#64) ?_ ?_ ?_ ?_
    · exact Eq.mpr (hJF _ _) (rfl)
    all_goals simp[hF,List.replicate,am,lle_self]
  · rintro i x hi hJ;rw[List.drop_eq_getElem_cons hi] at hJ;simp only[hF,List.replicate,am,dlt hi];refine idxL_intro (by omega) (wencs_at (List.getElem?_eq_getElem hi)) ?_;simp only[am,Nat.reduceAdd,Word.enc];refine cl (find_calls l ws[i].text σ hl) ?_;simp only[am,optI_neg];cases hf:findS l ws[i].text with
    | none =>
      rw[plcF_fail hf] at hJ;simp only[am,Option.isNone_none];refine(spfail_calls b o ws[i].pos h).mono ?_;rintro v σ' ⟨rfl,rfl⟩;simp only[am,aml];exact retK_intro rfl (Store.sub_refl _) ⟨by rw[hJ];rfl,by rw[hJ]⟩
    | some k =>
      rw[plcF_step hf] at hJ;simp only[am,Option.isNone_some,optI];refine cl (mask_with_calls x (k:Nat) σ) ?_;simp only[am,aml,winc hi (by omega)];refine nxtD (withB x (k:Nat)) hi ?_ ?_ ?_ ?_ ?_ ?_
      · exact Eq.mpr (hJF _ _) (hJ)
      all_goals simp[hF,List.replicate,am,lle_self,loL,loLL,V.lo]
  · rintro x hJ;rw[List.drop_length] at hJ;have e:σ.set b (badV (o.or (plcF l 0#64 ws).2))=σ:=by rw[hJ];simp only[plcF,Option.or_none];exact Store.set_id h
    simp only[hF,List.replicate,am,aml,dnl,aml];rw[e,hJ];refine retS ?_;simp[V.erase,plcF]
def z17_:=And.intro @am <| And.intro @ams <| And.intro @w_zero <| And.intro @Fct.rec_ <| And.intro @Nd.rec_ @Nd.fl
def z18_:=And.intro @am <| And.intro @aml <| And.intro @w_or @Fct.rec_
theorem rules_calls (b:Nat) (o:Option Int) (f:Fct) (n:Nd) {σ:Store} (h:BB σ b o) (hg:TZ σ) (hl:f.names.length≤100000) (hk:n.kids.length≤1000000000) (hw:∀k∈n.kids,k.names.length≤1000000000) :
    PCalls prog 232 [.ptr (.out b) 0,.agg f.enc,.agg n.enc] σ fun v σ' => v = .int .u64 ((rulP f 0#64 o n.kids).1.toNat:Nat)∧σ' = σ.set b (badV (rulP f 0#64 o n.kids).2):=by
  refine fn232.calls ?_;simp only[slots,ac232,z17_,Nat.reduceAdd,List.length_map];have hid:σ.set b (badV o)=σ:=Store.set_id h;obtain⟨F,hF⟩:∃F:Nat→B64 × Option Int→St,∀i x,F i x=⟨[.ptr (.out b) 0,.any,.any,.any,.ptr (.loc 0) 0,.ptr (.loc 1) 0,.any,.int .u64 (x.1.toNat:Nat),.any,.any,.any,.any,.sl .no 5 (n.kids.map Nd.enc),.int .i64 (n.kids.length:Nat),.int .i64 (i:Nat)]++List.replicate 28 .any,[f.enc,n.enc],σ.set b (badV x.2)⟩:=⟨_,fun _ _=>rfl⟩;obtain⟨JF,hJF⟩:∃JF:Nat→B64 × Option Int→Prop,∀i x,JF i x=(rulP f 0#64 o n.kids=rulP f x.1 x.2 (n.kids.drop i)):=⟨_,fun _ _=>rfl⟩;refine vc_count (n.kids.length) F JF _ hJF ?_ ?_ ?_
  · refine ent ((0#64,o)) ?_ ?_ ?_ ?_
    · exact Eq.mpr (hJF _ _) (rfl)
    all_goals simp[hF,List.replicate,am,lle_self,hid]
  · rintro i ⟨x,o'⟩ hi hJ;rw[List.drop_eq_getElem_cons hi] at hJ;simp only at hJ;have h1:BB (σ.set b (badV o')) b o' := set_box;simp only[hF,List.replicate,am,dlt hi];refine idxL_intro (by omega) (nencs_at (List.getElem?_eq_getElem hi)) ?_;simp only[z17_,Nat.reduceAdd];refine(find_calls f.names n.kids[i].text _ hl).mono ?_;rintro v σ1 ⟨rfl,rfl⟩;simp only[am,optI_neg];cases hf:findS f.names n.kids[i].text with
    | none =>
      simp only[rulP,hf] at hJ;simp only[am,Nd.fl,Option.isNone_none];refine(spfail_calls b o' n.kids[i].pos h1).mono ?_;rintro v σ' ⟨rfl,rfl⟩;simp only[am,aml];exact retK_intro rfl (Store.sub_refl _) ⟨by rw[hJ];rfl,by rw[hJ]⟩
    | some k =>
      simp only[rulP,hf] at hJ;simp only[am,Fct.rec_,Nd.fl,Option.isNone_some,optI];refine CallD.intro (spplaces_calls b o' f.names n.kids[i].names h1 hl (hw _ (List.getElem_mem hi))) ?_;simp only[am,Rl.rec_];refine CallD.intro (grule_calls f.rel k (plcF f.names 0#64 n.kids[i].names).1 (tz_set hg h)) ?_;simp only[z18_,winc hi (by omega)];refine nxtD ((x|||ruleG f.rel k (plcF f.names 0#64 n.kids[i].names).1,o'.or (plcF f.names 0#64 n.kids[i].names).2)) hi ?_ ?_ ?_ ?_ ?_ ?_
      · exact Eq.mpr (hJF _ _) (hJ)
      all_goals simp[hF,List.replicate,am,lle_self,loL,loLL,V.lo,Fct.r_lo,Nd.r_lo]
  · rintro⟨x,o'⟩ hJ;rw[List.drop_length] at hJ;simp only[hF,List.replicate,am,aml,dnl,aml];rw[hJ];refine retS ?_;simp[V.erase,rulP]
theorem point_calls11 (b:Nat) (o:Option Int) (f:Fct) (n:Nd) {σ:Store} (h:BB σ b o) (hl:f.names.length≤100000) :
    PCalls prog 233 [.ptr (.out b) 0,.agg f.enc,.agg n.enc] σ fun v σ' => v = .int .u64 ((ptF f n).1.toNat:Nat)∧σ' = σ.set b (badV (o.or (ptF f n).2)):=by
  refine fn233.calls ?_;simp only[slots,ac233,z17_,Nat.reduceAdd];refine cl (find_calls f.names n.text _ hl) ?_;simp only[am,optI_neg];cases hf:findS f.names n.text with
  | none =>
    simp only[am,Nd.fl,Option.isNone_none];refine(spfail_calls b o n.pos h).mono ?_;rintro v σ' ⟨rfl,rfl⟩;simp only[am];exact retK_intro rfl (Store.sub_refl _) ⟨by simp only[ptF,hf];rfl,by simp only[ptF,hf]⟩
  | some k =>
    have e:σ.set b (badV (o.or (ptF f n).2))=σ:=by simp only[ptF,hf,Option.or_none];exact Store.set_id h
    rw[e];simp only[am,Fct.rec_,Option.isNone_some,optI]
    by_cases h4:f.kind=4
    · simp only[am,Rl.rec_,Fct.rec_,decide_eq_true h4];refine cl (hword_calls f.rel k σ) ?_;simp only[am];refine retS ?_;simp[V.erase,ptF,hf,h4]
    · simp only[am,Fct.rec_,sCells_len,decide_eq_false h4];refine cl (rword_calls f.names.length k σ) ?_;simp only[am,wTup];refine retS ?_;simp[V.erase,ptF,hf,h4]
theorem kind_calls (f:Fct) (σ:Store):PCalls prog 229 [.agg f.enc] σ fun v σ' => v = .int .i64 (kindF f)∧σ' = σ:=by
  refine fn229.calls ?_;simp only[slots,ac229,am,ams,Fct.rec_]
  by_cases h2:f.kind=2
  · simp only[am,decide_eq_true h2];refine retS ?_;simp[V.erase,kindF,h2]
  · simp only[am,decide_eq_false h2]
    by_cases h3:f.kind=3
    · simp only[am,decide_eq_true h3];refine retS ?_;simp[V.erase,kindF,h3]
    · simp only[am,decide_eq_false h3];refine retS ?_;simp[V.erase,kindF,h2,h3]
theorem word_calls11 (b:Nat) (o:Option Int) (f:Fct) (n:Nd) {σ:Store} (h:BB σ b o) (hg:TZ σ) (hl:f.names.length≤100000) (hk:n.names.length≤1000000000∧n.kids.length≤1000000000) (hw:∀k∈n.kids,k.names.length≤1000000000) :
    PCalls prog 177 [.ptr (.out b) 0,.agg f.enc,.agg n.enc] σ fun v σ' => v = .int .u64 ((wrdP f n o).1.toNat:Nat)∧σ' = σ.set b (badV (wrdP f n o).2):=by
  refine fn177.calls ?_;simp only[slots,ac177,z17_,Nat.reduceAdd];refine CallD.intro (kind_calls f σ) ?_;simp only[am,Nd.fl]
  by_cases hq:n.kind=kindF f
  · simp only[am,Fct.rec_,decide_eq_true hq]
    by_cases h2:f.kind=2
    · have e:wrdP f n o=((plcF f.names 0#64 n.names).1,o.or (plcF f.names 0#64 n.names).2):=by rw[wrdP,if_pos hq,if_pos h2]
      simp only[am,Fct.rec_,Nd.fl,decide_eq_true h2];refine(spplaces_calls b o f.names n.names h hl hk.1).mono ?_;rintro v σ' ⟨rfl,rfl⟩;simp only[am];exact retK_intro rfl (Store.sub_refl _) ⟨by rw[e];rfl,by rw[e]⟩
    · simp only[am,decide_eq_false h2]
      by_cases h3:f.kind=3
      · have e:wrdP f n o=rulP f 0#64 o n.kids:=by rw[wrdP,if_pos hq,if_neg h2,if_pos h3]
        simp only[am,Fct.rec_,Nd.rec_,decide_eq_true h3];refine(rules_calls b o f n h hg hl hk.2 hw).mono ?_;rintro v σ' ⟨rfl,rfl⟩;simp only[am];exact retK_intro rfl (Store.sub_refl _) ⟨by rw[e];rfl,by rw[e]⟩
      · have e:wrdP f n o=((ptF f n).1,o.or (ptF f n).2):=by rw[wrdP,if_pos hq,if_neg h2,if_neg h3]
        simp only[am,Fct.rec_,Nd.rec_,decide_eq_false h3];refine(point_calls11 b o f n h hl).mono ?_;rintro v σ' ⟨rfl,rfl⟩;simp only[am];exact retK_intro rfl (Store.sub_refl _) ⟨by rw[e];rfl,by rw[e]⟩
  · have e:wrdP f n o=(0#64,o.or (some n.pos)):=by rw[wrdP,if_neg hq]
    simp only[am,Nd.fl,decide_eq_false hq];refine(spfail_calls b o n.pos h).mono ?_;rintro v σ' ⟨rfl,rfl⟩;simp only[am];exact retK_intro rfl (Store.sub_refl _) ⟨by rw[e];rfl,by rw[e]⟩
def z19_:=And.intro @am <| And.intro @ams <| And.intro @Shp.rec_ @Nd.rec_
theorem parts_calls (s:Shp) (n:Nd) (σ:Store):PCalls prog 175 [.agg s.enc,.agg n.enc] σ fun v σ' => v = .tup [.sl .no 5 ((partsF s n).map Nd.enc),.bool (partsQ s n)]∧σ' = σ:=by
  refine fn175.calls ?_;simp only[slots,ac175,z19_,Nat.reduceAdd];cases ht:s.tuple with
  | false =>
    simp only[am,Nd.rec_];refine retS ?_;simp[V.erase,eraseL,partsF,partsQ,ht]
  | true =>
    simp only[am,Nd.fl]
    by_cases h4:n.kind=4
    · simp only[am,List.length_map,Shp.rec_,Nd.fl,List.length_map,decide_eq_true h4]
      by_cases hl:n.kids.length=s.facs.length
      · simp only[decide_eq_true (show (n.kids.length:Int)=s.facs.length by omega)];refine retS ?_;simp[V.erase,eraseL,partsF,partsQ,ht,h4,hl]
      · simp only[decide_eq_false (show ¬(n.kids.length:Int)=s.facs.length by omega)];refine retS ?_;simp[V.erase,eraseL,partsF,partsQ,ht,h4,hl]
    · simp only[am,decide_eq_false h4];refine retS ?_;simp[V.erase,eraseL,partsF,partsQ,ht,h4]
def Nd.ok (n:Nd):Prop:=n.names.length≤1000000000∧n.kids.length≤1000000000∧∀k∈n.kids,k.names.length≤1000000000
theorem elemF_no {s:Shp} {n:Nd} (h:(partsQ s n&&shpR s&&n.constQ)=false):elemF s n=(.zero,some n.pos):=by rw[elemF,h];rfl
theorem elemF_go {s:Shp} {n:Nd} (h1:partsQ s n=true) (h2:shpR s=true) (h3:n.constQ=true):elemF s n=elmGo s (partsF s n):=by rw[elemF,h1,h2,h3];rfl
theorem shpR_len {s:Shp} (h:shpR s=true):1≤s.facs.length∧s.facs.length≤8∧(s.tuple=false→s.facs.length=1):=by
  simp only[shpR,Bool.and_eq_true,decide_eq_true_eq,Bool.or_eq_true] at h;refine⟨h.1.1.1,h.1.1.2,fun ht=>?_⟩
  rcases h.1.2 with h | h
  · rw[ht] at h;simp at h
  · exact h
theorem parts_len {s:Shp} {n:Nd} (h1:partsQ s n=true) (h2:shpR s=true):(partsF s n).length=s.facs.length:=by
  have hl:=(shpR_len h2).2.2;unfold partsF;unfold partsQ at h1;cases ht:s.tuple with
  | false=>simp[hl ht]
  | true=>rw[ht] at h1;simpa using And.right (by simpa using h1)
def z20_:=And.intro @am <| And.intro @ams <| And.intro @Shp.rec_ <| And.intro @Elm.rec_ @Nd.rec_
theorem elem_calls (s:Shp) (n:Nd) {σ:Store} (hg:TZ σ) (hok:s.ok) (hn:∀k∈partsF s n,Nd.ok k) (hwt:n.wt≤big) :
    PCalls prog 125 [.agg s.enc,.agg n.enc] σ fun v σ' => v = .tup [.agg (elemF s n).1.enc,.agg (fltV (elemF s n).2)]∧σ' = σ:=by
  refine fn125.calls ?_;simp only[slots,ac125,z20_,Nat.reduceAdd];refine cl (parts_calls s n σ) ?_;simp only[am];have done:∀(e:Elm × Option Int) (t:List V) (l:List (List V)) (σ1:Store),e=elemF s n→σ.sub σ1→RetK (fun v σ' => v=V.tup [.agg (elemF s n).1.enc,.agg (fltV (elemF s n).2)]∧σ' = σ) ⟨t,l,σ1⟩ (.tup [.agg e.1.enc,.agg (fltV e.2)]):=fun e t l σ1 he hs=>by
    subst he;exact retK_intro (by simp[V.nol,nolL,Elm.r_nol,fltV]) hs ⟨by simp[V.erase,eraseL,Elm.r_er,fltV],rfl⟩
  cases hp:partsQ s n with
  | false =>
    simp only[am,Nat.reduceAdd,Elm.rec_,Nd.fl];exact done (.zero,some n.pos) _ _ _ (elemF_no (by rw[hp];rfl)).symm (Store.sub_refl _)
  | true =>
    simp only[am,Shp.rec_];refine cl (shright_calls s hg hok) ?_;cases hr:shpR s with
    | false =>
      simp only[am,Nat.reduceAdd,Elm.rec_,Nd.fl];exact done (.zero,some n.pos) _ _ _ (elemF_no (by rw[hp,hr];rfl)).symm (Store.sub_refl _)
    | true =>
      simp only[am,Nd.rec_];refine cl (const_is_calls _ n σ (Nat.le_refl _) hwt) ?_;cases hc:n.constQ with
      | false =>
        simp only[am,Nat.reduceAdd,Elm.rec_,Nd.fl];exact done (.zero,some n.pos) _ _ _ (elemF_no (by rw[hp,hr,hc];rfl)).symm (Store.sub_refl _)
      | true =>
        have hgo:=elemF_go hp hr hc;obtain⟨hl1,hl8,_⟩:=shpR_len hr;have hpl:=parts_len hp hr;simp only[am,Nat.reduceAdd];refine kO_intro fun b hb=>?_
        have hs:∀c,σ.sub (σ.set b c):=fun c=>sub_set hb
        have hgb:∀c,TZ (σ.set b c):=fun c=>(hs c).2.2 _ _ hg
        simp only[am,List.length_map,Shp.rec_,List.length_map];obtain⟨F,hF⟩:∃F:Nat→Elm × Option Int→St,∀i x,F i x=⟨[.any,.any,.any,.any,.ptr (.loc 2) 0,.ptr (.loc 3) 0,.ptr (.loc 4) 0,.sl .no 5 ((partsF s n).map Nd.enc),.any,.ptr (.out b) 0,.any,.any,.any,.any,.any,.any,.any,.any,.any,.any,.any,.any,.any,.any,.any,.any,.any,.any,.any,.any,.any,.any,.any,.any,.any,.any,.any,.sl .no 67 (s.facs.map Fct.enc),.int .i64 (s.facs.length:Nat),.int .i64 (i:Nat)]++List.replicate 26 .any,[s.enc,n.enc,Elm.zero.enc,[.int .i64 0,.int .i64 0],x.1.enc],σ.set b (badV x.2)⟩:=⟨_,fun _ _=>rfl⟩;obtain⟨JF,hJF⟩:∃JF:Nat→Elm × Option Int→Prop,∀i x,JF i x=(goI s (partsF s n) i x):=⟨_,fun _ _=>rfl⟩;refine vc_count (s.facs.length) F JF _ hJF ?_ ?_ ?_
        · refine ent ((.zero,none)) ?_ ?_ ?_ ?_
          · exact Eq.mpr (hJF _ _) (goI_zero)
          all_goals simp[hF,List.replicate,am,lle_self,badV]
        · rintro i ⟨e,o⟩ hi hJ;have hip:i<(partsF s n).length:=by omega
          have h8:i<8:=by omega
          have hst:=goI_step hJ;rw[getD_at hi,getD_at hip] at hst;have hnd:=hn _ (List.getElem_mem hip);simp only[hF,List.replicate,am,dlt hi];refine idxL_intro (by omega) (facs_at hi) ?_;simp only[am,Nat.reduceAdd,Fct.rec_];refine idxL_intro (by omega) (nencs_at (List.getElem?_eq_getElem hip)) ?_;simp only[am,Fct.rec_,Nd.rec_];refine CallD.intro (word_calls11 b o s.facs[i] (partsF s n)[i] set_box (hgb _) (hok.2 _ (List.getElem_mem hi)) ⟨hnd.1,hnd.2.1⟩ hnd.2.2) ?_;simp only[am,amc];refine idxPL_ptr (by omega) (by omega) ?_;simp only[z8_,Elm.u_has h8,Elm.u_st h8,winc hi (by omega)];refine nxtD ((e.put i (wrdP s.facs[i] (partsF s n)[i] o).1,(wrdP s.facs[i] (partsF s n)[i] o).2)) hi ?_ ?_ ?_ ?_ ?_ ?_
          · exact Eq.mpr (hJF _ _) (hst)
          all_goals simp[hF,List.replicate,am,lle_self,loL,loLL,V.lo,Nd.r_lo,Shp.r_lo,Elm.r_lo]
        · rintro⟨e,o⟩ hJ;have hend:=goI_end hJ;rw[←hgo] at hend;simp only[hF,List.replicate,am,aml,dnl,aml,badV];cases o with
          | some p =>
            simp only[am,Nat.reduceAdd,Elm.rec_,Option.isSome_some,Option.getD_some];exact done (.zero,some p) _ _ _ (by rw[hend];rfl) (hs _)
          | none =>
            simp only[am,Nat.reduceAdd,Elm.rec_,Option.isSome_none];exact done (e,none) _ _ _ (by rw[hend];rfl) (hs _)
end Go.Proofs.Tryz

namespace Go.Proofs.Tryz
open Go.Am
set_option maxRecDepth 4000
set_option maxHeartbeats 4000000
def ac43:AC:=.seq (.reg [⟨(some 2),.box 5 (.s 0),none⟩,⟨(some 3),.box 5 (.s 1),none⟩,⟨(some 4),.mv (.c (.bool false)),none⟩])
 (.seq (.seq (.reg [xf 0 7 2,xo 8 7,xf 0 9 3,xo 10 9,xb .neq 11 8 10,xm 12 11,xh 12 (xf 2 13 2),xh 12 (xo 14 13),xh 12 (xf 2 15 3),xh 12 (xo 16 15),⟨(some 17),.binS .neq (.s 14) (.s 16),(some (12,false))⟩,⟨(some 18),.pick (.s 12) (.c (.bool true)) (.s 17),none⟩,xm 19 18,xh 19 (xf 3 20 2),xh 19 (xo 21 20),xh 19 (xL 22 21),xh 19 (xf 3 23 3),xh 19 (xo 24 23),xh 19 (xL 25 24),xh 19 (xb .neq 26 22 25),⟨(some 27),.pick (.s 19) (.c (.bool true)) (.s 26),none⟩,xm 28 27,xh 28 (xf 4 29 2),xh 28 (xo 30 29),xh 28 (xL 31 30),xh 28 (xf 4 32 3),xh 28 (xo 33 32),xh 28 (xL 34 33),xh 28 (xb .neq 35 31 34),⟨(some 36),.pick (.s 28) (.c (.bool true)) (.s 35),none⟩])
 (.cond (.s 36) (.seq (.reg [⟨(some 4),.mv (.c (.bool false)),none⟩])
 (.ret))
 (.skip)))
 (.seq (.seq (.reg [xf 3 37 2,xo 38 37,xL 39 38,xi 40 0])
 (.block 0 (.loop (.seq (.reg [xb .lss 41 40 39])
 (.seq (.cond (.s 41) (.skip)
 (.exit 0))
 (.seq (.block 1 (.seq (.reg [xm 42 40,xm 5 42])
 (.seq (.draw [(xf 3 43 2,[]),(xo 44 43,[]),(xm 45 5,[]),(xA 2 46 44 45,[]),(xf 0 47 46,[]),(xo 48 47,[]),(xf 3 49 3,[]),(xo 50 49,[]),(xm 51 5,[]),(xA 2 52 50 51,[]),(xf 0 53 52,[]),(xo 54 53,[]),(⟨(some 55),.binS .neq (.s 48) (.s 54),none⟩,[])])
 (.cond (.s 55) (.seq (.reg [⟨(some 4),.mv (.c (.bool false)),none⟩])
 (.ret))
 (.skip)))))
 (.reg [xB .add 56 40 1,xm 40 56])))))))
 (.seq (.seq (.reg [xf 4 57 2,xo 58 57,xL 59 58,xi 60 0])
 (.block 2 (.loop (.seq (.reg [xb .lss 61 60 59])
 (.seq (.cond (.s 61) (.skip)
 (.exit 2))
 (.seq (.block 3 (.seq (.reg [xm 62 60,xm 6 62])
 (.seq (.draw [(xf 4 63 2,[]),(xo 64 63,[]),(xm 65 6,[]),(xA 5 66 64 65,[]),(xl 5 67 66,[]),(xf 4 68 3,[]),(xo 69 68,[]),(xm 70 6,[]),(xA 5 71 69 70,[]),(xl 5 72 71,[]),(xc 43 73 [.s 67,.s 72],[]),(⟨(some 74),.not (.s 73),none⟩,[])])
 (.cond (.s 74) (.seq (.reg [⟨(some 4),.mv (.c (.bool false)),none⟩])
 (.ret))
 (.skip)))))
 (.reg [xB .add 75 60 1,xm 60 75])))))))
 (.seq (.reg [⟨(some 4),.mv (.c (.bool true)),none⟩])
 (.ret)))))
theorem fn43:IsFn prog 43 ac43 [.tmp 4] 76:=⟨f43,⟨[],[],[]⟩,func43,by kernel_rfl,by kernel_rfl,by kernel_rfl,by kernel_rfl⟩
def inv24w (n m:Nd) (σ:Store) (i:Nat):St :=
  ⟨[.any,.any,.ptr (.loc 0) 0,.ptr (.loc 1) 0]++List.replicate 35 .any++[.int .i64 n.names.length,.int .i64 (i:Nat)]++List.replicate 35 .any,[n.enc,m.enc],σ⟩
def inv24k (n m:Nd) (σ:Store) (i:Nat):St :=
  ⟨[.any,.any,.ptr (.loc 0) 0,.ptr (.loc 1) 0]++List.replicate 55 .any++[.int .i64 n.kids.length,.int .i64 (i:Nat)]++List.replicate 15 .any,[n.enc,m.enc],σ⟩
theorem same24_calls:∀(k:Nat) (n m:Nd) (σ:Store),n.wt≤k→n.wt≤big→PCalls prog 43 [.agg n.enc,.agg m.enc] σ fun v σ' => v = .bool (n.sameQ m)∧σ' = σ:=by
  intro k;induction k with
  | zero=>intro n m σ h _;cases n;simp only[Nd.wt] at h;omega
  | succ k ihk =>
    intro n m σ hk hw;have hn:=wt_names n;have hbig:n.wt<2^62:=by simp only[big] at hw;omega
    rw[Nd.sameQ_eq];refine fn43.calls ?_;simp only[slots,ac43,z15_,Nat.reduceAdd]
    by_cases k1:n.kind=m.kind
    case' neg =>
      simp only[am,decide_eq_false k1];refine retS ?_;simp[V.erase]
    simp only[am,decide_true,Nd.fl,k1]
    by_cases k2:n.text=m.text
    case' neg =>
      simp only[am,decide_eq_false k2];refine retS ?_;simp[V.erase]
    simp only[am,List.length_map,decide_true,Nd.fl,k2]
    by_cases k3:n.names.length=m.names.length
    case' neg =>
      have k3' : ¬(n.names.length:Int)=m.names.length:=by omega
      simp only[am,decide_eq_false k3']
      have:sameW n.names m.names=false:=by cases hs:sameW n.names m.names with
        | false=>rfl
        | true=>exact absurd (sameW_len hs) k3
      refine retS ?_;simp[V.erase,this]
    simp only[am,List.length_map,decide_true,Nd.fl,k3]
    by_cases k4:n.kids.length=m.kids.length
    case' neg =>
      have k4' : ¬(n.kids.length:Int)=m.kids.length:=by omega
      simp only[am,decide_eq_false k4']
      have:samesQ n.kids m.kids=false:=by cases hs:samesQ n.kids m.kids with
        | false=>rfl
        | true=>exact absurd (samesQ_len hs) k4
      refine retS ?_;simp[V.erase,this]
    simp only[am,List.length_map,decide_true,Nd.fl,k4];refine vc_loop (fun p:{i:Nat // i≤n.names.length∧sameW (n.names.take i) (m.names.take i)=true}=>inv24w n m σ p.1) (fun p=>n.names.length - p.1) ?_ ?_
    · refine Upd.enter ⟨0,by simp,by simp[sameW]⟩ ?_ LLLe.rfl OLe.rfl;simp[inv24w,List.replicate,am,k3]
    rintro⟨i,hi,ha⟩;simp only[inv24w,List.replicate,am];refine vcIf_split ?_ ?_
    · intro hlt;have hlt:i<n.names.length:=by simpa using hlt
      obtain⟨hat,hno⟩:=sameW_at hlt (by omega) k3 ha;simp only[am,Nd.fl];refine idxL_intro (by omega) (wencs_at (List.getElem?_eq_getElem hlt)) ?_;simp only[am,Nd.fl,Word.enc];refine idxL_intro (by omega) (wencs_at (List.getElem?_eq_getElem (show i<m.names.length by omega))) ?_;simp only[am,Word.enc]
      by_cases he:n.names[i].text=m.names[i].text
      · simp only[am,decide_true,he];rw[wrap_i64 (by omega) (by omega)];exact Upd.again ⟨i+1,hlt,by rw[hat];exact decide_eq_true he⟩ (by simp;omega) (by simp[am]) LLLe.rfl OLe.rfl
      · simp only[am,decide_eq_false he];refine retS ?_;simp[V.erase,hno (decide_eq_false he)]
    intro hlt;have hlt:i=n.names.length:=by simp at hlt;omega
    subst hlt;rw[List.take_length,k3,List.take_length] at ha;simp only[am,List.length_map,Nd.fl];refine vc_loop (fun p:{i:Nat // i≤n.kids.length∧samesQ (n.kids.take i) (m.kids.take i)=true}=>inv24k n m σ p.1) (fun p=>n.kids.length - p.1) ?_ ?_
    · refine Upd.enter ⟨0,by simp,by simp[samesQ]⟩ ?_ LLLe.rfl OLe.rfl;simp[inv24k,List.replicate,am,k4]
    rintro⟨i,hi,hb⟩;simp only[inv24k,List.replicate,am];refine vcIf_split ?_ ?_
    · intro hlt;have hlt:i<n.kids.length:=by simpa using hlt
      have hki:=kid_wt (n:=n) (List.getElem_mem hlt);obtain⟨hat,hno⟩:=samesQ_at hlt (by omega) k4 hb;simp only[am,Nd.fl];refine idxL_intro (by omega) (nencs_at (List.getElem?_eq_getElem hlt)) ?_;simp only[am,Nd.rec_,Nd.fl];refine idxL_intro (by omega) (nencs_at (List.getElem?_eq_getElem (show i<m.kids.length by omega))) ?_;simp only[am,Nd.rec_];refine CallD.intro (ihk n.kids[i] m.kids[i] _ (by omega) (by omega)) ?_;cases he:n.kids[i].sameQ m.kids[i]
      · simp only[am];refine retS ?_;simp[V.erase,hno he]
      · simp only[am];rw[wrap_i64 (by omega) (by omega)];exact Upd.again ⟨i+1,hlt,by rw[hat];exact he⟩ (by simp;omega) (by simp[am]) LLLe.rfl OLe.rfl
    intro hlt;have hlt:i=n.kids.length:=by simp at hlt;omega
    subst hlt;rw[List.take_length,k4,List.take_length] at hb;simp only[am];refine retS ?_;simp[V.erase,ha,hb]
end Go.Proofs.Tryz

namespace Go.Proofs.Tryz
open Go.Am
set_option maxRecDepth 4000
set_option maxHeartbeats 4000000
end Go.Proofs.Tryz

namespace Go.Proofs.Tryz
open Go.Am
set_option maxRecDepth 4000
set_option maxHeartbeats 4000000
end Go.Proofs.Tryz

namespace Go.Proofs.Tryz
open Go.Am
set_option maxRecDepth 4000
set_option maxHeartbeats 4000000
def s1:List UInt8:=[43,40,120,44,35,123,97,44,98,125,41]
def s2:List UInt8:=[43,40,41]
def s3:List UInt8:=[91,102,61,120,44,103,61,35,104,105,124,114,93]
end Go.Proofs.Tryz

namespace Go.Proofs.Tryz
open Go.Am
set_option maxRecDepth 4000
set_option maxHeartbeats 4000000
end Go.Proofs.Tryz

namespace Go.Proofs.Tryz
open Go.Am
set_option maxRecDepth 4000
set_option maxHeartbeats 4000000
end Go.Proofs.Tryz

namespace Go.Proofs.Tryz
open Go.Am
set_option maxRecDepth 4000
set_option maxHeartbeats 4000000
def ac63:AC:=.seq (.reg [⟨(some 2),.box 2 (.s 0),none⟩,xi 4 0,xi 5 0])
 (.seq (.reg [xi 6 (-1),xi 7 (-1)])
 (.seq (.seq (.reg [xf 0 10 2,xo 11 10,xL 12 11,xi 13 0])
 (.block 0 (.loop (.seq (.reg [xb .lss 14 13 12])
 (.seq (.cond (.s 14) (.skip)
 (.exit 0))
 (.seq (.block 1 (.seq (.reg [xm 15 13,xm 8 15])
 (.seq (.reg [xm 16 6,xB .lss 17 16 0,xm 18 17,xg 18 (xf 0 19 2),xg 18 (xo 20 19),xg 18 (xm 21 8),xg 18 (xA 3 22 20 21),xg 18 (xf 0 23 22),xg 18 (xo 24 23),xg 18 (xm 25 1),⟨(some 26),.binS .eql (.s 24) (.s 25),(some (18,true))⟩,⟨(some 27),.pick (.s 18) (.s 26) (.c (.bool false)),none⟩])
 (.cond (.s 27) (.reg [xm 28 8,xm 6 28])
 (.skip)))))
 (.reg [xB .add 29 13 1,xm 13 29])))))))
 (.seq (.seq (.reg [xf 1 30 2,xo 31 30,xL 32 31,xi 33 0])
 (.block 2 (.loop (.seq (.reg [xb .lss 34 33 32])
 (.seq (.cond (.s 34) (.skip)
 (.exit 2))
 (.seq (.block 3 (.seq (.reg [xm 35 33,xm 9 35])
 (.seq (.reg [xm 36 7,xB .lss 37 36 0,xm 38 37,xg 38 (xf 1 39 2),xg 38 (xo 40 39),xg 38 (xm 41 9),xg 38 (xA 3 42 40 41),xg 38 (xf 0 43 42),xg 38 (xo 44 43),xg 38 (xm 45 1),⟨(some 46),.binS .eql (.s 44) (.s 45),(some (38,true))⟩,⟨(some 47),.pick (.s 38) (.s 46) (.c (.bool false)),none⟩])
 (.cond (.s 47) (.reg [xm 48 9,xm 7 48])
 (.skip)))))
 (.reg [xB .add 49 33 1,xm 33 49])))))))
 (.seq (.reg [xm 50 6,xm 51 7,xm 4 50,xm 5 51])
 (.ret)))))
theorem fn63:IsFn prog 63 ac63 [.tmp 4,.tmp 5] 52:=⟨f63,⟨[],[],[]⟩,func63,by kernel_rfl,by kernel_rfl,by kernel_rfl,by kernel_rfl⟩
def ac124:AC:=.seq (.reg [⟨(some 3),.box 2 (.s 0),none⟩,⟨(some 5),.box 5 (.s 2),none⟩,⟨(some 6),.alloc insZ,none⟩,⟨(some 7),.mv (.c (.bool false)),none⟩])
 (.seq (.seq (.reg [xf 0 10 5,xo 11 10,xB .eql 12 11 1])
 (.cond (.s 12) (.seq (.reg [xl 2 13 3,xm 14 1,xf 2 15 5,xo 16 15,xc 174 17 [.s 13,.s 14,.s 16],xe 18 17 0,xe 19 17 1,xs 10 6 18,xm 7 19])
 (.ret))
 (.skip)))
 (.seq (.drawA [8,9] [(xf 0 21 3,[]),(xo 22 21,[]),(xm 23 1,[]),(xA 3 24 22 23,[]),(xf 1 25 24,[]),(xl 2 26 25,[]),(xf 4 27 5,[]),(xo 28 27,[]),(⟨(some 29),.idxA 5 (.s 28) (.c (.int .i64 0)),none⟩,[]),(xl 5 30 29,[]),(xc 125 31 [.s 26,.s 30],[]),(xm 20 31,[]),(xe 32 20 0,[]),(xe 33 20 1,[]),(⟨none,.mv (.c .any),none⟩,[]),(⟨none,.mv (.c .any),none⟩,[]),(⟨(some 8),.boxS 8 (.s 32),none⟩,[]),(⟨(some 9),.boxS 2 (.s 33),none⟩,[])])
 (.seq (.draw [(xl 8 34 8,[]),(⟨(some 35),.build insZ [(0,1,(.c (.int .i64 2))),(2,8,(.s 34))],none⟩,[]),(xf 0 36 9,[]),(xo 37 36,[1]),(xB .eql 38 37 0,[]),(xs 10 6 35,[]),(xm 7 38,[])])
 (.ret))))
theorem fn124:IsFn prog 124 ac124 [.cell 6 true 10,.tmp 7] 39:=⟨f124,⟨[],[],[]⟩,func124,by kernel_rfl,by kernel_rfl,by kernel_rfl,by kernel_rfl⟩
def ac174:AC:=.seq (.reg [⟨(some 3),.box 2 (.s 0),none⟩,⟨(some 6),.alloc insZ,none⟩,⟨(some 7),.mv (.c (.bool false)),none⟩])
 (.seq (.reg [xl 2 11 3,xm 12 2,xc 63 13 [.s 11,.s 12],xm 10 13,xe 14 10 0,xe 15 10 1,xm 8 14,xm 9 15])
 (.seq (.seq (.reg [xm 16 9,xB .lss 17 16 0,xm 18 17,xh 18 (xf 1 19 3),xh 18 (xo 20 19),xh 18 (xm 21 9),xh 18 (xA 3 22 20 21),xh 18 (xf 1 23 22),xh 18 (xo 24 23),xh 18 (xB .neq 25 24 1),⟨(some 26),.pick (.s 18) (.c (.bool true)) (.s 25),none⟩,xm 27 26,xh 27 (xf 1 28 3),xh 27 (xo 29 28),xh 27 (xm 30 9),xh 27 (xA 3 31 29 30),xh 27 (xf 2 32 31),xh 27 (xo 33 32),xh 27 (xm 34 1),xh 27 (xb .neq 35 33 34),⟨(some 36),.pick (.s 27) (.c (.bool true)) (.s 35),none⟩])
 (.cond (.s 36) (.seq (.reg [⟨(some 37),.build insZ [],none⟩,xs 10 6 37,⟨(some 7),.mv (.c (.bool false)),none⟩])
 (.ret))
 (.skip)))
 (.seq (.reg [xm 38 9,⟨(some 39),.build insZ [(0,1,(.c (.int .i64 1))),(1,1,(.s 38))],none⟩,xs 10 6 39,⟨(some 7),.mv (.c (.bool true)),none⟩])
 (.ret))))
theorem fn174:IsFn prog 174 ac174 [.cell 6 true 10,.tmp 7] 40:=⟨f174,⟨[],[],[]⟩,func174,by kernel_rfl,by kernel_rfl,by kernel_rfl,by kernel_rfl⟩
theorem lats_at {l:List Ltc} {j:Nat} (h:j<l.length):(l.map Ltc.enc)[((j:Nat):Int).toNat]?=some l[j].enc:=by simp[h]
theorem vars_at {l:List Vrb} {j:Nat} (h:j<l.length):(l.map Vrb.enc)[((j:Nat):Int).toNat]?=some l[j].enc:=by simp[h]
theorem scfind_calls (s:Scp) (t:List UInt8) (σ:Store) (h1:s.lats.length≤100000) (h2:s.vars.length≤100000) :
    PCalls prog 63 [.agg s.enc,.str t] σ fun v σ' => v = .tup [.int .i64 (optI (findL s.lats t)),.int .i64 (optI (findV s.vars t))]∧σ' = σ:=by
  refine fn63.calls ?_;simp only[slots,ac63,am,ams,Nat.reduceAdd,Scp.rec_,List.length_map];rw[findL,findV];generalize hpL:nameL s.lats t=pL;generalize hpV:nameV s.vars t=pV;have eL:∀i (hi:i<s.lats.length),pL i=decide (s.lats[i].name=t):=fun i hi=>by rw[←hpL];simp only[nameL,List.getElem?_eq_getElem hi]
  have eV:∀i (hi:i<s.vars.length),pV i=decide (s.vars[i].name=t):=fun i hi=>by rw[←hpV];simp only[nameV,List.getElem?_eq_getElem hi]
  obtain⟨F,hF⟩:∃F:Nat→Unit→St,∀i x,F i x=⟨[.any,.str t,.ptr (.loc 0) 0,.any,.any,.any,.int .i64 (optI ((List.range i).find? pL)),.int .i64 (-1),.any,.any,.any,.sl .no 3 (s.lats.map Ltc.enc),.int .i64 (s.lats.length:Nat),.int .i64 (i:Nat)]++List.replicate 38 .any,[s.enc],σ⟩:=⟨_,fun _ _=>rfl⟩;obtain⟨JF,hJF⟩:∃JF:Nat→Unit→Prop,∀i x,JF i x=(True):=⟨_,fun _ _=>rfl⟩;refine vc_count (s.lats.length) F JF _ hJF ?_ ?_ ?_
  · refine ent (()) ?_ ?_ ?_ ?_
    · exact Eq.mpr (hJF _ _) (trivial)
    all_goals simp[hF,List.replicate,am,lle_self,optI]
  · rintro i x hi -;simp only[hF,List.replicate,am,dlt hi,optI_neg];cases hf:(List.range i).find? pL with
    | some k =>
      simp only[am,aml,Option.isNone_some,winc hi (by omega)];refine nxt (()) hi ?_ ?_ ?_ ?_
      · exact Eq.mpr (hJF _ _) (trivial)
      all_goals simp[hF,List.replicate,am,lle_self,List.range_succ,List.find?_append,hf]
    | none =>
      simp only[am,Scp.rec_,Option.isNone_none];refine idxL_intro (by omega) (lats_at hi) ?_;simp only[am,Scp.rec_];rw[←eL i hi];cases hb:pL i with
      | false =>
        simp only[am,aml,winc hi (by omega)];refine nxt (()) hi ?_ ?_ ?_ ?_
        · exact Eq.mpr (hJF _ _) (trivial)
        all_goals simp[hF,List.replicate,am,lle_self,List.range_succ,List.find?_append,hf,hb]
      | true =>
        simp only[am,aml,winc hi (by omega)];refine nxt (()) hi ?_ ?_ ?_ ?_
        · exact Eq.mpr (hJF _ _) (trivial)
        all_goals simp[hF,List.replicate,am,lle_self,List.range_succ,List.find?_append,hf,hb,optI]
  · rintro x -;simp only[hF,List.replicate,am,aml,dnl,aml,Scp.rec_,List.length_map];clear hF hJF F JF;obtain⟨F,hF⟩:∃F:Nat→Unit→St,∀i x,F i x=⟨[.any,.str t,.ptr (.loc 0) 0,.any,.any,.any,.int .i64 (optI ((List.range s.lats.length).find? pL)),.int .i64 (optI ((List.range i).find? pV)),.any,.any,.any,.any,.any,.any,.any,.any,.any,.any,.any,.any,.any,.any,.any,.any,.any,.any,.any,.any,.any,.any,.any,.sl .no 3 (s.vars.map Vrb.enc),.int .i64 (s.vars.length:Nat),.int .i64 (i:Nat)]++List.replicate 18 .any,[s.enc],σ⟩:=⟨_,fun _ _=>rfl⟩;obtain⟨JF,hJF⟩:∃JF:Nat→Unit→Prop,∀i x,JF i x=(True):=⟨_,fun _ _=>rfl⟩;refine vc_count (s.vars.length) F JF _ hJF ?_ ?_ ?_
    · refine ent (()) ?_ ?_ ?_ ?_
      · exact Eq.mpr (hJF _ _) (trivial)
      all_goals simp[hF,List.replicate,am,lle_self,optI]
    · rintro i x hi -;simp only[hF,List.replicate,am,dlt hi,optI_neg];cases hf:(List.range i).find? pV with
      | some k =>
        simp only[am,aml,Option.isNone_some,winc hi (by omega)];refine nxt (()) hi ?_ ?_ ?_ ?_
        · exact Eq.mpr (hJF _ _) (trivial)
        all_goals simp[hF,List.replicate,am,lle_self,List.range_succ,List.find?_append,hf]
      | none =>
        simp only[am,Scp.rec_,Option.isNone_none];refine idxL_intro (by omega) (vars_at hi) ?_;simp only[am,Scp.rec_];rw[←eV i hi];cases hb:pV i with
        | false =>
          simp only[am,aml,winc hi (by omega)];refine nxt (()) hi ?_ ?_ ?_ ?_
          · exact Eq.mpr (hJF _ _) (trivial)
          all_goals simp[hF,List.replicate,am,lle_self,List.range_succ,List.find?_append,hf,hb]
        | true =>
          simp only[am,aml,winc hi (by omega)];refine nxt (()) hi ?_ ?_ ?_ ?_
          · exact Eq.mpr (hJF _ _) (trivial)
          all_goals simp[hF,List.replicate,am,lle_self,List.range_succ,List.find?_append,hf,hb,optI]
    · rintro x -;simp only[hF,List.replicate,am,aml,dnl,aml];refine retS ?_;simp[V.erase,eraseL]
theorem findV_at {l:List Vrb} {t:List UInt8} {k:Nat} (h:findV l t=some k):k<l.length:=(find_lt h).1
def insT (o:Option Ins):V:=.tup [.agg (match o with | some i=>i | none=>Ins.zero).enc,.bool o.isSome]
def z21_:=And.intro @am <| And.intro @ams <| And.intro @Scp.rec_ @Ins.rec_
theorem variable_calls (s:Scp) (lat:Nat) (t:List UInt8) (σ:Store) (h1:s.lats.length≤100000) (h2:s.vars.length≤100000) :
    PCalls prog 174 [.agg s.enc,.int .i64 (lat:Nat),.str t] σ fun v σ' => v=insT (varF s lat t)∧σ' = σ:=by
  refine fn174.calls ?_;simp only[slots,ac174,z21_,Nat.reduceAdd];have no:∀(u:List V) (l:List (List V)),varF s lat t=none→RetK (fun v σ' => v=insT (varF s lat t)∧σ' = σ) ⟨u,l,σ⟩ (.tup [.agg Ins.zero.enc,.bool false]):=fun u l h=>by
    rw[h];exact retK_intro (by simp[V.nol,nolL,Ins.r_nol]) (Store.sub_refl _) ⟨by simp[insT,V.erase,eraseL,Ins.r_er],rfl⟩
  refine cl (scfind_calls s t σ h1 h2) ?_;simp only[am,optI_neg];cases hf:findV s.vars t with
  | none =>
    simp only[am,Ins.rec_,Option.isNone_none];exact no _ _ (by simp only[varF,hf])
  | some k =>
    have hk:=findV_at hf;have hv:s.vars[k]?=some s.vars[k]:=List.getElem?_eq_getElem hk;simp only[am,Scp.rec_,Option.isNone_some,optI];refine idxL_intro (by omega) (vars_at hk) ?_;simp only[am,Scp.rec_]
    by_cases e1:s.vars[k].kind=1
    · simp only[am,Scp.rec_,decide_eq_true e1];refine idxL_intro (by omega) (vars_at hk) ?_;simp only[am,Scp.rec_]
      by_cases e2:s.vars[k].lat=(lat:Nat)
      · have e:varF s lat t=some ⟨1,k,.zero⟩:=by simp only[varF,hf,hv];rw[if_pos ⟨e1,e2⟩]
        simp only[am,Ins.rec_,decide_eq_true e2];exact retK_intro (by simp[V.nol,nolL,Ins.r_nol]) (Store.sub_refl _) ⟨by simp[e,insT,V.erase,eraseL,Ins.r_er,Ins.zero],rfl⟩
      · simp only[am,Ins.rec_,decide_eq_false e2];exact no _ _ (by simp only[varF,hf,hv];rw[if_neg (fun h=>e2 h.2)])
    · simp only[am,Ins.rec_,decide_eq_false e1];exact no _ _ (by simp only[varF,hf,hv];rw[if_neg (fun h=>e1 h.1)])
theorem shapeF_at {s:Scp} {lat:Nat} (h:lat<s.lats.length):shapeF s lat=s.lats[lat].shape:=by simp only[shapeF,List.getElem?_eq_getElem h]
theorem leafF_ok {s:Scp} {lat:Nat} {n:Nd} (h1:n.kind≠1) {e:Elm} (he:elemF (shapeF s lat) (n.kids.getD 0 nd0)=(e,none)):leafF s lat n=some ⟨2,0,e⟩:=by rw[leafF,if_neg h1,he]
theorem leafF_bad {s:Scp} {lat:Nat} {n:Nd} (h1:n.kind≠1) {e:Elm} {p:Int} (he:elemF (shapeF s lat) (n.kids.getD 0 nd0)=(e,some p)):leafF s lat n=none:=by rw[leafF,if_neg h1,he]
theorem parts_ok {s:Shp} {n:Nd} (hc:n.cnt≤100000):∀k∈partsF s n,k.names.length≤100000∧k.kids.length≤100000∧∀m∈k.kids,m.names.length≤100000:=by
  intro k hk;have hkc:k.cnt≤n.cnt:=by
    unfold partsF at hk;split at hk
    · exact Nat.le_of_lt (cnt_kid hk)
    · rw[List.mem_singleton.1 hk];exact Nat.le_refl _
  have h1:=cnt_names k;have h2:=cnt_kids k;refine⟨by omega,by omega,fun m hm=>?_⟩
  have:=cnt_kid hm
  have:=cnt_names m
  omega
theorem parts_Ok {s:Shp} {n:Nd} (hc:n.cnt≤100000):∀k∈partsF s n,Nd.ok k:=fun k hk=>by
  obtain⟨h1,h2,h3⟩:=parts_ok hc k hk;exact⟨by omega,by omega,fun m hm=>by have:=h3 m hm;omega⟩
def z22_:=And.intro @am <| And.intro @ams <| And.intro @Nd.rec_ <| And.intro @Nd.fl <| And.intro @Scp.rec_ @Ins.rec_
theorem leaf_calls14 (s:Scp) (lat:Nat) (n:Nd) {σ:Store} (hg:TZ σ) (hs:s.ok) (hlat:lat<s.lats.length) (hc:n.cnt≤100000) (hw:n.wt≤big) (hl:n.labelQ=true) (hk:n.kind=1∨n.kind=7) :
    PCalls prog 124 [.agg s.enc,.int .i64 (lat:Nat),.agg n.enc] σ fun v σ' => (∃i:Ins,v = .tup [.agg i.enc,.bool (leafF s lat n).isSome]∧∀j,leafF s lat n=some j→i=j)∧σ' = σ:=by
  refine fn124.calls ?_;simp only[slots,ac124,z22_,Nat.reduceAdd]
  by_cases h1:n.kind=1
  · simp only[am,Nd.fl,Scp.rec_,decide_eq_true h1];refine cl (variable_calls s lat n.text σ hs.1 hs.2.1) ?_;simp only[am,Ins.rec_,insT];refine retK_intro (by simp[V.nol,nolL,Ins.r_nol]) (Store.sub_refl _) ⟨⟨_,by rw[leafF,if_pos h1];simp[V.erase,eraseL,Ins.r_er];rfl,fun j hj=>?_⟩,rfl⟩;rw[leafF,if_pos h1] at hj;rw[hj]
  · have h7:n.kind=7:=by simpa [h1] using hk
    have hkl:=label_const hl h7;have hm:n.kids[0]∈n.kids:=List.getElem_mem _;have hmc:=cnt_kid hm;have hmw:=kid_wt hm;simp only[am,Nat.reduceAdd,decide_true,Nat.reduceLT,Scp.rec_,decide_eq_false h1];refine idxL_intro (by omega) (lats_at hlat) ?_;simp only[am,Nd.fl,Scp.rec_];refine idxL_intro (n:=0) (by omega) (nencs_at (j:=0) (List.getElem?_eq_getElem (by omega))) ?_;simp only[am,Shp.rec_,Nd.rec_];refine CallD.intro (elem_calls s.lats[lat].shape n.kids[0] hg (hs.2.2 _ (List.getElem_mem hlat)) (parts_Ok (by omega)) (by omega)) ?_;obtain⟨e,he⟩:∃e,elemF s.lats[lat].shape n.kids[0]=e:=⟨_,rfl⟩;rw[he];have he' : elemF (shapeF s lat) (n.kids.getD 0 nd0)=e:=by rw[shapeF_at hlat,getD_at (by omega)];exact he
    simp only[am,Nat.reduceAdd,Elm.rec_,Ins.rec_,fltV];obtain⟨e,o⟩:=e;cases o with
    | none =>
      have hlf:=leafF_ok h1 he';simp only[am,decide_true,Option.isSome_none];exact retK_intro (by simp[V.nol,nolL,Ins.r_nol]) (Store.sub_refl _) ⟨⟨⟨2,0,e⟩,by rw[hlf];simp[V.erase,eraseL,Ins.r_er];rfl,fun j hj=>by rw[hlf] at hj;cases hj;rfl⟩,rfl⟩
    | some p =>
      have hlf:=leafF_bad h1 he';simp only[am,decide_false,Int.reduceEq,Option.isSome_some];exact retK_intro (by simp[V.nol,nolL,Ins.r_nol]) (Store.sub_refl _) ⟨⟨⟨2,0,e⟩,by rw[hlf];simp[V.erase,eraseL,Ins.r_er];rfl,fun j hj=>by rw[hlf] at hj;simp at hj⟩,rfl⟩
end Go.Proofs.Tryz

namespace Go.Proofs.Tryz
open Go.Am
set_option maxRecDepth 4000
set_option maxHeartbeats 4000000
def codeT (o:Option (List Ins)):V:=.tup [.sl .no 10 ((o.getD []).map Ins.enc),.bool o.isSome]
theorem compR_in {s:Scp} {lat:Nat} {n:Nd} (h1:lat<s.lats.length) (h2:n.labelQ=true):compR s (lat:Nat) n=compF s lat n:=by
  rw[compR,if_pos ⟨by omega,by omega,h2⟩];rfl
end Go.Proofs.Tryz

namespace Go.Proofs.Tryz
open Go.Am
set_option maxRecDepth 4000
set_option maxHeartbeats 4000000
def ac64:AC:=.seq (.reg [⟨(some 3),.box 2 (.s 0),none⟩,⟨(some 5),.box 5 (.s 2),none⟩,⟨(some 6),.mv (.c (.sl .full 10 [])),none⟩,⟨(some 7),.mv (.c (.bool false)),none⟩])
 (.scope (.seq (.seq (.reg [xm 15 1,xB .lss 16 15 0,xm 17 16,xh 17 (xm 18 1),xh 17 (xf 0 19 3),xh 17 (xo 20 19),xh 17 (xL 21 20),xh 17 (xb .geq 22 18 21),⟨(some 23),.pick (.s 17) (.c (.bool true)) (.s 22),none⟩,xm 24 23,xh 24 (xl 5 25 5),xh 24 (xc 123 26 [.s 25]),⟨(some 27),.not (.s 26),(some (24,false))⟩,⟨(some 28),.pick (.s 24) (.c (.bool true)) (.s 27),none⟩])
 (.cond (.s 28) (.seq (.reg [⟨(some 6),.mv (.c (.sl .full 10 [])),none⟩,⟨(some 7),.mv (.c (.bool false)),none⟩])
 (.ret))
 (.skip)))
 (.seq (.reg [⟨(some 8),.mv (.c (.sl .full 10 [])),none⟩])
 (.seq (.reg [xl 5 29 5,⟨(some 30),.build [(.int .i64 0),(.int .i64 0),(.str []),(.sl .full 2 []),(.sl .full 5 []),(.int .i64 0)] [(0,5,(.s 29))],none⟩,⟨(some 31),.own (.new 6) [(.s 30)],none⟩,xm 9 31])
 (.seq (.skip)
 (.seq (.block 0 (.loop (.seq (.seq (.reg [xm 32 9,⟨(some 33),.own .len [(.s 32)],none⟩,xB .gtr 34 33 0])
 (.cond (.s 34) (.skip)
 (.exit 0)))
 (.block 1 (.seq (.reg [xm 35 9,⟨(some 36),.own .len [(.s 35)],none⟩,xB .sub 37 36 1,xm 10 37])
 (.seq (.reg [xm 38 9,xm 39 10,⟨(some 40),.own (.idx 6) [(.s 38),(.s 39)],none⟩,xl 6 41 40,⟨(some 11),.alloc [(.int .i64 0),(.int .i64 0),(.str []),(.sl .full 2 []),(.sl .full 5 []),(.int .i64 0)],none⟩,xs 6 11 41])
 (.seq (.reg [xi 12 3])
 (.seq (.seq (.reg [xf 0 42 11,xf 0 43 42,xo 44 43])
 (.block 2 (.seq (.seq (.reg [xB .eql 46 44 1,xm 45 46])
 (.cond (.s 45) (.skip)
 (.reg [xB .eql 47 44 7,xm 45 47])))
 (.cond (.s 45) (.seq (.reg [xl 2 49 3,xm 50 1,xf 0 51 11,xl 5 52 51,xc 124 53 [.s 49,.s 50,.s 52],xm 48 53,xe 54 48 0,xe 55 48 1,⟨(some 13),.alloc insZ,none⟩,xs 10 13 54,xm 14 55])
 (.seq (.seq (.reg [xm 56 14,⟨(some 57),.not (.s 56),none⟩])
 (.cond (.s 57) (.seq (.reg [⟨(some 6),.mv (.c (.sl .full 10 [])),none⟩,⟨(some 7),.mv (.c (.bool false)),none⟩])
 (.ret))
 (.skip)))
 (.seq (.reg [xm 58 8,xl 10 59 13,⟨(some 60),.bslice 10 [(.s 59)],none⟩,xa 10 61 58 60,xm 8 61])
 (.seq (.reg [xm 62 9,xm 63 10,⟨(some 64),.own (.slc 6 false true false) [(.s 62),(.s 63)],none⟩,xm 9 64])
 (.exit 1)))))
 (.seq (.reg [xB .eql 66 44 9,xm 65 66])
 (.cond (.s 65) (.reg [xi 12 4])
 (.skip)))))))
 (.seq (.seq (.reg [xf 5 67 11,xo 68 67,xf 0 69 11,xf 4 70 69,xo 71 70,xL 72 71,xb .lss 73 68 72])
 (.cond (.s 73) (.seq (.reg [xm 74 9,xm 75 10,⟨(some 76),.own (.idx 6) [(.s 74),(.s 75)],none⟩,xf 5 77 76,xo 78 77,xB .add 79 78 1,⟨(some 80),.own (.idx 6) [(.s 74),(.s 75)],none⟩,xf 5 81 80,xs 1 81 79])
 (.seq (.reg [xm 82 9,xf 0 83 11,xf 4 84 83,xo 85 84,xf 5 86 11,xo 87 86,xA 5 88 85 87,xl 5 89 88,⟨(some 90),.build [(.int .i64 0),(.int .i64 0),(.str []),(.sl .full 2 []),(.sl .full 5 []),(.int .i64 0)] [(0,5,(.s 89))],none⟩,⟨(some 91),.bslice 6 [(.s 90)],none⟩,⟨(some 92),.own (.app 6) [(.s 82),(.s 91)],none⟩,xm 9 92])
 (.exit 1)))
 (.skip)))
 (.seq (.reg [xm 93 8,xm 94 12,xf 0 95 11,xf 4 96 95,xo 97 96,xL 98 97,⟨(some 99),.build insZ [(0,1,(.s 94)),(1,1,(.s 98))],none⟩,⟨(some 100),.bslice 10 [(.s 99)],none⟩,xa 10 101 93 100,xm 8 101])
 (.reg [xm 102 9,xm 103 10,⟨(some 104),.own (.slc 6 false true false) [(.s 102),(.s 103)],none⟩,xm 9 104])))))))))))
 (.seq (.reg [xm 105 8,xm 6 105,⟨(some 7),.mv (.c (.bool true)),none⟩])
 (.ret))))))))
theorem fn64:IsFn prog 64 ac64 [.tmp 6,.tmp 7] 106:=⟨f64,⟨[33,36,40,64,76,80,92,104,100031],[],[]⟩,func64,by kernel_rfl,by kernel_rfl,by kernel_rfl,by kernel_rfl⟩
def frE (f:Nd × Nat):List V:=f.1.enc++[.int .i64 (f.2:Nat)]
section
variable {m:Nd} {d k:Nat} {x0 x1 x2 x3 x4 x5:V}
theorem fr_ex:frE (m,d)=[.int .i64 m.kind,.int .i64 m.pos,.str m.text,.sl .no 2 (m.names.map Word.enc),.sl .no 5 (m.kids.map Nd.enc),.int .i64 (d:Nat)]:=by rw[frE,Nd.enc_eq];rfl
theorem fr_len:(frE (m,d)).length=6:=by rw[fr_ex];rfl
theorem fr_one:oneL (frE (m,d))=true:=by rw[fr_ex];rfl
theorem fr_nol:nolL (frE (m,d))=true:=by rw[fr_ex];rfl
theorem fr_er:eraseL (frE (m,d))=frE (m,d):=by rw[fr_ex];rfl
theorem fr_lo:loL k (frE (m,d))=true:=by rw[fr_ex];rfl
theorem fr_ov:over [x0,x1,x2,x3,x4,x5] (frE (m,d))=frE (m,d):=by rw[fr_ex];rfl
theorem fr_k:ldC false 1 (frE (m,d))=some (.int .i64 m.kind):=by rw[fr_ex];rfl
theorem fr_ks:ldC false 1 ((frE (m,d)).drop 4)=some (.sl .no 5 (m.kids.map Nd.enc)):=by rw[fr_ex];rfl
theorem fr_d:ldC false 1 ((frE (m,d)).drop 5)=some (.int .i64 (d:Nat)):=by rw[fr_ex];rfl
theorem fr_n:takeN 5 (frE (m,d))=some m.enc:=takeN_app Nd.r_len
theorem fr_bld:over [x0,x1,x2,x3,x4,.int .i64 0] m.enc=frE (m,0):=by rw[fr_ex,Nd.enc_eq];rfl
theorem fr_has5:hasN 5 [x0,x1,x2,x3,x4,x5]=true:=rfl
theorem fr_st:setAt (frE (m,d)) 5 [.int .i64 (k:Nat)]=frE (m,k):=by rw[fr_ex,fr_ex];rfl
def fr_rec:=And.intro @fr_len <| And.intro @fr_one <| And.intro @fr_nol <| And.intro @fr_er <| And.intro @fr_lo <| And.intro @fr_ov <| And.intro @fr_k <| And.intro @fr_ks <| And.intro @fr_d <| And.intro @fr_n <| And.intro @fr_bld @fr_has5
end
structure CF (s:Scp) (lat:Nat) (n:Nd) (σ:Store) where
  fs:List (Nd × Nat)
  out:List Ins
  v:V
  tk:Tk
  st:Store
  fin:finF s lat fs out=compF s lat n
  all:∀f∈fs,f.1.labelQ=true∧f.1.wt≤n.wt∧f.1.cnt≤n.cnt
  mes:out.length+mesF fs≤2*n.cnt+1
  own:Own st 6 v (fs.reverse.map frE)
  sub:OwnS σ st v
  gr:Gr σ st tk out.length
def invCF (s:Scp) (lat:Nat) (n:Nd) (out:List Ins) (v:V) (tk:Tk) (σ:Store):St :=
  ⟨[.any,.int .i64 (lat:Nat),.any,.ptr (.loc 0) 0,.any,.ptr (.loc 1) 0,.any,.any,.sl tk 10 (out.map Ins.enc),v]++List.replicate 96 .any,[s.enc,n.enc],σ⟩
theorem own_lo {σ:Store} {k n:Nat} {v:V} {rows:List (List V)} (h:Own σ k v rows):v.lo n=true:=by obtain⟨a,cap,rfl,_⟩:=h;rfl
theorem own_boxes {σ σ' : Store} {k:Nat} {v:V} {rows:List (List V)} (h:Own σ k v rows) (e:σ'.box=σ.box):Own σ' k v rows:=h.frame fun b cs _ hc=>by rw[e];exact hc
theorem gr_tips {σ0 σ σ' : Store} {tk:Tk} {n:Nat} (h:Gr σ0 σ tk n) (hs:σ0.sub σ') (e:σ'.tip=σ.tip):Gr σ0 σ' tk n:=⟨hs,h.tk.imp id fun⟨τ,a,b,c⟩=>⟨τ,a,by rw[e];exact b,c⟩⟩
theorem mes_len:∀(fs:List (Nd × Nat)),fs.length≤mesF fs
  | []=>Nat.le_refl _
  | f::fs=>by have:=mes_len fs;simp only[mesF,List.length_cons];omega
def z23_:=And.intro @am <| And.intro @amc <| And.intro @ams <| And.intro @Nd.rec_ <| And.intro @Scp.rec_ @Ins.rec_
theorem ccompile_calls (s:Scp) (lat:Int) (n:Nd) {σ:Store} (hg:TZ σ) (hs:s.ok) (hw:n.wt≤big) (hc:n.cnt≤100000) :
    PCalls prog 64 [.agg s.enc,.int .i64 lat,.agg n.enc] σ fun v σ' => v=codeT (compR s lat n)∧σ' = σ:=by
  refine fn64.calls ?_;simp only[slots,ac64,z23_,Nat.reduceAdd];have no:∀(u:List V) (l:List (List V)) (σ1:Store),compR s lat n=none→σ.sub σ1→RetK (fun v σ' => v=codeT (compR s lat n)∧σ' = σ) ⟨u,l,σ1⟩ (.tup [.sl .full 10 [],.bool false]):=fun u l σ1 h h' => by
    rw[h];exact retK_intro rfl h' ⟨rfl,rfl⟩
  by_cases hn:lat<0
  · simp only[am,amc,decide_eq_true hn];exact no _ _ _ (by rw[compR,if_neg (by omega)]) (Store.sub_refl _)
  · obtain⟨lat,rfl⟩:∃m:Nat,lat=m:=⟨lat.toNat,by omega⟩;simp only[am,List.length_map,Scp.rec_,List.length_map,decide_eq_false hn]
    by_cases hlat:s.lats.length≤lat
    · simp only[am,amc,decide_eq_true (show (s.lats.length:Int)≤(lat:Nat) by omega)];exact no _ _ _ (by rw[compR,if_neg (by omega)]) (Store.sub_refl _)
    · have hlt:lat<s.lats.length:=by omega
      simp only[am,Nd.rec_,decide_eq_false (show ¬(s.lats.length:Int)≤(lat:Nat) by omega)];refine cl (label_is_calls _ n σ (Nat.le_refl _) hw) ?_;cases hl:n.labelQ with
      | false =>
        simp only[am,amc];exact no _ _ _ (by rw[compR,hl,if_neg (by simp)]) (Store.sub_refl _)
      | true =>
        have hR:=compR_in hlt hl;simp only[am,amo,Nd.rec_,fr_rec];refine Own.mk1 (c:=frE (n,0)) (by simp[keepV,V.cells,fr_len,fr_nol,fr_one,V.wd]) fr_len fr_nol fun v σ1 hO hS=>?_
        simp only[am];obtain⟨I,hI⟩:∃I:CF s lat n σ→St,∀p,I p=invCF s lat n p.out p.v p.tk p.st:=⟨_,fun _=>rfl⟩;refine vc_loop I (fun p=>mesF p.fs) ?_ ?_
        · refine Upd.enter (I:=I) ⟨[(n,0)],[],v,.full,σ1,by simp only[finF,restF_zero];cases compF s lat n<;>rfl,by simp[hl],?_,by simpa using hO,hS,⟨hS.sub,.inl rfl⟩⟩ ?_ ?_ ?_
          · have:=Nd.cnt_pos n
            simp only[mesF,List.drop_zero,List.length_nil];omega
          all_goals simp[hI,invCF,List.replicate,am,lle_self]
        · rintro⟨fs,out,v,tk,σ1,hfin,hall,hmes,hO,hS,hG⟩;simp only[hI,invCF,List.replicate,am,amo];have hml:=mes_len fs;refine hO.len ?_;cases fs with
          | nil =>
            have e:compF s lat n=some out:=by rw[←hfin];rfl
            simp only[am,amc,List.reverse_nil,List.map_nil,List.length_nil,show decide ((0:Int)<((0:Nat):Int))=false from rfl];exact retK_intro rfl hG.sub ⟨by rw[hR,e];rfl,rfl⟩
          | cons f fs =>
            obtain⟨m,d⟩:=f;obtain⟨hml1,hmw,hmc⟩:=hall (m,d) (by simp);simp only at hml1 hmw hmc;have hrl:(List.map frE ((m,d)::fs).reverse).length=fs.length+1:=by simp
            have hat:(List.map frE ((m,d)::fs).reverse)[fs.length]?=some (frE (m,d)):=by simp
            have htake:(List.map frE ((m,d)::fs).reverse).take fs.length=List.map frE fs.reverse:=by simp
            have hlb:fs.length+1≤2*n.cnt+1:=by simp only[List.length_cons] at hml;omega
            have hgs:TZ σ1:=hG.sub.2.2 _ _ hg;simp only[am,amo,hrl,show decide ((0:Int)<((fs.length+1:Nat):Int))=true from decide_eq_true (by omega)];refine hO.len ?_;simp only[am,amo,hrl];rw[wrap_i64 (by omega) (by omega),show ((fs.length+1:Nat):Int) - 1=(fs.length:Nat) by omega];refine hO.idx (by omega) (j:=(fs.length:Nat)) (c:=frE (m,d)) (by rw[Int.toNat_natCast];exact hat) fun b cs rest hb hcs hdr=>?_
            rw[Int.toNat_natCast] at hdr ⊢;have hld:takeN 6 (cs.drop (fs.length*6))=some (frE (m,d)):=by rw[hdr];exact takeN_app fr_len
            simp only[am,Nat.reduceAdd,hcs,hld,fr_rec]
            by_cases hk:m.kind=1∨m.kind=7
            · have hsel:(decide (m.kind=1)=true)∨(decide (m.kind=1)=false∧decide (m.kind=7)=true):=by
                by_cases h1:m.kind=1
                · exact .inl (decide_eq_true h1)
                · exact .inr ⟨decide_eq_false h1,decide_eq_true (by simpa [h1] using hk)⟩
              have hlf:=restF_leaf (s:=s) (lat:=lat) (d:=d) (fs:=fs) (out:=out) hk;rw[hlf] at hfin
              rcases hsel with e1 | ⟨e1,e2⟩
              case' inl=>simp only[am,Nd.rec_,Scp.rec_,e1,fr_rec]
              case' inr=>simp only[am,Nd.rec_,Scp.rec_,e1,e2,fr_rec]
              all_goals
                refine(leaf_calls14 s lat m hgs hs hlt (by omega) (by omega) hml1 hk).mono ?_;rintro v' σ' ⟨⟨i,rfl,hi⟩,rfl⟩;simp only[am,Nat.reduceAdd,Ins.rec_];cases hleaf:leafF s lat m with
                | none =>
                  rw[hleaf] at hfin;simp only[am,amc,Option.isSome_none];exact no _ _ _ (by rw[hR,←hfin]) hG.sub
                | some j =>
                  obtain rfl:=hi j hleaf;rw[hleaf] at hfin;simp only[am,Ins.rec_,Option.isSome_some];refine Gr.app (by simpa using hG) (by simp only[mesF] at hmes;simp[big];omega) fun tk' σ2 hG' hB _=>?_
                  simp only[am,amo];refine(own_boxes hO hB).take (m:=fs.length) (by omega) (Int.toNat_natCast _) (by rw[hrl];omega) fun v2 hO2 hb2=>?_
                  rw[htake] at hO2;simp only[am,amc,Nat.reduceEqDiff,reduceCtorEq];refine Upd.againD (I:=I) ⟨fs,out++[i],v2,tk',σ2,hfin,fun f hf=>hall f (List.mem_cons_of_mem _ hf),by simp only[mesF] at hmes;rw[List.length_append,List.length_singleton];omega,hO2,⟨hG'.sub,fun b hb=>hS.new b (by rw[←hb2];exact hb)⟩,by simpa using hG'⟩ (by simp only[mesF];omega) ?_ ?_ ?_ ?_ ?_
                  all_goals simp[hI,invCF,List.replicate,am,lle_self,loL,loLL,V.lo,Scp.r_lo,Nd.r_lo,own_lo hO2]
            · have e1:decide (m.kind=1)=false:=decide_eq_false fun h=>hk (.inl h)
              have e7:decide (m.kind=7)=false:=decide_eq_false fun h=>hk (.inr h)
              simp only[am,e1,e7];have hkids:=label_kids hml1 hk;have hkc:=cnt_kids m
              by_cases h9:m.kind=9
              case' pos =>
                have eo:opF m=⟨4,m.kids.length,.zero⟩:=by rw[opF,if_pos h9]
                simp only[am,List.length_map,List.length_map,decide_eq_true h9,fr_rec]
              case' neg =>
                have eo:opF m=⟨3,m.kids.length,.zero⟩:=by rw[opF,if_neg h9]
                simp only[am,List.length_map,List.length_map,decide_eq_false h9,fr_rec]
              all_goals
                by_cases hd:d<m.kids.length
                · have hdr5:cs.drop (fs.length*6+5)=(frE (m,d)).drop 5++rest:=by
                    rw[←List.drop_drop,hdr,List.drop_append_of_le_length (by rw[fr_len];omega)]
                  have h5:(frE (m,d)).drop 5=[.int .i64 (d:Nat)]:=by rw[fr_ex];rfl
                  have hld5:ldC false 1 (cs.drop (fs.length*6+5))=some (.int .i64 (d:Nat)):=by rw[hdr5,h5];rfl
                  have hhas5:hasN 1 (cs.drop (fs.length*6+5))=true:=by rw[hdr5,h5];rfl
                  obtain⟨hO2,hF2⟩:=hO.put (off:=5) (x:=[.int .i64 ((d+1:Nat):Int)]) hat hb hcs (by simp);have hset:(List.map frE ((m,d)::fs).reverse).set fs.length (setAt (frE (m,d)) 5 [.int .i64 ((d+1:Nat):Int)])=List.map frE ((m,d+1)::fs).reverse:=by
                    rw[fr_st];simp
                  rw[hset] at hO2;have hmm:m.kids[d]∈m.kids:=List.getElem_mem hd;have hkw:=kid_wt hmm;have hkc2:=cnt_kid hmm;simp only[am,amo,dlt hd];refine hO.idx (by omega) (j:=(fs.length:Nat)) (c:=frE (m,d)) (by rw[Int.toNat_natCast];exact hat) fun b2 cs2 rest2 hb2 hcs2 _=>?_
                  obtain rfl:b=b2:=by rw[hb] at hb2;exact Option.some.inj hb2
                  rw[Int.toNat_natCast];simp only[am,amo,hcs,hld5,winc hd (by omega)];refine hO.idx (by omega) (j:=(fs.length:Nat)) (c:=frE (m,d)) (by rw[Int.toNat_natCast];exact hat) fun b2 cs2 rest2 hb2 hcs2 _=>?_
                  obtain rfl:b=b2:=by rw[hb] at hb2;exact Option.some.inj hb2
                  rw[Int.toNat_natCast];simp only[am,hcs,hhas5,fr_rec];refine idxL_intro (by omega) (nencs_at (List.getElem?_eq_getElem hd)) ?_;simp only[am,amo,Nd.rec_,fr_rec];refine hO2.app (m:=[frE (m.kids[d],0)]) (by simp[fr_len]) (by simp[fr_nol]) (by simp[big];omega) fun v3 σ3 hO3 hF3=>?_
                  have hS3:=(hS.step hF2).step hF3;have hG3:=gr_tips hG hS3.sub (hF3.tip.trans hF2.tip);simp only[am,amc,reduceCtorEq];refine Upd.againD (I:=I) ⟨(m.kids[d],0)::(m,d+1)::fs,out,v3,tk,σ3,by rw[←restF_kid hk hd];exact hfin,?_,?_,by simpa using hO3,hS3,hG3⟩ (mes_kid hd) ?_ ?_ ?_ ?_ ?_
                  · intro f hf
                    rcases List.mem_cons.1 hf with rfl | hf
                    · exact⟨hkids _ hmm,by simp only;omega,by simp only;omega⟩
                    · rcases List.mem_cons.1 hf with rfl | hf
                      · exact⟨hml1,hmw,hmc⟩
                      · exact hall f (List.mem_cons_of_mem _ hf)
                  · have:=mes_kid (fs:=fs) hd;omega
                  all_goals simp[hI,invCF,List.replicate,am,lle_self,loL,loLL,V.lo,Scp.r_lo,Nd.r_lo,own_lo hO3]
                · simp only[am,List.length_map,Ins.rec_,List.length_map,decide_eq_false (show ¬(d:Int)<(m.kids.length:Nat) by omega),fr_rec];refine Gr.app (by simpa using hG) (by simp only[mesF] at hmes;simp[big];omega) fun tk' σ2 hG' hB _=>?_
                  simp only[am,amo];refine(own_boxes hO hB).take (m:=fs.length) (by omega) (Int.toNat_natCast _) (by rw[hrl];omega) fun v2 hO2 hb2=>?_
                  rw[htake] at hO2;simp only[am];refine Upd.againD (I:=I) ⟨fs,out++[opF m],v2,tk',σ2,by rw[←restF_end hk (Nat.le_of_not_lt hd)];exact hfin,fun f hf=>hall f (List.mem_cons_of_mem _ hf),by simp only[mesF] at hmes;rw[List.length_append,List.length_singleton];omega,hO2,⟨hG'.sub,fun b hb=>hS.new b (by rw[←hb2];exact hb)⟩,by simpa using hG'⟩ (by simp only[mesF];omega) ?_ ?_ ?_ ?_ ?_
                  all_goals simp[hI,invCF,List.replicate,am,lle_self,loL,loLL,V.lo,Scp.r_lo,Nd.r_lo,eo,Ins.zero,own_lo hO2]
end Go.Proofs.Tryz

namespace Go.Proofs.Tryz
open Go.Am
set_option maxRecDepth 4000
set_option maxHeartbeats 4000000
def ac7:AC:=.seq (.reg [⟨(some 1),.box 2 (.s 0),none⟩,⟨(some 2),.mv (.c (.bool false)),none⟩])
 (.seq (.seq (.reg [xf 0 7 1,xo 8 7,xL 9 8,xB .gtr 10 9 20,xm 11 10,xh 11 (xf 1 12 1),xh 11 (xo 13 12),xh 11 (xL 14 13),xh 11 (xB .gtr 15 14 80),⟨(some 16),.pick (.s 11) (.c (.bool true)) (.s 15),none⟩])
 (.cond (.s 16) (.seq (.reg [⟨(some 2),.mv (.c (.bool true)),none⟩])
 (.ret))
 (.skip)))
 (.seq (.seq (.reg [xf 0 17 1,xo 18 17,xL 19 18,xi 20 0])
 (.block 0 (.loop (.seq (.reg [xb .lss 21 20 19])
 (.seq (.cond (.s 21) (.skip)
 (.exit 0))
 (.seq (.block 1 (.seq (.reg [xA 3 22 18 20,xl 3 23 22,⟨(some 4),.alloc [(.str []),(.bool false),(.sl .full 67 [])],none⟩,xs 3 4 23])
 (.seq (.reg [xf 1 24 4,xl 2 25 24,xc 17 26 [.s 25],xm 27 26,xh 27 (xf 0 28 4),xh 27 (xo 29 28),xh 27 (xT 30 29),xh 27 (xB .gtr 31 30 40),⟨(some 32),.pick (.s 27) (.c (.bool true)) (.s 31),none⟩])
 (.cond (.s 32) (.seq (.reg [⟨(some 2),.mv (.c (.bool true)),none⟩])
 (.ret))
 (.skip)))))
 (.reg [xB .add 33 20 1,xm 20 33])))))))
 (.seq (.seq (.reg [xf 1 34 1,xo 35 34,xL 36 35,xi 37 0])
 (.block 2 (.loop (.seq (.reg [xb .lss 38 37 36])
 (.seq (.cond (.s 38) (.skip)
 (.exit 2))
 (.seq (.block 3 (.seq (.reg [xA 3 39 35 37,xl 3 40 39,⟨(some 6),.alloc [(.str []),(.int .i64 0),(.int .i64 0)],none⟩,xs 3 6 40])
 (.seq (.reg [xf 0 41 6,xo 42 41,xT 43 42,xB .gtr 44 43 40])
 (.cond (.s 44) (.seq (.reg [⟨(some 2),.mv (.c (.bool true)),none⟩])
 (.ret))
 (.skip)))))
 (.reg [xB .add 45 37 1,xm 37 45])))))))
 (.seq (.reg [⟨(some 2),.mv (.c (.bool false)),none⟩])
 (.ret)))))
theorem fn7:IsFn prog 7 ac7 [.tmp 2] 46:=⟨f7,⟨[],[],[]⟩,func7,by kernel_rfl,by kernel_rfl,by kernel_rfl,by kernel_rfl⟩
def ac17:AC:=.seq (.reg [⟨(some 1),.box 2 (.s 0),none⟩,⟨(some 2),.mv (.c (.bool false)),none⟩])
 (.seq (.seq (.reg [xf 1 6 1,xo 7 6,xL 8 7,xB .gtr 9 8 12])
 (.cond (.s 9) (.seq (.reg [⟨(some 2),.mv (.c (.bool true)),none⟩])
 (.ret))
 (.skip)))
 (.seq (.seq (.reg [xi 3 0])
 (.block 0 (.loop (.seq (.seq (.reg [xm 10 3,xf 1 11 1,xo 12 11,xL 13 12,xb .lss 14 10 13])
 (.cond (.s 14) (.skip)
 (.exit 0)))
 (.seq (.block 1 (.seq (.reg [xf 1 17 1,xo 18 17,xm 19 3,xA 67 20 18 19,xl 67 21 20,⟨(some 4),.alloc facZ,none⟩,xs 67 4 21])
 (.seq (.seq (.reg [xf 1 22 4,xo 23 22,xL 24 23,xB .gtr 25 24 70])
 (.cond (.s 25) (.seq (.reg [⟨(some 2),.mv (.c (.bool true)),none⟩])
 (.ret))
 (.skip)))
 (.seq (.reg [xi 5 0])
 (.block 2 (.loop (.seq (.seq (.reg [xm 26 5,xf 1 27 4,xo 28 27,xL 29 28,xb .lss 30 26 29])
 (.cond (.s 30) (.skip)
 (.exit 2)))
 (.seq (.block 3 (.seq (.reg [xf 1 33 4,xo 34 33,xm 35 5,xA 1 36 34 35,xo 37 36,xT 38 37,xB .gtr 39 38 40])
 (.cond (.s 39) (.seq (.reg [⟨(some 2),.mv (.c (.bool true)),none⟩])
 (.ret))
 (.skip))))
 (.reg [xm 31 5,xB .add 32 31 1,xm 5 32])))))))))
 (.reg [xm 15 3,xB .add 16 15 1,xm 3 16]))))))
 (.seq (.reg [⟨(some 2),.mv (.c (.bool false)),none⟩])
 (.ret))))
theorem fn17:IsFn prog 17 ac17 [.tmp 2] 40:=⟨f17,⟨[],[],[]⟩,func17,by kernel_rfl,by kernel_rfl,by kernel_rfl,by kernel_rfl⟩
def facBig (f:Fct):Bool:=decide (70<f.names.length)||f.names.any fun t=>decide (40<t.length)
theorem big7_eq (s:Shp):big7 s=(decide (12<s.facs.length)||s.facs.any facBig):=rfl
theorem any_at {α:Type} {l:List α} {p:α→Bool} {i:Nat} (hi:i<l.length) (h:p l[i]=true):l.any p=true:=List.any_eq_true.2 ⟨_,List.getElem_mem hi,h⟩
theorem any_no {α:Type} {l:List α} {p:α→Bool} (h:∀k∈l,p k=false):l.any p=false:=by
  rw[List.any_eq_false];exact fun k hk=>by rw[h k hk];simp
def z24_:=And.intro @am <| And.intro @aml <| And.intro @Fct.rec_ @sCells_len
theorem big7_calls (s:Shp) (σ:Store):PCalls prog 17 [.agg s.enc] σ fun v σ' => v = .bool (big7 s)∧σ' = σ:=by
  refine fn17.calls ?_;simp only[slots,ac17,am,ams,Shp.rec_,List.length_map];rw[big7_eq]
  by_cases h1:12<s.facs.length
  · simp only[am,decide_eq_true (show (12:Int)<s.facs.length by omega)];refine retS ?_;simp[V.erase,h1]
  · simp only[am,decide_eq_false (show ¬(12:Int)<s.facs.length by omega)];rw[decide_eq_false h1,Bool.false_or];obtain⟨F,hF⟩:∃F:Nat→Unit→St,∀i x,F i x=⟨[.any,.ptr (.loc 0) 0,.any,.int .i64 (i:Nat)]++List.replicate 36 .any,[s.enc],σ⟩:=⟨_,fun _ _=>rfl⟩;obtain⟨JF,hJF⟩:∃JF:Nat→Unit→Prop,∀i x,JF i x=(∀f∈s.facs.take i,facBig f=false):=⟨_,fun _ _=>rfl⟩;refine vc_count (s.facs.length) F JF _ hJF ?_ ?_ ?_
    · refine ent (()) ?_ ?_ ?_ ?_
      · exact Eq.mpr (hJF _ _) (by simp)
      all_goals simp[hF,List.replicate,am,lle_self]
    · rintro i x hi hJ;simp only[hF,List.replicate,am,dlt hi,Shp.rec_,List.length_map];refine idxL_intro (by omega) (facs_at hi) ?_;simp only[am,Fct.rec_,sCells_len]
      by_cases h2:70<s.facs[i].names.length
      · simp only[am,aml,decide_eq_true (show (70:Int)<s.facs[i].names.length by omega)];refine retS ?_;simp[V.erase,any_at hi (show facBig s.facs[i]=true by rw[facBig,decide_eq_true h2];rfl)]
      · simp only[am,decide_eq_false (show ¬(70:Int)<s.facs[i].names.length by omega)];obtain⟨F2,hF2⟩:∃F2:Nat→Unit→St,∀j y,F2 j y=⟨[.any,.ptr (.loc 0) 0,.any,.int .i64 (i:Nat),.ptr (.loc 1) 0,.int .i64 (j:Nat)]++List.replicate 34 .any,[s.enc,s.facs[i].enc],σ⟩:=⟨_,fun _ _=>rfl⟩;obtain⟨JF2,hJF2⟩:∃JF2:Nat→Unit→Prop,∀j y,JF2 j y=(∀t∈s.facs[i].names.take j,decide (40<t.length)=false):=⟨_,fun _ _=>rfl⟩;refine vc_count (s.facs[i].names.length) F2 JF2 _ hJF2 ?_ ?_ ?_
        · refine ent (()) ?_ ?_ ?_ ?_
          · exact Eq.mpr (hJF2 _ _) (by simp)
          all_goals simp[hF2,List.replicate,am,lle_self]
        · rintro j y hj hJ2;simp only[hF2,List.replicate,am,dlt hj,Fct.rec_,sCells_len];refine idxL_intro (by omega) (sCells_at hj) ?_;simp only[am,getD_at hj]
          by_cases h3:40<s.facs[i].names[j].length
          · simp only[am,aml,decide_eq_true (show (40:Int)<s.facs[i].names[j].length by omega)];refine retS ?_;simp[V.erase,any_at hi (show facBig s.facs[i]=true by rw[facBig,any_at hj (decide_eq_true h3)];simp)]
          · simp only[am,aml,decide_eq_false (show ¬(40:Int)<s.facs[i].names[j].length by omega),winc hj (by omega)];refine nxt (()) hj ?_ ?_ ?_ ?_
            · exact Eq.mpr (hJF2 _ _) (take_all hJ2 hj (decide_eq_false h3))
            all_goals simp[hF2,List.replicate,am,lle_self]
        · rintro y hJ2;rw[List.take_length] at hJ2;simp only[hF2,List.replicate,z24_,dnl,Nat.reduceEqDiff,reduceCtorEq];simp only[winc hi (by omega)];refine nxtD (()) hi ?_ ?_ ?_ ?_ ?_ ?_
          · exact Eq.mpr (hJF _ _) (take_all hJ hi (show facBig s.facs[i]=false by rw[facBig,decide_eq_false h2,any_no hJ2];rfl))
          all_goals simp[hF,List.replicate,am,lle_self,loL,loLL,V.lo,Shp.r_lo]
    · rintro x hJ;rw[List.take_length] at hJ;simp only[hF,List.replicate,am,aml,dnl,aml,Shp.rec_,List.length_map];refine retS ?_;simp[V.erase,any_no hJ]
section
variable {l:Ltc} {v:Vrb} {a b c:V} {m:Nat}
theorem Ltc.q_tk:takeN 3 l.enc=some l.enc:=rfl
theorem Ltc.q_ov:over [a,b,c] l.enc=l.enc:=rfl
theorem Ltc.q_len:l.enc.length=3:=rfl
theorem Ltc.q_one:oneL l.enc=true:=rfl
theorem Vrb.q_len:v.enc.length=3:=rfl
theorem Vrb.q_one:oneL v.enc=true:=rfl
theorem Vrb.q_tk:takeN 3 v.enc=some v.enc:=rfl
theorem Vrb.q_ov:over [a,b,c] v.enc=v.enc:=rfl
end
def ltcBig (l:Ltc):Bool:=big7 l.shape||decide (40<l.name.length)
def vrbBig (v:Vrb):Bool:=decide (40<v.name.length)
theorem big13_eq (s:Scp):big13 s=(decide (20<s.lats.length)||decide (80<s.vars.length)||s.lats.any ltcBig||s.vars.any vrbBig):=rfl
theorem big13_calls (s:Scp) (σ:Store):PCalls prog 7 [.agg s.enc] σ fun v σ' => v = .bool (big13 s)∧σ' = σ:=by
  refine fn7.calls ?_;simp only[slots,ac7,am,ams,Scp.rec_,List.length_map,Scp.rec_,List.length_map];rw[big13_eq]
  by_cases h1:20<s.lats.length
  · simp only[am,decide_eq_true (show (20:Int)<s.lats.length by omega)];refine retS ?_;simp[V.erase,h1]
  · simp only[am,List.length_map,Scp.rec_,List.length_map,Scp.rec_,List.length_map,decide_eq_false (show ¬(20:Int)<s.lats.length by omega)]
    by_cases h2:80<s.vars.length
    · simp only[am,decide_eq_true (show (80:Int)<s.vars.length by omega)];refine retS ?_;simp[V.erase,h2]
    · simp only[am,List.length_map,Scp.rec_,List.length_map,Scp.rec_,List.length_map,decide_eq_false (show ¬(80:Int)<s.vars.length by omega)];rw[decide_eq_false h1,decide_eq_false h2,Bool.or_self,Bool.false_or];obtain⟨F,hF⟩:∃F:Nat→Unit→St,∀i x,F i x=⟨[.any,.ptr (.loc 0) 0,.any,.any,.any,.any,.any,.any,.any,.any,.any,.any,.any,.any,.any,.any,.any,.any,.sl .no 3 (s.lats.map Ltc.enc),.int .i64 (s.lats.length:Nat),.int .i64 (i:Nat)]++List.replicate 25 .any,[s.enc],σ⟩:=⟨_,fun _ _=>rfl⟩;obtain⟨JF,hJF⟩:∃JF:Nat→Unit→Prop,∀i x,JF i x=(∀f∈s.lats.take i,ltcBig f=false):=⟨_,fun _ _=>rfl⟩;refine vc_count (s.lats.length) F JF _ hJF ?_ ?_ ?_
      · refine ent (()) ?_ ?_ ?_ ?_
        · exact Eq.mpr (hJF _ _) (by simp)
        all_goals simp[hF,List.replicate,am,lle_self]
      · rintro i x hi hJ;simp only[hF,List.replicate,am,dlt hi];refine idxL_intro (by omega) (lats_at hi) ?_;simp only[am,Shp.rec_,Scp.rec_,Shp.rec_,Scp.rec_,Ltc.q_len,Ltc.q_one,Ltc.q_tk,Ltc.q_ov];refine cl (big7_calls s.lats[i].shape σ) ?_;cases h3:big7 s.lats[i].shape with
        | true =>
          simp only[am,aml,aml];refine retS ?_;simp[V.erase,any_at hi (show ltcBig s.lats[i]=true by rw[ltcBig,h3];rfl)]
        | false =>
          simp only[am,Scp.rec_,Scp.rec_]
          by_cases h4:40<s.lats[i].name.length
          · simp only[am,aml,aml,decide_eq_true (show (40:Int)<s.lats[i].name.length by omega)];refine retS ?_;simp[V.erase,any_at hi (show ltcBig s.lats[i]=true by rw[ltcBig,decide_eq_true h4,Bool.or_true])]
          · simp only[am,aml,aml,decide_eq_false (show ¬(40:Int)<s.lats[i].name.length by omega),winc hi (by omega)];refine nxtD (()) hi ?_ ?_ ?_ ?_ ?_ ?_
            · exact Eq.mpr (hJF _ _) (take_all hJ hi (show ltcBig s.lats[i]=false by rw[ltcBig,decide_eq_false h4,h3];rfl))
            all_goals simp[hF,List.replicate,am,lle_self,loL,loLL,V.lo,Scp.r_lo]
      · rintro x hJ;rw[List.take_length] at hJ;simp only[hF,List.replicate,am,aml,dnl,aml,Scp.rec_,List.length_map,aml,Scp.rec_,List.length_map];obtain⟨F2,hF2⟩:∃F2:Nat→Unit→St,∀j y,F2 j y=⟨[.any,.ptr (.loc 0) 0,.any,.any,.any,.any,.any,.any,.any,.any,.any,.any,.any,.any,.any,.any,.any,.any,.any,.any,.any,.any,.any,.any,.any,.any,.any,.any,.any,.any,.any,.any,.any,.any,.any,.sl .no 3 (s.vars.map Vrb.enc),.int .i64 (s.vars.length:Nat),.int .i64 (j:Nat)]++List.replicate 8 .any,[s.enc],σ⟩:=⟨_,fun _ _=>rfl⟩;obtain⟨JF2,hJF2⟩:∃JF2:Nat→Unit→Prop,∀j y,JF2 j y=(∀f∈s.vars.take j,vrbBig f=false):=⟨_,fun _ _=>rfl⟩;refine vc_count (s.vars.length) F2 JF2 _ hJF2 ?_ ?_ ?_
        · refine ent (()) ?_ ?_ ?_ ?_
          · exact Eq.mpr (hJF2 _ _) (by simp)
          all_goals simp[hF2,List.replicate,am,lle_self]
        · rintro j y hj hJ2;simp only[hF2,List.replicate,am,dlt hj];refine idxL_intro (by omega) (vars_at hj) ?_;simp only[am,Scp.rec_,Scp.rec_,Vrb.q_len,Vrb.q_one,Vrb.q_tk,Vrb.q_ov]
          by_cases h4:40<s.vars[j].name.length
          · simp only[am,aml,aml,decide_eq_true (show (40:Int)<s.vars[j].name.length by omega)];refine retS ?_;simp[V.erase,any_at hj (show vrbBig s.vars[j]=true from decide_eq_true h4)]
          · simp only[am,aml,aml,decide_eq_false (show ¬(40:Int)<s.vars[j].name.length by omega),winc hj (by omega)];refine nxtD (()) hj ?_ ?_ ?_ ?_ ?_ ?_
            · exact Eq.mpr (hJF2 _ _) (take_all hJ2 hj (show vrbBig s.vars[j]=false from decide_eq_false h4))
            all_goals simp[hF2,List.replicate,am,lle_self,loL,loLL,V.lo,Scp.r_lo]
        · rintro y hJ2;rw[List.take_length] at hJ2;simp only[hF2,List.replicate,am,aml,dnl,aml,aml];refine retS ?_;simp[V.erase,any_no hJ,any_no hJ2]
end Go.Proofs.Tryz

namespace Go.Proofs.Tryz
open Go.Am
set_option maxRecDepth 4000
set_option maxHeartbeats 4000000
def ac56:AC:=.seq (.reg [xm 12 0,xk 13 12,xf 1 14 13,xl 2 15 14,xm 16 1,xc 63 17 [.s 15,.s 16],xm 11 17,xe 18 11 0,xe 19 11 1,xm 8 18,xm 9 19])
 (.seq (.reg [xm 20 0,xk 21 20,xf 0 22 21,xm 23 8,xB .lss 24 23 0,xm 25 24,xg 25 (xm 26 9),xg 25 (xB .lss 27 26 0),⟨(some 28),.pick (.s 25) (.s 27) (.c (.bool false)),none⟩,xm 29 2,xc 59 30 [.s 22,.s 28,.c (.int .i64 3),.s 29]])
 (.seq (.seq (.reg [xm 31 9,xB .lss 32 31 0])
 (.cond (.s 32) (.seq (.reg [xm 33 0,xk 34 33,xf 0 35 34,xm 36 8,xB .geq 37 36 0,xm 38 2,xc 59 39 [.s 35,.s 37,.c (.int .i64 4),.s 38]])
 (.ret))
 (.skip)))
 (.seq (.reg [xm 40 0,xk 41 40,xf 1 42 41,xf 1 43 42,xo 44 43,xm 45 9,xA 3 46 44 45,xl 3 47 46,⟨(some 10),.alloc [(.str []),(.int .i64 0),(.int .i64 0)],none⟩,xs 3 10 47])
 (.draw [(xm 48 0,[]),(xk 49 48,[]),(xf 0 50 49,[]),(xf 1 51 10,[]),(xo 52 51,[]),(xm 53 3,[]),(xb .neq 54 52 53,[]),(xm 55 54,[]),(xh 55 (xm 56 0),[]),(xh 55 (xk 57 56),[]),(xh 55 (xf 3 58 57),[]),(xh 55 (xo 59 58),[]),(xh 55 (xB .geq 60 59 0),[]),(xh 55 (xm 61 60),[]),(xg 61 (xf 2 62 10),[]),(xg 61 (xo 63 62),[]),(xg 61 (xm 64 0),[]),(xg 61 (xk 65 64),[]),(xg 61 (xf 3 66 65),[]),(xg 61 (xo 67 66),[]),(xg 61 (xb .neq 68 63 67),[]),(⟨(some 69),.pick (.s 61) (.s 68) (.c (.bool false)),(some (55,false))⟩,[]),(⟨(some 70),.pick (.s 55) (.c (.bool true)) (.s 69),none⟩,[]),(xm 71 2,[]),(xc 59 72 [.s 50,.s 70,.c (.int .i64 4),.s 71],[])]))))
theorem fn56:IsFn prog 56 ac56 [] 73:=⟨f56,⟨[],[],[]⟩,func56,by kernel_rfl,by kernel_rfl,by kernel_rfl,by kernel_rfl⟩
def ac57:AC:=.seq (.reg [⟨(some 3),.box 2 (.s 1),none⟩])
 (.seq (.draw [(xm 7 0,[]),(xk 8 7,[]),(xf 1 9 8,[]),(xl 2 10 9,[]),(xf 0 11 3,[]),(xo 12 11,[]),(xc 63 13 [.s 10,.s 12],[]),(xm 6 13,[]),(xe 14 6 0,[]),(xe 15 6 1,[]),(xm 4 14,[]),(xm 5 15,[])])
 (.seq (.reg [xm 16 0,xm 17 4,xk 18 16,xf 3 19 18,xs 1 19 17])
 (.seq (.draw [(xm 20 0,[]),(xk 21 20,[]),(xf 0 22 21,[]),(xm 23 4,[]),(xB .lss 24 23 0,[]),(xm 25 24,[]),(xg 25 (xm 26 5),[]),(xg 25 (xB .lss 27 26 0),[]),(⟨(some 28),.pick (.s 25) (.s 27) (.c (.bool false)),none⟩,[]),(xf 1 29 3,[]),(xo 30 29,[]),(xc 59 31 [.s 22,.s 28,.c (.int .i64 3),.s 30],[])])
 (.draw [(xm 32 0,[]),(xk 33 32,[]),(xf 0 34 33,[]),(xm 35 4,[]),(xB .lss 36 35 0,[]),(xm 37 36,[]),(xg 37 (xm 38 5),[]),(xg 37 (xB .geq 39 38 0),[]),(⟨(some 40),.pick (.s 37) (.s 39) (.c (.bool false)),none⟩,[]),(xf 1 41 3,[]),(xo 42 41,[]),(xc 59 43 [.s 34,.s 40,.c (.int .i64 4),.s 42],[])]))))
theorem fn57:IsFn prog 57 ac57 [] 44:=⟨f57,⟨[],[],[]⟩,func57,by kernel_rfl,by kernel_rfl,by kernel_rfl,by kernel_rfl⟩
def ac59:AC:=.seq (.reg [xm 8 1])
 (.cond (.s 8) (.reg [xm 9 0,xm 10 0,xk 11 10,xf 0 12 11,xo 13 12,xm 14 2,xm 15 3,⟨(some 16),.build [(.int .i64 0),(.int .i64 0)] [(0,1,(.s 14)),(1,1,(.s 15))],none⟩,⟨(some 17),.bslice 2 [(.s 16)],none⟩,xa 2 18 13 17,xk 19 9,xf 0 20 19,xs 1 20 18])
 (.skip))
theorem fn59:IsFn prog 59 ac59 [] 21:=⟨f59,⟨[],[],[]⟩,func59,by kernel_rfl,by kernel_rfl,by kernel_rfl,by kernel_rfl⟩
def ac118:AC:=.seq (.reg [⟨(some 3),.box 5 (.s 1),none⟩])
 (.seq (.reg [xf 0 6 3,xo 7 6])
 (.block 0 (.seq (.reg [xB .eql 9 7 1,xm 8 9])
 (.cond (.s 8) (.reg [xm 10 0,xf 2 11 3,xo 12 11,xf 1 13 3,xo 14 13,xc 56 15 [.s 10,.s 12,.s 14,.c (.int .i64 1)]])
 (.seq (.reg [xB .eql 17 7 7,xm 16 17])
 (.cond (.s 16) (.seq (.reg [xf 4 18 3,xo 19 18,xL 20 19,xB .gtr 21 20 0,xm 22 21,xg 22 (xm 23 0),xg 22 (xk 24 23),xg 22 (xf 3 25 24),xg 22 (xo 26 25),xg 22 (xB .geq 27 26 0),⟨(some 28),.pick (.s 22) (.s 27) (.c (.bool false)),none⟩])
 (.cond (.s 28) (.seq (.drawA [4,5] [(xm 30 0,[]),(xk 31 30,[]),(xf 1 32 31,[]),(xf 0 33 32,[]),(xo 34 33,[]),(xm 35 0,[]),(xk 36 35,[]),(xf 3 37 36,[]),(xo 38 37,[]),(xA 3 39 34 38,[]),(xf 1 40 39,[]),(xl 2 41 40,[]),(xf 4 42 3,[]),(xo 43 42,[]),(⟨(some 44),.idxA 5 (.s 43) (.c (.int .i64 0)),none⟩,[]),(xl 5 45 44,[]),(xc 125 46 [.s 41,.s 45],[]),(xm 29 46,[]),(xe 47 29 0,[]),(xe 48 29 1,[]),(⟨none,.mv (.c .any),none⟩,[]),(⟨none,.mv (.c .any),none⟩,[]),(⟨(some 4),.boxS 8 (.s 47),none⟩,[]),(⟨(some 5),.boxS 2 (.s 48),none⟩,[])])
 (.draw [(xm 49 0,[]),(xk 50 49,[]),(xf 0 51 50,[]),(xf 0 52 5,[]),(xo 53 52,[]),(xB .neq 54 53 0,[]),(xf 0 55 5,[]),(xo 56 55,[]),(xf 1 57 5,[]),(xo 58 57,[]),(xc 59 59 [.s 51,.s 54,.s 56,.s 58],[])]))
 (.skip)))
 (.skip)))))))
theorem fn118:IsFn prog 118 ac118 [] 60:=⟨f118,⟨[],[],[]⟩,func118,by kernel_rfl,by kernel_rfl,by kernel_rfl,by kernel_rfl⟩
theorem tell_calls (σ:Store) (b τ:Nat) (l:List Flt) (s:Scp) (lat p x y:Int) (is:Bool) (hl:l.length≤100000000) :
    PCalls prog 59 [.ptr (.out b) 0,.bool is,.int .i64 x,.int .i64 y] (wput σ b τ l s lat p) fun v σ' => v = .tup []∧σ' = wput σ b τ (l++if is then [⟨x,y⟩] else []) s lat p:=by
  refine fn59.calls ?_;simp only[slots,ac59,am,ams,Nat.reduceAdd];cases is with
  | false =>
    simp only[am,List.append_nil,List.append_nil];exact retK_intro rfl (Store.sub_refl _) ⟨rfl,by simp⟩
  | true =>
    simp only[am,Nat.reduceAdd,wr_];refine app_tk (by simp[big];omega) (by rw[List.length_map];exact wput_tip) ?_;simp only[am,List.length_map,wr_,List.length_map,List.length_singleton,wput_app];exact retK_intro rfl (Store.sub_refl _) ⟨rfl,by simp⟩
theorem svar_calls (σ:Store) (b τ:Nat) (l:List Flt) (s:Scp) (lat p y k:Int) (t:List UInt8) (hl:l.length≤90000000) (hs:s.ok) :
    PCalls prog 56 [.ptr (.out b) 0,.str t,.int .i64 y,.int .i64 k] (wput σ b τ l s lat p) fun v σ' => v = .tup []∧σ' = wput σ b τ (l++varFl s lat t y k) s lat p:=by
  refine fn56.calls ?_;simp only[slots,ac56,am,ams,Nat.reduceAdd,wr_,Scp.rec_];refine cl (scfind_calls s t _ hs.1 hs.2.1) ?_;cases hV:findV s.vars t with
  | none =>
    cases hL:findL s.lats t with
    | none =>
      have e:varFl s lat t y k=[⟨3,y⟩]:=by rw[varFl,hV,hL];rfl
      simp only[am,decide_true,Int.reduceNeg,optI,Int.reduceLT];refine cl (tell_calls σ b τ l s lat p 3 y true (by omega)) ?_;simp only[am,decide_true,decide_false,Int.reduceNeg,Int.reduceLT,Int.reduceLE];refine cl (tell_calls σ b τ (l++[⟨3,y⟩]) s lat p 4 y false (by simp;omega)) ?_;simp only[am,Int.reduceNeg,List.append_nil];exact retK_intro rfl (Store.sub_refl _) ⟨rfl,by rw[e]⟩
    | some j =>
      have e:varFl s lat t y k=[⟨4,y⟩]:=by rw[varFl,hV,hL];rfl
      simp only[am,Int.reduceNeg,optI,decide_eq_false (show ¬((j:Nat):Int)<0 by omega)];refine cl (tell_calls σ b τ l s lat p 3 y false (by omega)) ?_;simp only[am,decide_true,Int.reduceNeg,List.append_nil,Int.reduceLT,decide_eq_true (show (0:Int)≤((j:Nat):Int) by omega)];refine cl (tell_calls σ b τ l s lat p 4 y true (by omega)) ?_;simp only[am,Int.reduceNeg];exact retK_intro rfl (Store.sub_refl _) ⟨rfl,by rw[e]⟩
  | some v =>
    have hv:=findV_lt hV;have hx:s.vars[v]?=some s.vars[v]:=List.getElem?_eq_getElem hv;have e:varFl s lat t y k=if s.vars[v].kind≠k∨(0≤lat∧s.vars[v].lat≠lat) then [⟨4,y⟩] else []:=by rw[varFl,hV];simp only[hx]
    have nv:decide (((v:Nat):Int)<0)=false:=decide_eq_false (by omega);have mid:PCalls prog 59 [.ptr (.out b) 0,.bool false,.int .i64 3,.int .i64 y] (wput σ b τ l s lat p) fun u σ' => u = .tup []∧σ' = wput σ b τ l s lat p:=by
      simpa using tell_calls σ b τ l s lat p 3 y false (by omega)
    have fin:∀is:Bool,is=decide (s.vars[v].kind≠k∨(0≤lat∧s.vars[v].lat≠lat))→PCalls prog 59 [.ptr (.out b) 0,.bool is,.int .i64 4,.int .i64 y] (wput σ b τ l s lat p) fun u σ' => u = .tup []∧σ' = wput σ b τ (l++varFl s lat t y k) s lat p:=fun is he=>by
      have:=tell_calls σ b τ l s lat p 4 y is (by omega)
      rw[he] at this ⊢;rw[e];simpa using this
    cases hL:findL s.lats t
    case' none=>simp only[am,decide_true,Int.reduceNeg,optI,Int.reduceLT,nv]
    case' some j =>
      simp only[am,optI,decide_eq_false (show ¬((j:Nat):Int)<0 by omega)]
    all_goals
      refine cl mid ?_;simp only[am,Nat.reduceAdd,Int.reduceNeg,wr_,nv];refine idxL_intro (by omega) (vars_at hv) ?_;simp only[am,Int.reduceNeg,Scp.rec_,Vrb.q_len,Vrb.q_one,Vrb.q_tk,Vrb.q_ov]
      by_cases hk:s.vars[v].kind=k
      case neg =>
        simp only[am,Int.reduceNeg,decide_eq_false hk];refine CallD.intro (fin true (by simp[hk])) ?_;simp only[am,Int.reduceNeg];exact retK_intro rfl (Store.sub_refl _) ⟨rfl,rfl⟩
      simp only[am,Int.reduceNeg,wr_,decide_eq_true hk]
      by_cases h0:0≤lat
      case neg =>
        simp only[am,Int.reduceNeg,decide_eq_false h0];refine CallD.intro (fin false (by simp[hk,h0])) ?_;simp only[am,Int.reduceNeg];exact retK_intro rfl (Store.sub_refl _) ⟨rfl,rfl⟩
      simp only[am,Int.reduceNeg,wr_,Scp.rec_,decide_eq_true h0]
      by_cases h1:s.vars[v].lat=lat
      case neg =>
        simp only[am,Int.reduceNeg,decide_eq_false h1];refine CallD.intro (fin true (by simp[h0,h1])) ?_;simp only[am,Int.reduceNeg];exact retK_intro rfl (Store.sub_refl _) ⟨rfl,rfl⟩
      simp only[am,Int.reduceNeg,decide_eq_true h1];refine CallD.intro (fin false (by simp[hk,h1])) ?_;simp only[am,Int.reduceNeg];exact retK_intro rfl (Store.sub_refl _) ⟨rfl,rfl⟩
theorem tell_id (σ:Store) (b τ:Nat) (l:List Flt) (s:Scp) (lat p x y:Int) (hl:l.length≤100000000):PCalls prog 59 [.ptr (.out b) 0,.bool false,.int .i64 x,.int .i64 y] (wput σ b τ l s lat p) fun u σ' => u = .tup []∧σ' = wput σ b τ l s lat p:=by
  simpa using tell_calls σ b τ l s lat p x y false hl
theorem tell_add (σ:Store) (b τ:Nat) (l:List Flt) (s:Scp) (lat p x y:Int) (hl:l.length≤100000000):PCalls prog 59 [.ptr (.out b) 0,.bool true,.int .i64 x,.int .i64 y] (wput σ b τ l s lat p) fun u σ' => u = .tup []∧σ' = wput σ b τ (l++[⟨x,y⟩]) s lat p:=by
  simpa using tell_calls σ b τ l s lat p x y true hl
def z25_:=And.intro @am <| And.intro @ams <| And.intro @Scp.rec_ @Word.rec_
theorem slat_calls (σ:Store) (b τ:Nat) (l:List Flt) (s:Scp) (lat p:Int) (w:Word) (hl:l.length≤90000000) (hs:s.ok) :
    PCalls prog 57 [.ptr (.out b) 0,.agg w.enc] (wput σ b τ l s lat p) fun v σ' => v = .tup []∧σ' = wput σ b τ (l++latFl s w) s (optI (findL s.lats w.text)) p:=by
  refine fn57.calls ?_;simp only[slots,ac57,z25_,Nat.reduceAdd,Int.reduceNeg,optI,wr_];refine CallD.intro (scfind_calls s w.text (wput σ b τ l s lat p) hs.1 hs.2.1) ?_;simp only[am,Int.reduceNeg,optI,wr_,wput_lat];cases hL:findL s.lats w.text with
  | none =>
    cases hV:findV s.vars w.text with
    | none =>
      have e:latFl s w=[⟨3,w.pos⟩]:=by rw[latFl,hL,hV];rfl
      simp only[am,decide_true,Int.reduceNeg,Int.reduceLT,wr_];refine CallD.intro (tell_add σ b τ l s (-1) p 3 w.pos (by omega)) ?_;simp only[am,decide_true,decide_false,Int.reduceNeg,Int.reduceLT,Int.reduceLE,wr_];refine CallD.intro (tell_id σ b τ (l++[⟨3,w.pos⟩]) s (-1) p 4 w.pos (by simp;omega)) ?_;simp only[am,Int.reduceNeg];exact retK_intro rfl (Store.sub_refl _) ⟨rfl,by rw[e]⟩
    | some j =>
      have e:latFl s w=[⟨4,w.pos⟩]:=by rw[latFl,hL,hV];rfl
      simp only[am,decide_true,Int.reduceNeg,Int.reduceLT,wr_,decide_eq_false (show ¬((j:Nat):Int)<0 by omega)];refine CallD.intro (tell_id σ b τ l s (-1) p 3 w.pos (by omega)) ?_;simp only[am,decide_true,Int.reduceNeg,Int.reduceLT,wr_,decide_eq_true (show (0:Int)≤((j:Nat):Int) by omega)];refine CallD.intro (tell_add σ b τ l s (-1) p 4 w.pos (by omega)) ?_;simp only[am,Int.reduceNeg];exact retK_intro rfl (Store.sub_refl _) ⟨rfl,by rw[e]⟩
  | some j =>
    have e:latFl s w=[]:=by rw[latFl,hL];rfl
    simp only[am,Int.reduceNeg,wr_,decide_eq_false (show ¬((j:Nat):Int)<0 by omega)];refine CallD.intro (tell_id σ b τ l s (j:Nat) p 3 w.pos (by omega)) ?_;simp only[am,Int.reduceNeg,wr_,decide_eq_false (show ¬((j:Nat):Int)<0 by omega)];refine CallD.intro (tell_id σ b τ l s (j:Nat) p 4 w.pos (by omega)) ?_;simp only[am,Int.reduceNeg];exact retK_intro rfl (Store.sub_refl _) ⟨rfl,by rw[e,List.append_nil]⟩
theorem wput_TZ {σ:Store} {b τ:Nat} {l:List Flt} {s:Scp} {lat p:Int} (hg:TZ σ) (hb:σ.box b=none):TZ (wput σ b τ l s lat p):=hg
theorem satom_calls (σ:Store) (b τ:Nat) (l:List Flt) (s:Scp) (lat p:Int) (n:Nd) (hl:l.length≤90000000) (hs:s.ok) (hg:TZ σ) (hb:σ.box b=none) (hlat:lat<s.lats.length) (hc:n.cnt≤100000) (hw:n.wt≤big) :
    PCalls prog 118 [.ptr (.out b) 0,.agg n.enc] (wput σ b τ l s lat p) fun v σ' => v = .tup []∧σ' = wput σ b τ (l++atmFl s lat n) s lat p:=by
  refine fn118.calls ?_;simp only[slots,ac118,z15_,Nat.reduceAdd]
  by_cases h1:n.kind=1
  · simp only[am,Nd.fl,decide_eq_true h1];refine cl (svar_calls σ b τ l s lat p n.pos 1 n.text hl hs) ?_;simp only[am];exact retK_intro rfl (Store.sub_refl _) ⟨rfl,by rw[atmFl,if_pos h1]⟩
  simp only[am,decide_eq_false h1]
  by_cases h7:n.kind=7
  case neg =>
    simp only[am,decide_eq_false h7];exact retK_intro rfl (Store.sub_refl _) ⟨rfl,by rw[atmFl,if_neg h1,if_neg h7,List.append_nil]⟩
  simp only[am,List.length_map,Nd.fl,List.length_map,decide_eq_true h7];have ea:atmFl s lat n=elmFl s lat n:=by rw[atmFl,if_neg h1,if_pos h7]
  by_cases hk:0<n.kids.length
  case neg =>
    simp only[am,decide_eq_false (show ¬(0:Int)<(n.kids.length:Nat) by omega)];exact retK_intro rfl (Store.sub_refl _) ⟨rfl,by rw[ea,elmFl,if_neg (fun h=>hk h.1),List.append_nil]⟩
  simp only[am,wr_,decide_eq_true (show (0:Int)<(n.kids.length:Nat) by omega)]
  by_cases h0:0≤lat
  case neg =>
    simp only[am,decide_eq_false h0];exact retK_intro rfl (Store.sub_refl _) ⟨rfl,by rw[ea,elmFl,if_neg (fun h=>h0 h.2),List.append_nil]⟩
  simp only[am,Nat.reduceAdd,decide_true,Nat.reduceLT,wr_,decide_eq_true h0];obtain⟨k,rfl⟩:∃k:Nat,lat=k:=⟨lat.toNat,by omega⟩;have hkl:k<s.lats.length:=by omega
  have hm:n.kids[0]∈n.kids:=List.getElem_mem _;have hmc:=cnt_kid hm;have hmw:=kid_wt hm;refine idxL_intro (by omega) (lats_at hkl) ?_;simp only[am,Scp.rec_,Nd.fl];refine idxL_intro (n:=0) (by omega) (nencs_at (j:=0) (List.getElem?_eq_getElem hk)) ?_;simp only[am,Shp.rec_,Nd.rec_];refine CallD.intro (elem_calls s.lats[k].shape n.kids[0] (wput_TZ hg hb) (hs.2.2 _ (List.getElem_mem hkl)) (fun m hm=>by obtain⟨a,b,c⟩:=parts_ok (n:=n.kids[0]) (by omega) m hm;exact⟨by omega,by omega,fun q hq=>by have:=c q hq;omega⟩) (by omega)) ?_;have eo:elmO s (k:Nat) n=(elemF s.lats[k].shape n.kids[0]).2:=by rw[elmO,Int.toNat_natCast,shapeF_at hkl,getD_at hk]
  have ee:atmFl s (k:Nat) n=match (elemF s.lats[k].shape n.kids[0]).2 with | some q=>[⟨4,q⟩] | none=>[]:=by rw[ea,elmFl,if_pos ⟨hk,h0⟩,eo];cases (elemF s.lats[k].shape n.kids[0]).2<;>rfl
  generalize elemF s.lats[k].shape n.kids[0]=g at ee;obtain⟨e,o⟩:=g;cases o with
  | none =>
    simp only[am,Nat.reduceAdd,decide_true,Elm.rec_,show fltV none=[.int .i64 0,.int .i64 0] from rfl];refine CallD.intro (tell_id σ b τ l s (k:Nat) p 0 0 (by omega)) ?_;simp only[am];exact retK_intro rfl (Store.sub_refl _) ⟨rfl,by rw[ee,List.append_nil]⟩
  | some q =>
    simp only[am,Nat.reduceAdd,decide_false,Int.reduceEq,Elm.rec_,show fltV (some q)=[.int .i64 4,.int .i64 q] from rfl];refine CallD.intro (tell_add σ b τ l s (k:Nat) p 4 q (by omega)) ?_;simp only[am];exact retK_intro rfl (Store.sub_refl _) ⟨rfl,by rw[ee]⟩
end Go.Proofs.Tryz

namespace Go.Proofs.Tryz
open Go.Am
set_option maxRecDepth 4000
set_option maxHeartbeats 4000000
def ac58:AC:=.seq (.reg [⟨(some 2),.boxO 1 (.s 0),none⟩,⟨(some 3),.box 5 (.s 1),none⟩])
 (.seq (.reg [⟨(some 4),.allocO [(.raw .nilFunc)],none⟩])
 (.seq (.reg [⟨(some 5),.mkfn (.func 117) [] [(.s 2),(.s 4)],none⟩,xs 1 4 5])
 (.reg [xo 6 4,xl 5 7 3,⟨(some 8),.callv (.s 6) [(.s 7)],none⟩])))
theorem fn58:IsFn prog 58 ac58 [] 9:=⟨f58,⟨[2,4],[],[]⟩,func58,by kernel_rfl,by kernel_rfl,by kernel_rfl,by kernel_rfl⟩
def ac117:AC:=.seq (.reg [⟨(some 3),.box 5 (.s 0),none⟩])
 (.seq (.reg [xo 6 1,xl 5 7 3,xc 118 8 [.s 6,.s 7]])
 (.seq (.seq (.reg [xf 0 9 3,xo 10 9,xB .eql 11 10 1,xm 12 11,xh 12 (xf 0 13 3),xh 12 (xo 14 13),xh 12 (xB .eql 15 14 7),⟨(some 16),.pick (.s 12) (.c (.bool true)) (.s 15),none⟩])
 (.cond (.s 16) (.ret)
 (.skip)))
 (.seq (.reg [xf 4 17 3,xo 18 17,xL 19 18,xi 20 0])
 (.block 0 (.loop (.seq (.reg [xb .lss 21 20 19])
 (.seq (.cond (.s 21) (.skip)
 (.exit 0))
 (.seq (.block 1 (.seq (.reg [xA 5 22 18 20,xl 5 23 22,⟨(some 5),.alloc [(.int .i64 0),(.int .i64 0),(.str []),(.sl .full 2 []),(.sl .full 5 [])],none⟩,xs 5 5 23])
 (.reg [xo 24 2,xl 5 25 5,⟨(some 26),.callv (.s 24) [(.s 25)],none⟩])))
 (.reg [xB .add 27 20 1,xm 20 27])))))))))
theorem fn117:IsFn prog 117 ac117 [] 28:=⟨f117,⟨[],[],[]⟩,func117,by kernel_rfl,by kernel_rfl,by kernel_rfl,by kernel_rfl⟩
theorem slab1_calls (σ:Store) (b τ b2 b4:Nat) (s:Scp) (lat p:Int) (hs:s.ok) (hg:TZ σ) (hb:σ.box b=none) (hlat:lat<s.lats.length) (n2:b2≠b) (n4:b4≠b) (h2:σ.box b2=some [.ptr (.out b) 0]) (h4:σ.box b4=some [.fn (.func 117) [] [.ptr (.out b2) 0,.ptr (.out b4) 0]]) :
    ∀(k:Nat) (n:Nd) (l:List Flt),n.wt≤k→l.length+n.cnt≤90000000→n.cnt≤100000→n.wt≤big →
    PCalls prog 117 [.agg n.enc,.ptr (.out b2) 0,.ptr (.out b4) 0] (wput σ b τ l s lat p) fun v σ' => v = .tup []∧σ' = wput σ b τ (l++labFl s lat n) s lat p:=by
  have e2:∀l,(wput σ b τ l s lat p).box b2=some [.ptr (.out b) 0]:=fun l=>by rw[wput_ne n2];exact h2
  have e4:∀l,(wput σ b τ l s lat p).box b4=some [.fn (.func 117) [] [.ptr (.out b2) 0,.ptr (.out b4) 0]]:=fun l=>by rw[wput_ne n4];exact h4
  intro k;induction k with
  | zero=>intro n l h;have:=Nd.cnt_pos n;have:=cnt_wt n;omega
  | succ k ih =>
    intro n l hk hl hc hw;refine fn117.calls ?_;simp only[slots,ac117,am,ams,Nat.reduceAdd,Nd.rec_];simp only[am,Nd.rec_,e2];refine cl (satom_calls σ b τ l s lat p n (by omega) hs hg hb hlat hc hw) ?_;have ha:=@atmFl_len s lat n;simp only[am,Nd.fl]
    by_cases h17:n.kind=1∨n.kind=7
    · have e:labFl s lat n=atmFl s lat n:=by rw[labFl_eq,if_pos h17,List.append_nil]
      have hsel:(decide (n.kind=1)=true)∨(decide (n.kind=1)=false∧decide (n.kind=7)=true):=by
        by_cases h:n.kind=1
        · exact .inl (decide_eq_true h)
        · exact .inr ⟨decide_eq_false h,decide_eq_true (by simpa [h] using h17)⟩
      rcases hsel with e1 | ⟨e1,e7⟩
      case' inl=>simp only[am,e1]
      case' inr=>simp only[am,Nd.fl,e1,e7]
      all_goals exact retK_intro rfl (Store.sub_refl _) ⟨rfl,by rw[e]⟩
    have e:labFl s lat n=atmFl s lat n++n.kids.flatMap (labFl s lat):=by rw[labFl_eq,if_neg h17]
    simp only[am,List.length_map,Nd.fl,List.length_map,decide_eq_false (fun h=>h17 (.inl h)),decide_eq_false (fun h=>h17 (.inr h))];have hkc:=cnt_kids n;have hnc:=Nd.cnt_pos n;obtain⟨F,hF⟩:∃F:Nat→Unit→St,∀i x,F i x=⟨[.any,.ptr (.out b2) 0,.ptr (.out b4) 0,.ptr (.loc 0) 0,.any,.any,.any,.any,.any,.any,.any,.any,.any,.any,.any,.any,.any,.any,.sl .no 5 (n.kids.map Nd.enc),.int .i64 (n.kids.length:Nat),.int .i64 (i:Nat)]++List.replicate 7 .any,[n.enc],wput σ b τ (l++atmFl s lat n++(n.kids.take i).flatMap (labFl s lat)) s lat p⟩:=⟨_,fun _ _=>rfl⟩;obtain⟨JF,hJF⟩:∃JF:Nat→Unit→Prop,∀i x,JF i x=(True):=⟨_,fun _ _=>rfl⟩;refine vc_count (n.kids.length) F JF _ hJF ?_ ?_ ?_
    · refine ent (()) ?_ ?_ ?_ ?_
      · exact Eq.mpr (hJF _ _) (trivial)
      all_goals simp[hF,List.replicate,am,lle_self]
    · rintro i x hi -;have hm:n.kids[i]∈n.kids:=List.getElem_mem _;have hmc:=cnt_kid hm;have hmw:=kid_wt hm;have hlen:=labs_take (s:=s) (lat:=lat) hi;simp only[hF,List.replicate,am,dlt hi];refine idxL_intro (by omega) (nencs_at (List.getElem?_eq_getElem hi)) ?_;simp only[am,Nd.rec_,e4];refine cl (ih n.kids[i] _ (by omega) (by simp only[List.length_append];omega) (by omega) (by omega)) ?_;simp only[am,aml,winc hi (by omega),List.append_assoc];refine nxtD (()) hi ?_ ?_ ?_ ?_ ?_ ?_
      · exact Eq.mpr (hJF _ _) (trivial)
      all_goals simp[hF,List.replicate,am,lle_self,loL,loLL,V.lo,flat_take hi,List.append_assoc,Nd.r_lo]
    · rintro x -;simp only[hF,List.replicate,am,aml,dnl,aml,List.take_length];exact retK_intro rfl (Store.sub_refl _) ⟨rfl,by rw[e,List.append_assoc]⟩
theorem slabel_calls (σ:Store) (b τ:Nat) (l:List Flt) (s:Scp) (lat p:Int) (n:Nd) (hs:s.ok) (hg:TZ σ) (hb:σ.box b=none) (hlat:lat<s.lats.length) (hl:l.length+n.cnt≤90000000) (hc:n.cnt≤100000) (hw:n.wt≤big) :
    PCalls prog 58 [.ptr (.out b) 0,.agg n.enc] (wput σ b τ l s lat p) fun v σ' => v = .tup []∧σ' = wput σ b τ (l++labFl s lat n) s lat p:=by
  have fresh:∀{x:Nat} {σ0:Store},(wput σ0 b τ l s lat p).box x=none→x≠b:=fun {x σ0} h=>by rintro rfl;rw[wput_box] at h;simp at h
  refine fn58.calls ?_;simp only[slots,ac58,am,ams,Nat.reduceAdd];intro b2 hb2;have n2:=fresh hb2;rw[wput_ne n2] at hb2;simp only[am,Nd.rec_];rw[wput_setne n2];intro b4 hb4;have n4:=fresh hb4;rw[wput_ne n4] at hb4;have n24:b4≠b2:=by rintro rfl;simp[Store.set] at hb4
  have hb4' : σ.box b4=none:=by simpa [Store.set,n24] using hb4
  simp only[am,Nd.rec_];rw[wput_setne n4];have hg2:TZ ((σ.set b2 [V.ptr (Pl.out b) 0]).set b4 [V.fn (Fn.func 117) [] [V.ptr (Pl.out b2) 0,V.ptr (Pl.out b4) 0]]):=hg;refine cl (slab1_calls _ b τ b2 b4 s lat p hs hg2 (by rw[set_box_ne n4.symm,set_box_ne n2.symm];exact hb) hlat n2 n4 (by rw[set_box_ne n24.symm,set_box]) set_box n.wt n l (Nat.le_refl _) hl hc hw) ?_;simp only[am];exact retK_intro rfl (Store.subT (wput_new n2 hb2) (wput_new n4 hb4)) ⟨rfl,rfl⟩
end Go.Proofs.Tryz

namespace Go.Proofs.Tryz
open Go.Am
set_option maxRecDepth 4000
set_option maxHeartbeats 4000000
def ac60:AC:=.seq (.reg [⟨(some 3),.box 5 (.s 1),none⟩])
 (.seq (.seq (.reg [xf 0 11 3,xo 12 11,xB .eql 13 12 1])
 (.cond (.s 13) (.reg [xm 14 0,xf 2 15 3,xo 16 15,xf 1 17 3,xo 18 17,xc 56 19 [.s 14,.s 16,.s 18,.c (.int .i64 2)]])
 (.skip)))
 (.seq (.seq (.reg [xf 0 20 3,xo 21 20,xB .neq 22 21 10])
 (.cond (.s 22) (.ret)
 (.skip)))
 (.seq (.reg [⟨(some 4),.mv (.c (.sl .full 1 [])),none⟩])
 (.seq (.seq (.reg [xf 4 23 3,xo 24 23,xL 25 24,xi 26 0])
 (.block 0 (.loop (.seq (.reg [xb .lss 27 26 25])
 (.seq (.cond (.s 27) (.skip)
 (.exit 0))
 (.seq (.block 1 (.seq (.reg [xA 5 28 24 26,xl 5 29 28,⟨(some 6),.alloc [(.int .i64 0),(.int .i64 0),(.str []),(.sl .full 2 []),(.sl .full 5 [])],none⟩,xs 5 6 29])
 (.seq (.draw [(xm 30 0,[]),(xk 31 30,[]),(xf 0 32 31,[]),(xm 33 4,[]),(xf 2 34 6,[]),(xo 35 34,[]),(xc 112 36 [.s 33,.s 35],[]),(xB .geq 37 36 0,[]),(xf 1 38 6,[]),(xo 39 38,[0]),(xc 59 40 [.s 32,.s 37,.c (.int .i64 4),.s 39],[])])
 (.seq (.reg [xm 41 4,xf 2 42 6,xo 43 42,⟨(some 44),.bslice 1 [(.s 43)],none⟩,xa 1 45 41 44,xm 4 45])
 (.seq (.reg [xf 4 46 6,xo 47 46,xL 48 47,xi 49 0])
 (.block 2 (.loop (.seq (.reg [xb .lss 50 49 48])
 (.seq (.cond (.s 50) (.skip)
 (.exit 2))
 (.seq (.block 3 (.seq (.reg [xA 5 51 47 49,xl 5 52 51,⟨(some 8),.alloc [(.int .i64 0),(.int .i64 0),(.str []),(.sl .full 2 []),(.sl .full 5 [])],none⟩,xs 5 8 52])
 (.reg [xm 53 0,xl 5 54 8,xc 118 55 [.s 53,.s 54]])))
 (.reg [xB .add 56 49 1,xm 49 56])))))))))))
 (.reg [xB .add 57 26 1,xm 26 57])))))))
 (.seq (.seq (.reg [xf 3 58 3,xo 59 58,xL 60 59,xi 61 0])
 (.block 4 (.loop (.seq (.reg [xb .lss 62 61 60])
 (.seq (.cond (.s 62) (.skip)
 (.exit 4))
 (.seq (.block 5 (.seq (.reg [xA 2 63 59 61,xl 2 64 63,⟨(some 10),.alloc [(.str []),(.int .i64 0)],none⟩,xs 2 10 64])
 (.reg [xm 65 0,xf 0 66 10,xo 67 66,xf 1 68 10,xo 69 68,xc 56 70 [.s 65,.s 67,.s 69,.c (.int .i64 2)]])))
 (.reg [xB .add 71 61 1,xm 61 71])))))))
 (.draw [(xm 72 0,[]),(xk 73 72,[]),(xf 0 74 73,[]),(xf 4 75 3,[]),(xo 76 75,[]),(xL 77 76,[]),(xB .gtr 78 77 16,[]),(xm 79 0,[]),(xk 80 79,[]),(xf 4 81 80,[]),(xo 82 81,[]),(xc 59 83 [.s 74,.s 78,.c (.int .i64 7),.s 82],[])]))))))
theorem fn60:IsFn prog 60 ac60 [] 84:=⟨f60,⟨[],[],[]⟩,func60,by kernel_rfl,by kernel_rfl,by kernel_rfl,by kernel_rfl⟩
theorem sCells_app {l:List (List UInt8)} {x:List UInt8}:sCells (l++[x])=sCells l++[[.str x]]:=by simp[sCells]
theorem words_at {l:List Word} {j:Nat} (h:j<l.length):(l.map Word.enc)[((j:Nat):Int).toNat]?=some l[j].enc:=by simp[h]
theorem srow_calls (σ:Store) (b τ:Nat) (l:List Flt) (s:Scp) (lat p:Int) (n:Nd) (hs:s.ok) (hg:TZ σ) (hb:σ.box b=none) (hlat:lat<s.lats.length) (hl:l.length≤30000000) (hc:n.cnt≤100000) (hw:n.wt≤big) :
    PCalls prog 60 [.ptr (.out b) 0,.agg n.enc] (wput σ b τ l s lat p) fun v σ' => v = .tup []∧σ' = wput σ b τ (l++rowFl s lat p n) s lat p:=by
  refine fn60.calls ?_;simp only[slots,ac60,z15_,Nat.reduceAdd]
  by_cases h1:n.kind=1
  · simp only[am,Nd.fl,decide_eq_true h1];refine cl (svar_calls σ b τ l s lat p n.pos 2 n.text (by omega) hs) ?_;simp only[am,Nd.fl,decide_eq_false (show ¬n.kind=10 by omega)];exact retK_intro rfl (Store.sub_refl _) ⟨rfl,by rw[rowFl,if_pos h1]⟩
  simp only[am,Nd.fl,decide_eq_false h1]
  by_cases h10:n.kind=10
  case neg =>
    simp only[am,decide_eq_false h10];exact retK_intro rfl (Store.sub_refl _) ⟨rfl,by rw[rowFl,if_neg h1,if_neg h10,List.append_nil]⟩
  simp only[am,List.length_map,Nd.fl,List.length_map,decide_eq_true h10];have hrow:rowFl s lat p n=fldsFl s lat n.kids n.kids.length++tailFl s lat n.names++(if 16<n.kids.length then [⟨7,p⟩] else []):=by rw[rowFl,if_neg h1,if_pos h10]
  have hkc:=cnt_kids n;have hnc:=cnt_names n;have hkk:∀k∈n.kids,k.kids.length≤100000:=fun k hk=>by have:=cnt_kids k;have:=cnt_kid hk;omega
  have hfl:∀{i:Nat},i≤n.kids.length→(fldsFl s lat n.kids i).length≤100000:=fun {i} hi=>by
    have:=fldsFl_len (s:=s) (lat:=lat) hi
    have:=cnts_take n.kids i
    have:=Nd.cnt_pos n
    omega
  obtain⟨F,hF⟩:∃F:Nat→Tk × Store→St,∀i x,F i x=⟨[.ptr (.out b) 0,.any,.any,.ptr (.loc 0) 0,.sl x.1 1 (sCells ((n.kids.take i).map Nd.text)),.any,.any,.any,.any,.any,.any,.any,.any,.any,.any,.any,.any,.any,.any,.any,.any,.any,.any,.any,.sl .no 5 (n.kids.map Nd.enc),.int .i64 (n.kids.length:Nat),.int .i64 (i:Nat)]++List.replicate 57 .any,[n.enc],wput x.2 b τ (l++fldsFl s lat n.kids i) s lat p⟩:=⟨_,fun _ _=>rfl⟩;obtain⟨JF,hJF⟩:∃JF:Nat→Tk × Store→Prop,∀i x,JF i x=(Ah σ x.2 τ x.1 i):=⟨_,fun _ _=>rfl⟩;refine vc_count (n.kids.length) F JF _ hJF ?_ ?_ ?_
  · refine ent ((.full,σ)) ?_ ?_ ?_ ?_
    · exact Eq.mpr (hJF _ _) (Ah.nil)
    all_goals simp[hF,List.replicate,am,lle_self,fldsFl,sCells]
  · rintro i ⟨tk,σ1⟩ hi hA;simp only at hA;have hm:n.kids[i]∈n.kids:=List.getElem_mem _;have hmc:=cnt_kid hm;have hmw:=kid_wt hm;have hk2:=hkk _ hm;have hL:=hfl (Nat.le_of_lt hi);have hg1:TZ σ1:=hA.sub.2.2 _ _ hg;have hb1:σ1.box b=none:=by rw[hA.box];exact hb
    have htx:((n.kids.take i).map Nd.text).length=i:=by simp;omega
    have hgk:n.kids.getD i nd0=n.kids[i]:=getD_at hi;simp only[hF,List.replicate,am,dlt hi];refine idxL_intro (by omega) (nencs_at (List.getElem?_eq_getElem hi)) ?_;simp only[am,Nd.rec_,Nd.fl];refine CallD.intro (PCalls.weak (as' := [.sl .no 1 (sCells ((n.kids.take i).map Nd.text)),.str n.kids[i].text]) (find_calls ((n.kids.take i).map Nd.text) n.kids[i].text _ (by omega)) ⟨VLe.no,VLe.rfl,trivial⟩ OLe.rfl) ?_;simp only[am,Nd.fl,optI_nn];have ed:dupFl n.kids i=if (findS ((n.kids.take i).map Nd.text) n.kids[i].text).isSome then [⟨4,n.kids[i].pos⟩] else []:=by rw[dupFl,hgk]
    have hdl:(dupFl n.kids i).length≤1:=by rw[ed];split<;>simp
    refine CallD.intro (tell_calls σ1 b τ (l++fldsFl s lat n.kids i) s lat p 4 n.kids[i].pos _ (by simp only[List.length_append];omega)) ?_;rw[←ed];simp only[am,Nd.fl];refine Ah.app (by rw[sCells_len,htx];exact hA) (by simp[sCells_len,big];omega) fun tk' σ2 hA2=>?_
    have hA2:Ah σ σ2 τ tk' (i+1):=by rw[List.length_append,sCells_len,htx] at hA2;exact hA2
    have hg2:TZ σ2:=hA2.sub.2.2 _ _ hg;have hb2:σ2.box b=none:=by rw[hA2.box];exact hb
    simp only[am,List.length_map,Nd.fl,List.length_map];obtain⟨F2,hF2⟩:∃F2:Nat→Unit→St,∀j y,F2 j y=⟨[.ptr (.out b) 0,.any,.any,.ptr (.loc 0) 0,.sl tk' 1 (sCells ((n.kids.take i).map Nd.text)++[[.str n.kids[i].text]]),.any,.any,.any,.any,.any,.any,.any,.any,.any,.any,.any,.any,.any,.any,.any,.any,.any,.any,.any,.sl .no 5 (n.kids.map Nd.enc),.int .i64 (n.kids.length:Nat),.int .i64 (i:Nat),.any,.any,.any,.any,.any,.any,.any,.any,.any,.any,.any,.any,.any,.any,.any,.any,.any,.any,.any,.any,.sl .no 5 (n.kids[i].kids.map Nd.enc),.int .i64 (n.kids[i].kids.length:Nat),.int .i64 (j:Nat)]++List.replicate 34 .any,[n.enc,n.kids[i].enc],wput σ2 b τ (l++fldsFl s lat n.kids i++dupFl n.kids i++(n.kids[i].kids.take j).flatMap (atmFl s lat)) s lat p⟩:=⟨_,fun _ _=>rfl⟩;obtain⟨JF2,hJF2⟩:∃JF2:Nat→Unit→Prop,∀j y,JF2 j y=(True):=⟨_,fun _ _=>rfl⟩;refine vc_count (n.kids[i].kids.length) F2 JF2 _ hJF2 ?_ ?_ ?_
    · refine ent (()) ?_ ?_ ?_ ?_
      · exact Eq.mpr (hJF2 _ _) (trivial)
      all_goals simp[hF2,List.replicate,am,lle_self]
    · rintro j y hj -;have hm2:n.kids[i].kids[j]∈n.kids[i].kids:=List.getElem_mem _;have hmc2:=cnt_kid hm2;have hmw2:=kid_wt hm2;have hL2:((n.kids[i].kids.take j).flatMap (atmFl s lat)).length≤100000:=by
        have:=flat_len (f:=atmFl s lat) (m:=1) (l:=n.kids[i].kids.take j) fun _ _=>atmFl_len
        rw[Nat.mul_one,List.length_take] at this;omega
      simp only[hF2,List.replicate,am,dlt hj];refine idxL_intro (by omega) (nencs_at (List.getElem?_eq_getElem hj)) ?_;simp only[am,Nat.reduceAdd,Nd.rec_];refine cl (satom_calls σ2 b τ _ s lat p n.kids[i].kids[j] (by simp only[List.length_append];omega) hs hg2 hb2 hlat (by omega) (by omega)) ?_;simp only[am,aml,winc hj (by omega)];refine nxtD (()) hj ?_ ?_ ?_ ?_ ?_ ?_
      · exact Eq.mpr (hJF2 _ _) (trivial)
      all_goals simp[hF2,List.replicate,am,lle_self,loL,loLL,V.lo,flat_take hj,List.append_assoc,Nd.r_lo]
    · rintro y -;simp only[hF2,List.replicate,am,aml,dnl,Nat.reduceEqDiff,aml,reduceCtorEq,Nd.fl,List.length_map,List.take_length,winc hi (by omega)];have ef:fldsFl s lat n.kids (i+1)=fldsFl s lat n.kids i++(dupFl n.kids i++n.kids[i].kids.flatMap (atmFl s lat)):=by rw[fldsFl_succ,fldFl,hgk]
      have et:(n.kids.take (i+1)).map Nd.text=(n.kids.take i).map Nd.text++[n.kids[i].text]:=by rw[List.take_succ_eq_append_getElem hi,List.map_append];rfl
      refine nxtD ((tk',σ2)) hi ?_ ?_ ?_ ?_ ?_ ?_
      · exact Eq.mpr (hJF _ _) (hA2)
      all_goals simp[hF,List.replicate,am,lle_self,loL,loLL,V.lo,ef,et,sCells_app,List.append_assoc,Nd.r_lo]
  · rintro⟨tk,σ1⟩ hA;simp only at hA;have hL:=hfl (Nat.le_refl _);simp only[hF,List.replicate,am,aml,dnl,aml,Nd.fl,List.length_map];obtain⟨F3,hF3⟩:∃F3:Nat→Unit→St,∀j y,F3 j y=⟨[.ptr (.out b) 0,.any,.any,.ptr (.loc 0) 0,.any,.any,.any,.any,.any,.any,.any,.any,.any,.any,.any,.any,.any,.any,.any,.any,.any,.any,.any,.any,.any,.any,.any,.any,.any,.any,.any,.any,.any,.any,.any,.any,.any,.any,.any,.any,.any,.any,.any,.any,.any,.any,.any,.any,.any,.any,.any,.any,.any,.any,.any,.any,.any,.any,.any,.sl .no 2 (n.names.map Word.enc),.int .i64 (n.names.length:Nat),.int .i64 (j:Nat)]++List.replicate 22 .any,[n.enc],wput σ1 b τ (l++fldsFl s lat n.kids n.kids.length++tailFl s lat (n.names.take j)) s lat p⟩:=⟨_,fun _ _=>rfl⟩;obtain⟨JF3,hJF3⟩:∃JF3:Nat→Unit→Prop,∀j y,JF3 j y=(True):=⟨_,fun _ _=>rfl⟩;refine vc_count (n.names.length) F3 JF3 _ hJF3 ?_ ?_ ?_
    · refine ent (()) ?_ ?_ ?_ ?_
      · exact Eq.mpr (hJF3 _ _) (trivial)
      all_goals simp[hF3,List.replicate,am,lle_self,tailFl]
    · rintro j y hk -;have hL3:=@tailFl_len s lat (n.names.take j);rw[List.length_take] at hL3;simp only[hF3,List.replicate,am,dlt hk];refine idxL_intro (by omega) (words_at hk) ?_;simp only[am,wr_,Word.rec_];refine cl (svar_calls σ1 b τ _ s lat p n.names[j].pos 2 n.names[j].text (by simp only[List.length_append];omega) hs) ?_;simp only[am,aml,winc hk (by omega)];have ef:tailFl s lat (n.names.take (j+1))=tailFl s lat (n.names.take j)++varFl s lat n.names[j].text n.names[j].pos 2:=by rw[tailFl,flat_take hk];rfl
      refine nxtD (()) hk ?_ ?_ ?_ ?_ ?_ ?_
      · exact Eq.mpr (hJF3 _ _) (trivial)
      all_goals simp[hF3,List.replicate,am,lle_self,loL,loLL,V.lo,ef,List.append_assoc,Nd.r_lo]
    · rintro y -;have hL3:=@tailFl_len s lat n.names;simp only[hF3,List.replicate,am,aml,dnl,aml,wr_,Nd.fl,List.length_map,List.take_length];have bound:(l++fldsFl s lat n.kids n.kids.length++tailFl s lat n.names).length≤100000000:=by simp only[List.length_append];omega
      by_cases h16:16<n.kids.length
      · rw[decide_eq_true (show (16:Int)<(n.kids.length:Nat) by omega)];refine CallD.intro (tell_add σ1 b τ _ s lat p 7 p bound) ?_;simp only[am];exact retK_intro rfl (wput_mono hA.sub) ⟨rfl,by rw[hrow,if_pos h16];simp only[List.append_assoc]⟩
      · rw[decide_eq_false (show ¬(16:Int)<(n.kids.length:Nat) by omega)];refine CallD.intro (tell_id σ1 b τ _ s lat p 7 p bound) ?_;simp only[am];exact retK_intro rfl (wput_mono hA.sub) ⟨rfl,by rw[hrow,if_neg h16,List.append_nil,List.append_assoc]⟩
end Go.Proofs.Tryz

namespace Go.Proofs.Tryz
open Go.Am
set_option maxRecDepth 4000
set_option maxHeartbeats 4000000
end Go.Proofs.Tryz

namespace Go.Proofs.Tryz
open Go.Am
set_option maxRecDepth 4000
set_option maxHeartbeats 4000000
end Go.Proofs.Tryz

namespace Go.Proofs.Tryz
open Go.Am
set_option maxRecDepth 4000
set_option maxHeartbeats 4000000
end Go.Proofs.Tryz

namespace Go.Proofs.Tryz
open Go.Am
set_option maxRecDepth 4000
set_option maxHeartbeats 4000000
end Go.Proofs.Tryz

namespace Go.Proofs.Tryz
open Go.Am
set_option maxRecDepth 4000
set_option maxHeartbeats 4000000
end Go.Proofs.Tryz

namespace Go.Proofs.Tryz
open Go.Am
set_option maxRecDepth 4000
set_option maxHeartbeats 4000000
section
variable {c:Cmd}
theorem c_len:c.enc.length=17:=rfl
theorem c_one:oneL c.enc=true:=rfl
theorem c_nol:nolL c.enc=true:=rfl
theorem c_er:eraseL c.enc=c.enc:=rfl
theorem c_tk:takeN 17 c.enc=some c.enc:=rfl
theorem c_ov {z0 z1 z2 z3 z4 z5 z6 z7 z8 z9 z10 z11 z12 z13 z14 z15 z16:V}:over [z0,z1,z2,z3,z4,z5,z6,z7,z8,z9,z10,z11,z12,z13,z14,z15,z16] c.enc=c.enc:=rfl
theorem c_lk:ldC false 1 (c.enc.drop 7)=some (.int .i64 c.left.kind):=rfl
theorem c_sname {w:Word}:setAt c.enc 2 w.enc=({c with name:=w}:Cmd).enc:=rfl
theorem c_hname:hasN 2 (c.enc.drop 2)=true:=rfl
theorem c_snames {ws:List Word}:setAt c.enc 4 [.sl .no 2 (ws.map Word.enc)]=({c with names:=ws}:Cmd).enc:=rfl
theorem c_hnames:hasN 1 (c.enc.drop 4)=true:=rfl
theorem c_spairs {ps:List (Word × Word)}:setAt c.enc 5 [.sl .no 4 (ps.map penc)]=({c with pairs:=ps}:Cmd).enc:=rfl
theorem c_hpairs:hasN 1 (c.enc.drop 5)=true:=rfl
theorem c_spat {n:Int}:setAt c.enc 6 [.int .i64 n]=({c with pairsAt:=n}:Cmd).enc:=rfl
theorem c_hpat:hasN 1 (c.enc.drop 6)=true:=rfl
theorem c_sl {n:Nd}:setAt c.enc 7 n.enc=({c with left:=n}:Cmd).enc:=by rw[Nd.enc_eq];rfl
theorem c_hl:hasN 5 (c.enc.drop 7)=true:=rfl
theorem c_sr {n:Nd}:setAt c.enc 12 n.enc=({c with right:=n}:Cmd).enc:=by rw[Nd.enc_eq];rfl
theorem c_hr:hasN 5 (c.enc.drop 12)=true:=rfl
def cfl:=And.intro @c_len <| And.intro @c_one <| And.intro @c_nol <| And.intro @c_er <| And.intro @c_tk <| And.intro @c_ov <| And.intro @c_lk <| And.intro @c_sname <| And.intro @c_hname <| And.intro @c_snames <| And.intro @c_hnames <| And.intro @c_spairs <| And.intro @c_hpairs <| And.intro @c_spat <| And.intro @c_hpat <| And.intro @c_sl <| And.intro @c_hl <| And.intro @c_sr @c_hr
end
end Go.Proofs.Tryz

namespace Go.Proofs.Tryz
open Go.Am
set_option maxRecDepth 4000
set_option maxHeartbeats 4000000
def ac95:AC:=.seq (.reg [xi 3 0])
 (.seq (.block 0 (.loop (.seq (.seq (.reg [xm 4 0,xo 5 1,xT 6 5,xb .lss 7 4 6,xm 8 7,xg 8 (xo 9 1),xg 8 (xm 10 0),xg 8 (xS 11 9 10),xg 8 (xc 96 12 [.s 11]),⟨(some 13),.pick (.s 8) (.s 12) (.c (.bool false)),none⟩])
 (.cond (.s 13) (.skip)
 (.exit 0)))
 (.block 1 (.reg [xm 14 0,xB .add 15 14 1,xm 0 15])))))
 (.seq (.reg [xm 16 0,xm 3 16])
 (.ret)))
theorem fn95:IsFn prog 95 ac95 [.tmp 3] 17:=⟨f95,⟨[],[],[]⟩,func95,by kernel_rfl,by kernel_rfl,by kernel_rfl,by kernel_rfl⟩
def ac96:AC:=.seq (.reg [⟨(some 2),.mv (.c (.bool false)),none⟩])
 (.seq (.reg [xm 3 0,xu .geq 4 3 97,xm 5 4,xg 5 (xm 6 0),xg 5 (xu .leq 7 6 122),⟨(some 8),.pick (.s 5) (.s 7) (.c (.bool false)),none⟩,xm 9 8,xh 9 (xm 10 0),xh 9 (xu .geq 11 10 48),xh 9 (xm 12 11),xg 12 (xm 13 0),xg 12 (xu .leq 14 13 57),⟨(some 15),.pick (.s 12) (.s 14) (.c (.bool false)),(some (9,false))⟩,⟨(some 16),.pick (.s 9) (.c (.bool true)) (.s 15),none⟩,xm 17 16,xh 17 (xm 18 0),xh 17 (xu .eql 19 18 95),⟨(some 20),.pick (.s 17) (.c (.bool true)) (.s 19),none⟩,xm 2 20])
 (.ret))
theorem fn96:IsFn prog 96 ac96 [.tmp 2] 21:=⟨f96,⟨[],[],[]⟩,func96,by kernel_rfl,by kernel_rfl,by kernel_rfl,by kernel_rfl⟩
def ac97:AC:=.seq (.reg [⟨(some 4),.mv (.c (.bool false)),none⟩])
 (.seq (.reg [xm 5 0,xm 6 1,xS 7 5 6,xu .eql 8 7 45,xm 9 8,xg 9 (xm 10 1),xg 9 (xB .add 11 10 1),xg 9 (xm 12 0),xg 9 (xT 13 12),xg 9 (xb .lss 14 11 13),⟨(some 15),.pick (.s 9) (.s 14) (.c (.bool false)),none⟩,xm 16 15,xg 16 (xm 17 0),xg 16 (xm 18 1),xg 16 (xB .add 19 18 1),xg 16 (xS 20 17 19),xg 16 (xu .eql 21 20 45),⟨(some 22),.pick (.s 16) (.s 21) (.c (.bool false)),none⟩,xm 4 22])
 (.ret))
theorem fn97:IsFn prog 97 ac97 [.tmp 4] 23:=⟨f97,⟨[],[],[]⟩,func97,by kernel_rfl,by kernel_rfl,by kernel_rfl,by kernel_rfl⟩
def ac98:AC:=.seq (.reg [⟨(some 2),.mv (.c (.bool false)),none⟩])
 (.seq (.seq (.reg [xm 3 0])
 (.block 0 (.seq (.seq (.reg [xu .eql 5 3 35,xm 4 5])
 (.cond (.s 4) (.skip)
 (.seq (.reg [xu .eql 6 3 43,xm 4 6])
 (.cond (.s 4) (.skip)
 (.seq (.reg [xu .eql 7 3 38,xm 4 7])
 (.cond (.s 4) (.skip)
 (.seq (.reg [xu .eql 8 3 40,xm 4 8])
 (.cond (.s 4) (.skip)
 (.seq (.reg [xu .eql 9 3 41,xm 4 9])
 (.cond (.s 4) (.skip)
 (.seq (.reg [xu .eql 10 3 123,xm 4 10])
 (.cond (.s 4) (.skip)
 (.seq (.reg [xu .eql 11 3 125,xm 4 11])
 (.cond (.s 4) (.skip)
 (.seq (.reg [xu .eql 12 3 91,xm 4 12])
 (.cond (.s 4) (.skip)
 (.seq (.reg [xu .eql 13 3 93,xm 4 13])
 (.cond (.s 4) (.skip)
 (.seq (.reg [xu .eql 14 3 44,xm 4 14])
 (.cond (.s 4) (.skip)
 (.seq (.reg [xu .eql 15 3 58,xm 4 15])
 (.cond (.s 4) (.skip)
 (.seq (.reg [xu .eql 16 3 61,xm 4 16])
 (.cond (.s 4) (.skip)
 (.seq (.reg [xu .eql 17 3 124,xm 4 17])
 (.cond (.s 4) (.skip)
 (.reg [xu .eql 18 3 60,xm 4 18])))))))))))))))))))))))))))
 (.cond (.s 4) (.seq (.reg [⟨(some 2),.mv (.c (.bool true)),none⟩])
 (.ret))
 (.skip)))))
 (.seq (.reg [⟨(some 2),.mv (.c (.bool false)),none⟩])
 (.ret)))
theorem fn98:IsFn prog 98 ac98 [.tmp 2] 19:=⟨f98,⟨[],[],[]⟩,func98,by kernel_rfl,by kernel_rfl,by kernel_rfl,by kernel_rfl⟩
theorem sign_facts {c:Int} (h:signZ c=true):goesZ c=false∧c≠45∧c≠32∧c≠9:=by
  simp only[signZ,signs,List.any_cons,List.any_nil,Bool.or_eq_true,decide_eq_true_eq,Bool.false_eq_true,or_false] at h
  rcases h with h | h | h | h | h | h | h | h | h | h | h | h | h | h<;>subst h<;>exact⟨by decide,by decide,by decide,by decide⟩
theorem lexF_p {n p:Nat} {c:UInt8} {r:List UInt8} {acc:List Tok}:lexF (n+1) p (c::r) acc =
    if c.toNat=32∨c.toNat=9 then lexF n (p+1) r acc
    else if c.toNat=45∧(r.head?.map UInt8.toNat)=some 45 then (acc,none)
    else if signZ (c.toNat:Nat)=true then lexF n (p+1) r (acc++[⟨(c.toNat:Nat),[c],p⟩])
    else if nameR (runR (c::r))=true then lexF n (p+(runR (c::r)).length) ((c::r).drop (runR (c::r)).length) (acc++[⟨97,runR (c::r),p⟩])
    else ([],some p):=by
  simp only[lexF]
  by_cases hb:c.toNat=32∨c.toNat=9
  · have h1:goesB c=false:=by
      simp only[goesB]
      rcases hb with h | h<;>rw[h]<;>decide
    have h2:signZ (c.toNat:Nat)=false:=by rcases hb with h | h<;>rw[h]<;>decide
    have h3:¬c.toNat=45:=by omega
    simp[hb,h2,h3,runR_no h1]
  · rw[if_neg hb];split
    · rfl
    · cases hs:signZ (c.toNat:Nat)
      · by_cases hn:nameR (runR (c::r))=true
        · have:0<(runR (c::r)).length:=by
            cases hq:runR (c::r) with
            | nil=>rw[hq] at hn;simp[nameR] at hn
            | cons _ _=>simp
          simp[hn,this]
        · simp[hn]
      · have h1:goesB c=false:=(sign_facts hs).1;simp[runR_no h1]
theorem goesP_calls (c:Int) (σ:Store):PCalls prog 96 [.int .u8 c] σ fun v σ' => v = .bool (goesZ c)∧σ' = σ:=by
  refine fn96.calls ?_;simp only[slots,ac96,am,ams]
  repeat' (first
    | (refine gL_split (fun h=>?_) (fun h=>?_)<;>simp only[am,h])
    | (refine vcIf_split (fun h=>?_) (fun h=>?_)<;>simp only[z13_,h,Nat.reduceAdd,Nat.reduceEqDiff,List.length_map])
    | (refine pickL_split (fun h=>?_) (fun h=>?_)<;>simp only[z13_,h,Nat.reduceAdd,Nat.reduceEqDiff,List.length_map])
  )
  all_goals refine retS ?_
  all_goals simp_all [V.erase,goesZ,letZ]
  all_goals (try omega)
theorem signP_calls (c:Int) (σ:Store):PCalls prog 98 [.int .u8 c] σ fun v σ' => v = .bool (signZ c)∧σ' = σ:=by
  refine fn98.calls ?_;simp only[slots,ac98,am,ams]
  repeat' (first
    | (refine gL_split (fun h=>?_) (fun h=>?_)<;>simp only[z13_,h,Nat.reduceAdd,Nat.reduceEqDiff,List.length_map])
    | (refine vcIf_split (fun h=>?_) (fun h=>?_)<;>simp only[am,h])
    | (refine pickL_split (fun h=>?_) (fun h=>?_)<;>simp only[z13_,h,Nat.reduceAdd,Nat.reduceEqDiff,List.length_map])
  )
  all_goals refine retS ?_
  all_goals simp_all [V.erase,signZ,signs]
  all_goals (try omega)
theorem comment_calls (s:List UInt8) (a:Nat) (σ:Store) (ha:a<s.length) (hb:s.length≤big):PCalls prog 97 [.str s,.int .i64 (a:Nat)] σ fun v σ' => v = .bool (decide (s[a].toNat=45∧(s.drop (a+1)).head?.map UInt8.toNat=some 45))∧σ' = σ:=by
  simp only[big] at hb;have w1:IntKind.i64.wrap ((a:Int)+1)=((a+1:Nat):Int):=by rw[wrap_i64 (by omega) (by omega)];simp
  have hh:(s.drop (a+1)).head?.map UInt8.toNat=if h:a+1<s.length then some s[a+1].toNat else none:=by
    by_cases h:a+1<s.length
    · rw[dif_pos h,drop_cons h];rfl
    · rw[dif_neg h,List.drop_eq_nil_of_le (by omega)];rfl
  rw[hh];refine fn97.calls ?_;simp only[slots,ac97,am,ams,Nat.reduceAdd];refine idxSL_intro (by omega) (str_at ha) ?_;simp only[am]
  by_cases h45:s[a].toNat=45
  · simp only[am,decide_eq_true (show ((s[a].toNat:Nat):Int)=45 by omega),w1]
    by_cases hl:a+1<s.length
    · simp only[am,decide_eq_true (show ((a+1:Nat):Int)<s.length by omega),w1];refine idxSL_intro (by omega) (str_at hl) ?_;simp only[am];refine retS ?_;simp[V.erase,h45,hl];omega
    · simp only[am,decide_eq_false (show ¬((a+1:Nat):Int)<s.length by omega)];refine retS ?_;simp[V.erase,hl]
  · simp only[am,decide_eq_false (show ¬((s[a].toNat:Nat):Int)=45 by omega)];refine retS ?_;simp[V.erase,h45]
def inv47 (s:List UInt8) (σ:Store) (p a n:Nat):St:=⟨[.int .i64 ((a+n:Nat):Int),.ptr (.out p) 0]++List.replicate 15 .any,[],σ⟩
theorem end_calls {s:List UInt8} {p a:Nat} {σ:Store} (hp:σ.box p=some [.str s]) (ha:a≤s.length) (hb:s.length≤big):PCalls prog 95 [.int .i64 (a:Nat),.ptr (.out p) 0] σ fun v σ' => v = .int .i64 ((a+(runR (s.drop a)).length:Nat):Int)∧σ' = σ:=by
  simp only[big] at hb;refine fn95.calls ?_;simp only[slots,ac95,am,ams,Nat.reduceAdd];refine vc_loop (fun q:{n:Nat // a+n≤s.length∧((s.drop a).take n).all goesB=true}=>inv47 s σ p a q.1) (fun q=>s.length - q.1) ?_ ?_
  · refine Upd.enter ⟨0,by simpa using ha,by simp⟩ ?_ LLLe.rfl OLe.rfl;simp[inv47,List.replicate,am]
  · rintro⟨n,hn,hall⟩;simp only[inv47,List.replicate,am,hp];have w1:IntKind.i64.wrap (((a+n:Nat):Int)+1)=((a+(n+1):Nat):Int):=by rw[wrap_i64 (by omega) (by omega)];omega
    by_cases hlt:a+n<s.length
    · simp only[am,decide_eq_true (show ((a+n:Nat):Int)<s.length by omega),hp];refine idxSL_intro (by omega) (str_at hlt) ?_;simp only[am];refine cl (goesP_calls s[a+n].toNat σ) ?_;cases hg:goesZ (s[a+n].toNat:Nat)
      · simp only[am];refine retK_intro rfl (Store.sub_refl _) ⟨?_,rfl⟩;simp[V.erase,runR_at hall hn (fun _=>hg)]
      · simp only[am,w1];refine Upd.again ⟨n+1,by omega,?_⟩ (by simp;omega) (by simp[am]) LLLe.rfl OLe.rfl;have hd:n<(s.drop a).length:=by simp;omega
        rw[all_take_succ hd,hall];simp only[Bool.true_and,List.getElem_drop];exact hg
    · simp only[am,decide_eq_false (show ¬((a+n:Nat):Int)<s.length by omega)];refine retK_intro rfl (Store.sub_refl _) ⟨?_,rfl⟩;simp[V.erase,runR_at hall hn (fun h=>absurd h hlt)]
end Go.Proofs.Tryz

namespace Go.Proofs.Tryz
open Go.Am
set_option maxRecDepth 4000
set_option maxHeartbeats 4000000
def ac44:AC:=.seq (.reg [⟨(some 1),.boxO 1 (.s 0),none⟩,⟨(some 2),.mv (.c (.sl .full 3 [])),none⟩,⟨(some 3),.alloc [(.int .i64 0),(.int .i64 0)],none⟩])
 (.scope (.seq (.reg [⟨(some 9),.mkfn (.func 95) [] [(.s 1)],none⟩,xm 4 9])
 (.seq (.reg [⟨(some 5),.mv (.c (.sl .full 3 [])),none⟩])
 (.seq (.reg [xi 6 0])
 (.seq (.skip)
 (.seq (.block 0 (.loop (.seq (.seq (.reg [xm 10 6,xo 11 1,xT 12 11,xb .lss 13 10 12])
 (.cond (.s 13) (.skip)
 (.exit 0)))
 (.block 1 (.seq (.reg [xo 14 1,xm 15 6,xS 16 14 15,xm 7 16])
 (.seq (.block 2 (.seq (.reg [xm 18 7,xu .eql 19 18 32,xm 20 19,xh 20 (xm 21 7),xh 20 (xu .eql 22 21 9),⟨(some 23),.pick (.s 20) (.c (.bool true)) (.s 22),none⟩,xm 17 23])
 (.cond (.s 17) (.seq (.reg [xm 24 6,xB .add 25 24 1,xm 6 25])
 (.exit 1))
 (.seq (.reg [xo 27 1,xm 28 6,xc 97 29 [.s 27,.s 28],xm 26 29])
 (.cond (.s 26) (.exit 0)
 (.seq (.reg [xm 31 7,xc 98 32 [.s 31],xm 30 32])
 (.cond (.s 30) (.seq (.reg [xm 33 5,xm 34 7,xo 35 1,xm 36 6,xm 37 6,xB .add 38 37 1,⟨(some 39),.slS (.s 35) (some (.s 36)) (some (.s 38)),none⟩,xm 40 6,⟨(some 41),.build [(.int .u8 0),(.str []),(.int .i64 0)] [(0,1,(.s 34)),(1,1,(.s 39)),(2,1,(.s 40))],none⟩,⟨(some 42),.bslice 3 [(.s 41)],none⟩,xa 3 43 33 42,xm 5 43])
 (.seq (.reg [xm 44 6,xB .add 45 44 1,xm 6 45])
 (.exit 1)))
 (.skip))))))))
 (.seq (.reg [xm 46 4,xm 47 6,⟨(some 48),.callv (.s 46) [(.s 47)],none⟩,xm 8 48])
 (.seq (.seq (.reg [xo 49 1,xm 50 6,xm 51 8,⟨(some 52),.slS (.s 49) (some (.s 50)) (some (.s 51)),none⟩,xc 99 53 [.s 52],⟨(some 54),.not (.s 53),none⟩])
 (.cond (.s 54) (.seq (.reg [xm 55 6,⟨(some 56),.build [(.int .i64 0),(.int .i64 0)] [(0,1,(.c (.int .i64 1))),(1,1,(.s 55))],none⟩,⟨(some 2),.mv (.c (.sl .full 3 [])),none⟩,xs 2 3 56])
 (.ret))
 (.skip)))
 (.seq (.reg [xm 57 5,xo 58 1,xm 59 6,xm 60 8,⟨(some 61),.slS (.s 58) (some (.s 59)) (some (.s 60)),none⟩,xm 62 6,⟨(some 63),.build [(.int .u8 0),(.str []),(.int .i64 0)] [(0,1,(.c (.int .u8 97))),(1,1,(.s 61)),(2,1,(.s 62))],none⟩,⟨(some 64),.bslice 3 [(.s 63)],none⟩,xa 3 65 57 64,xm 5 65])
 (.reg [xm 66 8,xm 6 66]))))))))))
 (.seq (.reg [xm 67 5,⟨(some 68),.build [(.int .i64 0),(.int .i64 0)] [],none⟩,xm 2 67,xs 2 3 68])
 (.ret))))))))
theorem fn44:IsFn prog 44 ac44 [.tmp 2,.cell 3 true 2] 69:=⟨f44,⟨[1],[],[]⟩,func44,by kernel_rfl,by kernel_rfl,by kernel_rfl,by kernel_rfl⟩
abbrev LexI (s:List UInt8) (σ:Store) (p:Nat) (R:List Tok × Option Int):={q:Nat × Nat × Nat × List Tok // (σ.set p [.str s]).tip q.2.2.1=none∧lexF q.1 q.2.1 (s.drop q.2.1) q.2.2.2=R∧q.2.2.2.length≤q.2.1∧q.2.1≤s.length∧s.length≤q.2.1+q.1}
def inv16 (s:List UInt8) (σ:Store) (p a τ:Nat) (acc:List Tok):St :=
  ⟨[.str s,.ptr (.out p) 0,.any,.ptr (.loc 0) 0,.fn (.func 95) [] [.ptr (.out p) 0],.sl (.tk τ) 3 (acc.map Tok.enc),.int .i64 (a:Nat)]++List.replicate 62 .any,[[.int .i64 0,.int .i64 0]],(σ.set p [.str s]).setTip τ acc.length⟩
theorem lexP_calls (s:List UInt8) (σ:Store) (hb:s.length+1≤big):PCalls prog 44 [.str s] σ fun v σ' => v = .tup [.sl .no 3 ((lexR s).1.map Tok.enc),badL (lexR s).2]∧σ' = σ:=by
  simp only[big] at hb;generalize hR:lexR s=R;refine fn44.calls ?_;simp only[slots,ac44,am,ams];refine kO_intro fun p hp=>?_
  simp only[am,amc];have hbox:∀τ m,((σ.set p [.str s]).setTip τ m).box p=some [.str s]:=fun τ m=>by simp[Store.setTip,Store.set]
  have hsub:∀τ m,(σ.set p [.str s]).tip τ=none→σ.sub ((σ.set p [.str s]).setTip τ m):=fun τ m h=>Store.subT (sub_set hp) (sub_tip h)
  refine vc_loop (fun q:LexI s σ p R=>inv16 s σ p q.1.2.1 q.1.2.2.1 q.1.2.2.2) (fun q=>s.length - q.1.2.1) ?_ ?_
  · refine Upd.tokEnter 0 fun τ hτ=>⟨⟨(s.length,0,τ,[]),hτ,hR,by simp,by simp,by simp⟩,?_,rfl,rfl⟩
    simp[inv16,List.replicate,lto]
  · rintro⟨⟨n,a,τ,acc⟩,hτ,hR,h1,h2,h3⟩;simp only at hτ hR h1 h2 h3;simp only[inv16,List.replicate,am];refine vcIf_split ?_ ?_
    · intro hlt;have hlt:a<s.length:=by simpa using hlt
      obtain⟨m,rfl⟩:∃m,n=m+1:=⟨n - 1,by omega⟩;rw[drop_cons hlt] at hR;rw[lexF_p,←drop_cons hlt] at hR;have hrun:=runR_le (s:=s) (a:=a);have w1:IntKind.i64.wrap ((a:Int)+1)=((a+1:Nat):Int):=by rw[wrap_i64 (by omega) (by omega)];simp
      have again:∀(b:Nat) (acc' : List Tok) (t:List V) (l:List (List V)),lexF m b (s.drop b) acc' = R→acc'.length≤b→a<b→b≤s.length →
          LLe t (inv16 s σ p b τ acc').t→l=[[.int .i64 0,.int .i64 0]] →
          Upd ⟨t,l,(σ.set p [.str s]).setTip τ acc'.length⟩ fun st' => ∃j:LexI s σ p R,st' = inv16 s σ p j.1.2.1 j.1.2.2.1 j.1.2.2.2∧s.length - j.1.2.1<s.length - a:=fun b acc' t l e1 e2 e3 e4 e5 e6=>by
        refine Upd.again (μ:=fun q:LexI s σ p R=>s.length - q.1.2.1) (I:=fun q=>inv16 s σ p q.1.2.1 q.1.2.2.1 q.1.2.2.2) ⟨(m,b,τ,acc'),hτ,e1,e2,e4,by simp only;omega⟩ (by simp;omega) e5 (by rw[e6];exact LLLe.rfl) OLe.rfl
      simp only[am];refine idxSL_intro (by omega) (str_at hlt) ?_;simp only[am]
      by_cases hbl:s[a].toNat=32∨s[a].toNat=9
      · rw[if_pos hbl] at hR
        by_cases h32:s[a].toNat=32
        case' pos=>simp only[am,amc,Nat.reduceAdd,Nat.reduceEqDiff,decide_eq_true (show ((s[a].toNat:Nat):Int)=32 by omega),w1]
        case' neg=>simp only[am,amc,Nat.reduceAdd,Nat.reduceEqDiff,decide_eq_false (show ¬((s[a].toNat:Nat):Int)=32 by omega),decide_eq_true (show ((s[a].toNat:Nat):Int)=9 by omega),w1]
        all_goals exact again (a+1) acc _ _ hR (by omega) (by omega) (by omega) (by simp[inv16,List.replicate,am]) rfl
      · rw[if_neg hbl] at hR;simp only[am,decide_eq_false (show ¬((s[a].toNat:Nat):Int)=32 by omega),decide_eq_false (show ¬((s[a].toNat:Nat):Int)=9 by omega)];refine(comment_calls s a _ hlt (by simp only[big];omega)).mono ?_;rintro v σ' ⟨rfl,rfl⟩
        by_cases hcm:s[a].toNat=45∧(s.drop (a+1)).head?.map UInt8.toNat=some 45
        · rw[if_pos hcm] at hR;simp only[am,amc,Nat.reduceAdd,Nat.reduceEqDiff,decide_eq_true hcm];refine retK_intro rfl (hsub τ _ hτ) ⟨?_,rfl⟩;simp[V.erase,eraseL,←hR,badL,badA]
        · rw[if_neg hcm] at hR;simp only[am,decide_eq_false hcm];refine(signP_calls (s[a].toNat:Nat) _).mono ?_;rintro v σ' ⟨rfl,rfl⟩;cases hsg:signZ (s[a].toNat:Nat)
          · rw[if_neg (by simp[hsg])] at hR;simp only[am];refine(end_calls (s:=s) (hbox τ _) (by omega) (by simp only[big];omega)).mono ?_;rintro v σ' ⟨rfl,rfl⟩;simp only[am,amc];refine slSL_intro (by omega) (by omega) ?_;rw[cut_run];simp only[am];refine(nright_calls (runR (s.drop a)) _).mono ?_;rintro v σ' ⟨rfl,rfl⟩;cases hnr:nameR (runR (s.drop a))
            · rw[if_neg (by simp[hnr])] at hR;simp only[am,amc,Nat.reduceAdd];refine retK_intro rfl (hsub τ _ hτ) ⟨?_,rfl⟩;simp[V.erase,eraseL,←hR,badL,badA]
            · rw[if_pos hnr] at hR;have hN:0<(runR (s.drop a)).length:=by
                cases hq:runR (s.drop a) with
                | nil=>rw[hq] at hnr;simp[nameR] at hnr
                | cons _ _=>simp
              simp only[am,amc];refine slSL_intro (by omega) (by omega) ?_;rw[cut_run];simp only[am,Nat.reduceAdd];refine app_tk (by simp[big];omega) (by rw[List.length_map,setTip_tip_same]) ?_;simp only[am,List.length_map,setTip_setTip];have e:acc.length+1=(acc++[(⟨97,runR (s.drop a),a⟩:Tok)]).length:=by simp
              rw[e];rw[List.drop_drop] at hR;exact again (a+(runR (s.drop a)).length) _ _ _ hR (by simp;omega) (by omega) (by omega) (by simp[inv16,List.replicate,am,Tok.enc]) rfl
          · rw[if_pos hsg] at hR;simp only[am,amc,w1];refine slSL_intro (by omega) (by omega) ?_;rw[cut_one hlt];simp only[am,Nat.reduceAdd];refine app_tk (by simp[big];omega) (by rw[List.length_map,setTip_tip_same]) ?_;simp only[am,amc,Nat.reduceAdd,Nat.reduceEqDiff,List.length_map,setTip_setTip,w1];have e:acc.length+1=(acc++[(⟨(s[a].toNat:Nat),[s[a]],a⟩:Tok)]).length:=by simp
            rw[e];exact again (a+1) _ _ _ hR (by simp;omega) (by omega) (by omega) (by simp[inv16,List.replicate,am,Tok.enc]) rfl
    · intro hlt;have hlt:a=s.length:=by simp at hlt;omega
      subst hlt;rw[List.drop_length] at hR;have hR' : (acc,none)=R:=by cases n<;>simpa [lexF] using hR
      simp only[am,amc,Nat.reduceAdd];refine retK_intro rfl (hsub τ _ hτ) ⟨?_,rfl⟩;simp[V.erase,eraseL,←hR',badL,badA]
end Go.Proofs.Tryz

namespace Go.Proofs.Tryz
open Go.Am
set_option maxRecDepth 4000
set_option maxHeartbeats 4000000
def ac45:AC:=.seq (.reg [⟨(some 2),.mv (.c (.sl .full 5 [])),none⟩,⟨(some 3),.alloc [(.int .i64 0),(.int .i64 0)],none⟩])
 (.seq (.reg [⟨(some 4),.mv (.c (.sl .full 4 [])),none⟩])
 (.seq (.reg [⟨(some 5),.mv (.c (.sl .full 5 [])),none⟩])
 (.seq (.seq (.reg [xm 11 0,xL 12 11,xi 13 0])
 (.block 0 (.loop (.seq (.reg [xb .lss 14 13 12])
 (.seq (.cond (.s 14) (.skip)
 (.exit 0))
 (.seq (.block 1 (.seq (.reg [xA 3 15 11 13,xl 3 16 15,⟨(some 7),.alloc [(.int .u8 0),(.str []),(.int .i64 0)],none⟩,xs 3 7 16])
 (.seq (.reg [xm 17 4,xL 18 17,xm 8 18])
 (.block 2 (.seq (.reg [xf 0 27 7,xo 28 27,xc 100 29 [.s 28],xu .neq 30 29 0,xm 26 30])
 (.cond (.s 26) (.seq (.seq (.reg [xm 31 8,xB .geq 32 31 24])
 (.cond (.s 32) (.seq (.reg [xl 3 33 7,xc 101 34 [.s 33],xe 35 34 0,xe 36 34 1,xm 2 35,xs 2 3 36])
 (.ret))
 (.skip)))
 (.seq (.reg [xm 37 4,xl 3 38 7,xm 39 5,⟨(some 40),.build [(.int .u8 0),(.str []),(.int .i64 0),(.sl .full 5 [])] [(0,3,(.s 38)),(3,1,(.s 39))],none⟩,⟨(some 41),.own (.keep 4) [(.s 40)],none⟩,xa 4 42 37 41,xm 4 42])
 (.reg [⟨(some 5),.mv (.c (.sl .full 5 [])),none⟩])))
 (.seq (.reg [xf 0 44 7,xo 45 44,xc 102 46 [.s 45],xm 43 46])
 (.cond (.s 43) (.seq (.seq (.draw [(xm 47 8,[]),(xB .eql 48 47 0,[]),(xm 49 48,[]),(xh 49 (xm 50 4),[]),(xh 49 (xm 51 8),[]),(xh 49 (xB .sub 52 51 1),[]),(xh 49 (xA 4 53 50 52),[]),(xh 49 (xf 0 54 53),[]),(xh 49 (xf 0 55 54),[]),(xh 49 (xo 56 55),[]),(xh 49 (xc 100 57 [.s 56]),[]),(xh 49 (xf 0 58 7),[]),(xh 49 (xo 59 58),[0]),(xh 49 (xb .neq 60 57 59),[]),(⟨(some 61),.pick (.s 49) (.c (.bool true)) (.s 60),none⟩,[])])
 (.cond (.s 61) (.seq (.reg [xl 3 62 7,xc 101 63 [.s 62],xe 64 63 0,xe 65 63 1,xm 2 64,xs 2 3 65])
 (.ret))
 (.skip)))
 (.seq (.reg [xm 66 4,xm 67 8,xB .sub 68 67 1,xA 4 69 66 68,xl 4 70 69,⟨(some 9),.alloc [(.int .u8 0),(.str []),(.int .i64 0),(.sl .full 5 [])],none⟩,xs 4 9 70])
 (.seq (.reg [xm 71 4,xm 72 8,xB .sub 73 72 1,xm 74 8,xB .sub 75 74 1,⟨(some 76),.slc 4 (.s 71) none (some (.s 73)) (some (.s 75)),none⟩,xm 4 76])
 (.reg [xf 3 77 9,xo 78 77,xf 0 79 9,xl 3 80 79,xm 81 5,xf 2 82 7,xo 83 82,⟨(some 84),.build [(.int .u8 0),(.str []),(.int .i64 0),(.sl .full 5 []),(.int .i64 0)] [(0,3,(.s 80)),(3,1,(.s 81)),(4,1,(.s 83))],none⟩,⟨(some 85),.bslice 5 [(.s 84)],none⟩,xa 5 86 78 85,xm 5 86]))))
 (.reg [xm 19 5,xl 3 20 7,xf 2 21 7,xo 22 21,⟨(some 23),.build [(.int .u8 0),(.str []),(.int .i64 0),(.sl .full 5 []),(.int .i64 0)] [(0,3,(.s 20)),(4,1,(.s 22))],none⟩,⟨(some 24),.bslice 5 [(.s 23)],none⟩,xa 5 25 19 24,xm 5 25])))))))))
 (.reg [xB .add 87 13 1,xm 13 87])))))))
 (.seq (.seq (.reg [xm 88 4,xL 89 88,xm 10 89])
 (.seq (.reg [xm 90 10,xB .gtr 91 90 0])
 (.cond (.s 91) (.seq (.reg [xm 92 4,xm 93 10,xB .sub 94 93 1,xA 4 95 92 94,xf 0 96 95,xl 3 97 96,xc 101 98 [.s 97],xe 99 98 0,xe 100 98 1,xm 2 99,xs 2 3 100])
 (.ret))
 (.skip))))
 (.seq (.reg [xm 101 5,⟨(some 102),.build [(.int .i64 0),(.int .i64 0)] [],none⟩,xm 2 101,xs 2 3 102])
 (.ret))))))
theorem fn45:IsFn prog 45 ac45 [.tmp 2,.cell 3 true 2] 103:=⟨f45,⟨[41],[],[]⟩,func45,by kernel_rfl,by kernel_rfl,by kernel_rfl,by kernel_rfl⟩
def ac100:AC:=.seq (.reg [⟨(some 2),.mv (.c (.int .u8 0)),none⟩])
 (.seq (.reg [⟨(some 3),.mv (.c (.int .u8 0)),none⟩])
 (.seq (.seq (.reg [xm 4 0])
 (.block 0 (.seq (.block 2 (.seq (.block 1 (.seq (.seq (.seq (.seq (.reg [xu .eql 6 4 123,xm 5 6])
 (.cond (.s 5) (.skip)
 (.reg [xu .eql 7 4 91,xm 5 7])))
 (.cond (.s 5) (.exit 1)
 (.skip)))
 (.seq (.reg [xu .eql 9 4 40,xm 8 9])
 (.cond (.s 8) (.exit 2)
 (.skip))))
 (.exit 0)))
 (.reg [xm 10 3,xu .add 11 10 1,xm 3 11])))
 (.seq (.seq (.reg [xm 12 0,xu .add 13 12 1,xm 14 3,xb .add 15 13 14,xm 2 15])
 (.ret))
 (.exit 0)))))
 (.seq (.reg [⟨(some 2),.mv (.c (.int .u8 0)),none⟩])
 (.ret))))
theorem fn100:IsFn prog 100 ac100 [.tmp 2] 16:=⟨f100,⟨[],[],[]⟩,func100,by kernel_rfl,by kernel_rfl,by kernel_rfl,by kernel_rfl⟩
def ac101:AC:=.seq (.reg [⟨(some 1),.box 3 (.s 0),none⟩,⟨(some 2),.mv (.c (.sl .full 5 [])),none⟩,⟨(some 3),.alloc [(.int .i64 0),(.int .i64 0)],none⟩])
 (.seq (.draw [(xf 2 4 1,[]),(xo 5 4,[]),(⟨(some 6),.build [(.int .i64 0),(.int .i64 0)] [(0,1,(.c (.int .i64 2))),(1,1,(.s 5))],none⟩,[]),(⟨(some 2),.mv (.c (.sl .full 5 [])),none⟩,[]),(xs 2 3 6,[])])
 (.ret))
theorem fn101:IsFn prog 101 ac101 [.tmp 2,.cell 3 true 2] 7:=⟨f101,⟨[],[],[]⟩,func101,by kernel_rfl,by kernel_rfl,by kernel_rfl,by kernel_rfl⟩
def ac102:AC:=.seq (.reg [⟨(some 2),.mv (.c (.bool false)),none⟩])
 (.seq (.reg [xm 3 0,xu .eql 4 3 41,xm 5 4,xh 5 (xm 6 0),xh 5 (xu .eql 7 6 125),⟨(some 8),.pick (.s 5) (.c (.bool true)) (.s 7),none⟩,xm 9 8,xh 9 (xm 10 0),xh 9 (xu .eql 11 10 93),⟨(some 12),.pick (.s 9) (.c (.bool true)) (.s 11),none⟩,xm 2 12])
 (.ret))
theorem fn102:IsFn prog 102 ac102 [.tmp 2] 13:=⟨f102,⟨[],[],[]⟩,func102,by kernel_rfl,by kernel_rfl,by kernel_rfl,by kernel_rfl⟩
theorem closer_calls (c:Int) (σ:Store):PCalls prog 100 [.int .u8 c] σ fun v σ' => v = .int .u8 (closing c)∧σ' = σ:=by
  refine fn100.calls ?_;simp only[slots,ac100,am,ams]
  by_cases h1:c=123
  · subst h1;simp only[am,Nat.reduceEqDiff,decide_true];refine retS ?_;simp[V.erase];rfl
  · simp only[am,decide_eq_false h1]
    by_cases h2:c=91
    · subst h2;simp only[am,Nat.reduceEqDiff,decide_true];refine retS ?_;simp[V.erase];rfl
    · simp only[am,decide_eq_false h2]
      by_cases h3:c=40
      · subst h3;simp only[am,Nat.reduceEqDiff,decide_true];refine retS ?_;simp[V.erase];rfl
      · simp only[am,Nat.reduceEqDiff,decide_eq_false h3];refine retS ?_;simp[V.erase,closing,h1,h2,h3]
theorem closesP_calls (c:Int) (σ:Store):PCalls prog 102 [.int .u8 c] σ fun v σ' => v = .bool (closesZ c)∧σ' = σ:=by
  refine fn102.calls ?_;simp only[slots,ac102,am,ams]
  repeat' (first
    | (refine gL_split (fun h=>?_) (fun h=>?_)<;>simp only[am,h])
    | (refine vcIf_split (fun h=>?_) (fun h=>?_)<;>simp only[z13_,h,Nat.reduceAdd,Nat.reduceEqDiff,List.length_map])
    | (refine pickL_split (fun h=>?_) (fun h=>?_)<;>simp only[z13_,h,Nat.reduceAdd,Nat.reduceEqDiff,List.length_map])
  )
  all_goals refine retS ?_
  all_goals simp_all [V.erase,closesZ]
  all_goals (try omega)
theorem bad_calls (t:Tok) (σ:Store):PCalls prog 101 [.agg t.enc] σ fun v σ' => v = .tup [.sl .no 5 [],fenc (some t.pos)]∧σ' = σ:=by
  refine fn101.calls ?_;simp only[slots,ac101,am,ams,Tok.enc,am];refine retS ?_;simp[V.erase,eraseL,fenc,badC,badA]
structure Lvl where
  tok:Tok
  tk:Tk
  ahead:List Tree
def Lvl.enc (x:Lvl):List V:=[.int .u8 x.tok.kind,.str x.tok.text,.int .i64 x.tok.pos,.sl x.tk 5 (encs x.ahead)]
def Lvl.pair (x:Lvl):Tok × List Tree:=(x.tok,x.ahead)
def Lvl.tn (x:Lvl):Tk × Nat:=(x.tk,(encs x.ahead).length)
structure TrI where
  i:Nat
  tkO:Tk
  op:List Lvl
  tkR:Tk
  row:List Tree
  τ:Store
def inv17 (l:List Tok) (q:TrI):St :=
  ⟨[.sl .no 3 (l.map Tok.enc),.any,.any,.ptr (.loc 0) 0,.sl q.tkO 4 (q.op.map Lvl.enc),.sl q.tkR 5 (encs q.row)]++List.replicate 5 .any++[.sl .no 3 (l.map Tok.enc),.int .i64 l.length,.int .i64 (q.i:Nat)]++List.replicate 89 .any,[[.int .i64 0,.int .i64 0]],q.τ⟩
def TreeOk (l:List Tok) (σ:Store) (R:List Tree × Option Int) (q:TrI):Prop :=
  q.i≤l.length∧treeP (l.drop q.i) (q.op.map Lvl.pair) q.row=R∧Toks σ q.τ ((q.tkO,(q.op.map Lvl.enc).length)::(q.tkR,(encs q.row).length)::q.op.map Lvl.tn)∧q.op.length≤q.i∧q.row.length≤q.i∧∀x∈q.op,x.ahead.length+1≤q.i
theorem snoc_cases {α:Type} (l:List α):l=[]∨∃ys x,l=ys++[x]:=by
  rcases List.eq_nil_or_concat l with h | ⟨ys,x,h⟩
  · exact .inl h
  · exact .inr ⟨ys,x,by rw[h];simp⟩
theorem treeP_calls (l:List Tok) (σ:Store) (hb:l.length+1≤big):PCalls prog 45 [.sl .no 3 (l.map Tok.enc)] σ fun v σ' => v = .tup [.sl .no 5 (encs (treeP l [] []).1),fenc (treeP l [] []).2]∧σ' = σ:=by
  simp only[big] at hb;generalize hR:treeP l [] []=R;refine fn45.calls ?_;simp only[slots,ac45,am,ams];refine vc_loop (fun q:{q:TrI // TreeOk l σ R q}=>inv17 l q.1) (fun q=>l.length - q.1.i) ?_ ?_
  · refine Upd.enter ⟨⟨0,.full,[],.full,[],σ⟩,by simp,hR,Toks.init (by simp),by simp,by simp,by simp⟩ ?_ LLLe.rfl OLe.rfl;simp[inv17,List.replicate,am,encs]
  · rintro⟨⟨i,tkO,op,tkR,row,τ⟩,h1,hR,hT,hb1,hb2,hb3⟩;simp only at h1 hR hT hb1 hb2 hb3;simp only[inv17,List.replicate,am];refine vcIf_split ?_ ?_
    · intro hlt;have hlt:i<l.length:=by simpa using hlt
      rw[List.drop_eq_getElem_cons hlt] at hR;have htok:tokN l i=l[i]:=by simp[tokN,hlt]
      rw[←htok] at hR;generalize ht:tokN l i=t at hR;have wi:IntKind.i64.wrap ((i:Int)+1)=((i+1:Nat):Int):=by rw[wrap_i64 (by omega) (by omega)];simp
      have again:∀(q:TrI) (t:List V) (m:List (List V)),TreeOk l σ R q→q.i=i+1→LLe t (inv17 l q).t→LLLe (m.take 1) [[.int .i64 0,.int .i64 0]] →
          Upd ⟨t,m,q.τ⟩ fun st' => ∃j:{q:TrI // TreeOk l σ R q},st' = inv17 l j.1∧l.length - j.1.i<l.length - i:=fun q t m hq hi ht hm=>by
        refine Upd.againD (I:=fun q:{q:TrI // TreeOk l σ R q}=>inv17 l q.1) (μ:=fun q=>l.length - q.1.i) ⟨q,hq⟩ (by simp only;omega) ht hm OLe.rfl (by simp[inv17,List.replicate,loL,V.lo]) (by simp[inv17,loLL,loL,V.lo])
      simp only[am];refine idxL_intro (by omega) (tencs_at hlt) ?_;rw[ht];simp only[am,Nat.reduceAdd,List.length_map,Tok.enc];refine(closer_calls t.kind _).mono ?_;rintro v σ' ⟨rfl,rfl⟩;simp only[treeP] at hR
      by_cases hc:closing t.kind=0
      · rw[if_neg (by simp[hc])] at hR;simp only[am,decide_eq_true hc];refine(closesP_calls t.kind _).mono ?_;rintro v σ' ⟨rfl,rfl⟩;cases hcl:closesZ t.kind
        · rw[hcl] at hR;simp only[Bool.false_eq_true,if_false] at hR;simp only[am,Nat.reduceAdd];refine app_any (hT.perm (List.Perm.swap _ _ _)) (by rw[encs_length];simp[big];omega) fun υ hυ=>?_
          simp only[encs_length,List.length_map,List.length_cons,List.length_nil,Nat.zero_add] at hυ;simp only[am,encs_length,wi];have e:encs row++[[V.int .u8 t.kind,.str t.text,.int .i64 t.pos,.sl .no 5 [],.int .i64 t.pos]]=encs (row++[.mk t [] t.pos]):=by simp[encs_map,Tree.enc,encs]
          rw[e];refine again ⟨i+1,tkO,op,.tk υ,row++[.mk t [] t.pos],σ'.setTip υ (row.length+1)⟩ _ _ ⟨hlt,hR,?_,by simp only;omega,by simp;omega,fun x hx=>by have:=hb3 x hx;simp only;omega⟩ rfl (by simp[inv17,List.replicate,am]) (by simp[am]);refine Toks.perm ?_ (List.Perm.swap _ _ _);simpa [encs_length] using hυ
        · rw[hcl] at hR;simp only[if_true] at hR
          rcases snoc_cases op with rfl | ⟨ys,x,rfl⟩
          · simp only[List.map_nil,List.getLast?_nil] at hR;simp only[am,List.map_nil,List.length_nil,show decide (((0:Nat):Int)=0)=true from rfl];refine(bad_calls t _).mono ?_;rintro v σ' ⟨rfl,rfl⟩;simp only[am,Nat.reduceAdd,fenc];refine retK_intro rfl hT.1 ⟨?_,rfl⟩;simp[V.erase,eraseL,←hR,badC,badA,encs]
          · have hne:¬(((ys++[x]).length:Nat):Int)=0:=by simp;omega
            have wn:IntKind.i64.wrap ((((ys++[x]).length:Nat):Int) - 1)=(ys.length:Nat):=by rw[wrap_i64 (by simp<;>omega) (by simp at hb1 ⊢<;>omega)];simp
            have hat:((ys++[x]).map Lvl.enc)[((ys.length:Nat):Int).toNat]?=some x.enc:=by simp
            simp only[List.map_append,List.map_cons,List.map_nil,List.getLast?_concat,List.dropLast_concat,Lvl.pair] at hR;simp only[am,decide_eq_false hne,wn];refine idxL_intro (by omega) (hat) ?_;simp only[am,Lvl.enc];refine CallD.intro (closer_calls x.tok.kind _) ?_;simp only[am]
            by_cases hk:closing x.tok.kind=t.kind
            · rw[if_pos hk] at hR;simp only[am,decide_eq_true hk,wn];refine idxL_intro (by omega) (hat) ?_;simp only[am,amc,Nat.reduceAdd,Lvl.enc,wn];refine slcL_full (by simp) ?_;have hT2:Toks σ σ' ((x.tk,(encs x.ahead).length)::ys.map Lvl.tn):=by
                refine(hT.tail.tail).perm ?_;simp only[List.map_append,List.map_cons,List.map_nil,Lvl.tn];exact List.perm_append_singleton _ _
              have hx3:=hb3 x (by simp);simp only[List.length_append,List.length_cons,List.length_nil] at hb1;simp only[am,Nat.reduceAdd];refine app_any hT2 (by rw[encs_length];simp[big];omega) fun υ hυ=>?_
              simp only[encs_length,List.length_cons,List.length_nil,Nat.zero_add] at hυ;simp only[am,encs_length,wi];have e:encs x.ahead++[[V.int .u8 x.tok.kind,.str x.tok.text,.int .i64 x.tok.pos,.sl .no 5 (encs row),.int .i64 t.pos]]=encs (x.ahead++[.mk x.tok row t.pos]):=by simp[encs_map,Tree.enc]
              have e2:((ys++[x]).map Lvl.enc).take ys.length=ys.map Lvl.enc:=by simp
              rw[e,e2];refine again ⟨i+1,.full,ys,.tk υ,x.ahead++[.mk x.tok row t.pos],σ'.setTip υ (x.ahead.length+1)⟩ _ _ ⟨hlt,hR,?_,by simp only;omega,by simp;omega,fun y hy=>by have:=hb3 y (by simp[hy]);simp only;omega⟩ rfl (by simp[inv17,List.replicate,am]) (by simp[am]);refine Toks.full ?_;simpa [encs_length] using hυ
            · rw[if_neg hk] at hR;simp only[am,decide_eq_false hk];refine(bad_calls t _).mono ?_;rintro v σ' ⟨rfl,rfl⟩;simp only[am,Nat.reduceAdd,fenc];refine retK_intro rfl hT.1 ⟨?_,rfl⟩;simp[V.erase,eraseL,←hR,badC,badA,encs]
      · rw[if_pos hc] at hR;simp only[am,decide_eq_false hc];rw[List.length_map] at hR
        by_cases h24:24≤op.length
        · rw[if_pos h24] at hR;simp only[am,decide_eq_true (show (24:Int)≤op.length by omega)];refine(bad_calls t _).mono ?_;rintro v σ' ⟨rfl,rfl⟩;simp only[am,Nat.reduceAdd,fenc];refine retK_intro rfl hT.1 ⟨?_,rfl⟩;simp[V.erase,eraseL,←hR,badC,badA,encs]
        · rw[if_neg h24] at hR;simp only[am,amo,Nat.reduceAdd,decide_eq_false (show ¬(24:Int)≤op.length by omega),own_keep];refine app_any hT (by simp[big];omega) fun υ hυ=>?_
          simp only[List.length_map,List.length_cons,List.length_nil,Nat.zero_add] at hυ;simp only[am,List.length_map,wi];have e:op.map Lvl.enc++[[V.int .u8 t.kind,.str t.text,.int .i64 t.pos,.sl tkR 5 (encs row)]]=(op++[(⟨t,tkR,row⟩:Lvl)]).map Lvl.enc:=by simp[Lvl.enc]
          rw[e];refine again ⟨i+1,.tk υ,op++[⟨t,tkR,row⟩],.full,[],σ'.setTip υ (op.length+1)⟩ _ _ ⟨hlt,by simpa [Lvl.pair] using hR,?_,by simp;omega,by simp,fun x hx=>?_⟩ rfl (by simp[inv17,List.replicate,am,encs]) (by simp[am])
          · simp only[List.length_map,List.length_append,List.length_cons,List.length_nil,Nat.zero_add,List.map_append,List.map_cons,List.map_nil,Lvl.tn];refine Toks.perm (Toks.full (n:=(encs []).length) hυ) ?_;refine(List.Perm.swap _ _ _).trans (List.Perm.cons _ (List.Perm.cons _ ?_));exact(List.perm_append_singleton _ _).symm
          · rcases List.mem_append.1 hx with hx | hx
            · have:=hb3 x hx;simp only;omega
            · simp at hx;subst hx;simp only;omega
    · intro hlt;have hlt:i=l.length:=by simp at hlt;omega
      subst hlt;rw[List.drop_length] at hR;simp only[treeP] at hR;simp only[am,List.length_map];refine vcIf_split ?_ ?_
      · intro h0
        rcases snoc_cases op with rfl | ⟨ys,x,rfl⟩
        · simp at h0
        have wn:IntKind.i64.wrap ((((ys++[x]).length:Nat):Int) - 1)=(ys.length:Nat):=by rw[wrap_i64 (by simp<;>omega) (by simp at hb1 ⊢<;>omega)];simp
        have hat:((ys++[x]).map Lvl.enc)[((ys.length:Nat):Int).toNat]?=some x.enc:=by simp
        simp only[List.map_append,List.map_cons,List.map_nil,List.getLast?_concat,Lvl.pair] at hR;simp only[am,wn];refine idxL_intro (by omega) (hat) ?_;simp only[am,Lvl.enc];refine(bad_calls x.tok _).mono ?_;rintro v σ' ⟨rfl,rfl⟩;simp only[am,Nat.reduceAdd,fenc];refine retK_intro rfl hT.1 ⟨?_,rfl⟩;simp[V.erase,eraseL,←hR,badC,badA,encs]
      · intro h0;have h0:op=[]:=by
          cases op with
          | nil=>rfl
          | cons x xs=>simp at h0<;>omega
        subst h0;simp only[List.map_nil,List.getLast?_nil] at hR;simp only[am,Nat.reduceAdd];refine retK_intro rfl hT.1 ⟨?_,rfl⟩;simp[V.erase,eraseL,←hR,fenc,badC,badA]
end Go.Proofs.Tryz

namespace Go.Proofs.Tryz
open Go.Am
set_option maxRecDepth 4000
set_option maxHeartbeats 4000000
def ac46:AC:=.seq (.reg [⟨(some 2),.alloc [(.str []),(.int .i64 0)],none⟩])
 (.seq (.reg [xm 4 0,xc 103 5 [.s 4,.c (.int .u8 97)],⟨(some 3),.alloc [(.int .u8 0),(.str []),(.int .i64 0),(.sl .full 5 []),(.int .i64 0)],none⟩,xs 5 3 5])
 (.seq (.reg [xf 0 6 3,xf 1 7 6,xo 8 7,xf 0 9 3,xf 2 10 9,xo 11 10,⟨(some 12),.build [(.str []),(.int .i64 0)] [(0,1,(.s 8)),(1,1,(.s 11))],none⟩,xs 2 2 12])
 (.ret)))
theorem fn46:IsFn prog 46 ac46 [.cell 2 true 2] 13:=⟨f46,⟨[],[],[]⟩,func46,by kernel_rfl,by kernel_rfl,by kernel_rfl,by kernel_rfl⟩
def ac49:AC:=.seq (.seq (.reg [xm 2 0,xk 3 2,xf 3 4 3,xf 0 5 4,xo 6 5,xB .neq 7 6 0])
 (.cond (.s 7) (.ret)
 (.skip)))
 (.seq (.reg [xm 8 0,xm 9 0,xk 10 9,xf 2 11 10,xo 12 11,⟨(some 13),.build [(.int .i64 0),(.int .i64 0)] [(0,1,(.c (.int .i64 2))),(1,1,(.s 12))],none⟩,xk 14 8,xf 3 15 14,xs 2 15 13])
 (.seq (.draw [(xm 16 0,[]),(xk 17 16,[]),(xf 1 18 17,[]),(xo 19 18,[]),(xm 20 0,[]),(xk 21 20,[]),(xf 0 22 21,[]),(xo 23 22,[]),(xL 24 23,[]),(xb .lss 25 19 24,[])])
 (.cond (.s 25) (.draw [(xm 26 0,[]),(xm 27 0,[]),(xk 28 27,[]),(xf 0 29 28,[]),(xo 30 29,[]),(xm 31 0,[]),(xk 32 31,[]),(xf 1 33 32,[]),(xo 34 33,[]),(xA 5 35 30 34,[]),(xf 0 36 35,[]),(xf 2 37 36,[]),(xo 38 37,[]),(xk 39 26,[]),(xf 3 40 39,[]),(xf 1 41 40,[]),(xs 1 41 38,[])])
 (.skip))))
theorem fn49:IsFn prog 49 ac49 [] 42:=⟨f49,⟨[],[],[]⟩,func49,by kernel_rfl,by kernel_rfl,by kernel_rfl,by kernel_rfl⟩
def ac103:AC:=.seq (.reg [⟨(some 4),.alloc [(.int .u8 0),(.str []),(.int .i64 0),(.sl .full 5 []),(.int .i64 0)],none⟩])
 (.seq (.seq (.draw [(xm 5 0,[]),(xk 6 5,[]),(xf 3 7 6,[]),(xf 0 8 7,[]),(xo 9 8,[]),(xB .neq 10 9 0,[]),(xm 11 10,[]),(xh 11 (xm 12 0),[]),(xh 11 (xk 13 12),[]),(xh 11 (xf 1 14 13),[]),(xh 11 (xo 15 14),[]),(xh 11 (xm 16 0),[]),(xh 11 (xk 17 16),[]),(xh 11 (xf 0 18 17),[]),(xh 11 (xo 19 18),[]),(xh 11 (xL 20 19),[]),(xh 11 (xb .geq 21 15 20),[]),(⟨(some 22),.pick (.s 11) (.c (.bool true)) (.s 21),none⟩,[]),(xm 23 22,[]),(xh 23 (xm 24 0),[]),(xh 23 (xk 25 24),[]),(xh 23 (xf 0 26 25),[]),(xh 23 (xo 27 26),[]),(xh 23 (xm 28 0),[]),(xh 23 (xk 29 28),[]),(xh 23 (xf 1 30 29),[]),(xh 23 (xo 31 30),[]),(xh 23 (xA 5 32 27 31),[]),(xh 23 (xf 0 33 32),[]),(xh 23 (xf 0 34 33),[]),(xh 23 (xo 35 34),[]),(xh 23 (xm 36 1),[]),(xh 23 (xb .neq 37 35 36),[]),(⟨(some 38),.pick (.s 23) (.c (.bool true)) (.s 37),none⟩,[])])
 (.cond (.s 38) (.seq (.reg [xm 39 0,xc 49 40 [.s 39]])
 (.seq (.reg [⟨(some 41),.build [(.int .u8 0),(.str []),(.int .i64 0),(.sl .full 5 []),(.int .i64 0)] [],none⟩,xs 5 4 41])
 (.ret)))
 (.skip)))
 (.seq (.reg [xm 42 0,xk 43 42,xf 1 44 43,xo 45 44,xB .add 46 45 1,xk 47 42,xf 1 48 47,xs 1 48 46])
 (.seq (.draw [(xm 49 0,[]),(xk 50 49,[]),(xf 0 51 50,[]),(xo 52 51,[]),(xm 53 0,[]),(xk 54 53,[]),(xf 1 55 54,[]),(xo 56 55,[]),(xB .sub 57 56 1,[]),(xA 5 58 52 57,[]),(xl 5 59 58,[]),(xs 5 4 59,[])])
 (.ret))))
theorem fn103:IsFn prog 103 ac103 [.cell 4 true 5] 60:=⟨f103,⟨[],[],[]⟩,func103,by kernel_rfl,by kernel_rfl,by kernel_rfl,by kernel_rfl⟩
def ac106:AC:=.seq (.reg [⟨(some 5),.box 5 (.s 1),none⟩,⟨(some 7),.box 2 (.s 3),none⟩])
 (.seq (.seq (.reg [xf 0 8 7,xo 9 8,xB .neq 10 9 0])
 (.cond (.s 10) (.seq (.reg [xm 11 0,xl 2 12 7,xk 13 11,xf 3 14 13,xs 2 14 12])
 (.ret))
 (.skip)))
 (.seq (.reg [xm 15 0,xm 16 2,xk 17 15,xf 1 18 17,xs 1 18 16])
 (.seq (.seq (.reg [xm 19 0,xk 20 19,xf 5 21 20,xf 7 22 21,xf 0 23 22,xo 24 23,xB .eql 25 24 0])
 (.cond (.s 25) (.seq (.reg [xm 26 0,xl 5 27 5,xk 28 26,xf 5 29 28,xf 7 30 29,xs 5 30 27])
 (.ret))
 (.skip)))
 (.reg [xm 31 0,xl 5 32 5,xk 33 31,xf 5 34 33,xf 12 35 34,xs 5 35 32]))))
theorem fn106:IsFn prog 106 ac106 [] 36:=⟨f106,⟨[],[],[]⟩,func106,by kernel_rfl,by kernel_rfl,by kernel_rfl,by kernel_rfl⟩
theorem cfail_calls {r:Nat} {rd:Rdr} {cs:List V} {σ:Store} (h:σ.box r=some (rd.enc++cs)) (h0:0≤rd.at_):PCalls prog 49 [.ptr (.out r) 0] σ fun v σ' => v = .tup []∧σ' = σ.set r (rd.fail.enc++cs):=by
  refine fn49.calls ?_;simp only[slots,ac49,am,ams,am,h,Rdr.enc];cases hb:rd.bad with
  | some b =>
    simp only[am,decide_false,Int.reduceEq,badC];refine retK_intro rfl (Store.sub_refl _) ⟨rfl,?_⟩;rw[Rdr.fail,hb];exact(Store.set_id h).symm
  | none =>
    simp only[am,Nat.reduceAdd,encs_length,decide_true,badC,h,Rdr.enc]
    by_cases h1:rd.at_<rd.l.length
    · obtain⟨j,hj⟩:=Int.eq_ofNat_of_zero_le h0;have hj' : j<rd.l.length:=by omega
      simp only[am,decide_true,h1,decide_true];refine idxL_intro h0 (c:=rd.l[j].enc) (by simp[encs_map,hj,hj']) ?_;simp only[am,Nat.reduceAdd,enc_eq];refine retK_intro rfl (Store.sub_refl _) ⟨rfl,?_⟩;simp[Rdr.fail,Rdr.spot,hb,hj,hj',badA]
    · simp only[am,decide_false,h1,decide_false];refine retK_intro rfl (Store.sub_refl _) ⟨rfl,?_⟩
      have:rd.l[rd.at_.toNat]?=none:=List.getElem?_eq_none (by omega)
      simp[Rdr.fail,Rdr.spot,hb,this,badA]
theorem ctake_calls {r:Nat} {rd:Rdr} {k:Int} {cs:List V} {σ:Store} (h:σ.box r=some (rd.enc++cs)) (h0:0≤rd.at_) (hb:rd.l.length≤big):PCalls prog 103 [.ptr (.out r) 0,.int .u8 k] σ fun v σ' => v = .agg (rd.take k).1.enc∧σ' = σ.set r ((rd.take k).2.enc++cs):=by
  refine fn103.calls ?_;simp only[slots,ac103,am,ams,am,h,Rdr.enc];have hno:rd.sees k=false→PCalls prog 49 [.ptr (.out r) 0] σ fun v σ' => v = .tup []∧σ' = σ.set r (rd.fail.enc++cs):=fun _=>cfail_calls h h0
  cases hbad:rd.bad with
  | some b =>
    have hs:rd.sees k=false:=by simp[Rdr.sees,Rdr.ok,hbad]
    simp only[am,decide_false,Int.reduceEq,badC];refine(hno hs).mono ?_;rintro v σ' ⟨rfl,rfl⟩;simp only[am,Nat.reduceAdd];refine retK_intro rfl (Store.sub_refl _) ⟨?_,?_⟩
    · simp[Rdr.take,hs,V.erase,eraseL,Tree.zero,Tree.enc,encs]
    · simp[Rdr.take,hs,Rdr.enc,badC]
  | none =>
    simp only[am,encs_length,decide_true,badC,h,Rdr.enc]
    by_cases h1:rd.at_<rd.l.length
    · obtain⟨j,hj⟩:=Int.eq_ofNat_of_zero_le h0;have hj' : j<rd.l.length:=by omega
      simp only[am,decide_eq_false (show ¬(rd.l.length:Int)≤rd.at_ by omega),h,Rdr.enc];refine idxL_intro h0 (c:=rd.l[j].enc) (by simp[encs_map,hj,hj']) ?_;simp only[am,enc_eq]
      by_cases hk:rd.l[j].tok.kind=k
      · have hs:rd.sees k=true:=by simp[Rdr.sees,Rdr.ok,hbad,isK,hj,hj',hk]
        have w1:IntKind.i64.wrap (rd.at_+1)=rd.at_+1:=by simp only[big] at hb;exact wrap_i64 (by omega) (by omega)
        have w2:IntKind.i64.wrap (rd.at_+1 - 1)=rd.at_:=by rw[show rd.at_+1 - 1=rd.at_ by omega];simp only[big] at hb;exact wrap_i64 (by omega) (by omega)
        simp only[am,decide_eq_true hk,h,Rdr.enc,w1,w2];refine idxL_intro h0 (c:=rd.l[j].enc) (by simp[encs_map,hj,hj']) ?_;simp only[am,Tree.rec_];refine retK_intro Tree.r_nol (Store.sub_refl _) ⟨?_,?_⟩
        · simp[Rdr.take,hs,V.erase,hj,hj',List.getD,Tree.rec_];exact enc_eq _
        · simp[Rdr.take,hs,badC]
      · have hs:rd.sees k=false:=by simp[Rdr.sees,Rdr.ok,hbad,isK,hj,hj',hk]
        simp only[am,decide_eq_false hk];refine(hno hs).mono ?_;rintro v σ' ⟨rfl,rfl⟩;simp only[am,Nat.reduceAdd];refine retK_intro rfl (Store.sub_refl _) ⟨?_,?_⟩
        · simp[Rdr.take,hs,V.erase,eraseL,Tree.zero,encs,Tree.tok,Tree.kids,Tree.fin]
        · simp[Rdr.take,hs,Rdr.enc,badC]
    · have hs:rd.sees k=false:=by
        have:rd.l[rd.at_.toNat]?=none:=List.getElem?_eq_none (by omega)
        simp[Rdr.sees,Rdr.ok,hbad,isK,this]
      simp only[am,decide_eq_true (show (rd.l.length:Int)≤rd.at_ by omega)];refine(hno hs).mono ?_;rintro v σ' ⟨rfl,rfl⟩;simp only[am,Nat.reduceAdd];refine retK_intro rfl (Store.sub_refl _) ⟨?_,?_⟩
      · simp[Rdr.take,hs,V.erase,eraseL,Tree.zero,Tree.enc,encs]
      · simp[Rdr.take,hs,Rdr.enc,badC]
theorem cword_calls {r:Nat} {rd:Rdr} {cs:List V} {σ:Store} (h:σ.box r=some (rd.enc++cs)) (h0:0≤rd.at_) (hb:rd.l.length≤big):PCalls prog 46 [.ptr (.out r) 0] σ fun v σ' => v = .agg rd.word.1.enc∧σ' = σ.set r (rd.word.2.enc++cs):=by
  refine fn46.calls ?_;simp only[slots,ac46,am,ams];refine(ctake_calls h h0 hb).mono ?_;rintro v σ' ⟨rfl,rfl⟩;simp only[am,Nat.reduceAdd,Tree.rec_,Tree.fl];refine retK_intro rfl (Store.sub_refl _) ⟨?_,?_⟩
  · simp[Rdr.word,V.erase,eraseL,Word.enc]
  · simp[Rdr.word]
theorem cnode_calls {r:Nat} {rd:Rdr} {c:Cmd} {pc:V} {g:Nd × Int × Option Int} {σ:Store} (h:σ.box r=some (rd.enc++c.encP pc)) (hb:rd.bad=none):PCalls prog 106 [.ptr (.out r) 0,.agg g.1.enc,.int .i64 g.2.1,fenc g.2.2] σ fun v σ' => v = .tup []∧σ' = σ.set r ((nodeP rd c g).1.enc++(nodeP rd c g).2.encP pc):=by
  refine fn106.calls ?_;simp only[slots,ac106,am,ams,Nat.reduceAdd,Nd.rec_];simp only[am,Nat.reduceAdd,fenc,Rdr.enc,Cmd.encP];cases hg:g.2.2 with
  | some a =>
    simp only[am,Nat.reduceAdd,decide_false,Int.reduceEq,badC,h,Rdr.enc,Cmd.encP];refine retK_intro rfl (Store.sub_refl _) ⟨rfl,?_⟩;simp[nodeP,hg]
  | none =>
    simp only[am,Nat.reduceAdd,decide_true,badC,h,Rdr.enc,Cmd.encP]
    by_cases hk:c.left.kind=0
    · simp only[am,Nat.reduceAdd,decide_eq_true hk,Nd.enc_eq];refine retK_intro rfl (Store.sub_refl _) ⟨rfl,?_⟩;simp[nodeP,hg,hk]
    · simp only[am,Nat.reduceAdd,decide_eq_false hk,Nd.enc_eq];refine retK_intro rfl (Store.sub_refl _) ⟨rfl,?_⟩;simp[nodeP,hg,hk]
end Go.Proofs.Tryz

namespace Go.Proofs.Tryz
open Go.Am
set_option maxRecDepth 4000
set_option maxHeartbeats 4000000
def ac35:AC:=.seq (.reg [⟨(some 2),.alloc [(.str []),(.str [])],none⟩])
 (.seq (.seq (.reg [xm 3 0,xB .lss 4 3 0,xm 5 4,xh 5 (xm 6 0),xh 5 (xB .geq 7 6 16),⟨(some 8),.pick (.s 5) (.c (.bool true)) (.s 7),none⟩])
 (.cond (.s 8) (.seq (.reg [⟨(some 9),.build [(.str []),(.str [])] [],none⟩,xs 2 2 9])
 (.ret))
 (.skip)))
 (.seq (.reg [xm 10 0,⟨(some 11),.idxP 16 2 (.c (.ptr (.glo 0) 0)) (.s 10),none⟩,xl 2 12 11,xs 2 2 12])
 (.ret)))
theorem fn35:IsFn prog 35 ac35 [.cell 2 true 2] 13:=⟨f35,⟨[],[],[]⟩,func35,by kernel_rfl,by kernel_rfl,by kernel_rfl,by kernel_rfl⟩
def ac47:AC:=.seq (.reg [xi 2 0])
 (.seq (.seq (.reg [xi 4 0])
 (.block 0 (.loop (.seq (.reg [xB .lss 5 4 16])
 (.seq (.cond (.s 5) (.skip)
 (.exit 0))
 (.seq (.block 1 (.seq (.reg [xm 6 4,xm 3 6])
 (.seq (.reg [xm 7 3,xB .gtr 8 7 0,xm 9 8,xg 9 (xm 10 3),⟨(some 11),.idxP 16 2 (.c (.ptr (.glo 0) 0)) (.s 10),(some (9,true))⟩,xg 9 (xf 0 12 11),xg 9 (xo 13 12),xg 9 (xm 14 0),⟨(some 15),.binS .eql (.s 13) (.s 14),(some (9,true))⟩,⟨(some 16),.pick (.s 9) (.s 15) (.c (.bool false)),none⟩])
 (.cond (.s 16) (.seq (.reg [xm 17 3,xm 2 17])
 (.ret))
 (.skip)))))
 (.reg [xB .add 18 4 1,xm 4 18])))))))
 (.seq (.reg [xi 2 0])
 (.ret)))
theorem fn47:IsFn prog 47 ac47 [.tmp 2] 19:=⟨f47,⟨[],[],[]⟩,func47,by kernel_rfl,by kernel_rfl,by kernel_rfl,by kernel_rfl⟩
theorem form_drop {i:Nat} (h:i<16):formCells.drop (i*2)=[V.str (formT.getD i ([],[])).1,.str (formT.getD i ([],[])).2]++((formT.map fun p=>[V.str p.1,V.str p.2]).drop (i+1)).flatten:=by
  unfold formCells;rw[flatten_drop (k:=2) (by intro r hr;simp only[List.mem_map] at hr;obtain⟨p,_,rfl⟩:=hr;rfl),List.drop_eq_getElem_cons (by simpa [formT] using h)]
  have:i<formT.length:=by simpa [formT] using h
  simp[List.getD,this]
theorem of_calls (op:Int) {σ:Store} (hg:σ.con 0=some formCells):PCalls prog 35 [.int .i64 op] σ fun v σ' => v = .agg [.str (formOf op).1,.str (formOf op).2]∧σ' = σ:=by
  refine fn35.calls ?_;simp only[slots,ac35,am,ams]
  by_cases h0:op<0
  · simp only[am,Nat.reduceAdd,decide_eq_true h0];refine retK_intro rfl (Store.sub_refl _) ⟨?_,rfl⟩
    have:¬(0≤op∧op<16):=by omega
    simp[V.erase,eraseL,formOf,this]
  · simp only[am,decide_eq_false h0]
    by_cases h1:16≤op
    · simp only[am,Nat.reduceAdd,decide_eq_true h1];refine retK_intro rfl (Store.sub_refl _) ⟨?_,rfl⟩
      have:¬(0≤op∧op<16):=by omega
      simp[V.erase,eraseL,formOf,this]
    · simp only[am,amc,decide_eq_false h1];refine idxPL_ptr (by omega) (by omega) ?_;simp only[am,Nat.reduceAdd,hg,form_drop (show op.toNat<16 by omega)];refine retK_intro rfl (Store.sub_refl _) ⟨?_,rfl⟩
      have:0≤op∧op<16:=by omega
      simp[V.erase,eraseL,formOf,this]
def inv19 (w:List UInt8) (σ:Store) (i:Nat):St:=⟨[.str w,.any,.any,.any,.int .i64 (i:Nat)]++List.replicate 14 .any,[],σ⟩
theorem mnumber_calls (w:List UInt8) {σ:Store} (hg:σ.con 0=some formCells):PCalls prog 47 [.str w] σ fun v σ' => v = .int .i64 (numberP w)∧σ' = σ:=by
  generalize hR:numberP w=R;unfold numberP at hR;refine fn47.calls ?_;simp only[slots,ac47,am,ams];refine vc_loop (fun p:{p:Nat × Nat // numF w p.1 p.2=R∧p.2+p.1=16}=>inv19 w σ p.1.2) (fun p=>p.1.1) ?_ ?_
  · refine Upd.enter ⟨(16,0),hR,rfl⟩ ?_ LLLe.rfl OLe.rfl;simp[inv19,List.replicate,am]
  · rintro⟨⟨n,i⟩,hR,hs⟩;simp only at hR hs;simp only[inv19,List.replicate,am]
    by_cases hlt:i<16
    · obtain⟨m,rfl⟩:∃m,n=m+1:=⟨n - 1,by omega⟩;simp only[numF] at hR;have wi:IntKind.i64.wrap ((i:Int)+1)=((i+1:Nat):Int):=by rw[wrap_i64 (by omega) (by omega)];simp
      have hf:formOf (i:Nat)=formT.getD i ([],[]):=by simp only[formOf];rw[if_pos (by omega)];simp
      have again:∀(t:List V),numF w m (i+1)=R→LLe t (inv19 w σ (i+1)).t→Upd ⟨t,[],σ⟩ fun st' => ∃j:{p:Nat × Nat // numF w p.1 p.2=R∧p.2+p.1=16},st' = inv19 w σ j.1.2∧j.1.1<m+1:=fun t h ht =>
        Upd.again (I:=fun p:{p:Nat × Nat // numF w p.1 p.2=R∧p.2+p.1=16}=>inv19 w σ p.1.2) (μ:=fun p=>p.1.1) ⟨(m,i+1),h,by simp only;omega⟩ (by simp) ht LLLe.rfl OLe.rfl
      simp only[am,decide_eq_true (show (i:Int)<16 by omega)]
      by_cases h0:0<i
      · simp only[am,amc,decide_eq_true (show (0:Int)<i by omega)];refine idxPL_ptr (by omega) (by omega) ?_;simp only[am,hg,form_drop hlt,Int.toNat_natCast]
        by_cases hw:(formT.getD i ([],[])).1=w
        · rw[if_pos ⟨h0,by rw[hf];exact hw⟩] at hR;simp only[am,decide_eq_true hw];refine retS ?_;simp[V.erase,hR]
        · rw[if_neg (by rw[hf];exact fun h=>hw h.2)] at hR;simp only[am,decide_eq_false hw,wi];exact again _ hR (by simp[inv19,List.replicate,am])
      · rw[if_neg (by simp[h0])] at hR;simp only[am,decide_eq_false (show ¬(0:Int)<i by omega),wi];exact again _ hR (by simp[inv19,List.replicate,am])
    · obtain rfl:n=0:=by omega
      simp only[numF] at hR;simp only[am,decide_eq_false (show ¬(i:Int)<16 by omega)];refine retS ?_;simp[V.erase,hR]
end Go.Proofs.Tryz

namespace Go.Proofs.Tryz
open Go.Am
set_option maxRecDepth 4000
set_option maxHeartbeats 4000000
def ac105:AC:=.seq (.reg [xm 6 0,xc 103 7 [.s 6,.c (.int .u8 123)],⟨(some 2),.alloc [(.int .u8 0),(.str []),(.int .i64 0),(.sl .full 5 []),(.int .i64 0)],none⟩,xs 5 2 7])
 (.seq (.reg [xm 8 0,xf 0 9 2,xf 2 10 9,xo 11 10,xk 12 8,xf 5 13 12,xf 6 14 13,xs 1 14 11])
 (.seq (.seq (.reg [xm 15 0,xk 16 15,xf 3 17 16,xf 0 18 17,xo 19 18,xB .neq 20 19 0,xm 21 20,xh 21 (xf 3 22 2),xh 21 (xo 23 22),xh 21 (xL 24 23),xh 21 (xB .eql 25 24 0),⟨(some 26),.pick (.s 21) (.c (.bool true)) (.s 25),none⟩])
 (.cond (.s 26) (.ret)
 (.skip)))
 (.seq (.reg [xf 3 27 2,xo 28 27,xf 4 29 2,xo 30 29,⟨(some 31),.build [(.sl .full 5 []),(.int .i64 0),(.int .i64 0),(.int .i64 0),(.int .i64 0),(.int .i64 0),(.int .i64 0),(.str []),(.int .i64 0),(.sl .full 2 []),(.sl .full 4 []),(.int .i64 0),(.int .i64 0),(.int .i64 0),(.str []),(.sl .full 2 []),(.sl .full 5 []),(.int .i64 0),(.int .i64 0),(.str []),(.sl .full 2 []),(.sl .full 5 [])] [(0,1,(.s 28)),(2,1,(.s 30))],none⟩,⟨(some 32),.boxO 22 (.s 31),none⟩,xm 3 32])
 (.seq (.block 0 (.loop (.seq (.seq (.reg [xm 33 3,xk 34 33,xf 3 35 34,xf 0 36 35,xo 37 36,xB .eql 38 37 0])
 (.cond (.s 38) (.skip)
 (.exit 0)))
 (.block 1 (.seq (.reg [xm 39 3,xc 46 40 [.s 39],⟨(some 4),.alloc [(.str []),(.int .i64 0)],none⟩,xs 2 4 40])
 (.seq (.reg [xm 41 3,xc 103 42 [.s 41,.c (.int .u8 60)]])
 (.seq (.reg [xm 43 3,xc 46 44 [.s 43],⟨(some 5),.alloc [(.str []),(.int .i64 0)],none⟩,xs 2 5 44])
 (.seq (.draw [(xm 45 0,[]),(xm 46 0,[]),(xk 47 46,[]),(xf 5 48 47,[]),(xf 5 49 48,[]),(xo 50 49,[]),(xl 2 51 4,[]),(xl 2 52 5,[]),(⟨(some 53),.build [(.str []),(.int .i64 0),(.str []),(.int .i64 0)] [(0,2,(.s 51)),(2,2,(.s 52))],none⟩,[]),(⟨(some 54),.bslice 4 [(.s 53)],none⟩,[]),(xa 4 55 50 54,[]),(xk 56 45,[]),(xf 5 57 56,[]),(xf 5 58 57,[]),(xs 1 58 55,[])])
 (.seq (.seq (.draw [(xm 59 3,[]),(xk 60 59,[]),(xf 1 61 60,[]),(xo 62 61,[]),(xm 63 3,[]),(xk 64 63,[]),(xf 0 65 64,[]),(xo 66 65,[]),(xL 67 66,[]),(xb .eql 68 62 67,[])])
 (.cond (.s 68) (.exit 0)
 (.skip)))
 (.reg [xm 69 3,xc 103 70 [.s 69,.c (.int .u8 44)]]))))))))))
 (.seq (.upd (.reg [xm 71 3,xk 72 71,xf 3 73 72,xf 0 74 73,xo 75 74,xB .neq 76 75 0]))
 (.cond (.s 76) (.reg [xm 77 0,xm 78 3,xk 79 78,xf 3 80 79,xl 2 81 80,xk 82 77,xf 3 83 82,xs 2 83 81])
 (.skip)))))))
theorem fn105:IsFn prog 105 ac105 [] 84:=⟨f105,⟨[32],[11],[]⟩,func105,by kernel_rfl,by kernel_rfl,by kernel_rfl,by kernel_rfl⟩
theorem take_kids {r:Rdr} {k:Int}:((r.take k).1.kids.length:Int)≤manys r.l:=by
  have:=(r.take_many k).1
  have:=manys_ge (r.take k).1.kids
  omega
theorem word_at (r:Rdr):Goes r r.word.2:=goes_word r
def zero17:List V:=[.int .i64 0,.int .i64 0,.str [],.int .i64 0,.sl .full 2 [],.sl .full 4 [],.int .i64 0,.int .i64 0,.int .i64 0,.str [],.sl .full 2 [],.sl .full 5 [],.int .i64 0,.int .i64 0,.str [],.sl .full 2 [],.sl .full 5 []]
theorem ole_of_eq {σ σ' : Store} (h:σ=σ'):OLe σ σ' := h▸OLe.rfl
structure PrI where
  n:Nat
  i:Rdr
  acc:List (Word × Word)
  τ:Nat
def pStore (σ:Store) (r q τ:Nat) (i rd:Rdr) (c:Cmd) (acc:List (Word × Word)):Store:=((σ.set q (i.enc++zero17)).set r (rd.enc++c.encP (.sl (.tk τ) 4 (acc.map penc)))).setTip τ acc.length
section
variable {σ:Store} {r q τ:Nat} {i i' rd:Rdr} {c:Cmd} {acc:List (Word × Word)}
theorem pS_q (h:q≠r):(pStore σ r q τ i rd c acc).box q=some (i.enc++zero17):=by simp[pStore,Store.setTip,Store.set,h]
theorem pS_r:(pStore σ r q τ i rd c acc).box r=some (rd.enc++c.encP (.sl (.tk τ) 4 (acc.map penc))):=by simp[pStore,Store.setTip,Store.set]
theorem pS_tip:(pStore σ r q τ i rd c acc).tip τ=some acc.length:=by simp[pStore,Store.setTip]
theorem pS_set (h:q≠r):(pStore σ r q τ i rd c acc).set q (i'.enc++zero17)=pStore σ r q τ i' rd c acc:=by
  have:((σ.set q (i.enc++zero17)).set r (rd.enc++c.encP (.sl (.tk τ) 4 (acc.map penc)))).set q (i'.enc++zero17)=(σ.set q (i'.enc++zero17)).set r (rd.enc++c.encP (.sl (.tk τ) 4 (acc.map penc))):=by rw[Store.set_comm (Ne.symm h),Store.set_set]
  show (((σ.set q (i.enc++zero17)).set r (rd.enc++c.encP (.sl (.tk τ) 4 (acc.map penc)))).set q (i'.enc++zero17)).setTip τ acc.length=_;rw[this];rfl
theorem cr_pc {pc:V}:ldC false 1 ((rd.enc++c.encP pc).drop 10)=some pc:=rfl
theorem cr_spc {pc x:V}:setAt (rd.enc++c.encP pc) 10 [x]=rd.enc++c.encP x:=rfl
theorem cr_hpc {pc:V}:hasN 1 ((rd.enc++c.encP pc).drop 10)=true:=rfl
theorem cr_l {cs:List V}:ldC false 1 (rd.enc++cs)=some (.sl .no 5 (encs rd.l)):=rfl
theorem cr_at {cs:List V}:ldC false 1 ((rd.enc++cs).drop 1)=some (.int .i64 rd.at_):=rfl
theorem cr_fin {cs:List V}:ldC false 1 ((rd.enc++cs).drop 2)=some (.int .i64 rd.fin):=rfl
theorem cr_bad {cs:List V}:ldC false 1 ((rd.enc++cs).drop 3)=some (.int .i64 (badC rd.bad)):=rfl
theorem cr_bb {cs:List V}:takeN 2 ((rd.enc++cs).drop 3)=some [.int .i64 (badC rd.bad),.int .i64 (badA rd.bad)]:=rfl
theorem cr_hb {cs:List V}:hasN 2 ((rd.enc++cs).drop 3)=true:=rfl
theorem cr_sb {cs:List V} {b:Option Int}:setAt (rd.enc++cs) 3 [.int .i64 (badC b),.int .i64 (badA b)]=({rd with bad:=b}:Rdr).enc++cs:=by cases cs<;>rfl
def crl:=And.intro @cr_pc <| And.intro @cr_spc <| And.intro @cr_hpc <| And.intro @cr_l <| And.intro @cr_at <| And.intro @cr_fin <| And.intro @cr_bad <| And.intro @cr_bb <| And.intro @cr_hb @cr_sb
theorem pS_add {p:Word × Word} {n:Nat} (hn:n=acc.length+1):((pStore σ r q τ i rd c acc).setTip τ n).set r (rd.enc++c.encP (.sl (.tk τ) 4 (acc.map penc++[penc p])))=pStore σ r q τ i rd c (acc++[p]):=by
  subst hn;unfold pStore;rw[List.length_append,List.length_cons,List.length_nil,List.map_append,List.map_cons,List.map_nil];show ((((σ.set q (i.enc++zero17)).set r (rd.enc++c.encP (.sl (.tk τ) 4 (acc.map penc)))).set r (rd.enc++c.encP (.sl (.tk τ) 4 (acc.map penc++[penc p])))).setTip τ acc.length).setTip τ (acc.length+1)=_;rw[Store.set_set,setTip_setTip]
end
theorem Store.sub_setm {σ σ' : Store} {r:Nat} {X:List V} (h:σ.sub σ'):(σ.set r X).sub (σ'.set r X):=by
  refine⟨fun b cs hb=>?_,h.2⟩;simp only[Store.set] at hb ⊢
  by_cases e:b=r
  · rw[if_pos e] at hb ⊢;exact hb
  · rw[if_neg e] at hb ⊢;exact h.1 b cs hb
def SLp (r q:Nat):List V:=[.ptr (.out r) 0,.any,.any,.ptr (.out q) 0]++List.replicate 80 .any
theorem pairs_fin {σ:Store} {r q τ:Nat} {i rd:Rdr} {c:Cmd} {acc:List (Word × Word)} {t:List V} {l:List (List V)} {K:St→Prop} (hτ:σ.tip τ=none) (ht:LLe t (SLp r q))
    (hK:K ⟨SLp r q,[],(σ.set q (i.enc++zero17)).set r (rd.enc++c.encP (.sl .no 4 (acc.map penc)))⟩):Upd ⟨t,l,pStore σ r q τ i rd c acc⟩ K:=by
  refine Upd.drops (l' := []) ht (by simp[LLLe]) ?_ (by simp[SLp,List.replicate,loL,V.lo]) rfl hK;refine⟨fun b cs' hb=>?_,fun υ m hm=>?_,fun _ _ h=>h⟩
  · simp only[pStore,Store.setTip,Store.set] at hb ⊢;split at hb
    · rename_i h;subst h;simp only[Option.some.injEq] at hb;subst hb;exact⟨_,by rw[if_pos rfl],by simp[Rdr.enc,Cmd.encP,am]⟩
    · rename_i h;exact⟨cs',by rw[if_neg h];exact hb,LLe.rfl⟩
  · have hm:σ.tip υ=some m:=hm;have hne:υ≠τ:=by rintro rfl;rw[hτ] at hm;simp at hm
    simp only[pStore,Store.setTip,Store.set,if_neg hne];exact hm
theorem pairsG_bad {n:Nat} {i:Rdr} {acc:List (Word × Word)} (h:i.bad≠none):Rdr.pairsG n i acc=(i,acc):=by
  cases n<;>simp[Rdr.pairsG,h]
theorem pcell_ne {ps:List (Word × Word)} (h:ps≠[]):pcell ps = .sl .no 4 (ps.map penc):=by cases ps with | nil=>exact absurd rfl h | cons _ _=>rfl
def invPairs (σ:Store) (r q:Nat) (rd:Rdr) (c:Cmd) (p:PrI):St :=
  ⟨[.ptr (.out r) 0,.any,.any,.ptr (.out q) 0]++List.replicate 80 .any,[],pStore σ r q p.τ p.i rd c p.acc⟩
def PrOk (t:Tree) (σ:Store) (R:Rdr × List (Word × Word)) (p:PrI):Prop :=
  Rdr.pairsG p.n p.i p.acc=R∧p.i.l=t.kids∧0≤p.i.at_∧p.i.at_≤p.i.l.length∧(p.i.bad=none→(t.kids.length:Int)+1≤p.i.at_+p.n)∧(p.acc.length:Int)≤p.i.at_+1∧(p.i.bad=none→(p.acc.length:Int)≤p.i.at_)∧σ.tip p.τ=none∧(p.i.bad=none∨p.acc≠[])
theorem pairs_calls {r:Nat} {rd:Rdr} {c:Cmd} {σ:Store} (h:σ.box r=some (rd.enc++c.encP (.sl .full 4 []))) (hc:c.pairs=[]) (h0:0≤rd.at_) (hm:manys rd.l+1≤big) :
    PCalls prog 105 [.ptr (.out r) 0] σ fun v σ' => v = .tup []∧σ' = σ.set r ((pairsP rd c).1.enc++(pairsP rd c).2.encP (pcell (pairsP rd c).2.pairs)):=by
  have hlen:=manys_ge rd.l;refine fn105.calls ?_;simp only[slots,ac105,am,ams];refine(ctake_calls h h0 (by omega)).mono ?_;rintro v σ' ⟨rfl,rfl⟩;have hks:=take_kids (r:=rd) (k:=123);have hpp:pairsP rd c=if (rd.take 123).2.bad≠none∨(rd.take 123).1.kids.length=0 then ((rd.take 123).2,{c with pairsAt:=(rd.take 123).1.tok.pos})
    else ((rd.take 123).2.bads ((rd.take 123).1.inner.pairsG ((rd.take 123).1.kids.length+1) []).1.bad,{c with pairsAt:=(rd.take 123).1.tok.pos,pairs:=((rd.take 123).1.inner.pairsG ((rd.take 123).1.kids.length+1) []).2}):=rfl
  rw[hpp];generalize (rd.take 123).1=t at hks ⊢;generalize (rd.take 123).2=r1;simp only[am,Nat.reduceAdd,Tree.rec_,Tree.fl,Rdr.enc,Cmd.encP];cases hb:r1.bad with
  | some b =>
    simp only[am,decide_false,Int.reduceEq,badC];refine retK_intro rfl (Store.sub_refl _) ⟨rfl,?_⟩;simp[hc,pcell,hb]
  | none =>
    simp only[am,encs_length,decide_true,badC,Tree.fl]
    by_cases hk:t.kids.length=0
    · simp only[am,decide_eq_true (show (t.kids.length:Int)=0 by omega)];refine retK_intro rfl (Store.sub_refl _) ⟨rfl,?_⟩;simp[hc,pcell,hb,hk]
    · simp only[am,Nat.reduceAdd,decide_eq_false (show ¬(t.kids.length:Int)=0 by omega),Tree.fl];refine kO_intro fun q hq=>?_
      have hqr:q≠r:=by rintro rfl;simp[Store.set] at hq
      have hqσ:σ.box q=none:=by simpa [Store.set,hqr] using hq
      generalize hR:Rdr.pairsG (t.kids.length+1) t.inner []=R;rw[if_neg (by simp[hk])];have hin:t.inner=(⟨t.kids,0,t.fin,none⟩:Rdr):=rfl;generalize hc1:({c with pairsAt:=t.tok.pos}:Cmd)=c1;have e1:∀A B,(σ.set r A).set q B=(σ.set q B).set r A:=fun A B=>Store.set_comm (Ne.symm hqr)
      rw[e1];refine vc_loop (fun p:{p:PrI // PrOk t σ R p}=>invPairs σ r q r1 c1 p.1) (fun p=>p.1.n) ?_ ?_
      · refine(Upd.drops (t' := (invPairs σ r q r1 c1 ⟨0,t.inner,[],0⟩).t) (l' := []) (σ' := (σ.set q (t.inner.enc++zero17)).set r (r1.enc++c1.encP (.sl .full 4 []))) ?_ trivial ?_ (by simp[invPairs,List.replicate,loL,V.lo]) rfl rfl).bind ?_
        · simp[invPairs,List.replicate,am]
        · refine ole_of_eq ?_;simp[Rdr.enc,Cmd.encP,zero17,←hc1,hin,hb,badC,badA];rfl
        · rintro _ rfl;refine Upd.tok 0 fun τ hτ=>⟨_,[],(σ.set q (t.inner.enc++zero17)).set r (r1.enc++c1.encP (.sl (.tk τ) 4 [])),LTo.rfl,rfl,by simp,?_,⟨⟨t.kids.length+1,t.inner,[],τ⟩,?_⟩,?_⟩
          · have:=OTo.set (σ:=(σ.set q (t.inner.enc++zero17)).set r (r1.enc++c1.encP (.sl .full 4 []))) (b:=r) (τ:=τ) (n:=0) (cs' := r1.enc++c1.encP (.sl (.tk τ) 4 [])) (Store.set_same _ _ _) (by simp[Rdr.enc,Cmd.encP,lto])
            rwa [Store.set_set] at this
          · exact⟨hR,rfl,by simp[hin],by simp[hin],fun _=>by simp[hin],by simp[hin],fun _=>by simp[hin],hτ,.inl rfl⟩
          · rfl
      · rintro⟨⟨n,i,acc,τ⟩,hR,hl,hi0,hi1,hn,ha1,ha2,hτ,hne⟩;simp only at hR hl hi0 hi1 hn ha1 ha2 hτ hne;simp only[invPairs,List.replicate,am,pS_q hqr,crl];have hl' : i.l.length=t.kids.length:=by rw[hl]
        have hlb:i.l.length≤big:=by rw[hl];omega
        cases hbad:i.bad with
        | some b =>
          simp only[am,decide_false,Int.reduceEq,badC];rw[pairsG_bad (by simp[hbad])] at hR;have hacc:acc≠[]:=by rcases hne with h | h;rw[hbad] at h;simp at h;exact h
          refine pairs_fin hτ (by simp[SLp,List.replicate,am]) ?_;have hbq:∀B,((σ.set q (i.enc++zero17)).set r B).box q=some (i.enc++zero17):=fun B=>by simp[Store.set,hqr]
          have hbr:∀A B,((σ.set q A).set r B).box r=some B:=fun A B=>by simp[Store.set]
          simp only[SLp,List.replicate,am,hbq,crl,hbad,badC];simp only[am,Nat.reduceAdd,decide_false,Int.reduceEq,hbq,crl,hbad,badC];refine retK_intro rfl (Store.sub_setm (sub_set hqσ)) ⟨rfl,?_⟩;simp[←hR,Rdr.bads,hbad,pcell_ne hacc,←hc1,Rdr.enc,Cmd.encP,badC,badA];rfl
        | none =>
          have ha2:=ha2 hbad;have hn:=hn hbad;obtain⟨m,rfl⟩:∃m,n=m+1:=⟨n - 1,by omega⟩;simp only[Rdr.pairsG,hbad,ne_eq,not_true_eq_false,if_false] at hR;simp only[am,decide_true,badC];refine(cword_calls (pS_q hqr) hi0 hlb).mono ?_;rintro v σ' ⟨rfl,rfl⟩;rw[pS_set hqr];obtain⟨g1,g2⟩:=word_at i;have g2:=g2 hi0 hi1;have e1:i.word.2.l.length=i.l.length:=by rw[g1]
          generalize i.word.2=i1 at *;generalize i.word.1=lo at *;simp only[am,Word.rec_];refine(ctake_calls (pS_q hqr) (by omega) (by rw[g1];exact hlb)).mono ?_;rintro v σ' ⟨rfl,rfl⟩;rw[pS_set hqr];obtain⟨g3,g4⟩:=goes_take i1 60;have g4:=g4 (by omega) (by omega);have e2:(i1.take 60).2.l.length=i1.l.length:=by rw[g3]
          generalize (i1.take 60).2=i2 at *;simp only[am];refine(cword_calls (pS_q hqr) (by omega) (by rw[g3,g1];exact hlb)).mono ?_;rintro v σ' ⟨rfl,rfl⟩;rw[pS_set hqr];obtain⟨g5,g6⟩:=word_at i2;have g6:=g6 (by omega) (by omega);have e3:i2.word.2.l.length=i2.l.length:=by rw[g5]
          generalize i2.word.2=i3 at *;generalize i2.word.1=hi at *;simp only[am,Nat.reduceAdd,pS_r,crl,Word.enc];refine appD_tk (by simp[big] at hm ⊢;omega) (by rw[List.length_map];exact pS_tip) ?_;simp only[am,Nat.reduceAdd,List.length_map,pS_r,crl];rw[show [V.str lo.text,V.int .i64 lo.pos,.str hi.text,.int .i64 hi.pos]=penc (lo,hi) from rfl,pS_add rfl];simp only[am,encs_length,pS_q hqr,crl];have hnc:acc++[(lo,hi)]≠[]:=by simp
          by_cases hend:i3.at_=i.l.length
          · rw[if_pos hend] at hR;simp only[am,Nat.reduceEqDiff,decide_eq_true (show i3.at_=(i3.l.length:Int) by omega)];refine pairs_fin hτ (by simp[SLp,List.replicate,am]) ?_;have hbq:∀B,((σ.set q (i3.enc++zero17)).set r B).box q=some (i3.enc++zero17):=fun B=>by simp[Store.set,hqr]
            have hbr:∀A B,((σ.set q A).set r B).box r=some B:=fun A B=>by simp[Store.set]
            cases hb3:i3.bad with
            | none =>
              simp only[SLp,List.replicate,am,hbq,crl,hb3,badC];simp only[am,decide_true];refine retK_intro rfl (Store.sub_setm (sub_set hqσ)) ⟨rfl,?_⟩;simp[←hR,Rdr.bads,hb3,pcell_ne hnc,←hc1,hb,Rdr.enc,Cmd.encP,badC,badA]
            | some b =>
              simp only[SLp,List.replicate,am,hbq,crl,hb3,badC];simp only[am,Nat.reduceAdd,decide_false,Int.reduceEq,hbq,crl,hb3,badC];refine retK_intro rfl (Store.sub_setm (sub_set hqσ)) ⟨rfl,?_⟩;simp[←hR,Rdr.bads,hb3,pcell_ne hnc,←hc1,Rdr.enc,Cmd.encP,badC,badA];rfl
          · rw[if_neg hend] at hR;simp only[am,decide_eq_false (show ¬i3.at_=(i3.l.length:Int) by omega)];refine(ctake_calls (pS_q hqr) (by omega) (by omega)).mono ?_;rintro v σ' ⟨rfl,rfl⟩;rw[pS_set hqr];obtain⟨g7,g8⟩:=goes_take i3 44;have g8:=g8 (by omega) (by omega);have e4:(i3.take 44).2.l.length=i3.l.length:=by rw[g7]
            generalize (i3.take 44).2=i4 at *;simp only[am];refine Upd.againD (I:=fun p:{p:PrI // PrOk t σ R p}=>invPairs σ r q r1 c1 p.1) (μ:=fun p=>p.1.n) ⟨⟨m,i4,acc++[(lo,hi)],τ⟩,hR,by rw[←hl,g7,g5,g3,g1],by simp only;omega,by simp only;omega,fun hb4=>?_,?_,fun hb4=>?_,hτ,.inr hnc⟩ (by simp) (by simp[invPairs,List.replicate,am]) (by simp[LLLe,invPairs]) OLe.rfl (by simp[invPairs,List.replicate,loL,V.lo]) rfl
            · have:=g8.2.2 hb4;simp only;omega
            · simp;omega
            · have:=g8.2.2 hb4;simp;omega
end Go.Proofs.Tryz

namespace Go.Proofs.Tryz
open Go.Am
set_option maxRecDepth 4000
set_option maxHeartbeats 4000000
def ac48:AC:=.seq (.seq (.reg [xm 6 0,xk 7 6,xf 3 8 7,xf 0 9 8,xo 10 9,xB .neq 11 10 0])
 (.cond (.s 11) (.ret)
 (.skip)))
 (.seq (.reg [xm 12 1])
 (.block 0 (.seq (.reg [⟨(some 14),.binI .eql (.s 12) (.c (.int .i32 110)),none⟩,xm 13 14])
 (.cond (.s 13) (.reg [xm 15 0,xm 16 0,xc 46 17 [.s 16],xk 18 15,xf 5 19 18,xf 2 20 19,xs 2 20 17])
 (.seq (.reg [⟨(some 22),.binI .eql (.s 12) (.c (.int .i32 102)),none⟩,xm 21 22])
 (.cond (.s 21) (.reg [xm 23 0,xm 24 0,xc 46 25 [.s 24],⟨(some 26),.bslice 2 [(.s 25)],none⟩,xk 27 23,xf 5 28 27,xf 4 29 28,xs 1 29 26])
 (.seq (.reg [⟨(some 31),.binI .eql (.s 12) (.c (.int .i32 119)),none⟩,xm 30 31])
 (.cond (.s 30) (.seq (.drawA [5] [(xm 33 0,[]),(xk 34 33,[]),(xf 0 35 34,[]),(xo 36 35,[]),(xm 37 0,[]),(xk 38 37,[]),(xf 1 39 38,[]),(xo 40 39,[]),(xm 41 0,[]),(xk 42 41,[]),(xf 2 43 42,[]),(xo 44 43,[]),(xc 104 45 [.s 36,.s 40,.s 44],[]),(xm 32 45,[]),(xe 46 32 0,[]),(xe 47 32 1,[]),(⟨none,.mv (.c .any),none⟩,[]),(xm 4 46,[]),(⟨(some 5),.boxS 2 (.s 47),none⟩,[])])
 (.seq (.draw [(xm 48 0,[]),(xm 49 0,[]),(xm 50 4,[]),(xl 2 51 5,[1]),(xk 52 48,[]),(xf 5 53 52,[]),(xf 4 54 53,[]),(xs 1 54 50,[]),(xk 55 49,[]),(xf 3 56 55,[]),(xs 2 56 51,[])])
 (.reg [xm 57 0,xk 58 57,xf 1 59 58,xo 60 59,xB .add 61 60 1,xk 62 57,xf 1 63 62,xs 1 63 61])))
 (.seq (.reg [⟨(some 65),.binI .eql (.s 12) (.c (.int .i32 112)),none⟩,xm 64 65])
 (.cond (.s 64) (.reg [xm 66 0,xc 105 67 [.s 66]])
 (.seq (.reg [⟨(some 69),.binI .eql (.s 12) (.c (.int .i32 116)),none⟩,xm 68 69])
 (.cond (.s 68) (.draw [(xm 70 0,[]),(xm 71 0,[]),(xk 72 71,[]),(xf 0 73 72,[]),(xo 74 73,[]),(xm 75 0,[]),(xk 76 75,[]),(xf 1 77 76,[]),(xo 78 77,[]),(xm 79 0,[]),(xk 80 79,[]),(xf 2 81 80,[]),(xo 82 81,[]),(xc 107 83 [.s 74,.s 78,.s 82],[]),(xe 84 83 0,[]),(xe 85 83 1,[]),(xe 86 83 2,[]),(xc 106 87 [.s 70,.s 84,.s 85,.s 86],[])])
 (.seq (.reg [⟨(some 89),.binI .eql (.s 12) (.c (.int .i32 114)),none⟩,xm 88 89])
 (.cond (.s 88) (.draw [(xm 90 0,[]),(xm 91 0,[]),(xk 92 91,[]),(xf 0 93 92,[]),(xo 94 93,[]),(xm 95 0,[]),(xk 96 95,[]),(xf 1 97 96,[]),(xo 98 97,[]),(xm 99 0,[]),(xk 100 99,[]),(xf 2 101 100,[]),(xo 102 101,[]),(xc 108 103 [.s 94,.s 98,.s 102],[]),(xe 104 103 0,[]),(xe 105 103 1,[]),(xe 106 103 2,[]),(xc 106 107 [.s 90,.s 104,.s 105,.s 106],[])])
 (.skip)))))))))))))))
theorem fn48:IsFn prog 48 ac48 [] 108:=⟨f48,⟨[],[],[]⟩,func48,by kernel_rfl,by kernel_rfl,by kernel_rfl,by kernel_rfl⟩
theorem fenc_nol {b:Option Int}:(fenc b).nol=true:=rfl
section
variable {rd:Rdr} {c:Cmd} {pc:V} {cs:List V}
theorem cr_sname {w:Word}:setAt (rd.enc++c.encP pc) 7 w.enc=rd.enc++({c with name:=w}:Cmd).encP pc:=rfl
theorem cr_hname:hasN 2 ((rd.enc++c.encP pc).drop 7)=true:=rfl
theorem cr_snames {ws:List Word}:setAt (rd.enc++c.encP pc) 9 [.sl .no 2 (ws.map Word.enc)]=rd.enc++({c with names:=ws}:Cmd).encP pc:=rfl
theorem cr_hnames:hasN 1 ((rd.enc++c.encP pc).drop 9)=true:=rfl
theorem cr_sat {n:Int}:setAt (rd.enc++cs) 1 [.int .i64 n]=({rd with at_:=n}:Rdr).enc++cs:=by cases cs<;>rfl
theorem cr_hat:hasN 1 ((rd.enc++cs).drop 1)=true:=rfl
def crn:=And.intro @cr_sname <| And.intro @cr_hname <| And.intro @cr_snames <| And.intro @cr_hnames <| And.intro @cr_sat @cr_hat
end
theorem part102_calls {r:Nat} {rd:Rdr} {c:Cmd} {pc:V} {σ:Store} (h:σ.box r=some (rd.enc++c.encP pc)) (hb:rd.bad=none) (h0:0≤rd.at_) (hlen:rd.l.length≤big) :
    PCalls prog 48 [.ptr (.out r) 0,.int .i32 102] σ fun v σ' => v = .tup []∧σ' = σ.set r (rd.word.2.enc++({c with names:=[rd.word.1]}:Cmd).encP pc):=by
  refine PCalls.le (S:=σ.set r (setAt (rd.word.2.enc++c.encP pc) 9 [.sl .full 2 [rd.word.1.enc]])) ?_ (OLe.set ?_)
  · refine fn48.calls ?_;simp only[slots,ac48,am,ams,Nat.reduceAdd];simp only[am,decide_true,decide_false,Int.reduceEq,h,crl,hb,badC];refine(cword_calls h h0 hlen).mono ?_;rintro v σ' ⟨rfl,rfl⟩;simp only[am,Nat.reduceAdd,Word.rec_,crn];refine retK_intro rfl (Store.sub_refl _) ⟨rfl,rfl⟩
  · show LLe ([V.sl .no 5 (encs rd.word.2.l),.int .i64 rd.word.2.at_,.int .i64 rd.word.2.fin,.int .i64 (badC rd.word.2.bad),.int .i64 (badA rd.word.2.bad)]++_) ([V.sl .no 5 (encs rd.word.2.l),.int .i64 rd.word.2.at_,.int .i64 rd.word.2.fin,.int .i64 (badC rd.word.2.bad),.int .i64 (badA rd.word.2.bad)]++_);simp[am,Cmd.encP]
theorem part_calls {r:Nat} {x:Rdr × Cmd} {k:UInt8} {pc:V} {σ:Store} (h:σ.box r=some (x.1.enc++x.2.encP pc)) (hp:k=112→pc = .sl .full 4 []∧x.2.pairs=[]) (h0:0≤x.1.at_) (hm:manys x.1.l+1≤big) (ha:x.1.at_≤big) :
    PCalls prog 48 [.ptr (.out r) 0,.int .i32 (k.toNat:Nat)] σ fun v σ' => v = .tup []∧σ' = σ.set r ((partP k x).1.enc++(partP k x).2.encP (if k=112∧x.1.bad=none then pcell (partP k x).2.pairs else pc)):=by
  obtain⟨rd,c⟩:=x;simp only at h hp h0 hm ha;have hlen:=manys_ge rd.l;have hkk:∀n:UInt8,((k.toNat:Nat):Int)=(n.toNat:Nat)↔k=n:=fun n=>by
    constructor
    · intro h;exact UInt8.toNat_inj.1 (by omega)
    · rintro rfl;rfl
  by_cases k2:k=102∧rd.bad=none
  · obtain⟨k2,hb⟩:=k2;subst k2
    have:=part102_calls h hb h0 (by omega)
    simpa [partP,hb] using this
  refine fn48.calls ?_;simp only[slots,ac48,am,ams,Nat.reduceAdd];simp only[am,h,crl];cases hb:rd.bad with
  | some b =>
    simp only[am,decide_false,Int.reduceEq,badC];refine retK_intro rfl (Store.sub_refl _) ⟨rfl,?_⟩;rw[show partP k (rd,c)=(rd,c) by simp[partP,hb],if_neg (by simp)];exact(Store.set_id h).symm
  | none =>
    have k2:¬k=102:=fun h=>k2 ⟨h,hb⟩
    simp only[am,decide_true,badC];have hp0:partP k (rd,c)=if k=110 then (rd.word.2,{c with name:=rd.word.1})
        else if k=119 then ({rd with bad:=(wordsAt rd.l rd.at_ rd.fin).2,at_:=rd.at_+1},{c with names:=(wordsAt rd.l rd.at_ rd.fin).1})
        else if k=112 then pairsP rd c
        else if k=116 then nodeP rd c (readAt (Rdr.label (manys rd.l)) rd.l rd.at_ rd.fin)
        else if k=114 then nodeP rd c (readAt (Rdr.row (manys rd.l)) rd.l rd.at_ rd.fin)
        else (rd,c):=by simp[partP,hb,k2]
    have e110:((k.toNat:Nat):Int)=110↔k=110:=hkk 110;have e102:((k.toNat:Nat):Int)=102↔k=102:=hkk 102;have e119:((k.toNat:Nat):Int)=119↔k=119:=hkk 119;have e112:((k.toNat:Nat):Int)=112↔k=112:=hkk 112;have e116:((k.toNat:Nat):Int)=116↔k=116:=hkk 116;have e114:((k.toNat:Nat):Int)=114↔k=114:=hkk 114
    by_cases k1:k=110
    · rw[if_pos k1] at hp0;simp only[am,decide_eq_true (e110.2 k1)];refine(cword_calls h h0 (by omega)).mono ?_;rintro v σ' ⟨rfl,rfl⟩;simp only[am,Nat.reduceAdd,Word.rec_,crn];refine retK_intro rfl (Store.sub_refl _) ⟨rfl,?_⟩;rw[hp0,if_neg (by simp[k1])]
    rw[if_neg k1] at hp0;simp only[am,decide_eq_false (fun h=>k1 (e110.1 h))];simp only[am,decide_eq_false (fun h=>k2 (e102.1 h))]
    by_cases k3:k=119
    · rw[if_pos k3] at hp0;simp only[am,Nat.reduceAdd,decide_true,Nat.reduceLT,decide_eq_true (e119.2 k3),h,crl];refine CallD.intro (Words_calls hm) ?_;rw[hp0,if_neg (by simp[k3])];generalize wordsAt rd.l rd.at_ rd.fin=o;have w1:IntKind.i64.wrap (rd.at_+1)=rd.at_+1:=by simp only[big] at ha;exact wrap_i64 (by omega) (by omega)
      simp only[am,Nat.reduceAdd,fenc,h,crl,crn,w1];exact retK_intro rfl (Store.sub_refl _) ⟨rfl,rfl⟩
    rw[if_neg k3] at hp0;simp only[am,decide_eq_false (fun h=>k3 (e119.1 h))]
    by_cases k4:k=112
    · rw[if_pos k4] at hp0;obtain⟨rfl,hc⟩:=hp k4;simp only[am,decide_eq_true (e112.2 k4)];refine(pairs_calls h hc h0 hm).mono ?_;rintro v σ' ⟨rfl,rfl⟩;simp only[am];refine retK_intro rfl (Store.sub_refl _) ⟨rfl,?_⟩;rw[hp0,if_pos k4]
    rw[if_neg k4] at hp0;simp only[am,decide_eq_false (fun h=>k4 (e112.1 h))]
    by_cases k5:k=116
    · rw[if_pos k5] at hp0;simp only[am,decide_eq_true (e116.2 k5),h,crl];refine CallD.intro (Label_calls (Nat.le_refl _) hm) ?_;rw[hp0,if_neg (by simp[k4])];generalize readAt (Rdr.label (manys rd.l)) rd.l rd.at_ rd.fin=g;simp only[am,Nd.rec_,fenc_nol];refine CallD.intro (cnode_calls h hb) ?_;simp only[am];refine retK_intro rfl (Store.sub_refl _) ⟨rfl,rfl⟩
    rw[if_neg k5] at hp0;simp only[am,decide_eq_false (fun h=>k5 (e116.1 h))]
    by_cases k6:k=114
    · rw[if_pos k6] at hp0;simp only[am,decide_eq_true (e114.2 k6),h,crl];refine CallD.intro (Row_calls (Nat.le_refl _) hm) ?_;rw[hp0,if_neg (by simp[k4])];generalize readAt (Rdr.row (manys rd.l)) rd.l rd.at_ rd.fin=g;simp only[am,Nd.rec_,fenc_nol];refine CallD.intro (cnode_calls h hb) ?_;simp only[am];refine retK_intro rfl (Store.sub_refl _) ⟨rfl,rfl⟩
    rw[if_neg k6] at hp0;simp only[am,decide_eq_false (fun h=>k6 (e114.1 h))];refine retK_intro rfl (Store.sub_refl _) ⟨rfl,?_⟩;rw[hp0,if_neg (by simp[k4])];exact(Store.set_id h).symm
end Go.Proofs.Tryz

namespace Go.Proofs.Tryz
open Go.Am
set_option maxRecDepth 4000
set_option maxHeartbeats 4000000
def ac18:AC:=.seq (.reg [⟨(some 2),.alloc [(.int .i64 0),(.int .i64 0),(.str []),(.int .i64 0),(.sl .full 2 []),(.sl .full 4 []),(.int .i64 0),(.int .i64 0),(.int .i64 0),(.str []),(.sl .full 2 []),(.sl .full 5 []),(.int .i64 0),(.int .i64 0),(.str []),(.sl .full 2 []),(.sl .full 5 [])],none⟩,⟨(some 3),.alloc [(.int .i64 0),(.int .i64 0)],none⟩])
 (.seq (.reg [xm 12 0,xc 44 13 [.s 12],xm 11 13,xe 14 11 0,xe 15 11 1,⟨(some 5),.alloc [(.int .i64 0),(.int .i64 0)],none⟩,xm 4 14,xs 2 5 15])
 (.seq (.seq (.reg [xf 0 16 5,xo 17 16,xB .neq 18 17 0])
 (.cond (.s 18) (.seq (.draw [(⟨(some 19),.build [(.int .i64 0),(.int .i64 0),(.str []),(.int .i64 0),(.sl .full 2 []),(.sl .full 4 []),(.int .i64 0),(.int .i64 0),(.int .i64 0),(.str []),(.sl .full 2 []),(.sl .full 5 []),(.int .i64 0),(.int .i64 0),(.str []),(.sl .full 2 []),(.sl .full 5 [])] [],none⟩,[]),(xl 2 20 5,[1]),(xs 17 2 19,[]),(xs 2 3 20,[])])
 (.ret))
 (.skip)))
 (.seq (.reg [xm 22 4,xc 45 23 [.s 22],xm 21 23,xe 24 21 0,xe 25 21 1,xm 6 24,xs 2 5 25])
 (.seq (.seq (.reg [xf 0 26 5,xo 27 26,xB .neq 28 27 0,xm 29 28,xh 29 (xm 30 6),xh 29 (xL 31 30),xh 29 (xB .eql 32 31 0),⟨(some 33),.pick (.s 29) (.c (.bool true)) (.s 32),none⟩])
 (.cond (.s 33) (.seq (.draw [(⟨(some 34),.build [(.int .i64 0),(.int .i64 0),(.str []),(.int .i64 0),(.sl .full 2 []),(.sl .full 4 []),(.int .i64 0),(.int .i64 0),(.int .i64 0),(.str []),(.sl .full 2 []),(.sl .full 5 []),(.int .i64 0),(.int .i64 0),(.str []),(.sl .full 2 []),(.sl .full 5 [])] [],none⟩,[]),(xl 2 35 5,[1]),(xs 17 2 34,[]),(xs 2 3 35,[])])
 (.ret))
 (.skip)))
 (.seq (.reg [xm 36 6,xm 37 0,xT 38 37,⟨(some 39),.build [(.sl .full 5 []),(.int .i64 0),(.int .i64 0),(.int .i64 0),(.int .i64 0),(.int .i64 0),(.int .i64 0),(.str []),(.int .i64 0),(.sl .full 2 []),(.sl .full 4 []),(.int .i64 0),(.int .i64 0),(.int .i64 0),(.str []),(.sl .full 2 []),(.sl .full 5 []),(.int .i64 0),(.int .i64 0),(.str []),(.sl .full 2 []),(.sl .full 5 [])] [(0,1,(.s 36)),(2,1,(.s 38))],none⟩,⟨(some 40),.boxO 22 (.s 39),none⟩,xm 7 40])
 (.seq (.reg [xm 41 7,xc 46 42 [.s 41],⟨(some 8),.alloc [(.str []),(.int .i64 0)],none⟩,xs 2 8 42])
 (.seq (.draw [(xm 43 7,[]),(xf 0 44 8,[]),(xo 45 44,[]),(xc 47 46 [.s 45],[]),(xf 1 47 8,[]),(xo 48 47,[0]),(⟨(some 49),.build [(.int .i64 0),(.int .i64 0),(.str []),(.int .i64 0),(.sl .full 2 []),(.sl .full 4 []),(.int .i64 0),(.int .i64 0),(.int .i64 0),(.str []),(.sl .full 2 []),(.sl .full 5 []),(.int .i64 0),(.int .i64 0),(.str []),(.sl .full 2 []),(.sl .full 5 [])] [(0,1,(.s 46)),(1,1,(.s 48))],none⟩,[]),(xk 50 43,[]),(xf 5 51 50,[]),(xs 17 51 49,[])])
 (.seq (.seq (.reg [xm 52 7,xk 53 52,xf 5 54 53,xf 0 55 54,xo 56 55,xB .eql 57 56 0])
 (.cond (.s 57) (.seq (.draw [(⟨(some 58),.build [(.int .i64 0),(.int .i64 0),(.str []),(.int .i64 0),(.sl .full 2 []),(.sl .full 4 []),(.int .i64 0),(.int .i64 0),(.int .i64 0),(.str []),(.sl .full 2 []),(.sl .full 5 []),(.int .i64 0),(.int .i64 0),(.str []),(.sl .full 2 []),(.sl .full 5 [])] [],none⟩,[]),(xm 59 6,[]),(⟨(some 60),.idxA 5 (.s 59) (.c (.int .i64 0)),none⟩,[]),(xf 0 61 60,[]),(xf 2 62 61,[]),(xo 63 62,[1]),(⟨(some 64),.build [(.int .i64 0),(.int .i64 0)] [(0,1,(.c (.int .i64 2))),(1,1,(.s 63))],none⟩,[]),(xs 17 2 58,[]),(xs 2 3 64,[])])
 (.ret))
 (.skip)))
 (.seq (.rangeS [xm 65 7,xk 66 65,xf 5 67 66,xf 0 68 67,xo 69 68,xc 35 70 [.s 69],xw 1 71 70] (.s 71) 72 73 74 0 1
 (.seq (.reg [xe 75 73 2,xm 10 75])
 (.reg [xm 76 7,xm 77 10,xc 48 78 [.s 76,.s 77]])))
 (.seq (.seq (.reg [xm 79 7,xk 80 79,xf 3 81 80,xf 0 82 81,xo 83 82,xB .eql 84 83 0,xm 85 84,xg 85 (xm 86 7),xg 85 (xk 87 86),xg 85 (xf 1 88 87),xg 85 (xo 89 88),xg 85 (xm 90 6),xg 85 (xL 91 90),xg 85 (xb .lss 92 89 91),⟨(some 93),.pick (.s 85) (.s 92) (.c (.bool false)),none⟩])
 (.cond (.s 93) (.reg [xm 94 7,xc 49 95 [.s 94]])
 (.skip)))
 (.seq (.seq (.reg [xm 96 7,xk 97 96,xf 3 98 97,xf 0 99 98,xo 100 99,xB .neq 101 100 0])
 (.cond (.s 101) (.seq (.draw [(⟨(some 102),.build [(.int .i64 0),(.int .i64 0),(.str []),(.int .i64 0),(.sl .full 2 []),(.sl .full 4 []),(.int .i64 0),(.int .i64 0),(.int .i64 0),(.str []),(.sl .full 2 []),(.sl .full 5 []),(.int .i64 0),(.int .i64 0),(.str []),(.sl .full 2 []),(.sl .full 5 [])] [],none⟩,[]),(xm 103 7,[]),(xk 104 103,[]),(xf 3 105 104,[]),(xl 2 106 105,[1]),(xs 17 2 102,[]),(xs 2 3 106,[])])
 (.ret))
 (.skip)))
 (.seq (.reg [xm 107 7,xk 108 107,xf 5 109 108,xl 17 110 109,⟨(some 111),.build [(.int .i64 0),(.int .i64 0)] [],none⟩,xs 17 2 110,xs 2 3 111])
 (.ret)))))))))))))
theorem fn18:IsFn prog 18 ac18 [.cell 2 true 17,.cell 3 true 2] 112:=⟨f18,⟨[40],[],[]⟩,func18,by kernel_rfl,by kernel_rfl,by kernel_rfl,by kernel_rfl⟩
def flt (f:Int × Int):V:=.agg [.int .i64 f.1,.int .i64 f.2]
def SLr (s:List UInt8) (L:List Tree) (b r:Nat):List V:=[.str s,.any,.ptr (.loc 0) 0,.ptr (.loc 1) 0,.any,.any,.sl .no 5 (encs L),.ptr (.out r) 0]++List.replicate 64 .any++[.raw (.pointer (some ⟨b,0,none⟩))]++List.replicate 39 .any
theorem pcell_er {ps:List (Word × Word)}:(pcell ps).erase = .sl .no 4 (ps.map penc):=by cases ps<;>rfl
theorem cr17 {rd:Rdr} {c:Cmd} {pc:V}:takeN 17 ((rd.enc++c.encP pc).drop 5)=some (c.encP pc):=rfl
theorem ce_len {c:Cmd} {pc:V}:(c.encP pc).length=17:=rfl
theorem ce_one {c:Cmd} {ps:List (Word × Word)}:oneL (c.encP (pcell ps))=true:=by cases ps<;>rfl
theorem ce_ov {z0 z1 z2 z3 z4 z5 z6 z7 z8 z9 z10 z11 z12 z13 z14 z15 z16:V} {c:Cmd} {pc:V}:over [z0,z1,z2,z3,z4,z5,z6,z7,z8,z9,z10,z11,z12,z13,z14,z15,z16] (c.encP pc)=c.encP pc:=rfl
theorem ce_tk {c:Cmd} {pc:V}:takeN 17 (c.encP pc)=some (c.encP pc):=rfl
theorem ce_nol {c:Cmd} {ps:List (Word × Word)}:nolL (c.encP (pcell ps))=true:=by cases ps<;>rfl
theorem ce_er {c:Cmd}:eraseL (c.encP (pcell c.pairs))=c.enc:=by simp only[Cmd.enc,Cmd.encP,eraseL,pcell_er];rfl
def ce:=And.intro @ce_len <| And.intro @ce_one <| And.intro @ce_ov @ce_tk
def LCr:List (List V):=[zero17,[.int .i64 0,.int .i64 0]]
theorem cread_calls (s:List UInt8) {σ:Store} (hg:σ.con 0=some formCells) (hb:s.length+1≤big) (hm:manys (treeP (lexR s).1 [] []).1+8≤big) :
    PCalls prog 18 [.str s] σ fun v σ' => v = .tup [.agg (readP s).1.enc,flt (readP s).2]∧σ' = σ:=by
  have hll:=lexR_len s;refine fn18.calls ?_;simp only[slots,ac18,am,ams];refine cl (lexP_calls s σ hb) ?_;generalize hR:readP s=R;unfold readP at hR;simp only[am,Nat.reduceAdd,badL];cases hl:(lexR s).2 with
  | some a =>
    rw[hl] at hR;simp only[am,Nat.reduceAdd,decide_false,Int.reduceEq];refine retK_intro rfl (Store.sub_refl _) ⟨?_,rfl⟩;rw[←hR];rfl
  | none =>
    rw[hl] at hR;simp only[am,decide_true];refine cl (treeP_calls (lexR s).1 σ (by omega)) ?_;simp only[am,Nat.reduceAdd,fenc];simp only at hR;cases ht:(treeP (lexR s).1 [] []).2 with
    | some a =>
      rw[ht] at hR;simp only[am,Nat.reduceAdd,decide_false,Int.reduceEq,badC];refine retK_intro rfl (Store.sub_refl _) ⟨?_,rfl⟩;rw[←hR];rfl
    | none =>
      rw[ht] at hR;simp only at hR;simp only[am,encs_length,decide_true,badC];generalize (treeP (lexR s).1 [] []).1=l at hm hR ⊢;have hlen:=manys_ge l;cases l with
      | nil =>
        simp only[am,Nat.reduceAdd,decide_true,List.length_nil,show (((0:Nat):Int)=0)=True by simp];refine retK_intro rfl (Store.sub_refl _) ⟨?_,rfl⟩;rw[←hR];rfl
      | cons t ts =>
        generalize hL:t::ts=L at *;have hne:¬(L.length:Int)=0:=by rw[←hL];simp;omega
        simp only[am,Nat.reduceAdd,decide_eq_false hne];refine kO_intro fun r hr=>?_
        have hg' : ∀X,(σ.set r X).con 0=some formCells:=fun X=>hg
        have hr' : ∀X,(σ.set r X).box r=some X:=fun X=>Store.set_same _ _ _
        simp only[am];change PCalls prog 46 [.ptr (.out r) 0] (σ.set r ((⟨L,0,s.length,none⟩:Rdr).enc++zero17)) _;have hcmd:cmdP L s.length=if numberP (⟨L,0,s.length,none⟩:Rdr).word.1.text=0 then (.zero,2,t.tok.pos)
          else endP (partsP (formOf (numberP (⟨L,0,s.length,none⟩:Rdr).word.1.text)).2 ((⟨L,0,s.length,none⟩:Rdr).word.2,{Cmd.zero with op:=numberP (⟨L,0,s.length,none⟩:Rdr).word.1.text,pos:=(⟨L,0,s.length,none⟩:Rdr).word.1.pos})):=by rw[←hL];rfl
        rw[hcmd] at hR;refine(cword_calls (hr' _) (by simp) (show L.length≤big by omega)).mono ?_;rintro v _ ⟨rfl,rfl⟩;have hI:∀c,PInv L s.length ((⟨L,0,s.length,none⟩:Rdr).word.2,c):=fun c=>PInv.goes (x:=(⟨L,0,s.length,none⟩,c)) ⟨rfl,rfl,by simp,by simp;omega,by simp⟩ rfl (goes_word _) (take_fin _ 97)
        generalize (⟨L,0,s.length,none⟩:Rdr).word.2=r1 at hI hR ⊢;generalize (⟨L,0,s.length,none⟩:Rdr).word.1=w at hR ⊢;simp only[am,Nat.reduceAdd,Word.enc];refine CallD.intro (mnumber_calls w.text (hg' _)) ?_;have e5:∀X:List V,X.length=17→setAt (r1.enc++zero17) 5 X=r1.enc++X:=fun X hX=>by
          match X,hX with
          | [_,_,_,_,_,_,_,_,_,_,_,_,_,_,_,_,_],_=>rfl
        have h17:hasN 17 zero17=true:=rfl;have d5:∀X:List V,(r1.enc++X).drop 5=X:=fun X=>rfl
        generalize numberP w.text=op at hR ⊢;simp only[am,Nat.reduceAdd,e5,h17,d5]
        by_cases hop:op=0
        · rw[if_pos hop] at hR;simp only[am,decide_eq_true hop];refine idxL_intro (by omega) (c:=t.enc) (by rw[←hL];simp[encs_map]) ?_;simp only[am,Nat.reduceAdd,Tree.fl];refine retK_intro rfl (sub_set hr) ⟨?_,rfl⟩;rw[←hR];rfl
        · rw[if_neg hop] at hR;simp only[am,decide_eq_false hop];refine vc_rangeS ?_;simp only[am,d5];refine(of_calls op (hg' _)).mono ?_;rintro v σ' ⟨rfl,rfl⟩;simp only[am];generalize hks:(formOf op).2=ks at hR ⊢;generalize hx0:((r1,{Cmd.zero with op:=op,pos:=w.pos}):Rdr × Cmd)=x0 at hR;have hI0:PInv L s.length x0:=by rw[←hx0];exact hI _
          refine⟨ks,rfl,by rw[←hks];exact form_ascii op,fun b i st' => st' = ⟨SLr s L b r,LCr,σ.set r ((partsP (ks.take i) x0).1.enc++(partsP (ks.take i) x0).2.encP (pcell (partsP (ks.take i) x0).2.pairs))⟩,?_,?_,?_,?_⟩
          · intro b;simp only[];refine Upd.drops (l' := LCr) ?_ ?_ ?_ (by simp[SLr,LCr,List.replicate,loL,V.lo]) (by simp[LCr,zero17,loLL,loL,V.lo]) rfl
            · simp[SLr,List.replicate,am]
            · simp[LCr,zero17,am]
            · rw[←hx0];exact OLe.set (by simp[Rdr.enc,Cmd.encP,Cmd.zero,Nd.zero,Nd.kind,Nd.pos,Nd.text,Nd.names,Nd.kids,partsP,pcell,am])
          · rintro b i _ rfl;exact⟨rfl,by simp[SLr],by simp[SLr]⟩
          · rintro b i c _ hc rfl;simp only[SLr,List.replicate,am];have hIi:=partsP_inv (ks.take i) hI0;have hsn:partsP (ks.take (i+1)) x0=partP c (partsP (ks.take i) x0):=by rw[take_succ_of hc,partsP_snoc]
            have hpz:c=112→(partsP (ks.take i) x0).2.pairs=[]:=fun h=>by
              rw[partsP_pairs (ks.take i) (by rw[←hks];exact form_once op i (by rw[hks,hc,h])),←hx0];rfl
            rw[hsn];generalize partsP (ks.take i) x0=x at hIi hpz ⊢;have hle:=hIi.le;refine(part_calls (k:=c) (hr' _) (fun h=>by rw[hpz h];exact⟨rfl,rfl⟩) hIi.ge (by rw[hIi.hl];omega) (by omega)).mono ?_;rintro v _ ⟨rfl,rfl⟩;have hpc:(if c=112∧x.1.bad=none then pcell (partP c x).2.pairs else pcell x.2.pairs)=pcell (partP c x).2.pairs:=by
              by_cases h:c=112∧x.1.bad=none
              · rw[if_pos h]
              · rw[if_neg h,partP_pairs]
                by_cases h1:c=112
                · exact .inr fun h2=>h ⟨h1,h2⟩
                · exact .inl h1
            rw[hpc];simp only[am,amc];exact Upd.drops (l' := LCr) (by simp[am]) (by simp[LCr,zero17,am]) OLe.rfl (by simp[LCr,loL,V.lo]) (by simp[LCr,zero17,loLL,loL,V.lo]) rfl
          · rintro b _ rfl;simp only[SLr,LCr,List.replicate,am];rw[List.take_length];have hIe:=partsP_inv ks hI0;generalize partsP ks x0=x at hIe hR ⊢;obtain⟨rd,c⟩:=x;have h1:=hIe.hl;have h2:=hIe.ge;simp only at h1 h2;unfold endP at hR;simp only[h1] at hR;simp only[am,crl];cases hbad:rd.bad with
            | some a =>
              simp only[hbad] at hR;simp only[am,Nat.reduceAdd,decide_false,Int.reduceEq,badC,crl,hbad,zero17];refine retK_intro rfl (sub_set hr) ⟨?_,rfl⟩;have hR:(Cmd.zero,(2:Int),a)=R:=by simpa [hbad] using hR
              rw[←hR];rfl
            | none =>
              simp only[hbad,true_and] at hR;simp only[am,encs_length,decide_true,badC,crl]
              by_cases hend:rd.at_<L.length
              · rw[if_pos hend] at hR;simp only[am,decide_eq_true hend];refine(cfail_calls (hr' _) h2).mono ?_;rintro v _ ⟨rfl,rfl⟩;obtain⟨a,ha⟩:∃a,rd.fail.bad=some a:=by
                  have:=Rdr.fail_ok rd
                  cases hq:rd.fail.bad with
                  | none=>exact absurd hq this
                  | some a=>exact⟨a,rfl⟩
                rw[ha] at hR;simp only[am,Nat.reduceAdd,decide_false,Int.reduceEq,crl,ha,badC,zero17];refine retK_intro rfl (sub_set hr) ⟨?_,rfl⟩;rw[←hR];rfl
              · rw[if_neg hend,hbad] at hR;simp only[am,Nat.reduceAdd,decide_true,decide_eq_false hend,crl,hbad,badC,zero17,cr17,ce];refine retK_intro ?_ (sub_set hr) ⟨?_,rfl⟩
                · simp[V.nol,nolL,ce_nol]
                rw[←hR];simp[V.erase,eraseL,ce_er,flt]
end Go.Proofs.Tryz

namespace Go.Proofs.Tryz
open Go.Am
set_option maxRecDepth 4000
set_option maxHeartbeats 4000000
section
variable {c:Cmd}
theorem c_lop:ldC false 1 c.enc=some (.int .i64 c.op):=rfl
theorem c_lop0:ldC false 1 (c.enc.drop 0)=some (.int .i64 c.op):=rfl
theorem c_lp:ldC false 1 (c.enc.drop 1)=some (.int .i64 c.pos):=rfl
def cfo:=And.intro @c_lop <| And.intro @c_lop0 @c_lp
end
theorem form_len (op:Int):(formOf op).2.length≤3:=by
  unfold formOf;split
  · rename_i h1;have hlt:op.toNat<16:=by omega
    generalize op.toNat=n at hlt ⊢;have key:∀n<16,(formT.getD n ([],[])).2.length≤3:=by decide
    exact key n hlt
  · simp
end Go.Proofs.Tryz

namespace Go.Proofs.Tryz
open Go.Am
set_option maxRecDepth 4000
set_option maxHeartbeats 4000000
end Go.Proofs.Tryz

namespace Go.Proofs.Tryz
open Go.Am
set_option maxRecDepth 4000
set_option maxHeartbeats 4000000
section
variable {c:Cmd}
theorem c_l2:ldC false 1 (c.enc.drop 2)=some (.str c.name.text):=rfl
theorem c_t2:takeN 2 (c.enc.drop 2)=some [.str c.name.text,.int .i64 c.name.pos]:=rfl
theorem c_l4:ldC false 1 (c.enc.drop 4)=some (.sl .no 2 (c.names.map Word.enc)):=rfl
theorem c_l5:ldC false 1 (c.enc.drop 5)=some (.sl .no 4 (c.pairs.map penc)):=rfl
theorem c_l6:ldC false 1 (c.enc.drop 6)=some (.int .i64 c.pairsAt):=rfl
theorem c_t7:takeN 5 (c.enc.drop 7)=some c.left.enc:=by rw[Nd.enc_eq];rfl
theorem c_t12:takeN 5 (c.enc.drop 12)=some c.right.enc:=by rw[Nd.enc_eq];rfl
def cfv:=And.intro @c_l2 <| And.intro @c_t2 <| And.intro @c_l4 <| And.intro @c_l5 <| And.intro @c_l6 <| And.intro @c_t7 @c_t12
end
theorem pencs_at {l:List (Word × Word)} {j:Nat} {p:Word × Word} (h:l[j]?=some p):(l.map penc)[(j:Int).toNat]?=some (penc p):=by simp[h]
end Go.Proofs.Tryz

namespace Go.Proofs.Tryz
open Go.Am
set_option maxRecDepth 4000
set_option maxHeartbeats 4000000
def ac20:AC:=.seq (.reg [⟨(some 2),.box 2 (.s 0),none⟩,⟨(some 3),.box 17 (.s 1),none⟩,⟨(some 4),.alloc [(.int .i64 0),(.int .i64 0)],none⟩])
 (.seq (.reg [xl 2 6 2,xf 1 7 3,xo 8 7,⟨(some 9),.build [(.sl .full 2 []),(.sl .full 3 []),(.sl .full 3 []),(.int .i64 0),(.int .i64 0)] [(1,2,(.s 6)),(3,1,(.c (.int .i64 (-1)))),(4,1,(.s 8))],none⟩,⟨(some 10),.boxO 5 (.s 9),none⟩,xm 5 10])
 (.seq (.seq (.upd (.reg [xf 0 11 3,xo 12 11]))
 (.block 0 (.seq (.reg [xB .eql 14 12 10,xm 13 14])
 (.cond (.s 13) (.reg [xm 15 5,xf 2 16 3,xf 0 17 16,xo 18 17,xf 2 19 3,xf 1 20 19,xo 21 20,xc 56 22 [.s 15,.s 18,.s 21,.c (.int .i64 2)]])
 (.seq (.reg [xB .eql 24 12 15,xm 23 24])
 (.cond (.s 23) (.reg [xm 25 5,xf 2 26 3,xf 0 27 26,xo 28 27,xf 2 29 3,xf 1 30 29,xo 31 30,xc 56 32 [.s 25,.s 28,.s 31,.c (.int .i64 1)]])
 (.seq (.reg [xB .eql 34 12 8,xm 33 34])
 (.cond (.s 33) (.seq (.reg [xm 35 5,xf 2 36 3,xl 2 37 36,xc 57 38 [.s 35,.s 37]])
 (.seq (.reg [xm 39 5,xf 7 40 3,xl 5 41 40,xc 58 42 [.s 39,.s 41]])
 (.seq (.reg [xm 43 5,xf 12 44 3,xl 5 45 44,xc 58 46 [.s 43,.s 45]])
 (.draw [(xm 47 5,[]),(xk 48 47,[]),(xf 0 49 48,[]),(xf 12 50 3,[]),(xf 0 51 50,[]),(xo 52 51,[]),(xB .eql 53 52 8,[]),(xm 54 53,[]),(xh 54 (xf 12 55 3),[]),(xh 54 (xf 0 56 55),[]),(xh 54 (xo 57 56),[]),(xh 54 (xB .eql 58 57 9),[]),(⟨(some 59),.pick (.s 54) (.c (.bool true)) (.s 58),none⟩,[]),(xf 12 60 3,[]),(xf 1 61 60,[]),(xo 62 61,[]),(xc 59 63 [.s 49,.s 59,.c (.int .i64 6),.s 62],[])]))))
 (.seq (.reg [xB .eql 65 12 9,xm 64 65])
 (.cond (.s 64) (.seq (.reg [xm 66 5,xf 2 67 3,xl 2 68 67,xc 57 69 [.s 66,.s 68]])
 (.seq (.reg [xm 70 5,xf 7 71 3,xl 5 72 71,xc 60 73 [.s 70,.s 72]])
 (.reg [xm 74 5,xf 12 75 3,xl 5 76 75,xc 60 77 [.s 74,.s 76]])))
 (.skip)))))))))))
 (.seq (.reg [xm 78 5,xk 79 78,xf 0 80 79,xf 0 81 80,xo 82 81,xc 22 83 [.s 82],xs 2 4 83])
 (.ret))))
theorem fn20:IsFn prog 20 ac20 [.cell 4 true 2] 84:=⟨f20,⟨[10],[2],[]⟩,func20,by kernel_rfl,by kernel_rfl,by kernel_rfl,by kernel_rfl⟩
def ac22:AC:=.seq (.reg [⟨(some 2),.alloc [(.int .i64 0),(.int .i64 0)],none⟩])
 (.seq (.reg [⟨(some 3),.alloc [(.int .i64 0),(.int .i64 0)],none⟩])
 (.seq (.seq (.reg [xm 6 0,xL 7 6,xi 8 0])
 (.block 0 (.loop (.seq (.reg [xb .lss 9 8 7])
 (.seq (.cond (.s 9) (.skip)
 (.exit 0))
 (.seq (.block 1 (.seq (.reg [xA 2 10 6 8,xl 2 11 10,⟨(some 5),.alloc [(.int .i64 0),(.int .i64 0)],none⟩,xs 2 5 11])
 (.seq (.seq (.reg [xf 0 12 5,xo 13 12,xB .eql 14 13 0])
 (.cond (.s 14) (.exit 1)
 (.skip)))
 (.seq (.reg [xf 0 15 3,xo 16 15,xB .eql 17 16 0,xm 18 17,xh 18 (xf 0 19 5),xh 18 (xo 20 19),xh 18 (xf 0 21 3),xh 18 (xo 22 21),xh 18 (xb .lss 23 20 22),⟨(some 24),.pick (.s 18) (.c (.bool true)) (.s 23),none⟩,xm 25 24,xh 25 (xf 0 26 5),xh 25 (xo 27 26),xh 25 (xf 0 28 3),xh 25 (xo 29 28),xh 25 (xb .eql 30 27 29),xh 25 (xm 31 30),xg 31 (xf 1 32 5),xg 31 (xo 33 32),xg 31 (xf 1 34 3),xg 31 (xo 35 34),xg 31 (xb .lss 36 33 35),⟨(some 37),.pick (.s 31) (.s 36) (.c (.bool false)),(some (25,false))⟩,⟨(some 38),.pick (.s 25) (.c (.bool true)) (.s 37),none⟩])
 (.cond (.s 38) (.reg [xl 2 39 5,xs 2 3 39])
 (.skip))))))
 (.reg [xB .add 40 8 1,xm 8 40])))))))
 (.seq (.reg [xl 2 41 3,xs 2 2 41])
 (.ret))))
theorem fn22:IsFn prog 22 ac22 [.cell 2 true 2] 42:=⟨f22,⟨[],[],[]⟩,func22,by kernel_rfl,by kernel_rfl,by kernel_rfl,by kernel_rfl⟩
section
variable {c:Cmd}
theorem c_l3:ldC false 1 (c.enc.drop 3)=some (.int .i64 c.name.pos):=rfl
theorem c_l12:ldC false 1 (c.enc.drop 12)=some (.int .i64 c.right.kind):=rfl
theorem c_l13:ldC false 1 (c.enc.drop 13)=some (.int .i64 c.right.pos):=rfl
def cfx:=And.intro @c_l3 <| And.intro @c_l12 @c_l13
end
theorem flts_at {l:List Flt} {j:Nat} (h:j<l.length):(l.map Flt.enc)[((j:Nat):Int).toNat]?=some l[j].enc:=by simp[h]
theorem least_calls (l:List Flt) (σ:Store) (hl:l.length≤100000000):PCalls prog 22 [.sl .no 2 (l.map Flt.enc)] σ fun v σ' => v = .agg (leastF l).enc∧σ' = σ:=by
  refine fn22.calls ?_;simp only[slots,ac22,am,ams,List.length_map];obtain⟨F,hF⟩:∃F:Nat→Unit→St,∀i x,F i x=⟨[.any,.any,.ptr (.loc 0) 0,.ptr (.loc 1) 0,.any,.any,.sl .no 2 (l.map Flt.enc),.int .i64 (l.length:Nat),.int .i64 (i:Nat)]++List.replicate 33 .any,[Flt.zero.enc,(leastF (l.take i)).enc],σ⟩:=⟨_,fun _ _=>rfl⟩;obtain⟨JF,hJF⟩:∃JF:Nat→Unit→Prop,∀i x,JF i x=(True):=⟨_,fun _ _=>rfl⟩;refine vc_count (l.length) F JF _ hJF ?_ ?_ ?_
  · refine ent (()) ?_ ?_ ?_ ?_
    · exact Eq.mpr (hJF _ _) (trivial)
    all_goals simp[hF,List.replicate,am,lle_self,leastF,Flt.zero,Flt.enc]
  · rintro i x hi -;have hT:=least_take hi;simp only[hF,List.replicate,am,dlt hi];refine idxL_intro (by omega) (flts_at hi) ?_;simp only[am,Nat.reduceAdd,Flt.rec_];generalize leastF (l.take i)=o at hT;generalize l[i]=f at hT
    by_cases h0:f.cls=0
    · rw[bestF,if_pos h0] at hT;simp only[am,aml,reduceCtorEq,Flt.rec_,decide_eq_true h0,winc hi (by omega)];refine nxtD (()) hi ?_ ?_ ?_ ?_ ?_ ?_
      · exact Eq.mpr (hJF _ _) (trivial)
      all_goals simp[hF,List.replicate,am,lle_self,loL,loLL,V.lo,hT,Flt.r_lo]
    rw[bestF,if_neg h0] at hT;simp only[am,Flt.rec_,decide_eq_false h0];have yes:lessF o f=true→leastF (l.take (i+1))=f:=fun h=>by rw[hT,h,if_pos rfl]
    have no:lessF o f=false→leastF (l.take (i+1))=o:=fun h=>by rw[hT,h];rfl
    by_cases h1:o.cls=0
    · have e:=yes (by simp[lessF,h1]);simp only[am,aml,Flt.rec_,decide_eq_true h1,winc hi (by omega)];refine nxtD (()) hi ?_ ?_ ?_ ?_ ?_ ?_
      · exact Eq.mpr (hJF _ _) (trivial)
      all_goals simp[hF,List.replicate,am,lle_self,loL,loLL,V.lo,e,Flt.r_lo]
    simp only[am,Flt.rec_,decide_eq_false h1]
    by_cases h2:f.cls<o.cls
    · have e:=yes (by simp[lessF,h2]);simp only[am,aml,Flt.rec_,decide_eq_true h2,winc hi (by omega)];refine nxtD (()) hi ?_ ?_ ?_ ?_ ?_ ?_
      · exact Eq.mpr (hJF _ _) (trivial)
      all_goals simp[hF,List.replicate,am,lle_self,loL,loLL,V.lo,e,Flt.r_lo]
    simp only[am,Flt.rec_,decide_eq_false h2]
    by_cases h3:f.cls=o.cls
    case neg =>
      have e:=no (by simp[lessF,h1,h2,h3]);simp only[am,aml,decide_eq_false h3,winc hi (by omega)];refine nxtD (()) hi ?_ ?_ ?_ ?_ ?_ ?_
      · exact Eq.mpr (hJF _ _) (trivial)
      all_goals simp[hF,List.replicate,am,lle_self,loL,loLL,V.lo,e,Flt.r_lo]
    simp only[am,Flt.rec_,decide_eq_true h3]
    by_cases h4:f.loc<o.loc
    · have e:=yes (by simp[lessF,h3,h4]);simp only[am,aml,Flt.rec_,decide_eq_true h4,winc hi (by omega)];refine nxtD (()) hi ?_ ?_ ?_ ?_ ?_ ?_
      · exact Eq.mpr (hJF _ _) (trivial)
      all_goals simp[hF,List.replicate,am,lle_self,loL,loLL,V.lo,e,Flt.r_lo]
    · have e:=no (by simp[lessF,h1,h2,h4]);simp only[am,aml,decide_eq_false h4,winc hi (by omega)];refine nxtD (()) hi ?_ ?_ ?_ ?_ ?_ ?_
      · exact Eq.mpr (hJF _ _) (trivial)
      all_goals simp[hF,List.replicate,am,lle_self,loL,loLL,V.lo,e,Flt.r_lo]
  · rintro x -;simp only[hF,List.replicate,am,aml,dnl,aml,Flt.rec_,List.take_length];refine retS ?_;simp[V.erase,Flt.r_er]
theorem fitfault_calls (s:Scp) (c:Cmd) {σ:Store} (hs:s.ok) (hg:TZ σ) (hl:c.left.cnt≤100000) (hr:c.right.cnt≤100000) (hwl:c.left.wt≤big) (hwr:c.right.wt≤big) :
    PCalls prog 20 [.agg s.enc,.agg c.enc] σ fun v σ' => v = .agg (faultC s c).enc∧σ' = σ:=by
  refine fn20.calls ?_;simp only[slots,ac20,am,ams,Nat.reduceAdd,Int.reduceNeg,wr_,Scp.rec_,cfl,cfo];intro b hb;simp only[am,Int.reduceNeg];refine Upd.tok 0 fun τ hτ=>⟨_,_,(σ.set b _).set b (wenc τ [] s (-1) c.pos),LTo.rfl,rfl,fun i c' hc=>⟨c',hc,LTo.rfl⟩,OTo.set set_box (by simp[wenc,lto]),?_⟩
  have hτ:σ.tip τ=none:=hτ;rw[Store.set_set,show (σ.set b (wenc τ [] s (-1) c.pos)).setTip τ 0=wput σ b τ [] s (-1) c.pos from rfl];have fin:∀(L:List Flt) (t:List V) (lo:List (List V)) (lat:Int),leastF L=faultC s c→RetK (fun v σ' => v = .agg (faultC s c).enc∧σ' = σ) ⟨t,lo,wput σ b τ L s lat c.pos⟩ (.agg (leastF L).enc):=fun L t lo lat h=>by
    rw[h];exact retK_intro rfl (wput_sub hb hτ) ⟨rfl,rfl⟩
  have hv:∀{t:List UInt8} {y k lat:Int},(varFl s lat t y k).length≤1:=varFl_len;have hlatl:=@latFl_len s c.name;have e1:optI (findL s.lats c.name.text)=latI s c:=rfl;have hlt:latI s c<s.lats.length:=by
    rw[latI];cases h:findL s.lats c.name.text with
    | none=>simp only[optI];omega
    | some k=>have:=(find_lt h).1;simp only[optI];omega
  simp only[am,Int.reduceNeg,cfo]
  by_cases h10:c.op=10
  · simp only[am,Nat.reduceAdd,Int.reduceNeg,cfv,cfx,decide_eq_true h10];refine cl (svar_calls σ b τ [] s (-1) c.pos c.name.pos 2 c.name.text (by simp) hs) ?_;simp only[am,Int.reduceNeg,wr_,List.nil_append];have hlen:=@varFl_len s (-1) c.name.text c.name.pos 2;refine cl (PCalls.weak (as' := [.sl .no 2 ((varFl s (-1) c.name.text c.name.pos 2).map Flt.enc)]) (least_calls (varFl s (-1) c.name.text c.name.pos 2) _ (by omega)) ⟨VLe.no,trivial⟩ OLe.rfl) ?_;simp only[am,Int.reduceNeg,Flt.rec_];exact fin _ _ _ _ (by rw[faultC,cmdFl];rw[if_pos h10])
  simp only[am,Int.reduceNeg,decide_eq_false h10]
  by_cases h15:c.op=15
  · simp only[am,Nat.reduceAdd,Int.reduceNeg,cfv,cfx,decide_eq_true h15];refine cl (svar_calls σ b τ [] s (-1) c.pos c.name.pos 1 c.name.text (by simp) hs) ?_;simp only[am,Int.reduceNeg,wr_,List.nil_append];have hlen:=@varFl_len s (-1) c.name.text c.name.pos 1;refine cl (PCalls.weak (as' := [.sl .no 2 ((varFl s (-1) c.name.text c.name.pos 1).map Flt.enc)]) (least_calls (varFl s (-1) c.name.text c.name.pos 1) _ (by omega)) ⟨VLe.no,trivial⟩ OLe.rfl) ?_;simp only[am,Int.reduceNeg,Flt.rec_];exact fin _ _ _ _ (by rw[faultC,cmdFl];rw[if_neg h10,if_pos h15])
  simp only[am,Int.reduceNeg,decide_eq_false h15]
  by_cases h8:c.op=8
  · simp only[am,Int.reduceNeg,cfv,decide_eq_true h8];have l1:=@labFl_len s (latI s c) c.left;have l2:=@labFl_len s (latI s c) c.right;refine cl (slat_calls σ b τ [] s (-1) c.pos c.name (by simp) hs) ?_;rw[e1,List.nil_append];simp only[am,Int.reduceNeg,Nd.rec_,cfv];refine cl (slabel_calls σ b τ (latFl s c.name) s (latI s c) c.pos c.left hs hg hb hlt (by omega) (by omega) hwl) ?_;simp only[am,Int.reduceNeg,Nd.rec_,cfv];refine cl (slabel_calls σ b τ (latFl s c.name++labFl s (latI s c) c.left) s (latI s c) c.pos c.right hs hg hb hlt (by simp only[List.length_append];omega) (by omega) hwr) ?_;simp only[am,Int.reduceNeg,cfx];have hlen:(latFl s c.name++labFl s (latI s c) c.left++labFl s (latI s c) c.right).length≤200001:=by simp only[List.length_append];omega
    have done:∀(d:List Flt) (t:List V) (lo:List (List V)),d=defFl c.right→RetK (fun v σ' => v = .agg (faultC s c).enc∧σ' = σ) ⟨t,lo,wput σ b τ ((latFl s c.name++labFl s (latI s c) c.left++labFl s (latI s c) c.right)++d) s (latI s c) c.pos⟩ (.agg (leastF ((latFl s c.name++labFl s (latI s c) c.left++labFl s (latI s c) c.right)++d)).enc):=fun d t lo hd=>fin _ _ _ _ (by rw[faultC,cmdFl,if_neg h10,if_neg h15,if_pos h8,hd])
    by_cases k8:c.right.kind=8∨c.right.kind=9
    · have hsel:(decide (c.right.kind=8)=true)∨(decide (c.right.kind=8)=false∧decide (c.right.kind=9)=true):=by
        by_cases h:c.right.kind=8
        · exact .inl (decide_eq_true h)
        · exact .inr ⟨decide_eq_false h,decide_eq_true (by simpa [h] using k8)⟩
      rcases hsel with q1 | ⟨q1,q2⟩
      case' inl=>simp only[am,Nat.reduceAdd,Int.reduceNeg,cfx,q1]
      case' inr=>simp only[am,Nat.reduceAdd,Int.reduceNeg,cfx,q1,q2]
      all_goals
        refine CallD.intro (tell_add σ b τ (latFl s c.name++labFl s (latI s c) c.left++labFl s (latI s c) c.right) s (latI s c) c.pos 6 c.right.pos (by omega)) ?_;simp only[am,Int.reduceNeg,wr_];refine cl (PCalls.weak (as' := [.sl .no 2 (((latFl s c.name++labFl s (latI s c) c.left++labFl s (latI s c) c.right)++[(⟨6,c.right.pos⟩:Flt)]).map Flt.enc)]) (least_calls ((latFl s c.name++labFl s (latI s c) c.left++labFl s (latI s c) c.right)++[(⟨6,c.right.pos⟩:Flt)]) _ (by simp only[List.length_append,List.length_singleton];omega)) ⟨VLe.no,trivial⟩ OLe.rfl) ?_;simp only[am,Int.reduceNeg,Flt.rec_];exact done _ _ _ (by rw[defFl,if_pos k8])
    · simp only[am,Nat.reduceAdd,Int.reduceNeg,cfx,decide_eq_false (fun h=>k8 (.inl h)),decide_eq_false (fun h=>k8 (.inr h))];refine CallD.intro (tell_id σ b τ (latFl s c.name++labFl s (latI s c) c.left++labFl s (latI s c) c.right) s (latI s c) c.pos 6 c.right.pos (by omega)) ?_;simp only[am,Int.reduceNeg,wr_];refine cl (PCalls.weak (as' := [.sl .no 2 ((latFl s c.name++labFl s (latI s c) c.left++labFl s (latI s c) c.right).map Flt.enc)]) (least_calls (latFl s c.name++labFl s (latI s c) c.left++labFl s (latI s c) c.right) _ (by omega)) ⟨VLe.no,trivial⟩ OLe.rfl) ?_;simp only[am,Int.reduceNeg,Flt.rec_]
      have:=done [] ?_ ?_ (by rw[defFl,if_neg k8])
      · rw[List.append_nil] at this;exact this
  simp only[am,Int.reduceNeg,decide_eq_false h8]
  by_cases h9:c.op=9
  · simp only[am,Int.reduceNeg,cfv,decide_eq_true h9];refine cl (slat_calls σ b τ [] s (-1) c.pos c.name (by simp) hs) ?_;rw[e1,List.nil_append];simp only[am,Int.reduceNeg,Nd.rec_,cfv];refine cl (srow_calls σ b τ (latFl s c.name) s (latI s c) c.pos c.left hs hg hb hlt (by omega) hl hwl) ?_;simp only[am,Int.reduceNeg,Nd.rec_,cfv];have r1:=@rowFl_len s (latI s c) c.pos c.left;have r2:=@rowFl_len s (latI s c) c.pos c.right;refine cl (srow_calls σ b τ (latFl s c.name++rowFl s (latI s c) c.pos c.left) s (latI s c) c.pos c.right hs hg hb hlt (by simp only[List.length_append];omega) hr hwr) ?_;simp only[am,Int.reduceNeg,wr_];refine cl (PCalls.weak (as' := [.sl .no 2 ((latFl s c.name++rowFl s (latI s c) c.pos c.left++rowFl s (latI s c) c.pos c.right).map Flt.enc)]) (least_calls (latFl s c.name++rowFl s (latI s c) c.pos c.left++rowFl s (latI s c) c.pos c.right) _ (by simp only[List.length_append];omega)) ⟨VLe.no,trivial⟩ OLe.rfl) ?_;simp only[am,Int.reduceNeg,Flt.rec_];exact fin _ _ _ _ (by rw[faultC,cmdFl];rw[if_neg h10,if_neg h15,if_neg h8,if_pos h9])
  simp only[am,Int.reduceNeg,wr_,decide_eq_false h9];refine cl (PCalls.weak (as' := [.sl .no 2 (([]:List Flt).map Flt.enc)]) (least_calls ([]:List Flt) _ (by simp)) ⟨VLe.no,trivial⟩ OLe.rfl) ?_;simp only[am,Int.reduceNeg,Flt.rec_];exact fin _ _ _ _ (by rw[faultC,cmdFl];rw[if_neg h10,if_neg h15,if_neg h8,if_neg h9])
end Go.Proofs.Tryz

namespace Go.Proofs.Tryz
open Go.Am
set_option maxRecDepth 4000
set_option maxHeartbeats 4000000
def ac36:AC:=.seq (.reg [⟨(some 4),.mv (.c (.str [])),none⟩])
 (.seq (.reg [⟨(some 5),.mv (.c (.sl .full 1 [])),none⟩])
 (.seq (.seq (.reg [xm 7 0,xL 8 7,xi 9 0])
 (.block 0 (.loop (.seq (.reg [xb .lss 10 9 8])
 (.seq (.cond (.s 10) (.skip)
 (.exit 0))
 (.seq (.block 1 (.seq (.reg [xm 11 9,xm 6 11])
 (.seq (.seq (.reg [xm 12 6,xB .gtr 13 12 0])
 (.cond (.s 13) (.reg [xm 14 5,xm 15 1,⟨(some 16),.appS (.s 14) (.s 15),none⟩,xm 5 16])
 (.skip)))
 (.reg [xm 17 5,xm 18 0,xm 19 6,xA 1 20 18 19,xo 21 20,⟨(some 22),.appS (.s 17) (.s 21),none⟩,xm 5 22]))))
 (.reg [xB .add 23 9 1,xm 9 23])))))))
 (.seq (.reg [xm 24 5,⟨(some 25),.cvBS (.s 24),none⟩,xm 4 25])
 (.ret))))
theorem fn36:IsFn prog 36 ac36 [.tmp 4] 26:=⟨f36,⟨[],[],[]⟩,func36,by kernel_rfl,by kernel_rfl,by kernel_rfl,by kernel_rfl⟩
def ac37:AC:=.seq (.reg [⟨(some 2),.mv (.c (.sl .full 1 [])),none⟩])
 (.seq (.reg [⟨(some 3),.mv (.c (.sl .full 1 [])),none⟩])
 (.seq (.seq (.reg [xm 6 0,xL 7 6,xi 8 0])
 (.block 0 (.loop (.seq (.reg [xb .lss 9 8 7])
 (.seq (.cond (.s 9) (.skip)
 (.exit 0))
 (.seq (.block 1 (.seq (.reg [xA 2 10 6 8,xl 2 11 10,⟨(some 5),.alloc [(.str []),(.int .i64 0)],none⟩,xs 2 5 11])
 (.reg [xm 12 3,xf 0 13 5,xo 14 13,⟨(some 15),.bslice 1 [(.s 14)],none⟩,xa 1 16 12 15,xm 3 16])))
 (.reg [xB .add 17 8 1,xm 8 17])))))))
 (.seq (.reg [xm 18 3,xm 2 18])
 (.ret))))
theorem fn37:IsFn prog 37 ac37 [.tmp 2] 19:=⟨f37,⟨[],[],[]⟩,func37,by kernel_rfl,by kernel_rfl,by kernel_rfl,by kernel_rfl⟩
def ac38:AC:=.seq (.reg [⟨(some 2),.mv (.c (.str [])),none⟩])
 (.seq (.reg [xm 3 0,xc 36 4 [.s 3,.c (.str [44])],⟨(some 5),.cat (.c (.str [123])) (.s 4),none⟩,⟨(some 6),.cat (.s 5) (.c (.str [125])),none⟩,xm 2 6])
 (.ret))
theorem fn38:IsFn prog 38 ac38 [.tmp 2] 7:=⟨f38,⟨[],[],[]⟩,func38,by kernel_rfl,by kernel_rfl,by kernel_rfl,by kernel_rfl⟩
def ac39:AC:=.seq (.reg [⟨(some 2),.mv (.c (.sl .full 1 [])),none⟩])
 (.seq (.reg [⟨(some 3),.mv (.c (.sl .full 1 [])),none⟩])
 (.seq (.seq (.reg [xm 6 0,xL 7 6,xi 8 0])
 (.block 0 (.loop (.seq (.reg [xb .lss 9 8 7])
 (.seq (.cond (.s 9) (.skip)
 (.exit 0))
 (.seq (.block 1 (.seq (.reg [xA 4 10 6 8,xl 4 11 10,⟨(some 5),.alloc [(.str []),(.int .i64 0),(.str []),(.int .i64 0)],none⟩,xs 4 5 11])
 (.reg [xm 12 3,⟨(some 13),.idxP 2 2 (.s 5) (.c (.int .i64 0)),none⟩,xf 0 14 13,xo 15 14,⟨(some 16),.cat (.s 15) (.c (.str [60])),none⟩,⟨(some 17),.idxP 2 2 (.s 5) (.c (.int .i64 1)),none⟩,xf 0 18 17,xo 19 18,⟨(some 20),.cat (.s 16) (.s 19),none⟩,⟨(some 21),.bslice 1 [(.s 20)],none⟩,xa 1 22 12 21,xm 3 22])))
 (.reg [xB .add 23 8 1,xm 8 23])))))))
 (.seq (.reg [xm 24 3,xm 2 24])
 (.ret))))
theorem fn39:IsFn prog 39 ac39 [.tmp 2] 25:=⟨f39,⟨[],[],[]⟩,func39,by kernel_rfl,by kernel_rfl,by kernel_rfl,by kernel_rfl⟩
def encT (l:List (List UInt8)):List (List V):=l.map fun s=>[V.str s]
theorem encT_length {l:List (List UInt8)}:(encT l).length=l.length:=List.length_map ..
theorem encT_at {l:List (List UInt8)} {j:Nat} {s:List UInt8} (h:l[j]?=some s):(encT l)[(j:Int).toNat]?=some [.str s]:=by simp[encT,h]
def inv34 (l:List (List UInt8)) (sep:List UInt8) (σ:Store) (i τ:Nat):St :=
  ⟨[.sl .no 1 (encT l),.str sep,.any,.any,.any,.sl (.tk τ) 1 (encB (joinS sep (l.take i))),.any,.any,.int .i64 l.length,.int .i64 (i:Nat)]++List.replicate 16 .any,[],σ.setTip τ (joinS sep (l.take i)).length⟩
theorem mjoin_calls (l:List (List UInt8)) (sep:List UInt8) (σ:Store) (hl:l.length≤big) (hb:(joinS sep l).length≤big) :
    PCalls prog 36 [.sl .no 1 (encT l),.str sep] σ fun v σ' => v = .str (joinS sep l)∧σ' = σ:=by
  refine fn36.calls ?_;simp only[slots,ac36,am,ams,Nat.reduceAdd,encT_length];refine vc_loop (fun p:{p:Nat × Nat // σ.tip p.2=none∧p.1≤l.length}=>inv34 l sep σ p.1.1 p.1.2) (fun p=>l.length - p.1.1) ?_ ?_
  · refine Upd.tokEnter 0 fun τ hτ=>⟨⟨(0,τ),hτ,by simp⟩,?_,rfl,rfl⟩
    simp[inv34,List.replicate,lto,joinS,encB]
  · rintro⟨⟨i,τ⟩,hτ,hi⟩;simp only at hτ hi;simp only[inv34,List.replicate,am];have wi:IntKind.i64.wrap ((i:Int)+1)=((i+1:Nat):Int):=by simp only[big] at hl;rw[wrap_i64 (by omega) (by omega)];simp
    by_cases hlt:i<l.length
    · have hs:=joinS_take (sep:=sep) hlt;have hm:=joinS_le (sep:=sep) (l:=l) (i:=i+1);rw[hs] at hm;simp only[List.length_append] at hm;simp only[am,decide_eq_true (show (i:Int)<l.length by omega)]
      by_cases h0:0<i
      case' pos =>
        rw[if_pos h0] at hs hm;simp only[am,amc,decide_eq_true (show (0:Int)<i by omega)];refine⟨_,rfl,?_⟩;refine app_tk (by rw[encB_length,encB_length];omega) (by rw[encB_length,setTip_tip_same]) ?_;simp only[am,setTip_setTip];rw[←encB_append,encB_length,encB_length,←List.length_append]
      case' neg =>
        rw[if_neg h0,List.append_nil] at hs;rw[if_neg h0] at hm;simp only[am,decide_eq_false (show ¬(0:Int)<i by omega)]
      all_goals
        refine idxL_intro (by omega) (encT_at (List.getElem?_eq_getElem hlt)) ?_;simp only[am,amc];refine⟨_,rfl,?_⟩;refine app_tk (by rw[encB_length,encB_length];simp at hm ⊢;omega) (by rw[encB_length,setTip_tip_same]) ?_;simp only[am,setTip_setTip,wi];rw[←encB_append,encB_length,encB_length,←List.length_append,←hs];exact Upd.again (I:=fun p:{p:Nat × Nat // σ.tip p.2=none∧p.1≤l.length}=>inv34 l sep σ p.1.1 p.1.2) (μ:=fun p=>l.length - p.1.1) ⟨(i+1,τ),hτ,hlt⟩ (by simp;omega) (by simp[inv34,am,List.replicate]) LLLe.rfl OLe.rfl
    · have hlt:i=l.length:=by omega
      subst hlt;simp only[am,amc,decide_eq_false (show ¬(l.length:Int)<l.length by omega),List.take_length];refine⟨_,_,rfl,?_⟩;refine retK_intro rfl (sub_tip hτ) ⟨?_,rfl⟩;simp[V.erase]
def inv35 (l:List Word) (σ:Store) (i τ:Nat) (loc:List (List V)):St :=
  ⟨[.any,.any,.any,.sl (.tk τ) 1 (encT ((l.take i).map Word.text)),.any,.any,.sl .no 2 (l.map Word.enc),.int .i64 l.length,.int .i64 (i:Nat)]++List.replicate 10 .any,loc,σ.setTip τ i⟩
theorem encT_snoc {l:List (List UInt8)} {s:List UInt8}:encT l++[[.str s]]=encT (l++[s]):=by simp[encT]
theorem texts_calls (l:List Word) (σ:Store) (hl:l.length+1≤big):PCalls prog 37 [.sl .no 2 (l.map Word.enc)] σ fun v σ' => v = .sl .no 1 (encT (l.map Word.text))∧σ' = σ:=by
  refine fn37.calls ?_;simp only[slots,ac37,am,ams];refine vc_loop (fun p:{p:Nat × Nat // σ.tip p.2=none∧p.1≤l.length}=>inv35 l σ p.1.1 p.1.2 []) (fun p=>l.length - p.1.1) ?_ ?_
  · refine Upd.tokEnter 0 fun τ hτ=>⟨⟨(0,τ),hτ,by simp⟩,?_,rfl,rfl⟩
    simp[inv35,List.replicate,lto,encT]
  · rintro⟨⟨i,τ⟩,hτ,hi⟩;simp only at hτ hi;simp only[inv35,List.replicate,am];have wi:IntKind.i64.wrap ((i:Int)+1)=((i+1:Nat):Int):=by simp only[big] at hl;rw[wrap_i64 (by omega) (by omega)];simp
    by_cases hlt:i<l.length
    · have htl:((l.take i).map Word.text).length=i:=by simp;omega
      have hsn:(l.take i).map Word.text++[l[i].text]=(l.take (i+1)).map Word.text:=by rw[List.take_succ_eq_append_getElem hlt,List.map_append,List.map_singleton]
      simp only[am,decide_eq_true (show (i:Int)<l.length by omega)];refine idxL_intro (by omega) (wencs_at (List.getElem?_eq_getElem hlt)) ?_;simp only[am,Nat.reduceAdd,Word.enc];refine app_tk (by rw[encT_length,htl];simp;omega) (by rw[encT_length,htl,setTip_tip_same]) ?_;simp only[am,encT_length,setTip_setTip,wi,htl];rw[encT_snoc,hsn];exact Upd.againD (I:=fun p:{p:Nat × Nat // σ.tip p.2=none∧p.1≤l.length}=>inv35 l σ p.1.1 p.1.2 []) (μ:=fun p=>l.length - p.1.1) ⟨(i+1,τ),hτ,hlt⟩ (by simp;omega) (by simp[inv35,am,List.replicate]) (by simp[inv35,am]) OLe.rfl (by simp[inv35,List.replicate,loL,V.lo]) (by simp[inv35,loLL])
    · have hlt:i=l.length:=by omega
      subst hlt;simp only[am,decide_eq_false (show ¬(l.length:Int)<l.length by omega),List.take_length];refine retK_intro rfl (sub_tip hτ) ⟨?_,rfl⟩;simp[V.erase]
def inv37 (l:List (Word × Word)) (σ:Store) (i τ:Nat) (loc:List (List V)):St :=
  ⟨[.any,.any,.any,.sl (.tk τ) 1 (encT ((l.take i).map pairT)),.any,.any,.sl .no 4 (l.map penc),.int .i64 l.length,.int .i64 (i:Nat)]++List.replicate 16 .any,loc,σ.setTip τ i⟩
theorem pairsT_calls (l:List (Word × Word)) (σ:Store) (hl:l.length+1≤big) (hp:psum l≤big):PCalls prog 39 [.sl .no 4 (l.map penc)] σ fun v σ' => v = .sl .no 1 (encT (l.map pairT))∧σ' = σ:=by
  refine fn39.calls ?_;simp only[slots,ac39,am,ams];refine vc_loop (fun p:{p:Nat × Nat // σ.tip p.2=none∧p.1≤l.length}=>inv37 l σ p.1.1 p.1.2 []) (fun p=>l.length - p.1.1) ?_ ?_
  · refine Upd.tokEnter 0 fun τ hτ=>⟨⟨(0,τ),hτ,by simp⟩,?_,rfl,rfl⟩
    simp[inv37,List.replicate,lto,encT]
  · rintro⟨⟨i,τ⟩,hτ,hi⟩;simp only at hτ hi;simp only[inv37,List.replicate,am];have wi:IntKind.i64.wrap ((i:Int)+1)=((i+1:Nat):Int):=by simp only[big] at hl;rw[wrap_i64 (by omega) (by omega)];simp
    by_cases hlt:i<l.length
    · have htl:((l.take i).map pairT).length=i:=by simp;omega
      have hsn:(l.take i).map pairT++[pairT l[i]]=(l.take (i+1)).map pairT:=by rw[List.take_succ_eq_append_getElem hlt,List.map_append,List.map_singleton]
      simp only[am,decide_eq_true (show (i:Int)<l.length by omega)];refine idxL_intro (by omega) (pencs_at (List.getElem?_eq_getElem hlt)) ?_;simp only[am,amc,Nat.reduceAdd,penc];have hpl:=psum_at hlt;refine idxPL_ptr (by omega) (by omega) ?_;simp only[am,amc,Int.reduceToNat,Nat.reduceMul];refine⟨by simp;omega,?_⟩;refine idxPL_ptr (by omega) (by omega) ?_;simp only[am,Int.reduceToNat,Nat.reduceMul];refine⟨by simp;omega,?_⟩;refine app_tk (by rw[encT_length,htl];simp;omega) (by rw[encT_length,htl,setTip_tip_same]) ?_;simp only[am,encT_length,setTip_setTip,wi,htl];rw[show l[i].1.text++[60]++l[i].2.text=pairT l[i] from rfl,encT_snoc,hsn];exact Upd.againD (I:=fun p:{p:Nat × Nat // σ.tip p.2=none∧p.1≤l.length}=>inv37 l σ p.1.1 p.1.2 []) (μ:=fun p=>l.length - p.1.1) ⟨(i+1,τ),hτ,hlt⟩ (by simp;omega) (by simp[inv37,am,List.replicate]) (by simp[inv37,am]) OLe.rfl (by simp[inv37,List.replicate,loL,V.lo]) (by simp[inv37,loLL])
    · have hlt:i=l.length:=by omega
      subst hlt;simp only[am,decide_eq_false (show ¬(l.length:Int)<l.length by omega),List.take_length];refine retK_intro rfl (sub_tip hτ) ⟨?_,rfl⟩;simp[V.erase]
theorem braces_calls (l:List (List UInt8)) (σ:Store) (hl:l.length≤big) (hb:(joinC l).length+2≤big):PCalls prog 38 [.sl .no 1 (encT l)] σ fun v σ' => v = .str (braceT l)∧σ' = σ:=by
  refine fn38.calls ?_;simp only[slots,ac38,am,ams];refine cl (mjoin_calls l [44] σ hl (by rw[joinS_C];omega)) ?_;simp only[am,joinS_C];refine⟨by simp;omega,by simp;omega,?_⟩;refine retS ?_;simp[V.erase,braceT]
end Go.Proofs.Tryz

namespace Go.Proofs.Tryz
open Go.Am
set_option maxRecDepth 4000
set_option maxHeartbeats 4000000
def ac15:AC:=.seq (.reg [⟨(some 1),.box 17 (.s 0),none⟩,⟨(some 2),.mv (.c (.str [])),none⟩])
 (.seq (.reg [xf 0 8 1,xo 9 8,xc 35 10 [.s 9],⟨(some 3),.alloc [(.str []),(.str [])],none⟩,xs 2 3 10])
 (.seq (.reg [xf 0 11 3,xo 12 11,⟨(some 13),.bslice 1 [(.s 12)],none⟩,xm 4 13])
 (.seq (.reg [xf 7 14 1,xl 5 15 14,xf 12 16 1,xl 5 17 16,⟨(some 18),.bslice 5 [(.s 15),(.s 17)],none⟩,xm 5 18])
 (.seq (.rangeS [xf 1 19 3,xo 20 19] (.s 20) 21 22 23 0 1
 (.seq (.reg [xe 24 22 2,xm 7 24])
 (.seq (.reg [xm 25 7])
 (.block 2 (.seq (.reg [⟨(some 36),.binI .eql (.s 25) (.c (.int .i32 110)),none⟩,xm 35 36])
 (.cond (.s 35) (.reg [xm 37 4,xf 2 38 1,xf 0 39 38,xo 40 39,⟨(some 41),.bslice 1 [(.s 40)],none⟩,xa 1 42 37 41,xm 4 42])
 (.seq (.reg [⟨(some 44),.binI .eql (.s 25) (.c (.int .i32 102)),none⟩,xm 43 44])
 (.cond (.s 43) (.reg [xm 45 4,xf 4 46 1,xo 47 46,xc 37 48 [.s 47],xc 36 49 [.s 48,.c (.str [44])],⟨(some 50),.bslice 1 [(.s 49)],none⟩,xa 1 51 45 50,xm 4 51])
 (.seq (.reg [⟨(some 53),.binI .eql (.s 25) (.c (.int .i32 119)),none⟩,xm 52 53])
 (.cond (.s 52) (.reg [xm 54 4,xf 4 55 1,xo 56 55,xc 37 57 [.s 56],xc 38 58 [.s 57],⟨(some 59),.bslice 1 [(.s 58)],none⟩,xa 1 60 54 59,xm 4 60])
 (.seq (.reg [⟨(some 62),.binI .eql (.s 25) (.c (.int .i32 112)),none⟩,xm 61 62])
 (.cond (.s 61) (.reg [xm 63 4,xf 5 64 1,xo 65 64,xc 39 66 [.s 65],xc 38 67 [.s 66],⟨(some 68),.bslice 1 [(.s 67)],none⟩,xa 1 69 63 68,xm 4 69])
 (.seq (.reg [xm 26 4,xm 27 5,⟨(some 28),.idxA 5 (.s 27) (.c (.int .i64 0)),none⟩,xl 5 29 28,xc 40 30 [.s 29],⟨(some 31),.bslice 1 [(.s 30)],none⟩,xa 1 32 26 31,xm 4 32])
 (.reg [xm 33 5,⟨(some 34),.slc 5 (.s 33) (some (.c (.int .i64 1))) none none,none⟩,xm 5 34]))))))))))))))
 (.seq (.reg [xm 70 4,xc 36 71 [.s 70,.c (.str [32])],xm 2 71])
 (.ret))))))
theorem fn15:IsFn prog 15 ac15 [.tmp 2] 72:=⟨f15,⟨[],[],[]⟩,func15,by kernel_rfl,by kernel_rfl,by kernel_rfl,by kernel_rfl⟩
def stT (c:Cmd) (σ:Store) (ks:List UInt8) (b i τ:Nat):St :=
  ⟨[.any,.ptr (.loc 0) 0,.any,.any,.sl (.tk τ) 1 (encT (piecesT c (ks.take i)).1),.sl .no 5 ((piecesT c (ks.take i)).2.map Nd.enc)]++List.replicate 15 .any++[.raw (.pointer (some ⟨b,0,none⟩))]++List.replicate 50 .any,[c.enc,[.str (formOf c.op).1,.str ks]],σ.setTip τ (i+1)⟩
theorem ctext_calls (c:Cmd) {σ:Store} (hg:σ.con 0=some formCells) (hw:16*c.wt+64≤big):PCalls prog 15 [.agg c.enc] σ fun v σ' => v = .str (textC c)∧σ' = σ:=by
  have hcw:c.wt=c.name.text.length+wsum c.names+psum c.pairs+c.left.wt+c.right.wt:=rfl;have hn1:=psum_word c.names;have hp1:=psum_len c.pairs;refine fn15.calls ?_;simp only[slots,ac15,am,ams,cfl,cfo];refine cl (of_calls c.op hg) ?_;simp only[am,Nat.reduceAdd,Nd.rec_,cfv];refine vc_rangeS ?_;simp only[am];have hft:=form_terms c.op;have htx:textC c=joinS [32] (piecesT c (formOf c.op).2).1:=rfl;have hkl:=form_len c.op;generalize hks:(formOf c.op).2=ks at hft htx hkl;refine⟨ks,rfl,by rw[←hks];exact form_ascii c.op,fun b i st' => ∃τ:{τ:Nat // σ.tip τ=none},st' = stT c σ ks b i τ.1,?_,?_,?_,?_⟩
  · intro b;refine Upd.tokEnter 1 fun τ hτ=>⟨⟨τ,hτ⟩,?_,?_,rfl⟩
    · simp[stT,List.replicate,lto,encT,piecesT];exact⟨VTo.tok rfl,VTo.le VLe.no⟩
    · simp[stT]
  · rintro b i _ ⟨τ,rfl⟩;exact⟨rfl,by simp[stT],by simp[stT]⟩
  · rintro b i k _ hk ⟨⟨τ,hτ⟩,rfl⟩;have hi:i<ks.length:=(List.getElem?_eq_some_iff.1 hk).1;have hki:ks.take (i+1)=ks.take i++[k]:=by rw[take_succ_of hk]
    obtain⟨o1,o2,o3,o4⟩:=pieces_ok c (ks.take i);have hsn:=piecesT_snoc c (ks.take i) k;rw[←hki] at hsn;have ho3:(encT (piecesT c (ks.take i)).1).length=i+1:=by rw[encT_length,o3,List.length_take];omega
    have hkk:∀n:UInt8,((k.toNat:Nat):Int)=(n.toNat:Nat)↔k=n:=fun n=>by
      constructor
      · intro h;exact UInt8.toNat_inj.1 (by omega)
      · rintro rfl;rfl
    have e110:((k.toNat:Nat):Int)=110↔k=110:=hkk 110;have e102:((k.toNat:Nat):Int)=102↔k=102:=hkk 102;have e119:((k.toNat:Nat):Int)=119↔k=119:=hkk 119;have e112:((k.toNat:Nat):Int)=112↔k=112:=hkk 112;have ht:=hft i hi k hk;simp only[stT,List.replicate,am];generalize hX:piecesT c (ks.take i)=X at *;obtain⟨rows,ts⟩:=X;simp only at o1 o2 o3 o4 ho3;simp only;rw[hsn];simp only[stepC];have hlb:rows.length+1≤big:=by
      have:(List.take i ks).length≤3:=by rw[List.length_take];omega
      simp only[big];omega
    by_cases k1:k=110
    · have hp:pieceT k c (ts.headD .zero)=c.name.text:=by subst k1;rfl
      have hq:isTerm k=false:=by subst k1;rfl
      simp only[am,cfv,decide_eq_true (e110.2 k1),hp,hq];refine app_tk (by rw[ho3];simp only[List.length_singleton,big] at *;omega) (by rw[ho3,setTip_tip_same]) ?_;simp only[am,amc,setTip_setTip,ho3];rw[encT_snoc];exact Upd.weak (by simp[am]) (by simp[am]) OLe.rfl ⟨⟨τ,hτ⟩,rfl⟩
    simp only[am,decide_eq_false (fun h=>k1 (e110.1 h))]
    by_cases k2:k=102
    · have hp:pieceT k c (ts.headD .zero)=joinC (c.names.map Word.text):=by subst k2;rfl
      have hq:isTerm k=false:=by subst k2;rfl
      simp only[am,cfv,decide_eq_true (e102.2 k2),hp,hq];refine cl (texts_calls c.names _ (by omega)) ?_;simp only[am];refine cl (mjoin_calls (c.names.map Word.text) [44] _ (by rw[List.length_map];omega) (by rw[joinS_C];omega)) ?_;simp only[am,joinS_C];refine app_tk (by rw[ho3];simp only[List.length_singleton,big] at *;omega) (by rw[ho3,setTip_tip_same]) ?_;simp only[am,amc,setTip_setTip,ho3];rw[encT_snoc];exact Upd.weak (by simp[am]) (by simp[am]) OLe.rfl ⟨⟨τ,hτ⟩,rfl⟩
    simp only[am,decide_eq_false (fun h=>k2 (e102.1 h))]
    by_cases k3:k=119
    · have hp:pieceT k c (ts.headD .zero)=braceT (c.names.map Word.text):=by subst k3;rfl
      have hq:isTerm k=false:=by subst k3;rfl
      simp only[am,cfv,decide_eq_true (e119.2 k3),hp,hq];refine cl (texts_calls c.names _ (by omega)) ?_;simp only[am];refine cl (braces_calls (c.names.map Word.text) _ (by rw[List.length_map];omega) (by omega)) ?_;simp only[am];refine app_tk (by rw[ho3];simp only[List.length_singleton,big] at *;omega) (by rw[ho3,setTip_tip_same]) ?_;simp only[am,amc,setTip_setTip,ho3];rw[encT_snoc];exact Upd.weak (by simp[am]) (by simp[am]) OLe.rfl ⟨⟨τ,hτ⟩,rfl⟩
    simp only[am,decide_eq_false (fun h=>k3 (e119.1 h))]
    by_cases k4:k=112
    · have hp:pieceT k c (ts.headD .zero)=braceT (c.pairs.map pairT):=by subst k4;rfl
      have hq:isTerm k=false:=by subst k4;rfl
      simp only[am,cfv,decide_eq_true (e112.2 k4),hp,hq];refine cl (pairsT_calls c.pairs _ (by omega) (by omega)) ?_;simp only[am];refine cl (braces_calls (c.pairs.map pairT) _ (by rw[List.length_map];omega) (by omega)) ?_;simp only[am];refine app_tk (by rw[ho3];simp only[List.length_singleton,big] at *;omega) (by rw[ho3,setTip_tip_same]) ?_;simp only[am,amc,setTip_setTip,ho3];rw[encT_snoc];exact Upd.weak (by simp[am]) (by simp[am]) OLe.rfl ⟨⟨τ,hτ⟩,rfl⟩
    simp only[am,decide_eq_false (fun h=>k4 (e112.1 h))];have hq:isTerm k=true:=by simp[isTerm,k1,k2,k3,k4]
    have ht2:=ht hq;obtain⟨n,ns,hts⟩:∃n ns,ts=n::ns:=by
      rw[o4]
      match (List.filter isTerm (List.take i ks)).length,ht2 with
      | 0,_=>exact⟨_,_,rfl⟩
      | 1,_=>exact⟨_,_,rfl⟩
    have hnw:n.wt≤c.wt:=o2 n (by rw[hts];simp);have hp:pieceT k c (ts.headD .zero)=n.txt:=by rw[hts];simp[pieceT,k1,k2,k3,k4]
    have htt:ts.map Nd.enc=n.enc::ns.map Nd.enc:=by rw[hts];rfl
    have htl:ts.tail=ns:=by rw[hts];rfl
    simp only[am,hp,hq,htl,htt];refine idxL_intro (by omega) (c:=n.enc) (by simp) ?_;simp only[am,Nd.rec_];refine cl (text_calls _ n _ (Nat.le_refl _) (by omega)) ?_;simp only[am];refine app_tk (by rw[ho3];simp only[List.length_singleton,big] at *;omega) (by rw[ho3,setTip_tip_same]) ?_;simp only[am,amc,setTip_setTip,ho3];refine slcL_from (a:=1) (by simp) ?_;simp only[am,amc];rw[encT_snoc];exact Upd.weak (by simp[am]) (by simp[am]) OLe.rfl ⟨⟨τ,hτ⟩,rfl⟩
  · rintro b _ ⟨⟨τ,hτ⟩,rfl⟩;simp only[stT,List.replicate,am];rw[List.take_length];obtain⟨o1,o2,o3,o4⟩:=pieces_ok c ks;have hjl:=joinS_len _ o1;rw[o3] at hjl;have hjb:(joinS [32] (piecesT c ks).1).length≤big:=by
      have:(ks.length+1)*(c.wt+8+1)≤4*(c.wt+8+1):=Nat.mul_le_mul_right _ (by omega)
      omega
    refine(PCalls.weak (mjoin_calls (piecesT c ks).1 [32] (σ.setTip τ (ks.length+1)) (by rw[o3];simp only[big];omega) hjb) ?_ OLe.rfl).mono ?_
    · simp[am]
    rintro v _ ⟨rfl,rfl⟩;simp only[am];refine retK_intro rfl (sub_tip hτ) ⟨?_,rfl⟩;rw[htx];rfl
end Go.Proofs.Tryz
