/-
  For every scope and assertion: whether the assertion fits the scope is the same by both readers (FitRight), where what comes in is of bulk at most 1048576.
-/
import Derived.Test.YtmgdldfokpcbkaaGreatDoorProg
import Derived.ProofKit
import Derived.OpenShut
import Derived.JoinedCond
import Derived.ChangeStays
import Derived.ReadAgain
import Derived.Deep.DeepHandedRow
import Derived.Lib.LaidTab
import Derived.Stop.LaidErr
import Derived.Test.YtmgdldfokpcbkaaGreatDoorCards
import Derived.Test.YtmgdldfokpcbkaaGreatDoorTie
import Derived.Test.YtmgdldfokpcbkaaGreatDoorRight6
set_option linter.unusedVariables false
set_option linter.unusedSimpArgs false
set_option linter.defProp false
set_option linter.unusedSectionVars false

namespace Go.Proofs.Tryz
open Go.Am
set_option maxRecDepth 4000
set_option maxHeartbeats 4000000
def ac23:AC:=.seq (.reg [⟨(some 3),.box 2 (.s 0),none⟩,⟨(some 5),.box 5 (.s 2),none⟩,⟨(some 6),.alloc atmZ,none⟩])
 (.seq (.seq (.reg [xf 0 11 5,xo 12 11,xB .eql 13 12 1])
 (.cond (.s 13) (.seq (.reg [xl 2 15 3,xf 2 16 5,xo 17 16,xc 21 18 [.s 15,.s 17],xm 14 18,xe 19 14 0,xe 20 14 1,xm 7 19,xm 8 20])
 (.seq (.reg [xm 21 8,⟨(some 22),.build atmZ [(0,1,(.s 21))],none⟩,xs 9 6 22])
 (.ret)))
 (.skip)))
 (.seq (.drawA [9,10] [(xf 0 24 3,[]),(xo 25 24,[]),(xm 26 1,[]),(xA 3 27 25 26,[]),(xf 1 28 27,[]),(xl 2 29 28,[]),(xf 4 30 5,[]),(xo 31 30,[]),(⟨(some 32),.idxA 5 (.s 31) (.c (.int .i64 0)),none⟩,[]),(xl 5 33 32,[]),(xc 64 34 [.s 29,.s 33],[]),(xm 23 34,[]),(xe 35 23 0,[]),(xe 36 23 1,[]),(⟨none,.mv (.c .any),none⟩,[]),(⟨none,.mv (.c .any),none⟩,[]),(⟨(some 9),.boxS 8 (.s 35),none⟩,[]),(⟨(some 10),.boxS 2 (.s 36),none⟩,[])])
 (.seq (.reg [xl 8 37 9,⟨(some 38),.build atmZ [(0,1,(.c (.int .i64 (-1)))),(1,8,(.s 37))],none⟩,xs 9 6 38])
 (.ret))))
theorem fn23:IsFn prog 23 ac23 [.cell 6 true 9] 39:=⟨f23,⟨[],[],[]⟩,func23,by kernel_rfl,by kernel_rfl,by kernel_rfl,by kernel_rfl⟩
def ac24:AC:=.seq (.reg [⟨(some 3),.box 2 (.s 0),none⟩,⟨(some 5),.box 5 (.s 2),none⟩,⟨(some 6),.alloc [(.sl .full 10 []),(.int .i64 0)],none⟩])
 (.seq (.reg [⟨(some 12),.build [(.sl .full 10 []),(.int .i64 0)] [(1,1,(.c (.int .i64 (-1))))],none⟩,⟨(some 7),.alloc [(.sl .full 10 []),(.int .i64 0)],none⟩,xs 2 7 12])
 (.seq (.seq (.reg [xf 0 13 5,xo 14 13,xB .eql 15 14 1])
 (.cond (.s 15) (.seq (.reg [xl 2 17 3,xf 2 18 5,xo 19 18,xc 21 20 [.s 17,.s 19],xm 16 20,xe 21 16 0,xe 22 16 1,xf 1 23 7,xs 1 23 22])
 (.seq (.reg [xl 2 24 7,xs 2 6 24])
 (.ret)))
 (.skip)))
 (.seq (.seq (.reg [xf 4 25 5,xo 26 25,xL 27 26,xi 28 0])
 (.block 0 (.loop (.seq (.reg [xb .lss 29 28 27])
 (.seq (.cond (.s 29) (.skip)
 (.exit 0))
 (.seq (.block 1 (.seq (.reg [xA 5 30 26 28,xl 5 31 30,⟨(some 9),.alloc [(.int .i64 0),(.int .i64 0),(.str []),(.sl .full 2 []),(.sl .full 5 [])],none⟩,xs 5 9 31])
 (.draw [(xf 0 32 7,[]),(xo 33 32,[1]),(xf 2 34 9,[]),(xo 35 34,[1]),(xl 2 36 3,[]),(xm 37 1,[]),(xf 4 38 9,[]),(xo 39 38,[]),(⟨(some 40),.idxA 5 (.s 39) (.c (.int .i64 0)),none⟩,[]),(xl 5 41 40,[]),(xc 23 42 [.s 36,.s 37,.s 41],[]),(⟨(some 43),.build fldZ [(0,1,(.s 35)),(1,9,(.s 42))],none⟩,[]),(⟨(some 44),.bslice 10 [(.s 43)],none⟩,[]),(xa 10 45 33 44,[]),(xf 0 46 7,[]),(xs 1 46 45,[])])))
 (.reg [xB .add 47 28 1,xm 28 47])))))))
 (.seq (.seq (.reg [xf 3 48 5,xo 49 48,xL 50 49,xi 51 0])
 (.block 2 (.loop (.seq (.reg [xb .lss 52 51 50])
 (.seq (.cond (.s 52) (.skip)
 (.exit 2))
 (.seq (.block 3 (.seq (.reg [xA 2 53 49 51,xl 2 54 53,⟨(some 11),.alloc [(.str []),(.int .i64 0)],none⟩,xs 2 11 54])
 (.reg [xl 2 56 3,xf 0 57 11,xo 58 57,xc 21 59 [.s 56,.s 58],xm 55 59,xe 60 55 0,xe 61 55 1,xf 1 62 7,xs 1 62 61])))
 (.reg [xB .add 63 51 1,xm 51 63])))))))
 (.seq (.reg [xl 2 64 7,xs 2 6 64])
 (.ret))))))
theorem fn24:IsFn prog 24 ac24 [.cell 6 true 2] 65:=⟨f24,⟨[],[],[]⟩,func24,by kernel_rfl,by kernel_rfl,by kernel_rfl,by kernel_rfl⟩
theorem fatom_calls (s:Scp) (lat:Nat) (n:Nd) {σ:Store} (hs:s.ok) (hg:TZ σ) (hlat:lat<s.lats.length) (hk:n.kind=1∨0<n.kids.length) (hc:n.cnt≤100000) (hw:n.wt≤big) :
    PCalls prog 23 [.agg s.enc,.int .i64 (lat:Nat),.agg n.enc] σ fun v σ' => v = .agg (atmF s lat n).enc∧σ' = σ:=by
  refine fn23.calls ?_;simp only[slots,ac23,z29_,Nat.reduceAdd,Int.reduceNeg,Atm.rec_]
  by_cases h1:n.kind=1
  · simp only[am,Int.reduceNeg,Scp.rec_,Nd.fl,decide_eq_true h1];refine cl (scfind_calls s n.text σ hs.1 hs.2.1) ?_;simp only[am,Int.reduceNeg,Atm.rec_];exact retK_intro (v:=.agg (Atm.mk (optI (findV s.vars n.text)) .zero).enc) Atm.r_nol (Store.sub_refl _) ⟨by rw[atmF,if_pos h1];simp only[V.erase,Atm.r_er],rfl⟩
  have hk:0<n.kids.length:=hk.resolve_left h1;have hm:n.kids[0]∈n.kids:=List.getElem_mem _;have hmc:=cnt_kid hm;have hmw:=kid_wt hm;simp only[am,Nat.reduceAdd,decide_true,Int.reduceNeg,Nat.reduceLT,Scp.rec_,decide_eq_false h1];refine idxL_intro (by omega) (lats_at hlat) ?_;simp only[am,Int.reduceNeg,Scp.rec_,Nd.fl];refine idxL_intro (n:=0) (by omega) (nencs_at (j:=0) (List.getElem?_eq_getElem hk)) ?_;simp only[am,Int.reduceNeg,Shp.rec_,Nd.rec_];refine CallD.intro (elem_calls s.lats[lat].shape n.kids[0] hg (hs.2.2 _ (List.getElem_mem hlat)) (fun m hm=>by obtain⟨a,b,c⟩:=parts_ok (n:=n.kids[0]) (by omega) m hm;exact⟨by omega,by omega,fun q hq=>by have:=c q hq;omega⟩) (by omega)) ?_;have ee:atmF s lat n=⟨-1,(elemF s.lats[lat].shape n.kids[0]).1⟩:=by rw[atmF,if_neg h1,shapeF_at hlat,getD_at hk]
  generalize elemF s.lats[lat].shape n.kids[0]=g at ee;obtain⟨e,o⟩:=g;cases o with
  | none =>
    simp only[am,Nat.reduceAdd,Int.reduceNeg,Elm.rec_,Atm.rec_,show fltV none=[.int .i64 0,.int .i64 0] from rfl];exact retK_intro (v:=.agg (Atm.mk (-1) e).enc) Atm.r_nol (Store.sub_refl _) ⟨by rw[ee];simp only[V.erase,Atm.r_er],rfl⟩
  | some q =>
    simp only[am,Nat.reduceAdd,Int.reduceNeg,Elm.rec_,Atm.rec_,show fltV (some q)=[.int .i64 4,.int .i64 q] from rfl];exact retK_intro (v:=.agg (Atm.mk (-1) e).enc) Atm.r_nol (Store.sub_refl _) ⟨by rw[ee];simp only[V.erase,Atm.r_er],rfl⟩
def fldK (k:Nd):Prop:=0<k.kids.length∧∀a∈k.kids,a.kind=1∨0<a.kids.length
theorem frow_calls (s:Scp) (lat:Nat) (n:Nd) {σ:Store} (hs:s.ok) (hg:TZ σ) (hlat:lat<s.lats.length) (hk:∀k∈n.kids,fldK k) (hn1:n.names.length≤1) (hc:n.cnt≤100000) (hw:n.wt≤big) :
    PCalls prog 24 [.agg s.enc,.int .i64 (lat:Nat),.agg n.enc] σ fun v σ' => v = .agg (rtmF s lat n).enc∧σ' = σ:=by
  refine fn24.calls ?_;simp only[slots,ac24,z29_,Nat.reduceAdd,Int.reduceNeg,Fld.rec_]
  by_cases h1:n.kind=1
  · simp only[am,Int.reduceNeg,Scp.rec_,Nd.fl,decide_eq_true h1];refine cl (scfind_calls s n.text σ hs.1 hs.2.1) ?_;simp only[am,Nat.reduceAdd,Int.reduceNeg];exact retK_intro rfl (Store.sub_refl _) ⟨by rw[rtmF,if_pos h1];rfl,rfl⟩
  simp only[am,List.length_map,Int.reduceNeg,Nd.fl,List.length_map,decide_eq_false h1];have hkc:=cnt_kids n;obtain⟨Q,hQ⟩:∃Q:Nat→List (List V),∀i,Q i=((n.kids.take i).map (fldF s lat)).map Fld.enc:=⟨_,fun _=>rfl⟩;have hQ0:Q 0=[]:=by rw[hQ];rfl
  have hQn:Q n.kids.length=(n.kids.map (fldF s lat)).map Fld.enc:=by rw[hQ,List.take_length]
  have hQl:∀{i:Nat},i≤n.kids.length→(Q i).length=i:=fun {i} hi=>by rw[hQ];simp;omega
  have hQs:∀{i:Nat} (hi:i<n.kids.length) (h1:0<n.kids[i].kids.length),Q (i+1)=Q i++[(Fld.mk n.kids[i].text (atmF s lat n.kids[i].kids[0])).enc]:=fun {i} hi h1=>by
    rw[hQ,hQ,List.take_succ_eq_append_getElem hi,List.map_append,List.map_append,List.map_singleton,List.map_singleton,fldF,getD_at h1]
  obtain⟨F,hF⟩:∃F:Nat→Nat→St,∀i τ,F i τ=⟨[.any,.int .i64 (lat:Nat),.any,.ptr (.loc 0) 0,.any,.ptr (.loc 1) 0,.ptr (.loc 2) 0,.ptr (.loc 3) 0,.any,.any,.any,.any,.any,.any,.any,.any,.any,.any,.any,.any,.any,.any,.any,.any,.any,.any,.sl .no 5 (n.kids.map Nd.enc),.int .i64 (n.kids.length:Nat),.int .i64 (i:Nat)]++List.replicate 36 .any,[s.enc,n.enc,[.sl .full 10 [],.int .i64 0],[.sl (.tk τ) 10 (Q i),.int .i64 (-1)]],σ.setTip τ i⟩:=⟨_,fun _ _=>rfl⟩;obtain⟨JF,hJF⟩:∃JF:Nat→Nat→Prop,∀i τ,JF i τ=(σ.tip τ=none):=⟨_,fun _ _=>rfl⟩;refine vc_count (n.kids.length) F JF _ hJF ?_ ?_ ?_
  · refine entTL 0 fun τ hτ=>⟨τ,Eq.mpr (hJF _ _) hτ,?_,?_,?_⟩
    all_goals simp[hF,List.replicate,lto,llto,hQ0]
  · rintro i τ hi hτ;have hm:n.kids[i]∈n.kids:=List.getElem_mem _;have hmc:=cnt_kid hm;have hmw:=kid_wt hm;obtain⟨hk1,hk2⟩:=hk _ hm;have hm2:n.kids[i].kids[0]∈n.kids[i].kids:=List.getElem_mem _;have hmc2:=cnt_kid hm2;have hmw2:=kid_wt hm2;have hgs:TZ (σ.setTip τ i):=hg;have hlen:=hQl (Nat.le_of_lt hi);simp only[hF,List.replicate,am,dlt hi,Int.reduceNeg];refine idxL_intro (by omega) (nencs_at (List.getElem?_eq_getElem hi)) ?_;simp only[z29_,Nat.reduceAdd,Int.reduceNeg];refine idxL_intro (n:=0) (by omega) (nencs_at (j:=0) (List.getElem?_eq_getElem hk1)) ?_;simp only[am,Int.reduceNeg,Scp.rec_,Nd.rec_];refine CallD.intro (fatom_calls s lat n.kids[i].kids[0] hs hgs hlat (hk2 _ hm2) (by omega) (by omega)) ?_;simp only[am,Int.reduceNeg,Atm.rec_,Fld.rec_];refine appD_tk (by rw[hlen];simp[big];omega) (by rw[hlen];exact setTip_tip_same) ?_;rw[hlen];simp only[am,aml,Int.reduceNeg,Nd.fl,setTip_setTip,winc hi (by omega),List.length_singleton];refine nxtD (τ) hi ?_ ?_ ?_ ?_ ?_ ?_
    · exact Eq.mpr (hJF _ _) (hτ)
    all_goals simp[hF,List.replicate,am,lle_self,loL,loLL,V.lo,hQs hi hk1,Scp.r_lo,Nd.r_lo]
  · rintro τ hτ;have hlen:=hQl (Nat.le_refl _);have hnc:=cnt_names n;simp only[hF,List.replicate,am,aml,dnl,aml,Int.reduceNeg,Nd.fl,List.length_map];obtain⟨F2,hF2⟩:∃F2:Nat→Unit→St,∀j y,F2 j y=⟨[.any,.any,.any,.ptr (.loc 0) 0,.any,.any,.ptr (.loc 2) 0,.ptr (.loc 3) 0,.any,.any,.any,.any,.any,.any,.any,.any,.any,.any,.any,.any,.any,.any,.any,.any,.any,.any,.any,.any,.any,.any,.any,.any,.any,.any,.any,.any,.any,.any,.any,.any,.any,.any,.any,.any,.any,.any,.any,.any,.any,.sl .no 2 (n.names.map Word.enc),.int .i64 (n.names.length:Nat),.int .i64 (j:Nat)]++List.replicate 13 .any,[s.enc,n.enc,[.sl .full 10 [],.int .i64 0],[.sl (.tk τ) 10 (Q n.kids.length),.int .i64 (tailF s (n.names.take j))]],σ.setTip τ n.kids.length⟩:=⟨_,fun _ _=>rfl⟩;obtain⟨JF2,hJF2⟩:∃JF2:Nat→Unit→Prop,∀j y,JF2 j y=(True):=⟨_,fun _ _=>rfl⟩;refine vc_count (n.names.length) F2 JF2 _ hJF2 ?_ ?_ ?_
    · refine ent (()) ?_ ?_ ?_ ?_
      · exact Eq.mpr (hJF2 _ _) (trivial)
      all_goals simp[hF2,List.replicate,am,lle_self,tailF]
    · rintro j y hj -;obtain rfl:j=0:=by omega
      have et:=tailF_one (s:=s) hj;simp only[hF2,List.replicate,am,dlt hj];refine idxL_intro (by omega) (words_at hj) ?_;simp only[am,Nat.reduceAdd,wd_t,Scp.rec_,Word.rec_];refine cl (scfind_calls s n.names[0].text _ hs.1 hs.2.1) ?_;simp only[am,aml,winc hj (by omega)];refine nxtD (()) hj ?_ ?_ ?_ ?_ ?_ ?_
      · exact Eq.mpr (hJF2 _ _) (trivial)
      all_goals simp[hF2,List.replicate,am,lle_self,loL,loLL,V.lo,et,Scp.r_lo,Nd.r_lo]
    · rintro y -;simp only[hF2,List.replicate,am,aml,dnl,Nat.reduceAdd,aml,List.take_length,hQn];have e:rtmF s lat n=⟨n.kids.map (fldF s lat),tailF s n.names⟩:=by rw[rtmF,if_neg h1]
      refine retK_intro rfl (sub_tip hτ) ⟨by rw[e];rfl,rfl⟩
end Go.Proofs.Tryz

namespace Go.Proofs.Tryz
open Go.Am
set_option maxRecDepth 4000
set_option maxHeartbeats 4000000
def ac9:AC:=.seq (.reg [⟨(some 2),.box 2 (.s 0),none⟩,⟨(some 3),.box 17 (.s 1),none⟩,⟨(some 4),.alloc astZ,none⟩,⟨(some 5),.mv (.c (.bool false)),none⟩])
 (.seq (.seq (.reg [xf 0 9 3,xo 10 9,xB .lss 11 10 8,xm 12 11,xh 12 (xf 0 13 3),xh 12 (xo 14 13),xh 12 (xB .gtr 15 14 10),⟨(some 16),.pick (.s 12) (.c (.bool true)) (.s 15),none⟩,xm 17 16,xh 17 (xl 17 18 3),xh 17 (xc 20 19 [.s 18]),⟨(some 20),.not (.s 19),(some (17,false))⟩,⟨(some 21),.pick (.s 17) (.c (.bool true)) (.s 20),none⟩,xm 22 21,xh 22 (xl 2 23 2),xh 22 (xl 17 24 3),xh 22 (xc 17 25 [.s 23,.s 24]),xh 22 (xw 0 26 25),xh 22 (xB .neq 27 26 0),⟨(some 28),.pick (.s 22) (.c (.bool true)) (.s 27),none⟩])
 (.cond (.s 28) (.seq (.reg [⟨(some 29),.build astZ [],none⟩,xs 18 4 29,⟨(some 5),.mv (.c (.bool false)),none⟩])
 (.ret))
 (.skip)))
 (.seq (.reg [xl 2 31 2,xf 2 32 3,xf 0 33 32,xo 34 33,xc 21 35 [.s 31,.s 34],xm 30 35,xe 36 30 0,xe 37 30 1,xm 6 36,xm 7 37])
 (.seq (.reg [xf 0 38 3,xo 39 38,xm 40 6,⟨(some 41),.build astZ [(0,1,(.s 39)),(1,1,(.s 40))],none⟩,⟨(some 8),.alloc astZ,none⟩,xs 18 8 41])
 (.seq (.seq (.reg [xf 0 42 3,xo 43 42])
 (.block 0 (.seq (.reg [xB .eql 45 43 8,xm 44 45])
 (.cond (.s 44) (.seq (.reg [xl 2 47 2,xm 48 6,xf 7 49 3,xl 5 50 49,xc 22 51 [.s 47,.s 48,.s 50],xm 46 51,xe 52 46 0,xe 53 46 1,xf 2 54 8,xs 1 54 52])
 (.reg [xl 2 55 2,xm 56 6,xf 12 57 3,xl 5 58 57,xc 23 59 [.s 55,.s 56,.s 58],xf 3 60 8,xs 9 60 59]))
 (.seq (.reg [xB .eql 62 43 9,xm 61 62])
 (.cond (.s 61) (.draw [(xl 2 63 2,[]),(xm 64 6,[]),(xf 7 65 3,[]),(xl 5 66 65,[]),(xc 24 67 [.s 63,.s 64,.s 66],[]),(xl 2 68 2,[0]),(xm 69 6,[]),(xf 12 70 3,[]),(xl 5 71 70,[0]),(xc 24 72 [.s 68,.s 69,.s 71],[]),(xf 12 73 8,[]),(xs 2 73 67,[]),(xf 14 74 8,[]),(xs 2 74 72,[])])
 (.seq (.reg [xB .eql 76 43 10,xm 75 76])
 (.cond (.s 75) (.draw [(xm 77 7,[]),(xf 1 78 2,[]),(xo 79 78,[1]),(xm 80 7,[]),(xA 3 81 79 80,[]),(xf 2 82 81,[]),(xo 83 82,[1]),(xf 4 84 3,[]),(xo 85 84,[1,2]),(⟨(some 86),.idxA 2 (.s 85) (.c (.int .i64 0)),none⟩,[]),(xf 0 87 86,[]),(xo 88 87,[1,2]),(xf 16 89 8,[]),(xs 1 89 77,[]),(xf 1 90 8,[]),(xs 1 90 83,[]),(xf 17 91 8,[]),(xs 1 91 88,[])])
 (.skip)))))))))
 (.seq (.reg [xl 18 92 8,xs 18 4 92,⟨(some 5),.mv (.c (.bool true)),none⟩])
 (.ret))))))
theorem fn9:IsFn prog 9 ac9 [.cell 4 true 18,.tmp 5] 93:=⟨f9,⟨[],[],[]⟩,func9,by kernel_rfl,by kernel_rfl,by kernel_rfl,by kernel_rfl⟩
def astT (s:Scp) (c:Cmd):V:=.tup [.agg (if isAst s c then astF s c else .zero).enc,.bool (isAst s c)]
theorem rowQ_flds {n:Nd} (h:n.rowQ=true):∀k∈n.kids,fldK k:=by
  rcases row_spec h with ⟨_,_,_,hf⟩ | ⟨h1,h⟩
  · intro k hk;obtain⟨_,_,_,a,ha,hq⟩:=field_spec (hf k hk);refine⟨by rw[ha];simp,fun b hb=>?_⟩;rw[ha] at hb;obtain rfl:=List.mem_singleton.1 hb;have hl:=atom_label hq;simp only[Nd.atomQ,Bool.and_eq_true,Bool.or_eq_true,decide_eq_true_eq] at hq
    rcases hq.1 with h | h
    · exact .inl h
    · exact .inr (by rw[label_const hl h];omega)
  · rw[Nd.labelQ_eq,if_pos h1] at h;intro k hk;simp only[Nd.leafQ,Bool.and_eq_true,decide_eq_true_eq] at h
    have:n.kids.length=0:=by have:=h.2;omega
    exact absurd (List.length_pos_of_mem hk) (by omega)
theorem rowQ_one {n:Nd} (h:n.rowQ=true):n.names.length≤1:=by
  rcases row_spec h with ⟨_,_,hn,_⟩ | ⟨h1,h⟩
  · rcases hn with h | ⟨w,h,_⟩<;>rw[h]<;>simp
  · rw[Nd.labelQ_eq,if_pos h1] at h;simp only[Nd.leafQ,Bool.and_eq_true,decide_eq_true_eq] at h
    have:n.names.length=0:=by have:=h.2;omega
    omega
theorem fassert_calls (s:Scp) (c:Cmd) {σ:Store} (hs:s.ok) (hg:TZ σ) (hgf:σ.con 0=some formCells) (hn:c.names.length+1≤big) (hp:c.pairs.length+1≤big) (hl:c.left.cnt≤500) (hr:c.right.cnt≤500) (hwl:c.left.wt≤big) (hwr:c.right.wt≤big) :
    PCalls prog 9 [.agg s.enc,.agg c.enc] σ fun v σ' => v=astT s c∧σ' = σ:=by
  have no:∀(t:List V) (lo:List (List V)),isAst s c=false→RetK (fun v σ' => v=astT s c∧σ' = σ) ⟨t,lo,σ⟩ (.tup [.agg (astV 0 0 (.sl .full 10 []) .zero (.sl .full 10 []) 0 (.sl .full 10 []) 0 0 []),.bool false]):=fun t lo h=>by
    refine retK_intro (by simp only[V.nol,nolL,Bool.and_true];exact ast_nol rfl rfl rfl) (Store.sub_refl _) ⟨?_,rfl⟩;rw[astT,h];simp only[V.erase,eraseL,ast_er];rfl
  have yes:∀(t:List V) (lo:List (List V)) (op lat:Int) (cd:V) (to:Atm) (fa:V) (ta:Int) (fb:V) (tb v:Int) (f:List UInt8),isAst s c=true→cd.nol=true→fa.nol=true→fb.nol=true→astV op lat cd.erase to fa.erase ta fb.erase tb v f=(astF s c).enc→RetK (fun v σ' => v=astT s c∧σ' = σ) ⟨t,lo,σ⟩ (.tup [.agg (astV op lat cd to fa ta fb tb v f),.bool true]):=fun t lo op lat cd to fa ta fb tb v f h n1 n2 n3 hx=>by
    refine retK_intro (by simp only[V.nol,nolL,Bool.and_true];exact ast_nol n1 n2 n3) (Store.sub_refl _) ⟨?_,rfl⟩;rw[astT,h];simp only[V.erase,eraseL,ast_er,hx];rfl
  refine fn9.calls ?_;simp only[slots,ac9,am,ams,Nat.reduceAdd,Scp.rec_,astZ,cfl,cfo]
  by_cases o1:c.op<8
  · simp only[am,ast_,decide_eq_true o1];exact no _ _ (by simp[isAst];omega)
  simp only[am,cfo,decide_eq_false o1]
  by_cases o2:10<c.op
  · simp only[am,ast_,decide_eq_true o2];exact no _ _ (by simp[isAst];omega)
  simp only[am,cfl,decide_eq_false o2];refine cl (cmdright_calls c hgf hn hp hwl hwr) ?_;cases hq:c.rightQ with
  | false =>
    simp only[am,ast_];exact no _ _ (by simp[isAst,hq])
  | true =>
    simp only[am,Scp.rec_,cfl];refine cl (fitfault_calls s c hs hg hl hr hwl hwr) ?_;simp only[am,Flt.rec_]
    by_cases hf:(faultC s c).cls=0
    case neg =>
      simp only[am,ast_,decide_eq_false hf];exact no _ _ (by simp[isAst,hf])
    have hA:isAst s c=true:=by simp only[isAst,hq,hf,decide_true,Bool.and_true,Bool.and_eq_true,decide_eq_true_eq];omega
    have hF:=isAst_iff.1 hA;simp only[am,Scp.rec_,cfv,decide_eq_true hf];refine cl (scfind_calls s c.name.text σ hs.1 hs.2.1) ?_;simp only[am,Nat.reduceAdd,ast_,cfo,ast_one (op:=c.op) (lat:=optI (findL s.lats c.name.text)) (c:=.sl .full 10 []) (to:=.zero) (fa:=.sl .full 10 []) (ta:=0) (fb:=.sl .full 10 []) (tb:=0) (v:=0) (f:=[]) rfl rfl rfl]
    by_cases h8:c.op=8
    · simp only[am,Scp.rec_,Nd.rec_,cfv,decide_eq_true h8];obtain⟨k,hk,hlt⟩:=hF.latI (.inl h8);have hk' : optI (findL s.lats c.name.text)=(k:Nat):=hk;rw[hk'];refine cl (ccompile_calls s k c.left hg hs hwl (by omega)) ?_;simp only[am,Scp.rec_,ast_,Nd.rec_,cfv,codeT];refine cl (fatom_calls s k c.right hs hg hlt ?_ (by omega) hwr) ?_
      · rcases hF.right h8 with h | h
        · exact .inl h
        · exact .inr (by rw[label_const (hF.labels h8).2 h];omega)
      simp only[am,Atm.rec_,ast_,ast_one (op:=c.op) (lat:=k) (c:=.sl .no 10 (((compR s k c.left).getD []).map Ins.enc)) (to:=atmF s k c.right) (fa:=.sl .full 10 []) (ta:=0) (fb:=.sl .full 10 []) (tb:=0) (v:=0) (f:=[]) rfl rfl rfl];refine yes _ _ _ _ _ _ _ _ _ _ _ _ hA rfl rfl rfl ?_;rw[astF,if_pos h8,hk,h8];rfl
    simp only[am,decide_eq_false h8]
    by_cases h9:c.op=9
    · simp only[am,Scp.rec_,Nd.rec_,cfv,decide_eq_true h9];obtain⟨k,hk,hlt⟩:=hF.latI (.inr h9);have hk' : optI (findL s.lats c.name.text)=(k:Nat):=hk;rw[hk'];obtain⟨q1,q2⟩:=hF.rows h9;refine CallD.intro (frow_calls s k c.left hs hg hlt (rowQ_flds q1) (rowQ_one q1) (by omega) hwl) ?_;simp only[am,Scp.rec_,Nd.rec_,cfv];refine CallD.intro (frow_calls s k c.right hs hg hlt (rowQ_flds q2) (rowQ_one q2) (by omega) hwr) ?_;simp only[am,Scp.rec_,Rtm.rec_,ast_,cfv,ast_one (op:=c.op) (lat:=k) (c:=.sl .full 10 []) (to:=.zero) (fa:=.sl .no 10 ((rtmF s k c.left).fs.map Fld.enc)) (ta:=(rtmF s k c.left).tail) (fb:=.sl .no 10 ((rtmF s k c.right).fs.map Fld.enc)) (tb:=(rtmF s k c.right).tail) (v:=0) (f:=[]) rfl rfl rfl];refine yes _ _ _ _ _ _ _ _ _ _ _ _ hA rfl rfl rfl ?_;rw[astF,if_neg h8,if_pos h9,hk,h9];rfl
    have h10:c.op=10:=by omega
    simp only[am,Scp.rec_,decide_eq_false h9,decide_eq_true h10];obtain⟨v,hv,hv1,hv2⟩:=hF.var h10;obtain⟨w,hw,_⟩:=hF.one h10;rw[hv1];simp only[Int.reduceNeg,optI];refine idxL_intro (by omega) (vars_at hv) ?_;simp only[am,Int.reduceNeg,Scp.rec_,cfv];have hw1:0<c.names.length:=by rw[hw];simp
    refine idxL_intro (n:=0) (by omega) (words_at (l:=c.names) (j:=0) hw1) ?_;simp only[am,Int.reduceNeg,wd_t,Scp.rec_,ast_,cfv,ast_one (op:=c.op) (lat:=s.vars[v].lat) (c:=.sl .full 10 []) (to:=.zero) (fa:=.sl .full 10 []) (ta:=0) (fb:=.sl .full 10 []) (tb:=0) (v:=v) (f:=c.names[0].text) rfl rfl rfl];refine yes _ _ _ _ _ _ _ _ _ _ _ _ hA rfl rfl rfl ?_;rw[astF,if_neg h8,if_neg h9,hv1,varLat,List.getElem?_eq_getElem hv,getD_at hw1,h10];rfl
end Go.Proofs.Tryz

namespace Go.Proofs.Tryz
open Go.Am
set_option maxRecDepth 4000
set_option maxHeartbeats 4000000
end Go.Proofs.Tryz

namespace Go.Proofs.Tryz
open Go.Am
set_option maxRecDepth 4000
set_option maxHeartbeats 4000000
def ac8:AC:=.seq (.reg [⟨(some 0),.mv (.c (.bool false)),none⟩])
 (.seq (.reg [⟨(some 7),.bslice 1 [(.c (.str [108,111])),(.c (.str [104,105]))],none⟩,⟨(some 8),.build facZ [(0,1,(.c (.int .i64 1))),(1,1,(.s 7))],none⟩,⟨(some 9),.bslice 67 [(.s 8)],none⟩,⟨(some 10),.build [(.bool false),(.sl .full 67 [])] [(1,1,(.s 9))],none⟩,⟨(some 11),.build [(.str []),(.bool false),(.sl .full 67 [])] [(0,1,(.c (.str [107]))),(1,2,(.s 10))],none⟩,⟨(some 12),.bslice 3 [(.s 11)],none⟩,⟨(some 13),.build [(.str []),(.int .i64 0),(.int .i64 0)] [(0,1,(.c (.str [120]))),(1,1,(.c (.int .i64 1)))],none⟩,⟨(some 14),.build [(.str []),(.int .i64 0),(.int .i64 0)] [(0,1,(.c (.str [114]))),(1,1,(.c (.int .i64 2)))],none⟩,⟨(some 15),.bslice 3 [(.s 13),(.s 14)],none⟩,⟨(some 16),.build [(.sl .full 3 []),(.sl .full 3 [])] [(0,1,(.s 12)),(1,1,(.s 15))],none⟩,⟨(some 1),.alloc [(.sl .full 3 []),(.sl .full 3 [])],none⟩,xs 2 1 16])
 (.seq (.reg [⟨(some 17),.build [(.int .i64 0),(.int .i64 0),(.str []),(.sl .full 2 []),(.sl .full 5 [])] [(0,1,(.c (.int .i64 1))),(2,1,(.c (.str [120])))],none⟩,⟨(some 2),.alloc [(.int .i64 0),(.int .i64 0),(.str []),(.sl .full 2 []),(.sl .full 5 [])],none⟩,xs 5 2 17])
 (.seq (.reg [⟨(some 18),.build [(.str []),(.int .i64 0)] [(0,1,(.c (.str [107])))],none⟩,xl 5 19 2,⟨(some 20),.build [(.int .i64 0),(.int .i64 0),(.str []),(.sl .full 2 []),(.sl .full 5 [])] [(0,1,(.c (.int .i64 1))),(2,1,(.c (.str [114]))),(1,1,(.c (.int .i64 7)))],none⟩,⟨(some 21),.build [(.int .i64 0),(.int .i64 0),(.str []),(.int .i64 0),(.sl .full 2 []),(.sl .full 4 []),(.int .i64 0),(.int .i64 0),(.int .i64 0),(.str []),(.sl .full 2 []),(.sl .full 5 []),(.int .i64 0),(.int .i64 0),(.str []),(.sl .full 2 []),(.sl .full 5 [])] [(0,1,(.c (.int .i64 8))),(2,2,(.s 18)),(7,5,(.s 19)),(12,5,(.s 20))],none⟩,⟨(some 3),.alloc [(.int .i64 0),(.int .i64 0),(.str []),(.int .i64 0),(.sl .full 2 []),(.sl .full 4 []),(.int .i64 0),(.int .i64 0),(.int .i64 0),(.str []),(.sl .full 2 []),(.sl .full 5 []),(.int .i64 0),(.int .i64 0),(.str []),(.sl .full 2 []),(.sl .full 5 [])],none⟩,xs 17 3 21])
 (.seq (.reg [xl 2 22 1,xl 17 23 3,xc 17 24 [.s 22,.s 23],⟨(some 4),.alloc [(.int .i64 0),(.int .i64 0)],none⟩,xs 2 4 24])
 (.seq (.reg [xl 5 25 2,xf 12 26 3,xs 5 26 25])
 (.seq (.reg [xl 2 28 1,xl 17 29 3,xc 9 30 [.s 28,.s 29],xm 27 30,xe 31 27 0,xe 32 27 1,⟨(some 5),.alloc astZ,none⟩,xs 18 5 31,xm 6 32])
 (.seq (.reg [xl 2 33 4,⟨(some 34),.build [(.int .i64 0),(.int .i64 0)] [(0,1,(.c (.int .i64 4))),(1,1,(.c (.int .i64 7)))],none⟩,⟨(some 35),.eqA false [1,1] (.s 33) (.s 34),none⟩,xm 36 35,xg 36 (xm 37 6),⟨(some 38),.pick (.s 36) (.s 37) (.c (.bool false)),none⟩,xm 39 38,xg 39 (xf 2 40 5),xg 39 (xo 41 40),xg 39 (xL 42 41),xg 39 (xB .eql 43 42 1),⟨(some 44),.pick (.s 39) (.s 43) (.c (.bool false)),none⟩,xm 45 44,xg 45 (xf 3 46 5),xg 45 (xf 0 47 46),xg 45 (xo 48 47),xg 45 (xB .eql 49 48 0),⟨(some 50),.pick (.s 45) (.s 49) (.c (.bool false)),none⟩,xm 51 50,xg 51 (xl 2 52 1),xg 51 (xl 18 53 5),xg 51 (xc 13 54 [.s 52,.s 53]),⟨(some 55),.pick (.s 51) (.s 54) (.c (.bool false)),none⟩,xm 0 55])
 (.ret))))))))
theorem fn8:IsFn prog 8 ac8 [.tmp 0] 56:=⟨f8,⟨[],[],[]⟩,func8,by kernel_rfl,by kernel_rfl,by kernel_rfl,by kernel_rfl⟩
theorem er2_calls {f:FuncId} {u u' v v' : V} {σ:Store} {R' : V→Store→Prop} (h:PCalls prog f [u',v'] σ R') (e1:u.erase=u') (e2:v.erase=v'):PCalls prog f [u,v] σ R' :=
  h.weak (show LLe [u,v] [u',v'] from⟨e1▸VLe.erase,e2▸VLe.erase,trivial⟩) OLe.rfl
theorem alive15_calls {σ:Store} (hg:TZ σ) (hgf:σ.con 0=some formCells):PCalls prog 8 [] σ fun v σ' => v = .bool true∧σ' = σ:=by
  refine fn8.calls ?_;simp only[slots,ac8,am,ams,Nat.reduceAdd,fv_,astZ];refine cl (er2_calls (fitfault_calls exS5 (exC5 exR) ex5_ok hg (by decide +kernel) (by decide +kernel) (by decide +kernel) (by decide +kernel)) rfl rfl) ?_;rw[ex5_fault];simp only[am,Nat.reduceAdd,Flt.rec_];have k1:(exC5 exX).names.length+1≤big:=by decide +kernel
  have k2:(exC5 exX).pairs.length+1≤big:=by decide +kernel
  have h:=fassert_calls exS5 (exC5 exX) ex5_ok hg hgf k1 k2 (by decide +kernel) (by decide +kernel) (by decide +kernel) (by decide +kernel);have ea:∃A:Ast,astT exS5 (exC5 exX) = .tup [.agg A.enc,.bool true]∧A.code.length=1∧A.to.v=0∧astR exS5 A=true :=
    ⟨astF exS5 (exC5 exX),by rw[astT,ex5_is];rfl,ex5_len,ex5_to,ex5_right⟩
  obtain⟨A,ea,ea1,ea2,ea3⟩:=ea;rw[ea] at h;clear ea;refine cl (er2_calls h rfl rfl) ?_;obtain⟨op,lat,code,to,ra,rb,v,f⟩:=A;simp only at ea1 ea2;simp only[Ast.enc];simp only[am,Nat.reduceAdd,Flt.rec_,ast_,ast_one (op:=op) (lat:=lat) (c:=.sl .no 10 (code.map Ins.enc)) (to:=to) (fa:=.sl .no 10 (ra.fs.map Fld.enc)) (ta:=ra.tail) (fb:=.sl .no 10 (rb.fs.map Fld.enc)) (tb:=rb.tail) (v:=v) (f:=f) rfl rfl rfl];have q:eqC [1,1] (Flt.mk 4 7).enc [.int .i64 4,.int .i64 7]=some true:=by
    rw[show [V.int .i64 4,V.int .i64 7]=(Flt.mk 4 7).enc from rfl,Flt.r_eq,decide_eq_true rfl]
  have ld:ldC false 1 (List.drop 3 (astV op lat (.sl .no 10 (code.map Ins.enc)) to (.sl .no 10 (ra.fs.map Fld.enc)) ra.tail (.sl .no 10 (rb.fs.map Fld.enc)) rb.tail v f))=some (.int .i64 to.v):=rfl;simp only[am,List.length_map,ast_,List.length_map,q,ld,show decide ((code.length:Int)=1)=true from by rw[ea1];rfl,show decide (to.v=0)=true from decide_eq_true ea2];have h2:=fright_calls exS5 ⟨op,lat,code,to,ra,rb,v,f⟩ ex5_ok hg (by simp only;omega);rw[ea3] at h2;refine⟨ast_nol rfl rfl rfl,?_⟩;refine cl (er2_calls h2 ?_ ?_) ?_
  · rfl
  · simp only[V.erase,ast_er];rfl
  simp only[am];refine retS ?_;simp[V.erase]
end Go.Proofs.Tryz

namespace Go.Proofs.Tryz
open Go.Am
set_option maxRecDepth 4000
set_option maxHeartbeats 4000000
def ac4:AC:=.seq (.reg [⟨(some 2),.box 2 (.s 0),none⟩,⟨(some 3),.box 18 (.s 1),none⟩,⟨(some 4),.mv (.c (.bool false)),none⟩])
 (.seq (.seq (.reg [xl 2 5 2,xc 6 6 [.s 5],xm 7 6,xh 7 (xl 18 8 3),xh 7 (xc 12 9 [.s 8]),⟨(some 10),.pick (.s 7) (.c (.bool true)) (.s 9),none⟩])
 (.cond (.s 10) (.seq (.reg [xc 8 11 [],xm 4 11])
 (.ret))
 (.skip)))
 (.seq (.draw [(xl 2 12 2,[]),(xl 18 13 3,[]),(xc 13 14 [.s 12,.s 13],[]),(xl 2 15 2,[0]),(xl 18 16 3,[0]),(xc 14 17 [.s 15,.s 16],[]),(⟨(some 18),.binB false (.s 14) (.s 17),none⟩,[]),(xm 19 18,[]),(xg 19 (xc 8 20 []),[]),(⟨(some 21),.pick (.s 19) (.s 20) (.c (.bool false)),none⟩,[]),(xm 4 21,[])])
 (.ret)))
theorem fn4:IsFn prog 4 ac4 [.tmp 4] 22:=⟨f4,⟨[],[],[]⟩,func4,by kernel_rfl,by kernel_rfl,by kernel_rfl,by kernel_rfl⟩
def ac12:AC:=.seq (.reg [⟨(some 1),.box 18 (.s 0),none⟩,⟨(some 2),.mv (.c (.bool false)),none⟩])
 (.seq (.seq (.reg [xf 2 5 1,xo 6 5,xL 7 6,xB .gtr 8 7 200,xm 9 8,xh 9 (xf 12 10 1),xh 9 (xf 0 11 10),xh 9 (xo 12 11),xh 9 (xL 13 12),xh 9 (xB .gtr 14 13 40),⟨(some 15),.pick (.s 9) (.c (.bool true)) (.s 14),none⟩,xm 16 15,xh 16 (xf 14 17 1),xh 16 (xf 0 18 17),xh 16 (xo 19 18),xh 16 (xL 20 19),xh 16 (xB .gtr 21 20 40),⟨(some 22),.pick (.s 16) (.c (.bool true)) (.s 21),none⟩,xm 23 22,xh 23 (xf 17 24 1),xh 23 (xo 25 24),xh 23 (xT 26 25),xh 23 (xB .gtr 27 26 40),⟨(some 28),.pick (.s 23) (.c (.bool true)) (.s 27),none⟩])
 (.cond (.s 28) (.seq (.reg [⟨(some 2),.mv (.c (.bool true)),none⟩])
 (.ret))
 (.skip)))
 (.seq (.seq (.upd (.draw [(⟨(some 29),.bslice 10 [],none⟩,[]),(xf 12 30 1,[]),(xf 0 31 30,[]),(xo 32 31,[]),(xa 10 33 29 32,[]),(xf 14 34 1,[]),(xf 0 35 34,[]),(xo 36 35,[0]),(xa 10 37 33 36,[]),(xL 38 37,[]),(xi 39 0,[])]))
 (.block 0 (.loop (.seq (.reg [xb .lss 40 39 38])
 (.seq (.cond (.s 40) (.skip)
 (.exit 0))
 (.seq (.block 1 (.seq (.reg [xA 10 41 37 39,xl 10 42 41,⟨(some 4),.alloc fldZ,none⟩,xs 10 4 42])
 (.seq (.reg [xf 0 43 4,xo 44 43,xT 45 44,xB .gtr 46 45 40])
 (.cond (.s 46) (.seq (.reg [⟨(some 2),.mv (.c (.bool true)),none⟩])
 (.ret))
 (.skip)))))
 (.reg [xB .add 47 39 1,xm 39 47])))))))
 (.seq (.reg [⟨(some 2),.mv (.c (.bool false)),none⟩])
 (.ret))))
theorem fn12:IsFn prog 12 ac12 [.tmp 2] 48:=⟨f12,⟨[],[3],[]⟩,func12,by kernel_rfl,by kernel_rfl,by kernel_rfl,by kernel_rfl⟩
section
variable {op lat ta tb v:Int} {c fa fb:V} {to:Atm} {f:List UInt8}
theorem ast_v12:ldC false 1 ((astV op lat c to fa ta fb tb v f).drop 12)=some fa:=by rw[ast_d12];rfl
theorem ast_v14:ldC false 1 ((astV op lat c to fa ta fb tb v f).drop 14)=some fb:=by rw[show 14=12+2 from rfl,←List.drop_drop,ast_d12];rfl
end
theorem many15_calls (a:Ast) (σ:Store):PCalls prog 12 [.agg a.enc] σ fun r σ' => r = .bool (manyF a)∧σ' = σ:=by
  obtain⟨op,lat,code,to,ra,rb,v,f⟩:=a;have e:manyF ⟨op,lat,code,to,ra,rb,v,f⟩=(decide (200<code.length)||decide (40<ra.fs.length)||decide (40<rb.fs.length)||decide (40<f.length)||(ra.fs++rb.fs).any longF):=rfl;refine fn12.calls ?_;simp only[slots,ac12,am,ams,Fld.rec_];simp only[Ast.enc]
  by_cases h1:200<code.length
  · simp only[am,List.length_map,ast_,List.length_map,decide_eq_true (show (200:Int)<code.length by omega)];refine retS ?_;simp[V.erase,e,h1]
  simp only[am,List.length_map,ast_,ast_v12,List.length_map,decide_eq_false (show ¬(200:Int)<code.length by omega)]
  by_cases h2:40<ra.fs.length
  · simp only[am,decide_eq_true (show (40:Int)<ra.fs.length by omega)];refine retS ?_;simp[V.erase,e,h2]
  simp only[am,List.length_map,ast_v14,List.length_map,decide_eq_false (show ¬(40:Int)<ra.fs.length by omega)]
  by_cases h3:40<rb.fs.length
  · simp only[am,decide_eq_true (show (40:Int)<rb.fs.length by omega)];refine retS ?_;simp[V.erase,e,h3]
  simp only[am,ast_,decide_eq_false (show ¬(40:Int)<rb.fs.length by omega)]
  by_cases h4:40<f.length
  · simp only[am,decide_eq_true (show (40:Int)<f.length by omega)];refine retS ?_;simp[V.erase,e,h4]
  simp only[am,decide_eq_false (show ¬(40:Int)<f.length by omega)];refine Upd.newTok fun τ hτ=>?_
  simp only[am,ast_v12];refine appD_fullT (τ:=τ) (by simp[big];omega) setTip_tip_same ?_;simp only[am,List.length_map,ast_v14,List.length_map,setTip_setTip,List.length_nil,List.nil_append];refine appD_tk (by simp[big];omega) (by rw[setTip_tip_same,List.length_map]) ?_;simp only[am,List.length_map,ast_v14,List.length_map,setTip_setTip];obtain⟨L,hL⟩:∃L,L=ra.fs++rb.fs:=⟨_,rfl⟩;have hm:ra.fs.map Fld.enc++rb.fs.map Fld.enc=L.map Fld.enc:=by rw[hL,List.map_append]
  have hn:ra.fs.length+rb.fs.length=L.length:=by rw[hL,List.length_append]
  rw[hm,hn];have e:manyF ⟨op,lat,code,to,ra,rb,v,f⟩=L.any longF:=by
    rw[e,decide_eq_false h1,decide_eq_false h2,decide_eq_false h3,decide_eq_false h4,hL];rfl
  obtain⟨F,hF⟩:∃F:Nat→Unit→St,∀i x,F i x=⟨[.any,.any,.any,.any,.any,.any,.any,.any,.any,.any,.any,.any,.any,.any,.any,.any,.any,.any,.any,.any,.any,.any,.any,.any,.any,.any,.any,.any,.any,.any,.any,.any,.any,.any,.any,.any,.any,.sl (.tk τ) 10 (L.map Fld.enc),.int .i64 (L.length:Nat),.int .i64 (i:Nat)]++List.replicate 8 .any,[astV op lat (.sl .no 10 (code.map Ins.enc)) to (.sl .no 10 (ra.fs.map Fld.enc)) ra.tail (.sl .no 10 (rb.fs.map Fld.enc)) rb.tail v f],σ.setTip τ L.length⟩:=⟨_,fun _ _=>rfl⟩;obtain⟨JF,hJF⟩:∃JF:Nat→Unit→Prop,∀i x,JF i x=(∀j (hj:j<L.length),j<i→longF L[j]=false):=⟨_,fun _ _=>rfl⟩;refine vc_count (L.length) F JF _ hJF ?_ ?_ ?_
  · refine ent (()) ?_ ?_ ?_ ?_
    · exact Eq.mpr (hJF _ _) (by intro k _ h;omega)
    all_goals simp[hF,List.replicate,am,lle_self]
  · rintro i x hi hJ;have nx:∀(h:longF L[i]=false) j (hj:j<L.length),j<i+1→longF L[j]=false:=fun h j hj hlt=>by
      by_cases e:j=i
      · subst e;exact h
      · exact hJ j hj (by omega)
    have hlo:∀n,loL n (astV op lat (.sl .no 10 (code.map Ins.enc)) to (.sl .no 10 (ra.fs.map Fld.enc)) ra.tail (.sl .no 10 (rb.fs.map Fld.enc)) rb.tail v f)=true:=fun n=>ast_lo rfl rfl rfl
    simp only[hF,List.replicate,am,dlt hi];refine idxL_intro (by omega) (flds_at hi) ?_;simp only[am,Fld.rec_]
    by_cases hb:40<L[i].name.length
    · simp only[am,aml,decide_eq_true (show (40:Int)<L[i].name.length by omega)];exact retK_intro rfl (sub_tip hτ) ⟨by rw[e,List.any_eq_true.2 ⟨L[i],List.getElem_mem hi,by rw[longF,decide_eq_true hb]⟩];rfl,rfl⟩
    · simp only[am,aml,decide_eq_false (show ¬(40:Int)<L[i].name.length by omega),winc hi (by omega)];refine nxtD (()) hi ?_ ?_ ?_ ?_ ?_ ?_
      · exact Eq.mpr (hJF _ _) (nx (decide_eq_false hb))
      all_goals simp[hF,List.replicate,am,lle_self,loL,loLL,V.lo,hlo]
  · rintro x hJ;simp only[hF,List.replicate,am,aml,dnl,aml];exact retK_intro rfl (sub_tip hτ) ⟨by rw[e,List.any_eq_false.2 fun y hy=>by obtain⟨j,hj,rfl⟩:=List.mem_iff_getElem.1 hy;rw[hJ j hj hj];simp];rfl,rfl⟩
theorem right15_calls (s:Scp) (a:Ast) {σ:Store} (hg:TZ σ) (hgf:σ.con 0=some formCells):PCalls prog 4 [.agg s.enc,.agg a.enc] σ fun v σ' => v = .bool true∧σ' = σ:=by
  obtain⟨A,hA⟩:∃A:List V,A=a.enc:=⟨_,rfl⟩;have a1:A.length=18:=by rw[hA];exact ast_len
  have a2:takeN 18 A=some A:=by rw[hA];exact ast_tk
  have a3:ldC true 18 A=some (.agg A):=by rw[ldC_agg,a2];rfl
  have a4:nolL A=true:=by rw[hA];exact Ast.r_nol
  have c1:=many15_calls a σ;have c2:=fun hs hl=>fright_calls s a (σ:=σ) hs hg hl
  have c3:=fun hs hl=>rfright_calls s a (σ:=σ) hs hl
  rw[←hA] at c1 c2 c3 ⊢;refine fn4.calls ?_;simp only[slots,ac4,am,ams,Nat.reduceAdd,Scp.rec_];simp only[am,a1];refine cl (big13_calls s σ) ?_;cases hb:big13 s with
  | true =>
    simp only[am];refine cl (alive15_calls hg hgf) ?_;simp only[am];refine retS ?_;simp[V.erase]
  | false =>
    have hs:=big13_ok hb;simp only[am,a3,a4];refine cl c1 ?_;cases hm:manyF a with
    | true =>
      simp only[am];refine cl (alive15_calls hg hgf) ?_;simp only[am];refine retS ?_;simp[V.erase]
    | false =>
      have hl:=manyF_code hm;simp only[am,Scp.rec_,a3,a4];refine CallD.intro (v:=.bool (astR s a)) (c2 hs (by omega)) ?_;simp only[am,Scp.rec_,a3,a4];refine CallD.intro (v:=.bool (astR s a)) (c3 hs (by omega)) ?_;simp only[am,decide_true];refine CallD.intro (v:=.bool true) (alive15_calls hg hgf) ?_;simp only[am,Scp.rec_,a3];refine retS ?_;simp[V.erase]
end Go.Proofs.Tryz

namespace Go.Am
open Go.ChangeShapes Go.WideShapes Go.ChangeAt Go.RowKit
structure BulkFn {H:Type} (B:DataW H→Nat) (BA:List (DataW H)→Nat):Prop where
  str:∀b,B (.lit (.string b))=b.length+1
  int:∀k n,B (.lit (.int k n))=1
  bool:∀b,B (.lit (.bool b))=1
  nil:B .nil=1
  slice:∀e s,B (.slice e s)=BA e+BA s+1
  agg:∀p,B (.agg p)=BA p+1
  no:BA []=0
  cons:∀d r,BA (d::r)=B d+BA r
def envOf (W:World):Env:=⟨W,fun _=>.const,fun _=>none,fun _=>none⟩
section
variable {H:Type} {enc:TypeId × Value→H} {P:Program} {W:World} {sp:Nat→Bool} {B:DataW H→Nat} {BA:List (DataW H)→Nat}
theorem rd_int {t:TypeId} {k:IntKind} {n:Nat} {cs:List Value} {x:DataW H × List MemPlace} (ht:P.underlying t=some (.int k)) (hB:BulkFn B BA) (h:DataW.trod enc P W 0 sp true n t cs=some x) :
    ∃i:Int,RL (envOf W) [.int k i] cs∧(∀v∈cs,v.oneCell' = true)∧B x.1=1∧(Lit.int k i).wf=true:=by
  obtain⟨i,rfl,rfl,hw⟩:=DataW.trod_int ht h;exact⟨i,by simp[RL,R],by simp[Value.oneCell'],hB.int _ _,hw⟩
theorem rd_bool {t:TypeId} {n:Nat} {cs:List Value} {x:DataW H × List MemPlace} (ht:P.underlying t=some .bool) (hB:BulkFn B BA) (h:DataW.trod enc P W 0 sp true n t cs=some x) :
    ∃i:Bool,RL (envOf W) [.bool i] cs∧(∀v∈cs,v.oneCell' = true)∧B x.1=1:=by
  obtain⟨i,rfl,rfl⟩:=DataW.trod_bool ht h;exact⟨i,by simp[RL,R],by simp[Value.oneCell'],hB.bool _⟩
theorem rd_str {t:TypeId} {n:Nat} {cs:List Value} {x:DataW H × List MemPlace} (ht:P.underlying t=some .string) (hB:BulkFn B BA) (h:DataW.trod enc P W 0 sp true n t cs=some x) :
    ∃s:List UInt8,RL (envOf W) [.str s] cs∧(∀v∈cs,v.oneCell' = true)∧s.length+1=B x.1:=by
  obtain⟨s,rfl,rfl,_⟩:=DataW.trod_string ht h;exact⟨s.data.toList,by simp[RL,R],by simp[Value.oneCell'],(hB.str _).symm⟩
theorem rd_rows {α:Type} (ea:α→List V) (sz:α→Nat) {e:TypeId} {k n:Nat} (hB:BulkFn B BA) (hk:P.cellsOf e=k) (hlen:∀y,(ea y).length=k)
    (hel:∀cs x,DataW.trod enc P W 0 sp true n e cs=some x→∃y:α,RL (envOf W) (ea y) cs∧(∀v∈cs,v.oneCell' = true)∧sz y≤B x.1) {b o:Nat} :
    ∀(els:List (DataW H × List MemPlace)) (i:Nat),(∀j,j<els.length→(W.cells? 0 (Addr.add ⟨b,o,none⟩ ((i+j)*k)) k).bind (DataW.trod enc P W 0 sp true n e)=els[j]?) →
      ∃l:List α,l.length=els.length∧REs (envOf W).nl k (l.map ea) b (o+i*k)∧(l.map sz).sum≤BA (els.map (·.1))
  | [],i,_=>⟨[],rfl,by simp[REs],by simp⟩
  | x :: els, i, h => by
    obtain⟨l,h1,h2,h3⟩:=rd_rows ea sz hB hk hlen hel els (i+1) fun j hj=>by
      have:=h (j+1) (by simp;omega)
      rw[show i+(j+1)=i+1+j by omega] at this;simpa using this
    have h0:=h 0 (by simp);simp only[Nat.add_zero,List.getElem?_cons_zero] at h0;obtain⟨cs,hc,hr⟩:=Option.bind_eq_some_iff.1 h0;obtain⟨y,k1,k2,k3⟩:=hel cs x hr;obtain⟨_,hl,hcell⟩:=World.cells?_some hc;refine⟨y::l,by simp[h1],?_,?_⟩
    · simp only[List.map_cons,REs];refine⟨hlen y,RAs_mk k1 k2 (fun j v hv=>?_) (fun _ _=>trivial),by rw[show o+i*k+k=o+(i+1)*k by rw[Nat.add_mul];omega];exact h2⟩;have hj:j<k:=by have:=(List.getElem?_eq_some_iff.1 hv).1;omega
      have:=hcell j hj
      rw[addr_add,addr_add] at this;show W.cell? _=_;rw[this,hv]
    · simp only[List.map_cons,List.sum_cons,hB.cons];omega
theorem rd_slice {α:Type} (ea:α→List V) (sz:α→Nat) {t e:TypeId} {k fuel:Nat} (hB:BulkFn B BA) (ht:P.underlying t=some (.slice e)) (hk:P.cellsOf e=k) (hpos:0<k) (hlen:∀y,(ea y).length=k)
    (hel:∀n,n<fuel→∀cs x,DataW.trod enc P W 0 sp true n e cs=some x→∃y:α,RL (envOf W) (ea y) cs∧(∀v∈cs,v.oneCell' = true)∧sz y≤B x.1)
    {cs:List Value} {x:DataW H × List MemPlace} (h:DataW.trod enc P W 0 sp true fuel t cs=some x) :
    ∃l:List α,RL (envOf W) [.sl .no k (l.map ea)] cs∧(∀v∈cs,v.oneCell' = true)∧(l.map sz).sum+1≤B x.1:=by
  rcases DataW.trod_slice ht h with ⟨rfl,rfl⟩ | ⟨a,len,cap,elems,rest,n,rfl,rfl,rfl,_,hle,_,hl,hels,_,_⟩
  · refine⟨[],?_,by simp[Value.oneCell'],by simp[hB.nil]⟩;simp only[RL,R,List.map_nil,and_true];exact⟨none,0,rfl,by simp,by simp,trivial⟩
  · have ha:elems=[]∨∃b o,a=⟨b,o,none⟩:=by
      cases elems with
      | nil=>exact .inl rfl
      | cons y ys =>
        right;have h0:=hels 0 (by rw[←hl];simp);simp only[List.getElem?_cons_zero] at h0;obtain⟨cs',hc,_⟩:=Option.bind_eq_some_iff.1 h0;obtain⟨_,hl',hcell⟩:=World.cells?_some hc;have h1:=hcell 0 (by rw[hk];exact hpos);have h2:cs'[0]?=some (cs'[0]'(by rw[hl',hk];exact hpos)):=List.getElem?_eq_getElem _;rw[h2] at h1;obtain⟨b,o,s⟩:=a;refine⟨b,o,?_⟩;simp only[World.cell?] at h1;cases s with
        | none=>rfl
        | some s =>
          split at h1
          · simp[Addr.add] at h1
          · simp at h1
    rcases ha with rfl | ⟨b,o,rfl⟩
    · refine⟨[],?_,by simp[Value.oneCell'],by simp[hB.slice]⟩;simp only[List.length_nil] at hl;subst hl;simp only[RL,R,List.map_nil,and_true];exact⟨some a,cap,rfl,by simp,by simp,trivial⟩
    · obtain⟨l,h1,h2,h3⟩:=rd_rows (B:=B) (BA:=BA) (sp:=sp) (enc:=enc) (P:=P) (W:=W) (n:=n) ea sz hB hk hlen (hel n (Nat.lt_succ_self n)) elems 0 (fun j hj=>by
        have:=hels j (by omega)
        rw[hk] at this;rw[Nat.zero_add];exact this)
      refine⟨l,?_,by simp[Value.oneCell'],?_⟩
      · simp only[RL,R,List.length_map,and_true];exact⟨some ⟨b,o,none⟩,cap,by rw[h1,hl],by omega,.inr ⟨b,o,rfl,by simpa using h2⟩,trivial⟩
      · rw[hB.slice];omega
end
theorem post_am2 {H:Type} {enc:TypeId × Value→H} {P:Program} {f:Func} {s:ChangeSpec} {W:World} {args:Array Value} {ds:List (DataW H)} {before:List MemPlace} {tb:TypeId}
    (hl:laidOutB P=true) (hm:mapsRowed P=true) (hz:((List.range P.types.size).all fun t=>match P.underlying t with | some (.slice e)=>decide (0<P.cellsOf e) | _=>true)=true)
    (hres:f.resultTypes=#[tb]) (htb:P.underlying tb=some .bool) (hpar:∀t∈f.params.toList,t<P.types.size) (hvars:s.vars=[]) (hfn:(s.fn H ds).results=[.lit (.bool true)]∧(s.fn H ds).args=ds∧(s.fn H ds).vars=[])
    (hW:DataW.Whole enc P f.params.toList s.vars false W args.toList ds [] before) {W' : World} (hos:W'.os=W.os) (hout:W'.output=W.output) (hfrz:∀a,W'.frozen? a=W.frozen? a) (hsame:∀b,b<W.heap.size→W'.heap[b]?=W.heap[b]?) :
    s.post enc P f false true false false W args (.bool true) W' := by
  have hW' := hW;obtain⟨p,q,hA,hV,rfl,hfz,hnd⟩:=hW;rw[hvars] at hV;obtain⟨_,rfl⟩:=trodVars_none hV;have hkept:W.keptBut W' (fun _=>False):=by
    refine⟨hos,hout,fun i hi=>?_⟩;rw[hsame i hi];cases W.heap[i]? with
    | none=>rfl
    | some ob=>cases ob<;>simp
  simp only[List.append_nil] at hW';have hds:s.fn H (ds++[])=s.fn H ds:=by rw[List.append_nil]
  refine post_of_same (pa:=p) (pv:=[]) hW' (fun b sp' hd=>?_) (fun sp' hs=>?_) (fun sp' hs=>?_) (by simp) (World.keptBut_mono (fun _ h=>h.elim) hkept) ?_ (ok_one hres rfl (okWide_bool_mk htb _))
  · rw[hds,hfn.1,hres];exact trodAll_cons_mk (shut_bool htb _) trodAll_mk0
  · rw[hds,hfn.2.1];have hlt:=DataW.TrodAll.lt hA;have key:∀(ts:List TypeId) (vs:List Value) (ds:List (DataW H)) (ps:List MemPlace),(∀t∈ts,t<P.types.size)→DataW.TrodAll enc P W 0 (fun _=>true) true ts vs ds ps→(∀x∈ps,x.block<W.heap.size)→(∀x∈ps,sp' x.block=true)→DataW.TrodAll enc P W' 0 sp' true ts vs ds ps:=by
      intro ts;induction ts with
      | nil=>intro vs ds ps _ h _ _;cases vs<;>cases ds<;>first | exact h | exact h.elim
      | cons t ts ih =>
        intro vs ds ps hT h hlt hs;cases vs with
        | nil=>exact h.elim
        | cons v vs =>
          cases ds with
          | nil=>exact h.elim
          | cons d ds =>
            obtain⟨p,q,⟨n,h1⟩,h2,rfl⟩:=h;refine⟨p,q,⟨n,?_⟩,ih vs ds q (fun t ht=>hT t (by simp[ht])) h2 (fun x hx=>hlt x (by simp[hx])) (fun x hx=>hs x (by simp[hx])),rfl⟩;refine DataW.trod_stays (kids_rows hl hm) (fun {t e} ht he=>slices_full_of P hz t e ht he) (by simp) (hT t (by simp)) h1 (fun x hx=>?_) (fun x hx=>hs x (by simp[hx]));have hb:=hlt x (by simp[hx]);cases x with
            | cell b off=>exact cell_same (hsame b hb)
            | map b=>exact hsame b hb
    exact key _ _ _ _ hpar hA (fun x hx=>hlt x hx) (fun x hx=>hs x (by simpa using hx))
  · rw[hds,hfn.2.2,hvars];rfl
  · exact hfrz
theorem post_am {H:Type} {enc:TypeId × Value→H} {P:Program} {f:Func} {s:ChangeSpec} {W:World} {args:Array Value} {ds:List (DataW H)} {before:List MemPlace} {tb:TypeId}
    (hl:laidOutB P=true) (hm:mapsRowed P=true) (hz:((List.range P.types.size).all fun t=>match P.underlying t with | some (.slice e)=>decide (0<P.cellsOf e) | _=>true)=true)
    (hres:f.resultTypes=#[tb]) (htb:P.underlying tb=some .bool) (hpar:∀t∈f.params.toList,t<P.types.size) (hvars:s.vars=[]) (hfn:(s.fn H ds).results=[.lit (.bool true)]∧(s.fn H ds).args=ds∧(s.fn H ds).vars=[])
    (hW:DataW.Whole enc P f.params.toList s.vars false W args.toList ds [] before) {E' : Env} (hfr:Fr (envOf W) E') :
    s.post enc P f false true false false W args (.bool true) E'.w :=
  post_am2 hl hm hz hres htb hpar hvars hfn hW hfr.os hfr.output hfr.frz fun b hb=>(hfr.same b hb (.inl rfl)).1
section
variable {P:Program} {W:World} {r:Reach} {b:Nat} {t:TypeId} {v:Value} {E:Env}
theorem val_struct {fs:Array Field} {xs:List V} (ht:P.underlying t=some (.struct fs)) (hv:Value.okWide P W r b t v) (h:RL E xs v.cells.toList):R E (.agg xs) v:=by
  obtain⟨cs,rfl,_⟩:=okWide_struct ht hv;simp only[R];exact⟨cs,rfl,by simpa [Value.cells] using h⟩
end
end Go.Am

namespace Go.Am
open Go.ChangeShapes Go.WideShapes Go.ChangeAt Go.RowKit
def txtVal (s:List UInt8):Value:=.string ⟨s.toArray⟩
section
variable {H:Type} {enc:TypeId × Value→H} {P:Program} {W:World}
def pairsData (ps:List (List UInt8 × List UInt8)):DataW H:=.agg (ps.map fun p=>.agg [.lit (.string p.1),.lit (.string p.2)])
theorem list2 {α:Type} {l:List α} (h:l.length=2):∃a b,l=[a,b]:=by
  match l,h with
  | [a,b],_=>exact⟨a,b,rfl⟩
theorem txtVal_of {s:ByteArray} {l:List UInt8} (h:s.data.toList=l):Value.string s=txtVal l:=by subst h;simp[txtVal]
theorem chunks {α:Type} {k:Nat} (f:Nat→List α):∀(n:Nat) (cs:List α),cs.length=n*k→(∀i,i<n→(cs.drop (i*k)).take k=f i)→cs=((List.range n).map f).flatten
  | 0,cs,hl,_=>by simp at hl;simp[hl]
  | n + 1, cs, hl, h => by
    rw[Nat.succ_mul] at hl;have h1:=chunks (k:=k) f n (cs.take (n*k)) (by rw[List.length_take];omega) fun i hi=>by
      have:i*k+k≤n*k:=by rw[←Nat.succ_mul];exact Nat.mul_le_mul_right _ hi
      rw[List.drop_take,List.take_take,Nat.min_eq_left (by omega)];exact h i (by omega)
    have h2:=h n (by omega);rw[List.take_of_length_le (by rw[List.length_drop];omega)] at h2;rw[List.range_succ,List.map_append,List.flatten_append,←h1];simp only[List.map_cons,List.map_nil,List.flatten_cons,List.flatten_nil,List.append_nil];rw[←h2,List.take_append_drop]
theorem cells_of_pair {base:Nat} {sp:Nat→Bool} {held:Bool} {fuel:Nat} {e tf:TypeId} {fs:Array Field} {cs:List Value} {x:DataW H × List MemPlace} {a b:List UInt8}
    (he:P.underlying e=some (.struct fs)) (hs:fs.size=2) (hf0:(fs[0]?).map (fun f=>(f.type,f.offset))=some (tf,0)) (hf1:(fs[1]?).map (fun f=>(f.type,f.offset))=some (tf,1))
    (htf:P.underlying tf=some .string) (hct:P.cellsOf tf=1) (hce:P.cellsOf e=2)
    (h:DataW.trod enc P W base sp held fuel e cs=some x) (hx:x.1 = .agg [.lit (.string a),.lit (.string b)]):cs=[txtVal a,txtVal b]:=by
  obtain⟨xs,m,rfl,rfl,hl,hxl,hf⟩:=DataW.trod_struct he h;rw[hce] at hl;rw[hs] at hxl;obtain⟨u,v,rfl⟩:=list2 hl;obtain⟨x0,x1,rfl⟩:=list2 hxl;obtain⟨f0,g0,g1⟩:=Option.map_eq_some_iff.1 hf0;obtain⟨f1,g2,g3⟩:=Option.map_eq_some_iff.1 hf1;simp only[Prod.mk.injEq] at g1 g3;have h0:=hf 0 f0 g0;have h1:=hf 1 f1 g2;rw[g1.1,g1.2,hct] at h0;rw[g3.1,g3.2,hct] at h1;obtain⟨s0,p0,q0,_⟩:=DataW.trod_string htf h0;obtain⟨s1,p1,q1,_⟩:=DataW.trod_string htf h1;simp only[List.drop_zero,List.drop_succ_cons,List.take_succ_cons,List.take_zero,List.cons.injEq,and_true] at p0 p1;subst p0 p1 q0 q1;simp only[List.map_cons,List.map_nil,DataW.agg.injEq,List.cons.injEq,DataW.lit.injEq,Lit.string.injEq,and_true] at hx;rw[txtVal_of hx.1,txtVal_of hx.2]
theorem cells_of_pairs {base:Nat} {sp:Nat→Bool} {held:Bool} {fuel:Nat} {t e tf:TypeId} {n:Nat} {fs:Array Field} {cs:List Value} {ps:List (List UInt8 × List UInt8)} {p:List MemPlace}
    (ht:P.underlying t=some (.array n e)) (he:P.underlying e=some (.struct fs)) (hs:fs.size=2) (hf0:(fs[0]?).map (fun f=>(f.type,f.offset))=some (tf,0)) (hf1:(fs[1]?).map (fun f=>(f.type,f.offset))=some (tf,1))
    (htf:P.underlying tf=some .string) (hctf:P.cellsOf tf=1) (hce:P.cellsOf e=2) (hct:P.cellsOf t=n*2)
    (h:DataW.trod enc P W base sp held fuel t cs=some (pairsData ps,p)):cs=(ps.flatMap fun p=>[p.1,p.2]).map txtVal:=by
  obtain⟨xs,m,rfl,hx,hl,hxl,hi⟩:=DataW.trod_array ht h;rw[hct] at hl;have hxs:xs.map (·.1)=ps.map fun p=>(.agg [.lit (.string p.1),.lit (.string p.2)]:DataW H):=by
    have:=congrArg Prod.fst hx
    simpa [pairsData] using this.symm
  have hpl:ps.length=n:=by
    have:=congrArg List.length hxs
    simp at this;omega
  have hc:=chunks (fun i=>match ps[i]? with | some p=>[txtVal p.1,txtVal p.2] | none=>[]) n cs hl (fun i hin=>by
    have h1:=hi i hin;rw[hce] at h1;have hxi:xs[i]?=some xs[i]:=by simp[hxl,hin]
    have hpi:ps[i]?=some ps[i]:=by simp[hpl,hin]
    rw[hxi] at h1;have h2:=congrArg (·[i]?) hxs;simp only[List.getElem?_map,hxi,hpi,Option.map_some,Option.some.injEq] at h2;rw[hpi];exact cells_of_pair he hs hf0 hf1 htf hctf hce h1 h2)
  rw[hc,←hpl];clear hc hi hxl hl hx hxs h hpl;have key:∀qs:List (List UInt8 × List UInt8),((List.range qs.length).map fun i=>match qs[i]? with | some p=>[txtVal p.1,txtVal p.2] | none=>[])=qs.map fun p=>[txtVal p.1,txtVal p.2]:=fun qs=>by
    apply List.ext_getElem?;intro i
    by_cases hi:i<qs.length
    · simp[hi]
    · simp[hi]
  rw[key,List.map_flatMap,List.flatMap_def];rfl
end
end Go.Am

namespace Go.Am
open Go.ChangeShapes Go.WideShapes Go.ChangeAt Go.RowKit
def litV:V→Value
  | .str s=>txtVal s
  | .int k n=>.int k n
  | _=>.bool false
def isLit:V→Bool
  | .str _=>true
  | .int _ _=>true
  | _=>false
theorem litR {E:Env} {x:V} (h:isLit x=true) (v:Value):R E x v↔v=litV x:=by
  cases x<;>simp[isLit] at h<;>simp[R,litV,txtVal]
def mStore (B:Nat→Option (List V)):Store:=⟨fun _=>none,fun _=>none,B⟩
def MGlob (W:World) (B:Nat→Option (List V)):Prop:=∀b cs,B b=some cs→(∃e,W.heap[b]?=some (.cells (cs.map litV).toArray e (0,0)))∧∀x∈cs,isLit x=true
theorem lits_RL {E:Env}:∀{cs:List V},(∀x∈cs,isLit x=true)→RL E cs (cs.map litV)
  | [],_=>by simp[RL]
  | x :: cs, h => by
    simp only[List.map_cons,RL];exact⟨(litR (h x (by simp)) _).2 rfl,lits_RL fun y hy=>h y (by simp[hy])⟩
theorem mGlob_ok {W:World} {B:Nat→Option (List V)} (h:MGlob W B):(envOf W).ok (mStore B):=by
  refine⟨fun _ _ h=>by simp[mStore] at h,fun _ _ h=>by simp[mStore] at h,fun _ _=>rfl,⟨0,fun _ _=>rfl⟩,fun b cs hb=>?_⟩;obtain⟨⟨e,he⟩,hl⟩:=h b cs hb;refine RAs_mk (vs:=cs.map litV) (lits_RL hl) (fun v hv=>?_) (fun j v hj=>?_) fun _ _=>trivial
  · obtain⟨x,hx,rfl⟩:=List.mem_map.1 hv
    have:=hl x hx
    cases x<;>simp[isLit] at this<;>rfl
  · show W.cell? _=_;simp only[World.cell?,he,Nat.zero_add];simpa using hj
theorem law_callsM {H:Type} {enc:TypeId × Value→H} {P:Program} {n:FuncId} {f:Func} {s:ChangeSpec} {W:World} {args:Array Value} {vs:List V} {ds:List (DataW H)} {before:List MemPlace} {tb:TypeId} {B:Nat→Option (List V)}
    (hP:PCalls P n vs (mStore B) fun v σ' => v = .bool true∧σ' = mStore B) (hg:MGlob W B) (hR:RL (envOf W) vs args.toList)
    (hl:laidOutB P=true) (hm:mapsRowed P=true) (hz:((List.range P.types.size).all fun t=>match P.underlying t with | some (.slice e)=>decide (0<P.cellsOf e) | _=>true)=true)
    (hres:f.resultTypes=#[tb]) (htb:P.underlying tb=some .bool) (hpar:∀t∈f.params.toList,t<P.types.size) (hvars:s.vars=[]) (hfn:(s.fn H ds).results=[.lit (.bool true)]∧(s.fn H ds).args=ds∧(s.fn H ds).vars=[])
    (hW:DataW.Whole enc P f.params.toList s.vars false W args.toList ds [] before) :
    Calls P n args W fun e W' => ∃v,e = .returned v∧s.post enc P f false true false false W args v W' := by
  refine(hP.2 (envOf W) args (fun _=>rfl) (mGlob_ok hg) hR).mono ?_;rintro e w' ⟨v,x,E',σ',rfl,rfl,_,_,hRv,hfr,rfl,_⟩;simp only[R] at hRv;subst hRv;exact⟨_,rfl,post_am hl hm hz hres htb hpar hvars hfn hW hfr⟩
end Go.Am

namespace Go.Am
open Go.ChangeShapes Go.WideShapes Go.ChangeAt Go.RowKit
section
variable {H:Type} {enc:TypeId × Value→H} {P:Program} {W:World}
theorem laid_at {name:String} {d:DataW Unit} {rest:List (String × DataW Unit)} {g:Nat} {t:TypeId} (h:laidMet P ((name,d)::rest) W) (hg:P.globalNamed name=some g) (ht:(P.globals[g]?).map (·.type)=some t) {vs:List Value}
    (hc:∀(cs:List Value) (fuel:Nat) (p:List MemPlace),DataW.trod (fun _=>()) P W 0 (fun _=>true) false fuel t cs=some (d,p)→cs=vs) (hv:vs≠[]):∃e,W.heap[g]?=some (.cells vs.toArray e (0,0)):=by
  obtain⟨ps,⟨g',t',cs,fuel,p,q,hg',ht',hv',hd,_,hps⟩,_,hb⟩:=h;obtain rfl:g' = g:=Option.some.inj (hg'.symm.trans hg);obtain rfl:t' = t:=Option.some.inj (ht'.symm.trans ht);have hcs:=hc _ _ _ hd;have hcs' : cs=vs.toArray:=by rw[←hcs]
  obtain⟨⟨c,e,hce⟩,_⟩:=hb g' 0 (by
    rw[hps];refine List.mem_append_left _ (List.mem_append_left _ ?_);rw[hcs'];cases vs with
    | nil=>exact absurd rfl hv
    | cons a l=>simp[MemPlace.row])
  refine⟨e,?_⟩;rw[hce];simp only[World.var?,hg,Option.bind_some,hce,Option.some.injEq] at hv';rw[hv',hcs']
end
end Go.Am

namespace Go.Am
open Go.ChangeShapes Go.WideShapes Go.ChangeAt Go.RowKit
section
variable {E:Env}
theorem RL_app:∀{l m:List V} {cs ds:List Value},RL E l cs→RL E m ds→RL E (l++m) (cs++ds)
  | [],_,[],_,_,h=>h
  | [],_,_::_,_,h,_=>by simp[RL] at h
  | _::_,_,[],_,h,_=>by simp[RL] at h
  | x :: l, m, c :: cs, ds, h, h2 => by
    simp only[RL,List.cons_append] at h ⊢;exact⟨h.1,RL_app h.2 h2⟩
def u64At:Value→B64
  | .int .u64 z=>BitVec.ofInt 64 z
  | _=>0#64
theorem RL_u64s:∀(cs:List Value),(∀v∈cs,∃z:Int,v = .int .u64 z∧0≤z∧z<18446744073709551616)→RL E (encW (cs.map u64At)) cs
  | [],_=>by simp[encW,RL]
  | v :: cs, h => by
    obtain⟨z,rfl,h0,h1⟩:=h v (by simp);have ih:=RL_u64s cs fun v hv=>h v (by simp[hv])
    simp only[encW,List.map_cons,RL] at ih ⊢;refine⟨?_,ih⟩;simp only[R,u64At,Value.int.injEq,true_and];rw[BitVec.toNat_ofInt];omega
end
section
variable {H:Type} (enc:TypeId × Value→H) (P:Program) (W:World) (B:DataW H→Nat)
def Tld (N:Nat) (t:TypeId) (F:List V→Nat→Prop):Prop :=
  ∀n,n<N→∀cs x,DataW.trod enc P W 0 (fun _=>true) true n t cs=some x→∃l,RL (envOf W) l cs∧(∀v∈cs,v.oneCell' = true)∧F l (B x.1)
def Flds (N:Nat):List Field→Nat→(List V→Nat→Prop)→Prop
  | [],_,F=>F [] 0
  | f::r,o,F=>f.offset=o∧∃G,Tld enc P W B N f.type G∧∀l b,G l b→Flds N r (o+P.cellsOf f.type) fun l' b' => F (l++l') (b+b')
end
section
variable {H:Type} {enc:TypeId × Value→H} {P:Program} {W:World} {B:DataW H→Nat} {BA:List (DataW H)→Nat} {N:Nat} {t:TypeId}
theorem Tld.mono {M:Nat} {F:List V→Nat→Prop} (h:Tld enc P W B N t F) (hM:M≤N):Tld enc P W B M t F:=fun n hn=>h n (Nat.lt_of_lt_of_le hn hM)
theorem Tld.to {F G:List V→Nat→Prop} (h:Tld enc P W B N t F) (hg:∀l b,F l b→G l b):Tld enc P W B N t G:=fun n hn cs x hx =>
  let ⟨l,h1,h2,h3⟩:=h n hn cs x hx
  ⟨l,h1,h2,hg _ _ h3⟩
theorem tld_int {k:IntKind} (ht:P.underlying t=some (.int k)) (hB:BulkFn B BA):Tld enc P W B N t fun l b=>∃i:Int,l=[.int k i]∧b=1∧(Lit.int k i).wf=true:=fun n _ cs x h =>
  let ⟨i,h1,h2,h3,h4⟩:=rd_int ht hB h
  ⟨_,h1,h2,i,rfl,h3,h4⟩
theorem tld_bool (ht:P.underlying t=some .bool) (hB:BulkFn B BA):Tld enc P W B N t fun l b=>∃i:Bool,l=[.bool i]∧b=1:=fun n _ cs x h =>
  let ⟨i,h1,h2,h3⟩:=rd_bool ht hB h
  ⟨_,h1,h2,i,rfl,h3⟩
theorem tld_str (ht:P.underlying t=some .string) (hB:BulkFn B BA):Tld enc P W B N t fun l b=>∃s:List UInt8,l=[.str s]∧b=s.length+1:=fun n _ cs x h =>
  let ⟨s,h1,h2,h3⟩:=rd_str ht hB h
  ⟨_,h1,h2,s,rfl,h3.symm⟩
theorem tld_u64s {e:TypeId} {n:Nat} (ht:P.underlying t=some (.array n e)) (he:P.underlying e=some (.int .u64)) (hce:P.cellsOf e=1) (hct:P.cellsOf t=n):Tld enc P W B N t fun l _=>∃w:List B64,w.length=n∧l=encW w:=by
  intro q _ cs x h;obtain⟨xs,m,rfl,rfl,hl,hx,hf⟩:=DataW.trod_array ht h;rw[hct] at hl;have all:∀v∈cs,∃z:Int,v = .int .u64 z∧0≤z∧z<18446744073709551616:=by
    intro v hv;obtain⟨i,hi,rfl⟩:=List.mem_iff_getElem.1 hv;have h1:=hf i (by omega);rw[hce,Nat.mul_one,List.getElem?_eq_getElem (show i<xs.length by omega),List.drop_eq_getElem_cons hi,List.take_succ_cons,List.take_zero] at h1;obtain⟨z,e1,_,hw⟩:=DataW.trod_int he h1;simp[Lit.wf,IntKind.min,IntKind.max,IntKind.signed,IntKind.bits] at hw;exact⟨z,by simpa using e1,by omega,by omega⟩
  refine⟨_,RL_u64s cs all,fun v hv=>?_,cs.map u64At,by simp[hl],rfl⟩;obtain⟨z,rfl,_⟩:=all v hv;rfl
theorem tld_slice {α:Type} (ea:α→List V) (sz:α→Nat) {e:TypeId} {k:Nat} (hB:BulkFn B BA) (ht:P.underlying t=some (.slice e)) (hk:P.cellsOf e=k) (hpos:0<k) (hlen:∀y,(ea y).length=k)
    (hel:Tld enc P W B N e fun l b=>∃y,l=ea y∧sz y≤b):Tld enc P W B (N+1) t fun l b=>∃ys:List α,l=[.sl .no k (ys.map ea)]∧(ys.map sz).sum+1≤b:=by
  intro n hn cs x h;obtain⟨ys,h1,h2,h3⟩:=rd_slice ea sz hB ht hk hpos hlen (fun m hm cs x h=>by
    obtain⟨l,k1,k2,y,rfl,k3⟩:=hel m (by omega) cs x h;exact⟨y,k1,k2,k3⟩) h
  exact⟨_,h1,h2,ys,rfl,h3⟩
theorem flds_read (hB:BulkFn B BA) {m:Nat} (hm:m<N) {cs:List Value}:∀(fs:List Field) (o:Nat) (F:List V→Nat→Prop) (xs:List (DataW H × List MemPlace)),Flds enc P W B N fs o F→xs.length=fs.length →
    (∀(i:Nat) (f:Field),fs[i]?=some f→DataW.trod enc P W 0 (fun _=>true) true m f.type ((cs.drop f.offset).take (P.cellsOf f.type))=xs[i]?)→cs.length=o+(fs.map fun f=>P.cellsOf f.type).sum →
    ∃l,RL (envOf W) l (cs.drop o)∧(∀v∈cs.drop o,v.oneCell' = true)∧F l (BA (xs.map (·.1)))
  | [], o, F, xs, h, hx, _, hl => by
    obtain rfl:=List.eq_nil_of_length_eq_zero (by simpa using hx);simp only[List.map_nil,List.sum_nil,Nat.add_zero] at hl;refine⟨[],?_,?_,?_⟩
    · rw[List.drop_of_length_le (by omega)];simp[RL]
    · rw[List.drop_of_length_le (by omega)];simp
    · rw[List.map_nil,hB.no];exact h
  | f :: fs, o, F, xs, h, hx, hf, hl => by
    obtain⟨h1,G,h2,h3⟩:=h;cases xs with
    | nil=>simp at hx
    | cons x xs =>
      have h0:=hf 0 f rfl;rw[List.getElem?_cons_zero,h1] at h0;obtain⟨l,k1,k2,k3⟩:=h2 m hm _ x h0;simp only[List.map_cons,List.sum_cons] at hl;obtain⟨l',g1,g2,g3⟩:=flds_read hB hm fs (o+P.cellsOf f.type) _ xs (h3 l _ k3) (by simpa using hx) (fun i f' hi=>by simpa using hf (i+1) f' (by simpa using hi)) (by omega);have e:(cs.drop o).take (P.cellsOf f.type)++cs.drop (o+P.cellsOf f.type)=cs.drop o:=by rw[←List.drop_drop,List.take_append_drop]
      refine⟨l++l',?_,fun v hv=>?_,?_⟩
      · rw[←e];exact RL_app k1 g1
      · rw[←e] at hv
        rcases List.mem_append.1 hv with hv | hv
        · exact k2 v hv
        · exact g2 v hv
      · rw[List.map_cons,hB.cons];exact g3
theorem tld_struct (hB:BulkFn B BA) {fs:Array Field} (ht:P.underlying t=some (.struct fs)) {F:List V→Nat→Prop} (h:Flds enc P W B N fs.toList 0 F) (hc:P.cellsOf t=(fs.toList.map fun f=>P.cellsOf f.type).sum) :
    Tld enc P W B (N+1) t fun l b=>∃b',F l b' ∧ b=b' + 1:=by
  intro n hn cs x hx;obtain⟨xs,m,rfl,rfl,hl,hlen,hf⟩:=DataW.trod_struct ht hx;obtain⟨l,h1,h2,h3⟩:=flds_read hB (show m<N by omega) (cs:=cs) fs.toList 0 F xs h (by simpa using hlen) (fun i f hi=>hf i f (by simpa using hi)) (by omega);exact⟨l,h1,h2,_,h3,hB.agg _⟩
theorem flds_nil {o:Nat} {F:List V→Nat→Prop} (h:F [] 0):Flds enc P W B N [] o F:=h
theorem flds_cons {f:Field} {r:List Field} {o:Nat} {F G:List V→Nat→Prop} (h1:f.offset=o) (h2:Tld enc P W B N f.type G) (h3:∀l b,G l b→Flds enc P W B N r (o+P.cellsOf f.type) fun l' b' => F (l++l') (b+b')):Flds enc P W B N (f::r) o F:=⟨h1,G,h2,h3⟩
theorem tld_struct1 (hB:BulkFn B BA) {fs:List Field} (ht:P.underlying t=some (.struct fs.toArray)) {F:List V→Nat→Prop} (hc:P.cellsOf t=(fs.map fun f=>P.cellsOf f.type).sum) (h:Flds enc P W B N fs 0 fun l b=>F l (b+1)):Tld enc P W B (N+1) t F :=
  (tld_struct hB ht (F:=fun l b=>F l (b+1)) (by simpa using h) (by simpa using hc)).to fun l b ⟨b',h1,h2⟩=>h2▸h1
theorem tld_struct0 (hB:BulkFn B BA) {fs:List Field} (ht:P.underlying t=some (.struct fs.toArray)) {F:List V→Nat→Prop} (hc:P.cellsOf t=(fs.map fun f=>P.cellsOf f.type).sum) (h:Flds enc P W B N fs 0 fun l b=>F l (b+1)):Tld enc P W B N t F :=
  (tld_struct1 hB ht hc h).mono (Nat.le_succ N)
theorem tld_slice0 {α:Type} (ea:α→List V) (sz:α→Nat) {e:TypeId} {k:Nat} (hB:BulkFn B BA) (ht:P.underlying t=some (.slice e)) (hk:P.cellsOf e=k) (hpos:0<k) (hlen:∀y,(ea y).length=k)
    (hel:Tld enc P W B N e fun l b=>∃y,l=ea y∧sz y≤b):Tld enc P W B N t fun l b=>∃ys:List α,l=[.sl .no k (ys.map ea)]∧(ys.map sz).sum+1≤b :=
  (tld_slice ea sz hB ht hk hpos hlen hel).mono (Nat.le_succ N)
end
end Go.Am

namespace Go.Proofs.Tryz
open Go.Am Go.ChangeShapes Go.WideShapes Go.ChangeAt Go.RowKit
open Go.Proofs.YtmgdldfokpcbkaaGreatDoor
theorem bulkFn (H:Type):BulkFn (H:=H) Rows.uptoBulk Rows.uptoBulkAll :=
  ⟨fun _=>by simp only[Rows.uptoBulk],fun _ _=>by simp only[Rows.uptoBulk],fun _=>by simp only[Rows.uptoBulk],by simp only[Rows.uptoBulk],fun _ _=>by simp only[Rows.uptoBulk],fun _=>by simp only[Rows.uptoBulk],by simp only[Rows.uptoBulkAll],fun _ _=>by simp only[Rows.uptoBulkAll]⟩
theorem laid:laidOutB prog=true:=by kernel_rfl
theorem rowed:mapsRowed prog=true:=by kernel_rfl
theorem fulls:((List.range prog.types.size).all fun t=>match prog.underlying t with | some (.slice e)=>decide (0<prog.cellsOf e) | _=>true)=true:=by kernel_rfl
theorem own:ownKnob prog.godebug=none:=by kernel_rfl
def gB:Nat→Option (List V):=fun b=>if b=0 then some formCells else if b=1 then some tzCells else none
theorem globs_at {W:World} (h:laidMetH prog Rows.fitRightRow.laid W):MGlob W gB:=by
  have h0:laidMet prog Rows.fitRightRow.laid W:=h;have h1:=laidMet.tail h0;obtain⟨e0,k0⟩:=laid_at (g:=0) (t:=170) (vs:=formCells.map litV) h0 (by kernel_rfl) (by kernel_rfl) (fun cs fuel p hd=>(cells_of_pairs (ps:=formT) underlying170 underlying154 (by kernel_rfl) (by kernel_rfl) (by kernel_rfl) underlying9 (by kernel_rfl) (by kernel_rfl) (by kernel_rfl) hd).trans rfl) (by simp[formCells,formT]);obtain⟨e1,k1⟩:=laid_at (g:=1) (t:=187) (vs:=tzCells.map litV) h1 (by kernel_rfl) (by kernel_rfl) (fun cs fuel p hd=>(Lib.cells_of_tab (zs:=tzTab) underlying187 underlying5 (by kernel_rfl) (by kernel_rfl) hd).trans rfl) (by simp[tzCells,tzTab]);intro b cs hb;simp only[gB] at hb;split at hb
  · rename_i hq;subst hq;obtain rfl:=Option.some.inj hb;exact⟨⟨e0,k0⟩,by decide⟩
  split at hb
  · rename_i hq;subst hq;obtain rfl:=Option.some.inj hb;exact⟨⟨e1,k1⟩,by decide⟩
  simp at hb
def lay1:DataW Unit→List Value
  | .lit (.int k n)=>[.int k n]
  | .lit (.string s)=>[txtVal s]
  | _=>[]
def lay2:DataW Unit→List Value
  | .agg ds=>ds.flatMap lay1
  | d=>lay1 d
def lay3:DataW Unit→List Value
  | .agg ds=>ds.flatMap lay2
  | d=>lay1 d
def layAt (h:Array Obj) (x:Nat × DataW Unit):Array Obj:=h.modify x.1 fun
  | .cells _ t frozen=>.cells (lay3 x.2).toArray t frozen
  | o=>o
noncomputable def laidWorld (os:Os):World :=
  {World.holding prog os ⟨#[],#[],[]⟩ with heap:=[(0,Rows.laid_clearance_command_forms),(1,Rows.laid_math_bits_deBruijn64tab)].foldl layAt (World.holding prog os ⟨#[],#[],[]⟩).heap}
set_option maxRecDepth 100000
section
variable {H:Type} {enc:TypeId × Value→H} {W:World} {N:Nat}
abbrev TL (enc:TypeId × Value→H) (W:World) (N:Nat) (t:TypeId) (F:List V→Nat→Prop):Prop:=Tld enc prog W (Rows.uptoBulk (H:=H)) N t F
theorem r_int:TL enc W N 3 fun l b=>∃y:Int,l=[.int .i64 y]∧1≤b:=(tld_int underlying3 (bulkFn H)).to fun _ _ ⟨y,h,k,_⟩=>⟨y,h,by omega⟩
theorem r_bool:TL enc W N 4 fun l b=>∃y:Bool,l=[.bool y]∧1≤b:=(tld_bool underlying4 (bulkFn H)).to fun _ _ ⟨y,h,k⟩=>⟨y,h,by omega⟩
theorem r_str:TL enc W N 9 fun l b=>∃y:List UInt8,l=[.str y]∧y.length+1≤b:=(tld_str underlying9 (bulkFn H)).to fun _ _ ⟨y,h,k⟩=>⟨y,h,by omega⟩
theorem r_names:TL enc W N 67 fun l b=>∃ys:List (List UInt8),l=[.sl .no 1 (sCells ys)]∧(ys.map fun s=>s.length+1).sum+1≤b :=
  tld_slice0 (fun s:List UInt8=>[V.str s]) (fun s=>s.length+1) (bulkFn H) underlying67 (show prog.cellsOf 9=1 by kernel_rfl) (by decide) (fun _=>rfl) (r_str.to fun _ _ ⟨y,h,k⟩=>⟨y,h,k⟩)
theorem r_rel:TL enc W N 70 fun l b=>∃y:Rl,l=y.enc∧0≤b:=by
  refine tld_struct0 (bulkFn H) underlying70 (by kernel_rfl) ?_;refine flds_cons (by kernel_rfl) r_int ?_;rintro _ b0 ⟨y0,rfl,h0⟩;refine flds_cons (by kernel_rfl) (tld_u64s underlying68 underlying39 (by kernel_rfl) (by kernel_rfl)) ?_;rintro _ b1 ⟨y1,h1,rfl⟩;exact flds_nil ⟨⟨y0,y1,h1⟩,by rw[List.append_nil];rfl,Nat.zero_le _⟩
theorem r_fct:TL enc W N 72 fun l b=>∃y:Fct,l=y.enc∧0≤b:=by
  refine tld_struct0 (bulkFn H) underlying72 (by kernel_rfl) ?_;refine flds_cons (by kernel_rfl) r_int ?_;rintro _ b0 ⟨y0,rfl,h0⟩;refine flds_cons (by kernel_rfl) r_names ?_;rintro _ b1 ⟨y1,rfl,h1⟩;refine flds_cons (by kernel_rfl) r_rel ?_;rintro _ b2 ⟨y2,rfl,h2⟩;exact flds_nil ⟨⟨y0,y1,y2⟩,by simp[Fct.enc],by exact Nat.zero_le _⟩
theorem r_fcts:TL enc W N 58 fun l b=>∃ys:List (Fct),l=[.sl .no 67 (ys.map Fct.enc)]∧(ys.map fun _=>0).sum+1≤b :=
  (tld_slice0 Fct.enc (fun _=>0) (bulkFn H) underlying58 (show prog.cellsOf 72=67 by kernel_rfl) (by decide) (fun _=>Fct.r_len) r_fct)
theorem r_shp:TL enc W N 60 fun l b=>∃y:Shp,l=y.enc∧0≤b:=by
  refine tld_struct0 (bulkFn H) underlying60 (by kernel_rfl) ?_;refine flds_cons (by kernel_rfl) r_bool ?_;rintro _ b0 ⟨y0,rfl,h0⟩;refine flds_cons (by kernel_rfl) r_fcts ?_;rintro _ b1 ⟨y1,rfl,h1⟩;exact flds_nil ⟨⟨y0,y1⟩,by rfl,by exact Nat.zero_le _⟩
theorem r_lat:TL enc W N 62 fun l b=>∃y:Ltc,l=y.enc∧0≤b:=by
  refine tld_struct0 (bulkFn H) underlying62 (by kernel_rfl) ?_;refine flds_cons (by kernel_rfl) r_str ?_;rintro _ b0 ⟨y0,rfl,h0⟩;refine flds_cons (by kernel_rfl) r_shp ?_;rintro _ b1 ⟨y1,rfl,h1⟩;exact flds_nil ⟨⟨y0,y1⟩,by rfl,by exact Nat.zero_le _⟩
theorem r_var:TL enc W N 65 fun l b=>∃y:Vrb,l=y.enc∧0≤b:=by
  refine tld_struct0 (bulkFn H) underlying65 (by kernel_rfl) ?_;refine flds_cons (by kernel_rfl) r_str ?_;rintro _ b0 ⟨y0,rfl,h0⟩;refine flds_cons (by kernel_rfl) r_int ?_;rintro _ b1 ⟨y1,rfl,h1⟩;refine flds_cons (by kernel_rfl) r_int ?_;rintro _ b2 ⟨y2,rfl,h2⟩;exact flds_nil ⟨⟨y0,y1,y2⟩,by rfl,by exact Nat.zero_le _⟩
theorem r_lats:TL enc W N 22 fun l b=>∃ys:List (Ltc),l=[.sl .no 3 (ys.map Ltc.enc)]∧(ys.map fun _=>0).sum+1≤b :=
  (tld_slice0 Ltc.enc (fun _=>0) (bulkFn H) underlying22 (show prog.cellsOf 62=3 by kernel_rfl) (by decide) (fun _=>rfl) r_lat)
theorem r_vars:TL enc W N 23 fun l b=>∃ys:List (Vrb),l=[.sl .no 3 (ys.map Vrb.enc)]∧(ys.map fun _=>0).sum+1≤b :=
  (tld_slice0 Vrb.enc (fun _=>0) (bulkFn H) underlying23 (show prog.cellsOf 65=3 by kernel_rfl) (by decide) (fun _=>rfl) r_var)
theorem r_scp:TL enc W N 25 fun l b=>∃y:Scp,l=y.enc∧0≤b:=by
  refine tld_struct0 (bulkFn H) underlying25 (by kernel_rfl) ?_;refine flds_cons (by kernel_rfl) r_lats ?_;rintro _ b0 ⟨y0,rfl,h0⟩;refine flds_cons (by kernel_rfl) r_vars ?_;rintro _ b1 ⟨y1,rfl,h1⟩;exact flds_nil ⟨⟨y0,y1⟩,by rfl,by exact Nat.zero_le _⟩
theorem r_elm:TL enc W N 41 fun l b=>∃y:Elm,l=y.enc∧0≤b :=
  (tld_u64s underlying41 underlying39 (by kernel_rfl) (by kernel_rfl)).to fun _ _ ⟨w,h,e⟩=>⟨⟨w,h⟩,e,Nat.zero_le _⟩
theorem r_ins:TL enc W N 91 fun l b=>∃y:Ins,l=y.enc∧0≤b:=by
  refine tld_struct0 (bulkFn H) underlying91 (by kernel_rfl) ?_;refine flds_cons (by kernel_rfl) r_int ?_;rintro _ b0 ⟨y0,rfl,h0⟩;refine flds_cons (by kernel_rfl) r_int ?_;rintro _ b1 ⟨y1,rfl,h1⟩;refine flds_cons (by kernel_rfl) r_elm ?_;rintro _ b2 ⟨y2,rfl,h2⟩;exact flds_nil ⟨⟨y0,y1,y2⟩,by simp[Ins.enc],by exact Nat.zero_le _⟩
theorem r_inss:TL enc W N 38 fun l b=>∃ys:List (Ins),l=[.sl .no 10 (ys.map Ins.enc)]∧(ys.map fun _=>0).sum+1≤b :=
  (tld_slice0 Ins.enc (fun _=>0) (bulkFn H) underlying38 (show prog.cellsOf 91=10 by kernel_rfl) (by decide) (fun _=>Ins.r_len) r_ins)
theorem r_atm:TL enc W N 43 fun l b=>∃y:Atm,l=y.enc∧0≤b:=by
  refine tld_struct0 (bulkFn H) underlying43 (by kernel_rfl) ?_;refine flds_cons (by kernel_rfl) r_int ?_;rintro _ b0 ⟨y0,rfl,h0⟩;refine flds_cons (by kernel_rfl) r_elm ?_;rintro _ b1 ⟨y1,rfl,h1⟩;exact flds_nil ⟨⟨y0,y1⟩,by simp[Atm.enc],by exact Nat.zero_le _⟩
theorem r_fld:TL enc W N 83 fun l b=>∃y:Fld,l=y.enc∧0≤b:=by
  refine tld_struct0 (bulkFn H) underlying83 (by kernel_rfl) ?_;refine flds_cons (by kernel_rfl) r_str ?_;rintro _ b0 ⟨y0,rfl,h0⟩;refine flds_cons (by kernel_rfl) r_atm ?_;rintro _ b1 ⟨y1,rfl,h1⟩;exact flds_nil ⟨⟨y0,y1⟩,by simp[Fld.enc],by exact Nat.zero_le _⟩
theorem r_flds:TL enc W N 44 fun l b=>∃ys:List (Fld),l=[.sl .no 10 (ys.map Fld.enc)]∧(ys.map fun _=>0).sum+1≤b :=
  (tld_slice0 Fld.enc (fun _=>0) (bulkFn H) underlying44 (show prog.cellsOf 83=10 by kernel_rfl) (by decide) (fun _=>Fld.r_len) r_fld)
theorem r_rtm:TL enc W N 46 fun l b=>∃y:Rtm,l=y.enc∧0≤b:=by
  refine tld_struct0 (bulkFn H) underlying46 (by kernel_rfl) ?_;refine flds_cons (by kernel_rfl) r_flds ?_;rintro _ b0 ⟨y0,rfl,h0⟩;refine flds_cons (by kernel_rfl) r_int ?_;rintro _ b1 ⟨y1,rfl,h1⟩;exact flds_nil ⟨⟨y0,y1⟩,by rfl,by exact Nat.zero_le _⟩
theorem r_ast:TL enc W N 48 fun l b=>∃y:Ast,l=y.enc∧0≤b:=by
  refine tld_struct0 (bulkFn H) underlying48 (by kernel_rfl) ?_;refine flds_cons (by kernel_rfl) r_int ?_;rintro _ b0 ⟨y0,rfl,h0⟩;refine flds_cons (by kernel_rfl) r_int ?_;rintro _ b1 ⟨y1,rfl,h1⟩;refine flds_cons (by kernel_rfl) r_inss ?_;rintro _ b2 ⟨y2,rfl,h2⟩;refine flds_cons (by kernel_rfl) r_atm ?_;rintro _ b3 ⟨y3,rfl,h3⟩;refine flds_cons (by kernel_rfl) r_rtm ?_;rintro _ b4 ⟨y4,rfl,h4⟩;refine flds_cons (by kernel_rfl) r_rtm ?_;rintro _ b5 ⟨y5,rfl,h5⟩;refine flds_cons (by kernel_rfl) r_int ?_;rintro _ b6 ⟨y6,rfl,h6⟩;refine flds_cons (by kernel_rfl) r_str ?_;rintro _ b7 ⟨y7,rfl,h7⟩;exact flds_nil ⟨⟨y0,y1,y2,y3,y4,y5,y6,y7⟩,by simp[Ast.enc,astV,Rtm.enc],by exact Nat.zero_le _⟩
end
end Go.Proofs.Tryz

namespace Go.Proofs.Tryz
open Go.Am Go.ChangeShapes Go.WideShapes Go.ChangeAt Go.RowKit
open Go.Proofs.YtmgdldfokpcbkaaGreatDoor
set_option maxRecDepth 100000 in
theorem fitRight_contract (H:Type) (enc:TypeId × Value→H) (W:World) (base:Nat) (args:Array Value) (ds gs:List (DataW H)) (before:List MemPlace)
    (hval:∀(j:Nat) t v,f4.params[j]?=some t→args[j]?=some v→Value.okWide prog W .any base t v)
    (hW:DataW.Whole enc prog f4.params.toList Rows.fitRightSpec.vars false W args.toList ds gs before) (hk:Rows.uptoSmall H (ds++gs)=true) (hL:laidMetH prog Rows.fitRightRow.laid W) :
    Calls prog 4 args W fun e W' => ∃v,e = .returned v∧Rows.fitRightSpec.post enc prog f4 false true false false W args v W' := by
  have hW' := hW;obtain⟨p,q,hA0,hV,rfl,hfz,hnd⟩:=hW;have hA:DataW.TrodAll enc prog W 0 (fun _=>true) true f4.params.toList args.toList ds p:=hA0;rw[params4] at hA hval;obtain⟨v0,vs0,d0,ds0,p0,q0,hargs,rfl,rfl,⟨n0,h0⟩,r0⟩:=trodAll_cons hA;obtain⟨v1,vs1,d1,ds1,p1,q1,rfl,rfl,rfl,⟨n1,h1⟩,r1⟩:=trodAll_cons r0;obtain⟨rfl,rfl,rfl⟩:=trodAll_nil r1;obtain rfl:args=#[v0,v1]:=by cases args;simp_all
  obtain⟨rfl,rfl⟩:=trodVars_none hV;have hG:=globs_at hL;obtain⟨_,a0,_,y0,rfl,b0⟩:=r_scp n0 (Nat.lt_succ_self _) _ _ h0;obtain⟨_,a1,_,y1,rfl,b1⟩:=r_ast n1 (Nat.lt_succ_self _) _ _ h1;have hb:Rows.uptoBulkAll [d0,d1]≤1048576:=by
    have h:=of_decide_eq_true hk;rw[List.append_nil] at h;exact h
  simp only[Rows.uptoBulkAll] at hb;simp only[List.append_nil] at hW';have s0:=val_struct underlying25 (hval 0 25 v0 rfl rfl) a0;have s1:=val_struct underlying48 (hval 1 48 v1 rfl rfl) a1;refine law_callsM (right15_calls y0 y1 rfl rfl) hG ?_ laid rowed fulls rfl underlying4 (by rw[params4];decide +kernel) rfl ⟨rfl,rfl,rfl⟩ hW';simp only[RL,and_true];exact⟨s0,s1⟩
set_option maxRecDepth 100000 in
theorem fitRight_laid_met (os:Os):laidMet prog Rows.fitRightRow.laid ((laidWorld os).forCall (fun _ _=>0) ⟨#[],#[.agg #[.slice none 0 0,.slice none 0 0],.agg #[.int .i64 0,.int .i64 0,.slice none 0 0,.int .i64 0,.int .u64 0,.int .u64 0,.int .u64 0,.int .u64 0,.int .u64 0,.int .u64 0,.int .u64 0,.int .u64 0,.slice none 0 0,.int .i64 0,.slice none 0 0,.int .i64 0,.int .i64 0,.string ⟨#[]⟩]],[]⟩).memory :=
  laidMet_of_run' 8 (by kernel_rfl) (by kernel_rfl)
theorem fitRight_reads (os:Os) {H:Type} (enc:TypeId × Value→H):∃places,DataW.whole enc prog ((laidWorld os).forCall (fun _ _=>0) ⟨#[],#[.agg #[.slice none 0 0,.slice none 0 0],.agg #[.int .i64 0,.int .i64 0,.slice none 0 0,.int .i64 0,.int .u64 0,.int .u64 0,.int .u64 0,.int .u64 0,.int .u64 0,.int .u64 0,.int .u64 0,.int .u64 0,.slice none 0 0,.int .i64 0,.slice none 0 0,.int .i64 0,.int .i64 0,.string ⟨#[]⟩]],[]⟩).memory f4.params.toList Rows.fitRightSpec.vars false (#[.agg #[.slice none 0 0,.slice none 0 0],.agg #[.int .i64 0,.int .i64 0,.slice none 0 0,.int .i64 0,.int .u64 0,.int .u64 0,.int .u64 0,.int .u64 0,.int .u64 0,.int .u64 0,.int .u64 0,.int .u64 0,.slice none 0 0,.int .i64 0,.slice none 0 0,.int .i64 0,.int .i64 0,.string ⟨#[]⟩]]:Array Value).toList 8=some ([.agg [.nil,.nil],.agg [.lit (.int .i64 0),.lit (.int .i64 0),.nil,.agg [.lit (.int .i64 0),.agg [.lit (.int .u64 0),.lit (.int .u64 0),.lit (.int .u64 0),.lit (.int .u64 0),.lit (.int .u64 0),.lit (.int .u64 0),.lit (.int .u64 0),.lit (.int .u64 0)]],.agg [.nil,.lit (.int .i64 0)],.agg [.nil,.lit (.int .i64 0)],.lit (.int .i64 0),.lit (.string [])]],[],places) :=
  ⟨[],by kernel_rfl⟩
set_option maxRecDepth 100000 in
theorem fitRight_lifted (os:Os) (started:os.Started) (H:Type) (enc:TypeId × Value→H) (F:Stop.Interp) :
    ReturnsInHanded {} checked os 4 .any ((Rows.OpenSpec.upto Rows.fitRightSpec).preRow enc prog f4 Rows.fitRightUptoRow.domain false Rows.fitRightUptoRow.laid) (((Rows.OpenSpec.upto Rows.fitRightSpec).at F).post enc prog f4 false true false false):=by
  obtain⟨places,hx⟩:=fitRight_reads os enc;refine returnsInHanded_of_row (C:=checked) (s:=Rows.OpenSpec.upto Rows.fitRightSpec) own started (by kernel_rfl) func4
    (witness_row_at (enc:=enc) (C:=checked) false (laidWorld os) #[.agg #[.slice none 0 0,.slice none 0 0],.agg #[.int .i64 0,.int .i64 0,.slice none 0 0,.int .i64 0,.int .u64 0,.int .u64 0,.int .u64 0,.int .u64 0,.int .u64 0,.int .u64 0,.int .u64 0,.int .u64 0,.slice none 0 0,.int .i64 0,.slice none 0 0,.int .i64 0,.int .i64 0,.string ⟨#[]⟩]] rfl (by kernel_rfl) (by kernel_rfl) (by kernel_rfl)
      (OpenSpec.preRow_of_cond 8 hx (by kernel_rfl) (fun k hk=>by cases hk;kernel_rfl) (by kernel_rfl) (fitRight_laid_met os))) ?_
  intro W base args ds gs before hval hW _ hcond _ hL _ _;exact fitRight_contract H enc W base args ds gs before hval hW (hcond _ rfl) hL
theorem fitRight_proved:Rows.FitRightUptoSaid :=
  OpenClaim.holds_of_cond 4 f4 rfl rfl rfl rfl rfl rfl rfl ⟨rfl,rfl,rfl,rfl,rfl⟩ rfl rfl rfl rfl rfl (by kernel_rfl) func4 (by kernel_rfl)
    (of_decide_eq_true (by kernel_rfl)) (by unfold Func.isWrapper;first | (rw[if_pos (by decide +kernel)];kernel_rfl) | (rw[if_neg (by decide +kernel)];exact⟨rfl,rfl⟩))
    (fun os started H enc _ F=>by rw[OpenClaim.pre_eq_preRow];exact fitRight_lifted os started H enc F)
theorem fitRight_plain (f:FuncId) (fn:Func) (hf:YtmgdldfokpcbkaaGreatDoor.Tryz.pinned.checked.prog.funcNamed "clearance/clearancelaw15.FitRight" = some f) (hfn:YtmgdldfokpcbkaaGreatDoor.Tryz.pinned.checked.prog.funcs[f]?=some fn) :
    false=YtmgdldfokpcbkaaGreatDoor.Tryz.pinned.checked.prog.looks []∧∀(j:Nat) t,fn.params[j]?=some t→YtmgdldfokpcbkaaGreatDoor.Tryz.pinned.checked.prog.wantsStandIn t=false:=by
  obtain rfl:f=4:=Option.some.inj ((show prog.funcNamed "clearance/clearancelaw15.FitRight" = some 4 by kernel_rfl).symm.trans hf) |>.symm;obtain rfl:fn=f4:=(Option.some.inj (func4.symm.trans hfn)).symm;refine⟨by kernel_rfl,fun j t ht=>?_⟩;rw[params4] at ht;have h:t=25∨t=48:=by simpa using Array.mem_of_getElem? ht
  rcases h with rfl | rfl
  · exact(show prog.wantsStandIn 25=false by kernel_rfl)
  · exact(show prog.wantsStandIn 48=false by kernel_rfl)
theorem fitRight_card:Rows.FitRightUptoCardSaid :=
  Claim7.holds_tied_plain_at .later [] _ _ _ _ fitRight_proved (fun _ h=>by cases h) (by kernel_rfl) (fun _ h=>by cases h) fitRightUpto_row_tie rfl ⟨rfl,rfl⟩ (by kernel_rfl) rfl fitRight_plain (by kernel_rfl)
end Go.Proofs.Tryz

namespace Go.Proofs.YtmgdldfokpcbkaaGreatDoor
/-- For every scope and assertion: whether the assertion fits the scope is the same by both readers (FitRight), where what comes in is of bulk at most 1048576. -/
theorem fitRight_card_holds : Rows.FitRightUptoCardSaid := Go.Proofs.Tryz.fitRight_card
end Go.Proofs.YtmgdldfokpcbkaaGreatDoor
