/-
  Part 6 of the proof of StackDropsUptoCardSaid: a logic over the model, the forms of the functions that the law reaches, and what they compute.
-/
import Derived.Test.YtnpggmhoandloaaGreatDoorProg
import Derived.Test.YtnpggmhoandloaaGreatDoorDrops5
set_option linter.unusedVariables false
set_option linter.unusedSimpArgs false
set_option linter.defProp false
set_option linter.unusedSectionVars false
set_option maxRecDepth 4000
set_option maxHeartbeats 4000000
open Option renaming some->U,none->ae
open Bool renaming true->aa,false->ak
open List renaming replicate->aA,range->cc,getD->gU,zipWith->lg
open Eq renaming mpr->eN
open Ne renaming symm->fm
namespace Go.Proofs.Tryz
open Go.Am
def afw:aT prog 247 (sq [rg 4 [oz 4],sq [rg 5 [om 1,oC 285 [5],nn],cr 7 8 [om 0,o1 4]],rg 9 [om 0,om 1,oq (.pn .u64 (.s 10)),oq (.eD .shl (.c (.int .u64 1)) (.s 11)),nb .or 9,o1 4],.ret]) [.tmp 4] 14:=aX func247
def afx:aT prog 248 (sq [rg 4 [oz 2],rg 5 [om 1,oC 285 [5],gA,om 0,om 1,oq (.pn .u64 (.s 9)),nb .shr 8,oq (.eD .and (.s 11) (.c (.int .u64 1))),oq (.eD .eql (.s 12) (.c (.int .u64 1))),gZ,o1 4],.ret]) [.tmp 4] 15:=aX func248
def afQ:aT prog 269 (sq [rg 2 [oz 4],rg 3 [oz 4],sq [rg 6 [om 0,nL,oi 0],lp 7 0 (sq [rg 10 [oA 1 6 8,no,o1 5],rg 12 [om 3,om 5,oC 247 [12,13],o1 3]]) 15],rg 16 [om 3,o1 2],.ret]) [.tmp 2] 17:=aX func269
def af4:aT prog 285 (sq [rg 2 [oz 2],rg 3 [om 0,nB .geq 0,gA,om 0,nB .lss 64,gZ,o1 2],.ret]) [.tmp 2] 9:=aX func285
def af':aT prog 293 (sq [rg 2 [oz 6],rg 0 [od (U 3) (.pe [(.sl .aW 1 [])])],rg 4 [om 0,oq (.jx (.func 306) [] [(.s 3)]),oC 305 [4,5]],rg 7 [oo 3,o1 2],.ret]) [.tmp 2] 8:=aX func293 ⟨[3],[]⟩
def aga:aT prog 294 (sq [rg 4 [oz 2],rg 5 [om 0,om 1,nb .andNot 5,oq (.eD .eql (.s 7) (.c (.int .u64 0))),o1 4],.ret]) [.tmp 4] 9:=aX func294
def agl:aT prog 303 (sq [rg 2 [oz 4],sq [rg 3 [om 0,nB .leq 0],cr 4 2 [oz 4]],sq [rg 5 [om 0,nB .geq 64],cr 6 2 [oq (.mv (.c (.int .u64 18446744073709551615)))]],rg 7 [om 0,oq (.pn .u64 (.s 7)),oq (.eD .shl (.c (.int .u64 1)) (.s 8)),oq (.eD .sub (.s 9) (.c (.int .u64 1))),o1 2],.ret]) [.tmp 2] 11:=aX func303
def agn:aT prog 305 (bl 0 (sq [sq [rg 4 [om 0,oq (.eD .neq (.s 4) (.c (.int .u64 0)))],cx 5 0],.block 1 (sq [sq [rg 6 [om 1,om 0,oC 313 [7],oq (.ij (.s 6) [(.s 8)]),nn],ci 10 .ret],rg 11 [om 0,om 0,oq (.eD .sub (.s 12) (.c (.int .u64 1))),nb .and 11,o1 0]])])) [] 15:=aX func305
def ago:aT prog 306 (sq [rg 3 [oz 2],rg 4 [oo 1,om 0,n1 1,na 1 4,o2 1 1],rg 3 [oq (.mv (.c (.bool aa)))],.ret]) [.tmp 3] 8:=aX func306
def agw:aT prog 313 (sq [rg 2 [oi 0],sq [rg 3 [om 0,oq (.eD .eql (.s 3) (.c (.int .u64 0)))],cr 4 2 [oi 64]],rg 5 [om 0,om 0,oq (.eD .sub (.c (.int .u64 0)) (.s 6)),nb .and 5,oq (.eD .mul (.s 8) (.c (.int .u64 285870213051353865))),oq (.eD .shr (.s 9) (.c (.int .u64 58))),oq (.qZ 64 1 (.c (.ptr (.jM 1) 0)) (.s 10)),no,oq (.pn .i64 (.s 12)),o1 2],.ret]) [.tmp 2] 14:=aX func313
def jS(l:List Int):List (List V):=l.map λn=>[.int .i64 n]
def GW(l:List Int):(jS l).length=l.length:=by simp[jS]
variable{j:Nat}
def GV{l:List Int}(h:j<l.length):(jS l)[((j:Nat):Int).toNat]?=U [.int .i64 l[j]]:=by simp[jS,h]
abbrev bc(f:FuncId)(es:List V)(D:ag)(x:V):Prop:=cm prog f es D λv σ' => v=x/\σ' = D
abbrev dn(f:FuncId)(es:List V)(D:ag)(x:V)(fQ:ag):Prop:=cm prog f es D λv σ' => v=x/\σ' = fQ
def TY(n:Int)(D:ag):bc 285 [.int .i64 n] D (.bool (decide (0<=n)&&decide (n<64))):=by
 refine af4.aV ?_;simp only[aU,am,a8,Nat.reduceAdd]
 by_cases h:0<=n
 .simp only[am,aP h];refine aS ?_;simp[V.erase]
 .simp only[am,aK h];refine aS ?_;simp[V.erase]
def Xx:=af @am <| af @a8 <| af @tL @N'
def D7(s:bz)(n:Int)(D:ag):bc 247 [.int .u64 (s.toNat:Nat),.int .i64 n] D (.int .u64 ((j6 s n).toNat:Nat)):=by
 refine afw.aV ?_;simp only[aU,Xx,Nat.reduceAdd];refine cl (TY n _) ?_;simp only[am]
 by_cases h:0<=n/\n<64
 .obtain⟨m,rfl⟩:∃m:Nat,n=m:=⟨n.toNat,by omega⟩;simp only[am,Ce,Oa,aP h.1,aP h.2,wrap_u64 h.1 (by omega:(m:Int)<18446744073709551616)];refine aS ?_;simp[V.erase,j6,h,qE]
 .have:(decide (0<=n)&&decide (n<64))=false:=by simp only[Cm,A'];omega
  simp only[am,this];refine aS ?_;simp[V.erase,j6,h]
def D6(l:List Int)(D:ag)(hl:l.length<=100000):bc 269 [.sl .no 1 (jS l)] D (.int .u64 ((n_ l).toNat:Nat)):=by
 refine afQ.aV ?_;simp only[aU,am,a8,Nat.reduceAdd,tL];refine eb (l.length) (λi (x:bz)=>⟨[.sl .no 1 (jS l),.any,.int .u64 ((0#64:bz).toNat:Nat),.int .u64 (x.toNat:Nat),.any,.any,.sl .no 1 (jS l),.int .i64 (l.length:Nat),.int .i64 (i:Nat)]++aA 8 .any,[],D⟩) (λi x=>(x=n_ (l.take i))) λF hF JF br=>⟨?_,?_,?_⟩
 .refine en br (0#64) (rfl) ?_ ?_ ?_
  all_goals simp[hF,aA,am,bZ,GW]
 .rintro i x hi rfl;simp only[hF,aA,am,eE hi];refine ix (GV hi) ?_;simp only[am];refine cl (D7 _ _ _) ?_;simp only[am,a_,cT hi];exact nx br (j6 (n_ (l.take i)) l[i]) hi (by rw[jr hi];simp only[n_,AS,yO,List.foldl_nil])
 .rintro x rfl;simp only[hF,aA,am,a_,eJ,a_,eH];exact rt
def aqe(s:bz)(m:Nat):decide (s>>>m&&&1#64=1#64)=s.getLsbD m:=by
 have:(s>>>m&&&1#64=1#64)↔s.getLsbD m=true:=by
  constructor
  .intro h
   have:=gX (λx:bz=>x.getLsbD 0) h
   simpa using this
  .intro h;apply Bd;intro k hk;rw[AM,BitVec.getLsbD_ushiftRight,BitVec.getLsbD_one]
   by_cases h0:k=0
   .subst h0;simp[h]
   .simp[h0]
 by_cases hc:s.getLsbD m=aa
 .rw[hc,aP (this.2 hc)]
 .rw[aK (λh=>hc (this.1 h))];simpa using hc
def z1_:=af @am <| af @wR <| af @Ob @Cd
def aln(s:bz)(n:Int)(D:ag):bc 248 [.int .u64 (s.toNat:Nat),.int .i64 n] D (.bool (hasB s n)):=by
 refine afx.aV ?_;simp only[aU,am,a8,Nat.reduceAdd,N'];refine cl (TY n _) ?_;simp only[am]
 by_cases h:0<=n/\n<64
 .obtain⟨m,rfl⟩:∃m:Nat,n=m:=⟨n.toNat,by omega⟩;simp only[z1_,aP h.1,aP h.2,wrap_u64 h.1 (by omega:(m:Int)<18446744073709551616),aqe];refine aS ?_;simp[V.erase,hasB]
 .have:(decide (0<=n)&&decide (n<64))=false:=by simp only[Cm,A'];omega
  simp only[am,this];refine aS ?_;simp[V.erase,hasB];intro h0;exact Cl _ _ (by omega)
def Xy:=af @am <| af @a8 <| af @tL <| af @W6 @Cd
def alo(a b:bz)(D:ag):bc 294 [.int .u64 (a.toNat:Nat),.int .u64 (b.toNat:Nat)] D (.bool (Av a b)):=by
 refine aga.aV ?_;simp only[aU,Xy,Nat.reduceAdd];refine aS ?_;simp[V.erase,Av]
def z3_:=af @am <| af @a8 <| af @tL <| af @N' @ar0
def D5(n:Int)(D:ag):bc 303 [.int .i64 n] D (.int .u64 ((pk n).toNat:Nat)):=by
 refine agl.aV ?_;simp only[aU,z3_,Nat.reduceAdd]
 by_cases h:n<=0
 .simp only[am,aP h];refine aS ?_;simp[V.erase,pk,h]
 .simp only[am,aK h]
  by_cases h1:64<=n
  .simp only[am,aP h1];refine aS ?_;simp[V.erase,pk,h,h1]
  .obtain⟨m,rfl⟩:∃m:Nat,n=m:=⟨n.toNat,by omega⟩;simp only[am,Oa,Oc,aK h1,wrap_u64 (by omega:0<=(m:Int)) (by omega:(m:Int)<18446744073709551616)];have e:pk (m:Int)=qE m - 1#64:=by simp only[pk,h,h1,ck,jC]
   refine aS ?_;simp[V.erase,e,qE]
abbrev TZ(D:ag):Prop:=D.bO 1=U wO
variable{D:ag}
def arl(s:bz)(h:s≠0#64)(hg:TZ D):bc 313 [.int .u64 (s.toNat:Nat)] D (.int .i64 (n6 s:Nat)):=by
 refine agw.aV ?_;simp only[aU,Xy,Nat.reduceAdd];obtain⟨h1,h2⟩:=ark (n6 s) (D1 h).1;simp only[am,wR,Oc,aK h,show V.int .u64 285870213051353865 = .int .u64 ((285870213051353865#64:bz).toNat:Nat) from rfl,arY];rw[BitVec.zero_sub,alH h];generalize hj:((qE (n6 s)*285870213051353865#64)>>>58).toNat=j at h1 h2;have e58:∀a:bz,hC .u64 (a.toNat:Nat) 58 .shr=U (.int .u64 ((a>>>58).toNat:Nat)):=λa=>Ob (m:=58)
 simp only[am,cF,e58,hj];refine kj ?_;have hd:bD ak 1 (wO.drop j)=U (.int .u8 (n6 s:Nat)):=by
  obtain⟨h3,h4⟩:=eX.1 h2;have h5:j<wO.length:=by simpa [wO] using h3
  rw[mi h5];simp[bD,wO,h4]
 rw[show(((j:Nat):Int).toNat)*1=j by omega];simp only[am,show D.bO 1=U wO from hg,hd,wrap_i64 (x:=((n6 s:Nat):Int)) (by omega) (by have:=(D1 h).1;omega)];exact rt
def z4_:=af @am <| af @a_ <| af @wR @Oc
def ab6(f:FuncId)(cap:List V)(hn:bH cap=aa)(J:List Nat->ag->Prop)(s:bz)(hg:∀l D,J l D->TZ D)
 (h:∀pre k WL D,fI s=pre++k::WL->J pre D->cm prog f (.int .i64 (k:Nat)::cap) D λv σ' => v = .bool aa/\J (pre++[k]) σ')
 {D:ag} (h0:J [] D):cm prog 305 [.int .u64 (s.toNat:Nat),.fn (.func f) [] cap] D λv σ' => v = .bq []/\J (fI s) σ' := by
 refine agn.aV ?_;simp only[aU,Xx,Nat.reduceAdd];refine eb ((fI s).length) (λi (x:bz × ag)=>⟨[.int .u64 (x.1.toNat:Nat),.fn (.func f) [] cap]++aA 13 .any,[],x.2⟩) (λi x=>(fI x.1=(fI s).drop i/\J ((fI s).take i) x.2)) λF hF JF br=>⟨?_,?_,?_⟩
 .exact en br ((s,D)) (⟨rfl,h0⟩)
 .rintro i ⟨x,D⟩ hi ⟨h1,h2⟩;simp only at h1 h2;have hx:x≠0#64:=akA (by rw[h1];simp;omega);rw[mi hi] at h1;have hl:=TK hx;rw[h1,gu] at hl;obtain⟨By,kK⟩:=hl;simp only[hF,aA,am,Cd,aK hx];refine cl (arl x hx (hg _ _ h2)) ?_;simp only[am];simp only[am,hn];rw[<-By];refine(h _ _ ((fI s).drop (i+1)) D (by rw[<-mi hi,qy]) h2).mono ?_;rintro v σ' ⟨rfl,h3⟩;simp only[z4_];exact nx br ((x&&&(x - 1#64),σ')) hi (⟨kK.symm,by rw[jr hi];exact h3⟩)
 .rintro⟨x,D⟩ ⟨h1,h2⟩;simp only[EU,eH] at h1 h2;have hx:=akC h1;subst hx;simp only[hF,aA,am,a_,bS,a_];exact aN rfl (ag.bd _) ⟨rfl,h2⟩
def Bx(cY D:ag)(b:Nat)(tk:Tk)(rows:List (List V)):Prop:=D.box b=U [.sl tk 1 rows]/\Gr cY D tk rows.length/\cY.box b=ae
def aky(n:Int){cY:ag}{b:Nat}{tk:Tk}{l:List Int}(h:Bx cY D b tk (jS l))(hl:l.length<=100000):
 cm prog 306 [.int .i64 n,.ptr (.out b) 0] D λv σ' => v = .bool aa/\∃kx,Bx cY σ' b kx (jS (l++[n])):=by
 refine ago.aV ?_;simp only[aU,am,a8,Nat.reduceAdd];obtain⟨h1,h2,h3⟩:=h;simp only[am,h1];refine Gr.app h2 (by simp[jS,aM];omega) λkx σ' hG hB _=>?_
 simp only[am,show σ'.box b=U [.sl tk 1 (jS l)] by rw[hB,h1]];refine aN rfl (ag.bd _) ⟨rfl,kx,?_,?_,h3⟩
 .simp[ag.set,jS]
 .refine⟨⟨λc cs hc=>?_,hG.sub.2⟩,?_⟩
  .rw[ag.dW]
   .exact hG.sub.1 c cs hc
   .rintro rfl;rw[h3] at hc;simp at hc
  .simpa [jS,ag.set] using hG.tk
def Mk(s:bz)(hg:TZ D):bc 293 [.int .u64 (s.toNat:Nat)] D (.sl .no 1 (jS ((fI s).map Int.ofNat))):=by
 refine af'.aV ?_;simp only[aU,am,a8,Nat.reduceAdd];refine jU λb hb=>?_
 simp only[am];have hl:=Hm s;refine(ab6 _ _ rfl (λl σ' => ∃tk,Bx D σ' b tk (jS (l.map Int.ofNat))) s ?_ ?_ ⟨.aW,?_⟩).mono ?_
 .rintro l σ' ⟨tk,h1,h2,h3⟩;exact h2.sub.2.2 _ _ hg
 .rintro pre k WL σ' hs ⟨tk,h⟩
  have:pre.length<=64:=by rw[hs] at hl;simp at hl;omega
  have:=aky k h (by simp;omega)
  simpa using this
 .exact⟨gP,⟨h_ hb,.inl rfl⟩,hb⟩
 .rintro v σ' ⟨rfl,tk,h1,h2,h3⟩;simp only[am,h1];exact aN rfl h2.sub ⟨rfl,rfl⟩
def ae2:aT prog 199 (sq [rg 0 [ox 1 65 0,oR 2 qn],rg 7 [ol 65 1,oC 246 [7],oR 3 qn,o2 65 3],sq [rg 9 [fo 0 3,oi 0],lp 10 0 (sq [rg 13 [om 11,o1 4],rg 14 [om 4,om 4,of 1 3,oP 64 1 16 15,no,om 4,oC 247 [18,19],of 1 3,oP 64 1 21 14,os 1 22 20]]) 23],sq [rg 24 [fo 0 3,oi 0],lp 25 2 (sq [rg 28 [om 26,o1 5],rg 29 [fo 0 3,oi 0],lp 30 4 (sq [rg 33 [om 31,o1 6],rg 34 [om 6,of 1 3,oP 64 1 35 34,no,om 5,oC 248 [37,38]],ci 39 (dg 40 [om 6,of 1 3,oP 64 1 41 40,no,om 5,of 1 3,oP 64 1 45 44,no,nb .or 43,of 1 3,oP 64 1 49 40,os 1 50 48])]) 51]) 52],rg 53 [ol 65 3,o2 65 2],.ret]) [.cell 2 aa 65] 54:=aX func199
def afd:aT prog 220 (sq [rg 2 [ox 1 65 0,oz 2],sq [rg 4 [ol 65 1,oC 266 [4],nn],cr 6 2 [oz 2]],sq [rg 7 [ol 65 1,oC 267 [7],oi 0],lp 8 0 (sq [rg 11 [om 9,o1 3],rg 12 [ol 65 1,om 3,oC 268 [12,13],om 3,n1 1,oC 269 [16],nb .neq 14],cr 18 2 [oz 2]]) 19],rg 2 [oq (.mv (.c (.bool aa)))],.ret]) [.tmp 2] 20:=aX func220
def afv:aT prog 246 (sq [rg 0 [ox 1 65 0,oR 2 qn],rg 5 [ol 65 1,oC 267 [5],oY qn [(0,1,.s 6)],oR 3 qn,o2 65 3],sq [rg 8 [fo 0 3,oi 0],lp 9 0 (sq [rg 12 [om 10,o1 4],rg 13 [om 4,ol 65 1,om 4,oC 284 [14,15],of 1 3,oP 64 1 17 13,os 1 18 16]]) 19],rg 20 [ol 65 3,o2 65 2],.ret]) [.cell 2 aa 65] 21:=aX func246
def afy:aT prog 249 (sq [rg 0 [oR 2 qn],rg 3 [om 0,oY qn [(0,1,.s 3)],oC 267 [4],oY qn [(0,1,.s 5)],o2 65 2],.ret]) [.cell 2 aa 65] 7:=aX func249
def afN:aT prog 266 (sq [rg 2 [ox 1 65 0,oz 2],dg 3 [ol 65 1,oC 246 [3],mM [0],ol 65 1,oC 199 [5],oq (.jf ak Nc (.s 4) (.s 6)),o1 2],.ret]) [.tmp 2] 8:=aX func266
def afO:aT prog 267 (sq [rg 2 [ox 1 65 0,oi 0],rg 3 [fo 0 1,oq (.own .min [(.s 4),(.c (.int .i64 64))]),oq (.own .max [(.c (.int .i64 0)),(.s 5)]),o1 2],.ret]) [.tmp 2] 7:=aX func267
def afP:aT prog 268 (sq [rg 4 [ox 2 65 0,oz 4],rg 6 [om 1,n1 1,oC 269 [7],o1 5],dg 9 [ol 65 2,om 5,oC 291 [9,10],mM [0],ol 65 2,om 5,oC 292 [12,13],nb .and 11,o1 4],.ret]) [.tmp 4] 16:=aX func268
def af3:aT prog 284 (sq [rg 4 [ox 2 65 0,oz 4],dg 5 [om 1,of 1 2,oP 64 1 6 5,mM [1,2],no,ol 65 2,oC 267 [9],oC 303 [10],nb .and 8,o1 4],.ret]) [.tmp 4] 13:=aX func284
def af9:aT prog 291 (sq [rg 4 [ox 2 65 0,oz 4],rg 5 [oz 4],sq [rg 8 [om 1,ol 65 2,oC 267 [9],oC 303 [10],nb .and 8,oC 293 [12],nL,oi 0],lp 14 0 (sq [rg 17 [oA 1 13 15,no,o1 7],rg 19 [om 5,ol 65 2,om 7,oC 284 [20,21],nb .or 19,o1 5]]) 24],rg 25 [om 5,o1 4],.ret]) [.tmp 4] 26:=aX func291
def af_:aT prog 292 (sq [rg 4 [ox 2 65 0,oz 4],rg 5 [oz 4],sq [rg 7 [ol 65 2,oC 267 [7],oi 0],lp 8 0 (sq [rg 11 [om 9,o1 6],rg 12 [ol 65 2,om 6,oC 284 [12,13],om 1,nb .and 14,oq (.eD .neq (.s 16) (.c (.int .u64 0)))],ci 17 (rg 18 [om 5,om 6,oC 247 [18,19],o1 5])]) 21],rg 22 [om 5,o1 4],.ret]) [.tmp 4] 23:=aX func292
def age:aT prog 298 (sq [rg 4 [ox 2 65 0,ox 3 65 1,oz 2],dg 5 [ol 65 2,oC 246 [5],mM [0],ol 65 3,oC 246 [7],oq (.jf ak Nc (.s 6) (.s 8)),o1 4],.ret]) [.tmp 4] 10:=aX func298
def z5_:=af @am <| af @pf <| af @a8 @Rl.an
def Ai(r:Rl)(D:ag):bc 267 [.agg r.enc] D (.int .i64 (bK r:Nat)):=by
 refine afO.aV ?_;simp only[aU,z5_,Nat.reduceAdd];refine als ?_;simp only[am,pf];refine alp ?_;simp only[am];refine aS ?_;simp[V.erase];simp only[bK];split<;>split<;>omega
def tM:=af @am <| af @cF <| af @a8 <| af @tL @Rl.an
def z7_:=af @am <| af @Rl.an <| af @jC @tX
def Nn(r:Rl)(i:Nat)(h:i<64)(D:ag):bc 284 [.agg r.enc,.int .i64 (i:Nat)] D (.int .u64 ((hZ r i).toNat:Nat)):=by
 refine af3.aV ?_;simp only[aU,tM,Nat.reduceAdd];refine kj ?_;simp only[z7_,Rl.yF h];refine bJ.intro (Ai r D) ?_;simp only[am];refine bJ.intro (D5 _ D) ?_;simp only[am,wR];refine⟨⟨Rl.yF h,Rl.yF h⟩,?_⟩;refine aS ?_;simp[V.erase,hZ]
def EL:=af @am <| af @a_ <| af @jC @tX
def HK(r:Rl)(D:ag):bc 246 [.agg r.enc] D (.agg (l_ r).enc):=by
 refine afv.aV ?_;simp only[aU,am,a8,Nat.reduceAdd,Rl.an];refine cl (Ai r D) ?_;simp only[am,Nat.reduceAdd,Rl.an];have hp:=@m_ r;refine eb (bK r) (λi (x:Unit)=>⟨[.agg r.enc,.ptr (.aC 0) 0,.ptr (.aC 1) 0,.ptr (.aC 2) 0,.any,.any,.any,.any,.any,.int .i64 (bK r:Nat),.int .i64 (i:Nat)]++aA 10 .any,[r.enc,Rl.zero.enc,(Rl.of (bK r:Nat) λj=>if j<i then hZ r j else 0#64).enc],D⟩) (λi x=>(True)) λF hF JF br=>⟨?_,?_,?_⟩
 .refine en br (()) (trivial) ?_ ?_ ?_
  all_goals simp[hF,aA,am,bZ,Rl.Xz,Rl.Mz]
 .rintro i x hi -;simp only[hF,aA,am,eE hi,Rl.an];refine cl (Nn r i (by omega) D) ?_;simp only[am,cF];refine kj ?_;simp only[EL,Rl.B9 (show i<64 by omega),Rl.B_ (show i<64 by omega),cT hi];refine nx br (()) hi (trivial) ?_ ?_ ?_
  all_goals simp[hF,aA,am,bZ,Rl.fill]
 .rintro x -;simp only[hF,aA,am,a_,eJ,a_,Rl.an];refine aS ?_;simp[V.erase,l_,Rl.dk]
def Ue(n:Int)(D:ag):bc 249 [.int .i64 n] D (.agg (Rl.of (min n.toNat 64:Nat) λ_=>0#64).enc):=by
 refine afy.aV ?_;simp only[aU,am,a8,Nat.reduceAdd,Rl.an];refine cl (Ai _ D) ?_;simp only[am,Rl.an];refine aS ?_;simp only[V.erase,Rl.dk,Rl.Xz];rfl
def V4(r s:Rl)(D:ag):bc 298 [.agg r.enc,.agg s.enc] D (.bool (decide (l_ r=l_ s))):=by
 refine age.aV ?_;simp only[aU,am,a8,Nat.reduceAdd,Rl.an];refine bJ.intro (HK r D) ?_;simp only[am,Rl.an];refine bJ.intro (HK s D) ?_;simp only[am,Rl.an];exact rt
def Ih(r:Rl)(w:bz)(hg:TZ D):bc 291 [.agg r.enc,.int .u64 (w.toNat:Nat)] D (.int .u64 ((vk r w).toNat:Nat)):=by
 refine af9.aV ?_;simp only[aU,tM,Nat.reduceAdd];refine cl (Ai r D) ?_;simp only[am];refine cl (D5 _ D) ?_;simp only[am,wR];refine cl (Mk _ hg) ?_;simp only[am,aO,GW];generalize hl:fI (w&&&pk ↑(bK r))=l;have az:∀k∈l,k<64:=λk hk=>akz (hl▸hk)
 have hlen:l.length<=64:=hl▸Hm _;refine eb (l.length) (λi (x:Unit)=>⟨[.agg r.enc,.any,.ptr (.aC 0) 0,.any,.any,.int .u64 (((l.take i).foldl (λo i=>o|||hZ r i) 0#64).toNat:Nat),.any,.any,.any,.any,.any,.any,.any,.sl .no 1 (jS (l.map Int.ofNat)),.int .i64 (l.length:Nat),.int .i64 (i:Nat)]++aA 10 .any,[r.enc],D⟩) (λi x=>(True)) λF hF JF br=>⟨?_,?_,?_⟩
 .refine en br (()) (trivial) ?_ ?_ ?_
  all_goals simp[hF,aA,am,bZ]
 .rintro i x hi -;simp only[hF,aA,am,eE hi];refine ix (GV (l:=l.map Int.ofNat) (by simpa using hi)) ?_;simp only[am,Rl.an,OW,OH];refine cl (Nn r l[i] (az _ (fu hi)) D) ?_;simp only[am,a_,Ce,cT hi];refine nx br (()) hi (trivial) ?_ ?_ ?_
  all_goals simp[hF,aA,am,bZ,Ri hi]
 .rintro x -;simp only[hF,aA,am,a_,eJ,a_,eH];refine aS ?_;simp[V.erase,vk,hl]
def Jw(r:Rl)(w:bz)(D:ag):bc 292 [.agg r.enc,.int .u64 (w.toNat:Nat)] D (.int .u64 ((xn r w).toNat:Nat)):=by
 refine af_.aV ?_;simp only[aU,tM,Nat.reduceAdd];refine cl (Ai r D) ?_;simp only[am];have hp:=@m_ r;refine eb (bK r) (λi (x:Unit)=>⟨[.agg r.enc,.int .u64 (w.toNat:Nat),.ptr (.aC 0) 0,.any,.any,.int .u64 (((cc i).foldl (λo i=>if hZ r i&&&w=0#64 then o else j6 o (i:Nat)) 0#64).toNat:Nat),.any,.any,.int .i64 (bK r:Nat),.int .i64 (i:Nat)]++aA 13 .any,[r.enc],D⟩) (λi x=>(True)) λF hF JF br=>⟨?_,?_,?_⟩
 .exact en br (()) (trivial)
 .rintro i x hi -;simp only[hF,aA,am,eE hi,Rl.an];refine cl (Nn r i (by omega) D) ?_;simp only[am,wR,Cd]
  by_cases h:hZ r i&&&w=0#64
  .simp only[am,a_,aP h,cT hi];refine nx br (()) hi (trivial) ?_ ?_ ?_
   all_goals simp[hF,aA,am,bZ,xw,h]
  .simp only[am,aK h];refine cl (D7 _ _ D) ?_;simp only[am,a_,cT hi];refine nx br (()) hi (trivial) ?_ ?_ ?_
   all_goals simp[hF,aA,am,bZ,xw,h]
 .rintro x -;simp only[hF,aA,am,a_,eJ,a_];refine aS ?_;simp[V.erase,xn]
variable{i:Nat}
def aaA{r:Rl}(hi:i<bK r):(Rl.of (bK r:Nat) λj=>if j<bK r then(if j<i then j6 (hZ r j) (j:Nat) else hZ r j) else 0#64).put i (j6 (hZ r i) (i:Nat))=Rl.of (bK r:Nat) λj=>if j<bK r then(if j<i+1 then j6 (hZ r j) (j:Nat) else hZ r j) else 0#64:=by
 refine Rl.ext rfl λk hk=>?_
 rw[Rl.Bj,Rl.nP hk,Rl.nP hk]
 by_cases h:i=k
 .subst h;simp[hk,hi]
 .rw[aB (by omega)]
  by_cases h2:k<i
  .simp[h2,show k<i+1 by omega]
  .simp[h2,show ¬k<i+1 by omega]
def aaz{r:Rl}(hi:i<bK r):(Rl.of (bK r:Nat) λj=>if j<bK r then(if j<i then j6 (hZ r j) (j:Nat) else hZ r j) else 0#64).get i=hZ r i:=by
 rw[Rl.nP (tW hi m_),aD hi,aB (Nat.lt_irrefl _)]
def aay{r:Rl}:(Rl.of (bK r:Nat) λj=>if j<bK r then(if j<bK r then j6 (hZ r j) (j:Nat) else hZ r j) else 0#64)=uj r:=by
 refine Rl.ext rfl λk hk=>?_
 rw[Rl.nP hk,uj,Rl.nP hk];split<;>rfl
variable{k:Nat}
def S5{n:Nat}{o:Rl}:kQ (n+1) k o=wH k (kQ n k o) n:=xw
theorem aiY{o:Rl}:kQ 0 k o=o:=rfl
theorem ann{r:Rl}:kr r 0=uj r:=rfl
theorem an0{r:Rl}:(l_ r).n=(bK r:Nat):=rfl
def aqF{o:Rl}(h:hasB (o.get i) (k:Nat)=aa):wH k o i=o.put i (o.get i|||o.get k):=by rw[wH,aD h]
def aqE{o:Rl}(h:hasB (o.get i) (k:Nat)=ak):wH k o i=o:=by rw[wH,h];rfl
def z9_:=af @am <| af @cF <| af @jC @tX
def asX:=af @am <| af @cF <| af @Ce <| af @jC @tX
def P5(r:Rl)(D:ag):bc 199 [.agg r.enc] D (.agg (rD r).enc):=by
 refine ae2.aV ?_;simp only[aU,am,a8,Nat.reduceAdd,Rl.an];refine cl (HK r D) ?_;simp only[am,Nat.reduceAdd,Rl.an,an0];have hp:=@m_ r;refine eb (bK r) (λi (x:Unit)=>⟨[.any,.ptr (.aC 0) 0,.ptr (.aC 1) 0,.ptr (.aC 2) 0,.any,.any,.any,.any,.any,.any,.int .i64 (bK r:Nat),.int .i64 (i:Nat)]++aA 42 .any,[r.enc,Rl.zero.enc,(Rl.of (bK r:Nat) λj=>if j<bK r then(if j<i then j6 (hZ r j) (j:Nat) else hZ r j) else 0#64).enc],D⟩) (λi x=>(True)) λF hF JF br=>⟨?_,?_,?_⟩
 .refine en br (()) (trivial) ?_ ?_ ?_
  all_goals simp[hF,aA,am,bZ,l_]
 .rintro i x hi -;simp only[hF,aA,am,cF,eE hi];have Bl:i<64:=by omega
  refine kj ?_;simp only[am,jC,tX,Rl.yF Bl,aaz hi];refine cl (D7 _ _ D) ?_;simp only[am,cF];refine kj ?_;simp only[EL,Rl.B9 Bl,Rl.B_ Bl,cT hi];refine nx br (()) hi (trivial) ?_ ?_ ?_
  all_goals simp[hF,aA,am,bZ,aaA hi]
 .rintro x -;simp only[hF,aA,am,a_,eJ,a_,Rl.an,Rl.Mz];rw[aay];clear hF F;refine eb (bK r) (λk (x:Unit)=>⟨[.any,.ptr (.aC 0) 0,.ptr (.aC 1) 0,.ptr (.aC 2) 0,.any,.any,.any,.any,.any,.any,.any,.any,.any,.any,.any,.any,.any,.any,.any,.any,.any,.any,.any,.any,.any,.int .i64 (bK r:Nat),.int .i64 (k:Nat)]++aA 27 .any,[r.enc,Rl.zero.enc,(kr r k).enc],D⟩) (λk x=>(True)) λF hF JF br=>⟨?_,?_,?_⟩
  .refine en br (()) (trivial) ?_ ?_ ?_
   all_goals simp[hF,aA,am,bZ,ann]
  .rintro k x hi -;simp only[hF,aA,am,eE hi,Rl.an,MJ];refine eb (bK r) (λi (x:Unit)=>⟨[.any,.ptr (.aC 0) 0,.ptr (.aC 1) 0,.ptr (.aC 2) 0,.any,.int .i64 (k:Nat),.any,.any,.any,.any,.any,.any,.any,.any,.any,.any,.any,.any,.any,.any,.any,.any,.any,.any,.any,.int .i64 (bK r:Nat),.int .i64 (k:Nat),.any,.any,.any,.int .i64 (bK r:Nat),.int .i64 (i:Nat)]++aA 22 .any,[r.enc,Rl.zero.enc,(kQ i k (kr r k)).enc],D⟩) (λi x=>(True)) λF2 ir ET pq=>⟨?_,?_,?_⟩
   .refine en pq (()) (trivial) ?_ ?_ ?_
    all_goals simp[ir,aA,am,bZ,aiY]
   .rintro i x hj -;have GC:i<64:=by omega
    have aiq:k<64:=by omega
    simp only[ir,aA,am,cF,eE hj];refine kj ?_;simp only[am,jC,tX,Rl.yF GC];refine cl (aln _ _ D) ?_;simp only[am];refine fc (λhb=>?_) (λhb=>?_)
    .simp only[am,cF];refine kj ?_;simp only[z9_,Rl.yF GC];refine kj ?_;simp only[asX,Rl.yF aiq];refine kj ?_;simp only[EL,Rl.B9 GC,Rl.B_ GC,cT hj];refine nx pq (()) hj (trivial) ?_ ?_ ?_
     all_goals simp[ir,aA,am,bZ,S5,aqF hb]
    .simp only[am,a_,cT hj];refine nx pq (()) hj (trivial) ?_ ?_ ?_
     all_goals simp[ir,aA,am,bZ,S5,aqE hb]
   .rintro x -;simp only[ir,aA,am,a_,eJ,Nat.reduceEqDiff,a_,Rl.an,cT hi];refine nx br (()) hi (trivial) ?_ ?_ ?_
    all_goals simp[hF,aA,am,bZ,HC]
  .rintro x -;simp only[hF,aA,am,a_,eJ,a_,Rl.an];exact aN (v:=.agg (rD r).enc) Rl.dq (ag.bd _) ⟨by simp only[V.erase,Rl.dk],rfl⟩
def P1(r:Rl)(D:ag):bc 266 [.agg r.enc] D (.bool (uk r)):=by
 refine afN.aV ?_;simp only[aU,am,a8,Nat.reduceAdd,Rl.an];refine bJ.intro (HK r D) ?_;simp only[am,Rl.an];refine bJ.intro (P5 r D) ?_;simp only[am,Rl.an];refine aS ?_;simp[V.erase,uk]
def alx(r:Rl)(i:Nat)(hg:TZ D):bc 268 [.agg r.enc,.int .i64 (i:Nat)] D (.int .u64 ((yi r i).toNat:Nat)):=by
 refine afP.aV ?_;simp only[aU,tM,Nat.reduceAdd];refine cm.eM (as' := [.sl .no 1 (jS [(i:Int)])]) ?_ ⟨dE.no,trivial⟩ bN.rfl;refine cl (D6 [(i:Int)] D (by simp)) ?_;simp only[am,Rl.an];refine bJ.intro (Ih r _ hg) ?_;simp only[am,Rl.an];refine bJ.intro (Jw r _ D) ?_;simp only[am,wR,Rl.an];refine aS ?_;simp[V.erase,yi]
def anj(r:Rl)(hg:TZ D):bc 220 [.agg r.enc] D (.bool (BV r)):=by
 refine afd.aV ?_;simp only[aU,am,a8,Nat.reduceAdd,Rl.an];refine cl (P1 r D) ?_;simp only[am];refine fc (λhb=>?_) (λhb=>?_)
 .have hb:uk r=false:=by simpa using hb
  simp only[am];refine aS ?_;simp[V.erase,BV,hb]
 .have hb:uk r=true:=by simpa using hb
  simp only[am,Rl.an];refine cl (Ai r D) ?_;simp only[am];have hp:=@m_ r;refine eb (bK r) (λi (x:Unit)=>⟨[.any,.ptr (.aC 0) 0,.any,.any,.any,.any,.any,.any,.int .i64 (bK r:Nat),.int .i64 (i:Nat)]++aA 10 .any,[r.enc],D⟩) (λi x=>(∀k,k<i->yi r k=n_ [(k:Int)])) λF hF JF br=>⟨?_,?_,?_⟩
  .exact en br (()) (by intro k h;omega)
  .rintro i x hi hJ;simp only[hF,aA,am,eE hi,Rl.an];refine cl (alx r i hg) ?_;simp only[am];refine cm.eM (as' := [.sl .no 1 (jS [(i:Int)])]) ?_ ⟨dE.no,trivial⟩ bN.rfl;refine cl (D6 [(i:Int)] _ (by simp)) ?_;simp only[am,Cd]
   by_cases h:yi r i=n_ [(i:Int)]
   .simp only[am,a_,aP h,cT hi];exact nx br (()) hi (λk hk=>if e:k=i then e▸h else hJ k (by omega))
   .have hA:yW r=false:=by
     cases hq:yW r with
     | false=>rfl
     | true=>exact absurd ((Po hb).1 hq i hi) h
    simp only[am,a_,aK h];refine aS ?_;simp[V.erase,BV,hA]
  .rintro x hJ;have hA:yW r=true:=(Po hb).2 hJ;simp only[hF,aA,am,a_,eJ,a_];refine aS ?_;simp[V.erase,BV,hb,hA]
def agf:aT prog 299 (sq [rg 2 [ox 1 65 0,oz 2],rg 3 [fo 0 1,nB .geq 1,gA,fo 0 1,nB .leq 8,gZ,gA,ol 65 1,oC 266 [12],gZ,o1 2],.ret]) [.tmp 2] 15:=aX func299
def agi:aT prog 300 (sq [rg 6 [ox 3 65 0,od (U 4) (.fZ 1 (.s 1)),oz 4],sq [rg 8 [ol 65 3,oo 4,oC 308 [8,9],nn],cr 11 6 [oz 4]],dA 12 [7] [fo 0 3,oC 303 [13],mM [0],ol 65 3,om 2,oC 291 [15,16],nb .andNot 14,oN,oX 7 1 18],.o7 (dg 19 [mM [1],ol 65 3,ol 65 3,oq (.jx (.func 311) [] [(.s 4),(.s 7)]),oC 310 [20,21],oC 309 [19,22],o1 6]),.ret]) [.tmp 6] 24:=aX func300 ⟨[4],[4]⟩
def agk:aT prog 302 (sq [rg 4 [oz 4,oz 2],sq [rg 6 [om 0,oC 312 [6],nn,gB,om 1,nB .lss 0,gZ,gB,om 1,om 0,nb .geq 14,gZ],cr 17 4 [oz 4,oz 2]],rg 18 [om 1,oC 303 [18],o1 4,oV 5 (.bool aa)],.ret]) [.tmp 4,.tmp 5] 20:=aX func302
def agq:aT prog 308 (sq [rg 4 [ox 2 65 0,oz 2],rg 5 [ol 65 2,oC 299 [5],gA,om 1,nB .geq 0,gZ,gA,om 1,fo 0 2,nb .lss 12,gZ,o1 4],.ret]) [.tmp 4] 17:=aX func308
def agr:aT prog 309 (sq [rg 4 [od (U 2) (.fZ 65 (.s 0)),od (U 3) (.fZ 1 (.s 1)),oz 4],sq [rg 5 [ol 65 2,oC 299 [5],nn],cr 7 4 [oz 4]],rg 8 [ol 65 2,oq (.jx (.func 315) [] [(.s 2),(.s 3)]),oC 310 [8,9],o1 4],.ret]) [.tmp 4] 11:=aX func309 ⟨[2,3],[]⟩
def agt:aT prog 310 (sq [rg 4 [ox 2 65 0,oz 4],rg 5 [oz 4],sq [rg 7 [fo 0 2,oi 0],lp 8 0 (sq [rg 11 [om 9,o1 6],rg 12 [om 5,om 1,om 6,oq (.ij (.s 13) [(.s 14)]),om 6,oq (.eD .mul (.c (.int .i64 8)) (.s 16)),oq (.pn .u64 (.s 17)),nb .shl 15,nb .or 12,o1 5]]) 21],rg 22 [om 5,o1 4],.ret]) [.tmp 4] 23:=aX func310
def agu:aT prog 311 (sq [rg 4 [oz 4],sq [rg 5 [om 0,oo 1,nb .eql 5],cr 7 8 [oo 2,o1 4]],rg 4 [oz 4],.ret]) [.tmp 4] 9:=aX func311
def agv:aT prog 312 (sq [rg 2 [oz 2],rg 3 [om 0,nB .geq 1,gA,om 0,nB .leq 64,gZ,o1 2],.ret]) [.tmp 2] 9:=aX func312
def agy:aT prog 315 (sq [rg 4 [oz 4],rg 5 [oz 4],sq [dg 8 [mM [1],ol 65 1,om 0,n1 1,oC 269 [10],oC 291 [8,11],oC 293 [12],nL,oi 0],lp 14 0 (sq [rg 17 [oA 1 13 15,no,o1 7],dg 19 [om 5,mM [1],ol 65 1,ol 65 1,oo 2,om 7,oC 316 [21,22,23],oC 292 [20,24],nb .or 19,o1 5]]) 27],rg 28 [om 5,o1 4],.ret]) [.tmp 4] 29:=aX func315
def agz:aT prog 316 (sq [rg 6 [ox 3 65 0,oz 4],rg 7 [om 1,om 2,oq (.eD .mul (.c (.int .i64 8)) (.s 8)),oq (.pn .u64 (.s 9)),nb .shr 7,fo 0 3,oC 303 [13],nb .and 11,o1 6],.ret]) [.tmp 6] 16:=aX func316
def aat(n:Int)(D:ag):bc 312 [.int .i64 n] D (.bool (decide (1<=n)&&decide (n<=64))):=by
 refine agv.aV ?_;simp only[aU,am,a8,Nat.reduceAdd]
 by_cases h:1<=n
 .simp only[am,aP h];refine aS ?_;simp[V.erase]
 .simp only[am,aK h];refine aS ?_;simp[V.erase]
def Cc(p:bz × Bool):V:=.bq [.int .u64 (p.1.toNat:Nat),.bool p.2]
def apG(n k:Int)(D:ag):bc 302 [.int .i64 n,.int .i64 k] D (Cc (Ap n k)):=by
 refine agk.aV ?_;simp only[aU,am,a8,Nat.reduceAdd,tL];refine cl (aat n D) ?_
 by_cases h:1<=n/\n<=64
 .simp only[am,aP h.1,aP h.2]
  by_cases h2:k<0
  .simp only[am,aP h2];refine aS ?_;simp[V.erase,bw,Cc,Ap,show ¬0<=k by omega]
  .simp only[am,aK h2]
   by_cases h3:n<=k
   .simp only[am,aP h3];refine aS ?_;simp[V.erase,bw,Cc,Ap,show ¬k<n by omega]
   .simp only[am,aK h3];refine cl (D5 k D) ?_;simp only[am];refine aS ?_;simp[V.erase,bw,Cc,Ap,h,show 0<=k by omega,show k<n by omega]
 .have e:(decide (1<=n)&&decide (n<=64))=false:=by simp only[Cm,A'];omega
  have e2:Ap n k=(0#64,ak):=by simp only[Ap];rw[aB (by omega)]
  simp only[am,e];refine aS ?_;simp[V.erase,bw,Cc,e2]
def J2(r:Rl)(D:ag):bc 299 [.agg r.enc] D (.bool (qN r)):=by
 refine agf.aV ?_;simp only[aU,am,a8,Nat.reduceAdd,Rl.an]
 by_cases h:1<=r.n
 .simp only[am,Rl.an,aP h]
  by_cases h2:r.n<=8
  .simp only[am,Rl.an,aP h2];refine cl (P1 r D) ?_;simp only[am];refine aS ?_;simp[V.erase,qN,h,h2]
  .simp only[am,aK h2];refine aS ?_;simp[V.erase,qN,h2]
 .simp only[am,aK h];refine aS ?_;simp[V.erase,qN,h]
def ahJ(r:Rl)(w:bz)(o:Nat)(ho:o<64)(D:ag):bc 316 [.agg r.enc,.int .u64 (w.toNat:Nat),.int .i64 (o:Nat)] D (.int .u64 ((HB r w o).toNat:Nat)):=by
 refine agz.aV ?_;simp only[aU,tM,Nat.reduceAdd];rw[wrap_i64,wrap_u64 (by omega) (by omega),show(8:Int)*(o:Nat)=((8*o:Nat):Int) by omega];simp only[am,Ob,Rl.an];refine cl (D5 r.n D) ?_;simp only[am,wR];refine aS ?_;simp[V.erase,HB]
def asY:=af @am <| af @a_ <| af @Ce @Oa
def RM(r:Rl)(n:Nat)(hn:r.n=n)(h8:n<=8)(f:FuncId)(cap:List V)(hc:bH cap=aa)(g:Nat->bz)(D:ag)
 (h:∀o,o<n->cm prog f (.int .i64 (o:Nat)::cap) D λv σ' => v = .int .u64 ((g o).toNat:Nat)/\σ' = D) :
 bc 310 [.agg r.enc,.fn (.func f) [] cap] D (.int .u64 ((B1 n g).toNat:Nat)):=by
 refine agt.aV ?_;simp only[aU,tM,Nat.reduceAdd];refine eb (n) (λi (x:Unit)=>⟨[.any,.fn (.func f) [] cap,.any,.any,.any,.int .u64 ((B1 i g).toNat:Nat),.any,.any,.int .i64 (n:Nat),.int .i64 (i:Nat)]++aA 13 .any,[r.enc],D⟩) (λi x=>(True)) λF hF JF br=>⟨?_,?_,?_⟩
 .refine en br (()) (trivial) ?_ ?_ ?_
  all_goals simp[hF,aA,am,bZ,hn,B1]
 .rintro i x hi -;simp only[hF,aA,am,eE hi,hc];refine(h i hi).mono ?_;rintro v σ' ⟨rfl,rfl⟩;simp only[am];rw[wrap_i64 (x:=8*((i:Nat):Int)),wrap_u64 (x:=8*((i:Nat):Int)) (by omega) (by omega),show(8:Int)*(i:Nat)=((8*i:Nat):Int) by omega];simp only[asY,cT hi];refine nx br (()) hi (trivial) ?_ ?_ ?_
  all_goals simp[hF,aA,am,bZ,B1,xw]
 .rintro x -;simp only[hF,aA,am,a_,eJ,a_];exact rt
def asZ:=af @am <| af @a_ <| af @Ce @Rl.an
def ahq(r:Rl)(w:bz)(o b1 b2:Nat)(hg:TZ D)(ho:o<bK r)(h8:bK r<=8)(h1:D.box b1=U r.enc)(h2:D.box b2=U [.int .u64 (w.toNat:Nat)]):
 bc 315 [.int .i64 (o:Nat),.ptr (.out b1) 0,.ptr (.out b2) 0] D (.int .u64 ((FF r w o).toNat:Nat)):=by
 refine agy.aV ?_;simp only[aU,am,a8,Nat.reduceAdd,tL];simp only[am,Rl.an,h1];refine bJ.intro (cm.eM (as' := [.sl .no 1 (jS [(o:Int)])]) (D6 [(o:Int)] D (by simp)) ⟨dE.no,trivial⟩ bN.rfl) ?_;simp only[am,Rl.an];refine bJ.intro (Ih r _ hg) ?_;simp only[am];refine bJ.intro (Mk _ hg) ?_;simp only[am,aO,Rl.an,GW,h1];rw[show vk r (n_ [(o:Int)])=vE r o from rfl];generalize hl:fI (vE r o)=l;have az:∀k∈l,k<bK r:=λk hk=>by
  rw[<-hl,T0,X1] at hk;exact(xS hk).2
 have hlen:l.length<=64:=hl▸Hm _;have hp:=@m_ r;refine eb (l.length) (λi (x:Unit)=>⟨[.any,.ptr (.out b1) 0,.ptr (.out b2) 0,.any,.any,.int .u64 (((l.take i).foldl (λs p=>s|||xn r (HB r w p)) 0#64).toNat:Nat),.any,.any,.any,.any,.any,.any,.any,.sl .no 1 (jS (l.map Int.ofNat)),.int .i64 (l.length:Nat),.int .i64 (i:Nat)]++aA 13 .any,[],D⟩) (λi x=>(True)) λF hF JF br=>⟨?_,?_,?_⟩
 .refine en br (()) (trivial) ?_ ?_ ?_
  all_goals simp[hF,aA,am,bZ]
 .rintro i x hi -;simp only[hF,aA,am,eE hi];refine ix (GV (l:=l.map Int.ofNat) (by simpa using hi)) ?_;simp only[am,Rl.an,OW,OH,h1,h2]
  have:=az _ (fu hi)
  refine bJ.intro (ahJ r w l[i] (by omega) D) ?_;simp only[am,Rl.an];refine bJ.intro (Jw r _ D) ?_;simp only[asZ,h1,cT hi];refine nx br (()) hi (trivial) ?_ ?_ ?_
  all_goals simp[hF,aA,am,bZ,Ri hi]
 .rintro x -;simp only[hF,aA,am,a_,eJ,a_,eH];refine aS ?_;simp[V.erase,FF,hl]
def ahr(r:Rl)(w:bz)(hg:TZ D):bc 309 [.agg r.enc,.int .u64 (w.toNat:Nat)] D (.int .u64 ((FG r w).toNat:Nat)):=by
 refine agr.aV ?_;simp only[aU,tM,Nat.reduceAdd];refine jU λb1 fg=>?_
 simp only[am];refine jU λb2 dw=>?_
 have aQ:b1≠b2:=by rintro rfl;rw[gP] at dw;simp at dw
 have nZ:=h_ (cs:=r.enc) fg;have hs:=ag.B6 nZ (h_ (cs:=[.int .u64 (w.toNat:Nat)]) dw);have e1:((D.set b1 r.enc).set b2 [.int .u64 (w.toNat:Nat)]).box b1=U r.enc:=by rw[mE aQ,gP]
 generalize uQ:(D.set b1 r.enc).set b2 [V.int .u64 (w.toNat:Nat)]=cR at hs e1;have e2:cR.box b2=U [.int .u64 (w.toNat:Nat)]:=by rw[<-uQ,gP]
 simp only[am,Rl.an,e1];refine(J2 r cR).mono ?_;rintro v cR ⟨rfl,rfl⟩;simp only[am];cases uI:qN r with
 | false =>
  simp only[am];exact aN rfl hs ⟨by simp[FG,uI,V.erase],rfl⟩
 | true =>
  obtain⟨n,hn,hp,h1,h8⟩:=RJ uI;simp only[am,Rl.an,e1];refine(RM r n hn h8 _ _ rfl (FF r w) cR λo ho=>ahq r w o b1 b2 (hs.2.2 _ _ hg) (by omega) (by omega) e1 e2).mono ?_;rintro v cR ⟨rfl,rfl⟩;simp only[am];exact aN rfl hs ⟨by simp[FG,uI,V.erase,hn],rfl⟩
def ans(r:Rl)(o:Nat)(D:ag):bc 308 [.agg r.enc,.int .i64 (o:Nat)] D (.bool (qN r&&decide ((o:Int)<r.n))):=by
 refine agq.aV ?_;simp only[aU,am,a8,Nat.reduceAdd,Rl.an];refine cl (J2 r D) ?_;cases h:qN r with
 | false =>
  simp only[am];exact rt
 | true =>
  simp only[am,Rl.an,show decide ((0:Int)<=(o:Nat))=aa from aP (by omega)];exact rt
def ahK(k o b:Nat)(w:bz)(b2:Nat)(h1:D.box b=U [.int .i64 (o:Nat)])(h2:D.box b2=U [.int .u64 (w.toNat:Nat)]):
 bc 311 [.int .i64 (k:Nat),.ptr (.out b) 0,.ptr (.out b2) 0] D (.int .u64 ((if k=o then w else 0#64).toNat:Nat)):=by
 refine agu.aV ?_;simp only[aU,am,a8,Nat.reduceAdd,tL];simp only[am,h1]
 by_cases h:k=o
 .simp only[am,aP (show(k:Int)=(o:Nat) by omega),h2];refine aS ?_;simp[V.erase,h]
 .simp only[am,aK (show ¬(k:Int)=(o:Nat) by omega)];refine aS ?_;simp[V.erase,h]
def ahL(r:Rl)(o:Nat)(d:bz)(hg:TZ D):bc 300 [.agg r.enc,.int .i64 (o:Nat),.int .u64 (d.toNat:Nat)] D (.int .u64 ((B2 r o d).toNat:Nat)):=by
 refine agi.aV ?_;simp only[aU,tM,Nat.reduceAdd];refine jU λb1 fg=>?_
 simp only[am,Rl.an];have hs:=h_ (cs:=[V.int .i64 (o:Nat)]) fg;have e1:(D.set b1 [V.int .i64 (o:Nat)]).box b1=U [V.int .i64 (o:Nat)]:=gP;generalize uQ:D.set b1 [V.int .i64 (o:Nat)]=cR at hs e1;refine(ans r o cR).mono ?_;rintro v cR ⟨rfl,rfl⟩;simp only[am];cases uI:qN r&&decide ((o:Int)<r.n) with
 | false =>
  simp only[am];exact aN rfl hs ⟨by simp[B2,uI,V.erase],rfl⟩
 | true =>
  have aii := uI;rw[bA,b7] at uI;obtain⟨n,hn,hp,h1,h8⟩:=RJ uI.1;simp only[am,Nat.reduceAdd,bS,Nat.reduceLT,Rl.an];refine bJ.intro (D5 r.n cR) ?_;simp only[am,Rl.an];refine bJ.intro (Ih r d (hs.2.2 _ _ hg)) ?_;simp only[am,W6,Rl.an];refine bm.aol (l:=[r.enc]) (cs:=[V.int .u64 ((pk r.n&&&~~~vk r d).toNat:Nat)]) rfl λb2 dw=>?_
  rw[show pk r.n&&&~~~vk r d=wq r d from rfl];have DC:=ag.B6 hs (h_ (cs:=[V.int .u64 ((wq r d).toNat:Nat)]) dw);have aQ:b1≠b2:=by rintro rfl;rw[e1] at dw;simp at dw
  have e2:(cR.set b2 [V.int .u64 ((wq r d).toNat:Nat)]).box b1=U [V.int .i64 (o:Nat)]:=by rw[mE aQ,e1]
  have e3:(cR.set b2 [V.int .u64 ((wq r d).toNat:Nat)]).box b2=U [V.int .u64 ((wq r d).toNat:Nat)]:=gP;generalize cR.set b2 [V.int .u64 ((wq r d).toNat:Nat)]=fQ at DC e2 e3;simp only[am,Nat.reduceLT,reduceCtorEq,Rl.an,bX,eC,X9,Vb (n:=1) (l:=r.enc) Rl.cE Rl.dq];refine bJ.intro (RM r n hn h8 _ _ rfl (λk=>if k=o then wq r d else 0#64) fQ λk hk=>ahK k o b1 (wq r d) b2 e2 e3) ?_;simp only[am,Rl.an];refine bJ.intro (ahr r _ (DC.2.2 _ _ hg)) ?_;simp only[am,Rl.an];exact aN rfl DC ⟨by rw[B2,aii,hn];rfl,rfl⟩
def aeN:aT prog 175 (sq [rg 2 [ox 1 65 0,oz 2],sq [rg 9 [fo 0 1,nB .lss 1,gB,fo 0 1,nB .gtr 64,gZ,gB,ol 65 1,oC 220 [18],nn,gZ],cr 21 2 [oz 2]],sq [rg 22 [fo 0 1,oi 0],lp 23 0 (sq [rg 26 [om 24,o1 3],rg 27 [om 3,oi 0],lp 27 2 (sq [rg 30 [om 28,o1 4],rg 32 [ol 65 1,om 3,om 4,oC 221 [32,33,34],o1 31,oe 31 0,oe 31 1,ot 5 36,o1 6],rg 39 [ol 65 1,om 3,om 4,oC 222 [39,40,41],o1 38,oe 38 0,oe 38 1,ot 7 43,o1 8],rg 45 [om 6,nn,gB,om 8,nn,gZ],cr 50 2 [oz 2]]) 51]) 52],rg 2 [oq (.mv (.c (.bool aa)))],.ret]) [.tmp 2] 53:=aX func175
def afe:aT prog 221 (sq [rg 6 [ox 3 65 0,oi 0,oz 2],rg 8 [ol 65 3,om 1,om 2,oc 270 [.s 8,.s 9,.s 10,.c (.fn (.func 271) [] [])],oe 11 0,oe 11 1,ot 6 12,o1 7],.ret]) [.tmp 6,.tmp 7] 14:=aX func221
def aff:aT prog 222 (sq [rg 6 [ox 3 65 0,oi 0,oz 2],rg 8 [ol 65 3,om 1,om 2,oc 270 [.s 8,.s 9,.s 10,.c (.fn (.func 272) [] [])],oe 11 0,oe 11 1,ot 6 12,o1 7],.ret]) [.tmp 6,.tmp 7] 14:=aX func222
def afR:aT prog 270 (sq [rg 8 [ox 4 65 0,oi 0,oz 2],dg 13 [om 3,ol 65 4,om 1,oq (.ij (.s 13) [(.s 14),(.s 15)]),om 3,mM [0],ol 65 4,om 2,oq (.ij (.s 17) [(.s 18),(.s 19)]),nb .and 16,o1 10],sq [rg 22 [om 10,oC 293 [22],nL,oi 0],lp 24 0 (sq [rg 27 [oA 1 23 25,no,o1 12],rg 29 [om 10,om 3,ol 65 4,om 12,oq (.ij (.s 30) [(.s 31),(.s 32)]),oC 294 [29,33]],cr 34 8 [ot 35 12,om 35,oq (.mv (.c (.bool aa)))]]) 36],rg 8 [oi 0,oz 2],.ret]) [.tmp 8,.tmp 9] 37:=aX func270
def afS:aT prog 271 (sq [rg 4 [ox 2 65 0,oz 4],dg 5 [mM [1],ol 65 2,om 1,n1 1,oC 269 [7],oC 291 [5,8],o1 4],.ret]) [.tmp 4] 10:=aX func271
def afT:aT prog 272 (sq [rg 4 [ox 2 65 0,oz 4],sq [rg 5 [ol 65 2,om 1,oC 295 [5,6],nn],cr 8 4 [oz 4]],dg 9 [mM [1],ol 65 2,om 1,n1 1,oC 269 [11],oC 292 [9,12],o1 4],.ret]) [.tmp 4] 14:=aX func272
def agb:aT prog 295 (sq [rg 4 [ox 2 65 0,oz 2],rg 5 [om 1,nB .geq 0,gA,om 1,fo 0 2,oC 249 [10],ow 0 11,nb .lss 8,gZ,o1 4],.ret]) [.tmp 4] 15:=aX func295
def agj:aT prog 301 (sq [rg 4 [ox 2 65 0,oz 4],rg 5 [ol 65 2,om 1,oC 272 [5,6],o1 4],.ret]) [.tmp 4] 8:=aX func301
def wB(o:Option Nat):V:=.bq [.int .i64 ((o.getD 0:Nat):Int),.bool o.isSome]
def alF:decide ((0:Int)<=(i:Nat))=true:=aP (by omega)
def ain(r:Rl)(i:Nat)(D:ag):bc 295 [.agg r.enc,.int .i64 (i:Nat)] D (.bool (decide (i<bK r))):=by
 refine agb.aV ?_;simp only[aU,am,a8,Nat.reduceAdd,Rl.an];simp only[am,Rl.an,alF];refine cl (Ue r.n D) ?_;simp only[am,Rl.an,Rl.Mz];refine aS ?_;simp[V.erase,bK];rfl
def X2(r:Rl)(i:Nat)(hg:TZ D):bc 271 [.agg r.enc,.int .i64 (i:Nat)] D (.int .u64 ((vE r i).toNat:Nat)):=by
 refine afS.aV ?_;simp only[aU,tM,Nat.reduceAdd];refine bJ.intro (cm.eM (as' := [.sl .no 1 (jS [(i:Int)])]) (D6 [(i:Int)] D (by simp)) ⟨dE.no,trivial⟩ bN.rfl) ?_;simp only[am,Rl.an];refine bJ.intro (Ih r _ hg) ?_;simp only[am,Rl.an];refine aS ?_;simp[V.erase,vE]
def PM(r:Rl)(i:Nat)(D:ag):bc 272 [.agg r.enc,.int .i64 (i:Nat)] D (.int .u64 ((vH r i).toNat:Nat)):=by
 refine afT.aV ?_;simp only[aU,tM,Nat.reduceAdd];refine cl (ain r i D) ?_
 by_cases h:i<bK r
 .simp only[am,Rl.an,aP h];refine bJ.intro (cm.eM (as' := [.sl .no 1 (jS [(i:Int)])]) (D6 [(i:Int)] D (by simp)) ⟨dE.no,trivial⟩ bN.rfl) ?_;simp only[am,Rl.an];refine bJ.intro (Jw r _ D) ?_;simp only[am,Rl.an];refine aS ?_;simp[V.erase,vH,h]
 .simp only[am,aK h];refine aS ?_;simp[V.erase,vH,h]
def Ud(r:Rl)(i j:Nat)(f:FuncId)(g:Nat->bz)(hg:TZ D)(hf:∀k,bc f [.agg r.enc,.int .i64 (k:Nat)] D (.int .u64 ((g k).toNat:Nat))):
 bc 270 [.agg r.enc,.int .i64 (i:Nat),.int .i64 (j:Nat),.fn (.func f) [] []] D (wB (Ht g i j)):=by
 refine afR.aV ?_;simp only[aU,am,a8,Nat.reduceAdd,Rl.an];refine bJ.intro (hf i) ?_;simp only[am,Rl.an];refine bJ.intro (hf j) ?_;simp only[am,wR,Rl.an];refine cl (Mk _ hg) ?_;simp only[am,aO,GW];rw[Ht];generalize g i&&&g j=w;have hlen:=Hm w;refine eb ((fI w).length) (λm (x:Unit)=>⟨[.agg r.enc,.any,.any,.fn (.func f) [] [],.ptr (.aC 0) 0,.any,.any,.any,.any,.any,.int .u64 (w.toNat:Nat),.any,.any,.any,.any,.any,.any,.any,.any,.any,.any,.any,.any,.sl .no 1 (jS ((fI w).map Int.ofNat)),.int .i64 ((fI w).length:Nat),.int .i64 (m:Nat)]++aA 11 .any,[r.enc],D⟩) (λm x=>(∀u∈(fI w).take m,Av w (g u)=ak)) λF hF JF br=>⟨?_,?_,?_⟩
 .refine en br (()) (by simp) ?_ ?_ ?_
  all_goals simp[hF,aA,am,bZ]
 .rintro m x hi hJ;simp only[hF,aA,am,eE hi];refine ix (GV (l:=(fI w).map Int.ofNat) (by simpa using hi)) ?_;simp only[am,Rl.an,OW,OH];refine(hf _).mono ?_;rintro v D ⟨rfl,rfl⟩;simp only[am];refine cl (alo _ _ D) ?_;simp only[am];cases hb:Av w (g (fI w)[m]) with
  | false =>
   simp only[am,a_,cT hi];exact nx br (()) hi (aqU hJ hi hb)
  | true =>
   have e:(fI w).find? (λu=>Av w (g u))=U (fI w)[m]:=by
    rw[EV];exact⟨hb,_,(fI w).drop (m+1),by rw[<-mi hi,qy],λa ha=>by rw[hJ a ha];rfl⟩
   simp only[am,a_];refine aS ?_;simp[V.erase,bw,wB,e]
 .rintro x hJ;rw[eH] at hJ;have e:(fI w).find? (λu=>Av w (g u))=none:=by
   rw[IH];intro u hu;rw[hJ u hu];simp
  simp only[hF,aA,am,a_,eJ,a_];refine aS ?_;simp[V.erase,bw,wB,e]
def ajq(r:Rl)(i j:Nat)(hg:TZ D):bc 221 [.agg r.enc,.int .i64 (i:Nat),.int .i64 (j:Nat)] D (wB (wm r i j)):=by
 refine afe.aV ?_;simp only[aU,am,a8,Nat.reduceAdd,Rl.an];refine cl (Ud r i j _ (vE r) hg λk=>X2 r k hg) ?_;simp only[am,wB];refine aS ?_;simp[V.erase,bw,wm]
def alr(r:Rl)(i j:Nat)(hg:TZ D):bc 222 [.agg r.enc,.int .i64 (i:Nat),.int .i64 (j:Nat)] D (wB (yg r i j)):=by
 refine aff.aV ?_;simp only[aU,am,a8,Nat.reduceAdd,Rl.an];refine cl (Ud r i j _ (vH r) hg λk=>PM r k D) ?_;simp only[am,wB];refine aS ?_;simp[V.erase,bw,yg]
def aiT(r:Rl)(i:Nat)(D:ag):bc 301 [.agg r.enc,.int .i64 (i:Nat)] D (.int .u64 ((vH r i).toNat:Nat)):=by
 refine agj.aV ?_;simp only[aU,tM,Nat.reduceAdd];refine cl (PM r i D) ?_;simp only[am];exact rt
def adP{p:Nat->Bool}{n m:Nat}(hm:m<n)(h:∀k,k<m->p k=ak)(hp:p m=aa):(cc n).find? p=U m:=by
 rw[EV];refine⟨hp,cc m,List.range' (m+1) (n - (m+1)),?_,λa ha=>by rw[h a (by simpa using ha)];rfl⟩;rw[tU,tU,<-Cu]
 have:=O2 (s:=0) (m:=m) (n:=n - m) (step:=1)
 simp only[w9,jc] at this;rw[show n - (m+1)+1=n - m by omega,this];congr 1;omega
def adS{p:Nat->Bool}{n:Nat}(h:∀k,k<n->p k=ak):(cc n).find? p=none:=by
 rw[IH];intro u hu;rw[h u (by simpa using hu)];simp
def Tm(r:Rl)(hg:TZ D):bc 175 [.agg r.enc] D (.bool (ra r)):=by
 refine aeN.aV ?_;simp only[aU,am,a8,Nat.reduceAdd,Rl.an]
 by_cases h1:r.n<1
 .simp only[am,aP h1];refine aS ?_;simp[V.erase,ra];omega
 .simp only[am,Rl.an,aK h1]
  by_cases h2:64<r.n
  .simp only[am,aP h2];refine aS ?_;simp[V.erase,ra];omega
  .simp only[am,Rl.an,aK h2];refine cl (anj r hg) ?_;obtain⟨n,hn⟩:∃n:Nat,r.n=n:=⟨r.n.toNat,by omega⟩;have hp:bK r=n:=by rw[bK,hn];omega
   cases ho:BV r with
   | false =>
    simp only[am];refine aS ?_;simp[V.erase,ra,ho]
   | true =>
    simp only[am,Rl.an,hn];have kc:(∀i,i<n->∀j,j<i->((wm r i j).isSome&&(yg r i j).isSome)=aa)->ra r=true:=λh=>by
     simp only[ra,ho,hn,jC,lf,AV,bA,b7,vp];exact⟨by omega,λi hi j hj=>by have:=h i hi j hj;simpa using this⟩
    have aE:∀i j,i<n->j<i->((wm r i j).isSome&&(yg r i j).isSome)=ak->ra r=false:=λi j hi hj h=>by
     cases hq:ra r with
     | false=>rfl
     | true =>
      simp only[ra,hn,jC,lf,AV,bA] at hq
      have:=hq.2 i hi j hj
      rw[this.1,this.2] at h;simp at h
    refine eb (n) (λi (x:Unit)=>⟨[.any,.ptr (.aC 0) 0,.any,.any,.any,.any,.any,.any,.any,.any,.any,.any,.any,.any,.any,.any,.any,.any,.any,.any,.any,.any,.any,.int .i64 (n:Nat),.int .i64 (i:Nat)]++aA 28 .any,[r.enc],D⟩) (λi x=>(∀a,a<i->∀b,b<a->((wm r a b).isSome&&(yg r a b).isSome)=aa)) λF hF JF br=>⟨?_,?_,?_⟩
    .exact en br (()) (by intro k h;omega)
    .rintro i x hi hJ;simp only[hF,aA,am,eE hi];refine eb (i) (λj (x:Unit)=>⟨[.any,.ptr (.aC 0) 0,.any,.int .i64 (i:Nat),.any,.any,.any,.any,.any,.any,.any,.any,.any,.any,.any,.any,.any,.any,.any,.any,.any,.any,.any,.int .i64 (n:Nat),.int .i64 (i:Nat),.any,.any,.int .i64 (i:Nat),.int .i64 (j:Nat)]++aA 24 .any,[r.enc],D⟩) (λj x=>(∀b,b<j->((wm r i b).isSome&&(yg r i b).isSome)=aa)) λF2 ir ET pq=>⟨?_,?_,?_⟩
     .refine en pq (()) (by intro k h;omega) ?_ ?_ ?_
      all_goals simp[ir,aA,am,bZ]
     .rintro j x hj J9;simp only[ir,aA,am,eE hj,Rl.an];refine cl (ajq r i j hg) ?_;simp only[am,Rl.an,wB];refine cl (alr r i j hg) ?_;simp only[am,wB];cases ha:(wm r i j).isSome with
      | false =>
       simp only[am,a_];refine aS ?_;simp[V.erase,aE i j hi hj (by rw[ha];rfl)]
      | true =>
       simp only[am];cases hb:(yg r i j).isSome with
       | false =>
        simp only[am,a_];refine aS ?_;simp[V.erase,aE i j hi hj (by rw[ha,hb];rfl)]
       | true =>
        simp only[am,a_,cT hj];refine nx pq (()) hj (A3 J9 (by rw[ha,hb];rfl)) ?_ ?_ ?_
        all_goals simp[ir,aA,am,bZ]
     .rintro x J9;simp only[ir,aA,am,a_,eJ,Nat.reduceEqDiff,a_,reduceCtorEq,cT hi];exact nx br (()) hi (A3 hJ J9)
    .rintro x hJ;simp only[hF,aA,am,a_,eJ,a_];refine aS ?_;simp[V.erase,kc hJ]
def ae9:aT prog 214 (sq [rg 2 [oz 2],rg 3 [mk 0,nf 3,nl 2,oW [0,0] [],oq (.jf ak [1,1] (.s 6) (.s 7)),o1 2],.ret]) [.tmp 2] 9:=aX func214
def afF:aT prog 258 (sq [rg 0 [oZ 2 [1,0]],rg 4 [om 0,oc 260 [.s 4,.c (.int .u8 97)],oZ 3 [3,1,0,10,0],o2 5 3],rg 6 [of 0 3,nF 1,of 0 3,nF 2,oW [1,0] [(0,1,8),(1,1,11)],o2 2 2],.ret]) [.cell 2 aa 2] 13:=aX func258
def afG:aT prog 259 (sq [rg 4 [oz 2],dg 5 [om 0,oC 214 [5],gA,mk 0,nF 1,nB .geq 0,gZ,gA,mk 0,nF 1,mk 0,nF 0,nL,nb .lss 18,gZ,gA,mk 0,nF 0,mk 0,nF 1,nA 5 30,nf 0,nF 0,om 1,nb .eql 38,gZ,o1 4],.ret]) [.tmp 4] 42:=aX func259
def afH:aT prog 260 (sq [rg 0 [oZ 4 [3,1,0,10,0]],sq [rg 5 [om 0,om 1,oC 259 [5,6],nn],ci 8 (sq [rg 9 [om 0,oC 287 [9]],rg 11 [oW [3,1,0,10,0] [],o2 5 4],.ret])],rg 12 [mk 0,nF 1,nB .add 1,ok 12,nf 1,os 1 18 16],dg 19 [mk 0,nF 0,mk 0,nF 1,nB .sub 1,nA 5 22,nl 5,o2 5 4],.ret]) [.cell 4 aa 5] 30:=aX func260
def af5:aT prog 287 (sq [sq [rg 2 [om 0,oC 214 [2],nn],ci 4 .ret],rg 5 [om 0,mk 0,nF 2,oG [0,0] [(0,1,.c (.int .i64 2)),(1,1,.s 9)],ok 5,nf 3,os 2 12 10],dg 13 [mk 0,nF 1,nB .geq 0,gA,mk 0,nF 1,mk 0,nF 0,nL,nb .lss 22,gZ],ci 29 (dg 30 [om 0,mk 0,nF 0,mk 0,nF 1,nA 5 34,nf 0,nF 2,ok 30,nf 3,nf 1,os 1 45 42])]) [] 46:=aX func287
variable{r:Nat}{rd:ab}
def wz(h:D.box r=U rd.enc):bc 214 [.ptr (.out r) 0] D (.bool rd.ok):=by
 refine ae9.aV ?_;simp only[aU,a8,am,h,ab.enc];refine aN rfl (ag.bd _) ⟨?_,rfl⟩;cases hb:rd.aE<;>simp[ab.ok,V.erase,hb,c8,fD]
def qp{k:Int}(h:D.box r=U rd.enc):bc 259 [.ptr (.out r) 0,.int .u8 k] D (.bool (rd.bR k)):=by
 refine afG.aV ?_;simp only[aU,a8,am];refine bJ.intro (wz h) ?_;simp only[am];cases b9:rd.ok
 .simp only[am];refine aN rfl (ag.bd _) ⟨?_,rfl⟩;simp[ab.bR,b9,V.erase]
 .simp only[am,h,ab.enc]
  by_cases h0:0<=rd.at_
  .simp only[am,h0,bS,h,ab.enc,ka]
   by_cases h1:rd.at_<rd.l.length
   .obtain⟨j,hj⟩:=Co h0;have gI : j<rd.l.length:=by omega
    simp only[am,h1,bS,h,ab.enc];refine qY h0 (c:=rd.l[j].enc) (by simp[sH,hj,gI]) ?_;simp only[am,dd];refine aN rfl (ag.bd _) ⟨?_,rfl⟩;simp[ab.bR,bx,V.erase,b9,hj,gI]
   .simp only[am,h1,ff];refine aN rfl (ag.bd _) ⟨?_,rfl⟩
    have:rd.l[rd.at_.toNat]?=none:=yP (by omega)
    simp[ab.bR,bx,V.erase,this]
  .simp only[am,h0,ff];refine aN rfl (ag.bd _) ⟨?_,rfl⟩;simp[ab.bR,bx,V.erase,h0]
def QV(h:D.box r=U rd.enc):dn 287 [.ptr (.out r) 0] D (.bq []) (D.set r rd.fail.enc):=by
 refine af5.aV ?_;simp only[aU,a8,am];refine(wz h).mono ?_;rintro v σ' ⟨rfl,rfl⟩;cases hb:rd.aE with
 | some b =>
  simp only[am,ab.ok,hb,Option.isNone];refine aN rfl (ag.bd _) ⟨rfl,?_⟩;rw[ab.fail,hb];exact(ag.yu h).symm
 | none =>
  simp only[am,ab.ok,hb,Option.isNone,h,ab.enc,Nat.reduceAdd]
  by_cases h0:0<=rd.at_
  .simp only[am,h0,bS,ka]
   by_cases h1:rd.at_<rd.l.length
   .obtain⟨j,hj⟩:=Co h0;have gI : j<rd.l.length:=by omega
    simp only[am,h1,bS];refine qY h0 (c:=rd.l[j].enc) (by simp[sH,hj,gI]) ?_;simp only[am,dd,Nat.reduceAdd];refine aN rfl (ag.bd _) ⟨rfl,?_⟩;simp[ab.fail,ab.spot,hb,hj,gI,c8,fD]
   .simp only[am,h1,ff];refine aN rfl (ag.bd _) ⟨rfl,?_⟩
    have:rd.l[rd.at_.toNat]?=none:=yP (by omega)
    simp[ab.fail,ab.spot,hb,this,c8,fD]
  .simp only[am,h0,ff];refine aN rfl (ag.bd _) ⟨rfl,?_⟩;simp[ab.fail,ab.spot,hb,h0,c8,fD]
def wL{k:Int}(h:D.box r=U rd.enc)(hb:rd.l.length<=aM):dn 260 [.ptr (.out r) 0,.int .u8 k] D (.agg (rd.take k).1.enc) (D.set r (rd.take k).2.enc):=by
 refine afH.aV ?_;simp only[aU,a8,am];refine(qp h).mono ?_;rintro v σ' ⟨rfl,rfl⟩;cases hs:rd.bR k
 .simp only[am];refine(QV h).mono ?_;rintro v σ' ⟨rfl,rfl⟩;simp only[am];refine aN rfl (ag.bd _) ⟨?_,?_⟩
  .simp[ab.take,hs,V.erase,bw,ar.zero,ar.enc,dv]
  .simp[ab.take,hs]
 .have dh := hs;simp only[ab.bR,bx,bA,b7] at dh;obtain⟨_,h0,hk⟩:=dh;have h1:rd.at_.toNat<rd.l.length:=by
   cases hq:rd.l[rd.at_.toNat]? with
   | none=>rw[hq] at hk;simp at hk
   | some t=>exact(eX.1 hq).1
  simp only[aM] at hb;simp only[am,h,ab.enc];rw[wrap_i64 (x:=rd.at_+1),wrap_i64 (x:=rd.at_+1 - 1)];refine xW (c:=rd.l[rd.at_.toNat].enc) (by rw[show(rd.at_+1 - 1).toNat=rd.at_.toNat by omega];simp[sH,h1]) ?_;simp only[am,dd];refine aN rfl (ag.bd _) ⟨?_,?_⟩
  .simp[ab.take,hs,V.erase,bw,h1,gU]
  .simp[ab.take,hs]
def yH(h:D.box r=U rd.enc)(hb:rd.l.length<=aM):dn 258 [.ptr (.out r) 0] D (.agg rd.word.1.enc) (D.set r rd.word.2.enc):=by
 refine afF.aV ?_;simp only[aU,a8,am];refine(wL h hb).mono ?_;rintro v σ' ⟨rfl,rfl⟩;simp only[am,dd,Nat.reduceAdd];refine aN rfl (ag.bd _) ⟨?_,?_⟩
 .simp[ab.word,V.erase,bw,au.enc]
 .simp[ab.word]
def afD:aT prog 256 (sq [rg 4 [om 1,oq (.ij (.s 4) [])],bl 0 (sq [sq [rg 6 [om 0,oc 259 [.s 6,.c (.int .u8 44)]],cx 7 0],.block 1 (sq [rg 8 [om 0,oc 260 [.s 8,.c (.int .u8 44)]],rg 10 [om 1,oq (.ij (.s 10) [])]])])]) [] 12:=aX func256
structure Sys(O:Type) where
 F:O->ag
 rd:O->ab
 set:O->ab->O
 step:O->O
variable{O:Type}
def Sys.go(S:Sys O):Nat->O->O
 | 0,a=>a
 | n+1,a=>if (S.rd a).bR 44 then S.go n (S.step (S.set a ((S.rd a).take 44).2)) else a
def apT{k:Int}(h:rd.bR k=aa):rd.aE=ae/\0<=rd.at_/\rd.at_<rd.l.length:=by
 simp only[ab.bR,ab.ok,bx,bA,b7,Cx] at h;obtain⟨h1,h0,hk⟩:=h;refine⟨h1,h0,?_⟩;cases hq:rd.l[rd.at_.toNat]? with
 | none=>rw[hq] at hk;simp at hk
 | some t=>have:=(eX.1 hq).1;omega
variable{cap:List V}{g:FuncId}
def NQ(S:Sys O)(Inv:O->Prop)(nW:bH cap=aa)
 (nQ:∀a,Inv a->(S.F a).box r=U (S.rd a).enc) (hlen:∀a,Inv a->(S.rd a).l.length<=aM)
 (mu:∀a,Inv a->(S.rd a).bR 44=aa->(S.F a).set r ((S.rd a).take 44).2.enc=S.F (S.set a ((S.rd a).take 44).2))
 (rV:∀a,Inv a->(S.rd a).bR 44=aa->cm prog g cap (S.F (S.set a ((S.rd a).take 44).2)) (λv σ' => v = .bq []/\σ' = S.F (S.step (S.set a ((S.rd a).take 44).2))) /\
   Inv (S.step (S.set a ((S.rd a).take 44).2))/\(S.rd (S.step (S.set a ((S.rd a).take 44).2))).l=(S.rd a).l/\(S.rd a).at_+1<=(S.rd (S.step (S.set a ((S.rd a).take 44).2))).at_)
 {a:O} (h0:cm prog g cap (S.F a) (λv σ' => v = .bq []/\σ' = S.F (S.step a))) (hI:Inv (S.step a)) {n:Nat} (hn:(S.rd (S.step a)).l.length<=n) :
 dn 256 [.ptr (.out r) 0,.fn (.func g) [] cap] (S.F a) (.bq []) (S.F (S.go n (S.step a))):=by
 refine afD.aV ?_;simp only[aU,a8,am,nW];refine h0.mono ?_;rintro v σ' ⟨rfl,rfl⟩;simp only[am]
 let I:{p:O × Nat // Inv p.1/\((S.rd p.1).l.length:Int)<=max (S.rd p.1).at_ 0+p.2/\S.go p.2 p.1=S.go n (S.step a)}->St:=λp =>
  ⟨[.ptr (.out r) 0,.fn (.func g) [] cap]++aA 10 .any,[],S.F p.1.1⟩
 refine iE I (λp=>p.1.2) ?_ ?_
 .refine bm.enter ⟨(S.step a,n),hI,by simp only;omega,rfl⟩ ?_ ch.rfl bN.rfl;simp[I,aA,am]
 .rintro⟨⟨b,m⟩,hb,hm,zw⟩;simp only[I,aA,am];simp only at hb hm zw;refine(qp (nQ b hb)).mono ?_;rintro v σ' ⟨rfl,rfl⟩;cases hs:(S.rd b).bR 44
  .simp only[am];refine aN rfl (ag.bd _) ⟨rfl,?_⟩;rw[<-zw];cases m<;>simp[Sys.go,hs]
  .obtain⟨_,h1,h2⟩:=apT hs;simp only[am];refine(wL (nQ b hb) (hlen b hb)).mono ?_;rintro v σ' ⟨rfl,rfl⟩;simp only[am,nW];obtain⟨k1,k2,k3,k4⟩:=rV b hb hs;rw[mu b hb hs];refine k1.mono ?_;rintro v σ' ⟨rfl,rfl⟩;simp only[am];cases m with
   | zero=>omega
   | succ m =>
    refine bm.again ⟨(S.step (S.set b ((S.rd b).take 44).2),m),k2,?_,?_⟩ (by simp) ?_ ch.rfl bN.rfl
    .rw[k3];simp only;omega
    .rw[<-zw];simp[Sys.go,hs]
    .simp[am]
def afB:aT prog 254 (sq [rg 8 [oi 0],rg 11 [om 0,om 1,oC 260 [11,12],oZ 9 [3,1,0,10,0],o2 5 9],sq [rg 14 [om 0,oC 214 [14],nn],cr 16 8 [oi 0]],rg 17 [fo 3 9,fo 4 9,oW [10,0,0,0,0] [(0,1,18),(2,1,20)],oq (.fZ 5 (.s 21)),o1 10],sq [rg 23 [om 2,nn,gB,fo 3 9,nL,nB .gtr 0,gZ],ci 30 (rg 31 [om 3,om 10,oq (.ij (.s 31) [(.s 32)])])],sq [dg 34 [om 10,oC 214 [34],gA,mk 10,nF 1,mk 10,nF 0,nL,nb .lss 40,gZ],ci 47 (rg 48 [om 10,oC 287 [48]])],sq [rg 50 [om 10,oC 214 [50],nn],ci 52 (rg 53 [om 0,mk 10,nf 3,nl 2,ok 53,nf 3,os 2 59 57])],rg 60 [of 0 9,nF 2,o1 8],.ret]) [.tmp 8] 63:=aX func254 ⟨[22],[]⟩
variable{empty:Bool}
def Oh{kind:Int}(nW:bH cap=aa)(h:D.box r=U rd.enc)(hlen:rd.l.length<=aM)(rN:(rd.take kind).1.ah.length<=aM)
 (i1:ab) (rq:ag) (hcb:(rd.take kind).2.ok=aa->(empty=ak\/(rd.take kind).1.ah.length≠0)->∀q,D.box q=ae ->
   cm prog g (.ptr (.out q) 0::cap) ((D.set r (rd.take kind).2.enc).set q (rd.take kind).1.inner.enc) λv σ' => v = .bq []/\σ' = (rq.set r (rd.take kind).2.enc).set q i1.enc)
 (iI:empty=aa->(rd.take kind).1.ah.length=0->i1=(rd.take kind).1.inner/\rq=D) (hq:∀q,D.box q=ae->rq.box q=ae) (hl:i1.l=(rd.take kind).1.ah) :
 cm prog 254 [.ptr (.out r) 0,.int .u8 kind,.bool empty,.fn (.func g) [] cap] D λv σ' =>
  if (rd.take kind).2.ok=aa then v = .int .i64 (rd.take kind).1.tok.pos/\σ' = rq.set r ((rd.take kind).2.under i1).enc else v = .int .i64 0/\σ' = D.set r (rd.take kind).2.enc:=by
 refine afB.aV ?_;simp only[aU,a8,am];refine(wL h hlen).mono ?_;rintro v σ' ⟨rfl,rfl⟩;generalize ht:(rd.take kind).1=t at *;generalize hr1:(rd.take kind).2=tC at *;simp only[am,dd,Nat.reduceAdd];refine(wz (ag.dR _ _ _)).mono ?_;rintro v σ' ⟨rfl,rfl⟩;cases b9:tC.ok
 .simp only[am];refine aN rfl (ag.bd _) ?_;simp[V.erase]
 .have fF:tC.aE=none:=by simpa [ab.ok] using b9
  simp only[am,Nat.reduceAdd];refine jU λq GM=>?_
  have ke:q≠r:=by rintro rfl;rw[ag.dR] at GM;simp at GM
  have SB : D.box q=none:=by rw[ag.dW _ _ ke] at GM;exact GM
  have ey:[V.sl .no 5 (dv t.ah),.int .i64 0,.int .i64 t.fin,.int .i64 0,.int .i64 0]=t.inner.enc:=rfl;simp only[am,ey];have gH:∀i:ab,i.l=t.ah->((rq.set r tC.enc).set q i.enc).box q=U i.enc:=λi _=>ag.dR _ _ _
  have pA:∀(A B:List V),(rq.set r A).sub ((rq.set r A).set q B):=λA B=>by
   refine⟨λb cs hb=>?_,λ_ _ h=>h,λ_ _ h=>h⟩
   by_cases vY:b=q
   .subst vY;rw[ag.dW _ _ ke,hq b SB] at hb;simp at hb
   .rw[ag.dW _ _ vY];exact hb
  have hsw:∀(A B C:List V),((rq.set r A).set q B).set r C=(rq.set r C).set q B:=λA B C=>by rw[ag.set_comm ke,ag.set_set]
  have Gp:((rq.set r tC.enc).set q i1.enc).box q=U i1.enc:=ag.dR _ _ _
  by_cases hc:empty=ak\/t.ah.length≠0
  case' neg =>
   have hE:empty=true:=by cases empty<;>simp at hc ⊢
   have hk:t.ah.length=0:=by
    rcases IQ t.ah.length with h | h
    .exact h
    .exact absurd (.inr (by omega)) hc
   obtain⟨e1,e2⟩:=iI hE hk;simp only[am,hE,ka,hk,wX,Int.lt_irrefl,ff];rw[<-e1,<-e2]
  case' pos =>
   have zw:=hcb b9 hc q SB;cases hE:empty
   case' true =>
    have hk:0<t.ah.length:=by
     rcases hc with h | h
     .rw[hE] at h;simp at h
     .omega
    simp only[am,ka,Int.natCast_pos,hk,bS]
   all_goals
    simp only[am,nW];refine zw.mono ?_;rintro v σ' ⟨rfl,rfl⟩;simp only[am]
  all_goals
   refine bJ.intro (wz Gp) ?_;have R9:∀(i:ab),((rq.set r tC.enc).set q i.enc).box r=U tC.enc:=λi=>by rw[ag.dW _ _ (fm ke),ag.dR]
   have fin:∀(i:ab) (x:List V),x=(tC.under i1).enc->(rq.set r (tC.under i1).enc).sub (((rq.set r tC.enc).set q i.enc).set r x):=λi x hx=>by
    rw[hx,hsw];exact pA _ _
   cases Bv:i1.ok
   .have gH:i1.close=i1:=by simp[ab.close,Bv]
    simp only[am];refine(wz Gp).mono ?_;rintro v σ' ⟨rfl,rfl⟩;simp only[am,Bv,R9,ab.ex,Nat.reduceAdd];exact aN rfl (fin i1 _ (by rw[ab.under,gH];rfl)) ⟨rfl,rfl⟩
   .simp only[am,ab.ex,hl,ka]
    by_cases az:i1.at_<t.ah.length
    .have gH:i1.close=i1.fail:=by simp[ab.close,Bv,hl,az]
     simp only[am,az,bS];refine(QV Gp).mono ?_;rintro v σ' ⟨rfl,rfl⟩;simp only[am];refine(wz (ag.dR _ _ _)).mono ?_;rintro v σ' ⟨rfl,rfl⟩;have hf:i1.fail.ok=false:=by
      have:i1.aE=none:=by simpa [ab.ok] using Bv
      simp[ab.fail,this,ab.ok]
     simp only[am,hf,R9,ab.ex,Nat.reduceAdd];exact aN rfl (fin i1.fail _ (by rw[ab.under,gH];rfl)) ⟨rfl,rfl⟩
    .have gH:i1.close=i1:=by simp[ab.close,hl,az]
     have hu:tC.under i1=tC:=by
      have:i1.aE=none:=by simpa [ab.ok] using Bv
      rw[ab.under,gH,this,<-fF]
     simp only[am,az,ff];refine(wz Gp).mono ?_;rintro v σ' ⟨rfl,rfl⟩;simp only[am,Bv];refine aN rfl ?_ ⟨rfl,rfl⟩;rw[hu];exact pA _ _
def ae8:aT prog 213 (sq [rg 4 [oz 7,oi 0],rg 0 [od (U 6) (.pe [(.sl .aW 2 [])])],.o7 (rg 8 [om 0,om 1,oq (.jx (.func 255) [] [(.s 6)]),oc 254 [.s 8,.c (.int .u8 123),.s 9,.s 10],o1 7]),rg 12 [oo 6,om 7,ot 4 12,o1 5],.ret]) [.tmp 4,.tmp 5] 14:=aX func213 ⟨[6],[2]⟩
def afC:aT prog 255 (sq [rg 0 [od (U 2) (.fZ 1 (.s 0))],rg 3 [no,oq (.jx (.func 257) [] [(.s 1),(.s 2)]),oC 256 [3,4]]]) [] 6:=aX func255 ⟨[2],[]⟩
def afE:aT prog 257 (dg 2 [mM [1],oo 0,oo 1,oC 258 [3],n1 2,na 2 2,o2 1 0]) [] 7:=aX func257
variable{o p Z:Nat}
def asi{rows:List (List V)}(ho:D.box o=U [.sl (.tk Z) 2 rows])(hp:D.box p=U [.ptr (.out r) 0])(hr:D.box r=U rd.enc)(jg:o≠r)
 (ht:D.aJ Z=U rows.length) (hb:rows.length+1<=aM) (hlen:rd.l.length<=aM) :
 dn 257 [.ptr (.out o) 0,.ptr (.out p) 0] D (.bq []) (((D.set r rd.word.2.enc).set o [.sl (.tk Z) 2 (rows++[rd.word.1.enc])]).aR Z (rows.length+1)):=by
 refine afE.aV ?_;simp only[aU,a8,am,ho,hp];refine bJ.intro (yH hr hlen) ?_;simp only[am,au.enc];refine xf (by simpa using hb) ht ?_;have h1:(D.set r rd.word.2.enc).box o=U [.sl (.tk Z) 2 rows]:=by rw[ag.dW _ _ jg];exact ho
 simp only[am,h1];exact aN rfl (ag.bd _) ⟨rfl,rfl⟩
def fv(D:ag)(q o Z k:Nat)(rd:ab)(rows:List (List V)):ag:=((D.set q rd.enc).set o [.sl (.tk Z) k rows]).aR Z rows.length
def ED(D:ag)(q o Z:Nat):Sys (ab × List au):=⟨λa=>fv D q o Z 2 a.1 (a.2.map au.enc),λa=>a.1,λa r=>(r,a.2),fW⟩
def Gb{G:Type}(F:ab × List G->ag)(step:ab × List G->ab × List G):∀(n:Nat) (a:ab × List G),Sys.go ⟨F,λa=>a.1,λa r=>(r,a.2),step⟩ n a=iG step n a
 | 0,_=>rfl
 | n+1,a=>by simp only[Sys.go,iG,Gb F step n]
variable{q:Nat}
def Bi{rows:List (List V)}(h:q≠o):(fv D q o Z k rd rows).box q=U rd.enc:=by
 simp[fv,ag.aR,ag.set,h]
def F_{rows:List (List V)}:(fv D q o Z k rd rows).box o=U [.sl (.tk Z) k rows]:=by
 simp[fv,ag.aR,ag.set]
def uA{rows:List (List V)}(h:p≠q)(h' : p≠o):(fv D q o Z k rd rows).box p=D.box p:=by
 simp[fv,ag.aR,ag.set,h,h']
variable{cs:List V}
def F'{rows:List (List V)}(h:p≠q)(h' : p≠o):(fv D q o Z k rd rows).set p cs=fv (D.set p cs) q o Z k rd rows:=by
 have:((D.set q rd.enc).set o [.sl (.tk Z) k rows]).set p cs=((D.set p cs).set q rd.enc).set o [.sl (.tk Z) k rows]:=by
  rw[ag.set_comm (fm h'),ag.set_comm (b:=q) (fm h)]
 show(((D.set q rd.enc).set o [.sl (.tk Z) k rows]).set p cs).aR Z rows.length=_;rw[this];rfl
def h_(h:D.box p=ae):D.sub (D.set p cs):=by
 refine⟨λb ds hb=>?_,λ_ _ h=>h,λ_ _ h=>h⟩
 have:b≠p:=by rintro rfl;rw[h] at hb;simp at hb
 rw[ag.dW _ _ this];exact hb
def Rv{rows:List (List V)}:(fv D q o Z k rd rows).aJ Z=U rows.length:=by
 simp[fv,ag.aR]
variable{j4:ab}
def JV{rows:List (List V)}(h:q≠o):(fv D q o Z k rd rows).set q j4.enc=fv D q o Z k j4 rows:=by
 have:((D.set q rd.enc).set o [.sl (.tk Z) k rows]).set q j4.enc=(D.set q j4.enc).set o [.sl (.tk Z) k rows]:=by rw[ag.set_comm (fm h),ag.set_set]
 show(((D.set q rd.enc).set o [.sl (.tk Z) k rows]).set q j4.enc).aR Z rows.length=_;rw[this];rfl
variable{c:List V}
def Ru{rows:List (List V)}(h:q≠o):(((fv D q o Z k rd rows).set q j4.enc).set o [.sl (.tk Z) k (rows++[c])]).aR Z (rows.length+1)=fv D q o Z k j4 (rows++[c]):=by
 rw[JV h];unfold fv;rw[bI,db,ei];show((((D.set q j4.enc).set o [.sl (.tk Z) k rows]).set o [.sl (.tk Z) k (rows++[c])]).aR Z rows.length).aR Z (rows.length+1)=_;rw[ag.set_set,jn]
variable{G:Type}
def pd(l:List ar)(a:ab × List G):Prop:=a.1.l=l/\0<=a.1.at_/\a.1.at_<=l.length/\(a.1.aE=ae->(a.2.length:Int)<=a.1.at_)
variable{l:List ar}
def UC{a:ab × List au}(h:pd l a)(hb:a.1.aE=ae):pd l (fW a)/\a.1.at_<=(fW a).1.at_:=by
 obtain⟨h1,h2,h3,h4⟩:=h;have h4:=h4 hb
 rcases a.1.tJ 97 with ⟨_,k1,k2,k3,k4⟩ | ⟨_,k1,k2⟩
 .refine⟨⟨?_,?_,?_,λ_=>?_⟩,?_⟩<;>simp only[fW,ab.word,ab.ft,k1,bI,db,ei]
  .exact h1
  .omega
  .rw[h1] at k4;omega
  .omega
  .omega
 .refine⟨⟨?_,?_,?_,λhq=>absurd hq k2⟩,?_⟩<;>simp only[fW,ab.word,ab.ft,k1]
  .exact h1
  .exact h2
  .exact h3
  .omega
def ML{a:ab × List G}(h:pd l a)(hs:a.1.bR 44=aa):pd l ((a.1.take 44).2,a.2)/\(a.1.take 44).2.aE=ae/\(a.1.take 44).2.at_=a.1.at_+1:=by
 obtain⟨h1,h2,h3,h4⟩:=h
 rcases a.1.tJ 44 with ⟨_,k1,k2,k3,k4⟩ | ⟨k0,_⟩
 .have hb:a.1.aE=none:=by
   simp only[ab.bR,ab.ok,bA,Cx] at hs;exact hs.1
  have:=h4 hb
  rw[h1] at k4;exact⟨⟨by simp only[ab.ft];exact h1,by simp only[k1];omega,by simp only[k1];omega,λ_=>by simp only[k1];omega⟩,k2,k1⟩
 .rw[hs] at k0;simp at k0
def asj(dx:q≠o)(fp:rd.at_=0)(fF:rd.aE=ae)(hlen:rd.l.length+1<=aM):
 dn 255 [.ptr (.out q) 0,.ptr (.out o) 0] (fv D q o Z 2 rd []) (.bq []) (fv D q o Z 2 (dJ fW rd).1 ((dJ fW rd).2.map au.enc)):=by
 refine afC.aV ?_;simp only[aU,a8,am];refine jU λp hp=>?_
 have lC:p≠q:=by rintro rfl;rw[Bi dx] at hp;simp at hp
 have lB:p≠o:=by rintro rfl;rw[F_] at hp;simp at hp
 rw[F' lC lB];simp only[am,uA lC lB];have rV:∀a:ab × List au,pd rd.l a->a.1.aE=ae->cm prog 257 [.ptr (.out o) 0,.ptr (.out p) 0] (fv (D.set p [.ptr (.out q) 0]) q o Z 2 a.1 (a.2.map au.enc)) λv σ' =>
  v = .bq []/\σ' = fv (D.set p [.ptr (.out q) 0]) q o Z 2 (fW a).1 ((fW a).2.map au.enc):=λa kN hb=>by
  have hl:=kN.2.2.2 hb;have kK:=kN.2.2.1;refine(asi F_ (by rw[uA lC lB,ag.dR]) (Bi dx) (fm dx) Rv (by rw[aO];omega) (by rw[kN.1];omega)).mono ?_;rintro v σ' ⟨rfl,rfl⟩;refine⟨rfl,?_⟩;rw[Ru dx];simp[fW]
 have h0:pd rd.l (rd,([]:List au)):=⟨rfl,by simp[fp],by simp[fp],λ_=>by simp[fp]⟩;obtain⟨p1,_⟩:=UC h0 fF;refine(NQ (ED (D.set p [.ptr (.out q) 0]) q o Z) (pd rd.l) (a:=(rd,[])) (n:=rd.l.length) (by simp[am]) (λa h=>Bi dx) (λa h=>?_) (λa h hs=>JV dx) (λa h hs=>?_) (rV _ h0 fF) p1 ?_).mono ?_
 .show a.1.l.length<=aM;rw[h.1];omega
 .obtain⟨k1,k2,k3⟩:=ML h hs;obtain⟨k4,k5⟩:=UC k1 k2;refine⟨rV _ k1 k2,k4,?_,?_⟩
  .exact k4.1.trans h.1.symm
  .show a.1.at_+1<=_;simp only at k5;rw[k3] at k5;exact k5
 .show(fW (rd,[])).1.l.length<=rd.l.length;rw[p1.1];omega
 rintro v σ' ⟨rfl,rfl⟩;simp only[am];refine aN rfl (σ' := fv D q o Z 2 (dJ fW rd).1 ((dJ fW rd).2.map au.enc)) ?_ ⟨rfl,rfl⟩;have e:(ED (D.set p [.ptr (.out q) 0]) q o Z).F ((ED (D.set p [.ptr (.out q) 0]) q o Z).go rd.l.length ((ED (D.set p [.ptr (.out q) 0]) q o Z).step (rd,[])))=fv (D.set p [.ptr (.out q) 0]) q o Z 2 (dJ fW rd).1 ((dJ fW rd).2.map au.enc):=by
  unfold ED;rw[Gb];rfl
 rw[e,<-F' lC lB];exact h_ (by rw[uA lC lB];rw[uA lC lB] at hp;exact hp)
def JX{G:Type}{l:List ar}{step:ab × List G->ab × List G}(hs:∀a,a.1.l=l->(step a).1.l=l):∀(n:Nat) (a:ab × List G),a.1.l=l->(iG step n a).1.l=l
 | 0,_,h=>h
 | n + 1, a, h => by
  simp only[iG];split
  .exact JX hs n _ (hs _ (by rw[ab.ft];exact h))
  .exact h
def S6{step:ab × List G->ab × List G}(hs:∀l a,a.1.l=l->(step a).1.l=l)(empty:Bool)(t:ar):(ab.inside step empty t).1.l=t.ah:=by
 unfold ab.inside;split
 .rfl
 .exact JX (hs _) _ _ (hs _ _ rfl)
def arV(l:List ar)(a:ab × List au)(h:a.1.l=l):(fW a).1.l=l:=by simp[fW,ab.word,ab.ft,h]
def Oo(h:D.box r=U rd.enc)(hlen:rd.l.length<=aM)(rN:(rd.take 123).1.ah.length+1<=aM):
 dn 213 [.ptr (.out r) 0,.bool empty] D (.bq [.sl .no 2 ((rd.words empty).1.1.map au.enc),.int .i64 (rd.words empty).1.2]) (D.set r (rd.words empty).2.enc):=by
 refine ae8.aV ?_;simp only[aU,a8,am];refine jU λo ho=>?_
 have jg:o≠r:=by rintro rfl;rw[h] at ho;simp at ho
 simp only[am];refine bm.tok 0 λZ bp=>⟨_,_,_,dY.rfl,rfl,λi c hc=>⟨c,hc,dY.rfl⟩,pZ.set (cs:=[.sl .aW 2 []]) (cs' := [.sl (.tk Z) 2 []]) (ag.dR _ _ _) ⟨je.tok rfl,trivial⟩,?_⟩
 simp only[am];have h1:((D.set o [.sl (.tk Z) 2 []]).aR Z 0).box r=U rd.enc:=by
  show(D.set o _).box r=_;rw[ag.dW _ _ (fm jg)];exact h
 have aQ:∀q,((D.set o [V.sl (.tk Z) 2 []]).aR Z 0).box q=ae->q≠o/\q≠r/\D.box q=none:=λq hq=>by
  have dx:q≠o:=by rintro rfl;rw[show((D.set q [V.sl (.tk Z) 2 []]).aR Z 0).box q=_ from ag.dR _ _ _] at hq;simp at hq
  have mU : D.box q=none:=by rw[<-ag.dW D [V.sl (.tk Z) 2 []] dx];exact hq
  exact⟨dx,by rintro rfl;rw[h] at mU;simp at mU,mU⟩
 generalize ey:ab.inside fW empty (rd.take 123).1=ins;have Dm:ins.1.l=(rd.take 123).1.ah:=by rw[<-ey];exact S6 arV _ _
 refine(Oh (kind:=123) (by simp[am]) h1 hlen (by omega) ins.1 ((D.set o [.sl (.tk Z) 2 (ins.2.map au.enc)]).aR Z (ins.2.map au.enc).length) ?_ ?_ ?_ Dm).mono ?_
 .intro b9 hc q hq;obtain⟨dx,ke,_⟩:=aQ q hq;have e1:(((D.set o [V.sl (.tk Z) 2 []]).aR Z 0).set r (rd.take 123).2.enc).set q (rd.take 123).1.inner.enc=fv (D.set r (rd.take 123).2.enc) q o Z 2 (rd.take 123).1.inner []:=by
   unfold fv;rw[ag.set_comm (b:=q) dx,ag.set_comm (b:=r) (fm jg)];rfl
  have e2:(((D.set o [V.sl (.tk Z) 2 (ins.2.map au.enc)]).aR Z (ins.2.map au.enc).length).set r (rd.take 123).2.enc).set q ins.1.enc=fv (D.set r (rd.take 123).2.enc) q o Z 2 ins.1 (ins.2.map au.enc):=by
   unfold fv;rw[ag.set_comm (b:=q) dx,ag.set_comm (b:=r) (fm jg)];rfl
  have e3:ins=dJ fW (rd.take 123).1.inner:=by
   rw[<-ey,ab.inside,aB];rintro⟨q1,q2⟩
   rcases hc with hc | hc
   .rw[q1] at hc;simp at hc
   .exact hc q2
  rw[e1,e2,e3];exact asj dx rfl rfl rN
 .intro q1 q2
  have:ins=((rd.take 123).1.inner,[]):=by rw[<-ey,ab.inside,aD ⟨q1,q2⟩]
  rw[this];exact⟨rfl,rfl⟩
 .intro q hq;obtain⟨dx,_,mU⟩:=aQ q hq;show(D.set o _).box q=ae;rw[ag.dW _ _ dx];exact mU
 rintro v σ' hv;have xF:∀(A B:List V) (n:Nat),(D.set r A).sub (((D.set o B).aR Z n).set r A):=λA B n=>by
  refine⟨λb cs hb=>?_,λυ m hm=>?_,λ_ _ h=>h⟩
  .have Df:b≠o:=by rintro rfl;rw[ag.dW _ _ jg,ho] at hb;simp at hb
   by_cases uD:b=r
   .subst uD;rw[ag.dR] at hb ⊢;exact hb
   .rw[ag.dW _ _ uD] at hb ⊢;show(D.set o B).box b=_;rw[ag.dW _ _ Df];exact hb
  .have sT : D.aJ υ=U m:=hm;have zD : υ≠Z:=by rintro rfl;rw[show(D.set o [V.sl .aW 2 []]).aJ υ=D.aJ υ from rfl] at bp;rw[bp] at sT;simp at sT
   show((D.set o B).aR Z n).aJ υ=U m;rw[o6 zD];exact sT
 split at hv
 .rename_i b9;obtain⟨rfl,rfl⟩:=hv;have hb:(((D.set o [V.sl (.tk Z) 2 (ins.2.map au.enc)]).aR Z (ins.2.map au.enc).length).set r ((rd.take 123).2.under ins.1).enc).box o=U [V.sl (.tk Z) 2 (ins.2.map au.enc)]:=by
   rw[ag.dW _ _ jg];exact ag.dR _ _ _
  simp only[am,hb];refine aN rfl (xF _ _ _) ⟨?_,?_⟩
  .simp[ab.words,ab.bracket,b9,ey,V.erase,bw]
  .simp[ab.words,ab.bracket,b9,ey]
 .rename_i b9;obtain⟨rfl,rfl⟩:=hv;have hb:(((D.set o [V.sl (.tk Z) 2 []]).aR Z 0).set r (rd.take 123).2.enc).box o=U [V.sl (.tk Z) 2 []]:=by
   rw[ag.dW _ _ jg];exact ag.dR _ _ _
  simp only[am,hb];refine aN rfl (xF _ _ _) ⟨?_,?_⟩
  .simp[ab.words,ab.bracket,b9,V.erase,bw]
  .simp[ab.words,ab.bracket,b9]
def af6:aT prog 288 (sq [rg 0 [od (U 3) (.fZ 1 (.s 0))],rg 4 [no,oq (.jx (.func 289) [] [(.s 1),(.s 2),(.s 3)]),oC 256 [4,5]]]) [] 7:=aX func288 ⟨[3],[]⟩
def af7:aT prog 289 (dH 3 ⟨5,(.s 3),(.s 8),(.s 7),(.s 6),(.s 0),ae,9,10,20⟩ [mM [1],oo 0,oo 1,oo 2,oq (.ij (.s 4) [(.s 5)]),oL 3,oq (.j9 5 [(.c (.agg [(.int .i64 0),(.int .i64 0),(.aF []),(.sl .aW 2 []),(.sl .aW 5 [])]))]),oq (.mv (.c .any)),oq (.mv (.c .any)),oN,oN]) [] 11:=aX func289
def Nd.wd{n:Nd}:(V.agg n.enc).wd=U 5:=by rw[Nd.dd];rfl
def Nd.one{n:Nd}:cB n.enc=true:=by rw[Nd.dd];rfl
def Nd.cG{n:Nd}:bH n.enc=true:=by rw[Nd.dd];rfl
def Nd.er{n:Nd}:bw n.enc=n.enc:=by rw[Nd.dd];rfl
def ajC{f:Nat}{rows:List (List V)}{n:Nd}(ho:D.box o=U [.sl (.tk Z) 5 rows])(hf:D.box f=U [.fn (.func g) [] []])(hp:D.box p=U [.ptr (.out q) 0])
 (K1:o≠q) (ht:D.aJ Z=U rows.length) (hb:rows.length+1<=aM) (fG:dn g [.ptr (.out q) 0] D (.agg n.enc) (D.set q j4.enc)) :
 dn 289 [.ptr (.out o) 0,.ptr (.out f) 0,.ptr (.out p) 0] D (.bq []) (((D.set q j4.enc).set o [.sl (.tk Z) 5 (rows++[n.enc])]).aR Z (rows.length+1)):=by
 refine af7.aV ?_;simp only[aU,a8,am,ho,hp,hf];refine bJ.intro fG ?_;have h1:(D.set q j4.enc).box o=U [.sl (.tk Z) 5 rows]:=by rw[ag.dW _ _ K1];exact ho
 simp only[am,h1];refine Sv (Z:=Z) (m:=rows) (cs:=n.enc) (p:=.ptr (.out o) 0) rfl rfl rfl hb ht ⟨Nd.wd,Nd.one,Nd.cG⟩ Nd.er (by simp) rfl (by simp only[am,h1];rfl) ?_;simp only[am];exact aN rfl (ag.bd _) ⟨rfl,rfl⟩
def HE{one:ab->G × ab}(ho:Reads one){a:ab × List G}(h:pd l a)(hb:a.1.aE=ae):pd l (b_ one a)/\a.1.at_<=(b_ one a).1.at_:=by
 obtain⟨h1,h2,h3,h4⟩:=h;have h4:=h4 hb;obtain⟨k1,k2,k3⟩:=ho.go a.1 h2 (by rw[h1];exact h3);refine⟨⟨by simp only[b_,ho.l];exact h1,by simp only[b_];omega,by simp only[b_];rw[h1] at k2;exact k2,λhq=>?_⟩,k1⟩
 have:=k3 hq
 simp only[b_,bI,db,ei];omega
def DM(one:ab->Nd × ab)(D:ag)(q o Z:Nat):Sys (ab × List Nd):=⟨λa=>fv D q o Z 5 a.1 (a.2.map Nd.enc),λa=>a.1,λa r=>(r,a.2),b_ one⟩
def ajD{f:Nat}{one:ab->Nd × ab}(hr:Reads one)(dx:q≠o)(hfq:f≠q)(uG:f≠o)(hf:D.box f=U [.fn (.func g) [] []])(fp:rd.at_=0)(fF:rd.aE=ae)(hlen:rd.l.length+1<=aM)
 (fG:∀(r:ab) (D:ag),r.l=rd.l->0<=r.at_->r.at_<=rd.l.length->D.box q=U r.enc->dn g [.ptr (.out q) 0] D (.agg (one r).1.enc) (D.set q (one r).2.enc)) :
 dn 288 [.ptr (.out q) 0,.ptr (.out o) 0,.ptr (.out f) 0] (fv D q o Z 5 rd []) (.bq []) (fv D q o Z 5 (dJ (b_ one) rd).1 ((dJ (b_ one) rd).2.map Nd.enc)):=by
 refine af6.aV ?_;simp only[aU,a8,am];refine jU λp hp=>?_
 have lC:p≠q:=by rintro rfl;rw[Bi dx] at hp;simp at hp
 have lB:p≠o:=by rintro rfl;rw[F_] at hp;simp at hp
 have Sy:f≠p:=by rintro rfl;rw[uA lC lB,hf] at hp;simp at hp
 rw[F' lC lB];simp only[am,uA lC lB];have rV:∀a:ab × List Nd,pd rd.l a->a.1.aE=ae->cm prog 289 [.ptr (.out o) 0,.ptr (.out f) 0,.ptr (.out p) 0] (fv (D.set p [.ptr (.out q) 0]) q o Z 5 a.1 (a.2.map Nd.enc)) λv σ' =>
  v = .bq []/\σ' = fv (D.set p [.ptr (.out q) 0]) q o Z 5 (b_ one a).1 ((b_ one a).2.map Nd.enc):=λa kN hb=>by
  have hl:=kN.2.2.2 hb;have kK:=kN.2.2.1;refine(ajC F_ (by rw[uA hfq uG,ag.dW _ _ Sy];exact hf) (by rw[uA lC lB,ag.dR]) (fm dx) Rv (by rw[aO];omega) (fG a.1 _ kN.1 kN.2.1 kK (Bi dx))).mono ?_;rintro v σ' ⟨rfl,rfl⟩;refine⟨rfl,?_⟩;rw[Ru dx];simp[b_]
 have h0:pd rd.l (rd,([]:List Nd)):=⟨rfl,by simp[fp],by simp[fp],λ_=>by simp[fp]⟩;obtain⟨p1,_⟩:=HE hr h0 fF;refine(NQ (DM one (D.set p [.ptr (.out q) 0]) q o Z) (pd rd.l) (a:=(rd,[])) (n:=rd.l.length) (by simp[am]) (λa h=>Bi dx) (λa h=>?_) (λa h hs=>JV dx) (λa h hs=>?_) (rV _ h0 fF) p1 ?_).mono ?_
 .show a.1.l.length<=aM;rw[h.1];omega
 .obtain⟨k1,k2,k3⟩:=ML h hs;obtain⟨k4,k5⟩:=HE hr k1 k2;refine⟨rV _ k1 k2,k4,?_,?_⟩
  .exact k4.1.trans h.1.symm
  .show a.1.at_+1<=_;simp only at k5;rw[k3] at k5;exact k5
 .show(b_ one (rd,[])).1.l.length<=rd.l.length;rw[p1.1];omega
 rintro v σ' ⟨rfl,rfl⟩;simp only[am];refine aN rfl (σ' := fv D q o Z 5 (dJ (b_ one) rd).1 ((dJ (b_ one) rd).2.map Nd.enc)) ?_ ⟨rfl,rfl⟩;have e:(DM one (D.set p [.ptr (.out q) 0]) q o Z).F ((DM one (D.set p [.ptr (.out q) 0]) q o Z).go rd.l.length ((DM one (D.set p [.ptr (.out q) 0]) q o Z).step (rd,[])))=fv (D.set p [.ptr (.out q) 0]) q o Z 5 (dJ (b_ one) rd).1 ((dJ (b_ one) rd).2.map Nd.enc):=by
  unfold DM;rw[Gb];rfl
 rw[e,<-F' lC lB];exact h_ (by rw[uA lC lB];rw[uA lC lB] at hp;exact hp)
def afI:aT prog 261 (sq [rg 8 [od (U 7) (.fZ 1 (.s 3)),oz 10,oi 0],rg 0 [od (U 10) (.pe [(.sl .aW 5 [])])],.o7 (rg 12 [om 0,om 1,om 2,oq (.jx (.func 288) [] [(.s 10),(.s 7)]),oC 254 [12,13,14,15],o1 11]),rg 17 [oo 10,om 11,ot 8 17,o1 9],.ret]) [.tmp 8,.tmp 9] 19:=aX func261 ⟨[7,10],[2]⟩
def ag.aqQ{a b c:ag}(h:a.sub b)(k:b.sub c):a.sub c:=⟨λx cs hx=>k.1 x cs (h.1 x cs hx),λx n hx=>k.2.1 x n (h.2.1 x n hx),λx n hx=>k.2.2 x n (h.2.2 x n hx)⟩
def aqN{a b:ag}{A:List V}(h:a.sub b):(a.set r A).sub (b.set r A):=by
 refine⟨λx cs hx=>?_,h.2⟩
 by_cases hr:x=r
 .subst hr;rw[ag.dR] at hx ⊢;exact hx
 .rw[ag.dW _ _ hr] at hx ⊢;exact h.1 x cs hx
def Mv{one:ab->G × ab}(h:Reads one)(l:List ar)(a:ab × List G)(ha:a.1.l=l):(b_ one a).1.l=l:=by simp[b_,h.l,ha]
def G7{kind:Int}{one:ab->Nd × ab}(fG:Reads one)(h:D.box r=U rd.enc)(hlen:rd.l.length<=aM)(rN:(rd.take kind).1.ah.length+1<=aM)
 (ah0:∀(q:Nat) (i:ab) (D:ag),i.l=(rd.take kind).1.ah->0<=i.at_->i.at_<=i.l.length->D.box q=U i.enc->dn g [.ptr (.out q) 0] D (.agg (one i).1.enc) (D.set q (one i).2.enc)) :
 dn 261 [.ptr (.out r) 0,.int .u8 kind,.bool empty,.fn (.func g) [] []] D (.bq [.sl .no 5 ((rd.nodes one kind empty).1.1.map Nd.enc),.int .i64 (rd.nodes one kind empty).1.2]) (D.set r (rd.nodes one kind empty).2.enc):=by
 refine afI.aV ?_;simp only[aU,a8,am];refine jU λf hf=>?_
 have ba:f≠r:=by rintro rfl;rw[h] at hf;simp at hf
 simp only[am];refine jU λo ho=>?_
 have uG:f≠o:=by rintro rfl;rw[ag.dR] at ho;simp at ho
 have jg:o≠r:=by rintro rfl;rw[ag.dW _ _ (fm ba),h] at ho;simp at ho
 generalize uQ:D.set f [.fn (.func g) [] []]=i_ at ho ⊢;have Sj:i_.box f=U [.fn (.func g) [] []]:=by rw[<-uQ];exact ag.dR _ _ _
 have aif:D.sub i_:=by rw[<-uQ];exact h_ hf
 have h:i_.box r=U rd.enc:=by rw[<-uQ,ag.dW _ _ (fm ba)];exact h
 simp only[am];refine bm.tok 0 λZ bp=>⟨_,_,_,dY.rfl,rfl,λi c hc=>⟨c,hc,dY.rfl⟩,pZ.set (cs:=[.sl .aW 5 []]) (cs' := [.sl (.tk Z) 5 []]) (ag.dR _ _ _) ⟨je.tok rfl,trivial⟩,?_⟩
 simp only[am];have h1:((i_.set o [.sl (.tk Z) 5 []]).aR Z 0).box r=U rd.enc:=by
  show(i_.set o _).box r=_;rw[ag.dW _ _ (fm jg)];exact h
 have aQ:∀q,((i_.set o [V.sl (.tk Z) 5 []]).aR Z 0).box q=ae->q≠o/\q≠r/\i_.box q=none:=λq hq=>by
  have dx:q≠o:=by rintro rfl;rw[show((i_.set q [V.sl (.tk Z) 5 []]).aR Z 0).box q=_ from ag.dR _ _ _] at hq;simp at hq
  have mU : i_.box q=none:=by rw[<-ag.dW i_ [V.sl (.tk Z) 5 []] dx];exact hq
  exact⟨dx,by rintro rfl;rw[h] at mU;simp at mU,mU⟩
 generalize ey:ab.inside (b_ one) empty (rd.take kind).1=ins;have Dm:ins.1.l=(rd.take kind).1.ah:=by rw[<-ey];exact S6 (Mv fG) _ _
 refine(Oh (kind:=kind) (by simp[am]) h1 hlen (by omega) ins.1 ((i_.set o [.sl (.tk Z) 5 (ins.2.map Nd.enc)]).aR Z (ins.2.map Nd.enc).length) ?_ ?_ ?_ Dm).mono ?_
 .intro b9 hc q hq;obtain⟨dx,ke,_⟩:=aQ q hq;have e1:(((i_.set o [V.sl (.tk Z) 5 []]).aR Z 0).set r (rd.take kind).2.enc).set q (rd.take kind).1.inner.enc=fv (i_.set r (rd.take kind).2.enc) q o Z 5 (rd.take kind).1.inner []:=by
   unfold fv;rw[ag.set_comm (b:=q) dx,ag.set_comm (b:=r) (fm jg)];rfl
  have e2:(((i_.set o [V.sl (.tk Z) 5 (ins.2.map Nd.enc)]).aR Z (ins.2.map Nd.enc).length).set r (rd.take kind).2.enc).set q ins.1.enc=fv (i_.set r (rd.take kind).2.enc) q o Z 5 ins.1 (ins.2.map Nd.enc):=by
   unfold fv;rw[ag.set_comm (b:=q) dx,ag.set_comm (b:=r) (fm jg)];rfl
  have e3:ins=dJ (b_ one) (rd.take kind).1.inner:=by
   rw[<-ey,ab.inside,aB];rintro⟨q1,q2⟩
   rcases hc with hc | hc
   .rw[q1] at hc;simp at hc
   .exact hc q2
  rw[e1,e2,e3];refine ajD fG dx ?_ uG (by rw[ag.dW _ _ ba];exact Sj) rfl rfl rN (λi σ' h1 h2 h3 h4=>ah0 q i σ' h1 h2 (by rw[h1];exact h3) h4);rintro rfl;rw[show((i_.set o [V.sl (.tk Z) 5 []]).aR Z 0).box f=(i_.set o [V.sl (.tk Z) 5 []]).box f from rfl,ag.dW _ _ uG,Sj] at hq;simp at hq
 .intro q1 q2
  have:ins=((rd.take kind).1.inner,[]):=by rw[<-ey,ab.inside,aD ⟨q1,q2⟩]
  rw[this];exact⟨rfl,rfl⟩
 .intro q hq;obtain⟨dx,_,mU⟩:=aQ q hq;show(i_.set o _).box q=ae;rw[ag.dW _ _ dx];exact mU
 rintro v σ' hv;have xF:∀(A B:List V) (n:Nat),(D.set r A).sub (((i_.set o B).aR Z n).set r A):=λA B n=>by
  refine ag.aqQ (aqN aif) ?_;refine⟨λb cs hb=>?_,λυ m hm=>?_,λ_ _ h=>h⟩
  .have Df:b≠o:=by rintro rfl;rw[ag.dW _ _ jg,ho] at hb;simp at hb
   by_cases uD:b=r
   .subst uD;rw[ag.dR] at hb ⊢;exact hb
   .rw[ag.dW _ _ uD] at hb ⊢;show(i_.set o B).box b=_;rw[ag.dW _ _ Df];exact hb
  .have sT : i_.aJ υ=U m:=hm;have zD : υ≠Z:=by rintro rfl;rw[show(i_.set o [V.sl .aW 5 []]).aJ υ=i_.aJ υ from rfl] at bp;rw[bp] at sT;simp at sT
   show((i_.set o B).aR Z n).aJ υ=U m;rw[o6 zD];exact sT
 split at hv
 .rename_i b9;obtain⟨rfl,rfl⟩:=hv;have hb:(((i_.set o [V.sl (.tk Z) 5 (ins.2.map Nd.enc)]).aR Z (ins.2.map Nd.enc).length).set r ((rd.take kind).2.under ins.1).enc).box o=U [V.sl (.tk Z) 5 (ins.2.map Nd.enc)]:=by
   rw[ag.dW _ _ jg];exact ag.dR _ _ _
  simp only[am,hb];refine aN rfl (xF _ _ _) ⟨?_,?_⟩
  .simp[ab.nodes,ab.bracket,b9,ey,V.erase,bw]
  .simp[ab.nodes,ab.bracket,b9,ey]
 .rename_i b9;obtain⟨rfl,rfl⟩:=hv;have hb:(((i_.set o [V.sl (.tk Z) 5 []]).aR Z 0).set r (rd.take kind).2.enc).box o=U [V.sl (.tk Z) 5 []]:=by
   rw[ag.dW _ _ jg];exact ag.dR _ _ _
  simp only[am,hb];refine aN rfl (xF _ _ _) ⟨?_,?_⟩
  .simp[ab.nodes,ab.bracket,b9,V.erase,bw]
  .simp[ab.nodes,ab.bracket,b9]
def agm:aT prog 304 (sq [rg 0 [oZ 2 [0,0,1,7,10]],rg 6 [om 0,oC 258 [6],oZ 3 [1,0],o2 2 3],rg 8 [om 0,oc 260 [.s 8,.c (.int .u8 58)]],rg 11 [om 0,oc 213 [.s 11,.c (.bool aa)],o1 10,oe 10 0,oe 10 1,ot 4 13,o1 5],rg 15 [fo 1 3,fo 0 3,om 4,oG [0,0,1,7,10] [(0,1,.c (.int .i64 6)),(1,1,.s 16),(2,1,.s 18),(3,1,.s 19)],o2 5 2],.ret]) [.cell 2 aa 5] 21:=aX func304
def aps(h:D.box r=U rd.enc)(hlen:rd.l.length<=aM)(hk:∀(x:ab) (k:Int),x.l=rd.l->(x.take k).1.ah.length+1<=aM):
 dn 304 [.ptr (.out r) 0] D (.agg rd.ng.1.enc) (D.set r rd.ng.2.enc):=by
 refine agm.aV ?_;simp only[aU,a8,am];refine(yH h hlen).mono ?_;rintro v σ' ⟨rfl,rfl⟩;simp only[am,au.enc];refine(wL (ag.dR _ _ _) (by simp[ab.word,ab.ft,hlen])).mono ?_;rintro v σ' ⟨rfl,rfl⟩;simp only[am];refine(Oo (ag.dR _ _ _) (by simp[ab.word,ab.ft,hlen]) (hk _ _ (by simp[ab.word,ab.ft]))).mono ?_;rintro v σ' ⟨rfl,rfl⟩;simp only[am,Nat.reduceAdd];refine aN rfl (ag.bd _) ⟨?_,rfl⟩;simp[ab.ng,V.erase,bw,Nd.enc,re]
def Rf:aT prog 290 (sq [rg 0 [oZ 2 [0,0,1,7,10]],rg 5 [oW [0,0,1,7,10] [],oZ 3 [0,0,1,7,10],o2 5 3],.block 0 (sq [rg 14 [om 0,oc 259 [.s 14,.c (.int .u8 123)],o1 13],cd 13 (sq [rg 16 [of 0 3,od ae (.store 1 (.s 16) (.c (.int .i64 3)))],rg 18 [om 0,oc 213 [.s 18,.c (.bool aa)],o1 17,oe 17 0,oe 17 1,of 3 3,os 1 22 20,of 1 3,os 1 23 21]]) (sq [rg 25 [om 0,oc 259 [.s 25,.c (.int .u8 40)],o1 24],cd 24 (sq [rg 27 [of 0 3,od ae (.store 1 (.s 27) (.c (.int .i64 4)))],rg 29 [om 0,oc 261 [.s 29,.c (.int .u8 40),.c (.bool ak),.c (.fn (.func 290) [] [])],o1 28,oe 28 0,oe 28 1,of 4 3,os 1 33 31,of 1 3,os 1 34 32]]) (sq [rg 36 [om 0,oc 259 [.s 36,.c (.int .u8 91)],o1 35],cd 35 (sq [rg 38 [of 0 3,od ae (.store 1 (.s 38) (.c (.int .i64 5)))],rg 40 [om 0,oc 261 [.s 40,.c (.int .u8 91),.c (.bool aa),.c (.fn (.func 304) [] [])],o1 39,oe 39 0,oe 39 1,of 4 3,os 1 44 42,of 1 3,os 1 45 43]]) (sq [rg 6 [om 0,oC 258 [6],oZ 4 [1,0],o2 2 4],rg 8 [fo 1 4,fo 0 4,oG [0,0,1,7,10] [(0,1,.c (.int .i64 2)),(1,1,.s 9),(2,1,.s 11)],o2 5 3]])])])]),rg 46 [ol 5 3,o2 5 2],.ret]) [.cell 2 aa 5] 47:=aX func290
def El{r:ab}{k:Int}(h:a9 r.l=0):r.bR k=false:=by
 have:r.l=[]:=su (by have:=lI r.l;omega)
 simp[ab.bR,bx,this]
def zS{x:ab}{k:Int}(hm:a9 l+1<=aM)(h:x.l=l):(x.take k).1.ah.length+1<=aM:=by
 have h1:=(x.vg k).1;have h2:=lI (x.take k).1.ah;rw[h] at h1;omega
def aaX:∀(n:Nat) {r:Nat} {rd:ab} {D:ag} (_:D.box r=U rd.enc) (_:a9 rd.l<=n) (_:a9 rd.l+1<=aM),
 dn 290 [.ptr (.out r) 0] D (.agg (ab.constant n rd).1.enc) (D.set r (ab.constant n rd).2.enc):=by
 intro n;induction n with
 | zero =>
  intro r rd D h hn hm;have hlen:=lI rd.l;refine Rf.aV ?_;simp only[aU,a8,am];refine(qp h).mono ?_;rintro v σ' ⟨rfl,rfl⟩;simp only[am,El (E6.1 hn)];refine(qp h).mono ?_;rintro v σ' ⟨rfl,rfl⟩;simp only[am,El (E6.1 hn)];refine(qp h).mono ?_;rintro v σ' ⟨rfl,rfl⟩;simp only[am,El (E6.1 hn)];refine(yH h (by omega)).mono ?_;rintro v σ' ⟨rfl,rfl⟩;simp only[am,au.enc,Nat.reduceAdd];refine aN rfl (ag.bd _) ⟨?_,rfl⟩;simp[ab.constant,ab.leaf,V.erase,bw,Nd.enc,re]
 | succ n ih =>
  intro r rd D h hn hm;have hlen:=lI rd.l;refine Rf.aV ?_;simp only[aU,a8,am];refine(qp h).mono ?_;rintro v σ' ⟨rfl,rfl⟩;cases h1:rd.bR 123
  case' true =>
   simp only[am,Nat.reduceAdd];refine(Oo h (by omega) (zS hm rfl)).mono ?_;rintro v σ' ⟨rfl,rfl⟩;simp only[am,Nat.reduceAdd];refine aN rfl (ag.bd _) ⟨?_,by simp[ab.constant,h1]⟩;simp[ab.constant,h1,V.erase,bw,Nd.enc,re]
  case' false =>
   simp only[am];refine(qp h).mono ?_;rintro v σ' ⟨rfl,rfl⟩;cases h2:rd.bR 40
  case' false.true =>
   have hk:a9 (rd.take 40).1.ah+1<=a9 rd.l:=(rd.vg 40).2 (by
    rcases rd.tJ 40 with ⟨_,_,e,_,_⟩ | ⟨e,_,_⟩
    .exact e
    .rw[h2] at e;simp at e)
   simp only[am,Nat.reduceAdd];refine(G7 (B0 (RE n)) h (by omega) (zS hm rfl) (λq i σ' e1 _ _ e4=>ih e4 (by rw[e1];omega) (by rw[e1];omega))).mono ?_;rintro v σ' ⟨rfl,rfl⟩;simp only[am,Nat.reduceAdd];refine aN rfl (ag.bd _) ⟨?_,by simp[ab.constant,h1,h2]⟩;simp[ab.constant,h1,h2,V.erase,bw,Nd.enc,Ac]
  case' false.false =>
   simp only[am];refine(qp h).mono ?_;rintro v σ' ⟨rfl,rfl⟩;cases h3:rd.bR 91
  case' false.false.true =>
   simp only[am,Nat.reduceAdd];refine(G7 (B0 ahD) h (by omega) (zS hm rfl) (λq i σ' e1 _ _ e4=>aps e4 (by have g1:=lI i.l;have g2:=(rd.vg 91).1;rw[<-e1] at g2;omega) (λx k ex=>zS (by have g2:=(rd.vg 91).1;rw[<-e1] at g2;omega) ex))).mono ?_;rintro v σ' ⟨rfl,rfl⟩;simp only[am,Nat.reduceAdd];refine aN rfl (ag.bd _) ⟨?_,by simp[ab.constant,h1,h2,h3]⟩;simp[ab.constant,h1,h2,h3,V.erase,bw,Nd.enc,Ac]
  case' false.false.false =>
   simp only[am];refine(yH h (by omega)).mono ?_;rintro v σ' ⟨rfl,rfl⟩;simp only[am,au.enc,Nat.reduceAdd];refine aN rfl (ag.bd _) ⟨?_,by simp[ab.constant,ab.leaf,h1,h2,h3]⟩;simp[ab.constant,ab.leaf,h1,h2,h3,V.erase,bw,Nd.enc,re]
def afJ:aT prog 262 (sq [rg 0 [oZ 2 [0,0,1,7,10]],sq [rg 5 [om 0,oc 259 [.s 5,.c (.int .u8 35)]],ci 6 (sq [rg 7 [om 0,oc 260 [.s 7,.c (.int .u8 35)],oZ 3 [3,1,0,10,0],o2 5 3],dg 9 [of 0 3,nf 2,mM [1],no,om 0,oC 290 [12],n1 5,oG [0,0,1,7,10] [(0,1,.c (.int .i64 7)),(1,1,.s 11),(4,1,.s 14)],o2 5 2],.ret])],rg 16 [om 0,oC 258 [16],oZ 4 [1,0],o2 2 4],rg 18 [fo 1 4,fo 0 4,oG [0,0,1,7,10] [(0,1,.c (.int .i64 1)),(1,1,.s 19),(2,1,.s 21)],o2 5 2],.ret]) [.cell 2 aa 5] 23:=aX func262
def afM:aT prog 265 (sq [rg 0 [oZ 2 [0,0,1,7,10]],rg 4 [om 0,oC 258 [4],oZ 3 [1,0],o2 2 3],rg 6 [om 0,oc 260 [.s 6,.c (.int .u8 61)]],dg 8 [of 1 3,mM [1],no,of 0 3,mM [1],no,om 0,oC 262 [12],n1 5,oG [0,0,1,7,10] [(0,1,.c (.int .i64 11)),(1,1,.s 9),(2,1,.s 11),(4,1,.s 14)],o2 5 2],.ret]) [.cell 2 aa 5] 16:=aX func265
def Nd.len{n:Nd}:n.enc.length=5:=by rw[Nd.dd];rfl
def PB{n:Nat}(h:D.box r=U rd.enc)(hn:a9 rd.l<=n)(hm:a9 rd.l+1<=aM):
 dn 262 [.ptr (.out r) 0] D (.agg (rd.atom n).1.enc) (D.set r (rd.atom n).2.enc):=by
 have hlen:=lI rd.l;refine afJ.aV ?_;simp only[aU,a8,am];refine(qp h).mono ?_;rintro v σ' ⟨rfl,rfl⟩;cases h1:rd.bR 35
 case' true =>
  simp only[am];refine(wL h (by omega)).mono ?_;rintro v σ' ⟨rfl,rfl⟩;simp only[am,dd,Nat.reduceAdd];refine bJ.intro (aaX n (ag.dR _ _ _) (by rw[ab.ft];exact hn) (by rw[ab.ft];exact hm)) ?_;simp only[am,Nd.len,Nd.one,Nd.cG,Nd.er,Nat.reduceAdd];refine aN rfl (ag.bd _) ⟨?_,by simp[ab.atom,h1]⟩;simp[ab.atom,h1,V.erase,bw,Nd.enc,re]
 case' false =>
  simp only[am];refine(yH h (by omega)).mono ?_;rintro v σ' ⟨rfl,rfl⟩;simp only[am,au.enc,Nat.reduceAdd];refine aN rfl (ag.bd _) ⟨?_,by simp[ab.atom,ab.leaf,h1]⟩;simp[ab.atom,ab.leaf,h1,V.erase,bw,Nd.enc,re]
def adH{n:Nat}(h:D.box r=U rd.enc)(hn:a9 rd.l<=n)(hm:a9 rd.l+1<=aM):
 dn 265 [.ptr (.out r) 0] D (.agg (rd.field n).1.enc) (D.set r (rd.field n).2.enc):=by
 have hlen:=lI rd.l;refine afM.aV ?_;simp only[aU,a8,am];refine(yH h (by omega)).mono ?_;rintro v σ' ⟨rfl,rfl⟩;simp only[am,au.enc,Nat.reduceAdd];have e1:rd.word.2.l=rd.l:=by simp[ab.word,ab.ft]
 refine(wL (ag.dR _ _ _) (by rw[e1];omega)).mono ?_;rintro v σ' ⟨rfl,rfl⟩;simp only[am];refine bJ.intro (PB (n:=n) (ag.dR _ _ _) (by rw[ab.ft,e1];exact hn) (by rw[ab.ft,e1];exact hm)) ?_;simp only[am,Nd.len,Nd.one,Nd.cG,Nd.er,Nat.reduceAdd];refine aN rfl (ag.bd _) ⟨?_,by simp[ab.field]⟩;simp[ab.field,V.erase,bw,Nd.enc,re]
def ae':aT prog 216 (sq [rg 0 [oZ 2 [0,0,1,7,10]],sq [rg 9 [oq (.j9 1 [(.c (.int .u8 43)),(.c (.int .u8 38))]),nL,oi 0],lp 10 0 (sq [rg 13 [oA 1 9 11,no,o1 4],sq [rg 15 [om 0,om 4,oC 259 [15,16],nn],ci 18 (.exit 1)],rg 19 [om 0,om 4,oC 260 [19,20],oZ 5 [3,1,0,10,0],o2 5 5],rg 6 [oi 8],sq [rg 22 [om 4,nu .eql 38],ci 23 (rg 6 [oi 9])],rg 25 [om 0,oc 261 [.s 25,.c (.int .u8 40),.c (.bool ak),.c (.fn (.func 216) [] [])],o1 24,oe 24 0,oe 24 1,ot 7 27,o1 8],rg 29 [om 6,of 0 5,nF 2,om 7,oW [0,0,1,7,10] [(0,1,29),(1,1,32),(4,1,33)],o2 5 2],.ret]) 35],rg 36 [om 0,oC 262 [36],o2 5 2],.ret]) [.cell 2 aa 5] 38:=aX func216
def G3(r:Nat)(rd:ab)(D:ag)(i:{i:Nat // i<=2/\(1<=i->rd.bR 43=ak)/\(2<=i->rd.bR 38=ak)}):St :=
 ⟨[.ptr (.out r) 0,.any,.ptr (.aC 0) 0,.any,.any,.any,.any,.any,.any,.sl .aW 1 [[.int .u8 43],[.int .u8 38]],.int .i64 2,.int .i64 (i.1:Nat)]++aA 26 .any,
  [[.int .i64 0,.int .i64 0,.aF [],.sl .aW 2 [],.sl .aW 5 []]],D⟩
def Nd.Eb{n:Nd}{a b c d e:V}:over [a,b,c,d,e] n.enc=n.enc:=by rw[Nd.dd];rfl
def Nd.tk{n:Nd}:takeN 5 n.enc=U n.enc:=by rw[Nd.dd];rfl
def aqX(r:ab)(k:Int):a9 (r.take k).1.ah+1<=a9 r.l\/a9 (r.take k).1.ah=0:=by
 rcases r.tJ k with ⟨_,_,e,_,_⟩ | ⟨e,_,_⟩
 .exact .inl ((r.vg k).2 e)
 .right;simp[ab.take,e,ar.zero,ar.ah,a9]
def ajK{n:Nat}(h1:rd.bR 43=ak)(h2:rd.bR 38=ak)(hn:a9 rd.l<=n):ab.label n rd=rd.atom n:=by
 cases n with
 | zero=>simp[ab.label,ab.atom,El (E6.1 hn)]
 | succ n=>simp[ab.label,h1,h2]
def Th{n:Nat}(ih:∀m,n=m+1->∀{r:Nat} {rd:ab} {D:ag} (_:D.box r=U rd.enc) (_:a9 rd.l<=m) (_:a9 rd.l+1<=aM),
 dn 216 [.ptr (.out r) 0] D (.agg (ab.label m rd).1.enc) (D.set r (ab.label m rd).2.enc)) {r:Nat} {rd:ab} {D:ag} (h:D.box r=U rd.enc) (hn:a9 rd.l<=n) (hm:a9 rd.l+1<=aM) :
 dn 216 [.ptr (.out r) 0] D (.agg (ab.label n rd).1.enc) (D.set r (ab.label n rd).2.enc):=by
 have hlen:=lI rd.l;have iJ:∀k,rd.bR k=aa->∃m,n=m+1:=λk hk=>by
  cases n with
  | zero=>rw[El (E6.1 hn)] at hk;simp at hk
  | succ m=>exact⟨m,rfl⟩
 have ah:∀(m:Nat) (k:Int),n=m+1->∀(q:Nat) (i:ab) (D:ag),i.l=((rd.take k).2.take 40).1.ah->0<=i.at_->i.at_<=i.l.length->D.box q=U i.enc->dn 216 [.ptr (.out q) 0] D (.agg (ab.label m i).1.enc) (D.set q (ab.label m i).2.enc):=λm k e q i D e1 _ _ e4=>by
  have g1:=((rd.take k).2.vg 40).1;have g2:=aqX (rd.take k).2 40;rw[ab.ft,<-e1] at g1 g2;exact ih m e e4 (by omega) (by omega)
 refine ae'.aV ?_;simp only[aU,a8,am];refine iE (λi=>G3 r rd D i) (λi=>2 - i.1) ?_ ?_
 .refine bm.enter ⟨0,by omega,by omega,by omega⟩ ?_ ?_ bN.rfl
  .simp[G3,aA,am]
  .simp[G3,am]
 .rintro⟨i,hi,px,KK⟩;simp only[G3,aA,am];have ah2:i=0\/i=1\/i=2:=by omega
  rcases ah2 with rfl | rfl | rfl
  .simp only[am,show(((0:Nat):Int)<2)=True by simp,bS];refine xW (c:=[.int .u8 43]) rfl ?_;simp only[am];refine(qp h).mono ?_;rintro v σ' ⟨rfl,rfl⟩;cases h1:rd.bR 43
   .simp only[am];rw[wrap_i64];exact bm.again ⟨1,by omega,λ_=>rfl,by omega⟩ (by simp) (by simp[am]) ch.rfl bN.rfl
   .have QO:decide ((43:Int)=38)=false:=by simp
    obtain⟨m,rfl⟩:=iJ _ h1;simp only[am];refine(wL h (by omega)).mono ?_;rintro v σ' ⟨rfl,rfl⟩;simp only[am,dd,Nat.reduceAdd,QO];refine(G7 (B0 (JY m)) (ag.dR _ _ _) (by rw[ab.ft];omega) (zS hm (ab.ft _ _)) (ah m 43 rfl)).mono ?_;rintro v σ' ⟨rfl,rfl⟩;simp only[am,Nat.reduceAdd];refine aN rfl (ag.bd _) ⟨?_,by simp[ab.label,h1]⟩;simp[ab.label,h1,V.erase,bw,Nd.enc,Ac]
  .have nZ:=px (by omega);simp only[am,show(((1:Nat):Int)<2)=True by simp,bS];refine xW (c:=[.int .u8 38]) rfl ?_;simp only[am];refine(qp h).mono ?_;rintro v σ' ⟨rfl,rfl⟩;cases h1:rd.bR 38
   .simp only[am];rw[wrap_i64];exact bm.again ⟨2,by omega,λ_=>nZ,λ_=>rfl⟩ (by simp) (by simp[am]) ch.rfl bN.rfl
   .have QO:decide ((38:Int)=38)=true:=by simp
    obtain⟨m,rfl⟩:=iJ _ h1;simp only[am];refine(wL h (by omega)).mono ?_;rintro v σ' ⟨rfl,rfl⟩;simp only[am,dd,Nat.reduceAdd,bS];refine(G7 (B0 (JY m)) (ag.dR _ _ _) (by rw[ab.ft];omega) (zS hm (ab.ft _ _)) (ah m 38 rfl)).mono ?_;rintro v σ' ⟨rfl,rfl⟩;simp only[am,Nat.reduceAdd];refine aN rfl (ag.bd _) ⟨?_,by simp[ab.label,nZ,h1]⟩;simp[ab.label,nZ,h1,V.erase,bw,Nd.enc,Ac]
  .have nZ:=px (by omega);have DC:=KK (by omega);simp only[am,show(((2:Nat):Int)<2)=False by simp,ff];refine(PB h hn hm).mono ?_;rintro v σ' ⟨rfl,rfl⟩;simp only[am,Nd.len,Nd.one,Nd.Eb,Nd.tk];rw[ajK nZ DC hn];refine aN (by simp only[am,Nd.cG]) (ag.bd _) ⟨?_,rfl⟩;simp only[am,Nd.er]
def ajJ:∀(n:Nat) {r:Nat} {rd:ab} {D:ag} (_:D.box r=U rd.enc) (_:a9 rd.l<=n) (_:a9 rd.l+1<=aM),
 dn 216 [.ptr (.out r) 0] D (.agg (ab.label n rd).1.enc) (D.set r (ab.label n rd).2.enc):=by
 intro n;induction n with
 | zero=>exact λh hn hm=>Th (λm e=>by omega) h hn hm
 | succ n ih=>exact λh hn hm=>Th (λm e=>Nat.succ.inj e▸ih) h hn hm
def afL:aT prog 264 (dH 2 ⟨5,(.s 3),(.s 7),(.s 6),(.s 5),(.s 0),(U 4),8,9,10⟩ [of 4 0,mM [1],no,oo 1,oC 265 [4],oL 3,oq (.j9 5 [(.c (.agg [(.int .i64 0),(.int .i64 0),(.aF []),(.sl .aW 2 []),(.sl .aW 5 [])]))]),oq (.mv (.c .any)),oq (.mv (.c .any)),oN,oq (.mv (.c .any)),oN]) [] 11:=aX func264
def gM(Z:Nat)(aj rows:List (List V)):List V:=[.int .i64 10,.int .i64 0,.aF [],.sl .aW 2 aj,.sl (.tk Z) 5 rows]
def ao_{n:Nat}{aj rows:List (List V)}(ho:D.box o=U (gM Z aj rows))(hp:D.box p=U [.ptr (.out q) 0])(hq:D.box q=U rd.enc)
 (K1:o≠q) (ht:D.aJ Z=U rows.length) (hb:rows.length+1<=aM) (hn:a9 rd.l<=n) (hm:a9 rd.l+1<=aM) :
 dn 264 [.ptr (.out o) 0,.ptr (.out p) 0] D (.bq []) (((D.set q (rd.field n).2.enc).set o (gM Z aj (rows++[(rd.field n).1.enc]))).aR Z (rows.length+1)):=by
 unfold gM at ho ⊢;refine afL.aV ?_;simp only[aU,a8,am,ho,hp];refine bJ.intro (adH (n:=n) hq hn hm) ?_;have h1:(D.set q (rd.field n).2.enc).box o=U [.int .i64 10,.int .i64 0,.aF [],.sl .aW 2 aj,.sl (.tk Z) 5 rows]:=by rw[ag.dW _ _ K1];exact ho
 simp only[am,h1];refine Sv (Z:=Z) (m:=rows) (cs:=(rd.field n).1.enc) (p:=.ptr (.out o) 4) rfl rfl rfl hb ht ⟨Nd.wd,Nd.one,Nd.cG⟩ Nd.er (by simp) rfl (by simp only[am,h1];rfl) ?_;simp only[am];exact aN rfl (ag.bd _) ⟨rfl,rfl⟩
def afK:aT prog 263 (sq [rg 0 [od (U 2) (.fZ 1 (.s 0))],sq [rg 3 [no,oc 259 [.s 3,.c (.int .u8 124)],nn],ci 5 (rg 6 [oo 2,oq (.jx (.func 264) [] [(.s 1),(.s 2)]),oC 256 [6,7]])],rg 9 [oo 2,oc 259 [.s 9,.c (.int .u8 124)]],ci 10 (sq [rg 11 [oo 2,oc 260 [.s 11,.c (.int .u8 124)]],rg 13 [oo 2,oC 258 [13],n1 2,of 3 1,os 1 16 15]])]) [] 17:=aX func263 ⟨[2],[]⟩
def gm(D:ag)(q o Z:Nat)(rd:ab)(aj rows:List (List V)):ag:=((D.set q rd.enc).set o (gM Z aj rows)).aR Z rows.length
def zj{aj rows:List (List V)}(h:q≠o):(gm D q o Z rd aj rows).box q=U rd.enc:=by
 simp[gm,ag.aR,ag.set,h]
def JT{aj rows:List (List V)}:(gm D q o Z rd aj rows).box o=U (gM Z aj rows):=by
 simp[gm,ag.aR,ag.set]
def JU{aj rows:List (List V)}(h:p≠q)(h' : p≠o):(gm D q o Z rd aj rows).box p=D.box p:=by
 simp[gm,ag.aR,ag.set,h,h']
def Rt{aj rows:List (List V)}(h:p≠q)(h' : p≠o):(gm D q o Z rd aj rows).set p cs=gm (D.set p cs) q o Z rd aj rows:=by
 have:((D.set q rd.enc).set o (gM Z aj rows)).set p cs=((D.set p cs).set q rd.enc).set o (gM Z aj rows):=by
  rw[ag.set_comm (fm h'),ag.set_comm (b:=q) (fm h)]
 show(((D.set q rd.enc).set o (gM Z aj rows)).set p cs).aR Z rows.length=_;rw[this];rfl
def ahp{aj rows:List (List V)}:(gm D q o Z rd aj rows).aJ Z=U rows.length:=by
 simp[gm,ag.aR]
def F9{aj rows:List (List V)}(h:q≠o):(gm D q o Z rd aj rows).set q j4.enc=gm D q o Z j4 aj rows:=by
 have:((D.set q rd.enc).set o (gM Z aj rows)).set q j4.enc=(D.set q j4.enc).set o (gM Z aj rows):=by rw[ag.set_comm (fm h),ag.set_set]
 show(((D.set q rd.enc).set o (gM Z aj rows)).set q j4.enc).aR Z rows.length=_;rw[this];rfl
def ahn{aj Mp rows:List (List V)}:(gm D q o Z rd aj rows).set o (gM Z Mp rows)=gm D q o Z rd Mp rows:=by
 show(((D.set q rd.enc).set o (gM Z aj rows)).set o (gM Z Mp rows)).aR Z rows.length=_;rw[ag.set_set];rfl
def aho{aj rows:List (List V)}(h:q≠o):(((gm D q o Z rd aj rows).set q j4.enc).set o (gM Z aj (rows++[c]))).aR Z (rows.length+1)=gm D q o Z j4 aj (rows++[c]):=by
 rw[F9 h];unfold gm;rw[bI,db,ei];show((((D.set q j4.enc).set o (gM Z aj rows)).set o (gM Z aj (rows++[c]))).aR Z rows.length).aR Z (rows.length+1)=_;rw[ag.set_set,jn]
def Ef(one:ab->Nd × ab)(D:ag)(q o Z:Nat):Sys (ab × List Nd):=⟨λa=>gm D q o Z a.1 [] (a.2.map Nd.enc),λa=>a.1,λa r=>(r,a.2),b_ one⟩
def Wv{one:ab->Nd × ab}(h:Reads one)(r:ab):(dJ (b_ one) r).1.l=r.l:=JX (Mv h _) _ _ (Mv h _ _ rfl)
def ao'{n:Nat}(dx:q≠o)(fp:rd.at_=0)(fF:rd.aE=ae)(hn:a9 rd.l<=n)(hm:a9 rd.l+1<=aM):
 dn 263 [.ptr (.out q) 0,.ptr (.out o) 0] (gm D q o Z rd [] []) (.bq []) (gm D q o Z (rd.mD n).1.1 ((rd.mD n).2.map au.enc) ((rd.mD n).1.2.map Nd.enc)):=by
 have hlen:=lI rd.l;have Dj:Reads (ab.field n):=B0 (RF n);refine afK.aV ?_;simp only[aU,a8,am];refine jU λp hp=>?_
 have lC:p≠q:=by rintro rfl;rw[zj dx] at hp;simp at hp
 have lB:p≠o:=by rintro rfl;rw[JT] at hp;simp at hp
 rw[JU lC lB] at hp;rw[Rt lC lB];have wc:∀a b c,(gm (D.set p [.ptr (.out q) 0]) q o Z a b c).box p=U [.ptr (.out q) 0]:=λa b c=>by rw[JU lC lB,ag.dR]
 have sO:∀a b c,(gm D q o Z a b c).sub (gm (D.set p [.ptr (.out q) 0]) q o Z a b c):=λa b c=>by
  rw[<-Rt lC lB];exact h_ (by rw[JU lC lB];exact hp)
 simp only[am,wc];refine(qp (zj dx)).mono ?_;rintro v σ' ⟨rfl,rfl⟩;cases h1:rd.bR 124
 all_goals simp only[am,wc]
 case' false =>
  have rV:∀a:ab × List Nd,pd rd.l a->a.1.aE=ae->cm prog 264 [.ptr (.out o) 0,.ptr (.out p) 0] (gm (D.set p [.ptr (.out q) 0]) q o Z a.1 [] (a.2.map Nd.enc)) λv σ' =>
   v = .bq []/\σ' = gm (D.set p [.ptr (.out q) 0]) q o Z (b_ (ab.field n) a).1 [] ((b_ (ab.field n) a).2.map Nd.enc):=λa kN hb=>by
   have hl:=kN.2.2.2 hb;have kK:=kN.2.2.1;refine(ao_ (n:=n) JT (wc _ _ _) (zj dx) (fm dx) ahp (by rw[aO];omega) (by rw[kN.1];exact hn) (by rw[kN.1];exact hm)).mono ?_;rintro v σ' ⟨rfl,rfl⟩;refine⟨rfl,?_⟩;rw[aho dx];simp[b_]
  have h0:pd rd.l (rd,([]:List Nd)):=⟨rfl,by simp[fp],by simp[fp],λ_=>by simp[fp]⟩;obtain⟨p1,_⟩:=HE Dj h0 fF;refine(NQ (Ef (ab.field n) (D.set p [.ptr (.out q) 0]) q o Z) (pd rd.l) (a:=(rd,[])) (n:=rd.l.length) (by simp[am]) (λa h=>zj dx) (λa h=>?_) (λa h hs=>F9 dx) (λa h hs=>?_) (rV _ h0 fF) p1 ?_).mono ?_
  .show a.1.l.length<=aM;rw[h.1];omega
  .obtain⟨k1,k2,k3⟩:=ML h hs;obtain⟨k4,k5⟩:=HE Dj k1 k2;refine⟨rV _ k1 k2,k4,?_,?_⟩
   .exact k4.1.trans h.1.symm
   .show a.1.at_+1<=_;simp only at k5;rw[k3] at k5;exact k5
  .show(b_ (ab.field n) (rd,[])).1.l.length<=rd.l.length;rw[p1.1];omega
  rintro v σ' ⟨rfl,rfl⟩;have e:(Ef (ab.field n) (D.set p [.ptr (.out q) 0]) q o Z).F ((Ef (ab.field n) (D.set p [.ptr (.out q) 0]) q o Z).go rd.l.length ((Ef (ab.field n) (D.set p [.ptr (.out q) 0]) q o Z).step (rd,[])))=gm (D.set p [.ptr (.out q) 0]) q o Z (dJ (b_ (ab.field n)) rd).1 [] ((dJ (b_ (ab.field n)) rd).2.map Nd.enc):=by
   unfold Ef;rw[Gb];rfl
  rw[e];have hl:=Wv Dj rd;have iA:rd.mD n=if (dJ (b_ (ab.field n)) rd).1.bR 124=aa then((((dJ (b_ (ab.field n)) rd).1.take 124).2.word.2,(dJ (b_ (ab.field n)) rd).2),[((dJ (b_ (ab.field n)) rd).1.take 124).2.word.1]) else(dJ (b_ (ab.field n)) rd,[]):=by
   simp only[ab.mD,h1,di,ck]
  generalize dJ (b_ (ab.field n)) rd=a at hl iA ⊢;simp only[am,wc]
 case' true =>
  have iA:rd.mD n=if rd.bR 124=aa then(((rd.take 124).2.word.2,[]),[(rd.take 124).2.word.1]) else((rd,[]),[]):=by
   simp only[ab.mD,h1,cC]
  have hl:rd.l=rd.l:=rfl;rw[show gm (D.set p [.ptr (.out q) 0]) q o Z rd [] []=gm (D.set p [.ptr (.out q) 0]) q o Z (rd,([]:List Nd)).1 [] ((rd,([]:List Nd)).2.map Nd.enc) from rfl];have iA:rd.mD n=if (rd,([]:List Nd)).1.bR 124=aa then((((rd,([]:List Nd)).1.take 124).2.word.2,(rd,([]:List Nd)).2),[((rd,([]:List Nd)).1.take 124).2.word.1]) else((rd,([]:List Nd)),[]):=iA
  have hl:(rd,([]:List Nd)).1.l=rd.l:=rfl;generalize (rd,([]:List Nd))=a at hl iA ⊢
 all_goals
  refine(qp (zj dx)).mono ?_;rintro v σ' ⟨rfl,rfl⟩;cases h2:a.1.bR 124
  .simp only[am,iA,h2];exact aN rfl (sO _ _ _) ⟨rfl,rfl⟩
  .simp only[am,wc];refine(wL (zj dx) (by rw[hl];omega)).mono ?_;rintro v σ' ⟨rfl,rfl⟩;rw[F9 dx];simp only[am,wc];refine(yH (zj dx) (by rw[ab.ft,hl];omega)).mono ?_;rintro v σ' ⟨rfl,rfl⟩;rw[F9 dx];simp only[am,au.enc,JT,gM,Nat.reduceAdd];rw[show [V.int .i64 10,.int .i64 0,.aF [],.sl .aW 2 [[.aF (a.1.take 124).2.word.1.al,.int .i64 (a.1.take 124).2.word.1.pos]],.sl (.tk Z) 5 (a.2.map Nd.enc)]=gM Z ([(a.1.take 124).2.word.1].map au.enc) (a.2.map Nd.enc) from rfl,ahn];exact aN rfl (sO _ _ _) ⟨rfl,by rw[iA,aD h2]⟩
def afa:aT prog 217 (sq [rg 0 [oZ 2 [0,0,1,7,10]],sq [rg 5 [om 0,oc 259 [.s 5,.c (.int .u8 91)],nn],ci 7 (sq [rg 8 [om 0,oC 258 [8],oZ 3 [1,0],o2 2 3],rg 10 [fo 1 3,fo 0 3,oG [0,0,1,7,10] [(0,1,.c (.int .i64 1)),(1,1,.s 11),(2,1,.s 13)],o2 5 2],.ret])],rg 15 [oG [0,0,1,7,10] [(0,1,.c (.int .i64 10))],od (U 4) (.pe [(.int .i64 0),(.int .i64 0),(.aF []),(.sl .aW 2 []),(.sl .aW 5 [])]),o2 5 4],.o7 (rg 16 [om 0,oq (.jx (.func 263) [] [(.s 4)]),oc 254 [.s 16,.c (.int .u8 91),.c (.bool aa),.s 17],of 1 4,os 1 19 18]),rg 20 [ol 5 4,o2 5 2],.ret]) [.cell 2 aa 5] 21:=aX func217 ⟨[4],[5]⟩
def aqO{a b:ag}{C:List V}(h:a.sub b)(k:a.box o=ae):a.sub (b.set o C):=by
 refine⟨λx cs hx=>?_,h.2⟩
 have:x≠o:=by rintro rfl;rw[k] at hx;simp at hx
 rw[ag.dW _ _ this];exact h.1 x cs hx
def apc{n:Nat}(i:ab):(i.mD n).1.1.l=i.l:=by
 have Dj:Reads (ab.field n):=B0 (RF n);cases h1:i.bR 124
 .cases h2:(dJ (b_ (ab.field n)) i).1.bR 124<;>simp[ab.mD,h1,h2,ab.word,ab.ft,Wv Dj]
 .simp[ab.mD,h1,ab.word,ab.ft]
def apg{n:Nat}(t:ar):(ab.rowOf n t).1.1.l=t.ah:=by
 unfold ab.rowOf;split
 .rfl
 .rw[apc];rfl
def asU{n:Nat}(h:D.box r=U rd.enc)(hn:a9 rd.l<=n)(hm:a9 rd.l+1<=aM):
 dn 217 [.ptr (.out r) 0] D (.agg (rd.row n).1.enc) (D.set r (rd.row n).2.enc):=by
 have hlen:=lI rd.l;refine afa.aV ?_;simp only[aU,a8,am];refine(qp h).mono ?_;rintro v D ⟨rfl,rfl⟩;cases h1:rd.bR 91
 .simp only[am];refine(yH h (by omega)).mono ?_;rintro v σ' ⟨rfl,rfl⟩;simp only[am,au.enc,Nat.reduceAdd];refine aN rfl (ag.bd _) ⟨?_,by simp[ab.row,ab.leaf,h1]⟩;simp[ab.row,ab.leaf,h1,V.erase,bw,Nd.enc,re]
 .simp only[am];refine jU λo ho=>?_
  have jg:o≠r:=by rintro rfl;rw[h] at ho;simp at ho
  simp only[am];refine bm.tok 0 λZ bp=>⟨_,_,_,dY.rfl,rfl,λi c hc=>⟨c,hc,dY.rfl⟩,pZ.set (cs:=[.int .i64 10,.int .i64 0,.aF [],.sl .aW 2 [],.sl .aW 5 []]) (cs' := gM Z [] []) (ag.dR _ _ _) ⟨je.same,je.same,je.same,je.same,je.tok rfl,trivial⟩,?_⟩
  simp only[am];have vR : ((D.set o (gM Z [] [])).aR Z 0).box r=U rd.enc:=by
   show(D.set o _).box r=_;rw[ag.dW _ _ (fm jg)];exact h
  have aQ:∀q,((D.set o (gM Z [] [])).aR Z 0).box q=ae->q≠o/\q≠r/\D.box q=none:=λq hq=>by
   have dx:q≠o:=by rintro rfl;rw[show((D.set q (gM Z [] [])).aR Z 0).box q=_ from ag.dR _ _ _] at hq;simp at hq
   have mU : D.box q=none:=by rw[<-ag.dW D (gM Z [] []) dx];exact hq
   exact⟨dx,by rintro rfl;rw[h] at mU;simp at mU,mU⟩
  have rN:a9 (rd.take 91).1.ah<=a9 rd.l:=(rd.vg 91).1;have ati:=lI (rd.take 91).1.ah;generalize ey:ab.rowOf n (rd.take 91).1=ins;have Dm:ins.1.1.l=(rd.take 91).1.ah:=by rw[<-ey];exact apg _
  refine(Oh (kind:=91) (by simp[am]) vR (by omega) (by omega) ins.1.1 ((D.set o (gM Z (ins.2.map au.enc) (ins.1.2.map Nd.enc))).aR Z (ins.1.2.map Nd.enc).length) ?_ ?_ ?_ Dm).mono ?_
  .intro b9 hc q hq;obtain⟨dx,ke,_⟩:=aQ q hq;have e1:(((D.set o (gM Z [] [])).aR Z 0).set r (rd.take 91).2.enc).set q (rd.take 91).1.inner.enc=gm (D.set r (rd.take 91).2.enc) q o Z (rd.take 91).1.inner [] []:=by
    unfold gm;rw[ag.set_comm (b:=q) dx,ag.set_comm (b:=r) (fm jg)];rfl
   have e2:(((D.set o (gM Z (ins.2.map au.enc) (ins.1.2.map Nd.enc))).aR Z (ins.1.2.map Nd.enc).length).set r (rd.take 91).2.enc).set q ins.1.1.enc=gm (D.set r (rd.take 91).2.enc) q o Z ins.1.1 (ins.2.map au.enc) (ins.1.2.map Nd.enc):=by
    unfold gm;rw[ag.set_comm (b:=q) dx,ag.set_comm (b:=r) (fm jg)];rfl
   have e3:ins=(rd.take 91).1.inner.mD n:=by
    rw[<-ey,ab.rowOf,aB]
    rcases hc with hc | hc
    .simp at hc
    .exact hc
   rw[e1,e2,e3];exact ao' dx rfl rfl (by show a9 (rd.take 91).1.ah<=n;omega) (by show a9 (rd.take 91).1.ah+1<=aM;omega)
  .intro q1 q2
   have:ins=(((rd.take 91).1.inner,[]),[]):=by rw[<-ey,ab.rowOf,aD q2]
   rw[this];exact⟨rfl,rfl⟩
  .intro q hq;obtain⟨dx,_,mU⟩:=aQ q hq;show(D.set o _).box q=ae;rw[ag.dW _ _ dx];exact mU
  rintro v σ' hv;have xF:∀(A B:List V) (n:Nat),(D.set r A).sub (((D.set o B).aR Z n).set r A):=λA B n=>by
   refine⟨λb cs hb=>?_,λυ m hm=>?_,λ_ _ h=>h⟩
   .have Df:b≠o:=by rintro rfl;rw[ag.dW _ _ jg,ho] at hb;simp at hb
    by_cases uD:b=r
    .subst uD;rw[ag.dR] at hb ⊢;exact hb
    .rw[ag.dW _ _ uD] at hb ⊢;show(D.set o B).box b=_;rw[ag.dW _ _ Df];exact hb
   .have sT : D.aJ υ=U m:=hm;have zD : υ≠Z:=by rintro rfl;rw[show(D.set o [V.int .i64 10,.int .i64 0,.aF [],.sl .aW 2 [],.sl .aW 5 []]).aJ υ=D.aJ υ from rfl] at bp;rw[bp] at sT;simp at sT
    show((D.set o B).aR Z n).aJ υ=U m;rw[o6 zD];exact sT
  have b9:(rd.take 91).2.ok=true:=by
   rcases rd.tJ 91 with ⟨_,_,e,_,_⟩ | ⟨e,_,_⟩
   .simp[ab.ok,e]
   .rw[h1] at e;simp at e
  rw[aD b9] at hv;obtain⟨rfl,rfl⟩:=hv;have hb:(((D.set o (gM Z (ins.2.map au.enc) (ins.1.2.map Nd.enc))).aR Z (ins.1.2.map Nd.enc).length).set r ((rd.take 91).2.under ins.1.1).enc).box o=U (gM Z (ins.2.map au.enc) (ins.1.2.map Nd.enc)):=by
   rw[ag.dW _ _ jg];exact ag.dR _ _ _
  simp only[gM] at hb xF ⊢;simp only[am,hb,Nat.reduceAdd];refine aN rfl (aqO (xF _ _ _) (by rw[ag.dW _ _ jg];exact ho)) ⟨?_,by simp[ab.row,h1,ey]⟩;simp[ab.row,h1,ey,V.erase,bw,Nd.enc,Ac]
def aeE:aT prog 166 (sq [rg 6 [oz 7,oM [0,0]],rg 11 [om 0,om 1,om 2,oW [10,0,0,0,0] [(0,1,11),(1,1,12),(2,1,13)],oq (.fZ 5 (.s 14)),o1 8],rg 17 [om 8,oc 213 [.s 17,.c (.bool ak)],o1 16,oe 16 0,oe 16 1,ot 9 19,o1 10],sq [rg 21 [om 8,oC 214 [21],nn],ci 23 (sq [dg 24 [mk 8,nf 3,nl 2,oU 6 7,o2 2 7],.ret])],rg 28 [om 9,oW [0,0] [],ot 6 28,o2 2 7],.ret]) [.tmp 6,.cell 7 aa 2] 30:=aX func166 ⟨[15],[]⟩
def aeH:aT prog 169 (sq [rg 7 [oZ 6 [0,0,1,7,10],oi 0,oM [0,0]],rg 9 [om 0,om 1,om 2,oc 215 [.s 9,.s 10,.s 11,.c (.fn (.func 216) [] [])],oe 12 0,oe 12 1,oe 12 2,os 5 6 13,ot 7 14,o2 2 8],.ret]) [.cell 6 aa 5,.tmp 7,.cell 8 aa 2] 16:=aX func169
def aeI:aT prog 170 (sq [rg 7 [oZ 6 [0,0,1,7,10],oi 0,oM [0,0]],rg 9 [om 0,om 1,om 2,oc 215 [.s 9,.s 10,.s 11,.c (.fn (.func 217) [] [])],oe 12 0,oe 12 1,oe 12 2,os 5 6 13,ot 7 14,o2 2 8],.ret]) [.cell 6 aa 5,.tmp 7,.cell 8 aa 2] 16:=aX func170
def ae_:aT prog 215 (sq [rg 9 [oZ 8 [0,0,1,7,10],oi 0,oM [0,0]],rg 13 [om 0,om 1,om 2,oW [10,0,0,0,0] [(0,1,13),(1,1,14),(2,1,15)],oq (.fZ 5 (.s 16)),o1 11],rg 18 [om 3,om 11,oq (.ij (.s 18) [(.s 19)]),oZ 12 [0,0,1,7,10],o2 5 12],sq [rg 21 [om 11,oC 214 [21],nn],ci 23 (sq [dg 24 [oW [0,0,1,7,10] [],mk 11,nf 3,mM [1],nl 2,os 5 8 24,oj 9 0,o2 2 10],.ret])],dg 29 [ol 5 12,mk 11,nf 1,mM [1],no,oW [0,0] [],os 5 8 29,ot 9 33,o2 2 10],.ret]) [.cell 8 aa 5,.tmp 9,.cell 10 aa 2] 35:=aX func215 ⟨[17],[]⟩
def jK(b:Option Int):V:=.agg [.int .i64 (c8 b),.int .i64 (fD b)]
def Xt{one:ab->Nd × ab}{at_ fin:Int}
 (fG:∀q (D:ag),D.box q=U (⟨l,at_,fin,ae⟩:ab).enc->dn g [.ptr (.out q) 0] D (.agg (one ⟨l,at_,fin,ae⟩).1.enc) (D.set q (one ⟨l,at_,fin,ae⟩).2.enc)) :
 bc 215 [.sl .no 5 (dv l),.int .i64 at_,.int .i64 fin,.fn (.func g) [] []] D (.bq [.agg (fi one l at_ fin).1.enc,.int .i64 (fi one l at_ fin).2.1,jK (fi one l at_ fin).2.2]):=by
 refine ae_.aV ?_;simp only[aU,a8,am];refine jU λq hq=>?_
 rw[show [V.sl .no 5 (dv l),.int .i64 at_,.int .i64 fin,.int .i64 0,.int .i64 0]=(⟨l,at_,fin,ae⟩:ab).enc from rfl];simp only[am];refine(fG q _ (ag.dR _ _ _)).mono ?_;rintro v σ' ⟨rfl,rfl⟩;have hb:=ag.dR D q (one ⟨l,at_,fin,ae⟩).2.enc;have iA:fi one l at_ fin=match (one ⟨l,at_,fin,ae⟩).2.aE with | some b=>(.zero,0,U b) | none=>((one ⟨l,at_,fin,ae⟩).1,(one ⟨l,at_,fin,ae⟩).2.at_,ae):=rfl
 generalize one ⟨l,at_,fin,ae⟩=o at hb iA ⊢;simp only[am,Nd.len,Nd.one,Nd.Eb];refine(wz (ag.dR _ _ _)).mono ?_;rintro v σ' ⟨rfl,rfl⟩;cases h:o.2.aE with
 | some b =>
  simp only[am,ab.ok,h,Option.isNone,ab.ex,Nat.reduceAdd];rw[h] at iA;refine aN rfl (h_ hq) ⟨?_,rfl⟩;simp[iA,V.erase,bw,Nd.zero,Nd.enc,re,jK]
 | none =>
  simp only[am,ab.ok,h,Option.isNone,ab.ex,Nat.reduceAdd,Nd.len,Nd.one,Nd.Eb,Nd.tk];rw[h] at iA;refine aN (by simp only[am,Nd.cG]) (h_ hq) ⟨?_,rfl⟩;simp[iA,V.erase,bw,jK,Nd.er,c8,fD]
def XF{n:Nat}{at_ fin:Int}(hn:a9 l<=n)(hm:a9 l+1<=aM):
 bc 169 [.sl .no 5 (dv l),.int .i64 at_,.int .i64 fin] D (.bq [.agg (fi (ab.label n) l at_ fin).1.enc,.int .i64 (fi (ab.label n) l at_ fin).2.1,jK (fi (ab.label n) l at_ fin).2.2]):=by
 refine aeH.aV ?_;simp only[aU,a8,am];refine(Xt (one:=ab.label n) (λq D h=>ajJ n h hn hm)).mono ?_;rintro v D ⟨rfl,rfl⟩;generalize fi (ab.label n) l at_ fin=o;simp only[am,jK,Nd.len,Nd.Eb,Nd.tk,Nd.one];refine aN (by simp only[am,Nd.cG]) (ag.bd _) ⟨?_,rfl⟩;simp[V.erase,bw,Nd.er]
def XX{n:Nat}{at_ fin:Int}(hn:a9 l<=n)(hm:a9 l+1<=aM):
 bc 170 [.sl .no 5 (dv l),.int .i64 at_,.int .i64 fin] D (.bq [.agg (fi (ab.row n) l at_ fin).1.enc,.int .i64 (fi (ab.row n) l at_ fin).2.1,jK (fi (ab.row n) l at_ fin).2.2]):=by
 refine aeI.aV ?_;simp only[aU,a8,am];refine(Xt (one:=ab.row n) (λq D h=>asU (n:=n) h hn hm)).mono ?_;rintro v D ⟨rfl,rfl⟩;generalize fi (ab.row n) l at_ fin=o;simp only[am,jK,Nd.len,Nd.Eb,Nd.tk,Nd.one];refine aN (by simp only[am,Nd.cG]) (ag.bd _) ⟨?_,rfl⟩;simp[V.erase,bw,Nd.er]
def X0{at_ fin:Int}(hm:a9 l+1<=aM):
 bc 166 [.sl .no 5 (dv l),.int .i64 at_,.int .i64 fin] D (.bq [.sl .no 2 ((iZ l at_ fin).1.map au.enc),jK (iZ l at_ fin).2]):=by
 have hlen:=lI l;refine aeE.aV ?_;simp only[aU,a8,am];refine jU λq hq=>?_
 rw[show [V.sl .no 5 (dv l),.int .i64 at_,.int .i64 fin,.int .i64 0,.int .i64 0]=(⟨l,at_,fin,ae⟩:ab).enc from rfl];simp only[am];refine(Oo (ag.dR _ _ _) (by simp only;omega) (zS hm rfl)).mono ?_;rintro v σ' ⟨rfl,rfl⟩;have hb:=ag.dR D q ((⟨l,at_,fin,ae⟩:ab).words ak).2.enc;have iA:iZ l at_ fin=match ((⟨l,at_,fin,ae⟩:ab).words ak).2.aE with | some b=>([],U b) | none=>(((⟨l,at_,fin,ae⟩:ab).words ak).1.1,ae):=rfl
 generalize (⟨l,at_,fin,ae⟩:ab).words ak=o at hb iA ⊢;simp only[am];refine(wz (ag.dR _ _ _)).mono ?_;rintro v σ' ⟨rfl,rfl⟩;cases h:o.2.aE with
 | some b =>
  simp only[am,ab.ok,h,Option.isNone,ab.ex,Nat.reduceAdd];rw[h] at iA;refine aN rfl (h_ hq) ⟨?_,rfl⟩;simp[iA,V.erase,bw,jK]
 | none =>
  simp only[am,ab.ok,h,Option.isNone];rw[h] at iA;refine aN rfl (h_ hq) ⟨?_,rfl⟩;simp[iA,V.erase,bw,jK,c8,fD]
def aez:aT prog 161 (sq [rg 2 [oz 2],sq [rg 4 [om 0,oq (.nD .eql (.s 4) (.c (.aF []))),gB,om 0,nT,nB .gtr 16,gZ,gB,om 0,oq (.sV (.s 12) (.c (.int .i64 0))),oC 211 [13],nn,gZ],cr 16 2 [oz 2]],sq [rg 17 [om 0,nT,oi 0],lp 18 0 (sq [rg 21 [om 19,o1 3],rg 22 [om 0,om 3,nS 22,oC 212 [24],nn],cr 26 2 [oz 2]]) 27],rg 2 [oq (.mv (.c (.bool aa)))],.ret]) [.tmp 2] 28:=aX func161
def ae6:aT prog 211 (sq [rg 2 [oz 2],rg 3 [om 0,nu .geq 97,gA,om 0,nu .leq 122,gZ,o1 2],.ret]) [.tmp 2] 9:=aX func211
def ae7:aT prog 212 (sq [rg 2 [oz 2],rg 3 [om 0,oC 211 [3],nm,oh 5 (om 0),oh 5 (nu .geq 48),oh 5 (nm),og 8 (om 0),og 8 (nu .leq 57),oh 5 (oy 8 10),oq (.pick (.s 5) (.c (.bool aa)) (.s 11)),gB,om 0,nu .eql 95,gZ,o1 2],.ret]) [.tmp 2] 17:=aX func212
def vo:=af @am <| af @pf <| af @cF <| af @ka <| af @bS <| af @ff <| af @ar.an <| af @Nd.an <| af @au.an @ca.an
def Tv(c:Int)(D:ag):bc 211 [.int .u8 c] D (.bool (yd c)):=by
 refine ae6.aV ?_;simp only[aU,am,a8,Nat.reduceAdd]
 repeat' (first
  | (refine kH (λh=>?_) (λh=>?_)<;>simp only[am,h])
  | (refine fc (λh=>?_) (λh=>?_)<;>simp only[vo,h,Nat.reduceAdd,Nat.reduceEqDiff,aO])
  | (refine kX (λh=>?_) (λh=>?_)<;>simp only[vo,h,Nat.reduceAdd,Nat.reduceEqDiff,aO])
 )
 all_goals refine aS ?_
 all_goals simp_all [V.erase,yd]
 all_goals (try omega)
def ahB(c:Int)(D:ag):bc 212 [.int .u8 c] D (.bool (uB c)):=by
 refine ae7.aV ?_;simp only[aU,am,a8,Nat.reduceAdd];refine cl (Tv c D) ?_;simp only[am]
 repeat' (first
  | (refine kH (λh=>?_) (λh=>?_)<;>simp only[am,h])
  | (refine fc (λh=>?_) (λh=>?_)<;>simp only[vo,h,Nat.reduceAdd,Nat.reduceEqDiff,aO])
  | (refine kX (λh=>?_) (λh=>?_)<;>simp only[vo,h,Nat.reduceAdd,Nat.reduceEqDiff,aO])
 )
 all_goals refine aS ?_
 all_goals simp_all [V.erase,uB]
 all_goals (try omega)
variable{s:List UInt8}
def Eu(h:i<s.length):s[((i:Nat):Int).toNat]?=U s[i]:=by simp[h]
def LF(s:List UInt8)(D:ag)(i:Nat):St :=
 ⟨[.aF s]++aA 17 .any++[.int .i64 s.length,.int .i64 (i:Nat)]++aA 8 .any,[],D⟩
def Pm{f:UInt8->Bool}(h:i<s.length):(s.take (i+1)).all f=((s.take i).all f&&f s[i]):=by
 rw[Ex (cH h),IB];simp only[tR,OI,vp]
def alz(h:s.length<=16)(h1:0<s.length):dy s=(uV s[0]&&s.all gy):=by
 cases s with
 | nil=>simp at h1
 | cons c r =>
  simp only[dy,h,bS,pW,List.getElem_cons_zero,tR];cases hc:uV c
  .simp
  .have:gy c=true:=by simp only[uV] at hc;simp[gy,uB,hc]
   simp[this]
def tj(s:List UInt8)(D:ag):bc 161 [.aF s] D (.bool (dy s)):=by
 refine aez.aV ?_;simp only[aU,am,a8,Nat.reduceAdd]
 by_cases h0:s=[]
 .subst h0;simp only[am,bS];refine aS ?_;simp[V.erase,dy]
 .have iJ:0<s.length:=by cases s with | nil=>exact absurd rfl h0 | cons _ _=>simp
  simp only[am,ff,h0]
  by_cases C7:s.length<=16
  .have e:decide ((16:Int)<s.length)=false:=by simp;omega
   simp only[am,e];refine BL (c:=s[0]) (by simp[iJ]) ?_;simp only[am];refine cl (Tv s[0].toNat D) ?_;have hl:dy s=(uV s[0]&&s.all gy):=alz C7 iJ;cases hb:yd (s[0].toNat:Nat)
   .have b8 : uV s[0]=false:=hb;simp only[am];refine aS ?_;simp[V.erase,hl,b8]
   .have b8 : uV s[0]=true:=hb;simp only[am];refine iE (λp:{i:Nat // i<=s.length/\(s.take i).all gy=aa}=>LF s D p.1) (λp=>s.length - p.1) ?_ ?_
    .refine bm.enter ⟨0,by simp,by simp⟩ ?_ ch.rfl bN.rfl;simp[LF,aA,am]
    .rintro⟨i,hi,ha⟩;simp only[LF,aA,am];refine fc ?_ ?_
     .intro az;have az:i<s.length:=by simpa using az
      simp only[am];refine BL (Eu az) ?_;simp only[am];refine cl (ahB s[i].toNat D) ?_;cases hg:uB (s[i].toNat:Nat)
      .have qd : gy s[i]=false:=hg;simp only[am];refine aN rfl (ag.bd _) ⟨?_,rfl⟩
       have:s.all gy=false:=by
        rw[IC];exact⟨s[i],fu az,by simp[qd]⟩
       simp[V.erase,hl,this]
      .simp only[am];rw[wrap_i64];refine bm.again ⟨i+1,by omega,?_⟩ (by simp;omega) (by simp[am]) ch.rfl bN.rfl;rw[Pm az,ha];exact hg
     .intro az;have az:i=s.length:=by simp at az;omega
      subst az;rw[eH] at ha;simp only[am];refine aS ?_;simp[V.erase,hl,b8,ha]
  .have e:decide ((16:Int)<s.length)=true:=by simp;omega
   simp only[am,e];refine aS ?_;simp[V.erase,dy,C7]
def aeL:aT prog 173 (sq [rg 4 [od (U 2) (.fZ 1 (.s 0)),od (U 3) (.fZ 1 (.s 1)),oi 0],rg 5 [oo 2,nL,oq (.jx (.func 219) [] [(.s 2),(.s 3)]),oc 218 [.c (.int .i64 0),.s 6,.s 7],o1 4],.ret]) [.tmp 4] 9:=aX func173 ⟨[2,3],[]⟩
def afb:aT prog 218 (sq [rg 6 [oi 0],sq [rg 8 [om 0,o1 7],bl 0 (sq [sq [rg 9 [om 7,om 1,nb .lss 9],cx 11 0],.block 1 (sq [rg 14 [om 2,om 7,oq (.ij (.s 14) [(.s 15)])],cr 16 17 [om 7,o1 6]]),rg 12 [ic 7]])],rg 6 [oi (-1)],.ret]) [.tmp 6] 18:=aX func218
def afc:aT prog 219 (sq [rg 4 [oz 2],dg 5 [oo 1,om 0,nA 1 5,no,oo 2,nE .eql 8,o1 4],.ret]) [.tmp 4] 11:=aX func219
def agd:aT prog 297 (sq [rg 2 [oz 2],sq [rg 5 [om 0,nL,nB .lss 1,gB,om 0,nL,nB .gtr 64,gZ,gB,om 0,oC 307 [14],nB .geq 0,gZ],cr 17 2 [oz 2]],sq [rg 18 [om 0,nL,oi 0],lp 19 0 (sq [rg 22 [oA 1 18 20,no,o1 4],rg 24 [om 4,oC 161 [24],nn],cr 26 2 [oz 2]]) 27],rg 2 [oq (.mv (.c (.bool aa)))],.ret]) [.tmp 2] 28:=aX func297
def agp:aT prog 307 (sq [rg 2 [od (U 1) (.fZ 1 (.s 0)),oi 0],rg 3 [oo 1,nL,oq (.jx (.func 314) [] [(.s 1)]),oc 218 [.c (.int .i64 0),.s 4,.s 5],o1 2],.ret]) [.tmp 2] 7:=aX func307 ⟨[1],[]⟩
def agx:aT prog 314 (sq [rg 3 [oz 2],dg 4 [oo 1,om 0,oq (.kv 1 (.s 4) ae (U (.s 5)) ae),oo 1,om 0,nA 1 7,no,oC 173 [6,10],nB .geq 0,o1 3],.ret]) [.tmp 3] 13:=aX func314
def UX(n:Nat)(hn:n<=100000)(f:FuncId)(cap:List V)(hc:bH cap=aa)(p:Nat->Bool)(D:ag)(h:∀i,i<n->cm prog f (.int .i64 (i:Nat)::cap) D λv σ' => v = .bool (p i)/\σ' = D) :
 bc 218 [.int .i64 0,.int .i64 (n:Nat),.fn (.func f) [] cap] D (.int .i64 (de ((cc n).find? p))):=by
 refine afb.aV ?_;simp only[aU,am,a8,Nat.reduceAdd];refine eb (n) (λi (x:Unit)=>⟨[.any,.int .i64 (n:Nat),.fn (.func f) [] cap,.any,.any,.any,.any,.int .i64 (i:Nat)]++aA 10 .any,[],D⟩) (λi x=>(∀k,k<i->p k=ak)) λF hF JF br=>⟨?_,?_,?_⟩
 .exact en br (()) (by intro k h;omega)
 .rintro i x hi hJ;simp only[hF,aA,am,eE hi,hc];refine(h i hi).mono ?_;rintro v σ' ⟨rfl,rfl⟩;cases hb:p i with
  | false =>
   simp only[am,a_,cT hi];exact nx br (()) hi (A3 hJ hb)
  | true =>
   have e:=adP hi hJ hb;simp only[am,a_];refine aS ?_;simp[V.erase,e,de]
 .rintro x hJ;have e:=adS hJ;simp only[hF,aA,am,a_,eJ,a_];refine aS ?_;simp[V.erase,e,de]
def adM(l:List (List UInt8))(s:List UInt8)(i b1 b2:Nat)(hi:i<l.length)(h1:D.box b1=U [.sl .no 1 (cO l)])(h2:D.box b2=U [.aF s]):
 bc 219 [.int .i64 (i:Nat),.ptr (.out b1) 0,.ptr (.out b2) 0] D (.bool (decide (l.getD i []=s))):=by
 refine afc.aV ?_;simp only[aU,am,a8,Nat.reduceAdd];simp only[am,h1];refine ix (Nu hi) ?_;simp only[am,h2];exact rt
def vP(l:List (List UInt8))(s:List UInt8)(D:ag)(hl:l.length<=100000):bc 173 [.sl .no 1 (cO l),.aF s] D (.int .i64 (de (gY l s))):=by
 refine aeL.aV ?_;simp only[aU,am,a8,Nat.reduceAdd];refine jU λb1 fg=>?_
 simp only[am];refine jU λb2 dw=>?_
 have aQ:b1≠b2:=by rintro rfl;rw[gP] at dw;simp at dw
 have hs:=ag.B6 (h_ (cs:=[.sl .no 1 (cO l)]) fg) (h_ (cs:=[.aF s]) dw);have e1:((D.set b1 [.sl .no 1 (cO l)]).set b2 [.aF s]).box b1=U [.sl .no 1 (cO l)]:=by rw[mE aQ,gP]
 generalize uQ:(D.set b1 [V.sl .no 1 (cO l)]).set b2 [V.aF s]=cR at hs e1;have e2:cR.box b2=U [.aF s]:=by rw[<-uQ,gP]
 simp only[am,gO,e1];refine(UX l.length hl _ _ rfl (λi=>decide (l.getD i []=s)) cR λi hi=>adM l s i b1 b2 hi e1 e2).mono ?_;rintro v cR ⟨rfl,rfl⟩;simp only[am];exact aN rfl hs ⟨rfl,rfl⟩
def arh(l:List (List UInt8))(i b1:Nat)(hl:l.length<=100000)(hi:i<l.length)(h1:D.box b1=U [.sl .no 1 (cO l)]):
 bc 314 [.int .i64 (i:Nat),.ptr (.out b1) 0] D (.bool (gY (l.take i) (l.getD i [])).isSome):=by
 refine agx.aV ?_;simp only[aU,am,a8,Nat.reduceAdd];simp only[am,cF,h1];refine Wt (b:=i) (by rw[gO];omega) ?_;simp only[am,h1];refine ix (Nu hi) ?_;rw[VW];simp only[am];refine bJ.intro (vP (l.take i) (l.getD i []) D (by rw[iP];omega)) ?_;simp only[am,ME];exact rt
def ari(l:List (List UInt8))(D:ag)(hl:l.length<=100000):bc 307 [.sl .no 1 (cO l)] D (.int .i64 (de (N4 l))):=by
 refine agp.aV ?_;simp only[aU,am,a8,Nat.reduceAdd];refine jU λb1 fg=>?_
 simp only[am,gO];refine(UX l.length hl _ _ rfl (λi=>(gY (l.take i) (l.getD i [])).isSome) _ λi hi=>arh l i b1 hl hi gP).mono ?_;rintro v cR ⟨rfl,rfl⟩;simp only[am];exact aN rfl (h_ fg) ⟨rfl,rfl⟩
def alB(l:List (List UInt8))(D:ag)(hl:l.length<=100000):bc 297 [.sl .no 1 (cO l)] D (.bool (ti l)):=by
 refine agd.aV ?_;simp only[aU,am,a8,Nat.reduceAdd,gO]
 by_cases h1:l.length<1
 .simp only[am,aP (show(l.length:Int)<1 by omega)];refine aS ?_;simp[V.erase,ti];omega
 .simp only[am,gO,aK (show ¬(l.length:Int)<1 by omega)]
  by_cases h2:64<l.length
  .simp only[am,aP (show(64:Int)<l.length by omega)];refine aS ?_;simp[V.erase,ti];omega
  .simp only[am,aK (show ¬(64:Int)<l.length by omega)];refine cl (ari l D hl) ?_;simp only[am,ME];cases ht:N4 l with
   | some k =>
    simp only[am,E_];refine aS ?_;simp[V.erase,ti,ht]
   | none =>
    simp only[am,gO,Cz];refine eb (l.length) (λi (x:Unit)=>⟨[.any,.any,.any,.any,.any,.any,.any,.any,.any,.any,.any,.any,.any,.any,.any,.any,.any,.any,.sl .no 1 (cO l),.int .i64 (l.length:Nat),.int .i64 (i:Nat)]++aA 7 .any,[],D⟩) (λi x=>(∀k,k<i->dy (l.getD k [])=aa)) λF hF JF br=>⟨?_,?_,?_⟩
    .exact en br (()) (by intro k h;omega)
    .rintro i x hi hJ;simp only[hF,aA,am,eE hi];refine ix (Nu hi) ?_;simp only[am];refine cl (tj _ D) ?_;simp only[am];cases hb:dy (l.getD i []) with
     | false =>
      have e:ti l=false:=by
       cases hq:ti l with
       | false=>rfl
       | true =>
        simp only[ti,bA,lf] at hq;have hm:l.getD i []∈l:=by rw[qM hi];exact fu hi
        rw[hq.2 _ hm] at hb;simp at hb
      simp only[am,a_];refine aS ?_;simp[V.erase,e]
     | true =>
      simp only[am,a_,cT hi];exact nx br (()) hi (A3 hJ hb)
    .rintro x hJ;have e:ti l=true:=by
      simp only[ti,ht,bA,lf,b7,AY,gw];refine⟨by omega,λs hs=>?_⟩;obtain⟨k,hk,rfl⟩:=List.mem_iff_getElem.1 hs
      have:=hJ k hk
      rwa [qM hk] at this
     simp only[hF,aA,am,a_,eJ,a_];refine aS ?_;simp[V.erase,e]
def afq:aT prog 233 (sq [rg 2 [ox 1 2 0,oz 2],rg 6 [fo 1 1,nL,o1 3],sq [rg 9 [om 3,nB .lss 1,gB,om 3,nB .gtr 8,gZ,nm,oh 15 (of 0 1),oh 15 (no),oh 15 (nn),oh 15 (nm),og 19 (om 3),og 19 (nB .neq 1),oh 15 (oy 19 21),oq (.pick (.s 15) (.c (.bool aa)) (.s 22))],cr 23 2 [oz 2]],sq [rg 24 [fo 1 1,nL,oi 0],lp 26 0 (sq [rg 29 [oA 67 25 27,nl 67,oR 5 qK,o2 67 5],rg 31 [ol 67 5,oC 276 [31],nn],cr 33 2 [oz 2]]) 34],rg 2 [oq (.mv (.c (.bool aa)))],.ret]) [.tmp 2] 35:=aX func233
def afX:aT prog 276 (sq [rg 2 [ox 1 67 0,oz 2],sq [rg 3 [fo 1 1,oC 297 [4],nn],cr 6 2 [oz 2]],sq [rg 7 [fo 0 1],.block 0 (sq [sq [rg 10 [oB .eql 8 1,o1 9],cd 9 .skip (rg 11 [oB .eql 8 2,o1 9])],cd 9 (sq [rg 12 [of 2 1,nl 65,oY qn [],oC 298 [13,14],o1 2],.ret]) (sq [rg 17 [oB .eql 8 3,o1 16],cd 16 (sq [rg 18 [of 2 1,nF 0,fo 1 1,nL,nb .eql 20,gA,of 2 1,nl 65,oC 299 [27],gZ,o1 2],.ret]) (sq [rg 31 [oB .eql 8 4,o1 30],cr 30 32 [of 2 1,nF 0,fo 1 1,nL,nb .eql 34,gA,of 2 1,nl 65,oC 175 [41],gZ,o1 2]])])])],rg 2 [oz 2],.ret]) [.tmp 2] 44:=aX func276
def as0:=af @am <| af @a8 <| af @Rl.an @bn.an
def adm(f:bn)(hg:TZ D)(hl:f.aj.length<=100000):bc 276 [.agg f.enc] D (.bool (qa f)):=by
 refine afX.aV ?_;simp only[aU,as0,Nat.reduceAdd];refine cl (alB f.aj D hl) ?_;cases hn:ti f.aj with
 | false =>
  simp only[am];refine aS ?_;simp[V.erase,qa,hn]
 | true =>
  simp only[am,bn.an]
  by_cases h1:f.kind=1
  .simp only[am,Rl.an,bn.an,aP h1];refine cl (V4 f.rel Rl.zero D) ?_;simp only[am,U0];refine aS ?_;simp[V.erase,qa,hn,h1]
  .simp only[am,aK h1]
   by_cases h2:f.kind=2
   .simp only[am,Rl.an,bn.an,aP h2];refine cl (V4 f.rel Rl.zero D) ?_;simp only[am,U0];refine aS ?_;simp[V.erase,qa,hn,h2]
   .simp only[am,aK h2]
    by_cases h3:f.kind=3
    .simp only[am,bn.an,gO,aP h3]
     by_cases h4:f.rel.n=f.aj.length
     .simp only[am,Rl.an,bn.an,aP h4];refine cl (J2 f.rel D) ?_;simp only[am];refine aS ?_;simp[V.erase,qa,hn,h3,h4]
     .simp only[am,aK h4];refine aS ?_;simp[V.erase,qa,hn,h3,h4]
    .simp only[am,aK h3]
     by_cases h5:f.kind=4
     .simp only[am,bn.an,gO,aP h5]
      by_cases h4:f.rel.n=f.aj.length
      .simp only[am,Rl.an,bn.an,aP h4];refine cl (Tm f.rel hg) ?_;simp only[am];refine aS ?_;simp[V.erase,qa,hn,h5,h4]
      .simp only[am,aK h4];refine aS ?_;simp[V.erase,qa,hn,h5,h4]
     .simp only[am,aK h5];refine aS ?_;simp[V.erase,qa,hn,h1,h2,h3,h5]
def QT{l:List bn}(h:j<l.length):(l.map bn.enc)[((j:Nat):Int).toNat]?=U l[j].enc:=by simp[h]
def aqb{s:bC}(hi:i<s.bM.length)(h:qa s.bM[i]=ak):mF s=false:=by
 cases hq:mF s with
 | false=>rfl
 | true =>
  simp only[mF,bA,lf] at hq;rw[hq.2 _ (fu hi)] at h;simp at h
def aqc{s:bC}(h1:1<=s.bM.length)(h2:s.bM.length<=8)(h3:s.tuple=aa\/s.bM.length=1)(h:∀k (hk:k<s.bM.length),qa s.bM[k]=aa):mF s=true:=by
 simp only[mF,bA,lf,b7,mg];refine⟨⟨⟨h1,h2⟩,h3⟩,λf hf=>?_⟩;obtain⟨k,hk,rfl⟩:=List.mem_iff_getElem.1 hf;exact h k hk
def aqf(s:bC)(hg:TZ D)(b9:s.ok):bc 233 [.agg s.enc] D (.bool (mF s)):=by
 refine afq.aV ?_;simp only[aU,am,a8,Nat.reduceAdd,bC.an,aO]
 by_cases h1:s.bM.length<1
 .simp only[am,aP (show(s.bM.length:Int)<1 by omega)];refine aS ?_;simp[V.erase,mF];omega
 .simp only[am,aK (show ¬(s.bM.length:Int)<1 by omega)]
  by_cases h2:8<s.bM.length
  .simp only[am,aP (show(8:Int)<s.bM.length by omega)];refine aS ?_;simp[V.erase,mF];omega
  .simp only[am,bC.an,aK (show ¬(8:Int)<s.bM.length by omega)];have h3:(∃t,s.tuple=t/\(t=aa\/s.bM.length=1))\/(s.tuple=ak/\s.bM.length≠1):=by
    cases ht:s.tuple with
    | true=>exact .inl ⟨aa,rfl,.inl rfl⟩
    | false =>
     by_cases hl:s.bM.length=1
     .exact .inl ⟨ak,rfl,.inr hl⟩
     .exact .inr ⟨rfl,hl⟩
   rcases h3 with ⟨t,ht,h3⟩ | ⟨ht,h3⟩
   .cases t
    case' false =>
     have h3:s.bM.length=1:=by simpa using h3
     simp only[am,aO,bC.an,aO,ht,aP (show(s.bM.length:Int)=1 by omega)]
    case' true=>simp only[am,aO,bC.an,aO,ht]
    all_goals
     refine eb (s.bM.length) (λi (x:Unit)=>⟨[.any,.ptr (.aC 0) 0,.bool ak,.any,.any,.any,.any,.any,.any,.any,.any,.any,.any,.any,.any,.any,.any,.any,.any,.any,.any,.any,.any,.any,.any,.sl .no 67 (s.bM.map bn.enc),.int .i64 (s.bM.length:Nat),.int .i64 (i:Nat)]++aA 7 .any,[s.enc],D⟩) (λi x=>(∀k,k<i->∀hk:k<s.bM.length,qa s.bM[k]=aa)) λF hF JF br=>⟨?_,?_,?_⟩
     .exact en br (()) (by intro k h;omega)
     .rintro i x hi hJ;simp only[hF,aA,am,eE hi];refine ix (QT hi) ?_;simp only[am,bn.an];refine cl (adm s.bM[i] hg (b9.2 _ (fu hi))) ?_;cases hb:qa s.bM[i] with
      | false =>
       simp only[am,a_];refine aS ?_;simp[V.erase,aqb hi hb]
      | true =>
       simp only[am,a_,cT hi];refine fN (()) hi ?_ ?_ ?_ ?_ ?_ ?_
       .exact eN (br _ _) (A3 hJ (λ_=>hb))
       all_goals simp[hF,aA,am,bZ,bQ,dC,V.lo,bC.cE]
     .rintro x hJ;have e:=aqc (s:=s) (by omega) (by omega) (by first | exact .inr h3 | exact .inl ht) λk hk=>hJ k hk hk
      simp only[hF,aA,am,a_,eJ,a_];refine aS ?_;simp[V.erase,e]
   .have e:mF s=false:=by simp[mF,ht,h3]
    simp only[am,ht,aK (show ¬(s.bM.length:Int)=1 by omega)];refine aS ?_;simp[V.erase,e]
def VK{a n:Nat}(h:((s.drop a).take n).all gy=aa)(hn:a+n<=s.length)(he:∀hl:a+n<s.length,gy s[a+n]=ak):(fj (s.drop a)).length=n:=by
 have key:∀(r:List UInt8) (n:Nat),(r.take n).all gy=aa->n<=r.length->(∀hl:n<r.length,gy r[n]=ak)->(fj r).length=n:=by
  intro r;induction r with
  | nil=>intro n _ h2 _;simp at h2;subst h2;rfl
  | cons c r ih =>
   intro n h1 h2 h3;cases n with
   | zero=>have:=h3 (by simp);simp at this;simp[fj,this]
   | succ n =>
    simp only[vw,tR,bA] at h1
    have:=ih n h1.2 (by simpa using h2) (λhl=>h3 (Nat.succ_lt_succ hl))
    simp only[fj] at this;simp[fj,h1.1,this]
 refine key _ _ h (by simp;omega) λhl=>?_
 have gz : a+n<s.length:=by simp at hl;omega
 have:=he gz
 simpa using this
def drop_cons{a:Nat}(h:a<s.length):s.drop a=s[a]::s.drop (a+1):=mi h
def aqZ{l:List Tok}(h:j<l.length):(l.map Tok.enc)[((j:Nat):Int).toNat]?=U (iY l j).enc:=by simp[iY,h]
def aem:aT prog 121 (sq [rg 2 [ox 1 5 0,oz 1],sq [rg 3 [fo 0 1],.block 0 (sq [sq [rg 6 [oB .eql 4 1,o1 5],cd 5 .skip (rg 7 [oB .eql 4 2,o1 5])],cd 5 (sq [rg 8 [fo 2 1,o1 2],.ret]) (sq [rg 11 [oB .eql 4 3,o1 10],cd 10 (sq [rg 12 [ol 5 1,oC 185 [12],oq (.cat (.c (.aF [123])) (.s 13)),oq (.cat (.s 14) (.c (.aF [125]))),o1 2],.ret]) (sq [rg 17 [oB .eql 4 4,o1 16],cd 16 (sq [rg 18 [ol 5 1,oC 186 [18],oq (.cat (.c (.aF [40])) (.s 19)),oq (.cat (.s 20) (.c (.aF [41]))),o1 2],.ret]) (sq [rg 23 [oB .eql 4 5,o1 22],cd 22 (sq [rg 24 [ol 5 1,oC 186 [24],oq (.cat (.c (.aF [91])) (.s 25)),oq (.cat (.s 26) (.c (.aF [93]))),o1 2],.ret]) (sq [rg 29 [oB .eql 4 6,o1 28],cd 28 (sq [dg 30 [of 2 1,mM [1],no,oq (.cat (.s 31) (.c (.aF [58,123]))),ol 5 1,oC 185 [33],oq (.cat (.s 32) (.s 34)),oq (.cat (.s 35) (.c (.aF [125]))),o1 2],.ret]) (sq [rg 38 [oB .eql 4 7,o1 37],cd 37 (sq [rg 39 [ol 5 1,oC 187 [39],oq (.cat (.c (.aF [35])) (.s 40)),o1 2],.ret]) (sq [rg 43 [oB .eql 4 8,o1 42],cd 42 (sq [rg 44 [ol 5 1,oC 186 [44],oq (.cat (.c (.aF [43,40])) (.s 45)),oq (.cat (.s 46) (.c (.aF [41]))),o1 2],.ret]) (sq [rg 49 [oB .eql 4 9,o1 48],cd 48 (sq [rg 50 [ol 5 1,oC 186 [50],oq (.cat (.c (.aF [38,40])) (.s 51)),oq (.cat (.s 52) (.c (.aF [41]))),o1 2],.ret]) (sq [rg 55 [oB .eql 4 10,o1 54],cd 54 (sq [rg 56 [ol 5 1,oC 188 [56],o1 2],.ret]) (sq [rg 59 [oB .eql 4 11,o1 58],ci 58 (sq [dg 60 [of 2 1,mM [1],no,oq (.cat (.s 61) (.c (.aF [61]))),ol 5 1,oC 187 [63],oq (.cat (.s 62) (.s 64)),o1 2],.ret])])])])])])])])])])])],rg 2 [oz 1],.ret]) [.tmp 2] 66:=aX func121
def aeX:aT prog 185 (sq [rg 2 [od (U 1) (.fZ 5 (.s 0)),oz 1],rg 3 [fo 3 1,nL,oq (.jx (.func 236) [] [(.s 1)]),oC 235 [5,6],o1 2],.ret]) [.tmp 2] 8:=aX func185 ⟨[1],[]⟩
def aeY:aT prog 186 (sq [rg 2 [od (U 1) (.fZ 5 (.s 0)),oz 1],rg 3 [fo 4 1,nL,oq (.jx (.func 237) [] [(.s 1)]),oC 235 [5,6],o1 2],.ret]) [.tmp 2] 8:=aX func186 ⟨[1],[]⟩
def aeZ:aT prog 187 (sq [rg 2 [ox 1 5 0,oz 1],sq [rg 3 [fo 4 1,nL,nB .eql 0],cr 6 2 [oz 1]],rg 7 [fo 4 1,nI 5 0,nl 5,oC 121 [10],o1 2],.ret]) [.tmp 2] 12:=aX func187
def ae0:aT prog 188 (sq [rg 2 [ox 1 5 0,oz 1],rg 4 [ol 5 1,oC 186 [4],oq (.cat (.c (.aF [91])) (.s 5)),o1 3],sq [rg 7 [fo 3 1,nL,nB .gtr 0],ci 10 (rg 11 [om 3,ol 5 1,oC 185 [12],oq (.cat (.c (.aF [124])) (.s 13)),oq (.cat (.s 11) (.s 14)),o1 3])],rg 16 [om 3,oq (.cat (.s 16) (.c (.aF [93]))),o1 2],.ret]) [.tmp 2] 18:=aX func188
def afs:aT prog 235 (sq [rg 4 [oz 1],rg 5 [oz 6],sq [rg 7 [om 0,oi 0],lp 7 0 (sq [rg 10 [om 8,o1 6],sq [rg 11 [om 6,nB .gtr 0],ci 12 (rg 13 [om 5,oq (.j9 1 [(.c (.int .u8 44))]),na 1 13,o1 5])],rg 16 [om 5,om 1,om 6,oq (.ij (.s 17) [(.s 18)]),oq (.mj (.s 16) (.s 19)),o1 5]]) 21],rg 22 [om 5,oq (.sF (.s 22)),o1 4],.ret]) [.tmp 4] 24:=aX func235
def aft:aT prog 236 (sq [rg 3 [oz 1],rg 4 [fo 3 1,om 0,nA 2 5,nF 0,o1 3],.ret]) [.tmp 3] 10:=aX func236
def afu:aT prog 237 (sq [rg 3 [oz 1],rg 4 [fo 4 1,om 0,nA 5 5,nl 5,oC 121 [8],o1 3],.ret]) [.tmp 3] 10:=aX func237
def LG(n:Nat)(g:FuncId)(cap:List V)(f:Nat->List UInt8)(D:ag)(i Z:Nat):St :=
 ⟨[.int .i64 (n:Nat),.fn (.func g) [] cap,.any,.any,.any,.sl (.tk Z) 1 (dc (cz ((cc i).map f))),.any,.int .i64 (n:Nat),.int .i64 (i:Nat)]++aA 15 .any,[],D.aR Z (cz ((cc i).map f)).length⟩
def Vm(f:Nat->List UInt8)(i:Nat):cz ((cc (i+1)).map f)=cz ((cc i).map f)++(if 0<i then [44] else [])++f i:=by
 rw[tV,fX,EY,S_];simp
def aoS(f:Nat->List UInt8){n:Nat}(h:i<=n):(cz ((cc i).map f)).length<=(cz ((cc n).map f)).length:=by
 induction n with
 | zero =>
  have:i=0:=by omega
  rw[this];exact bL _
 | succ n ih =>
  by_cases hi:i=n+1
  .rw[hi];exact bL _
  .have:=ih (by omega)
   rw[Vm];simp only[bI];omega
def Qd{n:Nat}{f:Nat->List UInt8}(nW:bH cap=aa)(hn:n<=aM)(hb:(cz ((cc n).map f)).length<=aM)
 (h:∀i,i<n->∀cR:ag,cR.box=D.box->cm prog g (.int .i64 (i:Nat)::cap) cR λv σ' => v = .aF (f i)/\σ' = cR) :
 bc 235 [.int .i64 (n:Nat),.fn (.func g) [] cap] D (.aF (cz ((cc n).map f))):=by
 refine afs.aV ?_;simp only[aU,am,a8,Nat.reduceAdd];refine iE (λp:{p:Nat × Nat // D.aJ p.2=ae/\p.1<=n}=>LG n g cap f D p.1.1 p.1.2) (λp=>n - p.1.1) ?_ ?_
 .refine bm.Ay 0 λZ bp=>⟨⟨(0,Z),bp,by simp⟩,?_,rfl,rfl⟩
  simp[LG,aA,n7,cz,dc]
 .rintro⟨⟨i,Z⟩,bp,hi⟩;simp only at bp hi;simp only[LG,aA,am];refine fc ?_ ?_
  .intro az;have az:i<n:=by simpa using az
   have hs:=Vm f i;have hm:=aoS f (i:=i+1) (n:=n) (by omega);simp only[aM] at hn hb;rw[hs] at hm;simp only[bI] at hm;have wi:IntKind.i64.wrap ((i:Int)+1)=(i:Int)+1:=wrap_i64 (by omega) (by omega);simp only[am]
   by_cases h0:0<i
   case' pos =>
    rw[aD h0] at hs hm;simp only[am,aP (show(0:Int)<i by omega)];refine jI (by simp[iR,aM];simp at hm;omega) (by rw[iR,iX]) ?_;simp only[am,jn];rw[show dc (cz ((cc i).map f))++[[.int .u8 44]]=dc (cz ((cc i).map f)++[44]) by simp[dc],show(dc (cz ((cc i).map f))).length+1=(cz ((cc i).map f)++[44]).length by simp[dc]]
   case' neg =>
    rw[aB h0,eg] at hs;rw[aB h0] at hm;simp only[am,aK (show ¬(0:Int)<i by omega)]
   all_goals
    refine⟨nW,?_⟩;refine(h i az (D.aR Z _) rfl).mono ?_;rintro v σ' ⟨rfl,rfl⟩;simp only[am,cF];refine⟨_,rfl,?_⟩;refine jI (by simp[iR,aM];simp at hm;omega) (by rw[iR,iX]) ?_;simp only[am,jn,wi];rw[<-CV,iR,iR,<-bI,<-hs];exact bm.again ⟨(i+1,Z),bp,az⟩ (by simp;omega) (by simp[am]) ch.rfl bN.rfl
  .intro az;have az:i=n:=by simp at az;omega
   subst az;simp only[am,cF];refine⟨_,_,rfl,?_⟩;refine aN rfl (sj bp) ⟨?_,rfl⟩;simp[V.erase]
def alD{n:Nd}(hi:i<n.aj.length)(hq:D.box q=U n.enc):bc 236 [.int .i64 (i:Nat),.ptr (.out q) 0] D (.aF (n.aj[i].al)):=by
 refine aft.aV ?_;simp only[aU,am,a8,Nat.reduceAdd];simp only[am,hq,Nd.fl];refine ix (qw (show n.aj[i]?=U n.aj[i] by simp[hi])) ?_;simp only[am,au.enc];exact rt
def ajE{n:Nd}(hi:i<n.ah.length)(hq:D.box q=U n.enc)(ih:∀m∈n.ah,∀D,bc 121 [.agg m.enc] D (.aF m.da)):
 bc 237 [.int .i64 (i:Nat),.ptr (.out q) 0] D (.aF (n.ah[i].da)):=by
 refine afu.aV ?_;simp only[aU,am,a8,Nat.reduceAdd];simp only[am,hq,Nd.fl];refine ix (l6 (show n.ah[i]?=U n.ah[i] by simp[hi])) ?_;simp only[am,Nd.an];refine cl (ih n.ah[i] (fu hi) D) ?_;simp only[am];exact rt
def Vl(l:List O)(f:O->List UInt8)(d:List UInt8):(cc l.length).map (λi=>if h:i<l.length then f l[i] else d)=l.map f:=by
 apply OP;intro i
 by_cases h:i<l.length<;>simp[h]
def Mq{n:Nd}(hw:n.wt<=aM):bc 185 [.agg n.enc] D (.aF (ia n.aj)):=by
 have h1:=EJ n.aj;have h2:n.aj.length<=eB n.aj:=by
  unfold eB;generalize n.aj=l;induction l with
  | nil=>simp
  | cons w ws ih=>simp only[bX,mO,db];omega
 have h3:eB n.aj<=n.wt:=by cases n;simp only[Nd.wt,Nd.aj];omega
 have e:cz ((cc n.aj.length).map (λi=>if h:i<n.aj.length then n.aj[i].al else []))=ia n.aj:=by
  rw[Vl n.aj (λw=>w.al) []];rfl
 refine aeX.aV ?_;simp only[aU,am,a8,Nat.reduceAdd,Nd.an];refine jU λq hq=>?_
 simp only[am,aO,Nd.fl];refine(Qd (f:=λi=>if h:i<n.aj.length then n.aj[i].al else []) rfl (by omega) (by rw[e];omega) (λi hi cR h1=>?_)).mono ?_
 .rw[CS hi];exact alD hi (by rw[h1];exact ag.dR _ _ _)
 rintro v σ' ⟨rfl,rfl⟩;simp only[am];refine aN rfl (h_ hq) ⟨?_,rfl⟩;rw[e];simp[V.erase]
def DN{n:Nd}(hw:n.wt<=aM)(ih:∀m∈n.ah,∀D,bc 121 [.agg m.enc] D (.aF m.da)):bc 186 [.agg n.enc] D (.aF (cz (dD n.ah))):=by
 have h1:=G9 n.ah (AA n.ah);have h2:n.ah.length<=fk n.ah:=by
  rw[EK];generalize n.ah=l;induction l with
  | nil=>simp
  | cons w ws ih=>simp only[bX,mO,db];omega
 have h3:fk n.ah<=n.wt:=by cases n;simp only[Nd.wt,Nd.ah];omega
 have e:cz ((cc n.ah.length).map (λi=>if h:i<n.ah.length then n.ah[i].da else []))=cz (dD n.ah):=by
  rw[Vl n.ah (λw=>w.da) [],AB]
 refine aeY.aV ?_;simp only[aU,am,a8,Nat.reduceAdd,Nd.an];refine jU λq hq=>?_
 simp only[am,aO,Nd.fl];refine(Qd (f:=λi=>if h:i<n.ah.length then n.ah[i].da else []) rfl (by omega) (by rw[e];omega) (λi hi cR h1=>?_)).mono ?_
 .rw[CS hi];exact ajE hi (by rw[h1];exact ag.dR _ _ _) ih
 rintro v σ' ⟨rfl,rfl⟩;simp only[am];refine aN rfl (h_ hq) ⟨?_,rfl⟩;rw[e];simp[V.erase]
def Q3{n:Nd}(ih:∀m∈n.ah,∀D,bc 121 [.agg m.enc] D (.aF m.da)):bc 187 [.agg n.enc] D (.aF (qc (dD n.ah))):=by
 refine aeZ.aV ?_;simp only[aU,am,a8,Nat.reduceAdd,Nd.an];simp only[am,aO,Nd.fl];cases hk:n.ah with
 | nil =>
  simp only[am,bS,eC,ei,wX];refine aS ?_;simp[V.erase,qc,dD]
 | cons m ms =>
  simp only[am,aK (show ¬(((m::ms).length:Nat):Int)=0 by simp;omega),Nd.fl,hk];refine xW (c:=m.enc) (by simp) ?_;simp only[am,Nd.an];refine cl (ih m (by rw[hk];simp) D) ?_;simp only[am];refine aS ?_;simp[V.erase,qc,dD]
def apk{n:Nd}(hw:n.wt<=aM)(ih:∀m∈n.ah,∀D,bc 121 [.agg m.enc] D (.aF m.da)):
 bc 188 [.agg n.enc] D (.aF (([91]++cz (dD n.ah))++(if 0<n.aj.length then [124]++ia n.aj else [])++[93])):=by
 have h1:=G9 n.ah (AA n.ah);have h2:=EJ n.aj;have h3:fk n.ah+eB n.aj+4<=n.wt:=by cases n;simp only[Nd.wt,Nd.ah,Nd.aj];omega
 refine ae0.aV ?_;simp only[aU,am,a8,Nat.reduceAdd,Nd.an];refine cl (DN hw ih) ?_;simp only[am];refine⟨by simp;omega,?_⟩;simp only[am,aO,Nd.fl]
 by_cases h0:0<n.aj.length
 .simp only[am,Nd.an,aP (show(0:Int)<n.aj.length by omega)];refine cl (Mq hw) ?_;simp only[am];refine⟨by simp;omega,by simp;omega,by simp;omega,?_⟩;refine aS ?_;simp[V.erase,h0]
 .simp only[am,aK (show ¬(0:Int)<n.aj.length by omega)];refine⟨by simp;omega,?_⟩;refine aS ?_;simp[V.erase,h0]
def aq3:∀(k:Nat) (n:Nd) (D:ag),n.wt<=k->n.wt<=aM->bc 121 [.agg n.enc] D (.aF n.da):=by
 intro k;induction k with
 | zero=>intro n D h _;cases n;simp only[Nd.wt] at h;omega
 | succ k sW =>
  intro n D hk hw;have ih:∀m∈n.ah,∀D,bc 121 [.agg m.enc] D (.aF m.da):=λm hm D=>by
   have h1:=Iq hm;have h2:fk n.ah+4<=n.wt:=by cases n;simp only[Nd.wt,Nd.ah];omega
   exact sW m D (by omega) (by omega)
  have h1:=G9 n.ah (AA n.ah);have h2:=EJ n.aj;have h3:n.al.length+fk n.ah+eB n.aj+4<=n.wt:=by cases n;simp only[Nd.wt,Nd.ah,Nd.aj,Nd.al];omega
  have h4:=Sg n.ah (AA n.ah);have e:n.da=if n.kind=1\/n.kind=2 then n.al else if n.kind=3 then [123]++ia n.aj++[125] else if n.kind=4 then [40]++cz (dD n.ah)++[41] else if n.kind=5 then [91]++cz (dD n.ah)++[93]
   else if n.kind=6 then n.al++[58,123]++ia n.aj++[125] else if n.kind=7 then [35]++qc (dD n.ah) else if n.kind=8 then [43,40]++cz (dD n.ah)++[41] else if n.kind=9 then [38,40]++cz (dD n.ah)++[41]
   else if n.kind=10 then([91]++cz (dD n.ah))++(if 0<n.aj.length then [124]++ia n.aj else [])++[93] else if n.kind=11 then n.al++[61]++qc (dD n.ah) else []:=by cases n;rw[Nd.da];rfl
  rw[e];refine aem.aV ?_;simp only[aU,am,a8,Nat.reduceAdd,Nd.an];simp only[am,Nd.fl]
  by_cases k1:n.kind=1
  .simp only[am,aP k1,Nd.fl];refine aS ?_;simp[V.erase,k1]
  simp only[am,aK k1]
  by_cases k2:n.kind=2
  .simp only[am,aP k2,Nd.fl];refine aS ?_;simp[V.erase,k2]
  simp only[am,aK k2]
  by_cases k3:n.kind=3
  .simp only[am,Nd.an,aP k3];refine cl (Mq hw) ?_;simp only[am];refine⟨by simp;omega,by simp;omega,?_⟩;refine aS ?_;simp[V.erase,k3]
  simp only[am,aK k3]
  by_cases k4:n.kind=4
  .simp only[am,Nd.an,aP k4];refine cl (DN hw ih) ?_;simp only[am];refine⟨by simp;omega,by simp;omega,?_⟩;refine aS ?_;simp[V.erase,k4]
  simp only[am,aK k4]
  by_cases k5:n.kind=5
  .simp only[am,Nd.an,aP k5];refine cl (DN hw ih) ?_;simp only[am];refine⟨by simp;omega,by simp;omega,?_⟩;refine aS ?_;simp[V.erase,k5]
  simp only[am,aK k5]
  by_cases k6:n.kind=6
  .simp only[am,Nd.an,aP k6,Nd.fl];refine⟨by simp;omega,?_⟩;refine bJ.intro (Mq hw) ?_;simp only[am,Nd.fl];refine⟨by simp;omega,by simp;omega,?_⟩;refine aS ?_;simp[V.erase,k6]
  simp only[am,aK k6]
  by_cases k7:n.kind=7
  .simp only[am,Nd.an,aP k7];refine cl (Q3 ih) ?_;simp only[am];refine⟨by simp;omega,?_⟩;refine aS ?_;simp[V.erase,k7]
  simp only[am,aK k7]
  by_cases k8:n.kind=8
  .simp only[am,Nd.an,aP k8];refine cl (DN hw ih) ?_;simp only[am];refine⟨by simp;omega,by simp;omega,?_⟩;refine aS ?_;simp[V.erase,k8]
  simp only[am,aK k8]
  by_cases k9:n.kind=9
  .simp only[am,Nd.an,aP k9];refine cl (DN hw ih) ?_;simp only[am];refine⟨by simp;omega,by simp;omega,?_⟩;refine aS ?_;simp[V.erase,k9]
  simp only[am,aK k9]
  by_cases zR:n.kind=10
  .simp only[am,Nd.an,aP zR];refine cl (apk hw ih) ?_;simp only[am];refine aS ?_;simp[V.erase,zR]
  simp only[am,aK zR]
  by_cases G5:n.kind=11
  .simp only[am,Nd.an,aP G5,Nd.fl];refine⟨by simp;omega,?_⟩;refine bJ.intro (Q3 ih) ?_;simp only[am,Nd.fl];refine⟨by simp;omega,?_⟩;refine aS ?_;simp[V.erase,G5]
  simp only[am,aK G5];refine aS ?_;simp[V.erase,k1,k2,k3,k4,k5,k6,k7,k8,k9,zR,G5]
def aeU:aT prog 182 (sq [rg 2 [ox 1 5 0,oz 2],sq [rg 3 [fo 0 1],.block 0 (sq [rg 6 [oB .eql 4 1,o1 5],cd 5 (sq [rg 7 [ol 5 1,oC 227 [7],o1 2],.ret]) (sq [rg 10 [oB .eql 4 7,o1 9],cd 9 (sq [rg 11 [ol 5 1,oC 228 [11],gA,fo 4 1,nL,nB .eql 1,gZ,gA,fo 4 1,nI 5 0,nl 5,oC 229 [23],gZ,o1 2],.ret]) (sq [sq [rg 27 [oB .eql 4 8,o1 26],cd 26 .skip (rg 28 [oB .eql 4 9,o1 26])],cr 26 29 [ol 5 1,oC 228 [29],gA,fo 4 1,nL,nB .gtr 0,gZ,gA,fo 4 1,oc 230 [.s 39,.c (.fn (.func 182) [] [])],gZ,o1 2]])])])],rg 2 [oz 2],.ret]) [.tmp 2] 42:=aX func182
def afi:aT prog 225 (sq [rg 2 [ox 1 5 0,oz 2],sq [rg 3 [fo 0 1,nB .eql 10],cr 5 6 [fo 2 1,oq (.nD .eql (.s 7) (.c (.aF []))),gA,fo 3 1,nL,nB .leq 1,gZ,gA,fo 3 1,oC 273 [17],gZ,gA,fo 4 1,oc 230 [.s 22,.c (.fn (.func 274) [] [])],gZ,o1 2]],rg 25 [fo 0 1,nB .eql 1,gA,ol 5 1,oC 182 [29],gZ,o1 2],.ret]) [.tmp 2] 32:=aX func225
def afk:aT prog 227 (sq [rg 2 [ox 1 5 0,oz 2],rg 3 [fo 2 1,oC 161 [4],gA,fo 3 1,nL,fo 4 1,nL,nb .add 9,nB .eql 0,gZ,o1 2],.ret]) [.tmp 2] 16:=aX func227
def afl:aT prog 228 (sq [rg 2 [ox 1 5 0,oz 2],rg 3 [fo 2 1,oq (.nD .eql (.s 4) (.c (.aF []))),gA,fo 3 1,nL,nB .eql 0,gZ,o1 2],.ret]) [.tmp 2] 12:=aX func228
def afm:aT prog 229 (sq [rg 2 [ox 1 5 0,oz 2],sq [rg 3 [fo 0 1],.block 0 (sq [rg 6 [oB .eql 4 2,o1 5],cd 5 (sq [rg 7 [ol 5 1,oC 227 [7],o1 2],.ret]) (sq [rg 10 [oB .eql 4 3,o1 9],cd 9 (sq [rg 11 [fo 2 1,oq (.nD .eql (.s 12) (.c (.aF []))),gA,fo 3 1,oC 273 [16],gZ,gA,fo 4 1,nL,nB .eql 0,gZ,o1 2],.ret]) (sq [rg 26 [oB .eql 4 4,o1 25],cd 25 (sq [rg 27 [ol 5 1,oC 228 [27],gA,fo 4 1,nL,nB .gtr 0,gZ,gA,fo 4 1,oc 230 [.s 37,.c (.fn (.func 229) [] [])],gZ,o1 2],.ret]) (sq [rg 41 [oB .eql 4 5,o1 40],cr 40 42 [ol 5 1,oC 228 [42],gA,fo 4 1,oc 230 [.s 46,.c (.fn (.func 275) [] [])],gZ,o1 2]])])])])],rg 2 [oz 2],.ret]) [.tmp 2] 49:=aX func229
def afn:aT prog 230 (sq [rg 4 [oz 2],sq [rg 7 [om 0,nL,oi 0],lp 8 0 (sq [rg 11 [oA 5 7 9,nl 5,oZ 6 [0,0,1,7,10],o2 5 6],rg 13 [om 1,ol 5 6,oq (.ij (.s 13) [(.s 14)]),nn],cr 16 4 [oz 2]]) 17],rg 4 [oq (.mv (.c (.bool aa)))],.ret]) [.tmp 4] 18:=aX func230
def afU:aT prog 273 (sq [rg 2 [oz 2],sq [rg 5 [om 0,nL,oi 0],lp 6 0 (sq [rg 9 [oA 2 5 7,nl 2,oZ 4 [1,0],o2 2 4],rg 11 [fo 0 4,oC 161 [12],nn],cr 14 2 [oz 2]]) 15],rg 2 [oq (.mv (.c (.bool aa)))],.ret]) [.tmp 2] 16:=aX func273
def afV:aT prog 274 (sq [rg 2 [ox 1 5 0,oz 2],rg 3 [fo 0 1,nB .eql 11,gA,fo 2 1,oC 161 [8],gZ,gA,fo 3 1,nL,nB .eql 0,gZ,gA,fo 4 1,nL,nB .eql 1,gZ,gA,fo 4 1,nI 5 0,nl 5,oC 296 [27],gZ,o1 2],.ret]) [.tmp 2] 30:=aX func274
def afW:aT prog 275 (sq [rg 2 [ox 1 5 0,oz 2],rg 3 [fo 0 1,nB .eql 6,gA,fo 2 1,oC 161 [8],gZ,gA,fo 3 1,oC 273 [13],gZ,gA,fo 4 1,nL,nB .eql 0,gZ,o1 2],.ret]) [.tmp 2] 22:=aX func275
def agc:aT prog 296 (sq [rg 2 [ox 1 5 0,oz 2],rg 3 [fo 0 1,nB .eql 1,gB,fo 0 1,nB .eql 7,gZ,gA,ol 5 1,oC 182 [12],gZ,o1 2],.ret]) [.tmp 2] 15:=aX func296
def Xv{l:List O}{f:O->Bool}(h:i<l.length):(l.take (i+1)).all f=((l.take i).all f&&f l[i]):=by
 rw[Ex (cH h),IB];simp only[tR,OI,vp]
def Pk{l:List O}{f:O->Bool}(h:i<l.length)(hf:f l[i]=ak):l.all f=false:=by
 rw[IC];exact⟨l[i],fu h,by simp[hf]⟩
def LB(l:List au)(D:ag)(i:Nat):St :=
 ⟨[.sl .no 2 (l.map au.enc)]++aA 4 .any++[.sl .no 2 (l.map au.enc),.int .i64 l.length,.int .i64 (i:Nat)]++aA 8 .any,[],D⟩
def Nh(l:List au)(D:ag)(hb:l.length<=aM):bc 273 [.sl .no 2 (l.map au.enc)] D (.bool (hH l)):=by
 simp only[aM] at hb;refine afU.aV ?_;simp only[aU,am,a8,Nat.reduceAdd];refine iE (λp:{i:Nat // i<=l.length/\(l.take i).all (λw=>dy w.al)=aa}=>LB l D p.1) (λp=>l.length - p.1) ?_ ?_
 .refine bm.enter ⟨0,by simp,by simp⟩ ?_ ch.rfl bN.rfl;simp[LB,aA,am]
 .rintro⟨i,hi,ha⟩;simp only[LB,aA,am];refine fc ?_ ?_
  .intro az;have az:i<l.length:=by simpa using az
   simp only[am];refine ix (qw (cH az)) ?_;simp only[am,Nat.reduceAdd,au.enc];refine cl (tj l[i].al D) ?_;cases hg:dy l[i].al
   .simp only[am];refine aN rfl (ag.bd _) ⟨?_,rfl⟩;rw[show hH l=ak from Pk (f:=λ(w:au)=>dy w.al) az hg];rfl
   .simp only[am];rw[wrap_i64];exact bm.ud ⟨i+1,az,by rw[Xv az,ha,hg];rfl⟩ (by simp;omega) (by simp[am]) (by simp[am]) bN.rfl rfl rfl
  .intro az;have az:i=l.length:=by simp at az;omega
   subst az;rw[eH] at ha;simp only[am];refine aS ?_;simp[V.erase,hH,ha]
def LC(g:FuncId)(l:List Nd)(D:ag)(i:Nat):St :=
 ⟨[.sl .no 5 (l.map Nd.enc),.fn (.func g) [] []]++aA 5 .any++[.sl .no 5 (l.map Nd.enc),.int .i64 l.length,.int .i64 (i:Nat)]++aA 8 .any,[],D⟩
def Fo{f:Nd->Bool}(l:List Nd)(D:ag)(hb:l.length<=aM)(h:∀n∈l,bc g [.agg n.enc] D (.bool (f n))):bc 230 [.sl .no 5 (l.map Nd.enc),.fn (.func g) [] []] D (.bool (l.all f)):=by
 simp only[aM] at hb;refine afn.aV ?_;simp only[aU,am,a8,Nat.reduceAdd];refine iE (λp:{i:Nat // i<=l.length/\(l.take i).all f=aa}=>LC g l D p.1) (λp=>l.length - p.1) ?_ ?_
 .refine bm.enter ⟨0,by simp,by simp⟩ ?_ ch.rfl bN.rfl;simp[LC,aA,am]
 .rintro⟨i,hi,ha⟩;simp only[LC,aA,am];refine fc ?_ ?_
  .intro az;have az:i<l.length:=by simpa using az
   simp only[am];refine ix (l6 (cH az)) ?_;simp only[am,Nd.an];refine cl (h l[i] (fu az)) ?_;cases hg:f l[i]
   .simp only[am];refine aS ?_;simp[V.erase,Pk az hg]
   .simp only[am];rw[wrap_i64];exact bm.ud ⟨i+1,az,by rw[Xv az,ha,hg];rfl⟩ (by simp;omega) (by simp[am]) (by simp[am]) bN.rfl rfl rfl
  .intro az;have az:i=l.length:=by simp at az;omega
   subst az;rw[eH] at ha;simp only[am];refine aS ?_;simp[V.erase,ha]
def so:=af @am <| af @a8 <| af @Nd.an @Nd.fl
def iF:=af @am <| af @pf <| af @cF <| af @ka <| af @bS <| af @ff <| af @ar.an <| af @Nd.an <| af @au.an <| af @ca.an @Nd.fl
def Ts(n:Nd)(D:ag)(hb:n.aj.length+n.ah.length<=aM):bc 227 [.agg n.enc] D (.bool n.kl):=by
 simp only[aM] at hb;refine afk.aV ?_;simp only[aU,so,Nat.reduceAdd];refine cl (tj n.al D) ?_;simp only[am]
 repeat' (first
  | (refine kH (λh=>?_) (λh=>?_)<;>simp only[am,h,aO,Nd.fl,wrap_i64 (x:=(n.aj.length:Int)+n.ah.length) (by omega) (by omega)])
  | (refine fc (λh=>?_) (λh=>?_)<;>simp only[iF,h,Nat.reduceAdd,Nat.reduceEqDiff,aO,wrap_i64 (x:=(n.aj.length:Int)+n.ah.length) (by omega) (by omega)])
  | (refine kX (λh=>?_) (λh=>?_)<;>simp only[iF,h,Nat.reduceAdd,Nat.reduceEqDiff,aO,wrap_i64 (x:=(n.aj.length:Int)+n.ah.length) (by omega) (by omega)])
 )
 all_goals refine aS ?_
 all_goals simp_all [V.erase,Nd.kl]
 all_goals (try omega)
def FB(n:Nd)(D:ag):bc 228 [.agg n.enc] D (.bool n.kB):=by
 refine afl.aV ?_;simp only[aU,so,Nat.reduceAdd]
 repeat' (first
  | (refine kH (λh=>?_) (λh=>?_)<;>simp only[am,h,aO,Nd.fl])
  | (refine fc (λh=>?_) (λh=>?_)<;>simp only[iF,h,Nat.reduceAdd,Nat.reduceEqDiff,aO])
  | (refine kX (λh=>?_) (λh=>?_)<;>simp only[iF,h,Nat.reduceAdd,Nat.reduceEqDiff,aO])
 )
 all_goals refine aS ?_
 all_goals simp_all [V.erase,Nd.kB]
 all_goals (try omega)
def AH(n:Nd):n.aj.length+n.ah.length+4<=n.wt:=by
 have h2:n.aj.length<=eB n.aj:=by
  unfold eB;generalize n.aj=l;induction l with
  | nil=>simp
  | cons w ws ih=>simp only[bX,mO,db];omega
 have h3:n.ah.length<=fk n.ah:=by
  rw[EK];generalize n.ah=l;induction l with
  | nil=>simp
  | cons w ws ih=>simp only[bX,mO,db];omega
 have h1:fk n.ah+eB n.aj+4<=n.wt:=by cases n;simp only[Nd.wt,Nd.ah,Nd.aj];omega
 omega
def apu(n:Nd)(D:ag)(hw:n.wt<=aM):bc 275 [.agg n.enc] D (.bool n.o5):=by
 have hn:=AH n;refine afW.aV ?_;simp only[aU,so,Nat.reduceAdd]
 repeat' (first
  | (refine kH (λh=>?_) (λh=>?_)<;>simp only[am,h,aO,Nd.fl])
  | (refine fc (λh=>?_) (λh=>?_)<;>simp only[iF,h,Nat.reduceAdd,Nat.reduceEqDiff,aO])
  | (refine kX (λh=>?_) (λh=>?_)<;>simp only[iF,h,Nat.reduceAdd,Nat.reduceEqDiff,aO])
  | (refine(tj n.al D).mono ?_;rintro v _ ⟨rfl,rfl⟩;simp only[am])
  | (refine(Nh n.aj _ (by omega)).mono ?_;rintro v _ ⟨rfl,rfl⟩;simp only[am])
 )
 all_goals refine aS ?_
 all_goals simp_all [V.erase,Nd.o5]
 all_goals (try omega)
def Ql:∀(k:Nat) (n:Nd) (D:ag),n.wt<=k->n.wt<=aM->bc 229 [.agg n.enc] D (.bool n.il):=by
 intro k;induction k with
 | zero=>intro n D h _;cases n;simp only[Nd.wt] at h;omega
 | succ k sW =>
  intro n D hk hw;have hn:=AH n;have KQ:∀m∈n.ah,m.wt+5<=n.wt:=λm hm=>by
   have h1:=Iq hm;have h2:fk n.ah+4<=n.wt:=by cases n;simp only[Nd.wt,Nd.ah];omega
   omega
  have dj:bc 230 [.sl .no 5 (n.ah.map Nd.enc),.fn (.func 229) [] []] D (.bool (n.ah.all Nd.il)) :=
   Fo n.ah D (by omega) λm hm=>sW m D (by have:=KQ m hm;omega) (by have:=KQ m hm;omega)
  have aiI:bc 230 [.sl .no 5 (n.ah.map Nd.enc),.fn (.func 275) [] []] D (.bool (n.ah.all Nd.o5)) :=
   Fo n.ah D (by omega) λm hm=>apu m D (by have:=KQ m hm;omega)
  rw[Nd.y8];refine afm.aV ?_;simp only[aU,so,Nat.reduceAdd]
  by_cases k2:n.kind=2
  .simp only[am,Nd.an,aP k2];refine cl (Ts n D (by omega)) ?_;simp only[am];refine aS ?_;simp[V.erase,k2]
  simp only[am,aK k2]
  by_cases k3:n.kind=3
  .simp only[am,Nd.fl,aP k3]
   repeat' (first
    | (refine kH (λh=>?_) (λh=>?_)<;>simp only[am,h,aO,Nd.fl])
    | (refine fc (λh=>?_) (λh=>?_)<;>simp only[iF,h,Nat.reduceAdd,Nat.reduceEqDiff,aO])
    | (refine kX (λh=>?_) (λh=>?_)<;>simp only[iF,h,Nat.reduceAdd,Nat.reduceEqDiff,aO])
    | (refine(Nh n.aj _ (by omega)).mono ?_;rintro v _ ⟨rfl,rfl⟩;simp only[am])
   )
   all_goals refine aS ?_
   all_goals simp_all [V.erase]
   all_goals (try omega)
  simp only[am,aK k3]
  by_cases k4:n.kind=4
  .simp only[am,Nd.an,aP k4];refine cl (FB n D) ?_;simp only[am]
   repeat' (first
    | (refine kH (λh=>?_) (λh=>?_)<;>simp only[am,h,aO,Nd.fl])
    | (refine fc (λh=>?_) (λh=>?_)<;>simp only[iF,h,Nat.reduceAdd,Nat.reduceEqDiff,aO])
    | (refine kX (λh=>?_) (λh=>?_)<;>simp only[iF,h,Nat.reduceAdd,Nat.reduceEqDiff,aO])
    | (refine dj.mono ?_;rintro v _ ⟨rfl,rfl⟩;simp only[am])
   )
   all_goals refine aS ?_
   all_goals simp_all [V.erase]
   all_goals (try omega)
  simp only[am,aK k4]
  by_cases k5:n.kind=5
  .simp only[am,Nd.an,aP k5];refine cl (FB n D) ?_;simp only[am]
   repeat' (first
    | (refine kH (λh=>?_) (λh=>?_)<;>simp only[am,h,Nd.fl])
    | (refine fc (λh=>?_) (λh=>?_)<;>simp only[iF,h,Nat.reduceAdd,Nat.reduceEqDiff,aO])
    | (refine kX (λh=>?_) (λh=>?_)<;>simp only[iF,h,Nat.reduceAdd,Nat.reduceEqDiff,aO])
    | (refine aiI.mono ?_;rintro v _ ⟨rfl,rfl⟩;simp only[am])
   )
   all_goals refine aS ?_
   all_goals simp_all [V.erase]
   all_goals (try omega)
  simp only[am,aK k5];refine aS ?_;simp[V.erase,k2,k3,k4,k5]
def mV{n m:Nd}(hm:m∈n.ah):m.wt+5<=n.wt:=by
 have h1:=Iq hm;have h2:fk n.ah+4<=n.wt:=by cases n;simp only[Nd.wt,Nd.ah];omega
 omega
def DS:∀(k:Nat) (n:Nd) (D:ag),n.wt<=k->n.wt<=aM->bc 182 [.agg n.enc] D (.bool n.eU):=by
 intro k;induction k with
 | zero=>intro n D h _;cases n;simp only[Nd.wt] at h;omega
 | succ k sW =>
  intro n D hk hw;have hn:=AH n;have dj:bc 230 [.sl .no 5 (n.ah.map Nd.enc),.fn (.func 182) [] []] D (.bool (n.ah.all Nd.eU)) :=
   Fo n.ah D (by omega) λm hm=>sW m D (by have:=mV hm;omega) (by have:=mV hm;omega)
  rw[Nd.s9];refine aeU.aV ?_;simp only[aU,so,Nat.reduceAdd]
  by_cases k1:n.kind=1
  .simp only[am,Nd.an,aP k1];refine cl (Ts n D (by omega)) ?_;simp only[am];refine aS ?_;simp[V.erase,k1]
  simp only[am,aK k1]
  by_cases k7:n.kind=7
  .simp only[am,Nd.an,aP k7];refine cl (FB n D) ?_;simp only[am];cases fM:n.ah with
   | nil =>
    simp only[am,ei,wX,show decide ((0:Int)=1)=ak from rfl]
    repeat' (first
     | (refine kH (λh=>?_) (λh=>?_)<;>simp only[am,h,Nd.fl,fM,eC,ei,wX,show decide ((0:Int)=1)=ak from rfl])
     | (refine fc (λh=>?_) (λh=>?_)<;>simp only[iF,h,Nat.reduceAdd,Nat.reduceEqDiff,aO,fM,eC,ei,wX,show decide ((0:Int)=1)=ak from rfl])
     | (refine kX (λh=>?_) (λh=>?_)<;>simp only[iF,h,Nat.reduceAdd,Nat.reduceEqDiff,aO,fM,eC,ei,wX,show decide ((0:Int)=1)=ak from rfl])
    )
    all_goals refine aS ?_
    all_goals simp_all [V.erase]
    all_goals (try omega)
   | cons m ms =>
    have hc:bc 229 [.agg m.enc] D (.bool m.il):=Ql _ m D (bL _) (by have:=mV (n:=n) (m:=m) (by rw[fM];simp);omega)
    repeat' (first
     | (refine kH (λh=>?_) (λh=>?_)<;>simp only[am,h,aO,Nd.fl,fM])
     | (refine fc (λh=>?_) (λh=>?_)<;>simp only[iF,h,Nat.reduceAdd,Nat.reduceEqDiff,aO,fM])
     | (refine kX (λh=>?_) (λh=>?_)<;>simp only[iF,h,Nat.reduceAdd,Nat.reduceEqDiff,aO,fM])
     | (refine xW (c:=m.enc) (by simp) ?_;simp only[am,Nd.an])
     | (refine hc.mono ?_;rintro v _ ⟨rfl,rfl⟩;simp only[am])
    )
    all_goals refine aS ?_
    all_goals simp_all [V.erase,uF]
    all_goals (try omega)
  simp only[am,aK k7]
  by_cases k8:n.kind=8
  case' pos =>
   simp only[am,Nd.an,aP k8]
  case' neg =>
   simp only[am,aK k8]
   by_cases k9:n.kind=9
   case' pos =>
    simp only[am,Nd.an,aP k9]
   case' neg =>
    simp only[am,aK k9];refine aS ?_;simp[V.erase,k1,k7,k8,k9]
  all_goals
   refine cl (FB n D) ?_;simp only[am]
   repeat' (first
    | (refine kH (λh=>?_) (λh=>?_)<;>simp only[am,h,aO,Nd.fl])
    | (refine fc (λh=>?_) (λh=>?_)<;>simp only[iF,h,Nat.reduceAdd,Nat.reduceEqDiff,aO])
    | (refine kX (λh=>?_) (λh=>?_)<;>simp only[iF,h,Nat.reduceAdd,Nat.reduceEqDiff,aO])
    | (refine dj.mono ?_;rintro v _ ⟨rfl,rfl⟩;simp only[am])
   )
   all_goals refine aS ?_
   all_goals simp_all [V.erase]
   all_goals (try omega)
def Y1(n:Nd)(D:ag)(hw:n.wt<=aM):bc 296 [.agg n.enc] D (.bool n.ph):=by
 refine agc.aV ?_;simp only[aU,so,Nat.reduceAdd]
 repeat' (first
  | (refine kH (λh=>?_) (λh=>?_)<;>simp only[am,h,Nd.an,Nd.fl])
  | (refine fc (λh=>?_) (λh=>?_)<;>simp only[iF,h,Nat.reduceAdd,Nat.reduceEqDiff,aO])
  | (refine kX (λh=>?_) (λh=>?_)<;>simp only[iF,h,Nat.reduceAdd,Nat.reduceEqDiff,aO])
  | (refine(DS _ n _ (bL _) hw).mono ?_;rintro v _ ⟨rfl,rfl⟩;simp only[am])
 )
 all_goals refine aS ?_
 all_goals simp_all [V.erase,Nd.ph]
 all_goals (try omega)
def adK(n:Nd)(D:ag)(hw:n.wt<=aM):bc 274 [.agg n.enc] D (.bool n.lr):=by
 refine afV.aV ?_;simp only[aU,so,Nat.reduceAdd];cases fM:n.ah with
 | nil =>
  repeat' (first
   | (refine kH (λh=>?_) (λh=>?_)<;>simp only[am,h,aO,Nd.fl,fM,eC,ei,wX,show decide ((0:Int)=1)=ak from rfl])
   | (refine fc (λh=>?_) (λh=>?_)<;>simp only[iF,h,Nat.reduceAdd,Nat.reduceEqDiff,aO,fM,eC,ei,wX,show decide ((0:Int)=1)=ak from rfl])
   | (refine kX (λh=>?_) (λh=>?_)<;>simp only[iF,h,Nat.reduceAdd,Nat.reduceEqDiff,aO,fM,eC,ei,wX,show decide ((0:Int)=1)=ak from rfl])
   | (refine(tj n.al _).mono ?_;rintro v _ ⟨rfl,rfl⟩;simp only[am])
  )
  all_goals refine aS ?_
  all_goals simp_all [V.erase,Nd.lr,uF]
  all_goals (try omega)
 | cons m ms =>
  have hc:bc 296 [.agg m.enc] D (.bool m.ph):=Y1 m D (by have:=mV (n:=n) (m:=m) (by rw[fM];simp);omega)
  repeat' (first
   | (refine kH (λh=>?_) (λh=>?_)<;>simp only[am,h,aO,Nd.fl,fM])
   | (refine fc (λh=>?_) (λh=>?_)<;>simp only[iF,h,Nat.reduceAdd,Nat.reduceEqDiff,aO,fM])
   | (refine kX (λh=>?_) (λh=>?_)<;>simp only[iF,h,Nat.reduceAdd,Nat.reduceEqDiff,aO,fM])
   | (refine(tj n.al _).mono ?_;rintro v _ ⟨rfl,rfl⟩;simp only[am])
   | (refine xW (c:=m.enc) (by simp) ?_;simp only[am,Nd.an])
   | (refine hc.mono ?_;rintro v _ ⟨rfl,rfl⟩;simp only[am])
  )
  all_goals refine aS ?_
  all_goals simp_all [V.erase,Nd.lr,uF]
  all_goals (try omega)
def Vz(n:Nd)(D:ag)(hw:n.wt<=aM):bc 225 [.agg n.enc] D (.bool n.iW):=by
 have hn:=AH n;have dj:bc 230 [.sl .no 5 (n.ah.map Nd.enc),.fn (.func 274) [] []] D (.bool (n.ah.all Nd.lr)) :=
  Fo n.ah D (by omega) λm hm=>adK m D (by have:=mV hm;omega)
 refine afi.aV ?_;simp only[aU,so,Nat.reduceAdd]
 by_cases zR:n.kind=10
 .simp only[am,Nd.fl,aP zR]
  repeat' (first
   | (refine kH (λh=>?_) (λh=>?_)<;>simp only[am,h,aO,Nd.fl])
   | (refine fc (λh=>?_) (λh=>?_)<;>simp only[iF,h,Nat.reduceAdd,Nat.reduceEqDiff,aO])
   | (refine kX (λh=>?_) (λh=>?_)<;>simp only[iF,h,Nat.reduceAdd,Nat.reduceEqDiff,aO])
   | (refine(Nh n.aj _ (by omega)).mono ?_;rintro v _ ⟨rfl,rfl⟩;simp only[am])
   | (refine dj.mono ?_;rintro v _ ⟨rfl,rfl⟩;simp only[am])
  )
  all_goals refine aS ?_
  all_goals simp_all [V.erase,Nd.iW]
  all_goals (try omega)
 .simp only[am,Nd.fl,aK zR]
  repeat' (first
   | (refine kH (λh=>?_) (λh=>?_)<;>simp only[am,h,Nd.an])
   | (refine fc (λh=>?_) (λh=>?_)<;>simp only[iF,h,Nat.reduceAdd,Nat.reduceEqDiff,aO])
   | (refine kX (λh=>?_) (λh=>?_)<;>simp only[iF,h,Nat.reduceAdd,Nat.reduceEqDiff,aO])
   | (refine(DS _ n _ (bL _) hw).mono ?_;rintro v _ ⟨rfl,rfl⟩;simp only[am])
  )
  all_goals refine aS ?_
  all_goals simp_all [V.erase,Nd.iW]
  all_goals (try omega)
def aeW:aT prog 184 (sq [rg 0 [ox 2 2 0,ox 3 5 1,oR 4 Bc,oZ 5 [0,0]],rg 0 [oR 6 Bc],rg 13 [ol 2 2,ol 5 3,oC 232 [13,14],o1 12,oe 12 0,oe 12 1,ot 7 16,o1 8],sq [rg 18 [om 8,nn,gB,ol 2 2,oC 233 [21],nn,gZ,gB,ol 5 3,oC 229 [26],nn,gZ],ci 29 (sq [dg 30 [ol 8 6,of 1 3,mM [1],no,oG [0,0] [(0,1,.c (.int .i64 4)),(1,1,.s 32)],os 8 4 30,o2 2 5],.ret])],rg 34 [oW [2,0] [],oq (.fZ 2 (.s 34)),o1 9],sq [rg 36 [fo 1 2,nL,oi 0],lp 38 0 (sq [rg 41 [om 39,oA 67 37 39,nl 67,oR 11 qK,ot 10 41,o2 67 11],dg 44 [om 10,om 9,ol 67 11,om 7,om 10,nA 5 47,nl 5,oC 234 [45,46,50],oP 8 1 6 44,os 1 52 51]]) 53],sq [rg 54 [mk 9,nF 0],ci 57 (sq [dg 58 [oY Bc [],mk 9,nf 1,mM [1],no,oG [0,0] [(0,1,.c (.int .i64 4)),(1,1,.s 62)],os 8 4 58,o2 2 5],.ret])],rg 64 [ol 8 6,oW [0,0] [],os 8 4 64,o2 2 5],.ret]) [.cell 4 aa 8,.cell 5 aa 2] 66:=aX func184 ⟨[35],[]⟩
def afp:aT prog 232 (sq [rg 4 [ox 2 2 0,ox 3 5 1,oz 10,oz 2],sq [rg 6 [fo 0 2,nn],cr 8 9 [ol 5 3,n1 5,o1 4,oV 5 (.bool aa)]],dg 11 [fo 4 3,fo 0 3,nB .eql 4,gA,fo 4 3,nL,fo 1 2,nL,nb .eql 19,gZ,ot 4 12,o1 5],.ret]) [.tmp 4,.tmp 5] 25:=aX func232
def afr:aT prog 234 (sq [rg 6 [ox 4 67 1,ox 5 5 2,oz 4],sq [dg 7 [of 0 5,mM [1],no,ol 67 4,oC 277 [9],nb .neq 8],cr 11 12 [om 0,fo 1 5,oC 278 [12,14],o1 6]],sq [rg 16 [fo 0 4],.block 0 (sq [rg 19 [oB .eql 17 2,o1 18],cd 18 (sq [rg 20 [om 0,fo 1 4,fo 3 5,oC 279 [20,22,24],o1 6],.ret]) (sq [rg 27 [oB .eql 17 3,o1 26],cr 26 28 [om 0,ol 67 4,ol 5 5,oC 280 [28,29,30],o1 6]])])],rg 32 [om 0,ol 67 4,ol 5 5,oC 281 [32,33,34],o1 6],.ret]) [.tmp 6] 36:=aX func234
def afY:aT prog 277 (sq [rg 2 [ox 1 67 0,oi 0],sq [rg 3 [fo 0 1],.block 0 (sq [rg 6 [oB .eql 4 2,o1 5],cd 5 (sq [rg 2 [oi 3],.ret]) (sq [rg 8 [oB .eql 4 3,o1 7],cr 7 2 [oi 5]])])],rg 2 [oi 2],.ret]) [.tmp 2] 9:=aX func277
def afZ:aT prog 278 (sq [rg 4 [oz 4],sq [rg 5 [mk 0,nF 0,nn],ci 9 (rg 10 [om 0,om 0,om 1,ok 10,nf 0,od ae (.store 1 (.s 14) (.c (.bool aa))),ok 11,nf 1,os 1 16 12])],rg 4 [oz 4],.ret]) [.tmp 4] 17:=aX func278
def af0:aT prog 279 (sq [rg 6 [oz 4],rg 7 [oz 4],sq [rg 11 [om 2,nL,oi 0],lp 12 0 (sq [rg 15 [oA 2 11 13,nl 2,oZ 9 [1,0],o2 2 9],rg 17 [om 1,fo 0 9,oC 173 [17,19],o1 10],sq [rg 21 [om 10,nB .lss 0],cr 22 23 [om 0,fo 1 9,oC 278 [23,25],o1 6]],rg 27 [om 7,om 10,oC 247 [27,28],o1 7]]) 30],rg 31 [om 7,o1 6],.ret]) [.tmp 6] 32:=aX func279
def af1:aT prog 280 (sq [rg 6 [ox 4 67 1,ox 5 5 2,oz 4],rg 7 [oz 4],sq [rg 11 [fo 4 5,nL,oi 0],lp 13 0 (sq [rg 16 [oA 5 12 14,nl 5,oZ 9 [0,0,1,7,10],o2 5 9],rg 18 [fo 1 4,fo 2 9,oC 173 [19,21],o1 10],sq [rg 23 [om 10,nB .lss 0],cr 24 25 [om 0,fo 1 9,oC 278 [25,27],o1 6]],dg 29 [om 7,of 2 4,mM [1],nl 65,om 10,om 0,fo 1 4,fo 3 9,oC 279 [33,35,37],oC 300 [31,32,38],nb .or 29,o1 7]]) 41],rg 42 [om 7,o1 6],.ret]) [.tmp 6] 43:=aX func280
def af2:aT prog 281 (sq [rg 6 [ox 4 67 1,ox 5 5 2,oz 4],rg 10 [fo 1 4,fo 2 5,oC 173 [11,13],o1 7],sq [rg 15 [om 7,nB .lss 0],cr 16 17 [om 0,fo 1 5,oC 278 [17,19],o1 6]],sq [rg 21 [fo 0 4,nB .eql 4],cr 23 24 [of 2 4,nl 65,om 7,oC 301 [25,26],o1 6]],rg 29 [fo 1 4,nL,om 7,oC 302 [31,32],o1 28,oe 28 0,oe 28 1,ot 8 34,o1 9],rg 36 [om 8,o1 6],.ret]) [.tmp 6] 37:=aX func281
abbrev BB(D:ag)(b:Nat)(o:Option Int):Prop:=D.box b=U (pj o)
def arn{b:Nat}{o:Option Int}(hg:TZ D)(h:BB D b o):TZ (D.set b c):=hg
def H0(b:Nat)(o:Option Int)(p:Int)(h:BB D b o):dn 278 [.ptr (.out b) 0,.int .i64 p] D (.int .u64 ((0#64:bz).toNat:Nat)) (D.set b (pj (o.or (U p)))):=by
 refine afZ.aV ?_;simp only[aU,am,a8,Nat.reduceAdd,tL];cases o with
 | none =>
  simp only[am,show D.box b=U [.bool ak,.int .i64 0] from h];exact aN rfl (ag.bd _) ⟨rfl,rfl⟩
 | some q =>
  have e:D.set b (pj ((U q).or (U p)))=D:=ag.yu h;simp only[am,show D.box b=U [.bool aa,.int .i64 q] from h];rw[e];exact aN rfl (ag.bd _) ⟨rfl,rfl⟩
def an4{l:List (List UInt8)}{w:au}{ws:List au}{s:bz}(h:gY l w.al=U k):gK l s (w::ws)=gK l (j6 s (k:Nat)) ws:=by simp only[gK,h]
def an3{l:List (List UInt8)}{w:au}{ws:List au}{s:bz}(h:gY l w.al=ae):gK l s (w::ws)=(0#64,U w.pos):=by simp only[gK,h]
def Wy(b:Nat)(o:Option Int)(l:List (List UInt8))(ws:List au)(h:BB D b o)(hl:l.length<=100000)(hw:ws.length<=1000000000):
 dn 279 [.ptr (.out b) 0,.sl .no 1 (cO l),.sl .no 2 (ws.map au.enc)] D (.int .u64 ((gK l 0#64 ws).1.toNat:Nat)) (D.set b (pj (o.or (gK l 0#64 ws).2))):=by
 refine af0.aV ?_;simp only[aU,am,a8,Nat.reduceAdd,tL,aO];refine eb (ws.length) (λi (x:bz)=>⟨[.ptr (.out b) 0,.sl .no 1 (cO l),.any,.any,.any,.any,.any,.int .u64 (x.toNat:Nat),.any,.any,.any,.sl .no 2 (ws.map au.enc),.int .i64 (ws.length:Nat),.int .i64 (i:Nat)]++aA 18 .any,[],D⟩) (λi x=>(gK l 0#64 ws=gK l x (ws.drop i))) λF hF JF br=>⟨?_,?_,?_⟩
 .exact en br (0#64) (rfl)
 .rintro i x hi hJ;rw[mi hi] at hJ;simp only[hF,aA,am,eE hi];refine ix (qw (cH hi)) ?_;simp only[am,Nat.reduceAdd,au.enc];refine cl (vP l ws[i].al D hl) ?_;simp only[am,BU];cases hf:gY l ws[i].al with
  | none =>
   rw[an3 hf] at hJ;simp only[am,AY];refine(H0 b o ws[i].pos h).mono ?_;rintro v σ' ⟨rfl,rfl⟩;simp only[am,a_];exact aN rfl (ag.bd _) ⟨by rw[hJ];rfl,by rw[hJ]⟩
  | some k =>
   rw[an4 hf] at hJ;simp only[am,Cy,de];refine cl (D7 x (k:Nat) D) ?_;simp only[am,a_,cT hi];refine fN (j6 x (k:Nat)) hi ?_ ?_ ?_ ?_ ?_ ?_
   .exact eN (br _ _) (hJ)
   all_goals simp[hF,aA,am,bZ,bQ,dC,V.lo]
 .rintro x hJ;rw[EU] at hJ;have e:D.set b (pj (o.or (gK l 0#64 ws).2))=D:=by rw[hJ];simp only[gK,Option.or_none];exact ag.yu h
  simp only[hF,aA,am,a_,eJ,a_];rw[e,hJ];refine aS ?_;simp[V.erase,gK]
def Ir:=af @am <| af @a8 <| af @tL <| af @bn.an <| af @Nd.an @Nd.fl
def as1:=af @am <| af @a_ <| af @Ce @bn.an
def apw(b:Nat)(o:Option Int)(f:bn)(n:Nd)(h:BB D b o)(hg:TZ D)(hl:f.aj.length<=100000)(hk:n.ah.length<=1000000000)(hw:∀k∈n.ah,k.aj.length<=1000000000):
 dn 280 [.ptr (.out b) 0,.agg f.enc,.agg n.enc] D (.int .u64 ((pR f 0#64 o n.ah).1.toNat:Nat)) (D.set b (pj (pR f 0#64 o n.ah).2)):=by
 refine af1.aV ?_;simp only[aU,Ir,Nat.reduceAdd,aO];have lU:D.set b (pj o)=D:=ag.yu h;refine eb (n.ah.length) (λi (x:bz × Option Int)=>⟨[.ptr (.out b) 0,.any,.any,.any,.ptr (.aC 0) 0,.ptr (.aC 1) 0,.any,.int .u64 (x.1.toNat:Nat),.any,.any,.any,.any,.sl .no 5 (n.ah.map Nd.enc),.int .i64 (n.ah.length:Nat),.int .i64 (i:Nat)]++aA 28 .any,[f.enc,n.enc],D.set b (pj x.2)⟩) (λi x=>(pR f 0#64 o n.ah=pR f x.1 x.2 (n.ah.drop i))) λF hF JF br=>⟨?_,?_,?_⟩
 .refine en br ((0#64,o)) (rfl) ?_ ?_ ?_
  all_goals simp[hF,aA,am,bZ,lU]
 .rintro i ⟨x,o'⟩ hi hJ;rw[mi hi] at hJ;simp only at hJ;have h1:BB (D.set b (pj o')) b o' := gP;simp only[hF,aA,am,eE hi];refine ix (l6 (cH hi)) ?_;simp only[Ir,Nat.reduceAdd];refine(vP f.aj n.ah[i].al _ hl).mono ?_;rintro v cR ⟨rfl,rfl⟩;simp only[am,BU];cases hf:gY f.aj n.ah[i].al with
  | none =>
   simp only[pR,hf] at hJ;simp only[am,Nd.fl,AY];refine(H0 b o' n.ah[i].pos h1).mono ?_;rintro v σ' ⟨rfl,rfl⟩;simp only[am,a_];exact aN rfl (ag.bd _) ⟨by rw[hJ];rfl,by rw[hJ]⟩
  | some k =>
   simp only[pR,hf] at hJ;simp only[am,bn.an,Nd.fl,Cy,de];refine bJ.intro (Wy b o' f.aj n.ah[i].aj h1 hl (hw _ (fu hi))) ?_;simp only[am,Rl.an];refine bJ.intro (ahL f.rel k (gK f.aj 0#64 n.ah[i].aj).1 (arn hg h)) ?_;simp only[as1,cT hi];refine fN ((x|||B2 f.rel k (gK f.aj 0#64 n.ah[i].aj).1,o'.or (gK f.aj 0#64 n.ah[i].aj).2)) hi ?_ ?_ ?_ ?_ ?_ ?_
   .exact eN (br _ _) (hJ)
   all_goals simp[hF,aA,am,bZ,bQ,dC,V.lo,bn.cE,Nd.cE]
 .rintro⟨x,o'⟩ hJ;rw[EU] at hJ;simp only[hF,aA,am,a_,eJ,a_];rw[hJ];refine aS ?_;simp[V.erase,pR]
def an5(b:Nat)(o:Option Int)(f:bn)(n:Nd)(h:BB D b o)(hl:f.aj.length<=100000):
 dn 281 [.ptr (.out b) 0,.agg f.enc,.agg n.enc] D (.int .u64 ((pP f n).1.toNat:Nat)) (D.set b (pj (o.or (pP f n).2))):=by
 refine af2.aV ?_;simp only[aU,Ir,Nat.reduceAdd];refine cl (vP f.aj n.al _ hl) ?_;simp only[am,BU];cases hf:gY f.aj n.al with
 | none =>
  simp only[am,Nd.fl,AY];refine(H0 b o n.pos h).mono ?_;rintro v σ' ⟨rfl,rfl⟩;simp only[am];exact aN rfl (ag.bd _) ⟨by simp only[pP,hf];rfl,by simp only[pP,hf]⟩
 | some k =>
  have e:D.set b (pj (o.or (pP f n).2))=D:=by simp only[pP,hf,Option.or_none];exact ag.yu h
  rw[e];simp only[am,bn.an,Cy,de]
  by_cases h4:f.kind=4
  .simp only[am,Rl.an,bn.an,aP h4];refine cl (aiT f.rel k D) ?_;simp only[am];refine aS ?_;simp[V.erase,pP,hf,h4]
  .simp only[am,bn.an,gO,aK h4];refine cl (apG f.aj.length k D) ?_;simp only[am,Cc];refine aS ?_;simp[V.erase,pP,hf,h4]
def ajG(f:bn)(D:ag):bc 277 [.agg f.enc] D (.int .i64 (zU f)):=by
 refine afY.aV ?_;simp only[aU,am,a8,Nat.reduceAdd,bn.an]
 by_cases h2:f.kind=2
 .simp only[am,aP h2];refine aS ?_;simp[V.erase,zU,h2]
 .simp only[am,aK h2]
  by_cases h3:f.kind=3
  .simp only[am,aP h3];refine aS ?_;simp[V.erase,zU,h3]
  .simp only[am,aK h3];refine aS ?_;simp[V.erase,zU,h2,h3]
def asg(b:Nat)(o:Option Int)(f:bn)(n:Nd)(h:BB D b o)(hg:TZ D)(hl:f.aj.length<=100000)(hk:n.aj.length<=1000000000/\n.ah.length<=1000000000)(hw:∀k∈n.ah,k.aj.length<=1000000000):
 dn 234 [.ptr (.out b) 0,.agg f.enc,.agg n.enc] D (.int .u64 ((mf f n o).1.toNat:Nat)) (D.set b (pj (mf f n o).2)):=by
 refine afr.aV ?_;simp only[aU,Ir,Nat.reduceAdd];refine bJ.intro (ajG f D) ?_;simp only[am,Nd.fl]
 by_cases hq:n.kind=zU f
 .simp only[am,bn.an,aP hq]
  by_cases h2:f.kind=2
  .have e:mf f n o=((gK f.aj 0#64 n.aj).1,o.or (gK f.aj 0#64 n.aj).2):=by rw[mf,aD hq,aD h2]
   simp only[am,bn.an,Nd.fl,aP h2];refine(Wy b o f.aj n.aj h hl hk.1).mono ?_;rintro v σ' ⟨rfl,rfl⟩;simp only[am];exact aN rfl (ag.bd _) ⟨by rw[e];rfl,by rw[e]⟩
  .simp only[am,aK h2]
   by_cases h3:f.kind=3
   .have e:mf f n o=pR f 0#64 o n.ah:=by rw[mf,aD hq,aB h2,aD h3]
    simp only[am,bn.an,Nd.an,aP h3];refine(apw b o f n h hg hl hk.2 hw).mono ?_;rintro v σ' ⟨rfl,rfl⟩;simp only[am];exact aN rfl (ag.bd _) ⟨by rw[e];rfl,by rw[e]⟩
   .have e:mf f n o=((pP f n).1,o.or (pP f n).2):=by rw[mf,aD hq,aB h2,aB h3]
    simp only[am,bn.an,Nd.an,aK h3];refine(an5 b o f n h hl).mono ?_;rintro v σ' ⟨rfl,rfl⟩;simp only[am];exact aN rfl (ag.bd _) ⟨by rw[e];rfl,by rw[e]⟩
 .have e:mf f n o=(0#64,o.or (U n.pos)):=by rw[mf,aB hq]
  simp only[am,Nd.fl,aK hq];refine(H0 b o n.pos h).mono ?_;rintro v σ' ⟨rfl,rfl⟩;simp only[am];exact aN rfl (ag.bd _) ⟨by rw[e];rfl,by rw[e]⟩
def as2:=af @am <| af @a8 <| af @bC.an @Nd.an
def anM(s:bC)(n:Nd)(D:ag):bc 232 [.agg s.enc,.agg n.enc] D (.bq [.sl .no 5 ((jY s n).map Nd.enc),.bool (pM s n)]):=by
 refine afp.aV ?_;simp only[aU,as2,Nat.reduceAdd];cases ht:s.tuple with
 | false =>
  simp only[am,Nd.an];refine aS ?_;simp[V.erase,bw,jY,pM,ht]
 | true =>
  simp only[am,Nd.fl]
  by_cases h4:n.kind=4
  .simp only[am,aO,bC.an,Nd.fl,aO,aP h4]
   by_cases hl:n.ah.length=s.bM.length
   .simp only[aP (show(n.ah.length:Int)=s.bM.length by omega)];refine aS ?_;simp[V.erase,bw,jY,pM,ht,h4,hl]
   .simp only[aK (show ¬(n.ah.length:Int)=s.bM.length by omega)];refine aS ?_;simp[V.erase,bw,jY,pM,ht,h4,hl]
  .simp only[am,aK h4];refine aS ?_;simp[V.erase,bw,jY,pM,ht,h4]
def Nd.ok(n:Nd):Prop:=n.aj.length<=1000000000/\n.ah.length<=1000000000/\∀k∈n.ah,k.aj.length<=1000000000
def JB{s:bC}{n:Nd}(h:(pM s n&&mF s&&n.il)=ak):im s n=(.zero,U n.pos):=by rw[im,h];rfl
def acG{s:bC}{n:Nd}(h1:pM s n=aa)(h2:mF s=aa)(h3:n.il=aa):im s n=vK s (jY s n):=by rw[im,h1,h2,h3];rfl
def Wp{s:bC}(h:mF s=aa):1<=s.bM.length/\s.bM.length<=8/\(s.tuple=ak->s.bM.length=1):=by
 simp only[mF,bA,b7,mg] at h;refine⟨h.1.1.1,h.1.1.2,λht=>?_⟩
 rcases h.1.2 with h | h
 .rw[ht] at h;simp at h
 .exact h
def anN{s:bC}{n:Nd}(h1:pM s n=aa)(h2:mF s=aa):(jY s n).length=s.bM.length:=by
 have hl:=(Wp h2).2.2;unfold jY;unfold pM at h1;cases ht:s.tuple with
 | false=>simp[hl ht]
 | true=>rw[ht] at h1;simpa using And.right (by simpa using h1)
def as3:=af @am <| af @a8 <| af @bC.an <| af @bg.an @Nd.an
def JC(s:bC)(n:Nd)(hg:TZ D)(b9:s.ok)(hn:∀k∈jY s n,Nd.ok k)(hwt:n.wt<=aM):
 bc 184 [.agg s.enc,.agg n.enc] D (.bq [.agg (im s n).1.enc,.agg (uz (im s n).2)]):=by
 refine aeW.aV ?_;simp only[aU,as3,Nat.reduceAdd];refine cl (anM s n D) ?_;simp only[am];have done:∀(e:bg × Option Int) (t:List V) (l:List (List V)) (cR:ag),e=im s n->D.sub cR->mP (λv σ' => v=V.bq [.agg (im s n).1.enc,.agg (uz (im s n).2)]/\σ' = D) ⟨t,l,cR⟩ (.bq [.agg e.1.enc,.agg (uz e.2)]):=λe t l cR he hs=>by
  subst he;exact aN (by simp[V.cG,bH,bg.dq,uz]) hs ⟨by simp[V.erase,bw,bg.dk,uz],rfl⟩
 cases hp:pM s n with
 | false =>
  simp only[am,Nat.reduceAdd,bg.an,Nd.fl];exact done (.zero,U n.pos) _ _ _ (JB (by rw[hp];rfl)).symm (ag.bd _)
 | true =>
  simp only[am,bC.an];refine cl (aqf s hg b9) ?_;cases hr:mF s with
  | false =>
   simp only[am,Nat.reduceAdd,bg.an,Nd.fl];exact done (.zero,U n.pos) _ _ _ (JB (by rw[hp,hr];rfl)).symm (ag.bd _)
  | true =>
   simp only[am,Nd.an];refine cl (Ql _ n D (bL _) hwt) ?_;cases hc:n.il with
   | false =>
    simp only[am,Nat.reduceAdd,bg.an,Nd.fl];exact done (.zero,U n.pos) _ _ _ (JB (by rw[hp,hr,hc];rfl)).symm (ag.bd _)
   | true =>
    have zw:=acG hp hr hc;obtain⟨By,hl8,_⟩:=Wp hr;have nX:=anN hp hr;simp only[am,Nat.reduceAdd];refine jU λb hb=>?_
    have hs:∀c,D.sub (D.set b c):=λc=>h_ hb
    have hgb:∀c,TZ (D.set b c):=λc=>(hs c).2.2 _ _ hg
    simp only[am,aO,bC.an,aO];refine eb (s.bM.length) (λi (x:bg × Option Int)=>⟨[.any,.any,.any,.any,.ptr (.aC 2) 0,.ptr (.aC 3) 0,.ptr (.aC 4) 0,.sl .no 5 ((jY s n).map Nd.enc),.any,.ptr (.out b) 0,.any,.any,.any,.any,.any,.any,.any,.any,.any,.any,.any,.any,.any,.any,.any,.any,.any,.any,.any,.any,.any,.any,.any,.any,.any,.any,.any,.sl .no 67 (s.bM.map bn.enc),.int .i64 (s.bM.length:Nat),.int .i64 (i:Nat)]++aA 26 .any,[s.enc,n.enc,bg.zero.enc,[.int .i64 0,.int .i64 0],x.1.enc],D.set b (pj x.2)⟩) (λi x=>(C4 s (jY s n) i x)) λF hF JF br=>⟨?_,?_,?_⟩
    .refine en br ((.zero,ae)) (ahz) ?_ ?_ ?_
     all_goals simp[hF,aA,am,bZ,pj]
    .rintro i ⟨e,o⟩ hi hJ;have KN:i<(jY s n).length:=by omega
     have h8:i<8:=by omega
     have dV:=ahy hJ;rw[qM hi,qM KN] at dV;have Dv:=hn _ (fu KN);simp only[hF,aA,am,eE hi];refine ix (QT hi) ?_;simp only[am,Nat.reduceAdd,bn.an];refine ix (l6 (cH KN)) ?_;simp only[am,bn.an,Nd.an];refine bJ.intro (asg b o s.bM[i] (jY s n)[i] gP (hgb _) (b9.2 _ (fu hi)) ⟨Dv.1,Dv.2.1⟩ Dv.2.2) ?_;simp only[am,cF];refine kj ?_;simp only[EL,bg.B9 h8,bg.B_ h8,cT hi];refine fN ((e.put i (mf s.bM[i] (jY s n)[i] o).1,(mf s.bM[i] (jY s n)[i] o).2)) hi ?_ ?_ ?_ ?_ ?_ ?_
     .exact eN (br _ _) (dV)
     all_goals simp[hF,aA,am,bZ,bQ,dC,V.lo,Nd.cE,bC.cE,bg.cE]
    .rintro⟨e,o⟩ hJ;have iu:=ahx hJ;rw[<-zw] at iu;simp only[hF,aA,am,a_,eJ,a_,pj];cases o with
     | some p =>
      simp only[am,Nat.reduceAdd,bg.an,E_,E9];exact done (.zero,U p) _ _ _ (by rw[iu];rfl) (hs _)
     | none =>
      simp only[am,Nat.reduceAdd,bg.an,Cz];exact done (e,ae) _ _ _ (by rw[iu];rfl) (hs _)
def agN:aT prog 60 (sq [rg 4 [ox 2 5 0,ox 3 5 1,oz 2],sq [rg 7 [fo 0 2,fo 0 3,nb .neq 8,gB,fo 2 2,fo 2 3,nE .neq 14,gZ,gB,fo 3 2,nL,fo 3 3,nL,nb .neq 22,gZ,gB,fo 4 2,nL,fo 4 3,nL,nb .neq 31,gZ],cr 36 4 [oz 2]],sq [rg 5 [oi 0],bl 0 (sq [sq [rg 37 [om 5,fo 3 2,nL,nb .lss 37],cx 41 0],.block 1 (sq [dg 44 [fo 3 2,om 5,nA 2 45,nF 0,fo 3 3,om 5,nA 2 51,nF 0,nE .neq 49],cr 56 4 [oz 2]]),rg 42 [ic 5]])],sq [rg 6 [oi 0],bl 2 (sq [sq [rg 57 [om 6,fo 4 2,nL,nb .lss 57],cx 61 2],.block 3 (sq [dg 64 [fo 4 2,om 6,nA 5 65,nl 5,fo 4 3,om 6,nA 5 70,nl 5,oC 60 [68,73],nn],cr 75 4 [oz 2]]),rg 62 [ic 6]])],rg 4 [oq (.mv (.c (.bool aa)))],.ret]) [.tmp 4] 76:=aX func60
def afj:aT prog 226 (sq [rg 4 [ox 2 5 0,ox 3 5 1,oz 2],sq [rg 7 [fo 0 2,fo 0 3,nb .neq 8,gB,fo 2 2,fo 2 3,nE .neq 14,gZ,gB,fo 3 2,nL,fo 3 3,nL,nb .neq 22,gZ,gB,fo 4 2,nL,fo 4 3,nL,nb .neq 31,gZ],cr 36 4 [oz 2]],sq [rg 37 [fo 3 2,nL,oi 0],lp 39 0 (sq [rg 42 [om 40,o1 5],dg 43 [fo 3 2,om 5,nA 2 44,nF 0,fo 3 3,om 5,nA 2 50,nF 0,nE .neq 48],cr 55 4 [oz 2]]) 56],sq [rg 57 [fo 4 2,nL,oi 0],lp 59 2 (sq [rg 62 [om 60,o1 6],dg 63 [fo 4 2,om 6,nA 5 64,nl 5,fo 4 3,om 6,nA 5 69,nl 5,oC 226 [67,72],nn],cr 74 4 [oz 2]]) 75],rg 4 [oq (.mv (.c (.bool aa)))],.ret]) [.tmp 4] 76:=aX func226
def Lr(n m:Nd)(D:ag)(i:Nat):St :=
 ⟨[.any,.any,.ptr (.aC 0) 0,.ptr (.aC 1) 0]++aA 35 .any++[.int .i64 n.aj.length,.int .i64 (i:Nat)]++aA 35 .any,[n.enc,m.enc],D⟩
def Lq(n m:Nd)(D:ag)(i:Nat):St :=
 ⟨[.any,.any,.ptr (.aC 0) 0,.ptr (.aC 1) 0]++aA 55 .any++[.int .i64 n.ah.length,.int .i64 (i:Nat)]++aA 15 .any,[n.enc,m.enc],D⟩
def apJ:∀(k:Nat) (n m:Nd) (D:ag),n.wt<=k->n.wt<=aM->bc 226 [.agg n.enc,.agg m.enc] D (.bool (n.cI m)):=by
 intro k;induction k with
 | zero=>intro n m D h _;cases n;simp only[Nd.wt] at h;omega
 | succ k sW =>
  intro n m D hk hw;have hn:=AH n;have jO:n.wt<2^62:=by simp only[aM] at hw;omega
  rw[Nd.Aq];refine afj.aV ?_;simp only[aU,so,Nat.reduceAdd]
  by_cases k1:n.kind=m.kind
  case' neg =>
   simp only[am,aK k1];refine aS ?_;simp[V.erase]
  simp only[am,bS,Nd.fl,k1]
  by_cases k2:n.al=m.al
  case' neg =>
   simp only[am,aK k2];refine aS ?_;simp[V.erase]
  simp only[am,aO,bS,Nd.fl,k2]
  by_cases k3:n.aj.length=m.aj.length
  case' neg =>
   have LK : ¬(n.aj.length:Int)=m.aj.length:=by omega
   simp only[am,aK LK]
   have:dt n.aj m.aj=false:=by cases hs:dt n.aj m.aj with
    | false=>rfl
    | true=>exact absurd (NA hs) k3
   refine aS ?_;simp[V.erase,this]
  simp only[am,aO,bS,Nd.fl,k3]
  by_cases k4:n.ah.length=m.ah.length
  case' neg =>
   have LL : ¬(n.ah.length:Int)=m.ah.length:=by omega
   simp only[am,aK LL]
   have:cX n.ah m.ah=false:=by cases hs:cX n.ah m.ah with
    | false=>rfl
    | true=>exact absurd (ND hs) k4
   refine aS ?_;simp[V.erase,this]
  simp only[am,aO,bS,Nd.fl,k4];refine iE (λp:{i:Nat // i<=n.aj.length/\dt (n.aj.take i) (m.aj.take i)=aa}=>Lr n m D p.1) (λp=>n.aj.length - p.1) ?_ ?_
  .refine bm.enter ⟨0,by simp,by simp[dt]⟩ ?_ ch.rfl bN.rfl;simp[Lr,aA,am,k3]
  rintro⟨i,hi,ha⟩;simp only[Lr,aA,am];refine fc ?_ ?_
  .intro az;have az:i<n.aj.length:=by simpa using az
   obtain⟨fp,iI⟩:=Ny az (by omega) k3 ha;simp only[am,Nd.fl];refine ix (qw (cH az)) ?_;simp only[am,Nd.fl,au.enc];refine ix (qw (cH (show i<m.aj.length by omega))) ?_;simp only[am,au.enc]
   by_cases he:n.aj[i].al=m.aj[i].al
   .simp only[am,bS,he];rw[wrap_i64];exact bm.again ⟨i+1,az,by rw[fp];exact aP he⟩ (by simp;omega) (by simp[am]) ch.rfl bN.rfl
   .simp only[am,aK he];refine aS ?_;simp[V.erase,iI (aK he)]
  intro az;have az:i=n.aj.length:=by simp at az;omega
  subst az;rw[eH,k3,eH] at ha;simp only[am,aO,Nd.fl];refine iE (λp:{i:Nat // i<=n.ah.length/\cX (n.ah.take i) (m.ah.take i)=aa}=>Lq n m D p.1) (λp=>n.ah.length - p.1) ?_ ?_
  .refine bm.enter ⟨0,by simp,by simp[cX]⟩ ?_ ch.rfl bN.rfl;simp[Lq,aA,am,k4]
  rintro⟨i,hi,hb⟩;simp only[Lq,aA,am];refine fc ?_ ?_
  .intro az;have az:i<n.ah.length:=by simpa using az
   have qT:=mV (n:=n) (fu az);obtain⟨fp,iI⟩:=NC az (by omega) k4 hb;simp only[am,Nd.fl];refine ix (l6 (cH az)) ?_;simp only[am,Nd.an,Nd.fl];refine ix (l6 (cH (show i<m.ah.length by omega))) ?_;simp only[am,Nd.an];refine bJ.intro (sW n.ah[i] m.ah[i] _ (by omega) (by omega)) ?_;cases he:n.ah[i].cI m.ah[i]
   .simp only[am];refine aS ?_;simp[V.erase,iI he]
   .simp only[am];rw[wrap_i64];exact bm.again ⟨i+1,az,by rw[fp];exact he⟩ (by simp;omega) (by simp[am]) ch.rfl bN.rfl
  intro az;have az:i=n.ah.length:=by simp at az;omega
  subst az;rw[eH,k4,eH] at hb;simp only[am];refine aS ?_;simp[V.erase,ha,hb]
def Lt(n m:Nd)(D:ag)(i:Nat):St :=
 ⟨[.any,.any,.ptr (.aC 0) 0,.ptr (.aC 1) 0]++[.any,.int .i64 (i:Nat)]++aA 70 .any,[n.enc,m.enc],D⟩
def Ls(n m:Nd)(D:ag)(i:Nat):St :=
 ⟨[.any,.any,.ptr (.aC 0) 0,.ptr (.aC 1) 0]++[.any,.any,.int .i64 (i:Nat)]++aA 69 .any,[n.enc,m.enc],D⟩
def Nv:∀(k:Nat) (n m:Nd) (D:ag),n.wt<=k->n.wt<=aM->bc 60 [.agg n.enc,.agg m.enc] D (.bool (n.cI m)):=by
 intro k;induction k with
 | zero=>intro n m D h _;cases n;simp only[Nd.wt] at h;omega
 | succ k sW =>
  intro n m D hk hw;have hn:=AH n;have jO:n.wt<2^62:=by simp only[aM] at hw;omega
  rw[Nd.Aq];refine agN.aV ?_;simp only[aU,so,Nat.reduceAdd]
  by_cases k1:n.kind=m.kind
  case' neg =>
   simp only[am,aK k1];refine aS ?_;simp[V.erase]
  simp only[am,bS,Nd.fl,k1]
  by_cases k2:n.al=m.al
  case' neg =>
   simp only[am,aK k2];refine aS ?_;simp[V.erase]
  simp only[am,aO,bS,Nd.fl,k2]
  by_cases k3:n.aj.length=m.aj.length
  case' neg =>
   have LK : ¬(n.aj.length:Int)=m.aj.length:=by omega
   simp only[am,aK LK]
   have:dt n.aj m.aj=false:=by cases hs:dt n.aj m.aj with
    | false=>rfl
    | true=>exact absurd (NA hs) k3
   refine aS ?_;simp[V.erase,this]
  simp only[am,aO,bS,Nd.fl,k3]
  by_cases k4:n.ah.length=m.ah.length
  case' neg =>
   have LL : ¬(n.ah.length:Int)=m.ah.length:=by omega
   simp only[am,aK LL]
   have:cX n.ah m.ah=false:=by cases hs:cX n.ah m.ah with
    | false=>rfl
    | true=>exact absurd (ND hs) k4
   refine aS ?_;simp[V.erase,this]
  simp only[am,bS,k4];refine iE (λp:{i:Nat // i<=n.aj.length/\dt (n.aj.take i) (m.aj.take i)=aa}=>Lt n m D p.1) (λp=>n.aj.length - p.1) ?_ ?_
  .refine bm.enter ⟨0,by simp,by simp[dt]⟩ ?_ ch.rfl bN.rfl;simp[Lt,aA,am]
  rintro⟨i,hi,ha⟩;simp only[Lt,aA,am,Nd.fl,aO];refine fc ?_ ?_
  .intro az;have az:i<n.aj.length:=by simpa using az
   obtain⟨fp,iI⟩:=Ny az (by omega) k3 ha;simp only[am,Nd.fl];refine ix (qw (cH az)) ?_;simp only[am,Nd.fl,au.enc];refine ix (qw (cH (show i<m.aj.length by omega))) ?_;simp only[am,au.enc]
   by_cases he:n.aj[i].al=m.aj[i].al
   .simp only[am,bS,he];rw[wrap_i64];exact bm.again ⟨i+1,az,by rw[fp];exact aP he⟩ (by simp;omega) (by simp[am]) ch.rfl bN.rfl
   .simp only[am,aK he];refine aS ?_;simp[V.erase,iI (aK he)]
  intro az;have az:i=n.aj.length:=by simp at az;omega
  subst az;rw[eH,k3,eH] at ha;simp only[am];refine iE (λp:{i:Nat // i<=n.ah.length/\cX (n.ah.take i) (m.ah.take i)=aa}=>Ls n m D p.1) (λp=>n.ah.length - p.1) ?_ ?_
  .refine bm.enter ⟨0,by simp,by simp[cX]⟩ ?_ ch.rfl bN.rfl;simp[Ls,aA,am]
  rintro⟨i,hi,hb⟩;simp only[Ls,aA,am,Nd.fl,aO];refine fc ?_ ?_
  .intro az;have az:i<n.ah.length:=by simpa using az
   have qT:=mV (n:=n) (fu az);obtain⟨fp,iI⟩:=NC az (by omega) k4 hb;simp only[am,Nd.fl];refine ix (l6 (cH az)) ?_;simp only[am,Nd.an,Nd.fl];refine ix (l6 (cH (show i<m.ah.length by omega))) ?_;simp only[am,Nd.an];refine bJ.intro (sW n.ah[i] m.ah[i] _ (by omega) (by omega)) ?_;cases he:n.ah[i].cI m.ah[i]
   .simp only[am];refine aS ?_;simp[V.erase,iI he]
   .simp only[am];rw[wrap_i64];exact bm.again ⟨i+1,az,by rw[fp];exact he⟩ (by simp;omega) (by simp[am]) ch.rfl bN.rfl
  intro az;have az:i=n.ah.length:=by simp at az;omega
  subst az;rw[eH,k4,eH] at hb;simp only[am];refine aS ?_;simp[V.erase,ha,hb]
def s1:List UInt8:=[43,40,120,44,35,123,97,44,98,125,41]
def s2:List UInt8:=[43,40,41]
def s3:List UInt8:=[91,102,61,120,44,103,61,35,104,105,124,114,93]
def agC:aT prog 34 (sq [rg 4 [oz 2],sq [rg 6 [om 0,nL,om 1,nL,nb .neq 7],cr 10 4 [oz 2]],sq [rg 5 [oi 0],bl 0 (sq [sq [rg 11 [om 5,om 0,nL,nb .lss 11],cx 14 0],.block 1 (sq [dg 17 [om 0,om 5,nA 10 17,nl 10,om 1,om 5,nA 10 21,nl 10,oq (.jf aa [1,1,1,1,1,1,1,1,1,1] (.s 20) (.s 24))],cr 25 4 [oz 2]]),rg 15 [ic 5]])],rg 4 [oq (.mv (.c (.bool aa)))],.ret]) [.tmp 4] 26:=aX func34
def agS:aT prog 76 (sq [rg 4 [ox 2 2 0,oi 0,oi 0],rg 6 [oi (-1),oi (-1)],sq [rg 10 [fo 0 2,nL,oi 0],lp 12 0 (sq [rg 15 [om 13,o1 8],rg 16 [om 6,nB .lss 0,gA,fo 0 2,om 8,nA 3 20,nF 0,om 1,nE .eql 24,gZ],ci 27 (rg 28 [om 8,o1 6])]) 29],sq [rg 30 [fo 1 2,nL,oi 0],lp 32 2 (sq [rg 35 [om 33,o1 9],rg 36 [om 7,nB .lss 0,gA,fo 1 2,om 9,nA 3 40,nF 0,om 1,nE .eql 44,gZ],ci 47 (rg 48 [om 9,o1 7])]) 49],rg 50 [om 6,om 7,ot 4 50,o1 5],.ret]) [.tmp 4,.tmp 5] 52:=aX func76
def aeV:aT prog 183 (sq [rg 7 [ox 3 2 0,ox 5 5 2,oR 6 xY,oz 2],sq [rg 10 [fo 0 5,nB .eql 1],cr 12 13 [ol 2 3,om 1,fo 2 5,oC 231 [13,14,16],oe 17 0,oe 17 1,os 10 6 18,o1 7]],dA 21 [8,9] [fo 0 3,om 1,nA 3 22,nf 1,nl 2,fo 4 5,nI 5 0,nl 5,oC 184 [26,30],o1 20,oe 20 0,oe 20 1,oN,oN,oX 8 8 32,oX 9 2 33],dg 34 [ol 8 8,oY xY [(0,1,.c (.int .i64 2)),(2,8,.s 34)],of 0 9,mM [1],no,nB .eql 0,os 10 6 35,o1 7],.ret]) [.cell 6 aa 10,.tmp 7] 39:=aX func183
def afo:aT prog 231 (sq [rg 7 [ox 3 2 0,oR 6 xY,oz 2],rg 11 [ol 2 3,om 2,oC 76 [11,12],o1 10,oe 10 0,oe 10 1,ot 8 14,o1 9],sq [rg 16 [om 9,nB .lss 0,gB,fo 1 3,om 9,nA 3 20,nF 1,nB .neq 1,gZ,gB,fo 1 3,om 9,nA 3 29,nF 2,om 1,nb .neq 33,gZ],cr 36 37 [oY xY [],o2 10 6,oU 7 2]],rg 38 [om 9,oY xY [(0,1,.c (.int .i64 1)),(1,1,.s 38)],o2 10 6,oV 7 (.bool aa)],.ret]) [.cell 6 aa 10,.tmp 7] 40:=aX func231
def DU{l:List dT}(h:j<l.length):(l.map dT.enc)[((j:Nat):Int).toNat]?=U l[j].enc:=by simp[h]
def EC{l:List dU}(h:j<l.length):(l.map dU.enc)[((j:Nat):Int).toNat]?=U l[j].enc:=by simp[h]
def vd(s:aI)(t:List UInt8)(D:ag)(h1:s.bu.length<=100000)(h2:s.vars.length<=100000) :
 bc 76 [.agg s.enc,.aF t] D (.bq [.int .i64 (de (iq s.bu t)),.int .i64 (de (kb s.vars t))]):=by
 refine agS.aV ?_;simp only[aU,am,a8,Nat.reduceAdd,aI.an,aO];rw[iq,kb];generalize hpL:Mn s.bu t=pL;generalize hpV:Mo s.vars t=pV;have eL:∀i (hi:i<s.bu.length),pL i=decide (s.bu[i].name=t):=λi hi=>by rw[<-hpL];simp only[Mn,cH hi]
 have eV:∀i (hi:i<s.vars.length),pV i=decide (s.vars[i].name=t):=λi hi=>by rw[<-hpV];simp only[Mo,cH hi]
 refine eb (s.bu.length) (λi (x:Unit)=>⟨[.any,.aF t,.ptr (.aC 0) 0,.any,.any,.any,.int .i64 (de ((cc i).find? pL)),.int .i64 (-1),.any,.any,.any,.sl .no 3 (s.bu.map dT.enc),.int .i64 (s.bu.length:Nat),.int .i64 (i:Nat)]++aA 38 .any,[s.enc],D⟩) (λi x=>(True)) λF hF JF br=>⟨?_,?_,?_⟩
 .refine en br (()) (trivial) ?_ ?_ ?_
  all_goals simp[hF,aA,am,bZ,de]
 .rintro i x hi -;simp only[hF,aA,am,eE hi,BU];cases hf:(cc i).find? pL with
  | some k =>
   simp only[am,a_,Cy,cT hi];refine nx br (()) hi (trivial) ?_ ?_ ?_
   all_goals simp[hF,aA,am,bZ,tV,Cr,hf]
  | none =>
   simp only[am,aI.an,AY];refine ix (DU hi) ?_;simp only[am,aI.an];rw[<-eL i hi];cases hb:pL i with
   | false =>
    simp only[am,a_,cT hi];refine nx br (()) hi (trivial) ?_ ?_ ?_
    all_goals simp[hF,aA,am,bZ,tV,Cr,hf,hb]
   | true =>
    simp only[am,a_,cT hi];refine nx br (()) hi (trivial) ?_ ?_ ?_
    all_goals simp[hF,aA,am,bZ,tV,Cr,hf,hb,de]
 .rintro x -;simp only[hF,aA,am,a_,eJ,a_,aI.an,aO];clear hF br F JF;refine eb (s.vars.length) (λi (x:Unit)=>⟨[.any,.aF t,.ptr (.aC 0) 0,.any,.any,.any,.int .i64 (de ((cc s.bu.length).find? pL)),.int .i64 (de ((cc i).find? pV)),.any,.any,.any,.any,.any,.any,.any,.any,.any,.any,.any,.any,.any,.any,.any,.any,.any,.any,.any,.any,.any,.any,.any,.sl .no 3 (s.vars.map dU.enc),.int .i64 (s.vars.length:Nat),.int .i64 (i:Nat)]++aA 18 .any,[s.enc],D⟩) (λi x=>(True)) λF hF JF br=>⟨?_,?_,?_⟩
  .refine en br (()) (trivial) ?_ ?_ ?_
   all_goals simp[hF,aA,am,bZ,de]
  .rintro i x hi -;simp only[hF,aA,am,eE hi,BU];cases hf:(cc i).find? pV with
   | some k =>
    simp only[am,a_,Cy,cT hi];refine nx br (()) hi (trivial) ?_ ?_ ?_
    all_goals simp[hF,aA,am,bZ,tV,Cr,hf]
   | none =>
    simp only[am,aI.an,AY];refine ix (EC hi) ?_;simp only[am,aI.an];rw[<-eV i hi];cases hb:pV i with
    | false =>
     simp only[am,a_,cT hi];refine nx br (()) hi (trivial) ?_ ?_ ?_
     all_goals simp[hF,aA,am,bZ,tV,Cr,hf,hb]
    | true =>
     simp only[am,a_,cT hi];refine nx br (()) hi (trivial) ?_ ?_ ?_
     all_goals simp[hF,aA,am,bZ,tV,Cr,hf,hb,de]
  .rintro x -;simp only[hF,aA,am,a_,eJ,a_];exact rt
def adO{l:List dU}{t:List UInt8}(h:kb l t=U k):k<l.length:=(F4 h).1
def DJ(o:Option bt):V:=.bq [.agg (match o with | some i=>i | none=>bt.zero).enc,.bool o.isSome]
def as4:=af @am <| af @a8 <| af @aI.an @bt.an
def arw(s:aI)(lat:Nat)(t:List UInt8)(D:ag)(h1:s.bu.length<=100000)(h2:s.vars.length<=100000) :
 bc 231 [.agg s.enc,.int .i64 (lat:Nat),.aF t] D (DJ (wP s lat t)):=by
 refine afo.aV ?_;simp only[aU,as4,Nat.reduceAdd];have no:∀(u:List V) (l:List (List V)),wP s lat t=ae->mP (λv σ' => v=DJ (wP s lat t)/\σ' = D) ⟨u,l,D⟩ (.bq [.agg bt.zero.enc,.bool ak]):=λu l h=>by
  rw[h];exact aN (by simp[V.cG,bH,bt.dq]) (ag.bd _) ⟨by simp[DJ,V.erase,bw,bt.dk],rfl⟩
 refine cl (vd s t D h1 h2) ?_;simp only[am,BU];cases hf:kb s.vars t with
 | none =>
  simp only[am,bt.an,AY];exact no _ _ (by simp only[wP,hf])
 | some k =>
  have hk:=adO hf;have hv:s.vars[k]?=U s.vars[k]:=cH hk;simp only[am,aI.an,Cy,de];refine ix (EC hk) ?_;simp only[am,aI.an]
  by_cases e1:s.vars[k].kind=1
  .simp only[am,aI.an,aP e1];refine ix (EC hk) ?_;simp only[am,aI.an]
   by_cases e2:s.vars[k].lat=(lat:Nat)
   .have e:wP s lat t=U ⟨1,k,.zero⟩:=by simp only[wP,hf,hv];rw[aD ⟨e1,e2⟩]
    simp only[am,bt.an,aP e2];exact aN (by simp[V.cG,bH,bt.dq]) (ag.bd _) ⟨by simp[e,DJ,V.erase,bw,bt.dk,bt.zero],rfl⟩
   .simp only[am,bt.an,aK e2];exact no _ _ (by simp only[wP,hf,hv];rw[aB (λh=>e2 h.2)])
  .simp only[am,bt.an,aK e1];exact no _ _ (by simp only[wP,hf,hv];rw[aB (λh=>e1 h.1)])
variable{lat:Nat}
def NL{s:aI}(h:lat<s.bu.length):vf s lat=s.bu[lat].shape:=by simp only[vf,cH h]
def akb{s:aI}{n:Nd}(h1:n.kind≠1){e:bg}(he:im (vf s lat) (n.ah.getD 0 jX)=(e,ae)):mW s lat n=U ⟨2,0,e⟩:=by rw[mW,aB h1,he]
def aj'{s:aI}{n:Nd}(h1:n.kind≠1){e:bg}{p:Int}(he:im (vf s lat) (n.ah.getD 0 jX)=(e,U p)):mW s lat n=none:=by rw[mW,aB h1,he]
def MP{s:bC}{n:Nd}(hc:n.cw<=100000):∀k∈jY s n,k.aj.length<=100000/\k.ah.length<=100000/\∀m∈k.ah,m.aj.length<=100000:=by
 intro k hk;have Dq:k.cw<=n.cw:=by
  unfold jY at hk;split at hk
  .exact IS (qG hk)
  .rw[o_.1 hk];exact bL _
 have h1:=CO k;have h2:=y7 k;refine⟨by omega,by omega,λm hm=>?_⟩
 have:=qG hm
 have:=CO m
 omega
def anL{s:bC}{n:Nd}(hc:n.cw<=100000):∀k∈jY s n,Nd.ok k:=λk hk=>by
 obtain⟨h1,h2,h3⟩:=MP hc k hk;exact⟨by omega,by omega,λm hm=>by have:=h3 m hm;omega⟩
def Is:=af @am <| af @a8 <| af @Nd.an <| af @Nd.fl <| af @aI.an @bt.an
def akc(s:aI)(lat:Nat)(n:Nd)(hg:TZ D)(hs:s.ok)(mR:lat<s.bu.length)(hc:n.cw<=100000)(hw:n.wt<=aM)(hl:n.eU=aa)(hk:n.kind=1\/n.kind=7):
 cm prog 183 [.agg s.enc,.int .i64 (lat:Nat),.agg n.enc] D λv σ' => (∃i:bt,v = .bq [.agg i.enc,.bool (mW s lat n).isSome]/\∀j,mW s lat n=U j->i=j)/\σ' = D:=by
 refine aeV.aV ?_;simp only[aU,Is,Nat.reduceAdd]
 by_cases h1:n.kind=1
 .simp only[am,Nd.fl,aI.an,aP h1];refine cl (arw s lat n.al D hs.1 hs.2.1) ?_;simp only[am,bt.an,DJ];refine aN (by simp[V.cG,bH,bt.dq]) (ag.bd _) ⟨⟨_,by rw[mW,aD h1];simp[V.erase,bw,bt.dk];rfl,λj hj=>?_⟩,rfl⟩;rw[mW,aD h1] at hj;rw[hj]
 .have h7:n.kind=7:=by simpa [h1] using hk
  have xM:=DQ hl h7;have hm:n.ah[0]∈n.ah:=fu _;have xO:=qG hm;have xP:=mV hm;simp only[am,Nat.reduceAdd,bS,Nat.reduceLT,aI.an,aK h1];refine ix (DU mR) ?_;simp only[am,Nd.fl,aI.an];refine qY (n:=0) (by omega) (l6 (j:=0) (cH (by omega))) ?_;simp only[am,bC.an,Nd.an];refine bJ.intro (JC s.bu[lat].shape n.ah[0] hg (hs.2.2 _ (fu mR)) (anL (by omega)) (by omega)) ?_;obtain⟨e,he⟩:∃e,im s.bu[lat].shape n.ah[0]=e:=⟨_,rfl⟩;rw[he];have Gv : im (vf s lat) (n.ah.getD 0 jX)=e:=by rw[NL mR,qM (by omega)];exact he
  simp only[am,Nat.reduceAdd,bg.an,bt.an,uz];obtain⟨e,o⟩:=e;cases o with
  | none =>
   have xN:=akb h1 Gv;simp only[am,bS,Cz];exact aN (by simp[V.cG,bH,bt.dq]) (ag.bd _) ⟨⟨⟨2,0,e⟩,by rw[xN];simp[V.erase,bw,bt.dk];rfl,λj hj=>by rw[xN] at hj;cases hj;rfl⟩,rfl⟩
  | some p =>
   have xN:=aj' h1 Gv;simp only[am,ff,Int.reduceEq,E_];exact aN (by simp[V.cG,bH,bt.dq]) (ag.bd _) ⟨⟨⟨2,0,e⟩,by rw[xN];simp[V.erase,bw,bt.dk];rfl,λj hj=>by rw[xN] at hj;simp at hj⟩,rfl⟩
def Qc{l:List bt}(h:j<l.length):(l.map bt.enc)[((j:Nat):Int).toNat]?=U l[j].enc:=by simp[h]
def apN(a b:List bt)(D:ag)(ha:a.length<=100000)(hb:b.length<=100000):bc 34 [.sl .no 10 (a.map bt.enc),.sl .no 10 (b.map bt.enc)] D (.bool (decide (a=b))):=by
 refine agC.aV ?_;simp only[aU,am,a8,Nat.reduceAdd,aO]
 by_cases aQ:a.length=b.length
 .simp only[am,aP (show(a.length:Int)=b.length by omega)];refine eb (a.length) (λi (x:Unit)=>⟨[.sl .no 10 (a.map bt.enc),.sl .no 10 (b.map bt.enc),.any,.any,.any,.int .i64 (i:Nat)]++aA 20 .any,[],D⟩) (λi x=>(∀k,k<i->a[k]?=b[k]?)) λF hF JF br=>⟨?_,?_,?_⟩
  .exact en br (()) (by intro k h;omega)
  .rintro i x hi hJ;have GD:i<b.length:=by omega
   simp only[hF,aA,am,eE hi,aO];refine ix (Qc hi) ?_;simp only[am,bt.an];refine ix (Qc GD) ?_;simp only[am,bt.an]
   by_cases h:a[i]=b[i]
   .simp only[am,a_,aP h,cT hi];exact nx br (()) hi (A3 hJ (by rw[cH hi,cH GD,h]))
   .have e:a≠b:=λe=>h (by subst e;rfl)
    simp only[am,a_,aK h];refine aS ?_;simp[V.erase,e]
  .rintro x hJ;have e:a=b:=by
    refine OO aQ λk h1 h2=>?_
    have:=hJ k h1
    rwa [cH h1,cH h2,aY] at this
   simp only[hF,aA,am,a_,eJ,a_,aO];refine aS ?_;simp[V.erase,e]
 .have e:a≠b:=λe=>aQ (by rw[e])
  simp only[am,aK (show ¬(a.length:Int)=b.length by omega)];refine aS ?_;simp[V.erase,e]
def Jq(o:Option (List bt)):V:=.bq [.sl .no 10 ((o.getD []).map bt.enc),.bool o.isSome]
def aaR{s:aI}{n:Nd}(h1:lat<s.bu.length)(h2:n.eU=aa):ml s (lat:Nat) n=mQ s lat n:=by
 rw[ml,aD ⟨by omega,by omega,h2⟩];rfl
end Go.Proofs.Tryz
