/-
  Part 6 of the proof of StackNobodyUptoCardSaid: a logic over the model, the forms of the functions that the law reaches, and what they compute.
-/
import Derived.Test.YtnpggmhoandloaaGreatDoorProg
import Derived.Test.YtnpggmhoandloaaGreatDoorNobody5
set_option linter.unusedVariables false
set_option linter.unusedSimpArgs false
set_option linter.defProp false
set_option linter.unusedSectionVars false
set_option maxRecDepth 4000
set_option maxHeartbeats 4000000
open Option renaming some->U,none->af
open Bool renaming true->aa,false->ak
open List renaming replicate->au,range->bU,getD->gU,zipWith->lq
open Eq renaming mpr->eQ
open Ne renaming symm->fi
namespace Go.Proofs.Tryz
open Go.Am
def afN:aT prog 247 (sq [rg 4 [oz 4],sq [rg 5 [om 1,oC 285 [5],nn],cr 7 8 [om 0,o1 4]],rg 9 [om 0,om 1,oq (.pr .u64 (.s 10)),oq (.ek .shl (.c (.int .u64 1)) (.s 11)),nb .or 9,o1 4],.ret]) [.tmp 4] 14:=aW func247
def afO:aT prog 248 (sq [rg 4 [oz 2],rg 5 [om 1,oC 285 [5],gA,om 0,om 1,oq (.pr .u64 (.s 9)),nb .shr 8,oq (.ek .and (.s 11) (.c (.int .u64 1))),oq (.ek .eql (.s 12) (.c (.int .u64 1))),gZ,o1 4],.ret]) [.tmp 4] 15:=aW func248
def af7:aT prog 269 (sq [rg 2 [oz 4],rg 3 [oz 4],sq [rg 6 [om 0,nL,oi 0],lp 7 0 (sq [rg 10 [oA 1 6 8,no,o1 5],rg 12 [om 3,om 5,oC 247 [12,13],o1 3]]) 15],rg 16 [om 3,o1 2],.ret]) [.tmp 2] 17:=aW func269
def agk:aT prog 285 (sq [rg 2 [oz 2],rg 3 [om 0,nB .geq 0,gA,om 0,nB .lss 64,gZ,o1 2],.ret]) [.tmp 2] 9:=aW func285
def agr:aT prog 293 (sq [rg 2 [oz 6],rg 0 [od (U 3) (.nP [(.sl .aV 1 [])])],rg 4 [om 0,oq (.jG (.func 306) [] [(.s 3)]),oC 305 [4,5]],rg 7 [oo 3,o1 2],.ret]) [.tmp 2] 8:=aW func293 ⟨[3],[]⟩
def ags:aT prog 294 (sq [rg 4 [oz 2],rg 5 [om 0,om 1,nb .andNot 5,oq (.ek .eql (.s 7) (.c (.int .u64 0))),o1 4],.ret]) [.tmp 4] 9:=aW func294
def agC:aT prog 303 (sq [rg 2 [oz 4],sq [rg 3 [om 0,nB .leq 0],cr 4 2 [oz 4]],sq [rg 5 [om 0,nB .geq 64],cr 6 2 [oq (.mv (.c (.int .u64 18446744073709551615)))]],rg 7 [om 0,oq (.pr .u64 (.s 7)),oq (.ek .shl (.c (.int .u64 1)) (.s 8)),oq (.ek .sub (.s 9) (.c (.int .u64 1))),o1 2],.ret]) [.tmp 2] 11:=aW func303
def agE:aT prog 305 (bl 0 (sq [sq [rg 4 [om 0,oq (.ek .neq (.s 4) (.c (.int .u64 0)))],cx 5 0],.block 1 (sq [sq [rg 6 [om 1,om 0,oC 313 [7],oq (.il (.s 6) [(.s 8)]),nn],ci 10 .ret],rg 11 [om 0,om 0,oq (.ek .sub (.s 12) (.c (.int .u64 1))),nb .and 11,o1 0]])])) [] 15:=aW func305
def agF:aT prog 306 (sq [rg 3 [oz 2],rg 4 [oo 1,om 0,n1 1,na 1 4,o2 1 1],rg 3 [oq (.mv (.c (.bool aa)))],.ret]) [.tmp 3] 8:=aW func306
def agN:aT prog 313 (sq [rg 2 [oi 0],sq [rg 3 [om 0,oq (.ek .eql (.s 3) (.c (.int .u64 0)))],cr 4 2 [oi 64]],rg 5 [om 0,om 0,oq (.ek .sub (.c (.int .u64 0)) (.s 6)),nb .and 5,oq (.ek .mul (.s 8) (.c (.int .u64 285870213051353865))),oq (.ek .shr (.s 9) (.c (.int .u64 58))),oq (.q_ 64 1 (.c (.ptr (.jT 1) 0)) (.s 10)),no,oq (.pr .i64 (.s 12)),o1 2],.ret]) [.tmp 2] 14:=aW func313
def fw(l:List Int):List (List V):=l.map λn=>[.int .i64 n]
def BH(l:List Int):(fw l).length=l.length:=by simp[fw]
variable{j:Nat}
def DH{l:List Int}(h:j<l.length):(fw l)[((j:Nat):Int).toNat]?=U [.int .i64 l[j]]:=by simp[fw,h]
abbrev a_(f:FuncId)(es:List V)(Z:ag)(x:V):Prop:=cg prog f es Z λv σ' => v=x/\σ' = Z
abbrev dt(f:FuncId)(es:List V)(Z:ag)(x:V)(fz:ag):Prop:=cg prog f es Z λv σ' => v=x/\σ' = fz
def Ud(n:Int)(Z:ag):a_ 285 [.int .i64 n] Z (.bool (decide (0<=n)&&decide (n<64))):=by
 refine agk.aS ?_;simp only[aR,am,a8,Nat.reduceAdd]
 by_cases h:0<=n
 .simp only[am,aQ h];refine aU ?_;simp[V.erase]
 .simp only[am,aM h];refine aU ?_;simp[V.erase]
def Ot:=ae @am <| ae @a8 <| ae @tM @Ik
def D4(s:bB)(n:Int)(Z:ag):a_ 247 [.int .u64 (s.toNat:Nat),.int .i64 n] Z (.int .u64 ((kb s n).toNat:Nat)):=by
 refine afN.aS ?_;simp only[aR,Ot,Nat.reduceAdd];refine cl (Ud n _) ?_;simp only[am]
 by_cases h:0<=n/\n<64
 .obtain⟨m,rfl⟩:∃m:Nat,n=m:=⟨n.toNat,by omega⟩;simp only[am,Ca,Oc,aQ h.1,aQ h.2,wrap_u64 h.1 (by omega:(m:Int)<18446744073709551616)];refine aU ?_;simp[V.erase,kb,h,lu]
 .have:(decide (0<=n)&&decide (n<64))=false:=by simp only[Ck,CR];omega
  simp only[am,this];refine aU ?_;simp[V.erase,kb,h]
def D3(l:List Int)(Z:ag)(hl:l.length<=100000):a_ 269 [.sl .no 1 (fw l)] Z (.int .u64 ((iE l).toNat:Nat)):=by
 refine af7.aS ?_;simp only[aR,am,a8,Nat.reduceAdd,tM];refine dP (l.length) (λi (x:bB)=>⟨[.sl .no 1 (fw l),.any,.int .u64 ((0#64:bB).toNat:Nat),.int .u64 (x.toNat:Nat),.any,.any,.sl .no 1 (fw l),.int .i64 (l.length:Nat),.int .i64 (i:Nat)]++au 8 .any,[],Z⟩) (λi x=>(x=iE (l.take i))) λF hF JF bj=>⟨?_,?_,?_⟩
 .refine en bj (0#64) (rfl) ?_ ?_ ?_
  all_goals simp[hF,au,am,bQ,BH]
 .rintro i x hi rfl;simp only[hF,au,am,dB hi];refine ix (DH hi) ?_;simp only[am];refine cl (D4 _ _ _) ?_;simp only[am,a9,cE hi];exact nx bj (kb (iE (l.take i)) l[i]) hi (by rw[jx hi];simp only[iE,AQ,yL,List.foldl_nil])
 .rintro x rfl;simp only[hF,au,am,a9,dV,a9,eN];exact rt
def aqG(s:bB)(m:Nat):decide (s>>>m&&&1#64=1#64)=s.getLsbD m:=by
 have:(s>>>m&&&1#64=1#64)↔s.getLsbD m=true:=by
  constructor
  .intro h
   have:=gX (λx:bB=>x.getLsbD 0) h
   simpa using this
  .intro h;apply rH;intro k hk;rw[tQ,XR,BitVec.getLsbD_one]
   by_cases h0:k=0
   .subst h0;simp[h]
   .simp[h0]
 by_cases hc:s.getLsbD m=aa
 .rw[hc,aQ (this.2 hc)]
 .rw[aM (λh=>hc (this.1 h))];simpa using hc
def z1_:=ae @am <| ae @wR <| ae @Il @B'
def alH(s:bB)(n:Int)(Z:ag):a_ 248 [.int .u64 (s.toNat:Nat),.int .i64 n] Z (.bool (hasB s n)):=by
 refine afO.aS ?_;simp only[aR,am,a8,Nat.reduceAdd,Ik];refine cl (Ud n _) ?_;simp only[am]
 by_cases h:0<=n/\n<64
 .obtain⟨m,rfl⟩:∃m:Nat,n=m:=⟨n.toNat,by omega⟩;simp only[z1_,aQ h.1,aQ h.2,wrap_u64 h.1 (by omega:(m:Int)<18446744073709551616),aqG];refine aU ?_;simp[V.erase,hasB]
 .have:(decide (0<=n)&&decide (n<64))=false:=by simp only[Ck,CR];omega
  simp only[am,this];refine aU ?_;simp[V.erase,hasB];intro h0;exact Cj _ _ (by omega)
def XM:=ae @am <| ae @a8 <| ae @tM <| ae @Xj @B'
def alI(a b:bB)(Z:ag):a_ 294 [.int .u64 (a.toNat:Nat),.int .u64 (b.toNat:Nat)] Z (.bool (Au a b)):=by
 refine ags.aS ?_;simp only[aR,XM,Nat.reduceAdd];refine aU ?_;simp[V.erase,Au]
def z3_:=ae @am <| ae @a8 <| ae @tM <| ae @Ik @asn
def D2(n:Int)(Z:ag):a_ 303 [.int .i64 n] Z (.int .u64 ((jh n).toNat:Nat)):=by
 refine agC.aS ?_;simp only[aR,z3_,Nat.reduceAdd]
 by_cases h:n<=0
 .simp only[am,aQ h];refine aU ?_;simp[V.erase,jh,h]
 .simp only[am,aM h]
  by_cases h1:64<=n
  .simp only[am,aQ h1];refine aU ?_;simp[V.erase,jh,h,h1]
  .obtain⟨m,rfl⟩:∃m:Nat,n=m:=⟨n.toNat,by omega⟩;simp only[am,Oc,Od,aM h1,wrap_u64 (by omega:0<=(m:Int)) (by omega:(m:Int)<18446744073709551616)];have e:jh (m:Int)=lu m - 1#64:=by simp only[jh,h,h1,cn,ju]
   refine aU ?_;simp[V.erase,e,lu]
abbrev TZ(Z:ag):Prop:=Z.bY 1=U wN
variable{Z:ag}
def arL(s:bB)(h:s≠0#64)(hg:TZ Z):a_ 313 [.int .u64 (s.toNat:Nat)] Z (.int .i64 (oJ s:Nat)):=by
 refine agN.aS ?_;simp only[aR,XM,Nat.reduceAdd];obtain⟨h1,h2⟩:=arK (oJ s) (DY h).1;simp only[am,wR,Od,aM h,show V.int .u64 285870213051353865 = .int .u64 ((285870213051353865#64:bB).toNat:Nat) from rfl,asl];rw[BitVec.zero_sub,al0 h];generalize hj:((lu (oJ s)*285870213051353865#64)>>>58).toNat=j at h1 h2;have e58:∀a:bB,hD .u64 (a.toNat:Nat) 58 .shr=U (.int .u64 ((a>>>58).toNat:Nat)):=λa=>Il (m:=58)
 simp only[am,cF,e58,hj];refine jD ?_;have hd:bF ak 1 (wN.drop j)=U (.int .u8 (oJ s:Nat)):=by
  obtain⟨h3,h4⟩:=fg.1 h2;have h5:j<wN.length:=by simpa [wN] using h3
  rw[mq h5];simp[bF,wN,h4]
 rw[show(((j:Nat):Int).toNat)*1=j by omega];simp only[am,show Z.bY 1=U wN from hg,hd,wrap_i64 (x:=((oJ s:Nat):Int)) (by omega) (by have:=(DY h).1;omega)];exact rt
def z4_:=ae @am <| ae @a9 <| ae @wR @Od
def aci(f:FuncId)(cap:List V)(hn:bK cap=aa)(J:List Nat->ag->Prop)(s:bB)(hg:∀l Z,J l Z->TZ Z)
 (h:∀pre k WY Z,fN s=pre++k::WY->J pre Z->cg prog f (.int .i64 (k:Nat)::cap) Z λv σ' => v = .bool aa/\J (pre++[k]) σ')
 {Z:ag} (h0:J [] Z):cg prog 305 [.int .u64 (s.toNat:Nat),.fn (.func f) [] cap] Z λv σ' => v = .bt []/\J (fN s) σ' := by
 refine agE.aS ?_;simp only[aR,Ot,Nat.reduceAdd];refine dP ((fN s).length) (λi (x:bB × ag)=>⟨[.int .u64 (x.1.toNat:Nat),.fn (.func f) [] cap]++au 13 .any,[],x.2⟩) (λi x=>(fN x.1=(fN s).drop i/\J ((fN s).take i) x.2)) λF hF JF bj=>⟨?_,?_,?_⟩
 .exact en bj ((s,Z)) (⟨rfl,h0⟩)
 .rintro i ⟨x,Z⟩ hi ⟨h1,h2⟩;simp only at h1 h2;have hx:x≠0#64:=akT (by rw[h1];simp;omega);rw[mq hi] at h1;have hl:=TX hx;rw[h1,gz] at hl;obtain⟨Bv,kR⟩:=hl;simp only[hF,au,am,B',aM hx];refine cl (arL x hx (hg _ _ h2)) ?_;simp only[am];simp only[am,hn];rw[<-Bv];refine(h _ _ ((fN s).drop (i+1)) Z (by rw[<-mq hi,qA]) h2).mono ?_;rintro v σ' ⟨rfl,h3⟩;simp only[z4_];exact nx bj ((x&&&(x - 1#64),σ')) hi (⟨kR.symm,by rw[jx hi];exact h3⟩)
 .rintro⟨x,Z⟩ ⟨h1,h2⟩;simp only[ER,eN] at h1 h2;have hx:=akV h1;subst hx;simp only[hF,au,am,a9,bM,a9];exact aP rfl (ag.bc _) ⟨rfl,h2⟩
def Bx(dr Z:ag)(b:Nat)(tk:Tk)(rows:List (List V)):Prop:=Z.box b=U [.sl tk 1 rows]/\Gr dr Z tk rows.length/\dr.box b=af
def akR(n:Int){dr:ag}{b:Nat}{tk:Tk}{l:List Int}(h:Bx dr Z b tk (fw l))(hl:l.length<=100000):
 cg prog 306 [.int .i64 n,.ptr (.out b) 0] Z λv σ' => v = .bool aa/\∃jJ,Bx dr σ' b jJ (fw (l++[n])):=by
 refine agF.aS ?_;simp only[aR,am,a8,Nat.reduceAdd];obtain⟨h1,h2,h3⟩:=h;simp only[am,h1];refine Gr.app h2 (by simp[fw,aO];omega) λjJ σ' hG hB _=>?_
 simp only[am,show σ'.box b=U [.sl tk 1 (fw l)] by rw[hB,h1]];refine aP rfl (ag.bc _) ⟨rfl,jJ,?_,?_,h3⟩
 .simp[ag.set,fw]
 .refine⟨⟨λc cs hc=>?_,hG.sub.2⟩,?_⟩
  .rw[ag.eg]
   .exact hG.sub.1 c cs hc
   .rintro rfl;rw[h3] at hc;simp at hc
  .simpa [fw,ag.set] using hG.tk
def Mo(s:bB)(hg:TZ Z):a_ 293 [.int .u64 (s.toNat:Nat)] Z (.sl .no 1 (fw ((fN s).map Int.ofNat))):=by
 refine agr.aS ?_;simp only[aR,am,a8,Nat.reduceAdd];refine j1 λb hb=>?_
 simp only[am];have hl:=Hj s;refine(aci _ _ rfl (λl σ' => ∃tk,Bx Z σ' b tk (fw (l.map Int.ofNat))) s ?_ ?_ ⟨.aV,?_⟩).mono ?_
 .rintro l σ' ⟨tk,h1,h2,h3⟩;exact h2.sub.2.2 _ _ hg
 .rintro pre k WY σ' hs ⟨tk,h⟩
  have:pre.length<=64:=by rw[hs] at hl;simp at hl;omega
  have:=akR k h (by simp;omega)
  simpa using this
 .exact⟨gR,⟨h_ hb,.inl rfl⟩,hb⟩
 .rintro v σ' ⟨rfl,tk,h1,h2,h3⟩;simp only[am,h1];exact aP rfl h2.sub ⟨rfl,rfl⟩
def afc:aT prog 199 (sq [rg 0 [ox 1 65 0,oR 2 nq],rg 7 [ol 65 1,oC 246 [7],oR 3 nq,o2 65 3],sq [rg 9 [fo 0 3,oi 0],lp 10 0 (sq [rg 13 [om 11,o1 4],rg 14 [om 4,om 4,of 1 3,oP 64 1 16 15,no,om 4,oC 247 [18,19],of 1 3,oP 64 1 21 14,os 1 22 20]]) 23],sq [rg 24 [fo 0 3,oi 0],lp 25 2 (sq [rg 28 [om 26,o1 5],rg 29 [fo 0 3,oi 0],lp 30 4 (sq [rg 33 [om 31,o1 6],rg 34 [om 6,of 1 3,oP 64 1 35 34,no,om 5,oC 248 [37,38]],ci 39 (dg 40 [om 6,of 1 3,oP 64 1 41 40,no,om 5,of 1 3,oP 64 1 45 44,no,nb .or 43,of 1 3,oP 64 1 49 40,os 1 50 48])]) 51]) 52],rg 53 [ol 65 3,o2 65 2],.ret]) [.cell 2 aa 65] 54:=aW func199
def afq:aT prog 220 (sq [rg 2 [ox 1 65 0,oz 2],sq [rg 4 [ol 65 1,oC 266 [4],nn],cr 6 2 [oz 2]],sq [rg 7 [ol 65 1,oC 267 [7],oi 0],lp 8 0 (sq [rg 11 [om 9,o1 3],rg 12 [ol 65 1,om 3,oC 268 [12,13],om 3,n1 1,oC 269 [16],nb .neq 14],cr 18 2 [oz 2]]) 19],rg 2 [oq (.mv (.c (.bool aa)))],.ret]) [.tmp 2] 20:=aW func220
def afM:aT prog 246 (sq [rg 0 [ox 1 65 0,oR 2 nq],rg 5 [ol 65 1,oC 267 [5],oY nq [(0,1,.s 6)],oR 3 nq,o2 65 3],sq [rg 8 [fo 0 3,oi 0],lp 9 0 (sq [rg 12 [om 10,o1 4],rg 13 [om 4,ol 65 1,om 4,oC 284 [14,15],of 1 3,oP 64 1 17 13,os 1 18 16]]) 19],rg 20 [ol 65 3,o2 65 2],.ret]) [.cell 2 aa 65] 21:=aW func246
def afP:aT prog 249 (sq [rg 0 [oR 2 nq],rg 3 [om 0,oY nq [(0,1,.s 3)],oC 267 [4],oY nq [(0,1,.s 5)],o2 65 2],.ret]) [.cell 2 aa 65] 7:=aW func249
def af4:aT prog 266 (sq [rg 2 [ox 1 65 0,oz 2],dg 3 [ol 65 1,oC 246 [3],mM [0],ol 65 1,oC 199 [5],oq (.ir ak HP (.s 4) (.s 6)),o1 2],.ret]) [.tmp 2] 8:=aW func266
def af5:aT prog 267 (sq [rg 2 [ox 1 65 0,oi 0],rg 3 [fo 0 1,oq (.own .min [(.s 4),(.c (.int .i64 64))]),oq (.own .max [(.c (.int .i64 0)),(.s 5)]),o1 2],.ret]) [.tmp 2] 7:=aW func267
def af6:aT prog 268 (sq [rg 4 [ox 2 65 0,oz 4],rg 6 [om 1,n1 1,oC 269 [7],o1 5],dg 9 [ol 65 2,om 5,oC 291 [9,10],mM [0],ol 65 2,om 5,oC 292 [12,13],nb .and 11,o1 4],.ret]) [.tmp 4] 16:=aW func268
def agj:aT prog 284 (sq [rg 4 [ox 2 65 0,oz 4],dg 5 [om 1,of 1 2,oP 64 1 6 5,mM [1,2],no,ol 65 2,oC 267 [9],oC 303 [10],nb .and 8,o1 4],.ret]) [.tmp 4] 13:=aW func284
def agp:aT prog 291 (sq [rg 4 [ox 2 65 0,oz 4],rg 5 [oz 4],sq [rg 8 [om 1,ol 65 2,oC 267 [9],oC 303 [10],nb .and 8,oC 293 [12],nL,oi 0],lp 14 0 (sq [rg 17 [oA 1 13 15,no,o1 7],rg 19 [om 5,ol 65 2,om 7,oC 284 [20,21],nb .or 19,o1 5]]) 24],rg 25 [om 5,o1 4],.ret]) [.tmp 4] 26:=aW func291
def agq:aT prog 292 (sq [rg 4 [ox 2 65 0,oz 4],rg 5 [oz 4],sq [rg 7 [ol 65 2,oC 267 [7],oi 0],lp 8 0 (sq [rg 11 [om 9,o1 6],rg 12 [ol 65 2,om 6,oC 284 [12,13],om 1,nb .and 14,oq (.ek .neq (.s 16) (.c (.int .u64 0)))],ci 17 (rg 18 [om 5,om 6,oC 247 [18,19],o1 5])]) 21],rg 22 [om 5,o1 4],.ret]) [.tmp 4] 23:=aW func292
def agw:aT prog 298 (sq [rg 4 [ox 2 65 0,ox 3 65 1,oz 2],dg 5 [ol 65 2,oC 246 [5],mM [0],ol 65 3,oC 246 [7],oq (.ir ak HP (.s 6) (.s 8)),o1 4],.ret]) [.tmp 4] 10:=aW func298
def z5_:=ae @am <| ae @pn <| ae @a8 @Rl.al
def Ag(r:Rl)(Z:ag):a_ 267 [.agg r.enc] Z (.int .i64 (bD r:Nat)):=by
 refine af5.aS ?_;simp only[aR,z5_,Nat.reduceAdd];refine alM ?_;simp only[am,pn];refine alJ ?_;simp only[am];refine aU ?_;simp[V.erase];simp only[bD];split<;>split<;>omega
def tN:=ae @am <| ae @cF <| ae @a8 <| ae @tM @Rl.al
def z7_:=ae @am <| ae @Rl.al <| ae @ju @sB
def Np(r:Rl)(i:Nat)(h:i<64)(Z:ag):a_ 284 [.agg r.enc,.int .i64 (i:Nat)] Z (.int .u64 ((gy r i).toNat:Nat)):=by
 refine agj.aS ?_;simp only[aR,tN,Nat.reduceAdd];refine jD ?_;simp only[z7_,Rl.wO h];refine bJ.intro (Ag r Z) ?_;simp only[am];refine bJ.intro (D2 _ Z) ?_;simp only[am,wR];refine⟨⟨Rl.wO h,Rl.wO h⟩,?_⟩;refine aU ?_;simp[V.erase,gy]
def Cd:=ae @am <| ae @a9 <| ae @ju @sB
def HG(r:Rl)(Z:ag):a_ 246 [.agg r.enc] Z (.agg (j7 r).enc):=by
 refine afM.aS ?_;simp only[aR,am,a8,Nat.reduceAdd,Rl.al];refine cl (Ag r Z) ?_;simp only[am,Nat.reduceAdd,Rl.al];have hp:=@mg r;refine dP (bD r) (λi (x:Unit)=>⟨[.agg r.enc,.ptr (.aD 0) 0,.ptr (.aD 1) 0,.ptr (.aD 2) 0,.any,.any,.any,.any,.any,.int .i64 (bD r:Nat),.int .i64 (i:Nat)]++au 10 .any,[r.enc,Rl.zero.enc,(Rl.of (bD r:Nat) λj=>if j<i then gy r j else 0#64).enc],Z⟩) (λi x=>(True)) λF hF JF bj=>⟨?_,?_,?_⟩
 .refine en bj (()) (trivial) ?_ ?_ ?_
  all_goals simp[hF,au,am,bQ,Rl.OB,Rl.Ad]
 .rintro i x hi -;simp only[hF,au,am,dB hi,Rl.al];refine cl (Np r i (by omega) Z) ?_;simp only[am,cF];refine jD ?_;simp only[Cd,Rl.AB (show i<64 by omega),Rl.AD (show i<64 by omega),cE hi];refine nx bj (()) hi (trivial) ?_ ?_ ?_
  all_goals simp[hF,au,am,bQ,Rl.fill]
 .rintro x -;simp only[hF,au,am,a9,dV,a9,Rl.al];refine aU ?_;simp[V.erase,j7,Rl.dk]
def Uq(n:Int)(Z:ag):a_ 249 [.int .i64 n] Z (.agg (Rl.of (min n.toNat 64:Nat) λ_=>0#64).enc):=by
 refine afP.aS ?_;simp only[aR,am,a8,Nat.reduceAdd,Rl.al];refine cl (Ag _ Z) ?_;simp only[am,Rl.al];refine aU ?_;simp only[V.erase,Rl.dk,Rl.OB];rfl
def We(r s:Rl)(Z:ag):a_ 298 [.agg r.enc,.agg s.enc] Z (.bool (decide (j7 r=j7 s))):=by
 refine agw.aS ?_;simp only[aR,am,a8,Nat.reduceAdd,Rl.al];refine bJ.intro (HG r Z) ?_;simp only[am,Rl.al];refine bJ.intro (HG s Z) ?_;simp only[am,Rl.al];exact rt
def Ig(r:Rl)(w:bB)(hg:TZ Z):a_ 291 [.agg r.enc,.int .u64 (w.toNat:Nat)] Z (.int .u64 ((vk r w).toNat:Nat)):=by
 refine agp.aS ?_;simp only[aR,tN,Nat.reduceAdd];refine cl (Ag r Z) ?_;simp only[am];refine cl (D2 _ Z) ?_;simp only[am,wR];refine cl (Mo _ hg) ?_;simp only[am,aN,BH];generalize hl:fN (w&&&jh ↑(bD r))=l;have aB:∀k∈l,k<64:=λk hk=>akS (hl▸hk)
 have hlen:l.length<=64:=hl▸Hj _;refine dP (l.length) (λi (x:Unit)=>⟨[.agg r.enc,.any,.ptr (.aD 0) 0,.any,.any,.int .u64 (((l.take i).foldl (λo i=>o|||gy r i) 0#64).toNat:Nat),.any,.any,.any,.any,.any,.any,.any,.sl .no 1 (fw (l.map Int.ofNat)),.int .i64 (l.length:Nat),.int .i64 (i:Nat)]++au 10 .any,[r.enc],Z⟩) (λi x=>(True)) λF hF JF bj=>⟨?_,?_,?_⟩
 .refine en bj (()) (trivial) ?_ ?_ ?_
  all_goals simp[hF,au,am,bQ]
 .rintro i x hi -;simp only[hF,au,am,dB hi];refine ix (DH (l:=l.map Int.ofNat) (by simpa using hi)) ?_;simp only[am,Rl.al,OZ,IC];refine cl (Np r l[i] (aB _ (fh hi)) Z) ?_;simp only[am,a9,Ca,cE hi];refine nx bj (()) hi (trivial) ?_ ?_ ?_
  all_goals simp[hF,au,am,bQ,Rt hi]
 .rintro x -;simp only[hF,au,am,a9,dV,a9,eN];refine aU ?_;simp[V.erase,vk,hl]
def Jv(r:Rl)(w:bB)(Z:ag):a_ 292 [.agg r.enc,.int .u64 (w.toNat:Nat)] Z (.int .u64 ((xn r w).toNat:Nat)):=by
 refine agq.aS ?_;simp only[aR,tN,Nat.reduceAdd];refine cl (Ag r Z) ?_;simp only[am];have hp:=@mg r;refine dP (bD r) (λi (x:Unit)=>⟨[.agg r.enc,.int .u64 (w.toNat:Nat),.ptr (.aD 0) 0,.any,.any,.int .u64 (((bU i).foldl (λo i=>if gy r i&&&w=0#64 then o else kb o (i:Nat)) 0#64).toNat:Nat),.any,.any,.int .i64 (bD r:Nat),.int .i64 (i:Nat)]++au 13 .any,[r.enc],Z⟩) (λi x=>(True)) λF hF JF bj=>⟨?_,?_,?_⟩
 .exact en bj (()) (trivial)
 .rintro i x hi -;simp only[hF,au,am,dB hi,Rl.al];refine cl (Np r i (by omega) Z) ?_;simp only[am,wR,B']
  by_cases h:gy r i&&&w=0#64
  .simp only[am,a9,aQ h,cE hi];refine nx bj (()) hi (trivial) ?_ ?_ ?_
   all_goals simp[hF,au,am,bQ,xu,h]
  .simp only[am,aM h];refine cl (D4 _ _ Z) ?_;simp only[am,a9,cE hi];refine nx bj (()) hi (trivial) ?_ ?_ ?_
   all_goals simp[hF,au,am,bQ,xu,h]
 .rintro x -;simp only[hF,au,am,a9,dV,a9];refine aU ?_;simp[V.erase,xn]
variable{i:Nat}
def aaO{r:Rl}(hi:i<bD r):(Rl.of (bD r:Nat) λj=>if j<bD r then(if j<i then kb (gy r j) (j:Nat) else gy r j) else 0#64).put i (kb (gy r i) (i:Nat))=Rl.of (bD r:Nat) λj=>if j<bD r then(if j<i+1 then kb (gy r j) (j:Nat) else gy r j) else 0#64:=by
 refine Rl.ext rfl λk hk=>?_
 rw[Rl.Bf,Rl.nY hk,Rl.nY hk]
 by_cases h:i=k
 .subst h;simp[hk,hi]
 .rw[aC (by omega)]
  by_cases h2:k<i
  .simp[h2,show k<i+1 by omega]
  .simp[h2,show ¬k<i+1 by omega]
def aaN{r:Rl}(hi:i<bD r):(Rl.of (bD r:Nat) λj=>if j<bD r then(if j<i then kb (gy r j) (j:Nat) else gy r j) else 0#64).get i=gy r i:=by
 rw[Rl.nY (vv hi mg),aE hi,aC (Nat.lt_irrefl _)]
def aaM{r:Rl}:(Rl.of (bD r:Nat) λj=>if j<bD r then(if j<bD r then kb (gy r j) (j:Nat) else gy r j) else 0#64)=uk r:=by
 refine Rl.ext rfl λk hk=>?_
 rw[Rl.nY hk,uk,Rl.nY hk];split<;>rfl
variable{k:Nat}
def Tc{n:Nat}{o:Rl}:kV (n+1) k o=wG k (kV n k o) n:=xu
theorem ajf{o:Rl}:kV 0 k o=o:=rfl
theorem anM{r:Rl}:kA r 0=uk r:=rfl
theorem aom{r:Rl}:(j7 r).n=(bD r:Nat):=rfl
def aq8{o:Rl}(h:hasB (o.get i) (k:Nat)=aa):wG k o i=o.put i (o.get i|||o.get k):=by rw[wG,aE h]
def aq7{o:Rl}(h:hasB (o.get i) (k:Nat)=ak):wG k o i=o:=by rw[wG,h];rfl
def z9_:=ae @am <| ae @cF <| ae @ju @sB
def atl:=ae @am <| ae @cF <| ae @Ca <| ae @ju @sB
def Qa(r:Rl)(Z:ag):a_ 199 [.agg r.enc] Z (.agg (rF r).enc):=by
 refine afc.aS ?_;simp only[aR,am,a8,Nat.reduceAdd,Rl.al];refine cl (HG r Z) ?_;simp only[am,Nat.reduceAdd,Rl.al,aom];have hp:=@mg r;refine dP (bD r) (λi (x:Unit)=>⟨[.any,.ptr (.aD 0) 0,.ptr (.aD 1) 0,.ptr (.aD 2) 0,.any,.any,.any,.any,.any,.any,.int .i64 (bD r:Nat),.int .i64 (i:Nat)]++au 42 .any,[r.enc,Rl.zero.enc,(Rl.of (bD r:Nat) λj=>if j<bD r then(if j<i then kb (gy r j) (j:Nat) else gy r j) else 0#64).enc],Z⟩) (λi x=>(True)) λF hF JF bj=>⟨?_,?_,?_⟩
 .refine en bj (()) (trivial) ?_ ?_ ?_
  all_goals simp[hF,au,am,bQ,j7]
 .rintro i x hi -;simp only[hF,au,am,cF,dB hi];have Bh:i<64:=by omega
  refine jD ?_;simp only[am,ju,sB,Rl.wO Bh,aaN hi];refine cl (D4 _ _ Z) ?_;simp only[am,cF];refine jD ?_;simp only[Cd,Rl.AB Bh,Rl.AD Bh,cE hi];refine nx bj (()) hi (trivial) ?_ ?_ ?_
  all_goals simp[hF,au,am,bQ,aaO hi]
 .rintro x -;simp only[hF,au,am,a9,dV,a9,Rl.al,Rl.Ad];rw[aaM];clear hF F;refine dP (bD r) (λk (x:Unit)=>⟨[.any,.ptr (.aD 0) 0,.ptr (.aD 1) 0,.ptr (.aD 2) 0,.any,.any,.any,.any,.any,.any,.any,.any,.any,.any,.any,.any,.any,.any,.any,.any,.any,.any,.any,.any,.any,.int .i64 (bD r:Nat),.int .i64 (k:Nat)]++au 27 .any,[r.enc,Rl.zero.enc,(kA r k).enc],Z⟩) (λk x=>(True)) λF hF JF bj=>⟨?_,?_,?_⟩
  .refine en bj (()) (trivial) ?_ ?_ ?_
   all_goals simp[hF,au,am,bQ,anM]
  .rintro k x hi -;simp only[hF,au,am,dB hi,Rl.al,MM];refine dP (bD r) (λi (x:Unit)=>⟨[.any,.ptr (.aD 0) 0,.ptr (.aD 1) 0,.ptr (.aD 2) 0,.any,.int .i64 (k:Nat),.any,.any,.any,.any,.any,.any,.any,.any,.any,.any,.any,.any,.any,.any,.any,.any,.any,.any,.any,.int .i64 (bD r:Nat),.int .i64 (k:Nat),.any,.any,.any,.int .i64 (bD r:Nat),.int .i64 (i:Nat)]++au 22 .any,[r.enc,Rl.zero.enc,(kV i k (kA r k)).enc],Z⟩) (λi x=>(True)) λF2 eH yI ji=>⟨?_,?_,?_⟩
   .refine en ji (()) (trivial) ?_ ?_ ?_
    all_goals simp[eH,au,am,bQ,ajf]
   .rintro i x hj -;have GB:i<64:=by omega
    have aiI:k<64:=by omega
    simp only[eH,au,am,cF,dB hj];refine jD ?_;simp only[am,ju,sB,Rl.wO GB];refine cl (alH _ _ Z) ?_;simp only[am];refine e9 (λhb=>?_) (λhb=>?_)
    .simp only[am,cF];refine jD ?_;simp only[z9_,Rl.wO GB];refine jD ?_;simp only[atl,Rl.wO aiI];refine jD ?_;simp only[Cd,Rl.AB GB,Rl.AD GB,cE hj];refine nx ji (()) hj (trivial) ?_ ?_ ?_
     all_goals simp[eH,au,am,bQ,Tc,aq8 hb]
    .simp only[am,a9,cE hj];refine nx ji (()) hj (trivial) ?_ ?_ ?_
     all_goals simp[eH,au,am,bQ,Tc,aq7 hb]
   .rintro x -;simp only[eH,au,am,a9,dV,Nat.reduceEqDiff,a9,Rl.al,cE hi];refine nx bj (()) hi (trivial) ?_ ?_ ?_
    all_goals simp[hF,au,am,bQ,Hz]
  .rintro x -;simp only[hF,au,am,a9,dV,a9,Rl.al];exact aP (v:=.agg (rF r).enc) Rl.dw (ag.bc _) ⟨by simp only[V.erase,Rl.dk],rfl⟩
def P8(r:Rl)(Z:ag):a_ 266 [.agg r.enc] Z (.bool (um r)):=by
 refine af4.aS ?_;simp only[aR,am,a8,Nat.reduceAdd,Rl.al];refine bJ.intro (HG r Z) ?_;simp only[am,Rl.al];refine bJ.intro (Qa r Z) ?_;simp only[am,Rl.al];refine aU ?_;simp[V.erase,um]
def alP(r:Rl)(i:Nat)(hg:TZ Z):a_ 268 [.agg r.enc,.int .i64 (i:Nat)] Z (.int .u64 ((yf r i).toNat:Nat)):=by
 refine af6.aS ?_;simp only[aR,tN,Nat.reduceAdd];refine cg.eh (as' := [.sl .no 1 (fw [(i:Int)])]) ?_ ⟨da.no,trivial⟩ bL.rfl;refine cl (D3 [(i:Int)] Z (by simp)) ?_;simp only[am,Rl.al];refine bJ.intro (Ig r _ hg) ?_;simp only[am,Rl.al];refine bJ.intro (Jv r _ Z) ?_;simp only[am,wR,Rl.al];refine aU ?_;simp[V.erase,yf]
def anI(r:Rl)(hg:TZ Z):a_ 220 [.agg r.enc] Z (.bool (BT r)):=by
 refine afq.aS ?_;simp only[aR,am,a8,Nat.reduceAdd,Rl.al];refine cl (P8 r Z) ?_;simp only[am];refine e9 (λhb=>?_) (λhb=>?_)
 .have hb:um r=false:=by simpa using hb
  simp only[am];refine aU ?_;simp[V.erase,BT,hb]
 .have hb:um r=true:=by simpa using hb
  simp only[am,Rl.al];refine cl (Ag r Z) ?_;simp only[am];have hp:=@mg r;refine dP (bD r) (λi (x:Unit)=>⟨[.any,.ptr (.aD 0) 0,.any,.any,.any,.any,.any,.any,.int .i64 (bD r:Nat),.int .i64 (i:Nat)]++au 10 .any,[r.enc],Z⟩) (λi x=>(∀k,k<i->yf r k=iE [(k:Int)])) λF hF JF bj=>⟨?_,?_,?_⟩
  .exact en bj (()) (by intro k h;omega)
  .rintro i x hi hJ;simp only[hF,au,am,dB hi,Rl.al];refine cl (alP r i hg) ?_;simp only[am];refine cg.eh (as' := [.sl .no 1 (fw [(i:Int)])]) ?_ ⟨da.no,trivial⟩ bL.rfl;refine cl (D3 [(i:Int)] _ (by simp)) ?_;simp only[am,B']
   by_cases h:yf r i=iE [(i:Int)]
   .simp only[am,a9,aQ h,cE hi];exact nx bj (()) hi (λk hk=>if e:k=i then e▸h else hJ k (by omega))
   .have hA:yW r=false:=by
     cases hq:yW r with
     | false=>rfl
     | true=>exact absurd ((Pu hb).1 hq i hi) h
    simp only[am,a9,aM h];refine aU ?_;simp[V.erase,BT,hA]
  .rintro x hJ;have hA:yW r=true:=(Pu hb).2 hJ;simp only[hF,au,am,a9,dV,a9];refine aU ?_;simp[V.erase,BT,hb,hA]
def agx:aT prog 299 (sq [rg 2 [ox 1 65 0,oz 2],rg 3 [fo 0 1,nB .geq 1,gA,fo 0 1,nB .leq 8,gZ,gA,ol 65 1,oC 266 [12],gZ,o1 2],.ret]) [.tmp 2] 15:=aW func299
def agz:aT prog 300 (sq [rg 6 [ox 3 65 0,od (U 4) (.gf 1 (.s 1)),oz 4],sq [rg 8 [ol 65 3,oo 4,oC 308 [8,9],nn],cr 11 6 [oz 4]],dA 12 [7] [fo 0 3,oC 303 [13],mM [0],ol 65 3,om 2,oC 291 [15,16],nb .andNot 14,oN,oX 7 1 18],.pf (dg 19 [mM [1],ol 65 3,ol 65 3,oq (.jG (.func 311) [] [(.s 4),(.s 7)]),oC 310 [20,21],oC 309 [19,22],o1 6]),.ret]) [.tmp 6] 24:=aW func300 ⟨[4],[4]⟩
def agB:aT prog 302 (sq [rg 4 [oz 4,oz 2],sq [rg 6 [om 0,oC 312 [6],nn,gB,om 1,nB .lss 0,gZ,gB,om 1,om 0,nb .geq 14,gZ],cr 17 4 [oz 4,oz 2]],rg 18 [om 1,oC 303 [18],o1 4,oV 5 (.bool aa)],.ret]) [.tmp 4,.tmp 5] 20:=aW func302
def agH:aT prog 308 (sq [rg 4 [ox 2 65 0,oz 2],rg 5 [ol 65 2,oC 299 [5],gA,om 1,nB .geq 0,gZ,gA,om 1,fo 0 2,nb .lss 12,gZ,o1 4],.ret]) [.tmp 4] 17:=aW func308
def agI:aT prog 309 (sq [rg 4 [od (U 2) (.gf 65 (.s 0)),od (U 3) (.gf 1 (.s 1)),oz 4],sq [rg 5 [ol 65 2,oC 299 [5],nn],cr 7 4 [oz 4]],rg 8 [ol 65 2,oq (.jG (.func 315) [] [(.s 2),(.s 3)]),oC 310 [8,9],o1 4],.ret]) [.tmp 4] 11:=aW func309 ⟨[2,3],[]⟩
def agK:aT prog 310 (sq [rg 4 [ox 2 65 0,oz 4],rg 5 [oz 4],sq [rg 7 [fo 0 2,oi 0],lp 8 0 (sq [rg 11 [om 9,o1 6],rg 12 [om 5,om 1,om 6,oq (.il (.s 13) [(.s 14)]),om 6,oq (.ek .mul (.c (.int .i64 8)) (.s 16)),oq (.pr .u64 (.s 17)),nb .shl 15,nb .or 12,o1 5]]) 21],rg 22 [om 5,o1 4],.ret]) [.tmp 4] 23:=aW func310
def agL:aT prog 311 (sq [rg 4 [oz 4],sq [rg 5 [om 0,oo 1,nb .eql 5],cr 7 8 [oo 2,o1 4]],rg 4 [oz 4],.ret]) [.tmp 4] 9:=aW func311
def agM:aT prog 312 (sq [rg 2 [oz 2],rg 3 [om 0,nB .geq 1,gA,om 0,nB .leq 64,gZ,o1 2],.ret]) [.tmp 2] 9:=aW func312
def agP:aT prog 315 (sq [rg 4 [oz 4],rg 5 [oz 4],sq [dg 8 [mM [1],ol 65 1,om 0,n1 1,oC 269 [10],oC 291 [8,11],oC 293 [12],nL,oi 0],lp 14 0 (sq [rg 17 [oA 1 13 15,no,o1 7],dg 19 [om 5,mM [1],ol 65 1,ol 65 1,oo 2,om 7,oC 316 [21,22,23],oC 292 [20,24],nb .or 19,o1 5]]) 27],rg 28 [om 5,o1 4],.ret]) [.tmp 4] 29:=aW func315
def agQ:aT prog 316 (sq [rg 6 [ox 3 65 0,oz 4],rg 7 [om 1,om 2,oq (.ek .mul (.c (.int .i64 8)) (.s 8)),oq (.pr .u64 (.s 9)),nb .shr 7,fo 0 3,oC 303 [13],nb .and 11,o1 6],.ret]) [.tmp 6] 16:=aW func316
def aaH(n:Int)(Z:ag):a_ 312 [.int .i64 n] Z (.bool (decide (1<=n)&&decide (n<=64))):=by
 refine agM.aS ?_;simp only[aR,am,a8,Nat.reduceAdd]
 by_cases h:1<=n
 .simp only[am,aQ h];refine aU ?_;simp[V.erase]
 .simp only[am,aM h];refine aU ?_;simp[V.erase]
def B_(p:bB × Bool):V:=.bt [.int .u64 (p.1.toNat:Nat),.bool p.2]
def ap5(n k:Int)(Z:ag):a_ 302 [.int .i64 n,.int .i64 k] Z (B_ (Ao n k)):=by
 refine agB.aS ?_;simp only[aR,am,a8,Nat.reduceAdd,tM];refine cl (aaH n Z) ?_
 by_cases h:1<=n/\n<=64
 .simp only[am,aQ h.1,aQ h.2]
  by_cases h2:k<0
  .simp only[am,aQ h2];refine aU ?_;simp[V.erase,bx,B_,Ao,show ¬0<=k by omega]
  .simp only[am,aM h2]
   by_cases h3:n<=k
   .simp only[am,aQ h3];refine aU ?_;simp[V.erase,bx,B_,Ao,show ¬k<n by omega]
   .simp only[am,aM h3];refine cl (D2 k Z) ?_;simp only[am];refine aU ?_;simp[V.erase,bx,B_,Ao,h,show 0<=k by omega,show k<n by omega]
 .have e:(decide (1<=n)&&decide (n<=64))=false:=by simp only[Ck,CR];omega
  have e2:Ao n k=(0#64,ak):=by simp only[Ao];rw[aC (by omega)]
  simp only[am,e];refine aU ?_;simp[V.erase,bx,B_,e2]
def J5(r:Rl)(Z:ag):a_ 299 [.agg r.enc] Z (.bool (qO r)):=by
 refine agx.aS ?_;simp only[aR,am,a8,Nat.reduceAdd,Rl.al]
 by_cases h:1<=r.n
 .simp only[am,Rl.al,aQ h]
  by_cases h2:r.n<=8
  .simp only[am,Rl.al,aQ h2];refine cl (P8 r Z) ?_;simp only[am];refine aU ?_;simp[V.erase,qO,h,h2]
  .simp only[am,aM h2];refine aU ?_;simp[V.erase,qO,h2]
 .simp only[am,aM h];refine aU ?_;simp[V.erase,qO,h]
def ah1(r:Rl)(w:bB)(o:Nat)(ho:o<64)(Z:ag):a_ 316 [.agg r.enc,.int .u64 (w.toNat:Nat),.int .i64 (o:Nat)] Z (.int .u64 ((Hy r w o).toNat:Nat)):=by
 refine agQ.aS ?_;simp only[aR,tN,Nat.reduceAdd];rw[wrap_i64,wrap_u64 (by omega) (by omega),show(8:Int)*(o:Nat)=((8*o:Nat):Int) by omega];simp only[am,Il,Rl.al];refine cl (D2 r.n Z) ?_;simp only[am,wR];refine aU ?_;simp[V.erase,Hy]
def atm:=ae @am <| ae @a9 <| ae @Ca @Oc
def RX(r:Rl)(n:Nat)(hn:r.n=n)(h8:n<=8)(f:FuncId)(cap:List V)(hc:bK cap=aa)(g:Nat->bB)(Z:ag)
 (h:∀o,o<n->cg prog f (.int .i64 (o:Nat)::cap) Z λv σ' => v = .int .u64 ((g o).toNat:Nat)/\σ' = Z) :
 a_ 310 [.agg r.enc,.fn (.func f) [] cap] Z (.int .u64 ((BZ n g).toNat:Nat)):=by
 refine agK.aS ?_;simp only[aR,tN,Nat.reduceAdd];refine dP (n) (λi (x:Unit)=>⟨[.any,.fn (.func f) [] cap,.any,.any,.any,.int .u64 ((BZ i g).toNat:Nat),.any,.any,.int .i64 (n:Nat),.int .i64 (i:Nat)]++au 13 .any,[r.enc],Z⟩) (λi x=>(True)) λF hF JF bj=>⟨?_,?_,?_⟩
 .refine en bj (()) (trivial) ?_ ?_ ?_
  all_goals simp[hF,au,am,bQ,hn,BZ]
 .rintro i x hi -;simp only[hF,au,am,dB hi,hc];refine(h i hi).mono ?_;rintro v σ' ⟨rfl,rfl⟩;simp only[am];rw[wrap_i64 (x:=8*((i:Nat):Int)),wrap_u64 (x:=8*((i:Nat):Int)) (by omega) (by omega),show(8:Int)*(i:Nat)=((8*i:Nat):Int) by omega];simp only[atm,cE hi];refine nx bj (()) hi (trivial) ?_ ?_ ?_
  all_goals simp[hF,au,am,bQ,BZ,xu]
 .rintro x -;simp only[hF,au,am,a9,dV,a9];exact rt
def atn:=ae @am <| ae @a9 <| ae @Ca @Rl.al
def ahI(r:Rl)(w:bB)(o b1 b2:Nat)(hg:TZ Z)(ho:o<bD r)(h8:bD r<=8)(h1:Z.box b1=U r.enc)(h2:Z.box b2=U [.int .u64 (w.toNat:Nat)]):
 a_ 315 [.int .i64 (o:Nat),.ptr (.out b1) 0,.ptr (.out b2) 0] Z (.int .u64 ((FD r w o).toNat:Nat)):=by
 refine agP.aS ?_;simp only[aR,am,a8,Nat.reduceAdd,tM];simp only[am,Rl.al,h1];refine bJ.intro (cg.eh (as' := [.sl .no 1 (fw [(o:Int)])]) (D3 [(o:Int)] Z (by simp)) ⟨da.no,trivial⟩ bL.rfl) ?_;simp only[am,Rl.al];refine bJ.intro (Ig r _ hg) ?_;simp only[am];refine bJ.intro (Mo _ hg) ?_;simp only[am,aN,Rl.al,BH,h1];rw[show vk r (iE [(o:Int)])=vD r o from rfl];generalize hl:fN (vD r o)=l;have aB:∀k∈l,k<bD r:=λk hk=>by
  rw[<-hl,Ue,Ye] at hk;exact(v_ hk).2
 have hlen:l.length<=64:=hl▸Hj _;have hp:=@mg r;refine dP (l.length) (λi (x:Unit)=>⟨[.any,.ptr (.out b1) 0,.ptr (.out b2) 0,.any,.any,.int .u64 (((l.take i).foldl (λs p=>s|||xn r (Hy r w p)) 0#64).toNat:Nat),.any,.any,.any,.any,.any,.any,.any,.sl .no 1 (fw (l.map Int.ofNat)),.int .i64 (l.length:Nat),.int .i64 (i:Nat)]++au 13 .any,[],Z⟩) (λi x=>(True)) λF hF JF bj=>⟨?_,?_,?_⟩
 .refine en bj (()) (trivial) ?_ ?_ ?_
  all_goals simp[hF,au,am,bQ]
 .rintro i x hi -;simp only[hF,au,am,dB hi];refine ix (DH (l:=l.map Int.ofNat) (by simpa using hi)) ?_;simp only[am,Rl.al,OZ,IC,h1,h2]
  have:=aB _ (fh hi)
  refine bJ.intro (ah1 r w l[i] (by omega) Z) ?_;simp only[am,Rl.al];refine bJ.intro (Jv r _ Z) ?_;simp only[atn,h1,cE hi];refine nx bj (()) hi (trivial) ?_ ?_ ?_
  all_goals simp[hF,au,am,bQ,Rt hi]
 .rintro x -;simp only[hF,au,am,a9,dV,a9,eN];refine aU ?_;simp[V.erase,FD,hl]
def ahJ(r:Rl)(w:bB)(hg:TZ Z):a_ 309 [.agg r.enc,.int .u64 (w.toNat:Nat)] Z (.int .u64 ((FE r w).toNat:Nat)):=by
 refine agI.aS ?_;simp only[aR,tN,Nat.reduceAdd];refine j1 λb1 fv=>?_
 simp only[am];refine j1 λb2 dD=>?_
 have aX:b1≠b2:=by rintro rfl;rw[gR] at dD;simp at dD
 have oD:=h_ (cs:=r.enc) fv;have hs:=ag.B4 oD (h_ (cs:=[.int .u64 (w.toNat:Nat)]) dD);have e1:((Z.set b1 r.enc).set b2 [.int .u64 (w.toNat:Nat)]).box b1=U r.enc:=by rw[mL aX,gR]
 generalize uQ:(Z.set b1 r.enc).set b2 [V.int .u64 (w.toNat:Nat)]=cN at hs e1;have e2:cN.box b2=U [.int .u64 (w.toNat:Nat)]:=by rw[<-uQ,gR]
 simp only[am,Rl.al,e1];refine(J5 r cN).mono ?_;rintro v cN ⟨rfl,rfl⟩;simp only[am];cases uI:qO r with
 | false =>
  simp only[am];exact aP rfl hs ⟨by simp[FE,uI,V.erase],rfl⟩
 | true =>
  obtain⟨n,hn,hp,h1,h8⟩:=RU uI;simp only[am,Rl.al,e1];refine(RX r n hn h8 _ _ rfl (FD r w) cN λo ho=>ahI r w o b1 b2 (hs.2.2 _ _ hg) (by omega) (by omega) e1 e2).mono ?_;rintro v cN ⟨rfl,rfl⟩;simp only[am];exact aP rfl hs ⟨by simp[FE,uI,V.erase,hn],rfl⟩
def anR(r:Rl)(o:Nat)(Z:ag):a_ 308 [.agg r.enc,.int .i64 (o:Nat)] Z (.bool (qO r&&decide ((o:Int)<r.n))):=by
 refine agH.aS ?_;simp only[aR,am,a8,Nat.reduceAdd,Rl.al];refine cl (J5 r Z) ?_;cases h:qO r with
 | false =>
  simp only[am];exact rt
 | true =>
  simp only[am,Rl.al,show decide ((0:Int)<=(o:Nat))=aa from aQ (by omega)];exact rt
def ah2(k o b:Nat)(w:bB)(b2:Nat)(h1:Z.box b=U [.int .i64 (o:Nat)])(h2:Z.box b2=U [.int .u64 (w.toNat:Nat)]):
 a_ 311 [.int .i64 (k:Nat),.ptr (.out b) 0,.ptr (.out b2) 0] Z (.int .u64 ((if k=o then w else 0#64).toNat:Nat)):=by
 refine agL.aS ?_;simp only[aR,am,a8,Nat.reduceAdd,tM];simp only[am,h1]
 by_cases h:k=o
 .simp only[am,aQ (show(k:Int)=(o:Nat) by omega),h2];refine aU ?_;simp[V.erase,h]
 .simp only[am,aM (show ¬(k:Int)=(o:Nat) by omega)];refine aU ?_;simp[V.erase,h]
def ah3(r:Rl)(o:Nat)(d:bB)(hg:TZ Z):a_ 300 [.agg r.enc,.int .i64 (o:Nat),.int .u64 (d.toNat:Nat)] Z (.int .u64 ((B0 r o d).toNat:Nat)):=by
 refine agz.aS ?_;simp only[aR,tN,Nat.reduceAdd];refine j1 λb1 fv=>?_
 simp only[am,Rl.al];have hs:=h_ (cs:=[V.int .i64 (o:Nat)]) fv;have e1:(Z.set b1 [V.int .i64 (o:Nat)]).box b1=U [V.int .i64 (o:Nat)]:=gR;generalize uQ:Z.set b1 [V.int .i64 (o:Nat)]=cN at hs e1;refine(anR r o cN).mono ?_;rintro v cN ⟨rfl,rfl⟩;simp only[am];cases uI:qO r&&decide ((o:Int)<r.n) with
 | false =>
  simp only[am];exact aP rfl hs ⟨by simp[B0,uI,V.erase],rfl⟩
 | true =>
  have aiA := uI;rw[bC,ca] at uI;obtain⟨n,hn,hp,h1,h8⟩:=RU uI.1;simp only[am,Nat.reduceAdd,bM,Nat.reduceLT,Rl.al];refine bJ.intro (D2 r.n cN) ?_;simp only[am,Rl.al];refine bJ.intro (Ig r d (hs.2.2 _ _ hg)) ?_;simp only[am,Xj,Rl.al];refine bq.aoL (l:=[r.enc]) (cs:=[V.int .u64 ((jh r.n&&&~~~vk r d).toNat:Nat)]) rfl λb2 dD=>?_
  rw[show jh r.n&&&~~~vk r d=wm r d from rfl];have DB:=ag.B4 hs (h_ (cs:=[V.int .u64 ((wm r d).toNat:Nat)]) dD);have aX:b1≠b2:=by rintro rfl;rw[e1] at dD;simp at dD
  have e2:(cN.set b2 [V.int .u64 ((wm r d).toNat:Nat)]).box b1=U [V.int .i64 (o:Nat)]:=by rw[mL aX,e1]
  have e3:(cN.set b2 [V.int .u64 ((wm r d).toNat:Nat)]).box b2=U [V.int .u64 ((wm r d).toNat:Nat)]:=gR;generalize cN.set b2 [V.int .u64 ((wm r d).toNat:Nat)]=fz at DB e2 e3;simp only[am,Nat.reduceLT,reduceCtorEq,Rl.al,b8,eR,Yn,Vn (n:=1) (l:=r.enc) Rl.cH Rl.dw];refine bJ.intro (RX r n hn h8 _ _ rfl (λk=>if k=o then wm r d else 0#64) fz λk hk=>ah2 k o b1 (wm r d) b2 e2 e3) ?_;simp only[am,Rl.al];refine bJ.intro (ahJ r _ (DB.2.2 _ _ hg)) ?_;simp only[am,Rl.al];exact aP rfl DB ⟨by rw[B0,aiA,hn];rfl,rfl⟩
def aeY:aT prog 175 (sq [rg 2 [ox 1 65 0,oz 2],sq [rg 9 [fo 0 1,nB .lss 1,gB,fo 0 1,nB .gtr 64,gZ,gB,ol 65 1,oC 220 [18],nn,gZ],cr 21 2 [oz 2]],sq [rg 22 [fo 0 1,oi 0],lp 23 0 (sq [rg 26 [om 24,o1 3],rg 27 [om 3,oi 0],lp 27 2 (sq [rg 30 [om 28,o1 4],rg 32 [ol 65 1,om 3,om 4,oC 221 [32,33,34],o1 31,oe 31 0,oe 31 1,ot 5 36,o1 6],rg 39 [ol 65 1,om 3,om 4,oC 222 [39,40,41],o1 38,oe 38 0,oe 38 1,ot 7 43,o1 8],rg 45 [om 6,nn,gB,om 8,nn,gZ],cr 50 2 [oz 2]]) 51]) 52],rg 2 [oq (.mv (.c (.bool aa)))],.ret]) [.tmp 2] 53:=aW func175
def afr:aT prog 221 (sq [rg 6 [ox 3 65 0,oi 0,oz 2],rg 8 [ol 65 3,om 1,om 2,oc 270 [.s 8,.s 9,.s 10,.c (.fn (.func 271) [] [])],oe 11 0,oe 11 1,ot 6 12,o1 7],.ret]) [.tmp 6,.tmp 7] 14:=aW func221
def afs:aT prog 222 (sq [rg 6 [ox 3 65 0,oi 0,oz 2],rg 8 [ol 65 3,om 1,om 2,oc 270 [.s 8,.s 9,.s 10,.c (.fn (.func 272) [] [])],oe 11 0,oe 11 1,ot 6 12,o1 7],.ret]) [.tmp 6,.tmp 7] 14:=aW func222
def af8:aT prog 270 (sq [rg 8 [ox 4 65 0,oi 0,oz 2],dg 13 [om 3,ol 65 4,om 1,oq (.il (.s 13) [(.s 14),(.s 15)]),om 3,mM [0],ol 65 4,om 2,oq (.il (.s 17) [(.s 18),(.s 19)]),nb .and 16,o1 10],sq [rg 22 [om 10,oC 293 [22],nL,oi 0],lp 24 0 (sq [rg 27 [oA 1 23 25,no,o1 12],rg 29 [om 10,om 3,ol 65 4,om 12,oq (.il (.s 30) [(.s 31),(.s 32)]),oC 294 [29,33]],cr 34 8 [ot 35 12,om 35,oq (.mv (.c (.bool aa)))]]) 36],rg 8 [oi 0,oz 2],.ret]) [.tmp 8,.tmp 9] 37:=aW func270
def af9:aT prog 271 (sq [rg 4 [ox 2 65 0,oz 4],dg 5 [mM [1],ol 65 2,om 1,n1 1,oC 269 [7],oC 291 [5,8],o1 4],.ret]) [.tmp 4] 10:=aW func271
def af_:aT prog 272 (sq [rg 4 [ox 2 65 0,oz 4],sq [rg 5 [ol 65 2,om 1,oC 295 [5,6],nn],cr 8 4 [oz 4]],dg 9 [mM [1],ol 65 2,om 1,n1 1,oC 269 [11],oC 292 [9,12],o1 4],.ret]) [.tmp 4] 14:=aW func272
def agt:aT prog 295 (sq [rg 4 [ox 2 65 0,oz 2],rg 5 [om 1,nB .geq 0,gA,om 1,fo 0 2,oC 249 [10],ow 0 11,nb .lss 8,gZ,o1 4],.ret]) [.tmp 4] 15:=aW func295
def agA:aT prog 301 (sq [rg 4 [ox 2 65 0,oz 4],rg 5 [ol 65 2,om 1,oC 272 [5,6],o1 4],.ret]) [.tmp 4] 8:=aW func301
def wA(o:Option Nat):V:=.bt [.int .i64 ((o.getD 0:Nat):Int),.bool o.isSome]
def alY:decide ((0:Int)<=(i:Nat))=true:=aQ (by omega)
def aiF(r:Rl)(i:Nat)(Z:ag):a_ 295 [.agg r.enc,.int .i64 (i:Nat)] Z (.bool (decide (i<bD r))):=by
 refine agt.aS ?_;simp only[aR,am,a8,Nat.reduceAdd,Rl.al];simp only[am,Rl.al,alY];refine cl (Uq r.n Z) ?_;simp only[am,Rl.al,Rl.Ad];refine aU ?_;simp[V.erase,bD];rfl
def Yf(r:Rl)(i:Nat)(hg:TZ Z):a_ 271 [.agg r.enc,.int .i64 (i:Nat)] Z (.int .u64 ((vD r i).toNat:Nat)):=by
 refine af9.aS ?_;simp only[aR,tN,Nat.reduceAdd];refine bJ.intro (cg.eh (as' := [.sl .no 1 (fw [(i:Int)])]) (D3 [(i:Int)] Z (by simp)) ⟨da.no,trivial⟩ bL.rfl) ?_;simp only[am,Rl.al];refine bJ.intro (Ig r _ hg) ?_;simp only[am,Rl.al];refine aU ?_;simp[V.erase,vD]
def PT(r:Rl)(i:Nat)(Z:ag):a_ 272 [.agg r.enc,.int .i64 (i:Nat)] Z (.int .u64 ((vF r i).toNat:Nat)):=by
 refine af_.aS ?_;simp only[aR,tN,Nat.reduceAdd];refine cl (aiF r i Z) ?_
 by_cases h:i<bD r
 .simp only[am,Rl.al,aQ h];refine bJ.intro (cg.eh (as' := [.sl .no 1 (fw [(i:Int)])]) (D3 [(i:Int)] Z (by simp)) ⟨da.no,trivial⟩ bL.rfl) ?_;simp only[am,Rl.al];refine bJ.intro (Jv r _ Z) ?_;simp only[am,Rl.al];refine aU ?_;simp[V.erase,vF,h]
 .simp only[am,aM h];refine aU ?_;simp[V.erase,vF,h]
def Up(r:Rl)(i j:Nat)(f:FuncId)(g:Nat->bB)(hg:TZ Z)(hf:∀k,a_ f [.agg r.enc,.int .i64 (k:Nat)] Z (.int .u64 ((g k).toNat:Nat))):
 a_ 270 [.agg r.enc,.int .i64 (i:Nat),.int .i64 (j:Nat),.fn (.func f) [] []] Z (wA (Hq g i j)):=by
 refine af8.aS ?_;simp only[aR,am,a8,Nat.reduceAdd,Rl.al];refine bJ.intro (hf i) ?_;simp only[am,Rl.al];refine bJ.intro (hf j) ?_;simp only[am,wR,Rl.al];refine cl (Mo _ hg) ?_;simp only[am,aN,BH];rw[Hq];generalize g i&&&g j=w;have hlen:=Hj w;refine dP ((fN w).length) (λm (x:Unit)=>⟨[.agg r.enc,.any,.any,.fn (.func f) [] [],.ptr (.aD 0) 0,.any,.any,.any,.any,.any,.int .u64 (w.toNat:Nat),.any,.any,.any,.any,.any,.any,.any,.any,.any,.any,.any,.any,.sl .no 1 (fw ((fN w).map Int.ofNat)),.int .i64 ((fN w).length:Nat),.int .i64 (m:Nat)]++au 11 .any,[r.enc],Z⟩) (λm x=>(∀u∈(fN w).take m,Au w (g u)=ak)) λF hF JF bj=>⟨?_,?_,?_⟩
 .refine en bj (()) (by simp) ?_ ?_ ?_
  all_goals simp[hF,au,am,bQ]
 .rintro m x hi hJ;simp only[hF,au,am,dB hi];refine ix (DH (l:=(fN w).map Int.ofNat) (by simpa using hi)) ?_;simp only[am,Rl.al,OZ,IC];refine(hf _).mono ?_;rintro v Z ⟨rfl,rfl⟩;simp only[am];refine cl (alI _ _ Z) ?_;simp only[am];cases hb:Au w (g (fN w)[m]) with
  | false =>
   simp only[am,a9,cE hi];exact nx bj (()) hi (arl hJ hi hb)
  | true =>
   have e:(fN w).find? (λu=>Au w (g u))=U (fN w)[m]:=by
    rw[ET];exact⟨hb,_,(fN w).drop (m+1),by rw[<-mq hi,qA],λa ha=>by rw[hJ a ha];rfl⟩
   simp only[am,a9];refine aU ?_;simp[V.erase,bx,wA,e]
 .rintro x hJ;rw[eN] at hJ;have e:(fN w).find? (λu=>Au w (g u))=none:=by
   rw[IL];intro u hu;rw[hJ u hu];simp
  simp only[hF,au,am,a9,dV,a9];refine aU ?_;simp[V.erase,bx,wA,e]
def ajI(r:Rl)(i j:Nat)(hg:TZ Z):a_ 221 [.agg r.enc,.int .i64 (i:Nat),.int .i64 (j:Nat)] Z (wA (wj r i j)):=by
 refine afr.aS ?_;simp only[aR,am,a8,Nat.reduceAdd,Rl.al];refine cl (Up r i j _ (vD r) hg λk=>Yf r k hg) ?_;simp only[am,wA];refine aU ?_;simp[V.erase,bx,wj]
def alL(r:Rl)(i j:Nat)(hg:TZ Z):a_ 222 [.agg r.enc,.int .i64 (i:Nat),.int .i64 (j:Nat)] Z (wA (yc r i j)):=by
 refine afs.aS ?_;simp only[aR,am,a8,Nat.reduceAdd,Rl.al];refine cl (Up r i j _ (vF r) hg λk=>PT r k Z) ?_;simp only[am,wA];refine aU ?_;simp[V.erase,bx,yc]
def aja(r:Rl)(i:Nat)(Z:ag):a_ 301 [.agg r.enc,.int .i64 (i:Nat)] Z (.int .u64 ((vF r i).toNat:Nat)):=by
 refine agA.aS ?_;simp only[aR,tN,Nat.reduceAdd];refine cl (PT r i Z) ?_;simp only[am];exact rt
def ad1{p:Nat->Bool}{n m:Nat}(hm:m<n)(h:∀k,k<m->p k=ak)(hp:p m=aa):(bU n).find? p=U m:=by
 rw[ET];refine⟨hp,bU m,List.range' (m+1) (n - (m+1)),?_,λa ha=>by rw[h a (by simpa using ha)];rfl⟩;rw[tX,tX,<-Ct]
 have:=O7 (s:=0) (m:=m) (n:=n - m) (step:=1)
 simp only[w9,jy] at this;rw[show n - (m+1)+1=n - m by omega,this];congr 1;omega
def ad4{p:Nat->Bool}{n:Nat}(h:∀k,k<n->p k=ak):(bU n).find? p=none:=by
 rw[IL];intro u hu;rw[h u (by simpa using hu)];simp
def Tv(r:Rl)(hg:TZ Z):a_ 175 [.agg r.enc] Z (.bool (rb r)):=by
 refine aeY.aS ?_;simp only[aR,am,a8,Nat.reduceAdd,Rl.al]
 by_cases h1:r.n<1
 .simp only[am,aQ h1];refine aU ?_;simp[V.erase,rb];omega
 .simp only[am,Rl.al,aM h1]
  by_cases h2:64<r.n
  .simp only[am,aQ h2];refine aU ?_;simp[V.erase,rb];omega
  .simp only[am,Rl.al,aM h2];refine cl (anI r hg) ?_;obtain⟨n,hn⟩:∃n:Nat,r.n=n:=⟨r.n.toNat,by omega⟩;have hp:bD r=n:=by rw[bD,hn];omega
   cases ho:BT r with
   | false =>
    simp only[am];refine aU ?_;simp[V.erase,rb,ho]
   | true =>
    simp only[am,Rl.al,hn];have kl:(∀i,i<n->∀j,j<i->((wj r i j).isSome&&(yc r i j).isSome)=aa)->rb r=true:=λh=>by
     simp only[rb,ho,hn,ju,ln,yO,bC,ca,vp];exact⟨by omega,λi hi j hj=>by have:=h i hi j hj;simpa using this⟩
    have aG:∀i j,i<n->j<i->((wj r i j).isSome&&(yc r i j).isSome)=ak->rb r=false:=λi j hi hj h=>by
     cases hq:rb r with
     | false=>rfl
     | true =>
      simp only[rb,hn,ju,ln,yO,bC] at hq
      have:=hq.2 i hi j hj
      rw[this.1,this.2] at h;simp at h
    refine dP (n) (λi (x:Unit)=>⟨[.any,.ptr (.aD 0) 0,.any,.any,.any,.any,.any,.any,.any,.any,.any,.any,.any,.any,.any,.any,.any,.any,.any,.any,.any,.any,.any,.int .i64 (n:Nat),.int .i64 (i:Nat)]++au 28 .any,[r.enc],Z⟩) (λi x=>(∀a,a<i->∀b,b<a->((wj r a b).isSome&&(yc r a b).isSome)=aa)) λF hF JF bj=>⟨?_,?_,?_⟩
    .exact en bj (()) (by intro k h;omega)
    .rintro i x hi hJ;simp only[hF,au,am,dB hi];refine dP (i) (λj (x:Unit)=>⟨[.any,.ptr (.aD 0) 0,.any,.int .i64 (i:Nat),.any,.any,.any,.any,.any,.any,.any,.any,.any,.any,.any,.any,.any,.any,.any,.any,.any,.any,.any,.int .i64 (n:Nat),.int .i64 (i:Nat),.any,.any,.int .i64 (i:Nat),.int .i64 (j:Nat)]++au 24 .any,[r.enc],Z⟩) (λj x=>(∀b,b<j->((wj r i b).isSome&&(yc r i b).isSome)=aa)) λF2 eH yI ji=>⟨?_,?_,?_⟩
     .refine en ji (()) (by intro k h;omega) ?_ ?_ ?_
      all_goals simp[eH,au,am,bQ]
     .rintro j x hj Kb;simp only[eH,au,am,dB hj,Rl.al];refine cl (ajI r i j hg) ?_;simp only[am,Rl.al,wA];refine cl (alL r i j hg) ?_;simp only[am,wA];cases ha:(wj r i j).isSome with
      | false =>
       simp only[am,a9];refine aU ?_;simp[V.erase,aG i j hi hj (by rw[ha];rfl)]
      | true =>
       simp only[am];cases hb:(yc r i j).isSome with
       | false =>
        simp only[am,a9];refine aU ?_;simp[V.erase,aG i j hi hj (by rw[ha,hb];rfl)]
       | true =>
        simp only[am,a9,cE hj];refine nx ji (()) hj (AY Kb (by rw[ha,hb];rfl)) ?_ ?_ ?_
        all_goals simp[eH,au,am,bQ]
     .rintro x Kb;simp only[eH,au,am,a9,dV,Nat.reduceEqDiff,a9,reduceCtorEq,cE hi];exact nx bj (()) hi (AY hJ Kb)
    .rintro x hJ;simp only[hF,au,am,a9,dV,a9];refine aU ?_;simp[V.erase,kl hJ]
def afL:aT prog 240 (sq [rg 2 [oz 4],rg 3 [oz 4,oq (.mv (.c (.int .u64 1)))],sq [rg 5 [oi 0],bl 0 (sq [sq [rg 7 [om 5,nB .lss 64],cx 8 0],.block 1 (sq [sq [rg 6 [oi 0],bl 2 (sq [sq [rg 11 [om 6,om 0,nL,nb .lss 11],cx 14 2],.block 3 (sq [rg 17 [om 0,om 6,nA 1 17,no,om 5,nb .eql 20],ci 22 (sq [rg 23 [om 3,om 4,nb .add 23,o1 3],(.exit 2)])]),rg 15 [ic 6]])],rg 26 [om 4,oq (.ek .mul (.s 26) (.c (.int .u64 2))),o1 4]]),rg 9 [ic 5]])],rg 28 [om 3,o1 2],.ret]) [.tmp 2] 29:=aW func240
def apk(l:List Int)(Z:ag)(hl:l.length<=100000):a_ 240 [.sl .no 1 (fw l)] Z (.int .u64 ((iE l).toNat:Nat)):=by
 refine afL.aS ?_;simp only[aR,Ot,Nat.reduceAdd];refine dP (64) (λi (x:bB)=>⟨[.sl .no 1 (fw l),.any,.int .u64 ((0#64:bB).toNat:Nat),.int .u64 (x.toNat:Nat),.int .u64 ((lu i).toNat:Nat),.int .i64 (i:Nat)]++au 23 .any,[],Z⟩) (λi x=>(x=iE l&&&jh (i:Int))) λF hF JF bj=>⟨?_,?_,?_⟩
 .refine en bj (0#64) ((ane l).symm) ?_ ?_ ?_
  all_goals simp[hF,au,am,bQ,lu]
 .rintro i x hi rfl;simp only[hF,au,am,show decide ((i:Int)<64)=aa from dB hi];refine dP (l.length) (λj (y:Unit)=>⟨[.sl .no 1 (fw l),.any,.int .u64 ((0#64:bB).toNat:Nat),.int .u64 ((iE l&&&jh (i:Int)).toNat:Nat),.int .u64 ((lu i).toNat:Nat),.int .i64 (i:Nat),.int .i64 (j:Nat)]++au 22 .any,[],Z⟩) (λj y=>((i:Int)∉l.take j)) λF2 eH yI ji=>⟨?_,?_,?_⟩
  .refine en ji (()) (by simp) ?_ ?_ ?_
   all_goals simp[eH,au,am,bQ]
  .rintro j y hj hm;simp only[eH,au,am,dB hj,BH];refine ix (DH hj) ?_;simp only[am]
   by_cases he:l[j]=(i:Int)
   .have aiO:(i:Int)∈l:=he▸fh hj;simp only[am,Nat.reduceEqDiff,a9,reduceCtorEq,asg,Xk,aQ he,cE hi,PU];exact nx bj ((iE l&&&jh (i:Int))+lu i) hi (by rw[UC l i hi,aE aiO])
   .simp only[am,a9,aM he,cE hj];refine nx ji (()) hj (by rw[jx hj,jw];simp[hm,fi he]) ?_ ?_ ?_
    all_goals simp[eH,au,am,bQ]
  .rintro y hm;rw[eN] at hm;simp only[eH,au,am,a9,dV,Nat.reduceEqDiff,a9,reduceCtorEq,Xk,BH,cE hi,PU];exact nx bj (iE l&&&jh (i:Int)) hi (by rw[UC l i hi,aC hm])
 .rintro x rfl;simp only[hF,au,am,a9,a9,show decide (((64:Nat):Int)<64)=ak from rfl];rw[show((64:Nat):Int)=64 from rfl,anc];exact rt
def aez:aT prog 136 (sq [rg 4 [ox 2 65 0,ox 3 65 1,oz 2],dg 5 [ol 65 2,oC 197 [5],mM [0],ol 65 3,oC 197 [7],oq (.ir ak HP (.s 6) (.s 8)),o1 4],.ret]) [.tmp 4] 10:=aW func136
def afa:aT prog 197 (sq [rg 0 [ox 1 65 0,oR 2 nq],rg 7 [ol 65 1,oC 202 [7],oY nq [(0,1,.s 8)],oR 3 nq,o2 65 3],sq [rg 4 [oi 0],bl 0 (sq [sq [rg 10 [om 4,fo 0 3,nb .lss 10],cx 13 0],.block 1 (sq [rg 5 [oz 6],sq [rg 6 [oi 0],bl 2 (sq [sq [rg 16 [om 6,fo 0 3,nb .lss 16],cx 19 2],.block 3 (sq [rg 22 [ol 65 1,om 4,om 6,oC 238 [22,23,24]],ci 25 (rg 26 [om 5,om 6,n1 1,na 1 26,o1 5])]),rg 20 [ic 6]])],rg 30 [om 4,om 5,oC 240 [31],of 1 3,oP 64 1 33 30,os 1 34 32]]),rg 14 [ic 4]])],rg 35 [ol 65 3,o2 65 2],.ret]) [.cell 2 aa 65] 36:=aW func197
def afg:aT prog 202 (sq [rg 2 [ox 1 65 0,oi 0],sq [rg 3 [fo 0 1,nB .lss 0],cr 5 2 [oi 0]],sq [rg 6 [fo 0 1,nB .gtr 64],cr 8 2 [oi 64]],rg 9 [fo 0 1,o1 2],.ret]) [.tmp 2] 11:=aW func202
def afJ:aT prog 238 (sq [rg 6 [ox 3 65 0,oz 2],rg 8 [ol 65 3,oC 202 [8],o1 7],rg 10 [om 1,nB .geq 0,gA,om 2,nB .geq 0,gZ,gA,om 1,om 7,nb .lss 17,gZ,gA,om 2,om 7,nb .lss 22,gZ,gA,om 1,of 1 3,oP 64 1 28 27,no,om 2,oq (.pr .u64 (.s 31)),nb .shr 30,oq (.ek .rem (.s 33) (.c (.int .u64 2))),oq (.ek .eql (.s 34) (.c (.int .u64 1))),gZ,o1 6],.ret]) [.tmp 6] 37:=aW func238
def alX:decide ((0:Int)<=(i:Nat))=true:=aQ (by omega)
def VQ(r:Rl)(Z:ag):a_ 202 [.agg r.enc] Z (.int .i64 (bD r:Nat)):=by
 refine afg.aS ?_;simp only[aR,am,a8,Nat.reduceAdd,Rl.al]
 by_cases h:r.n<0
 .simp only[am,aQ h];refine aU ?_;simp[V.erase,bD];omega
 .simp only[am,Rl.al,aM h]
  by_cases h2:64<r.n
  .simp only[am,aQ h2];refine aU ?_;simp[V.erase,bD];omega
  .simp only[am,Rl.al,aM h2];refine aU ?_;simp[V.erase,bD];omega
def ato:=ae @am <| ae @a8 <| ae @Ik @Rl.al
def atp:=ae @am <| ae @Il <| ae @ju @sB
def apu(r:Rl)(i j:Nat)(Z:ag):a_ 238 [.agg r.enc,.int .i64 (i:Nat),.int .i64 (j:Nat)] Z (.bool (cY r i j)):=by
 refine afJ.aS ?_;simp only[aR,ato,Nat.reduceAdd];refine cl (VQ r Z) ?_;simp only[am,alX];have hp:=@mg r
 by_cases h1:i<bD r
 .simp only[am,dB h1]
  by_cases h2:j<bD r
  .simp only[am,cF,dB h2];refine jD ?_;simp only[atp,aso,ash,Rl.wO (show i<64 by omega),wrap_u64 (x:=((j:Nat):Int)) (by omega) (by omega),XR];refine aU ?_;simp[V.erase,zE,h1,h2]
  .have e:decide ((j:Int)<(bD r:Nat))=false:=aM (by omega);simp only[am,e];refine aU ?_;simp[V.erase,zE,h2]
 .have e:decide ((i:Int)<(bD r:Nat))=false:=aM (by omega);simp only[am,e];refine aU ?_;simp[V.erase,zE,h1]
def VP(r:Rl)(Z:ag):a_ 197 [.agg r.enc] Z (.agg (j7 r).enc):=by
 refine afa.aS ?_;simp only[aR,am,a8,Nat.reduceAdd,Rl.al];refine cl (VQ r Z) ?_;simp only[am,Nat.reduceAdd,Rl.al];have hp:=@mg r;refine dP (bD r) (λi (x:Unit)=>⟨[.any,.ptr (.aD 0) 0,.ptr (.aD 1) 0,.ptr (.aD 2) 0,.int .i64 (i:Nat)]++au 31 .any,[r.enc,Rl.zero.enc,(Rl.of (bD r:Nat) λj=>if j<i then gy r j else 0#64).enc],Z⟩) (λi x=>(True)) λF hF JF bj=>⟨?_,?_,?_⟩
 .refine en bj (()) (trivial) ?_ ?_ ?_
  all_goals simp[hF,au,am,bQ,Rl.OB]
 .rintro i x hi -;simp only[hF,au,am,dB hi,Rl.al,Rl.Ad];refine dP (bD r) (λj (x:Tk × ag)=>⟨[.any,.ptr (.aD 0) 0,.ptr (.aD 1) 0,.ptr (.aD 2) 0,.int .i64 (i:Nat),.sl x.1 1 (fw (((bU j).filter (cY r i)).map Int.ofNat)),.int .i64 (j:Nat)]++au 29 .any,[r.enc,Rl.zero.enc,(Rl.of (bD r:Nat) λj=>if j<i then gy r j else 0#64).enc],x.2⟩) (λj x=>(Gr Z x.2 x.1 ((bU j).filter (cY r i)).length)) λF2 eH yI ji=>⟨?_,?_,?_⟩
  .refine en ji ((.aV,Z)) (Gr.nil) ?_ ?_ ?_
   all_goals simp[eH,au,am,bQ,fw]
  .rintro j ⟨tk,cN⟩ hj hG;simp only at hG;have hlen:((bU j).filter (cY r i)).length<=64:=by have:=O0 (cY r i) (bU j);simp at this;omega
   simp only[eH,au,am,dB hj,Rl.al,Rl.Ad];refine(apu r i j cN).mono ?_;rintro v cN ⟨rfl,rfl⟩;simp only[am];refine e9 (λhb=>?_) (λhb=>?_)
   .simp only[am];refine Gr.app (by simpa [fw] using hG) (by simp[fw,aO];omega) λjJ σ' xA _ _=>?_
    have e:fw (((bU (j+1)).filter (cY r i)).map Int.ofNat)=fw (((bU j).filter (cY r i)).map Int.ofNat)++[[.int .i64 (j:Nat)]]:=by
     rw[qz,IK,ES,hb];simp[fw]
    simp only[am,a9,cE hj];refine nx ji ((jJ,σ')) hj (by rw[<-e] at xA;simpa [fw] using xA) ?_ ?_ ?_
    all_goals simp[eH,au,am,bQ,e]
   .have e:fw (((bU (j+1)).filter (cY r i)).map Int.ofNat)=fw (((bU j).filter (cY r i)).map Int.ofNat):=by
     rw[qz,IK,ES,hb];simp[fw]
    simp only[am,a9,cE hj];refine nx ji ((tk,cN)) hj (by simpa [qz,hb] using hG) ?_ ?_ ?_
    all_goals simp[eH,au,am,bQ,e]
  .rintro⟨tk,cN⟩ hG;simp only at hG;have hlen:((bU (bD r)).filter (cY r i)).length<=64:=by have:=O0 (cY r i) (bU (bD r));simp at this;omega
   simp only[eH,au,am,a9,dV,Nat.reduceEqDiff,a9,reduceCtorEq,Rl.al,Rl.Ad];refine cg.eh (as' := [.sl .no 1 (fw (((bU (bD r)).filter (cY r i)).map Int.ofNat))]) ?_ ⟨da.no,trivial⟩ bL.rfl;refine cl (apk _ _ (by rw[aN];omega)) ?_;simp only[am,cF,anh hi];refine jD ?_;simp only[Cd,Rl.AB (show i<64 by omega),Rl.AD (show i<64 by omega),cE hi];refine nx bj (()) hi (trivial) ?_ ?_ (by simp only[hF];exact(bL.ani hG.sub))
   all_goals simp[hF,au,am,bQ,Rl.fill]
 .rintro x -;simp only[hF,au,am,a9,dV,a9,Rl.al,Rl.Ad];refine aU ?_;simp[V.erase,j7,Rl.dk]
def apN(r s:Rl)(Z:ag):a_ 136 [.agg r.enc,.agg s.enc] Z (.bool (decide (j7 r=j7 s))):=by
 refine aez.aS ?_;simp only[aR,am,a8,Nat.reduceAdd,Rl.al];refine bJ.intro (VP r Z) ?_;simp only[am,Rl.al];refine bJ.intro (VP s Z) ?_;simp only[am,Rl.al];exact rt
def afk:aT prog 214 (sq [rg 2 [oz 2],rg 3 [mk 0,nf 3,nl 2,oW [0,0] [],oq (.ir ak [1,1] (.s 6) (.s 7)),o1 2],.ret]) [.tmp 2] 9:=aW func214
def afW:aT prog 258 (sq [rg 0 [oZ 2 [1,0]],rg 4 [om 0,oc 260 [.s 4,.c (.int .u8 97)],oZ 3 [3,1,0,10,0],o2 5 3],rg 6 [of 0 3,nF 1,of 0 3,nF 2,oW [1,0] [(0,1,8),(1,1,11)],o2 2 2],.ret]) [.cell 2 aa 2] 13:=aW func258
def afX:aT prog 259 (sq [rg 4 [oz 2],dg 5 [om 0,oC 214 [5],gA,mk 0,nF 1,nB .geq 0,gZ,gA,mk 0,nF 1,mk 0,nF 0,nL,nb .lss 18,gZ,gA,mk 0,nF 0,mk 0,nF 1,nA 5 30,nf 0,nF 0,om 1,nb .eql 38,gZ,o1 4],.ret]) [.tmp 4] 42:=aW func259
def afY:aT prog 260 (sq [rg 0 [oZ 4 [3,1,0,10,0]],sq [rg 5 [om 0,om 1,oC 259 [5,6],nn],ci 8 (sq [rg 9 [om 0,oC 287 [9]],rg 11 [oW [3,1,0,10,0] [],o2 5 4],.ret])],rg 12 [mk 0,nF 1,nB .add 1,ok 12,nf 1,os 1 18 16],dg 19 [mk 0,nF 0,mk 0,nF 1,nB .sub 1,nA 5 22,nl 5,o2 5 4],.ret]) [.cell 4 aa 5] 30:=aW func260
def agl:aT prog 287 (sq [sq [rg 2 [om 0,oC 214 [2],nn],ci 4 .ret],rg 5 [om 0,mk 0,nF 2,oG [0,0] [(0,1,.c (.int .i64 2)),(1,1,.s 9)],ok 5,nf 3,os 2 12 10],dg 13 [mk 0,nF 1,nB .geq 0,gA,mk 0,nF 1,mk 0,nF 0,nL,nb .lss 22,gZ],ci 29 (dg 30 [om 0,mk 0,nF 0,mk 0,nF 1,nA 5 34,nf 0,nF 2,ok 30,nf 3,nf 1,os 1 45 42])]) [] 46:=aW func287
variable{r:Nat}{rd:ab}
def wy(h:Z.box r=U rd.enc):a_ 214 [.ptr (.out r) 0] Z (.bool rd.ok):=by
 refine afk.aS ?_;simp only[aR,a8,am,h,ab.enc];refine aP rfl (ag.bc _) ⟨?_,rfl⟩;cases hb:rd.aG<;>simp[ab.ok,V.erase,hb,c9,fJ]
def qt{k:Int}(h:Z.box r=U rd.enc):a_ 259 [.ptr (.out r) 0,.int .u8 k] Z (.bool (rd.bT k)):=by
 refine afX.aS ?_;simp only[aR,a8,am];refine bJ.intro (wy h) ?_;simp only[am];cases b_:rd.ok
 .simp only[am];refine aP rfl (ag.bc _) ⟨?_,rfl⟩;simp[ab.bT,b_,V.erase]
 .simp only[am,h,ab.enc]
  by_cases h0:0<=rd.at_
  .simp only[am,h0,bM,h,ab.enc,kh]
   by_cases h1:rd.at_<rd.l.length
   .obtain⟨j,hj⟩:=Co h0;have gM : j<rd.l.length:=by omega
    simp only[am,h1,bM,h,ab.enc];refine qZ h0 (c:=rd.l[j].enc) (by simp[sL,hj,gM]) ?_;simp only[am,df];refine aP rfl (ag.bc _) ⟨?_,rfl⟩;simp[ab.bT,bz,V.erase,b_,hj,gM]
   .simp only[am,h1,fk];refine aP rfl (ag.bc _) ⟨?_,rfl⟩
    have:rd.l[rd.at_.toNat]?=none:=yM (by omega)
    simp[ab.bT,bz,V.erase,this]
  .simp only[am,h0,fk];refine aP rfl (ag.bc _) ⟨?_,rfl⟩;simp[ab.bT,bz,V.erase,h0]
def Q1(h:Z.box r=U rd.enc):dt 287 [.ptr (.out r) 0] Z (.bt []) (Z.set r rd.fail.enc):=by
 refine agl.aS ?_;simp only[aR,a8,am];refine(wy h).mono ?_;rintro v σ' ⟨rfl,rfl⟩;cases hb:rd.aG with
 | some b =>
  simp only[am,ab.ok,hb,Option.isNone];refine aP rfl (ag.bc _) ⟨rfl,?_⟩;rw[ab.fail,hb];exact(ag.yq h).symm
 | none =>
  simp only[am,ab.ok,hb,Option.isNone,h,ab.enc,Nat.reduceAdd]
  by_cases h0:0<=rd.at_
  .simp only[am,h0,bM,kh]
   by_cases h1:rd.at_<rd.l.length
   .obtain⟨j,hj⟩:=Co h0;have gM : j<rd.l.length:=by omega
    simp only[am,h1,bM];refine qZ h0 (c:=rd.l[j].enc) (by simp[sL,hj,gM]) ?_;simp only[am,df,Nat.reduceAdd];refine aP rfl (ag.bc _) ⟨rfl,?_⟩;simp[ab.fail,ab.spot,hb,hj,gM,c9,fJ]
   .simp only[am,h1,fk];refine aP rfl (ag.bc _) ⟨rfl,?_⟩
    have:rd.l[rd.at_.toNat]?=none:=yM (by omega)
    simp[ab.fail,ab.spot,hb,this,c9,fJ]
  .simp only[am,h0,fk];refine aP rfl (ag.bc _) ⟨rfl,?_⟩;simp[ab.fail,ab.spot,hb,h0,c9,fJ]
def wK{k:Int}(h:Z.box r=U rd.enc)(hb:rd.l.length<=aO):dt 260 [.ptr (.out r) 0,.int .u8 k] Z (.agg (rd.take k).1.enc) (Z.set r (rd.take k).2.enc):=by
 refine afY.aS ?_;simp only[aR,a8,am];refine(qt h).mono ?_;rintro v σ' ⟨rfl,rfl⟩;cases hs:rd.bT k
 .simp only[am];refine(Q1 h).mono ?_;rintro v σ' ⟨rfl,rfl⟩;simp only[am];refine aP rfl (ag.bc _) ⟨?_,?_⟩
  .simp[ab.take,hs,V.erase,bx,ar.zero,ar.enc,dC]
  .simp[ab.take,hs]
 .have dj := hs;simp only[ab.bT,bz,bC,ca] at dj;obtain⟨_,h0,hk⟩:=dj;have h1:rd.at_.toNat<rd.l.length:=by
   cases hq:rd.l[rd.at_.toNat]? with
   | none=>rw[hq] at hk;simp at hk
   | some t=>exact(fg.1 hq).1
  simp only[aO] at hb;simp only[am,h,ab.enc];rw[wrap_i64 (x:=rd.at_+1),wrap_i64 (x:=rd.at_+1 - 1)];refine xT (c:=rd.l[rd.at_.toNat].enc) (by rw[show(rd.at_+1 - 1).toNat=rd.at_.toNat by omega];simp[sL,h1]) ?_;simp only[am,df];refine aP rfl (ag.bc _) ⟨?_,?_⟩
  .simp[ab.take,hs,V.erase,bx,h1,gU]
  .simp[ab.take,hs]
def yD(h:Z.box r=U rd.enc)(hb:rd.l.length<=aO):dt 258 [.ptr (.out r) 0] Z (.agg rd.word.1.enc) (Z.set r rd.word.2.enc):=by
 refine afW.aS ?_;simp only[aR,a8,am];refine(wK h hb).mono ?_;rintro v σ' ⟨rfl,rfl⟩;simp only[am,df,Nat.reduceAdd];refine aP rfl (ag.bc _) ⟨?_,?_⟩
 .simp[ab.word,V.erase,bx,aA.enc]
 .simp[ab.word]
def afU:aT prog 256 (sq [rg 4 [om 1,oq (.il (.s 4) [])],bl 0 (sq [sq [rg 6 [om 0,oc 259 [.s 6,.c (.int .u8 44)]],cx 7 0],.block 1 (sq [rg 8 [om 0,oc 260 [.s 8,.c (.int .u8 44)]],rg 10 [om 1,oq (.il (.s 10) [])]])])]) [] 12:=aW func256
structure Sys(α:Type) where
 F:α->ag
 rd:α->ab
 set:α->ab->α
 step:α->α
variable{α:Type}
def Sys.go(S:Sys α):Nat->α->α
 | 0,a=>a
 | n+1,a=>if (S.rd a).bT 44 then S.go n (S.step (S.set a ((S.rd a).take 44).2)) else a
def aqj{k:Int}(h:rd.bT k=aa):rd.aG=af/\0<=rd.at_/\rd.at_<rd.l.length:=by
 simp only[ab.bT,ab.ok,bz,bC,ca,Cv] at h;obtain⟨h1,h0,hk⟩:=h;refine⟨h1,h0,?_⟩;cases hq:rd.l[rd.at_.toNat]? with
 | none=>rw[hq] at hk;simp at hk
 | some t=>have:=(fg.1 hq).1;omega
variable{cap:List V}{g:FuncId}
def NS(S:Sys α)(Inv:α->Prop)(n8:bK cap=aa)
 (nZ:∀a,Inv a->(S.F a).box r=U (S.rd a).enc) (hlen:∀a,Inv a->(S.rd a).l.length<=aO)
 (mD:∀a,Inv a->(S.rd a).bT 44=aa->(S.F a).set r ((S.rd a).take 44).2.enc=S.F (S.set a ((S.rd a).take 44).2))
 (rX:∀a,Inv a->(S.rd a).bT 44=aa->cg prog g cap (S.F (S.set a ((S.rd a).take 44).2)) (λv σ' => v = .bt []/\σ' = S.F (S.step (S.set a ((S.rd a).take 44).2))) /\
   Inv (S.step (S.set a ((S.rd a).take 44).2))/\(S.rd (S.step (S.set a ((S.rd a).take 44).2))).l=(S.rd a).l/\(S.rd a).at_+1<=(S.rd (S.step (S.set a ((S.rd a).take 44).2))).at_)
 {a:α} (h0:cg prog g cap (S.F a) (λv σ' => v = .bt []/\σ' = S.F (S.step a))) (hI:Inv (S.step a)) {n:Nat} (hn:(S.rd (S.step a)).l.length<=n) :
 dt 256 [.ptr (.out r) 0,.fn (.func g) [] cap] (S.F a) (.bt []) (S.F (S.go n (S.step a))):=by
 refine afU.aS ?_;simp only[aR,a8,am,n8];refine h0.mono ?_;rintro v σ' ⟨rfl,rfl⟩;simp only[am]
 let I:{p:α × Nat // Inv p.1/\((S.rd p.1).l.length:Int)<=max (S.rd p.1).at_ 0+p.2/\S.go p.2 p.1=S.go n (S.step a)}->St:=λp =>
  ⟨[.ptr (.out r) 0,.fn (.func g) [] cap]++au 10 .any,[],S.F p.1.1⟩
 refine iG I (λp=>p.1.2) ?_ ?_
 .refine bq.enter ⟨(S.step a,n),hI,by simp only;omega,rfl⟩ ?_ cm.rfl bL.rfl;simp[I,au,am]
 .rintro⟨⟨b,m⟩,hb,hm,zr⟩;simp only[I,au,am];simp only at hb hm zr;refine(qt (nZ b hb)).mono ?_;rintro v σ' ⟨rfl,rfl⟩;cases hs:(S.rd b).bT 44
  .simp only[am];refine aP rfl (ag.bc _) ⟨rfl,?_⟩;rw[<-zr];cases m<;>simp[Sys.go,hs]
  .obtain⟨_,h1,h2⟩:=aqj hs;simp only[am];refine(wK (nZ b hb) (hlen b hb)).mono ?_;rintro v σ' ⟨rfl,rfl⟩;simp only[am,n8];obtain⟨k1,k2,k3,k4⟩:=rX b hb hs;rw[mD b hb hs];refine k1.mono ?_;rintro v σ' ⟨rfl,rfl⟩;simp only[am];cases m with
   | zero=>omega
   | succ m =>
    refine bq.again ⟨(S.step (S.set b ((S.rd b).take 44).2),m),k2,?_,?_⟩ (by simp) ?_ cm.rfl bL.rfl
    .rw[k3];simp only;omega
    .rw[<-zr];simp[Sys.go,hs]
    .simp[am]
def afS:aT prog 254 (sq [rg 8 [oi 0],rg 11 [om 0,om 1,oC 260 [11,12],oZ 9 [3,1,0,10,0],o2 5 9],sq [rg 14 [om 0,oC 214 [14],nn],cr 16 8 [oi 0]],rg 17 [fo 3 9,fo 4 9,oW [10,0,0,0,0] [(0,1,18),(2,1,20)],oq (.gf 5 (.s 21)),o1 10],sq [rg 23 [om 2,nn,gB,fo 3 9,nL,nB .gtr 0,gZ],ci 30 (rg 31 [om 3,om 10,oq (.il (.s 31) [(.s 32)])])],sq [dg 34 [om 10,oC 214 [34],gA,mk 10,nF 1,mk 10,nF 0,nL,nb .lss 40,gZ],ci 47 (rg 48 [om 10,oC 287 [48]])],sq [rg 50 [om 10,oC 214 [50],nn],ci 52 (rg 53 [om 0,mk 10,nf 3,nl 2,ok 53,nf 3,os 2 59 57])],rg 60 [of 0 9,nF 2,o1 8],.ret]) [.tmp 8] 63:=aW func254 ⟨[22],[]⟩
variable{empty:Bool}
def Oi{kind:Int}(n8:bK cap=aa)(h:Z.box r=U rd.enc)(hlen:rd.l.length<=aO)(rP:(rd.take kind).1.ah.length<=aO)
 (i1:ab) (rr:ag) (hcb:(rd.take kind).2.ok=aa->(empty=ak\/(rd.take kind).1.ah.length≠0)->∀q,Z.box q=af ->
   cg prog g (.ptr (.out q) 0::cap) ((Z.set r (rd.take kind).2.enc).set q (rd.take kind).1.inner.enc) λv σ' => v = .bt []/\σ' = (rr.set r (rd.take kind).2.enc).set q i1.enc)
 (iM:empty=aa->(rd.take kind).1.ah.length=0->i1=(rd.take kind).1.inner/\rr=Z) (hq:∀q,Z.box q=af->rr.box q=af) (hl:i1.l=(rd.take kind).1.ah) :
 cg prog 254 [.ptr (.out r) 0,.int .u8 kind,.bool empty,.fn (.func g) [] cap] Z λv σ' =>
  if (rd.take kind).2.ok=aa then v = .int .i64 (rd.take kind).1.tok.pos/\σ' = rr.set r ((rd.take kind).2.under i1).enc else v = .int .i64 0/\σ' = Z.set r (rd.take kind).2.enc:=by
 refine afS.aS ?_;simp only[aR,a8,am];refine(wK h hlen).mono ?_;rintro v σ' ⟨rfl,rfl⟩;generalize ht:(rd.take kind).1=t at *;generalize hr1:(rd.take kind).2=tD at *;simp only[am,df,Nat.reduceAdd];refine(wy (ag.d_ _ _ _)).mono ?_;rintro v σ' ⟨rfl,rfl⟩;cases b_:tD.ok
 .simp only[am];refine aP rfl (ag.bc _) ?_;simp[V.erase]
 .have fK:tD.aG=none:=by simpa [ab.ok] using b_
  simp only[am,Nat.reduceAdd];refine j1 λq GK=>?_
  have kn:q≠r:=by rintro rfl;rw[ag.d_] at GK;simp at GK
  have SJ : Z.box q=none:=by rw[ag.eg _ _ kn] at GK;exact GK
  have eJ:[V.sl .no 5 (dC t.ah),.int .i64 0,.int .i64 t.fin,.int .i64 0,.int .i64 0]=t.inner.enc:=rfl;simp only[am,eJ];have gK:∀i:ab,i.l=t.ah->((rr.set r tD.enc).set q i.enc).box q=U i.enc:=λi _=>ag.d_ _ _ _
  have pD:∀(A B:List V),(rr.set r A).sub ((rr.set r A).set q B):=λA B=>by
   refine⟨λb cs hb=>?_,λ_ _ h=>h,λ_ _ h=>h⟩
   by_cases vV:b=q
   .subst vV;rw[ag.eg _ _ kn,hq b SJ] at hb;simp at hb
   .rw[ag.eg _ _ vV];exact hb
  have hsw:∀(A B C:List V),((rr.set r A).set q B).set r C=(rr.set r C).set q B:=λA B C=>by rw[ag.set_comm kn,ag.set_set]
  have Gn:((rr.set r tD.enc).set q i1.enc).box q=U i1.enc:=ag.d_ _ _ _
  by_cases hc:empty=ak\/t.ah.length≠0
  case' neg =>
   have hE:empty=true:=by cases empty<;>simp at hc ⊢
   have hk:t.ah.length=0:=by
    rcases IU t.ah.length with h | h
    .exact h
    .exact absurd (.inr (by omega)) hc
   obtain⟨e1,e2⟩:=iM hE hk;simp only[am,hE,kh,hk,wW,Int.lt_irrefl,fk];rw[<-e1,<-e2]
  case' pos =>
   have zr:=hcb b_ hc q SJ;cases hE:empty
   case' true =>
    have hk:0<t.ah.length:=by
     rcases hc with h | h
     .rw[hE] at h;simp at h
     .omega
    simp only[am,kh,Int.natCast_pos,hk,bM]
   all_goals
    simp only[am,n8];refine zr.mono ?_;rintro v σ' ⟨rfl,rfl⟩;simp only[am]
  all_goals
   refine bJ.intro (wy Gn) ?_;have Sj:∀(i:ab),((rr.set r tD.enc).set q i.enc).box r=U tD.enc:=λi=>by rw[ag.eg _ _ (fi kn),ag.d_]
   have fin:∀(i:ab) (x:List V),x=(tD.under i1).enc->(rr.set r (tD.under i1).enc).sub (((rr.set r tD.enc).set q i.enc).set r x):=λi x hx=>by
    rw[hx,hsw];exact pD _ _
   cases Bs:i1.ok
   .have gK:i1.close=i1:=by simp[ab.close,Bs]
    simp only[am];refine(wy Gn).mono ?_;rintro v σ' ⟨rfl,rfl⟩;simp only[am,Bs,Sj,ab.ex,Nat.reduceAdd];exact aP rfl (fin i1 _ (by rw[ab.under,gK];rfl)) ⟨rfl,rfl⟩
   .simp only[am,ab.ex,hl,kh]
    by_cases aB:i1.at_<t.ah.length
    .have gK:i1.close=i1.fail:=by simp[ab.close,Bs,hl,aB]
     simp only[am,aB,bM];refine(Q1 Gn).mono ?_;rintro v σ' ⟨rfl,rfl⟩;simp only[am];refine(wy (ag.d_ _ _ _)).mono ?_;rintro v σ' ⟨rfl,rfl⟩;have hf:i1.fail.ok=false:=by
      have:i1.aG=none:=by simpa [ab.ok] using Bs
      simp[ab.fail,this,ab.ok]
     simp only[am,hf,Sj,ab.ex,Nat.reduceAdd];exact aP rfl (fin i1.fail _ (by rw[ab.under,gK];rfl)) ⟨rfl,rfl⟩
    .have gK:i1.close=i1:=by simp[ab.close,hl,aB]
     have hu:tD.under i1=tD:=by
      have:i1.aG=none:=by simpa [ab.ok] using Bs
      rw[ab.under,gK,this,<-fK]
     simp only[am,aB,fk];refine(wy Gn).mono ?_;rintro v σ' ⟨rfl,rfl⟩;simp only[am,Bs];refine aP rfl ?_ ⟨rfl,rfl⟩;rw[hu];exact pD _ _
def afj:aT prog 213 (sq [rg 4 [oz 7,oi 0],rg 0 [od (U 6) (.nP [(.sl .aV 2 [])])],.pf (rg 8 [om 0,om 1,oq (.jG (.func 255) [] [(.s 6)]),oc 254 [.s 8,.c (.int .u8 123),.s 9,.s 10],o1 7]),rg 12 [oo 6,om 7,ot 4 12,o1 5],.ret]) [.tmp 4,.tmp 5] 14:=aW func213 ⟨[6],[2]⟩
def afT:aT prog 255 (sq [rg 0 [od (U 2) (.gf 1 (.s 0))],rg 3 [no,oq (.jG (.func 257) [] [(.s 1),(.s 2)]),oC 256 [3,4]]]) [] 6:=aW func255 ⟨[2],[]⟩
def afV:aT prog 257 (dg 2 [mM [1],oo 0,oo 1,oC 258 [3],n1 2,na 2 2,o2 1 0]) [] 7:=aW func257
variable{o p Y:Nat}
def asI{rows:List (List V)}(ho:Z.box o=U [.sl (.tk Y) 2 rows])(hp:Z.box p=U [.ptr (.out r) 0])(hr:Z.box r=U rd.enc)(jj:o≠r)
 (ht:Z.aK Y=U rows.length) (hb:rows.length+1<=aO) (hlen:rd.l.length<=aO) :
 dt 257 [.ptr (.out o) 0,.ptr (.out p) 0] Z (.bt []) (((Z.set r rd.word.2.enc).set o [.sl (.tk Y) 2 (rows++[rd.word.1.enc])]).aY Y (rows.length+1)):=by
 refine afV.aS ?_;simp only[aR,a8,am,ho,hp];refine bJ.intro (yD hr hlen) ?_;simp only[am,aA.enc];refine xf (by simpa using hb) ht ?_;have h1:(Z.set r rd.word.2.enc).box o=U [.sl (.tk Y) 2 rows]:=by rw[ag.eg _ _ jj];exact ho
 simp only[am,h1];exact aP rfl (ag.bc _) ⟨rfl,rfl⟩
def fB(Z:ag)(q o Y k:Nat)(rd:ab)(rows:List (List V)):ag:=((Z.set q rd.enc).set o [.sl (.tk Y) k rows]).aY Y rows.length
def EC(Z:ag)(q o Y:Nat):Sys (ab × List aA):=⟨λa=>fB Z q o Y 2 a.1 (a.2.map aA.enc),λa=>a.1,λa r=>(r,a.2),fZ⟩
def Ga{G:Type}(F:ab × List G->ag)(step:ab × List G->ab × List G):∀(n:Nat) (a:ab × List G),Sys.go ⟨F,λa=>a.1,λa r=>(r,a.2),step⟩ n a=iK step n a
 | 0,_=>rfl
 | n+1,a=>by simp only[Sys.go,iK,Ga F step n]
variable{q:Nat}
def Be{rows:List (List V)}(h:q≠o):(fB Z q o Y k rd rows).box q=U rd.enc:=by
 simp[fB,ag.aY,ag.set,h]
def F9{rows:List (List V)}:(fB Z q o Y k rd rows).box o=U [.sl (.tk Y) k rows]:=by
 simp[fB,ag.aY,ag.set]
def uB{rows:List (List V)}(h:p≠q)(h' : p≠o):(fB Z q o Y k rd rows).box p=Z.box p:=by
 simp[fB,ag.aY,ag.set,h,h']
variable{cs:List V}
def F_{rows:List (List V)}(h:p≠q)(h' : p≠o):(fB Z q o Y k rd rows).set p cs=fB (Z.set p cs) q o Y k rd rows:=by
 have:((Z.set q rd.enc).set o [.sl (.tk Y) k rows]).set p cs=((Z.set p cs).set q rd.enc).set o [.sl (.tk Y) k rows]:=by
  rw[ag.set_comm (fi h'),ag.set_comm (b:=q) (fi h)]
 show(((Z.set q rd.enc).set o [.sl (.tk Y) k rows]).set p cs).aY Y rows.length=_;rw[this];rfl
def h_(h:Z.box p=af):Z.sub (Z.set p cs):=by
 refine⟨λb ds hb=>?_,λ_ _ h=>h,λ_ _ h=>h⟩
 have:b≠p:=by rintro rfl;rw[h] at hb;simp at hb
 rw[ag.eg _ _ this];exact hb
def RF{rows:List (List V)}:(fB Z q o Y k rd rows).aK Y=U rows.length:=by
 simp[fB,ag.aY]
variable{j_:ab}
def JY{rows:List (List V)}(h:q≠o):(fB Z q o Y k rd rows).set q j_.enc=fB Z q o Y k j_ rows:=by
 have:((Z.set q rd.enc).set o [.sl (.tk Y) k rows]).set q j_.enc=(Z.set q j_.enc).set o [.sl (.tk Y) k rows]:=by rw[ag.set_comm (fi h),ag.set_set]
 show(((Z.set q rd.enc).set o [.sl (.tk Y) k rows]).set q j_.enc).aY Y rows.length=_;rw[this];rfl
variable{c:List V}
def RE{rows:List (List V)}(h:q≠o):(((fB Z q o Y k rd rows).set q j_.enc).set o [.sl (.tk Y) k (rows++[c])]).aY Y (rows.length+1)=fB Z q o Y k j_ (rows++[c]):=by
 rw[JY h];unfold fB;rw[bN,dd,eM];show((((Z.set q j_.enc).set o [.sl (.tk Y) k rows]).set o [.sl (.tk Y) k (rows++[c])]).aY Y rows.length).aY Y (rows.length+1)=_;rw[ag.set_set,jr]
variable{G:Type}
def pk(l:List ar)(a:ab × List G):Prop:=a.1.l=l/\0<=a.1.at_/\a.1.at_<=l.length/\(a.1.aG=af->(a.2.length:Int)<=a.1.at_)
variable{l:List ar}
def UO{a:ab × List aA}(h:pk l a)(hb:a.1.aG=af):pk l (fZ a)/\a.1.at_<=(fZ a).1.at_:=by
 obtain⟨h1,h2,h3,h4⟩:=h;have h4:=h4 hb
 rcases a.1.tK 97 with ⟨_,k1,k2,k3,k4⟩ | ⟨_,k1,k2⟩
 .refine⟨⟨?_,?_,?_,λ_=>?_⟩,?_⟩<;>simp only[fZ,ab.word,ab.fy,k1,bN,dd,eM]
  .exact h1
  .omega
  .rw[h1] at k4;omega
  .omega
  .omega
 .refine⟨⟨?_,?_,?_,λhq=>absurd hq k2⟩,?_⟩<;>simp only[fZ,ab.word,ab.fy,k1]
  .exact h1
  .exact h2
  .exact h3
  .omega
def MO{a:ab × List G}(h:pk l a)(hs:a.1.bT 44=aa):pk l ((a.1.take 44).2,a.2)/\(a.1.take 44).2.aG=af/\(a.1.take 44).2.at_=a.1.at_+1:=by
 obtain⟨h1,h2,h3,h4⟩:=h
 rcases a.1.tK 44 with ⟨_,k1,k2,k3,k4⟩ | ⟨k0,_⟩
 .have hb:a.1.aG=none:=by
   simp only[ab.bT,ab.ok,bC,Cv] at hs;exact hs.1
  have:=h4 hb
  rw[h1] at k4;exact⟨⟨by simp only[ab.fy];exact h1,by simp only[k1];omega,by simp only[k1];omega,λ_=>by simp only[k1];omega⟩,k2,k1⟩
 .rw[hs] at k0;simp at k0
def asJ(dE:q≠o)(fu:rd.at_=0)(fK:rd.aG=af)(hlen:rd.l.length+1<=aO):
 dt 255 [.ptr (.out q) 0,.ptr (.out o) 0] (fB Z q o Y 2 rd []) (.bt []) (fB Z q o Y 2 (dS fZ rd).1 ((dS fZ rd).2.map aA.enc)):=by
 refine afT.aS ?_;simp only[aR,a8,am];refine j1 λp hp=>?_
 have lG:p≠q:=by rintro rfl;rw[Be dE] at hp;simp at hp
 have lE:p≠o:=by rintro rfl;rw[F9] at hp;simp at hp
 rw[F_ lG lE];simp only[am,uB lG lE];have rX:∀a:ab × List aA,pk rd.l a->a.1.aG=af->cg prog 257 [.ptr (.out o) 0,.ptr (.out p) 0] (fB (Z.set p [.ptr (.out q) 0]) q o Y 2 a.1 (a.2.map aA.enc)) λv σ' =>
  v = .bt []/\σ' = fB (Z.set p [.ptr (.out q) 0]) q o Y 2 (fZ a).1 ((fZ a).2.map aA.enc):=λa kT hb=>by
  have hl:=kT.2.2.2 hb;have kR:=kT.2.2.1;refine(asI F9 (by rw[uB lG lE,ag.d_]) (Be dE) (fi dE) RF (by rw[aN];omega) (by rw[kT.1];omega)).mono ?_;rintro v σ' ⟨rfl,rfl⟩;refine⟨rfl,?_⟩;rw[RE dE];simp[fZ]
 have h0:pk rd.l (rd,([]:List aA)):=⟨rfl,by simp[fu],by simp[fu],λ_=>by simp[fu]⟩;obtain⟨p1,_⟩:=UO h0 fK;refine(NS (EC (Z.set p [.ptr (.out q) 0]) q o Y) (pk rd.l) (a:=(rd,[])) (n:=rd.l.length) (by simp[am]) (λa h=>Be dE) (λa h=>?_) (λa h hs=>JY dE) (λa h hs=>?_) (rX _ h0 fK) p1 ?_).mono ?_
 .show a.1.l.length<=aO;rw[h.1];omega
 .obtain⟨k1,k2,k3⟩:=MO h hs;obtain⟨k4,k5⟩:=UO k1 k2;refine⟨rX _ k1 k2,k4,?_,?_⟩
  .exact k4.1.trans h.1.symm
  .show a.1.at_+1<=_;simp only at k5;rw[k3] at k5;exact k5
 .show(fZ (rd,[])).1.l.length<=rd.l.length;rw[p1.1];omega
 rintro v σ' ⟨rfl,rfl⟩;simp only[am];refine aP rfl (σ' := fB Z q o Y 2 (dS fZ rd).1 ((dS fZ rd).2.map aA.enc)) ?_ ⟨rfl,rfl⟩;have e:(EC (Z.set p [.ptr (.out q) 0]) q o Y).F ((EC (Z.set p [.ptr (.out q) 0]) q o Y).go rd.l.length ((EC (Z.set p [.ptr (.out q) 0]) q o Y).step (rd,[])))=fB (Z.set p [.ptr (.out q) 0]) q o Y 2 (dS fZ rd).1 ((dS fZ rd).2.map aA.enc):=by
  unfold EC;rw[Ga];rfl
 rw[e,<-F_ lG lE];exact h_ (by rw[uB lG lE];rw[uB lG lE] at hp;exact hp)
def J1{G:Type}{l:List ar}{step:ab × List G->ab × List G}(hs:∀a,a.1.l=l->(step a).1.l=l):∀(n:Nat) (a:ab × List G),a.1.l=l->(iK step n a).1.l=l
 | 0,_,h=>h
 | n + 1, a, h => by
  simp only[iK];split
  .exact J1 hs n _ (hs _ (by rw[ab.fy];exact h))
  .exact h
def Td{step:ab × List G->ab × List G}(hs:∀l a,a.1.l=l->(step a).1.l=l)(empty:Bool)(t:ar):(ab.inside step empty t).1.l=t.ah:=by
 unfold ab.inside;split
 .rfl
 .exact J1 (hs _) _ _ (hs _ _ rfl)
def asf(l:List ar)(a:ab × List aA)(h:a.1.l=l):(fZ a).1.l=l:=by simp[fZ,ab.word,ab.fy,h]
def Oq(h:Z.box r=U rd.enc)(hlen:rd.l.length<=aO)(rP:(rd.take 123).1.ah.length+1<=aO):
 dt 213 [.ptr (.out r) 0,.bool empty] Z (.bt [.sl .no 2 ((rd.words empty).1.1.map aA.enc),.int .i64 (rd.words empty).1.2]) (Z.set r (rd.words empty).2.enc):=by
 refine afj.aS ?_;simp only[aR,a8,am];refine j1 λo ho=>?_
 have jj:o≠r:=by rintro rfl;rw[h] at ho;simp at ho
 simp only[am];refine bq.tok 0 λY br=>⟨_,_,_,ey.rfl,rfl,λi c hc=>⟨c,hc,ey.rfl⟩,p8.set (cs:=[.sl .aV 2 []]) (cs' := [.sl (.tk Y) 2 []]) (ag.d_ _ _ _) ⟨jg.tok rfl,trivial⟩,?_⟩
 simp only[am];have h1:((Z.set o [.sl (.tk Y) 2 []]).aY Y 0).box r=U rd.enc:=by
  show(Z.set o _).box r=_;rw[ag.eg _ _ (fi jj)];exact h
 have aX:∀q,((Z.set o [V.sl (.tk Y) 2 []]).aY Y 0).box q=af->q≠o/\q≠r/\Z.box q=none:=λq hq=>by
  have dE:q≠o:=by rintro rfl;rw[show((Z.set q [V.sl (.tk Y) 2 []]).aY Y 0).box q=_ from ag.d_ _ _ _] at hq;simp at hq
  have nd : Z.box q=none:=by rw[<-ag.eg Z [V.sl (.tk Y) 2 []] dE];exact hq
  exact⟨dE,by rintro rfl;rw[h] at nd;simp at nd,nd⟩
 generalize eJ:ab.inside fZ empty (rd.take 123).1=ins;have Dl:ins.1.l=(rd.take 123).1.ah:=by rw[<-eJ];exact Td asf _ _
 refine(Oi (kind:=123) (by simp[am]) h1 hlen (by omega) ins.1 ((Z.set o [.sl (.tk Y) 2 (ins.2.map aA.enc)]).aY Y (ins.2.map aA.enc).length) ?_ ?_ ?_ Dl).mono ?_
 .intro b_ hc q hq;obtain⟨dE,kn,_⟩:=aX q hq;have e1:(((Z.set o [V.sl (.tk Y) 2 []]).aY Y 0).set r (rd.take 123).2.enc).set q (rd.take 123).1.inner.enc=fB (Z.set r (rd.take 123).2.enc) q o Y 2 (rd.take 123).1.inner []:=by
   unfold fB;rw[ag.set_comm (b:=q) dE,ag.set_comm (b:=r) (fi jj)];rfl
  have e2:(((Z.set o [V.sl (.tk Y) 2 (ins.2.map aA.enc)]).aY Y (ins.2.map aA.enc).length).set r (rd.take 123).2.enc).set q ins.1.enc=fB (Z.set r (rd.take 123).2.enc) q o Y 2 ins.1 (ins.2.map aA.enc):=by
   unfold fB;rw[ag.set_comm (b:=q) dE,ag.set_comm (b:=r) (fi jj)];rfl
  have e3:ins=dS fZ (rd.take 123).1.inner:=by
   rw[<-eJ,ab.inside,aC];rintro⟨q1,q2⟩
   rcases hc with hc | hc
   .rw[q1] at hc;simp at hc
   .exact hc q2
  rw[e1,e2,e3];exact asJ dE rfl rfl rP
 .intro q1 q2
  have:ins=((rd.take 123).1.inner,[]):=by rw[<-eJ,ab.inside,aE ⟨q1,q2⟩]
  rw[this];exact⟨rfl,rfl⟩
 .intro q hq;obtain⟨dE,_,nd⟩:=aX q hq;show(Z.set o _).box q=af;rw[ag.eg _ _ dE];exact nd
 rintro v σ' hv;have xF:∀(A B:List V) (n:Nat),(Z.set r A).sub (((Z.set o B).aY Y n).set r A):=λA B n=>by
  refine⟨λb cs hb=>?_,λυ m hm=>?_,λ_ _ h=>h⟩
  .have De:b≠o:=by rintro rfl;rw[ag.eg _ _ jj,ho] at hb;simp at hb
   by_cases uE:b=r
   .subst uE;rw[ag.d_] at hb ⊢;exact hb
   .rw[ag.eg _ _ uE] at hb ⊢;show(Z.set o B).box b=_;rw[ag.eg _ _ De];exact hb
  .have sX : Z.aK υ=U m:=hm;have zA : υ≠Y:=by rintro rfl;rw[show(Z.set o [V.sl .aV 2 []]).aK υ=Z.aK υ from rfl] at br;rw[br] at sX;simp at sX
   show((Z.set o B).aY Y n).aK υ=U m;rw[pe zA];exact sX
 split at hv
 .rename_i b_;obtain⟨rfl,rfl⟩:=hv;have hb:(((Z.set o [V.sl (.tk Y) 2 (ins.2.map aA.enc)]).aY Y (ins.2.map aA.enc).length).set r ((rd.take 123).2.under ins.1).enc).box o=U [V.sl (.tk Y) 2 (ins.2.map aA.enc)]:=by
   rw[ag.eg _ _ jj];exact ag.d_ _ _ _
  simp only[am,hb];refine aP rfl (xF _ _ _) ⟨?_,?_⟩
  .simp[ab.words,ab.bracket,b_,eJ,V.erase,bx]
  .simp[ab.words,ab.bracket,b_,eJ]
 .rename_i b_;obtain⟨rfl,rfl⟩:=hv;have hb:(((Z.set o [V.sl (.tk Y) 2 []]).aY Y 0).set r (rd.take 123).2.enc).box o=U [V.sl (.tk Y) 2 []]:=by
   rw[ag.eg _ _ jj];exact ag.d_ _ _ _
  simp only[am,hb];refine aP rfl (xF _ _ _) ⟨?_,?_⟩
  .simp[ab.words,ab.bracket,b_,V.erase,bx]
  .simp[ab.words,ab.bracket,b_]
def agm:aT prog 288 (sq [rg 0 [od (U 3) (.gf 1 (.s 0))],rg 4 [no,oq (.jG (.func 289) [] [(.s 1),(.s 2),(.s 3)]),oC 256 [4,5]]]) [] 7:=aW func288 ⟨[3],[]⟩
def agn:aT prog 289 (dH 3 ⟨5,(.s 3),(.s 8),(.s 7),(.s 6),(.s 0),af,9,10,20⟩ [mM [1],oo 0,oo 1,oo 2,oq (.il (.s 4) [(.s 5)]),oL 3,oq (.kf 5 [(.c (.agg [(.int .i64 0),(.int .i64 0),(.aF []),(.sl .aV 2 []),(.sl .aV 5 [])]))]),oq (.mv (.c .any)),oq (.mv (.c .any)),oN,oN]) [] 11:=aW func289
def Nd.wd{n:Nd}:(V.agg n.enc).wd=U 5:=by rw[Nd.df];rfl
def Nd.one{n:Nd}:cC n.enc=true:=by rw[Nd.df];rfl
def Nd.cI{n:Nd}:bK n.enc=true:=by rw[Nd.df];rfl
def Nd.er{n:Nd}:bx n.enc=n.enc:=by rw[Nd.df];rfl
def ajU{f:Nat}{rows:List (List V)}{n:Nd}(ho:Z.box o=U [.sl (.tk Y) 5 rows])(hf:Z.box f=U [.fn (.func g) [] []])(hp:Z.box p=U [.ptr (.out q) 0])
 (K7:o≠q) (ht:Z.aK Y=U rows.length) (hb:rows.length+1<=aO) (fL:dt g [.ptr (.out q) 0] Z (.agg n.enc) (Z.set q j_.enc)) :
 dt 289 [.ptr (.out o) 0,.ptr (.out f) 0,.ptr (.out p) 0] Z (.bt []) (((Z.set q j_.enc).set o [.sl (.tk Y) 5 (rows++[n.enc])]).aY Y (rows.length+1)):=by
 refine agn.aS ?_;simp only[aR,a8,am,ho,hp,hf];refine bJ.intro fL ?_;have h1:(Z.set q j_.enc).box o=U [.sl (.tk Y) 5 rows]:=by rw[ag.eg _ _ K7];exact ho
 simp only[am,h1];refine SD (Y:=Y) (m:=rows) (cs:=n.enc) (p:=.ptr (.out o) 0) rfl rfl rfl hb ht ⟨Nd.wd,Nd.one,Nd.cI⟩ Nd.er (by simp) rfl (by simp only[am,h1];rfl) ?_;simp only[am];exact aP rfl (ag.bc _) ⟨rfl,rfl⟩
def HB{one:ab->G × ab}(ho:Reads one){a:ab × List G}(h:pk l a)(hb:a.1.aG=af):pk l (cc one a)/\a.1.at_<=(cc one a).1.at_:=by
 obtain⟨h1,h2,h3,h4⟩:=h;have h4:=h4 hb;obtain⟨k1,k2,k3⟩:=ho.go a.1 h2 (by rw[h1];exact h3);refine⟨⟨by simp only[cc,ho.l];exact h1,by simp only[cc];omega,by simp only[cc];rw[h1] at k2;exact k2,λhq=>?_⟩,k1⟩
 have:=k3 hq
 simp only[cc,bN,dd,eM];omega
def DM(one:ab->Nd × ab)(Z:ag)(q o Y:Nat):Sys (ab × List Nd):=⟨λa=>fB Z q o Y 5 a.1 (a.2.map Nd.enc),λa=>a.1,λa r=>(r,a.2),cc one⟩
def ajV{f:Nat}{one:ab->Nd × ab}(hr:Reads one)(dE:q≠o)(hfq:f≠q)(uG:f≠o)(hf:Z.box f=U [.fn (.func g) [] []])(fu:rd.at_=0)(fK:rd.aG=af)(hlen:rd.l.length+1<=aO)
 (fL:∀(r:ab) (Z:ag),r.l=rd.l->0<=r.at_->r.at_<=rd.l.length->Z.box q=U r.enc->dt g [.ptr (.out q) 0] Z (.agg (one r).1.enc) (Z.set q (one r).2.enc)) :
 dt 288 [.ptr (.out q) 0,.ptr (.out o) 0,.ptr (.out f) 0] (fB Z q o Y 5 rd []) (.bt []) (fB Z q o Y 5 (dS (cc one) rd).1 ((dS (cc one) rd).2.map Nd.enc)):=by
 refine agm.aS ?_;simp only[aR,a8,am];refine j1 λp hp=>?_
 have lG:p≠q:=by rintro rfl;rw[Be dE] at hp;simp at hp
 have lE:p≠o:=by rintro rfl;rw[F9] at hp;simp at hp
 have SG:f≠p:=by rintro rfl;rw[uB lG lE,hf] at hp;simp at hp
 rw[F_ lG lE];simp only[am,uB lG lE];have rX:∀a:ab × List Nd,pk rd.l a->a.1.aG=af->cg prog 289 [.ptr (.out o) 0,.ptr (.out f) 0,.ptr (.out p) 0] (fB (Z.set p [.ptr (.out q) 0]) q o Y 5 a.1 (a.2.map Nd.enc)) λv σ' =>
  v = .bt []/\σ' = fB (Z.set p [.ptr (.out q) 0]) q o Y 5 (cc one a).1 ((cc one a).2.map Nd.enc):=λa kT hb=>by
  have hl:=kT.2.2.2 hb;have kR:=kT.2.2.1;refine(ajU F9 (by rw[uB hfq uG,ag.eg _ _ SG];exact hf) (by rw[uB lG lE,ag.d_]) (fi dE) RF (by rw[aN];omega) (fL a.1 _ kT.1 kT.2.1 kR (Be dE))).mono ?_;rintro v σ' ⟨rfl,rfl⟩;refine⟨rfl,?_⟩;rw[RE dE];simp[cc]
 have h0:pk rd.l (rd,([]:List Nd)):=⟨rfl,by simp[fu],by simp[fu],λ_=>by simp[fu]⟩;obtain⟨p1,_⟩:=HB hr h0 fK;refine(NS (DM one (Z.set p [.ptr (.out q) 0]) q o Y) (pk rd.l) (a:=(rd,[])) (n:=rd.l.length) (by simp[am]) (λa h=>Be dE) (λa h=>?_) (λa h hs=>JY dE) (λa h hs=>?_) (rX _ h0 fK) p1 ?_).mono ?_
 .show a.1.l.length<=aO;rw[h.1];omega
 .obtain⟨k1,k2,k3⟩:=MO h hs;obtain⟨k4,k5⟩:=HB hr k1 k2;refine⟨rX _ k1 k2,k4,?_,?_⟩
  .exact k4.1.trans h.1.symm
  .show a.1.at_+1<=_;simp only at k5;rw[k3] at k5;exact k5
 .show(cc one (rd,[])).1.l.length<=rd.l.length;rw[p1.1];omega
 rintro v σ' ⟨rfl,rfl⟩;simp only[am];refine aP rfl (σ' := fB Z q o Y 5 (dS (cc one) rd).1 ((dS (cc one) rd).2.map Nd.enc)) ?_ ⟨rfl,rfl⟩;have e:(DM one (Z.set p [.ptr (.out q) 0]) q o Y).F ((DM one (Z.set p [.ptr (.out q) 0]) q o Y).go rd.l.length ((DM one (Z.set p [.ptr (.out q) 0]) q o Y).step (rd,[])))=fB (Z.set p [.ptr (.out q) 0]) q o Y 5 (dS (cc one) rd).1 ((dS (cc one) rd).2.map Nd.enc):=by
  unfold DM;rw[Ga];rfl
 rw[e,<-F_ lG lE];exact h_ (by rw[uB lG lE];rw[uB lG lE] at hp;exact hp)
def afZ:aT prog 261 (sq [rg 8 [od (U 7) (.gf 1 (.s 3)),oz 10,oi 0],rg 0 [od (U 10) (.nP [(.sl .aV 5 [])])],.pf (rg 12 [om 0,om 1,om 2,oq (.jG (.func 288) [] [(.s 10),(.s 7)]),oC 254 [12,13,14,15],o1 11]),rg 17 [oo 10,om 11,ot 8 17,o1 9],.ret]) [.tmp 8,.tmp 9] 19:=aW func261 ⟨[7,10],[2]⟩
def ag.arh{a b c:ag}(h:a.sub b)(k:b.sub c):a.sub c:=⟨λx cs hx=>k.1 x cs (h.1 x cs hx),λx n hx=>k.2.1 x n (h.2.1 x n hx),λx n hx=>k.2.2 x n (h.2.2 x n hx)⟩
def ard{a b:ag}{A:List V}(h:a.sub b):(a.set r A).sub (b.set r A):=by
 refine⟨λx cs hx=>?_,h.2⟩
 by_cases hr:x=r
 .subst hr;rw[ag.d_] at hx ⊢;exact hx
 .rw[ag.eg _ _ hr] at hx ⊢;exact h.1 x cs hx
def Mz{one:ab->G × ab}(h:Reads one)(l:List ar)(a:ab × List G)(ha:a.1.l=l):(cc one a).1.l=l:=by simp[cc,h.l,ha]
def G3{kind:Int}{one:ab->Nd × ab}(fL:Reads one)(h:Z.box r=U rd.enc)(hlen:rd.l.length<=aO)(rP:(rd.take kind).1.ah.length+1<=aO)
 (aih:∀(q:Nat) (i:ab) (Z:ag),i.l=(rd.take kind).1.ah->0<=i.at_->i.at_<=i.l.length->Z.box q=U i.enc->dt g [.ptr (.out q) 0] Z (.agg (one i).1.enc) (Z.set q (one i).2.enc)) :
 dt 261 [.ptr (.out r) 0,.int .u8 kind,.bool empty,.fn (.func g) [] []] Z (.bt [.sl .no 5 ((rd.nodes one kind empty).1.1.map Nd.enc),.int .i64 (rd.nodes one kind empty).1.2]) (Z.set r (rd.nodes one kind empty).2.enc):=by
 refine afZ.aS ?_;simp only[aR,a8,am];refine j1 λf hf=>?_
 have bf:f≠r:=by rintro rfl;rw[h] at hf;simp at hf
 simp only[am];refine j1 λo ho=>?_
 have uG:f≠o:=by rintro rfl;rw[ag.d_] at ho;simp at ho
 have jj:o≠r:=by rintro rfl;rw[ag.eg _ _ (fi bf),h] at ho;simp at ho
 generalize uQ:Z.set f [.fn (.func g) [] []]=jb at ho ⊢;have Sr:jb.box f=U [.fn (.func g) [] []]:=by rw[<-uQ];exact ag.d_ _ _ _
 have aiy:Z.sub jb:=by rw[<-uQ];exact h_ hf
 have h:jb.box r=U rd.enc:=by rw[<-uQ,ag.eg _ _ (fi bf)];exact h
 simp only[am];refine bq.tok 0 λY br=>⟨_,_,_,ey.rfl,rfl,λi c hc=>⟨c,hc,ey.rfl⟩,p8.set (cs:=[.sl .aV 5 []]) (cs' := [.sl (.tk Y) 5 []]) (ag.d_ _ _ _) ⟨jg.tok rfl,trivial⟩,?_⟩
 simp only[am];have h1:((jb.set o [.sl (.tk Y) 5 []]).aY Y 0).box r=U rd.enc:=by
  show(jb.set o _).box r=_;rw[ag.eg _ _ (fi jj)];exact h
 have aX:∀q,((jb.set o [V.sl (.tk Y) 5 []]).aY Y 0).box q=af->q≠o/\q≠r/\jb.box q=none:=λq hq=>by
  have dE:q≠o:=by rintro rfl;rw[show((jb.set q [V.sl (.tk Y) 5 []]).aY Y 0).box q=_ from ag.d_ _ _ _] at hq;simp at hq
  have nd : jb.box q=none:=by rw[<-ag.eg jb [V.sl (.tk Y) 5 []] dE];exact hq
  exact⟨dE,by rintro rfl;rw[h] at nd;simp at nd,nd⟩
 generalize eJ:ab.inside (cc one) empty (rd.take kind).1=ins;have Dl:ins.1.l=(rd.take kind).1.ah:=by rw[<-eJ];exact Td (Mz fL) _ _
 refine(Oi (kind:=kind) (by simp[am]) h1 hlen (by omega) ins.1 ((jb.set o [.sl (.tk Y) 5 (ins.2.map Nd.enc)]).aY Y (ins.2.map Nd.enc).length) ?_ ?_ ?_ Dl).mono ?_
 .intro b_ hc q hq;obtain⟨dE,kn,_⟩:=aX q hq;have e1:(((jb.set o [V.sl (.tk Y) 5 []]).aY Y 0).set r (rd.take kind).2.enc).set q (rd.take kind).1.inner.enc=fB (jb.set r (rd.take kind).2.enc) q o Y 5 (rd.take kind).1.inner []:=by
   unfold fB;rw[ag.set_comm (b:=q) dE,ag.set_comm (b:=r) (fi jj)];rfl
  have e2:(((jb.set o [V.sl (.tk Y) 5 (ins.2.map Nd.enc)]).aY Y (ins.2.map Nd.enc).length).set r (rd.take kind).2.enc).set q ins.1.enc=fB (jb.set r (rd.take kind).2.enc) q o Y 5 ins.1 (ins.2.map Nd.enc):=by
   unfold fB;rw[ag.set_comm (b:=q) dE,ag.set_comm (b:=r) (fi jj)];rfl
  have e3:ins=dS (cc one) (rd.take kind).1.inner:=by
   rw[<-eJ,ab.inside,aC];rintro⟨q1,q2⟩
   rcases hc with hc | hc
   .rw[q1] at hc;simp at hc
   .exact hc q2
  rw[e1,e2,e3];refine ajV fL dE ?_ uG (by rw[ag.eg _ _ bf];exact Sr) rfl rfl rP (λi σ' h1 h2 h3 h4=>aih q i σ' h1 h2 (by rw[h1];exact h3) h4);rintro rfl;rw[show((jb.set o [V.sl (.tk Y) 5 []]).aY Y 0).box f=(jb.set o [V.sl (.tk Y) 5 []]).box f from rfl,ag.eg _ _ uG,Sr] at hq;simp at hq
 .intro q1 q2
  have:ins=((rd.take kind).1.inner,[]):=by rw[<-eJ,ab.inside,aE ⟨q1,q2⟩]
  rw[this];exact⟨rfl,rfl⟩
 .intro q hq;obtain⟨dE,_,nd⟩:=aX q hq;show(jb.set o _).box q=af;rw[ag.eg _ _ dE];exact nd
 rintro v σ' hv;have xF:∀(A B:List V) (n:Nat),(Z.set r A).sub (((jb.set o B).aY Y n).set r A):=λA B n=>by
  refine ag.arh (ard aiy) ?_;refine⟨λb cs hb=>?_,λυ m hm=>?_,λ_ _ h=>h⟩
  .have De:b≠o:=by rintro rfl;rw[ag.eg _ _ jj,ho] at hb;simp at hb
   by_cases uE:b=r
   .subst uE;rw[ag.d_] at hb ⊢;exact hb
   .rw[ag.eg _ _ uE] at hb ⊢;show(jb.set o B).box b=_;rw[ag.eg _ _ De];exact hb
  .have sX : jb.aK υ=U m:=hm;have zA : υ≠Y:=by rintro rfl;rw[show(jb.set o [V.sl .aV 5 []]).aK υ=jb.aK υ from rfl] at br;rw[br] at sX;simp at sX
   show((jb.set o B).aY Y n).aK υ=U m;rw[pe zA];exact sX
 split at hv
 .rename_i b_;obtain⟨rfl,rfl⟩:=hv;have hb:(((jb.set o [V.sl (.tk Y) 5 (ins.2.map Nd.enc)]).aY Y (ins.2.map Nd.enc).length).set r ((rd.take kind).2.under ins.1).enc).box o=U [V.sl (.tk Y) 5 (ins.2.map Nd.enc)]:=by
   rw[ag.eg _ _ jj];exact ag.d_ _ _ _
  simp only[am,hb];refine aP rfl (xF _ _ _) ⟨?_,?_⟩
  .simp[ab.nodes,ab.bracket,b_,eJ,V.erase,bx]
  .simp[ab.nodes,ab.bracket,b_,eJ]
 .rename_i b_;obtain⟨rfl,rfl⟩:=hv;have hb:(((jb.set o [V.sl (.tk Y) 5 []]).aY Y 0).set r (rd.take kind).2.enc).box o=U [V.sl (.tk Y) 5 []]:=by
   rw[ag.eg _ _ jj];exact ag.d_ _ _ _
  simp only[am,hb];refine aP rfl (xF _ _ _) ⟨?_,?_⟩
  .simp[ab.nodes,ab.bracket,b_,V.erase,bx]
  .simp[ab.nodes,ab.bracket,b_]
def agD:aT prog 304 (sq [rg 0 [oZ 2 [0,0,1,7,10]],rg 6 [om 0,oC 258 [6],oZ 3 [1,0],o2 2 3],rg 8 [om 0,oc 260 [.s 8,.c (.int .u8 58)]],rg 11 [om 0,oc 213 [.s 11,.c (.bool aa)],o1 10,oe 10 0,oe 10 1,ot 4 13,o1 5],rg 15 [fo 1 3,fo 0 3,om 4,oG [0,0,1,7,10] [(0,1,.c (.int .i64 6)),(1,1,.s 16),(2,1,.s 18),(3,1,.s 19)],o2 5 2],.ret]) [.cell 2 aa 5] 21:=aW func304
def apR(h:Z.box r=U rd.enc)(hlen:rd.l.length<=aO)(hk:∀(x:ab) (k:Int),x.l=rd.l->(x.take k).1.ah.length+1<=aO):
 dt 304 [.ptr (.out r) 0] Z (.agg rd.nw.1.enc) (Z.set r rd.nw.2.enc):=by
 refine agD.aS ?_;simp only[aR,a8,am];refine(yD h hlen).mono ?_;rintro v σ' ⟨rfl,rfl⟩;simp only[am,aA.enc];refine(wK (ag.d_ _ _ _) (by simp[ab.word,ab.fy,hlen])).mono ?_;rintro v σ' ⟨rfl,rfl⟩;simp only[am];refine(Oq (ag.d_ _ _ _) (by simp[ab.word,ab.fy,hlen]) (hk _ _ (by simp[ab.word,ab.fy]))).mono ?_;rintro v σ' ⟨rfl,rfl⟩;simp only[am,Nat.reduceAdd];refine aP rfl (ag.bc _) ⟨?_,rfl⟩;simp[ab.nw,V.erase,bx,Nd.enc,rf]
def Rq:aT prog 290 (sq [rg 0 [oZ 2 [0,0,1,7,10]],rg 5 [oW [0,0,1,7,10] [],oZ 3 [0,0,1,7,10],o2 5 3],.block 0 (sq [rg 14 [om 0,oc 259 [.s 14,.c (.int .u8 123)],o1 13],cd 13 (sq [rg 16 [of 0 3,od af (.store 1 (.s 16) (.c (.int .i64 3)))],rg 18 [om 0,oc 213 [.s 18,.c (.bool aa)],o1 17,oe 17 0,oe 17 1,of 3 3,os 1 22 20,of 1 3,os 1 23 21]]) (sq [rg 25 [om 0,oc 259 [.s 25,.c (.int .u8 40)],o1 24],cd 24 (sq [rg 27 [of 0 3,od af (.store 1 (.s 27) (.c (.int .i64 4)))],rg 29 [om 0,oc 261 [.s 29,.c (.int .u8 40),.c (.bool ak),.c (.fn (.func 290) [] [])],o1 28,oe 28 0,oe 28 1,of 4 3,os 1 33 31,of 1 3,os 1 34 32]]) (sq [rg 36 [om 0,oc 259 [.s 36,.c (.int .u8 91)],o1 35],cd 35 (sq [rg 38 [of 0 3,od af (.store 1 (.s 38) (.c (.int .i64 5)))],rg 40 [om 0,oc 261 [.s 40,.c (.int .u8 91),.c (.bool aa),.c (.fn (.func 304) [] [])],o1 39,oe 39 0,oe 39 1,of 4 3,os 1 44 42,of 1 3,os 1 45 43]]) (sq [rg 6 [om 0,oC 258 [6],oZ 4 [1,0],o2 2 4],rg 8 [fo 1 4,fo 0 4,oG [0,0,1,7,10] [(0,1,.c (.int .i64 2)),(1,1,.s 9),(2,1,.s 11)],o2 5 3]])])])]),rg 46 [ol 5 3,o2 5 2],.ret]) [.cell 2 aa 5] 47:=aW func290
def Ek{r:ab}{k:Int}(h:bd r.l=0):r.bT k=false:=by
 have:r.l=[]:=sz (by have:=lM r.l;omega)
 simp[ab.bT,bz,this]
def zQ{x:ab}{k:Int}(hm:bd l+1<=aO)(h:x.l=l):(x.take k).1.ah.length+1<=aO:=by
 have h1:=(x.vg k).1;have h2:=lM (x.take k).1.ah;rw[h] at h1;omega
def aa_:∀(n:Nat) {r:Nat} {rd:ab} {Z:ag} (_:Z.box r=U rd.enc) (_:bd rd.l<=n) (_:bd rd.l+1<=aO),
 dt 290 [.ptr (.out r) 0] Z (.agg (ab.constant n rd).1.enc) (Z.set r (ab.constant n rd).2.enc):=by
 intro n;induction n with
 | zero =>
  intro r rd Z h hn hm;have hlen:=lM rd.l;refine Rq.aS ?_;simp only[aR,a8,am];refine(qt h).mono ?_;rintro v σ' ⟨rfl,rfl⟩;simp only[am,Ek (EZ.1 hn)];refine(qt h).mono ?_;rintro v σ' ⟨rfl,rfl⟩;simp only[am,Ek (EZ.1 hn)];refine(qt h).mono ?_;rintro v σ' ⟨rfl,rfl⟩;simp only[am,Ek (EZ.1 hn)];refine(yD h (by omega)).mono ?_;rintro v σ' ⟨rfl,rfl⟩;simp only[am,aA.enc,Nat.reduceAdd];refine aP rfl (ag.bc _) ⟨?_,rfl⟩;simp[ab.constant,ab.leaf,V.erase,bx,Nd.enc,rf]
 | succ n ih =>
  intro r rd Z h hn hm;have hlen:=lM rd.l;refine Rq.aS ?_;simp only[aR,a8,am];refine(qt h).mono ?_;rintro v σ' ⟨rfl,rfl⟩;cases h1:rd.bT 123
  case' true =>
   simp only[am,Nat.reduceAdd];refine(Oq h (by omega) (zQ hm rfl)).mono ?_;rintro v σ' ⟨rfl,rfl⟩;simp only[am,Nat.reduceAdd];refine aP rfl (ag.bc _) ⟨?_,by simp[ab.constant,h1]⟩;simp[ab.constant,h1,V.erase,bx,Nd.enc,rf]
  case' false =>
   simp only[am];refine(qt h).mono ?_;rintro v σ' ⟨rfl,rfl⟩;cases h2:rd.bT 40
  case' false.true =>
   have hk:bd (rd.take 40).1.ah+1<=bd rd.l:=(rd.vg 40).2 (by
    rcases rd.tK 40 with ⟨_,_,e,_,_⟩ | ⟨e,_,_⟩
    .exact e
    .rw[h2] at e;simp at e)
   simp only[am,Nat.reduceAdd];refine(G3 (BY (RP n)) h (by omega) (zQ hm rfl) (λq i σ' e1 _ _ e4=>ih e4 (by rw[e1];omega) (by rw[e1];omega))).mono ?_;rintro v σ' ⟨rfl,rfl⟩;simp only[am,Nat.reduceAdd];refine aP rfl (ag.bc _) ⟨?_,by simp[ab.constant,h1,h2]⟩;simp[ab.constant,h1,h2,V.erase,bx,Nd.enc,Aa]
  case' false.false =>
   simp only[am];refine(qt h).mono ?_;rintro v σ' ⟨rfl,rfl⟩;cases h3:rd.bT 91
  case' false.false.true =>
   simp only[am,Nat.reduceAdd];refine(G3 (BY ahV) h (by omega) (zQ hm rfl) (λq i σ' e1 _ _ e4=>apR e4 (by have g1:=lM i.l;have g2:=(rd.vg 91).1;rw[<-e1] at g2;omega) (λx k ex=>zQ (by have g2:=(rd.vg 91).1;rw[<-e1] at g2;omega) ex))).mono ?_;rintro v σ' ⟨rfl,rfl⟩;simp only[am,Nat.reduceAdd];refine aP rfl (ag.bc _) ⟨?_,by simp[ab.constant,h1,h2,h3]⟩;simp[ab.constant,h1,h2,h3,V.erase,bx,Nd.enc,Aa]
  case' false.false.false =>
   simp only[am];refine(yD h (by omega)).mono ?_;rintro v σ' ⟨rfl,rfl⟩;simp only[am,aA.enc,Nat.reduceAdd];refine aP rfl (ag.bc _) ⟨?_,by simp[ab.constant,ab.leaf,h1,h2,h3]⟩;simp[ab.constant,ab.leaf,h1,h2,h3,V.erase,bx,Nd.enc,rf]
def af0:aT prog 262 (sq [rg 0 [oZ 2 [0,0,1,7,10]],sq [rg 5 [om 0,oc 259 [.s 5,.c (.int .u8 35)]],ci 6 (sq [rg 7 [om 0,oc 260 [.s 7,.c (.int .u8 35)],oZ 3 [3,1,0,10,0],o2 5 3],dg 9 [of 0 3,nf 2,mM [1],no,om 0,oC 290 [12],n1 5,oG [0,0,1,7,10] [(0,1,.c (.int .i64 7)),(1,1,.s 11),(4,1,.s 14)],o2 5 2],.ret])],rg 16 [om 0,oC 258 [16],oZ 4 [1,0],o2 2 4],rg 18 [fo 1 4,fo 0 4,oG [0,0,1,7,10] [(0,1,.c (.int .i64 1)),(1,1,.s 19),(2,1,.s 21)],o2 5 2],.ret]) [.cell 2 aa 5] 23:=aW func262
def af3:aT prog 265 (sq [rg 0 [oZ 2 [0,0,1,7,10]],rg 4 [om 0,oC 258 [4],oZ 3 [1,0],o2 2 3],rg 6 [om 0,oc 260 [.s 6,.c (.int .u8 61)]],dg 8 [of 1 3,mM [1],no,of 0 3,mM [1],no,om 0,oC 262 [12],n1 5,oG [0,0,1,7,10] [(0,1,.c (.int .i64 11)),(1,1,.s 9),(2,1,.s 11),(4,1,.s 14)],o2 5 2],.ret]) [.cell 2 aa 5] 16:=aW func265
def Nd.len{n:Nd}:n.enc.length=5:=by rw[Nd.df];rfl
def PI{n:Nat}(h:Z.box r=U rd.enc)(hn:bd rd.l<=n)(hm:bd rd.l+1<=aO):
 dt 262 [.ptr (.out r) 0] Z (.agg (rd.atom n).1.enc) (Z.set r (rd.atom n).2.enc):=by
 have hlen:=lM rd.l;refine af0.aS ?_;simp only[aR,a8,am];refine(qt h).mono ?_;rintro v σ' ⟨rfl,rfl⟩;cases h1:rd.bT 35
 case' true =>
  simp only[am];refine(wK h (by omega)).mono ?_;rintro v σ' ⟨rfl,rfl⟩;simp only[am,df,Nat.reduceAdd];refine bJ.intro (aa_ n (ag.d_ _ _ _) (by rw[ab.fy];exact hn) (by rw[ab.fy];exact hm)) ?_;simp only[am,Nd.len,Nd.one,Nd.cI,Nd.er,Nat.reduceAdd];refine aP rfl (ag.bc _) ⟨?_,by simp[ab.atom,h1]⟩;simp[ab.atom,h1,V.erase,bx,Nd.enc,rf]
 case' false =>
  simp only[am];refine(yD h (by omega)).mono ?_;rintro v σ' ⟨rfl,rfl⟩;simp only[am,aA.enc,Nat.reduceAdd];refine aP rfl (ag.bc _) ⟨?_,by simp[ab.atom,ab.leaf,h1]⟩;simp[ab.atom,ab.leaf,h1,V.erase,bx,Nd.enc,rf]
def adT{n:Nat}(h:Z.box r=U rd.enc)(hn:bd rd.l<=n)(hm:bd rd.l+1<=aO):
 dt 265 [.ptr (.out r) 0] Z (.agg (rd.field n).1.enc) (Z.set r (rd.field n).2.enc):=by
 have hlen:=lM rd.l;refine af3.aS ?_;simp only[aR,a8,am];refine(yD h (by omega)).mono ?_;rintro v σ' ⟨rfl,rfl⟩;simp only[am,aA.enc,Nat.reduceAdd];have e1:rd.word.2.l=rd.l:=by simp[ab.word,ab.fy]
 refine(wK (ag.d_ _ _ _) (by rw[e1];omega)).mono ?_;rintro v σ' ⟨rfl,rfl⟩;simp only[am];refine bJ.intro (PI (n:=n) (ag.d_ _ _ _) (by rw[ab.fy,e1];exact hn) (by rw[ab.fy,e1];exact hm)) ?_;simp only[am,Nd.len,Nd.one,Nd.cI,Nd.er,Nat.reduceAdd];refine aP rfl (ag.bc _) ⟨?_,by simp[ab.field]⟩;simp[ab.field,V.erase,bx,Nd.enc,rf]
def afm:aT prog 216 (sq [rg 0 [oZ 2 [0,0,1,7,10]],sq [rg 9 [oq (.kf 1 [(.c (.int .u8 43)),(.c (.int .u8 38))]),nL,oi 0],lp 10 0 (sq [rg 13 [oA 1 9 11,no,o1 4],sq [rg 15 [om 0,om 4,oC 259 [15,16],nn],ci 18 (.exit 1)],rg 19 [om 0,om 4,oC 260 [19,20],oZ 5 [3,1,0,10,0],o2 5 5],rg 6 [oi 8],sq [rg 22 [om 4,nu .eql 38],ci 23 (rg 6 [oi 9])],rg 25 [om 0,oc 261 [.s 25,.c (.int .u8 40),.c (.bool ak),.c (.fn (.func 216) [] [])],o1 24,oe 24 0,oe 24 1,ot 7 27,o1 8],rg 29 [om 6,of 0 5,nF 2,om 7,oW [0,0,1,7,10] [(0,1,29),(1,1,32),(4,1,33)],o2 5 2],.ret]) 35],rg 36 [om 0,oC 262 [36],o2 5 2],.ret]) [.cell 2 aa 5] 38:=aW func216
def GZ(r:Nat)(rd:ab)(Z:ag)(i:{i:Nat // i<=2/\(1<=i->rd.bT 43=ak)/\(2<=i->rd.bT 38=ak)}):St :=
 ⟨[.ptr (.out r) 0,.any,.ptr (.aD 0) 0,.any,.any,.any,.any,.any,.any,.sl .aV 1 [[.int .u8 43],[.int .u8 38]],.int .i64 2,.int .i64 (i.1:Nat)]++au 26 .any,
  [[.int .i64 0,.int .i64 0,.aF [],.sl .aV 2 [],.sl .aV 5 []]],Z⟩
def Nd.D'{n:Nd}{a b c d e:V}:over [a,b,c,d,e] n.enc=n.enc:=by rw[Nd.df];rfl
def Nd.tk{n:Nd}:takeN 5 n.enc=U n.enc:=by rw[Nd.df];rfl
def arp(r:ab)(k:Int):bd (r.take k).1.ah+1<=bd r.l\/bd (r.take k).1.ah=0:=by
 rcases r.tK k with ⟨_,_,e,_,_⟩ | ⟨e,_,_⟩
 .exact .inl ((r.vg k).2 e)
 .right;simp[ab.take,e,ar.zero,ar.ah,bd]
def aj3{n:Nat}(h1:rd.bT 43=ak)(h2:rd.bT 38=ak)(hn:bd rd.l<=n):ab.label n rd=rd.atom n:=by
 cases n with
 | zero=>simp[ab.label,ab.atom,Ek (EZ.1 hn)]
 | succ n=>simp[ab.label,h1,h2]
def Ts{n:Nat}(ih:∀m,n=m+1->∀{r:Nat} {rd:ab} {Z:ag} (_:Z.box r=U rd.enc) (_:bd rd.l<=m) (_:bd rd.l+1<=aO),
 dt 216 [.ptr (.out r) 0] Z (.agg (ab.label m rd).1.enc) (Z.set r (ab.label m rd).2.enc)) {r:Nat} {rd:ab} {Z:ag} (h:Z.box r=U rd.enc) (hn:bd rd.l<=n) (hm:bd rd.l+1<=aO) :
 dt 216 [.ptr (.out r) 0] Z (.agg (ab.label n rd).1.enc) (Z.set r (ab.label n rd).2.enc):=by
 have hlen:=lM rd.l;have lF:∀k,rd.bT k=aa->∃m,n=m+1:=λk hk=>by
  cases n with
  | zero=>rw[Ek (EZ.1 hn)] at hk;simp at hk
  | succ m=>exact⟨m,rfl⟩
 have ah:∀(m:Nat) (k:Int),n=m+1->∀(q:Nat) (i:ab) (Z:ag),i.l=((rd.take k).2.take 40).1.ah->0<=i.at_->i.at_<=i.l.length->Z.box q=U i.enc->dt 216 [.ptr (.out q) 0] Z (.agg (ab.label m i).1.enc) (Z.set q (ab.label m i).2.enc):=λm k e q i Z e1 _ _ e4=>by
  have g1:=((rd.take k).2.vg 40).1;have g2:=arp (rd.take k).2 40;rw[ab.fy,<-e1] at g1 g2;exact ih m e e4 (by omega) (by omega)
 refine afm.aS ?_;simp only[aR,a8,am];refine iG (λi=>GZ r rd Z i) (λi=>2 - i.1) ?_ ?_
 .refine bq.enter ⟨0,by omega,by omega,by omega⟩ ?_ ?_ bL.rfl
  .simp[GZ,au,am]
  .simp[GZ,am]
 .rintro⟨i,hi,pA,KO⟩;simp only[GZ,au,am];have aij:i=0\/i=1\/i=2:=by omega
  rcases aij with rfl | rfl | rfl
  .simp only[am,show(((0:Nat):Int)<2)=True by simp,bM];refine xT (c:=[.int .u8 43]) rfl ?_;simp only[am];refine(qt h).mono ?_;rintro v σ' ⟨rfl,rfl⟩;cases h1:rd.bT 43
   .simp only[am];rw[wrap_i64];exact bq.again ⟨1,by omega,λ_=>rfl,by omega⟩ (by simp) (by simp[am]) cm.rfl bL.rfl
   .have QV:decide ((43:Int)=38)=false:=by simp
    obtain⟨m,rfl⟩:=lF _ h1;simp only[am];refine(wK h (by omega)).mono ?_;rintro v σ' ⟨rfl,rfl⟩;simp only[am,df,Nat.reduceAdd,QV];refine(G3 (BY (J2 m)) (ag.d_ _ _ _) (by rw[ab.fy];omega) (zQ hm (ab.fy _ _)) (ah m 43 rfl)).mono ?_;rintro v σ' ⟨rfl,rfl⟩;simp only[am,Nat.reduceAdd];refine aP rfl (ag.bc _) ⟨?_,by simp[ab.label,h1]⟩;simp[ab.label,h1,V.erase,bx,Nd.enc,Aa]
  .have oD:=pA (by omega);simp only[am,show(((1:Nat):Int)<2)=True by simp,bM];refine xT (c:=[.int .u8 38]) rfl ?_;simp only[am];refine(qt h).mono ?_;rintro v σ' ⟨rfl,rfl⟩;cases h1:rd.bT 38
   .simp only[am];rw[wrap_i64];exact bq.again ⟨2,by omega,λ_=>oD,λ_=>rfl⟩ (by simp) (by simp[am]) cm.rfl bL.rfl
   .have QV:decide ((38:Int)=38)=true:=by simp
    obtain⟨m,rfl⟩:=lF _ h1;simp only[am];refine(wK h (by omega)).mono ?_;rintro v σ' ⟨rfl,rfl⟩;simp only[am,df,Nat.reduceAdd,bM];refine(G3 (BY (J2 m)) (ag.d_ _ _ _) (by rw[ab.fy];omega) (zQ hm (ab.fy _ _)) (ah m 38 rfl)).mono ?_;rintro v σ' ⟨rfl,rfl⟩;simp only[am,Nat.reduceAdd];refine aP rfl (ag.bc _) ⟨?_,by simp[ab.label,oD,h1]⟩;simp[ab.label,oD,h1,V.erase,bx,Nd.enc,Aa]
  .have oD:=pA (by omega);have DB:=KO (by omega);simp only[am,show(((2:Nat):Int)<2)=False by simp,fk];refine(PI h hn hm).mono ?_;rintro v σ' ⟨rfl,rfl⟩;simp only[am,Nd.len,Nd.one,Nd.D',Nd.tk];rw[aj3 oD DB hn];refine aP (by simp only[am,Nd.cI]) (ag.bc _) ⟨?_,rfl⟩;simp only[am,Nd.er]
def aj2:∀(n:Nat) {r:Nat} {rd:ab} {Z:ag} (_:Z.box r=U rd.enc) (_:bd rd.l<=n) (_:bd rd.l+1<=aO),
 dt 216 [.ptr (.out r) 0] Z (.agg (ab.label n rd).1.enc) (Z.set r (ab.label n rd).2.enc):=by
 intro n;induction n with
 | zero=>exact λh hn hm=>Ts (λm e=>by omega) h hn hm
 | succ n ih=>exact λh hn hm=>Ts (λm e=>Nat.succ.inj e▸ih) h hn hm
def af2:aT prog 264 (dH 2 ⟨5,(.s 3),(.s 7),(.s 6),(.s 5),(.s 0),(U 4),8,9,10⟩ [of 4 0,mM [1],no,oo 1,oC 265 [4],oL 3,oq (.kf 5 [(.c (.agg [(.int .i64 0),(.int .i64 0),(.aF []),(.sl .aV 2 []),(.sl .aV 5 [])]))]),oq (.mv (.c .any)),oq (.mv (.c .any)),oN,oq (.mv (.c .any)),oN]) [] 11:=aW func264
def gP(Y:Nat)(aj rows:List (List V)):List V:=[.int .i64 10,.int .i64 0,.aF [],.sl .aV 2 aj,.sl (.tk Y) 5 rows]
def apx{n:Nat}{aj rows:List (List V)}(ho:Z.box o=U (gP Y aj rows))(hp:Z.box p=U [.ptr (.out q) 0])(hq:Z.box q=U rd.enc)
 (K7:o≠q) (ht:Z.aK Y=U rows.length) (hb:rows.length+1<=aO) (hn:bd rd.l<=n) (hm:bd rd.l+1<=aO) :
 dt 264 [.ptr (.out o) 0,.ptr (.out p) 0] Z (.bt []) (((Z.set q (rd.field n).2.enc).set o (gP Y aj (rows++[(rd.field n).1.enc]))).aY Y (rows.length+1)):=by
 unfold gP at ho ⊢;refine af2.aS ?_;simp only[aR,a8,am,ho,hp];refine bJ.intro (adT (n:=n) hq hn hm) ?_;have h1:(Z.set q (rd.field n).2.enc).box o=U [.int .i64 10,.int .i64 0,.aF [],.sl .aV 2 aj,.sl (.tk Y) 5 rows]:=by rw[ag.eg _ _ K7];exact ho
 simp only[am,h1];refine SD (Y:=Y) (m:=rows) (cs:=(rd.field n).1.enc) (p:=.ptr (.out o) 4) rfl rfl rfl hb ht ⟨Nd.wd,Nd.one,Nd.cI⟩ Nd.er (by simp) rfl (by simp only[am,h1];rfl) ?_;simp only[am];exact aP rfl (ag.bc _) ⟨rfl,rfl⟩
def af1:aT prog 263 (sq [rg 0 [od (U 2) (.gf 1 (.s 0))],sq [rg 3 [no,oc 259 [.s 3,.c (.int .u8 124)],nn],ci 5 (rg 6 [oo 2,oq (.jG (.func 264) [] [(.s 1),(.s 2)]),oC 256 [6,7]])],rg 9 [oo 2,oc 259 [.s 9,.c (.int .u8 124)]],ci 10 (sq [rg 11 [oo 2,oc 260 [.s 11,.c (.int .u8 124)]],rg 13 [oo 2,oC 258 [13],n1 2,of 3 1,os 1 16 15]])]) [] 17:=aW func263 ⟨[2],[]⟩
def gv(Z:ag)(q o Y:Nat)(rd:ab)(aj rows:List (List V)):ag:=((Z.set q rd.enc).set o (gP Y aj rows)).aY Y rows.length
def zg{aj rows:List (List V)}(h:q≠o):(gv Z q o Y rd aj rows).box q=U rd.enc:=by
 simp[gv,ag.aY,ag.set,h]
def JW{aj rows:List (List V)}:(gv Z q o Y rd aj rows).box o=U (gP Y aj rows):=by
 simp[gv,ag.aY,ag.set]
def JX{aj rows:List (List V)}(h:p≠q)(h' : p≠o):(gv Z q o Y rd aj rows).box p=Z.box p:=by
 simp[gv,ag.aY,ag.set,h,h']
def RD{aj rows:List (List V)}(h:p≠q)(h' : p≠o):(gv Z q o Y rd aj rows).set p cs=gv (Z.set p cs) q o Y rd aj rows:=by
 have:((Z.set q rd.enc).set o (gP Y aj rows)).set p cs=((Z.set p cs).set q rd.enc).set o (gP Y aj rows):=by
  rw[ag.set_comm (fi h'),ag.set_comm (b:=q) (fi h)]
 show(((Z.set q rd.enc).set o (gP Y aj rows)).set p cs).aY Y rows.length=_;rw[this];rfl
def ahH{aj rows:List (List V)}:(gv Z q o Y rd aj rows).aK Y=U rows.length:=by
 simp[gv,ag.aY]
def F8{aj rows:List (List V)}(h:q≠o):(gv Z q o Y rd aj rows).set q j_.enc=gv Z q o Y j_ aj rows:=by
 have:((Z.set q rd.enc).set o (gP Y aj rows)).set q j_.enc=(Z.set q j_.enc).set o (gP Y aj rows):=by rw[ag.set_comm (fi h),ag.set_set]
 show(((Z.set q rd.enc).set o (gP Y aj rows)).set q j_.enc).aY Y rows.length=_;rw[this];rfl
def ahF{aj Mt rows:List (List V)}:(gv Z q o Y rd aj rows).set o (gP Y Mt rows)=gv Z q o Y rd Mt rows:=by
 show(((Z.set q rd.enc).set o (gP Y aj rows)).set o (gP Y Mt rows)).aY Y rows.length=_;rw[ag.set_set];rfl
def ahG{aj rows:List (List V)}(h:q≠o):(((gv Z q o Y rd aj rows).set q j_.enc).set o (gP Y aj (rows++[c]))).aY Y (rows.length+1)=gv Z q o Y j_ aj (rows++[c]):=by
 rw[F8 h];unfold gv;rw[bN,dd,eM];show((((Z.set q j_.enc).set o (gP Y aj rows)).set o (gP Y aj (rows++[c]))).aY Y rows.length).aY Y (rows.length+1)=_;rw[ag.set_set,jr]
def Ee(one:ab->Nd × ab)(Z:ag)(q o Y:Nat):Sys (ab × List Nd):=⟨λa=>gv Z q o Y a.1 [] (a.2.map Nd.enc),λa=>a.1,λa r=>(r,a.2),cc one⟩
def WI{one:ab->Nd × ab}(h:Reads one)(r:ab):(dS (cc one) r).1.l=r.l:=J1 (Mz h _) _ _ (Mz h _ _ rfl)
def apy{n:Nat}(dE:q≠o)(fu:rd.at_=0)(fK:rd.aG=af)(hn:bd rd.l<=n)(hm:bd rd.l+1<=aO):
 dt 263 [.ptr (.out q) 0,.ptr (.out o) 0] (gv Z q o Y rd [] []) (.bt []) (gv Z q o Y (rd.mK n).1.1 ((rd.mK n).2.map aA.enc) ((rd.mK n).1.2.map Nd.enc)):=by
 have hlen:=lM rd.l;have Di:Reads (ab.field n):=BY (RQ n);refine af1.aS ?_;simp only[aR,a8,am];refine j1 λp hp=>?_
 have lG:p≠q:=by rintro rfl;rw[zg dE] at hp;simp at hp
 have lE:p≠o:=by rintro rfl;rw[JW] at hp;simp at hp
 rw[JX lG lE] at hp;rw[RD lG lE];have wa:∀a b c,(gv (Z.set p [.ptr (.out q) 0]) q o Y a b c).box p=U [.ptr (.out q) 0]:=λa b c=>by rw[JX lG lE,ag.d_]
 have sS:∀a b c,(gv Z q o Y a b c).sub (gv (Z.set p [.ptr (.out q) 0]) q o Y a b c):=λa b c=>by
  rw[<-RD lG lE];exact h_ (by rw[JX lG lE];exact hp)
 simp only[am,wa];refine(qt (zg dE)).mono ?_;rintro v σ' ⟨rfl,rfl⟩;cases h1:rd.bT 124
 all_goals simp only[am,wa]
 case' false =>
  have rX:∀a:ab × List Nd,pk rd.l a->a.1.aG=af->cg prog 264 [.ptr (.out o) 0,.ptr (.out p) 0] (gv (Z.set p [.ptr (.out q) 0]) q o Y a.1 [] (a.2.map Nd.enc)) λv σ' =>
   v = .bt []/\σ' = gv (Z.set p [.ptr (.out q) 0]) q o Y (cc (ab.field n) a).1 [] ((cc (ab.field n) a).2.map Nd.enc):=λa kT hb=>by
   have hl:=kT.2.2.2 hb;have kR:=kT.2.2.1;refine(apx (n:=n) JW (wa _ _ _) (zg dE) (fi dE) ahH (by rw[aN];omega) (by rw[kT.1];exact hn) (by rw[kT.1];exact hm)).mono ?_;rintro v σ' ⟨rfl,rfl⟩;refine⟨rfl,?_⟩;rw[ahG dE];simp[cc]
  have h0:pk rd.l (rd,([]:List Nd)):=⟨rfl,by simp[fu],by simp[fu],λ_=>by simp[fu]⟩;obtain⟨p1,_⟩:=HB Di h0 fK;refine(NS (Ee (ab.field n) (Z.set p [.ptr (.out q) 0]) q o Y) (pk rd.l) (a:=(rd,[])) (n:=rd.l.length) (by simp[am]) (λa h=>zg dE) (λa h=>?_) (λa h hs=>F8 dE) (λa h hs=>?_) (rX _ h0 fK) p1 ?_).mono ?_
  .show a.1.l.length<=aO;rw[h.1];omega
  .obtain⟨k1,k2,k3⟩:=MO h hs;obtain⟨k4,k5⟩:=HB Di k1 k2;refine⟨rX _ k1 k2,k4,?_,?_⟩
   .exact k4.1.trans h.1.symm
   .show a.1.at_+1<=_;simp only at k5;rw[k3] at k5;exact k5
  .show(cc (ab.field n) (rd,[])).1.l.length<=rd.l.length;rw[p1.1];omega
  rintro v σ' ⟨rfl,rfl⟩;have e:(Ee (ab.field n) (Z.set p [.ptr (.out q) 0]) q o Y).F ((Ee (ab.field n) (Z.set p [.ptr (.out q) 0]) q o Y).go rd.l.length ((Ee (ab.field n) (Z.set p [.ptr (.out q) 0]) q o Y).step (rd,[])))=gv (Z.set p [.ptr (.out q) 0]) q o Y (dS (cc (ab.field n)) rd).1 [] ((dS (cc (ab.field n)) rd).2.map Nd.enc):=by
   unfold Ee;rw[Ga];rfl
  rw[e];have hl:=WI Di rd;have iA:rd.mK n=if (dS (cc (ab.field n)) rd).1.bT 124=aa then((((dS (cc (ab.field n)) rd).1.take 124).2.word.2,(dS (cc (ab.field n)) rd).2),[((dS (cc (ab.field n)) rd).1.take 124).2.word.1]) else(dS (cc (ab.field n)) rd,[]):=by
   simp only[ab.mK,h1,dm,cn]
  generalize dS (cc (ab.field n)) rd=a at hl iA ⊢;simp only[am,wa]
 case' true =>
  have iA:rd.mK n=if rd.bT 124=aa then(((rd.take 124).2.word.2,[]),[(rd.take 124).2.word.1]) else((rd,[]),[]):=by
   simp only[ab.mK,h1,cD]
  have hl:rd.l=rd.l:=rfl;rw[show gv (Z.set p [.ptr (.out q) 0]) q o Y rd [] []=gv (Z.set p [.ptr (.out q) 0]) q o Y (rd,([]:List Nd)).1 [] ((rd,([]:List Nd)).2.map Nd.enc) from rfl];have iA:rd.mK n=if (rd,([]:List Nd)).1.bT 124=aa then((((rd,([]:List Nd)).1.take 124).2.word.2,(rd,([]:List Nd)).2),[((rd,([]:List Nd)).1.take 124).2.word.1]) else((rd,([]:List Nd)),[]):=iA
  have hl:(rd,([]:List Nd)).1.l=rd.l:=rfl;generalize (rd,([]:List Nd))=a at hl iA ⊢
 all_goals
  refine(qt (zg dE)).mono ?_;rintro v σ' ⟨rfl,rfl⟩;cases h2:a.1.bT 124
  .simp only[am,iA,h2];exact aP rfl (sS _ _ _) ⟨rfl,rfl⟩
  .simp only[am,wa];refine(wK (zg dE) (by rw[hl];omega)).mono ?_;rintro v σ' ⟨rfl,rfl⟩;rw[F8 dE];simp only[am,wa];refine(yD (zg dE) (by rw[ab.fy,hl];omega)).mono ?_;rintro v σ' ⟨rfl,rfl⟩;rw[F8 dE];simp only[am,aA.enc,JW,gP,Nat.reduceAdd];rw[show [V.int .i64 10,.int .i64 0,.aF [],.sl .aV 2 [[.aF (a.1.take 124).2.word.1.an,.int .i64 (a.1.take 124).2.word.1.pos]],.sl (.tk Y) 5 (a.2.map Nd.enc)]=gP Y ([(a.1.take 124).2.word.1].map aA.enc) (a.2.map Nd.enc) from rfl,ahF];exact aP rfl (sS _ _ _) ⟨rfl,by rw[iA,aE h2]⟩
def afn:aT prog 217 (sq [rg 0 [oZ 2 [0,0,1,7,10]],sq [rg 5 [om 0,oc 259 [.s 5,.c (.int .u8 91)],nn],ci 7 (sq [rg 8 [om 0,oC 258 [8],oZ 3 [1,0],o2 2 3],rg 10 [fo 1 3,fo 0 3,oG [0,0,1,7,10] [(0,1,.c (.int .i64 1)),(1,1,.s 11),(2,1,.s 13)],o2 5 2],.ret])],rg 15 [oG [0,0,1,7,10] [(0,1,.c (.int .i64 10))],od (U 4) (.nP [(.int .i64 0),(.int .i64 0),(.aF []),(.sl .aV 2 []),(.sl .aV 5 [])]),o2 5 4],.pf (rg 16 [om 0,oq (.jG (.func 263) [] [(.s 4)]),oc 254 [.s 16,.c (.int .u8 91),.c (.bool aa),.s 17],of 1 4,os 1 19 18]),rg 20 [ol 5 4,o2 5 2],.ret]) [.cell 2 aa 5] 21:=aW func217 ⟨[4],[5]⟩
def are{a b:ag}{C:List V}(h:a.sub b)(k:a.box o=af):a.sub (b.set o C):=by
 refine⟨λx cs hx=>?_,h.2⟩
 have:x≠o:=by rintro rfl;rw[k] at hx;simp at hx
 rw[ag.eg _ _ this];exact h.1 x cs hx
def apB{n:Nat}(i:ab):(i.mK n).1.1.l=i.l:=by
 have Di:Reads (ab.field n):=BY (RQ n);cases h1:i.bT 124
 .cases h2:(dS (cc (ab.field n)) i).1.bT 124<;>simp[ab.mK,h1,h2,ab.word,ab.fy,WI Di]
 .simp[ab.mK,h1,ab.word,ab.fy]
def apF{n:Nat}(t:ar):(ab.rowOf n t).1.1.l=t.ah:=by
 unfold ab.rowOf;split
 .rfl
 .rw[apB];rfl
def ati{n:Nat}(h:Z.box r=U rd.enc)(hn:bd rd.l<=n)(hm:bd rd.l+1<=aO):
 dt 217 [.ptr (.out r) 0] Z (.agg (rd.row n).1.enc) (Z.set r (rd.row n).2.enc):=by
 have hlen:=lM rd.l;refine afn.aS ?_;simp only[aR,a8,am];refine(qt h).mono ?_;rintro v Z ⟨rfl,rfl⟩;cases h1:rd.bT 91
 .simp only[am];refine(yD h (by omega)).mono ?_;rintro v σ' ⟨rfl,rfl⟩;simp only[am,aA.enc,Nat.reduceAdd];refine aP rfl (ag.bc _) ⟨?_,by simp[ab.row,ab.leaf,h1]⟩;simp[ab.row,ab.leaf,h1,V.erase,bx,Nd.enc,rf]
 .simp only[am];refine j1 λo ho=>?_
  have jj:o≠r:=by rintro rfl;rw[h] at ho;simp at ho
  simp only[am];refine bq.tok 0 λY br=>⟨_,_,_,ey.rfl,rfl,λi c hc=>⟨c,hc,ey.rfl⟩,p8.set (cs:=[.int .i64 10,.int .i64 0,.aF [],.sl .aV 2 [],.sl .aV 5 []]) (cs' := gP Y [] []) (ag.d_ _ _ _) ⟨jg.same,jg.same,jg.same,jg.same,jg.tok rfl,trivial⟩,?_⟩
  simp only[am];have vO : ((Z.set o (gP Y [] [])).aY Y 0).box r=U rd.enc:=by
   show(Z.set o _).box r=_;rw[ag.eg _ _ (fi jj)];exact h
  have aX:∀q,((Z.set o (gP Y [] [])).aY Y 0).box q=af->q≠o/\q≠r/\Z.box q=none:=λq hq=>by
   have dE:q≠o:=by rintro rfl;rw[show((Z.set q (gP Y [] [])).aY Y 0).box q=_ from ag.d_ _ _ _] at hq;simp at hq
   have nd : Z.box q=none:=by rw[<-ag.eg Z (gP Y [] []) dE];exact hq
   exact⟨dE,by rintro rfl;rw[h] at nd;simp at nd,nd⟩
  have rP:bd (rd.take 91).1.ah<=bd rd.l:=(rd.vg 91).1;have atO:=lM (rd.take 91).1.ah;generalize eJ:ab.rowOf n (rd.take 91).1=ins;have Dl:ins.1.1.l=(rd.take 91).1.ah:=by rw[<-eJ];exact apF _
  refine(Oi (kind:=91) (by simp[am]) vO (by omega) (by omega) ins.1.1 ((Z.set o (gP Y (ins.2.map aA.enc) (ins.1.2.map Nd.enc))).aY Y (ins.1.2.map Nd.enc).length) ?_ ?_ ?_ Dl).mono ?_
  .intro b_ hc q hq;obtain⟨dE,kn,_⟩:=aX q hq;have e1:(((Z.set o (gP Y [] [])).aY Y 0).set r (rd.take 91).2.enc).set q (rd.take 91).1.inner.enc=gv (Z.set r (rd.take 91).2.enc) q o Y (rd.take 91).1.inner [] []:=by
    unfold gv;rw[ag.set_comm (b:=q) dE,ag.set_comm (b:=r) (fi jj)];rfl
   have e2:(((Z.set o (gP Y (ins.2.map aA.enc) (ins.1.2.map Nd.enc))).aY Y (ins.1.2.map Nd.enc).length).set r (rd.take 91).2.enc).set q ins.1.1.enc=gv (Z.set r (rd.take 91).2.enc) q o Y ins.1.1 (ins.2.map aA.enc) (ins.1.2.map Nd.enc):=by
    unfold gv;rw[ag.set_comm (b:=q) dE,ag.set_comm (b:=r) (fi jj)];rfl
   have e3:ins=(rd.take 91).1.inner.mK n:=by
    rw[<-eJ,ab.rowOf,aC]
    rcases hc with hc | hc
    .simp at hc
    .exact hc
   rw[e1,e2,e3];exact apy dE rfl rfl (by show bd (rd.take 91).1.ah<=n;omega) (by show bd (rd.take 91).1.ah+1<=aO;omega)
  .intro q1 q2
   have:ins=(((rd.take 91).1.inner,[]),[]):=by rw[<-eJ,ab.rowOf,aE q2]
   rw[this];exact⟨rfl,rfl⟩
  .intro q hq;obtain⟨dE,_,nd⟩:=aX q hq;show(Z.set o _).box q=af;rw[ag.eg _ _ dE];exact nd
  rintro v σ' hv;have xF:∀(A B:List V) (n:Nat),(Z.set r A).sub (((Z.set o B).aY Y n).set r A):=λA B n=>by
   refine⟨λb cs hb=>?_,λυ m hm=>?_,λ_ _ h=>h⟩
   .have De:b≠o:=by rintro rfl;rw[ag.eg _ _ jj,ho] at hb;simp at hb
    by_cases uE:b=r
    .subst uE;rw[ag.d_] at hb ⊢;exact hb
    .rw[ag.eg _ _ uE] at hb ⊢;show(Z.set o B).box b=_;rw[ag.eg _ _ De];exact hb
   .have sX : Z.aK υ=U m:=hm;have zA : υ≠Y:=by rintro rfl;rw[show(Z.set o [V.int .i64 10,.int .i64 0,.aF [],.sl .aV 2 [],.sl .aV 5 []]).aK υ=Z.aK υ from rfl] at br;rw[br] at sX;simp at sX
    show((Z.set o B).aY Y n).aK υ=U m;rw[pe zA];exact sX
  have b_:(rd.take 91).2.ok=true:=by
   rcases rd.tK 91 with ⟨_,_,e,_,_⟩ | ⟨e,_,_⟩
   .simp[ab.ok,e]
   .rw[h1] at e;simp at e
  rw[aE b_] at hv;obtain⟨rfl,rfl⟩:=hv;have hb:(((Z.set o (gP Y (ins.2.map aA.enc) (ins.1.2.map Nd.enc))).aY Y (ins.1.2.map Nd.enc).length).set r ((rd.take 91).2.under ins.1.1).enc).box o=U (gP Y (ins.2.map aA.enc) (ins.1.2.map Nd.enc)):=by
   rw[ag.eg _ _ jj];exact ag.d_ _ _ _
  simp only[gP] at hb xF ⊢;simp only[am,hb,Nat.reduceAdd];refine aP rfl (are (xF _ _ _) (by rw[ag.eg _ _ jj];exact ho)) ⟨?_,by simp[ab.row,h1,eJ]⟩;simp[ab.row,h1,eJ,V.erase,bx,Nd.enc,Aa]
def aeP:aT prog 166 (sq [rg 6 [oz 7,oM [0,0]],rg 11 [om 0,om 1,om 2,oW [10,0,0,0,0] [(0,1,11),(1,1,12),(2,1,13)],oq (.gf 5 (.s 14)),o1 8],rg 17 [om 8,oc 213 [.s 17,.c (.bool ak)],o1 16,oe 16 0,oe 16 1,ot 9 19,o1 10],sq [rg 21 [om 8,oC 214 [21],nn],ci 23 (sq [dg 24 [mk 8,nf 3,nl 2,oU 6 7,o2 2 7],.ret])],rg 28 [om 9,oW [0,0] [],ot 6 28,o2 2 7],.ret]) [.tmp 6,.cell 7 aa 2] 30:=aW func166 ⟨[15],[]⟩
def aeS:aT prog 169 (sq [rg 7 [oZ 6 [0,0,1,7,10],oi 0,oM [0,0]],rg 9 [om 0,om 1,om 2,oc 215 [.s 9,.s 10,.s 11,.c (.fn (.func 216) [] [])],oe 12 0,oe 12 1,oe 12 2,os 5 6 13,ot 7 14,o2 2 8],.ret]) [.cell 6 aa 5,.tmp 7,.cell 8 aa 2] 16:=aW func169
def aeT:aT prog 170 (sq [rg 7 [oZ 6 [0,0,1,7,10],oi 0,oM [0,0]],rg 9 [om 0,om 1,om 2,oc 215 [.s 9,.s 10,.s 11,.c (.fn (.func 217) [] [])],oe 12 0,oe 12 1,oe 12 2,os 5 6 13,ot 7 14,o2 2 8],.ret]) [.cell 6 aa 5,.tmp 7,.cell 8 aa 2] 16:=aW func170
def afl:aT prog 215 (sq [rg 9 [oZ 8 [0,0,1,7,10],oi 0,oM [0,0]],rg 13 [om 0,om 1,om 2,oW [10,0,0,0,0] [(0,1,13),(1,1,14),(2,1,15)],oq (.gf 5 (.s 16)),o1 11],rg 18 [om 3,om 11,oq (.il (.s 18) [(.s 19)]),oZ 12 [0,0,1,7,10],o2 5 12],sq [rg 21 [om 11,oC 214 [21],nn],ci 23 (sq [dg 24 [oW [0,0,1,7,10] [],mk 11,nf 3,mM [1],nl 2,os 5 8 24,oj 9 0,o2 2 10],.ret])],dg 29 [ol 5 12,mk 11,nf 1,mM [1],no,oW [0,0] [],os 5 8 29,ot 9 33,o2 2 10],.ret]) [.cell 8 aa 5,.tmp 9,.cell 10 aa 2] 35:=aW func215 ⟨[17],[]⟩
def jR(b:Option Int):V:=.agg [.int .i64 (c9 b),.int .i64 (fJ b)]
def XI{one:ab->Nd × ab}{at_ fin:Int}
 (fL:∀q (Z:ag),Z.box q=U (⟨l,at_,fin,af⟩:ab).enc->dt g [.ptr (.out q) 0] Z (.agg (one ⟨l,at_,fin,af⟩).1.enc) (Z.set q (one ⟨l,at_,fin,af⟩).2.enc)) :
 a_ 215 [.sl .no 5 (dC l),.int .i64 at_,.int .i64 fin,.fn (.func g) [] []] Z (.bt [.agg (fp one l at_ fin).1.enc,.int .i64 (fp one l at_ fin).2.1,jR (fp one l at_ fin).2.2]):=by
 refine afl.aS ?_;simp only[aR,a8,am];refine j1 λq hq=>?_
 rw[show [V.sl .no 5 (dC l),.int .i64 at_,.int .i64 fin,.int .i64 0,.int .i64 0]=(⟨l,at_,fin,af⟩:ab).enc from rfl];simp only[am];refine(fL q _ (ag.d_ _ _ _)).mono ?_;rintro v σ' ⟨rfl,rfl⟩;have hb:=ag.d_ Z q (one ⟨l,at_,fin,af⟩).2.enc;have iA:fp one l at_ fin=match (one ⟨l,at_,fin,af⟩).2.aG with | some b=>(.zero,0,U b) | none=>((one ⟨l,at_,fin,af⟩).1,(one ⟨l,at_,fin,af⟩).2.at_,af):=rfl
 generalize one ⟨l,at_,fin,af⟩=o at hb iA ⊢;simp only[am,Nd.len,Nd.one,Nd.D'];refine(wy (ag.d_ _ _ _)).mono ?_;rintro v σ' ⟨rfl,rfl⟩;cases h:o.2.aG with
 | some b =>
  simp only[am,ab.ok,h,Option.isNone,ab.ex,Nat.reduceAdd];rw[h] at iA;refine aP rfl (h_ hq) ⟨?_,rfl⟩;simp[iA,V.erase,bx,Nd.zero,Nd.enc,rf,jR]
 | none =>
  simp only[am,ab.ok,h,Option.isNone,ab.ex,Nat.reduceAdd,Nd.len,Nd.one,Nd.D',Nd.tk];rw[h] at iA;refine aP (by simp only[am,Nd.cI]) (h_ hq) ⟨?_,rfl⟩;simp[iA,V.erase,bx,jR,Nd.er,c9,fJ]
def XU{n:Nat}{at_ fin:Int}(hn:bd l<=n)(hm:bd l+1<=aO):
 a_ 169 [.sl .no 5 (dC l),.int .i64 at_,.int .i64 fin] Z (.bt [.agg (fp (ab.label n) l at_ fin).1.enc,.int .i64 (fp (ab.label n) l at_ fin).2.1,jR (fp (ab.label n) l at_ fin).2.2]):=by
 refine aeS.aS ?_;simp only[aR,a8,am];refine(XI (one:=ab.label n) (λq Z h=>aj2 n h hn hm)).mono ?_;rintro v Z ⟨rfl,rfl⟩;generalize fp (ab.label n) l at_ fin=o;simp only[am,jR,Nd.len,Nd.D',Nd.tk,Nd.one];refine aP (by simp only[am,Nd.cI]) (ag.bc _) ⟨?_,rfl⟩;simp[V.erase,bx,Nd.er]
def Ya{n:Nat}{at_ fin:Int}(hn:bd l<=n)(hm:bd l+1<=aO):
 a_ 170 [.sl .no 5 (dC l),.int .i64 at_,.int .i64 fin] Z (.bt [.agg (fp (ab.row n) l at_ fin).1.enc,.int .i64 (fp (ab.row n) l at_ fin).2.1,jR (fp (ab.row n) l at_ fin).2.2]):=by
 refine aeT.aS ?_;simp only[aR,a8,am];refine(XI (one:=ab.row n) (λq Z h=>ati (n:=n) h hn hm)).mono ?_;rintro v Z ⟨rfl,rfl⟩;generalize fp (ab.row n) l at_ fin=o;simp only[am,jR,Nd.len,Nd.D',Nd.tk,Nd.one];refine aP (by simp only[am,Nd.cI]) (ag.bc _) ⟨?_,rfl⟩;simp[V.erase,bx,Nd.er]
def Yd{at_ fin:Int}(hm:bd l+1<=aO):
 a_ 166 [.sl .no 5 (dC l),.int .i64 at_,.int .i64 fin] Z (.bt [.sl .no 2 ((ja l at_ fin).1.map aA.enc),jR (ja l at_ fin).2]):=by
 have hlen:=lM l;refine aeP.aS ?_;simp only[aR,a8,am];refine j1 λq hq=>?_
 rw[show [V.sl .no 5 (dC l),.int .i64 at_,.int .i64 fin,.int .i64 0,.int .i64 0]=(⟨l,at_,fin,af⟩:ab).enc from rfl];simp only[am];refine(Oq (ag.d_ _ _ _) (by simp only;omega) (zQ hm rfl)).mono ?_;rintro v σ' ⟨rfl,rfl⟩;have hb:=ag.d_ Z q ((⟨l,at_,fin,af⟩:ab).words ak).2.enc;have iA:ja l at_ fin=match ((⟨l,at_,fin,af⟩:ab).words ak).2.aG with | some b=>([],U b) | none=>(((⟨l,at_,fin,af⟩:ab).words ak).1.1,af):=rfl
 generalize (⟨l,at_,fin,af⟩:ab).words ak=o at hb iA ⊢;simp only[am];refine(wy (ag.d_ _ _ _)).mono ?_;rintro v σ' ⟨rfl,rfl⟩;cases h:o.2.aG with
 | some b =>
  simp only[am,ab.ok,h,Option.isNone,ab.ex,Nat.reduceAdd];rw[h] at iA;refine aP rfl (h_ hq) ⟨?_,rfl⟩;simp[iA,V.erase,bx,jR]
 | none =>
  simp only[am,ab.ok,h,Option.isNone];rw[h] at iA;refine aP rfl (h_ hq) ⟨?_,rfl⟩;simp[iA,V.erase,bx,jR,c9,fJ]
def aeK:aT prog 161 (sq [rg 2 [oz 2],sq [rg 4 [om 0,oq (.mW .eql (.s 4) (.c (.aF []))),gB,om 0,nT,nB .gtr 16,gZ,gB,om 0,oq (.sZ (.s 12) (.c (.int .i64 0))),oC 211 [13],nn,gZ],cr 16 2 [oz 2]],sq [rg 17 [om 0,nT,oi 0],lp 18 0 (sq [rg 21 [om 19,o1 3],rg 22 [om 0,om 3,nS 22,oC 212 [24],nn],cr 26 2 [oz 2]]) 27],rg 2 [oq (.mv (.c (.bool aa)))],.ret]) [.tmp 2] 28:=aW func161
def afh:aT prog 211 (sq [rg 2 [oz 2],rg 3 [om 0,nu .geq 97,gA,om 0,nu .leq 122,gZ,o1 2],.ret]) [.tmp 2] 9:=aW func211
def afi:aT prog 212 (sq [rg 2 [oz 2],rg 3 [om 0,oC 211 [3],nm,oh 5 (om 0),oh 5 (nu .geq 48),oh 5 (nm),og 8 (om 0),og 8 (nu .leq 57),oh 5 (oy 8 10),oq (.pick (.s 5) (.c (.bool aa)) (.s 11)),gB,om 0,nu .eql 95,gZ,o1 2],.ret]) [.tmp 2] 17:=aW func212
def vo:=ae @am <| ae @pn <| ae @cF <| ae @kh <| ae @bM <| ae @fk <| ae @ar.al <| ae @Nd.al <| ae @aA.al @cf.al
def TE(c:Int)(Z:ag):a_ 211 [.int .u8 c] Z (.bool (ya c)):=by
 refine afh.aS ?_;simp only[aR,am,a8,Nat.reduceAdd]
 repeat' (first
  | (refine kP (λh=>?_) (λh=>?_)<;>simp only[am,h])
  | (refine e9 (λh=>?_) (λh=>?_)<;>simp only[vo,h,Nat.reduceAdd,Nat.reduceEqDiff,aN])
  | (refine la (λh=>?_) (λh=>?_)<;>simp only[vo,h,Nat.reduceAdd,Nat.reduceEqDiff,aN])
 )
 all_goals refine aU ?_
 all_goals simp_all [V.erase,ya]
 all_goals (try omega)
def ahT(c:Int)(Z:ag):a_ 212 [.int .u8 c] Z (.bool (uC c)):=by
 refine afi.aS ?_;simp only[aR,am,a8,Nat.reduceAdd];refine cl (TE c Z) ?_;simp only[am]
 repeat' (first
  | (refine kP (λh=>?_) (λh=>?_)<;>simp only[am,h])
  | (refine e9 (λh=>?_) (λh=>?_)<;>simp only[vo,h,Nat.reduceAdd,Nat.reduceEqDiff,aN])
  | (refine la (λh=>?_) (λh=>?_)<;>simp only[vo,h,Nat.reduceAdd,Nat.reduceEqDiff,aN])
 )
 all_goals refine aU ?_
 all_goals simp_all [V.erase,uC]
 all_goals (try omega)
variable{s:List UInt8}
def Et(h:i<s.length):s[((i:Nat):Int).toNat]?=U s[i]:=by simp[h]
def LK(s:List UInt8)(Z:ag)(i:Nat):St :=
 ⟨[.aF s]++au 17 .any++[.int .i64 s.length,.int .i64 (i:Nat)]++au 8 .any,[],Z⟩
def Pt{f:UInt8->Bool}(h:i<s.length):(s.take (i+1)).all f=((s.take i).all f&&f s[i]):=by
 rw[Ew (cL h),IE];simp only[tT,OM,vp]
def alR(h:s.length<=16)(h1:0<s.length):dG s=(uV s[0]&&s.all gF):=by
 cases s with
 | nil=>simp at h1
 | cons c r =>
  simp only[dG,h,bM,lj,List.getElem_cons_zero,tT];cases hc:uV c
  .simp
  .have:gF c=true:=by simp only[uV] at hc;simp[gF,uC,hc]
   simp[this]
def tm(s:List UInt8)(Z:ag):a_ 161 [.aF s] Z (.bool (dG s)):=by
 refine aeK.aS ?_;simp only[aR,am,a8,Nat.reduceAdd]
 by_cases h0:s=[]
 .subst h0;simp only[am,bM];refine aU ?_;simp[V.erase,dG]
 .have lF:0<s.length:=by cases s with | nil=>exact absurd rfl h0 | cons _ _=>simp
  simp only[am,fk,h0]
  by_cases C7:s.length<=16
  .have e:decide ((16:Int)<s.length)=false:=by simp;omega
   simp only[am,e];refine BJ (c:=s[0]) (by simp[lF]) ?_;simp only[am];refine cl (TE s[0].toNat Z) ?_;have hl:dG s=(uV s[0]&&s.all gF):=alR C7 lF;cases hb:ya (s[0].toNat:Nat)
   .have b9 : uV s[0]=false:=hb;simp only[am];refine aU ?_;simp[V.erase,hl,b9]
   .have b9 : uV s[0]=true:=hb;simp only[am];refine iG (λp:{i:Nat // i<=s.length/\(s.take i).all gF=aa}=>LK s Z p.1) (λp=>s.length - p.1) ?_ ?_
    .refine bq.enter ⟨0,by simp,by simp⟩ ?_ cm.rfl bL.rfl;simp[LK,au,am]
    .rintro⟨i,hi,ha⟩;simp only[LK,au,am];refine e9 ?_ ?_
     .intro aB;have aB:i<s.length:=by simpa using aB
      simp only[am];refine BJ (Et aB) ?_;simp only[am];refine cl (ahT s[i].toNat Z) ?_;cases hg:uC (s[i].toNat:Nat)
      .have qe : gF s[i]=false:=hg;simp only[am];refine aP rfl (ag.bc _) ⟨?_,rfl⟩
       have:s.all gF=false:=by
        rw[IF];exact⟨s[i],fh aB,by simp[qe]⟩
       simp[V.erase,hl,this]
      .simp only[am];rw[wrap_i64];refine bq.again ⟨i+1,by omega,?_⟩ (by simp;omega) (by simp[am]) cm.rfl bL.rfl;rw[Pt aB,ha];exact hg
     .intro aB;have aB:i=s.length:=by simp at aB;omega
      subst aB;rw[eN] at ha;simp only[am];refine aU ?_;simp[V.erase,hl,b9,ha]
  .have e:decide ((16:Int)<s.length)=true:=by simp;omega
   simp only[am,e];refine aU ?_;simp[V.erase,dG,C7]
def aeW:aT prog 173 (sq [rg 4 [od (U 2) (.gf 1 (.s 0)),od (U 3) (.gf 1 (.s 1)),oi 0],rg 5 [oo 2,nL,oq (.jG (.func 219) [] [(.s 2),(.s 3)]),oc 218 [.c (.int .i64 0),.s 6,.s 7],o1 4],.ret]) [.tmp 4] 9:=aW func173 ⟨[2,3],[]⟩
def afo:aT prog 218 (sq [rg 6 [oi 0],sq [rg 8 [om 0,o1 7],bl 0 (sq [sq [rg 9 [om 7,om 1,nb .lss 9],cx 11 0],.block 1 (sq [rg 14 [om 2,om 7,oq (.il (.s 14) [(.s 15)])],cr 16 17 [om 7,o1 6]]),rg 12 [ic 7]])],rg 6 [oi (-1)],.ret]) [.tmp 6] 18:=aW func218
def afp:aT prog 219 (sq [rg 4 [oz 2],dg 5 [oo 1,om 0,nA 1 5,no,oo 2,nE .eql 8,o1 4],.ret]) [.tmp 4] 11:=aW func219
def agv:aT prog 297 (sq [rg 2 [oz 2],sq [rg 5 [om 0,nL,nB .lss 1,gB,om 0,nL,nB .gtr 64,gZ,gB,om 0,oC 307 [14],nB .geq 0,gZ],cr 17 2 [oz 2]],sq [rg 18 [om 0,nL,oi 0],lp 19 0 (sq [rg 22 [oA 1 18 20,no,o1 4],rg 24 [om 4,oC 161 [24],nn],cr 26 2 [oz 2]]) 27],rg 2 [oq (.mv (.c (.bool aa)))],.ret]) [.tmp 2] 28:=aW func297
def agG:aT prog 307 (sq [rg 2 [od (U 1) (.gf 1 (.s 0)),oi 0],rg 3 [oo 1,nL,oq (.jG (.func 314) [] [(.s 1)]),oc 218 [.c (.int .i64 0),.s 4,.s 5],o1 2],.ret]) [.tmp 2] 7:=aW func307 ⟨[1],[]⟩
def agO:aT prog 314 (sq [rg 3 [oz 2],dg 4 [oo 1,om 0,oq (.kF 1 (.s 4) af (U (.s 5)) af),oo 1,om 0,nA 1 7,no,oC 173 [6,10],nB .geq 0,o1 3],.ret]) [.tmp 3] 13:=aW func314
def U9(n:Nat)(hn:n<=100000)(f:FuncId)(cap:List V)(hc:bK cap=aa)(p:Nat->Bool)(Z:ag)(h:∀i,i<n->cg prog f (.int .i64 (i:Nat)::cap) Z λv σ' => v = .bool (p i)/\σ' = Z) :
 a_ 218 [.int .i64 0,.int .i64 (n:Nat),.fn (.func f) [] cap] Z (.int .i64 (dh ((bU n).find? p))):=by
 refine afo.aS ?_;simp only[aR,am,a8,Nat.reduceAdd];refine dP (n) (λi (x:Unit)=>⟨[.any,.int .i64 (n:Nat),.fn (.func f) [] cap,.any,.any,.any,.any,.int .i64 (i:Nat)]++au 10 .any,[],Z⟩) (λi x=>(∀k,k<i->p k=ak)) λF hF JF bj=>⟨?_,?_,?_⟩
 .exact en bj (()) (by intro k h;omega)
 .rintro i x hi hJ;simp only[hF,au,am,dB hi,hc];refine(h i hi).mono ?_;rintro v σ' ⟨rfl,rfl⟩;cases hb:p i with
  | false =>
   simp only[am,a9,cE hi];exact nx bj (()) hi (AY hJ hb)
  | true =>
   have e:=ad1 hi hJ hb;simp only[am,a9];refine aU ?_;simp[V.erase,e,dh]
 .rintro x hJ;have e:=ad4 hJ;simp only[hF,au,am,a9,dV,a9];refine aU ?_;simp[V.erase,e,dh]
def adY(l:List (List UInt8))(s:List UInt8)(i b1 b2:Nat)(hi:i<l.length)(h1:Z.box b1=U [.sl .no 1 (cU l)])(h2:Z.box b2=U [.aF s]):
 a_ 219 [.int .i64 (i:Nat),.ptr (.out b1) 0,.ptr (.out b2) 0] Z (.bool (decide (l.getD i []=s))):=by
 refine afp.aS ?_;simp only[aR,am,a8,Nat.reduceAdd];simp only[am,h1];refine ix (Nw hi) ?_;simp only[am,h2];exact rt
def vM(l:List (List UInt8))(s:List UInt8)(Z:ag)(hl:l.length<=100000):a_ 173 [.sl .no 1 (cU l),.aF s] Z (.int .i64 (dh (gY l s))):=by
 refine aeW.aS ?_;simp only[aR,am,a8,Nat.reduceAdd];refine j1 λb1 fv=>?_
 simp only[am];refine j1 λb2 dD=>?_
 have aX:b1≠b2:=by rintro rfl;rw[gR] at dD;simp at dD
 have hs:=ag.B4 (h_ (cs:=[.sl .no 1 (cU l)]) fv) (h_ (cs:=[.aF s]) dD);have e1:((Z.set b1 [.sl .no 1 (cU l)]).set b2 [.aF s]).box b1=U [.sl .no 1 (cU l)]:=by rw[mL aX,gR]
 generalize uQ:(Z.set b1 [V.sl .no 1 (cU l)]).set b2 [V.aF s]=cN at hs e1;have e2:cN.box b2=U [.aF s]:=by rw[<-uQ,gR]
 simp only[am,iY,e1];refine(U9 l.length hl _ _ rfl (λi=>decide (l.getD i []=s)) cN λi hi=>adY l s i b1 b2 hi e1 e2).mono ?_;rintro v cN ⟨rfl,rfl⟩;simp only[am];exact aP rfl hs ⟨rfl,rfl⟩
def arI(l:List (List UInt8))(i b1:Nat)(hl:l.length<=100000)(hi:i<l.length)(h1:Z.box b1=U [.sl .no 1 (cU l)]):
 a_ 314 [.int .i64 (i:Nat),.ptr (.out b1) 0] Z (.bool (gY (l.take i) (l.getD i [])).isSome):=by
 refine agO.aS ?_;simp only[aR,am,a8,Nat.reduceAdd];simp only[am,cF,h1];refine WG (b:=i) (by rw[iY];omega) ?_;simp only[am,h1];refine ix (Nw hi) ?_;rw[V8];simp only[am];refine bJ.intro (vM (l.take i) (l.getD i []) Z (by rw[iR];omega)) ?_;simp only[am,MH];exact rt
def arJ(l:List (List UInt8))(Z:ag)(hl:l.length<=100000):a_ 307 [.sl .no 1 (cU l)] Z (.int .i64 (dh (N6 l))):=by
 refine agG.aS ?_;simp only[aR,am,a8,Nat.reduceAdd];refine j1 λb1 fv=>?_
 simp only[am,iY];refine(U9 l.length hl _ _ rfl (λi=>(gY (l.take i) (l.getD i [])).isSome) _ λi hi=>arI l i b1 hl hi gR).mono ?_;rintro v cN ⟨rfl,rfl⟩;simp only[am];exact aP rfl (h_ fv) ⟨rfl,rfl⟩
def alT(l:List (List UInt8))(Z:ag)(hl:l.length<=100000):a_ 297 [.sl .no 1 (cU l)] Z (.bool (tj l)):=by
 refine agv.aS ?_;simp only[aR,am,a8,Nat.reduceAdd,iY]
 by_cases h1:l.length<1
 .simp only[am,aQ (show(l.length:Int)<1 by omega)];refine aU ?_;simp[V.erase,tj];omega
 .simp only[am,iY,aM (show ¬(l.length:Int)<1 by omega)]
  by_cases h2:64<l.length
  .simp only[am,aQ (show(64:Int)<l.length by omega)];refine aU ?_;simp[V.erase,tj];omega
  .simp only[am,aM (show ¬(64:Int)<l.length by omega)];refine cl (arJ l Z hl) ?_;simp only[am,MH];cases ht:N6 l with
   | some k =>
    simp only[am,E9];refine aU ?_;simp[V.erase,tj,ht]
   | none =>
    simp only[am,iY,Cx];refine dP (l.length) (λi (x:Unit)=>⟨[.any,.any,.any,.any,.any,.any,.any,.any,.any,.any,.any,.any,.any,.any,.any,.any,.any,.any,.sl .no 1 (cU l),.int .i64 (l.length:Nat),.int .i64 (i:Nat)]++au 7 .any,[],Z⟩) (λi x=>(∀k,k<i->dG (l.getD k [])=aa)) λF hF JF bj=>⟨?_,?_,?_⟩
    .exact en bj (()) (by intro k h;omega)
    .rintro i x hi hJ;simp only[hF,au,am,dB hi];refine ix (Nw hi) ?_;simp only[am];refine cl (tm _ Z) ?_;simp only[am];cases hb:dG (l.getD i []) with
     | false =>
      have e:tj l=false:=by
       cases hq:tj l with
       | false=>rfl
       | true =>
        simp only[tj,bC,ln] at hq;have hm:l.getD i []∈l:=by rw[qN hi];exact fh hi
        rw[hq.2 _ hm] at hb;simp at hb
      simp only[am,a9];refine aU ?_;simp[V.erase,e]
     | true =>
      simp only[am,a9,cE hi];exact nx bj (()) hi (AY hJ hb)
    .rintro x hJ;have e:tj l=true:=by
      simp only[tj,ht,bC,ln,ca,AU,ij];refine⟨by omega,λs hs=>?_⟩;obtain⟨k,hk,rfl⟩:=List.mem_iff_getElem.1 hs
      have:=hJ k hk
      rwa [qN hk] at this
     simp only[hF,au,am,a9,dV,a9];refine aU ?_;simp[V.erase,e]
def afE:aT prog 233 (sq [rg 2 [ox 1 2 0,oz 2],rg 6 [fo 1 1,nL,o1 3],sq [rg 9 [om 3,nB .lss 1,gB,om 3,nB .gtr 8,gZ,nm,oh 15 (of 0 1),oh 15 (no),oh 15 (nn),oh 15 (nm),og 19 (om 3),og 19 (nB .neq 1),oh 15 (oy 19 21),oq (.pick (.s 15) (.c (.bool aa)) (.s 22))],cr 23 2 [oz 2]],sq [rg 24 [fo 1 1,nL,oi 0],lp 26 0 (sq [rg 29 [oA 67 25 27,nl 67,oR 5 qL,o2 67 5],rg 31 [ol 67 5,oC 276 [31],nn],cr 33 2 [oz 2]]) 34],rg 2 [oq (.mv (.c (.bool aa)))],.ret]) [.tmp 2] 35:=aW func233
def agc:aT prog 276 (sq [rg 2 [ox 1 67 0,oz 2],sq [rg 3 [fo 1 1,oC 297 [4],nn],cr 6 2 [oz 2]],sq [rg 7 [fo 0 1],.block 0 (sq [sq [rg 10 [oB .eql 8 1,o1 9],cd 9 .skip (rg 11 [oB .eql 8 2,o1 9])],cd 9 (sq [rg 12 [of 2 1,nl 65,oY nq [],oC 298 [13,14],o1 2],.ret]) (sq [rg 17 [oB .eql 8 3,o1 16],cd 16 (sq [rg 18 [of 2 1,nF 0,fo 1 1,nL,nb .eql 20,gA,of 2 1,nl 65,oC 299 [27],gZ,o1 2],.ret]) (sq [rg 31 [oB .eql 8 4,o1 30],cr 30 32 [of 2 1,nF 0,fo 1 1,nL,nb .eql 34,gA,of 2 1,nl 65,oC 175 [41],gZ,o1 2]])])])],rg 2 [oz 2],.ret]) [.tmp 2] 44:=aW func276
def atq:=ae @am <| ae @a8 <| ae @Rl.al @bp.al
def adz(f:bp)(hg:TZ Z)(hl:f.aj.length<=100000):a_ 276 [.agg f.enc] Z (.bool (qb f)):=by
 refine agc.aS ?_;simp only[aR,atq,Nat.reduceAdd];refine cl (alT f.aj Z hl) ?_;cases hn:tj f.aj with
 | false =>
  simp only[am];refine aU ?_;simp[V.erase,qb,hn]
 | true =>
  simp only[am,bp.al]
  by_cases h1:f.kind=1
  .simp only[am,Rl.al,bp.al,aQ h1];refine cl (We f.rel Rl.zero Z) ?_;simp only[am,Va];refine aU ?_;simp[V.erase,qb,hn,h1]
  .simp only[am,aM h1]
   by_cases h2:f.kind=2
   .simp only[am,Rl.al,bp.al,aQ h2];refine cl (We f.rel Rl.zero Z) ?_;simp only[am,Va];refine aU ?_;simp[V.erase,qb,hn,h2]
   .simp only[am,aM h2]
    by_cases h3:f.kind=3
    .simp only[am,bp.al,iY,aQ h3]
     by_cases h4:f.rel.n=f.aj.length
     .simp only[am,Rl.al,bp.al,aQ h4];refine cl (J5 f.rel Z) ?_;simp only[am];refine aU ?_;simp[V.erase,qb,hn,h3,h4]
     .simp only[am,aM h4];refine aU ?_;simp[V.erase,qb,hn,h3,h4]
    .simp only[am,aM h3]
     by_cases h5:f.kind=4
     .simp only[am,bp.al,iY,aQ h5]
      by_cases h4:f.rel.n=f.aj.length
      .simp only[am,Rl.al,bp.al,aQ h4];refine cl (Tv f.rel hg) ?_;simp only[am];refine aU ?_;simp[V.erase,qb,hn,h5,h4]
      .simp only[am,aM h4];refine aU ?_;simp[V.erase,qb,hn,h5,h4]
     .simp only[am,aM h5];refine aU ?_;simp[V.erase,qb,hn,h1,h2,h3,h5]
def QZ{l:List bp}(h:j<l.length):(l.map bp.enc)[((j:Nat):Int).toNat]?=U l[j].enc:=by simp[h]
def aqD{s:bA}(hi:i<s.bO.length)(h:qb s.bO[i]=ak):mN s=false:=by
 cases hq:mN s with
 | false=>rfl
 | true =>
  simp only[mN,bC,ln] at hq;rw[hq.2 _ (fh hi)] at h;simp at h
def aqE{s:bA}(h1:1<=s.bO.length)(h2:s.bO.length<=8)(h3:s.tuple=aa\/s.bO.length=1)(h:∀k (hk:k<s.bO.length),qb s.bO[k]=aa):mN s=true:=by
 simp only[mN,bC,ln,ca,mn];refine⟨⟨⟨h1,h2⟩,h3⟩,λf hf=>?_⟩;obtain⟨k,hk,rfl⟩:=List.mem_iff_getElem.1 hf;exact h k hk
def aqH(s:bA)(hg:TZ Z)(b_:s.ok):a_ 233 [.agg s.enc] Z (.bool (mN s)):=by
 refine afE.aS ?_;simp only[aR,am,a8,Nat.reduceAdd,bA.al,aN]
 by_cases h1:s.bO.length<1
 .simp only[am,aQ (show(s.bO.length:Int)<1 by omega)];refine aU ?_;simp[V.erase,mN];omega
 .simp only[am,aM (show ¬(s.bO.length:Int)<1 by omega)]
  by_cases h2:8<s.bO.length
  .simp only[am,aQ (show(8:Int)<s.bO.length by omega)];refine aU ?_;simp[V.erase,mN];omega
  .simp only[am,bA.al,aM (show ¬(8:Int)<s.bO.length by omega)];have h3:(∃t,s.tuple=t/\(t=aa\/s.bO.length=1))\/(s.tuple=ak/\s.bO.length≠1):=by
    cases ht:s.tuple with
    | true=>exact .inl ⟨aa,rfl,.inl rfl⟩
    | false =>
     by_cases hl:s.bO.length=1
     .exact .inl ⟨ak,rfl,.inr hl⟩
     .exact .inr ⟨rfl,hl⟩
   rcases h3 with ⟨t,ht,h3⟩ | ⟨ht,h3⟩
   .cases t
    case' false =>
     have h3:s.bO.length=1:=by simpa using h3
     simp only[am,aN,bA.al,aN,ht,aQ (show(s.bO.length:Int)=1 by omega)]
    case' true=>simp only[am,aN,bA.al,aN,ht]
    all_goals
     refine dP (s.bO.length) (λi (x:Unit)=>⟨[.any,.ptr (.aD 0) 0,.bool ak,.any,.any,.any,.any,.any,.any,.any,.any,.any,.any,.any,.any,.any,.any,.any,.any,.any,.any,.any,.any,.any,.any,.sl .no 67 (s.bO.map bp.enc),.int .i64 (s.bO.length:Nat),.int .i64 (i:Nat)]++au 7 .any,[s.enc],Z⟩) (λi x=>(∀k,k<i->∀hk:k<s.bO.length,qb s.bO[k]=aa)) λF hF JF bj=>⟨?_,?_,?_⟩
     .exact en bj (()) (by intro k h;omega)
     .rintro i x hi hJ;simp only[hF,au,am,dB hi];refine ix (QZ hi) ?_;simp only[am,bp.al];refine cl (adz s.bO[i] hg (b_.2 _ (fh hi))) ?_;cases hb:qb s.bO[i] with
      | false =>
       simp only[am,a9];refine aU ?_;simp[V.erase,aqD hi hb]
      | true =>
       simp only[am,a9,cE hi];refine fQ (()) hi ?_ ?_ ?_ ?_ ?_ ?_
       .exact eQ (bj _ _) (AY hJ (λ_=>hb))
       all_goals simp[hF,au,am,bQ,bS,dL,V.lo,bA.cH]
     .rintro x hJ;have e:=aqE (s:=s) (by omega) (by omega) (by first | exact .inr h3 | exact .inl ht) λk hk=>hJ k hk hk
      simp only[hF,au,am,a9,dV,a9];refine aU ?_;simp[V.erase,e]
   .have e:mN s=false:=by simp[mN,ht,h3]
    simp only[am,ht,aM (show ¬(s.bO.length:Int)=1 by omega)];refine aU ?_;simp[V.erase,e]
def VW{a n:Nat}(h:((s.drop a).take n).all gF=aa)(hn:a+n<=s.length)(he:∀hl:a+n<s.length,gF s[a+n]=ak):(fq (s.drop a)).length=n:=by
 have key:∀(r:List UInt8) (n:Nat),(r.take n).all gF=aa->n<=r.length->(∀hl:n<r.length,gF r[n]=ak)->(fq r).length=n:=by
  intro r;induction r with
  | nil=>intro n _ h2 _;simp at h2;subst h2;rfl
  | cons c r ih =>
   intro n h1 h2 h3;cases n with
   | zero=>have:=h3 (by simp);simp at this;simp[fq,this]
   | succ n =>
    simp only[vu,tT,bC] at h1
    have:=ih n h1.2 (by simpa using h2) (λhl=>h3 (Nat.succ_lt_succ hl))
    simp only[fq] at this;simp[fq,h1.1,this]
 refine key _ _ h (by simp;omega) λhl=>?_
 have hC : a+n<s.length:=by simp at hl;omega
 have:=he hC
 simpa using this
def drop_cons{a:Nat}(h:a<s.length):s.drop a=s[a]::s.drop (a+1):=mq h
def ars{l:List Tok}(h:j<l.length):(l.map Tok.enc)[((j:Nat):Int).toNat]?=U (i_ l j).enc:=by simp[i_,h]
def aex:aT prog 121 (sq [rg 2 [ox 1 5 0,oz 1],sq [rg 3 [fo 0 1],.block 0 (sq [sq [rg 6 [oB .eql 4 1,o1 5],cd 5 .skip (rg 7 [oB .eql 4 2,o1 5])],cd 5 (sq [rg 8 [fo 2 1,o1 2],.ret]) (sq [rg 11 [oB .eql 4 3,o1 10],cd 10 (sq [rg 12 [ol 5 1,oC 185 [12],oq (.cat (.c (.aF [123])) (.s 13)),oq (.cat (.s 14) (.c (.aF [125]))),o1 2],.ret]) (sq [rg 17 [oB .eql 4 4,o1 16],cd 16 (sq [rg 18 [ol 5 1,oC 186 [18],oq (.cat (.c (.aF [40])) (.s 19)),oq (.cat (.s 20) (.c (.aF [41]))),o1 2],.ret]) (sq [rg 23 [oB .eql 4 5,o1 22],cd 22 (sq [rg 24 [ol 5 1,oC 186 [24],oq (.cat (.c (.aF [91])) (.s 25)),oq (.cat (.s 26) (.c (.aF [93]))),o1 2],.ret]) (sq [rg 29 [oB .eql 4 6,o1 28],cd 28 (sq [dg 30 [of 2 1,mM [1],no,oq (.cat (.s 31) (.c (.aF [58,123]))),ol 5 1,oC 185 [33],oq (.cat (.s 32) (.s 34)),oq (.cat (.s 35) (.c (.aF [125]))),o1 2],.ret]) (sq [rg 38 [oB .eql 4 7,o1 37],cd 37 (sq [rg 39 [ol 5 1,oC 187 [39],oq (.cat (.c (.aF [35])) (.s 40)),o1 2],.ret]) (sq [rg 43 [oB .eql 4 8,o1 42],cd 42 (sq [rg 44 [ol 5 1,oC 186 [44],oq (.cat (.c (.aF [43,40])) (.s 45)),oq (.cat (.s 46) (.c (.aF [41]))),o1 2],.ret]) (sq [rg 49 [oB .eql 4 9,o1 48],cd 48 (sq [rg 50 [ol 5 1,oC 186 [50],oq (.cat (.c (.aF [38,40])) (.s 51)),oq (.cat (.s 52) (.c (.aF [41]))),o1 2],.ret]) (sq [rg 55 [oB .eql 4 10,o1 54],cd 54 (sq [rg 56 [ol 5 1,oC 188 [56],o1 2],.ret]) (sq [rg 59 [oB .eql 4 11,o1 58],ci 58 (sq [dg 60 [of 2 1,mM [1],no,oq (.cat (.s 61) (.c (.aF [61]))),ol 5 1,oC 187 [63],oq (.cat (.s 62) (.s 64)),o1 2],.ret])])])])])])])])])])])],rg 2 [oz 1],.ret]) [.tmp 2] 66:=aW func121
def ae8:aT prog 185 (sq [rg 2 [od (U 1) (.gf 5 (.s 0)),oz 1],rg 3 [fo 3 1,nL,oq (.jG (.func 236) [] [(.s 1)]),oC 235 [5,6],o1 2],.ret]) [.tmp 2] 8:=aW func185 ⟨[1],[]⟩
def ae9:aT prog 186 (sq [rg 2 [od (U 1) (.gf 5 (.s 0)),oz 1],rg 3 [fo 4 1,nL,oq (.jG (.func 237) [] [(.s 1)]),oC 235 [5,6],o1 2],.ret]) [.tmp 2] 8:=aW func186 ⟨[1],[]⟩
def ae_:aT prog 187 (sq [rg 2 [ox 1 5 0,oz 1],sq [rg 3 [fo 4 1,nL,nB .eql 0],cr 6 2 [oz 1]],rg 7 [fo 4 1,nI 5 0,nl 5,oC 121 [10],o1 2],.ret]) [.tmp 2] 12:=aW func187
def ae':aT prog 188 (sq [rg 2 [ox 1 5 0,oz 1],rg 4 [ol 5 1,oC 186 [4],oq (.cat (.c (.aF [91])) (.s 5)),o1 3],sq [rg 7 [fo 3 1,nL,nB .gtr 0],ci 10 (rg 11 [om 3,ol 5 1,oC 185 [12],oq (.cat (.c (.aF [124])) (.s 13)),oq (.cat (.s 11) (.s 14)),o1 3])],rg 16 [om 3,oq (.cat (.s 16) (.c (.aF [93]))),o1 2],.ret]) [.tmp 2] 18:=aW func188
def afG:aT prog 235 (sq [rg 4 [oz 1],rg 5 [oz 6],sq [rg 7 [om 0,oi 0],lp 7 0 (sq [rg 10 [om 8,o1 6],sq [rg 11 [om 6,nB .gtr 0],ci 12 (rg 13 [om 5,oq (.kf 1 [(.c (.int .u8 44))]),na 1 13,o1 5])],rg 16 [om 5,om 1,om 6,oq (.il (.s 17) [(.s 18)]),oq (.mu (.s 16) (.s 19)),o1 5]]) 21],rg 22 [om 5,oq (.sI (.s 22)),o1 4],.ret]) [.tmp 4] 24:=aW func235
def afH:aT prog 236 (sq [rg 3 [oz 1],rg 4 [fo 3 1,om 0,nA 2 5,nF 0,o1 3],.ret]) [.tmp 3] 10:=aW func236
def afI:aT prog 237 (sq [rg 3 [oz 1],rg 4 [fo 4 1,om 0,nA 5 5,nl 5,oC 121 [8],o1 3],.ret]) [.tmp 3] 10:=aW func237
def LL(n:Nat)(g:FuncId)(cap:List V)(f:Nat->List UInt8)(Z:ag)(i Y:Nat):St :=
 ⟨[.int .i64 (n:Nat),.fn (.func g) [] cap,.any,.any,.any,.sl (.tk Y) 1 (de (cB ((bU i).map f))),.any,.int .i64 (n:Nat),.int .i64 (i:Nat)]++au 15 .any,[],Z.aY Y (cB ((bU i).map f)).length⟩
def Vx(f:Nat->List UInt8)(i:Nat):cB ((bU (i+1)).map f)=cB ((bU i).map f)++(if 0<i then [44] else [])++f i:=by
 rw[qz,f_,EW,Th];simp
def apf(f:Nat->List UInt8){n:Nat}(h:i<=n):(cB ((bU i).map f)).length<=(cB ((bU n).map f)).length:=by
 induction n with
 | zero =>
  have:i=0:=by omega
  rw[this];exact bP _
 | succ n ih =>
  by_cases hi:i=n+1
  .rw[hi];exact bP _
  .have:=ih (by omega)
   rw[Vx];simp only[bN];omega
def Ql{n:Nat}{f:Nat->List UInt8}(n8:bK cap=aa)(hn:n<=aO)(hb:(cB ((bU n).map f)).length<=aO)
 (h:∀i,i<n->∀cN:ag,cN.box=Z.box->cg prog g (.int .i64 (i:Nat)::cap) cN λv σ' => v = .aF (f i)/\σ' = cN) :
 a_ 235 [.int .i64 (n:Nat),.fn (.func g) [] cap] Z (.aF (cB ((bU n).map f))):=by
 refine afG.aS ?_;simp only[aR,am,a8,Nat.reduceAdd];refine iG (λp:{p:Nat × Nat // Z.aK p.2=af/\p.1<=n}=>LL n g cap f Z p.1.1 p.1.2) (λp=>n - p.1.1) ?_ ?_
 .refine bq.Ax 0 λY br=>⟨⟨(0,Y),br,by simp⟩,?_,rfl,rfl⟩
  simp[LL,au,o5,cB,de]
 .rintro⟨⟨i,Y⟩,br,hi⟩;simp only at br hi;simp only[LL,au,am];refine e9 ?_ ?_
  .intro aB;have aB:i<n:=by simpa using aB
   have hs:=Vx f i;have hm:=apf f (i:=i+1) (n:=n) (by omega);simp only[aO] at hn hb;rw[hs] at hm;simp only[bN] at hm;have wi:IntKind.i64.wrap ((i:Int)+1)=(i:Int)+1:=wrap_i64 (by omega) (by omega);simp only[am]
   by_cases h0:0<i
   case' pos =>
    rw[aE h0] at hs hm;simp only[am,aQ (show(0:Int)<i by omega)];refine jP (by simp[iS,aO];simp at hm;omega) (by rw[iS,iZ]) ?_;simp only[am,jr];rw[show de (cB ((bU i).map f))++[[.int .u8 44]]=de (cB ((bU i).map f)++[44]) by simp[de],show(de (cB ((bU i).map f))).length+1=(cB ((bU i).map f)++[44]).length by simp[de]]
   case' neg =>
    rw[aC h0,eD] at hs;rw[aC h0] at hm;simp only[am,aM (show ¬(0:Int)<i by omega)]
   all_goals
    refine⟨n8,?_⟩;refine(h i aB (Z.aY Y _) rfl).mono ?_;rintro v σ' ⟨rfl,rfl⟩;simp only[am,cF];refine⟨_,rfl,?_⟩;refine jP (by simp[iS,aO];simp at hm;omega) (by rw[iS,iZ]) ?_;simp only[am,jr,wi];rw[<-CV,iS,iS,<-bN,<-hs];exact bq.again ⟨(i+1,Y),br,aB⟩ (by simp;omega) (by simp[am]) cm.rfl bL.rfl
  .intro aB;have aB:i=n:=by simp at aB;omega
   subst aB;simp only[am,cF];refine⟨_,_,rfl,?_⟩;refine aP rfl (so br) ⟨?_,rfl⟩;simp[V.erase]
def alV{n:Nd}(hi:i<n.aj.length)(hq:Z.box q=U n.enc):a_ 236 [.int .i64 (i:Nat),.ptr (.out q) 0] Z (.aF (n.aj[i].an)):=by
 refine afH.aS ?_;simp only[aR,am,a8,Nat.reduceAdd];simp only[am,hq,Nd.fl];refine ix (qx (show n.aj[i]?=U n.aj[i] by simp[hi])) ?_;simp only[am,aA.enc];exact rt
def ajW{n:Nd}(hi:i<n.ah.length)(hq:Z.box q=U n.enc)(ih:∀m∈n.ah,∀Z,a_ 121 [.agg m.enc] Z (.aF m.dc)):
 a_ 237 [.int .i64 (i:Nat),.ptr (.out q) 0] Z (.aF (n.ah[i].dc)):=by
 refine afI.aS ?_;simp only[aR,am,a8,Nat.reduceAdd];simp only[am,hq,Nd.fl];refine ix (mb (show n.ah[i]?=U n.ah[i] by simp[hi])) ?_;simp only[am,Nd.al];refine cl (ih n.ah[i] (fh hi) Z) ?_;simp only[am];exact rt
def Vw(l:List α)(f:α->List UInt8)(d:List UInt8):(bU l.length).map (λi=>if h:i<l.length then f l[i] else d)=l.map f:=by
 apply OU;intro i
 by_cases h:i<l.length<;>simp[h]
def Mu{n:Nd}(hw:n.wt<=aO):a_ 185 [.agg n.enc] Z (.aF (ia n.aj)):=by
 have h1:=EI n.aj;have h2:n.aj.length<=eK n.aj:=by
  unfold eK;generalize n.aj=l;induction l with
  | nil=>simp
  | cons w ws ih=>simp only[b8,nM,dd];omega
 have h3:eK n.aj<=n.wt:=by cases n;simp only[Nd.wt,Nd.aj];omega
 have e:cB ((bU n.aj.length).map (λi=>if h:i<n.aj.length then n.aj[i].an else []))=ia n.aj:=by
  rw[Vw n.aj (λw=>w.an) []];rfl
 refine ae8.aS ?_;simp only[aR,am,a8,Nat.reduceAdd,Nd.al];refine j1 λq hq=>?_
 simp only[am,aN,Nd.fl];refine(Ql (f:=λi=>if h:i<n.aj.length then n.aj[i].an else []) rfl (by omega) (by rw[e];omega) (λi hi cN h1=>?_)).mono ?_
 .rw[CT hi];exact alV hi (by rw[h1];exact ag.d_ _ _ _)
 rintro v σ' ⟨rfl,rfl⟩;simp only[am];refine aP rfl (h_ hq) ⟨?_,rfl⟩;rw[e];simp[V.erase]
def DN{n:Nd}(hw:n.wt<=aO)(ih:∀m∈n.ah,∀Z,a_ 121 [.agg m.enc] Z (.aF m.dc)):a_ 186 [.agg n.enc] Z (.aF (cB (dO n.ah))):=by
 have h1:=G5 n.ah (Az n.ah);have h2:n.ah.length<=ft n.ah:=by
  rw[EJ];generalize n.ah=l;induction l with
  | nil=>simp
  | cons w ws ih=>simp only[b8,nM,dd];omega
 have h3:ft n.ah<=n.wt:=by cases n;simp only[Nd.wt,Nd.ah];omega
 have e:cB ((bU n.ah.length).map (λi=>if h:i<n.ah.length then n.ah[i].dc else []))=cB (dO n.ah):=by
  rw[Vw n.ah (λw=>w.dc) [],AA]
 refine ae9.aS ?_;simp only[aR,am,a8,Nat.reduceAdd,Nd.al];refine j1 λq hq=>?_
 simp only[am,aN,Nd.fl];refine(Ql (f:=λi=>if h:i<n.ah.length then n.ah[i].dc else []) rfl (by omega) (by rw[e];omega) (λi hi cN h1=>?_)).mono ?_
 .rw[CT hi];exact ajW hi (by rw[h1];exact ag.d_ _ _ _) ih
 rintro v σ' ⟨rfl,rfl⟩;simp only[am];refine aP rfl (h_ hq) ⟨?_,rfl⟩;rw[e];simp[V.erase]
def Q9{n:Nd}(ih:∀m∈n.ah,∀Z,a_ 121 [.agg m.enc] Z (.aF m.dc)):a_ 187 [.agg n.enc] Z (.aF (qd (dO n.ah))):=by
 refine ae_.aS ?_;simp only[aR,am,a8,Nat.reduceAdd,Nd.al];simp only[am,aN,Nd.fl];cases hk:n.ah with
 | nil =>
  simp only[am,bM,eR,eM,wW];refine aU ?_;simp[V.erase,qd,dO]
 | cons m ms =>
  simp only[am,aM (show ¬(((m::ms).length:Nat):Int)=0 by simp;omega),Nd.fl,hk];refine xT (c:=m.enc) (by simp) ?_;simp only[am,Nd.al];refine cl (ih m (by rw[hk];simp) Z) ?_;simp only[am];refine aU ?_;simp[V.erase,qd,dO]
def apJ{n:Nd}(hw:n.wt<=aO)(ih:∀m∈n.ah,∀Z,a_ 121 [.agg m.enc] Z (.aF m.dc)):
 a_ 188 [.agg n.enc] Z (.aF (([91]++cB (dO n.ah))++(if 0<n.aj.length then [124]++ia n.aj else [])++[93])):=by
 have h1:=G5 n.ah (Az n.ah);have h2:=EI n.aj;have h3:ft n.ah+eK n.aj+4<=n.wt:=by cases n;simp only[Nd.wt,Nd.ah,Nd.aj];omega
 refine ae'.aS ?_;simp only[aR,am,a8,Nat.reduceAdd,Nd.al];refine cl (DN hw ih) ?_;simp only[am];refine⟨by simp;omega,?_⟩;simp only[am,aN,Nd.fl]
 by_cases h0:0<n.aj.length
 .simp only[am,Nd.al,aQ (show(0:Int)<n.aj.length by omega)];refine cl (Mu hw) ?_;simp only[am];refine⟨by simp;omega,by simp;omega,by simp;omega,?_⟩;refine aU ?_;simp[V.erase,h0]
 .simp only[am,aM (show ¬(0:Int)<n.aj.length by omega)];refine⟨by simp;omega,?_⟩;refine aU ?_;simp[V.erase,h0]
def arw:∀(k:Nat) (n:Nd) (Z:ag),n.wt<=k->n.wt<=aO->a_ 121 [.agg n.enc] Z (.aF n.dc):=by
 intro k;induction k with
 | zero=>intro n Z h _;cases n;simp only[Nd.wt] at h;omega
 | succ k s7 =>
  intro n Z hk hw;have ih:∀m∈n.ah,∀Z,a_ 121 [.agg m.enc] Z (.aF m.dc):=λm hm Z=>by
   have h1:=Iq hm;have h2:ft n.ah+4<=n.wt:=by cases n;simp only[Nd.wt,Nd.ah];omega
   exact s7 m Z (by omega) (by omega)
  have h1:=G5 n.ah (Az n.ah);have h2:=EI n.aj;have h3:n.an.length+ft n.ah+eK n.aj+4<=n.wt:=by cases n;simp only[Nd.wt,Nd.ah,Nd.aj,Nd.an];omega
  have h4:=Sq n.ah (Az n.ah);have e:n.dc=if n.kind=1\/n.kind=2 then n.an else if n.kind=3 then [123]++ia n.aj++[125] else if n.kind=4 then [40]++cB (dO n.ah)++[41] else if n.kind=5 then [91]++cB (dO n.ah)++[93]
   else if n.kind=6 then n.an++[58,123]++ia n.aj++[125] else if n.kind=7 then [35]++qd (dO n.ah) else if n.kind=8 then [43,40]++cB (dO n.ah)++[41] else if n.kind=9 then [38,40]++cB (dO n.ah)++[41]
   else if n.kind=10 then([91]++cB (dO n.ah))++(if 0<n.aj.length then [124]++ia n.aj else [])++[93] else if n.kind=11 then n.an++[61]++qd (dO n.ah) else []:=by cases n;rw[Nd.dc];rfl
  rw[e];refine aex.aS ?_;simp only[aR,am,a8,Nat.reduceAdd,Nd.al];simp only[am,Nd.fl]
  by_cases k1:n.kind=1
  .simp only[am,aQ k1,Nd.fl];refine aU ?_;simp[V.erase,k1]
  simp only[am,aM k1]
  by_cases k2:n.kind=2
  .simp only[am,aQ k2,Nd.fl];refine aU ?_;simp[V.erase,k2]
  simp only[am,aM k2]
  by_cases k3:n.kind=3
  .simp only[am,Nd.al,aQ k3];refine cl (Mu hw) ?_;simp only[am];refine⟨by simp;omega,by simp;omega,?_⟩;refine aU ?_;simp[V.erase,k3]
  simp only[am,aM k3]
  by_cases k4:n.kind=4
  .simp only[am,Nd.al,aQ k4];refine cl (DN hw ih) ?_;simp only[am];refine⟨by simp;omega,by simp;omega,?_⟩;refine aU ?_;simp[V.erase,k4]
  simp only[am,aM k4]
  by_cases k5:n.kind=5
  .simp only[am,Nd.al,aQ k5];refine cl (DN hw ih) ?_;simp only[am];refine⟨by simp;omega,by simp;omega,?_⟩;refine aU ?_;simp[V.erase,k5]
  simp only[am,aM k5]
  by_cases k6:n.kind=6
  .simp only[am,Nd.al,aQ k6,Nd.fl];refine⟨by simp;omega,?_⟩;refine bJ.intro (Mu hw) ?_;simp only[am,Nd.fl];refine⟨by simp;omega,by simp;omega,?_⟩;refine aU ?_;simp[V.erase,k6]
  simp only[am,aM k6]
  by_cases k7:n.kind=7
  .simp only[am,Nd.al,aQ k7];refine cl (Q9 ih) ?_;simp only[am];refine⟨by simp;omega,?_⟩;refine aU ?_;simp[V.erase,k7]
  simp only[am,aM k7]
  by_cases k8:n.kind=8
  .simp only[am,Nd.al,aQ k8];refine cl (DN hw ih) ?_;simp only[am];refine⟨by simp;omega,by simp;omega,?_⟩;refine aU ?_;simp[V.erase,k8]
  simp only[am,aM k8]
  by_cases k9:n.kind=9
  .simp only[am,Nd.al,aQ k9];refine cl (DN hw ih) ?_;simp only[am];refine⟨by simp;omega,by simp;omega,?_⟩;refine aU ?_;simp[V.erase,k9]
  simp only[am,aM k9]
  by_cases zP:n.kind=10
  .simp only[am,Nd.al,aQ zP];refine cl (apJ hw ih) ?_;simp only[am];refine aU ?_;simp[V.erase,zP]
  simp only[am,aM zP]
  by_cases G1:n.kind=11
  .simp only[am,Nd.al,aQ G1,Nd.fl];refine⟨by simp;omega,?_⟩;refine bJ.intro (Q9 ih) ?_;simp only[am,Nd.fl];refine⟨by simp;omega,?_⟩;refine aU ?_;simp[V.erase,G1]
  simp only[am,aM G1];refine aU ?_;simp[V.erase,k1,k2,k3,k4,k5,k6,k7,k8,k9,zP,G1]
def ae5:aT prog 182 (sq [rg 2 [ox 1 5 0,oz 2],sq [rg 3 [fo 0 1],.block 0 (sq [rg 6 [oB .eql 4 1,o1 5],cd 5 (sq [rg 7 [ol 5 1,oC 227 [7],o1 2],.ret]) (sq [rg 10 [oB .eql 4 7,o1 9],cd 9 (sq [rg 11 [ol 5 1,oC 228 [11],gA,fo 4 1,nL,nB .eql 1,gZ,gA,fo 4 1,nI 5 0,nl 5,oC 229 [23],gZ,o1 2],.ret]) (sq [sq [rg 27 [oB .eql 4 8,o1 26],cd 26 .skip (rg 28 [oB .eql 4 9,o1 26])],cr 26 29 [ol 5 1,oC 228 [29],gA,fo 4 1,nL,nB .gtr 0,gZ,gA,fo 4 1,oc 230 [.s 39,.c (.fn (.func 182) [] [])],gZ,o1 2]])])])],rg 2 [oz 2],.ret]) [.tmp 2] 42:=aW func182
def afv:aT prog 225 (sq [rg 2 [ox 1 5 0,oz 2],sq [rg 3 [fo 0 1,nB .eql 10],cr 5 6 [fo 2 1,oq (.mW .eql (.s 7) (.c (.aF []))),gA,fo 3 1,nL,nB .leq 1,gZ,gA,fo 3 1,oC 273 [17],gZ,gA,fo 4 1,oc 230 [.s 22,.c (.fn (.func 274) [] [])],gZ,o1 2]],rg 25 [fo 0 1,nB .eql 1,gA,ol 5 1,oC 182 [29],gZ,o1 2],.ret]) [.tmp 2] 32:=aW func225
def afx:aT prog 227 (sq [rg 2 [ox 1 5 0,oz 2],rg 3 [fo 2 1,oC 161 [4],gA,fo 3 1,nL,fo 4 1,nL,nb .add 9,nB .eql 0,gZ,o1 2],.ret]) [.tmp 2] 16:=aW func227
def afy:aT prog 228 (sq [rg 2 [ox 1 5 0,oz 2],rg 3 [fo 2 1,oq (.mW .eql (.s 4) (.c (.aF []))),gA,fo 3 1,nL,nB .eql 0,gZ,o1 2],.ret]) [.tmp 2] 12:=aW func228
def afz:aT prog 229 (sq [rg 2 [ox 1 5 0,oz 2],sq [rg 3 [fo 0 1],.block 0 (sq [rg 6 [oB .eql 4 2,o1 5],cd 5 (sq [rg 7 [ol 5 1,oC 227 [7],o1 2],.ret]) (sq [rg 10 [oB .eql 4 3,o1 9],cd 9 (sq [rg 11 [fo 2 1,oq (.mW .eql (.s 12) (.c (.aF []))),gA,fo 3 1,oC 273 [16],gZ,gA,fo 4 1,nL,nB .eql 0,gZ,o1 2],.ret]) (sq [rg 26 [oB .eql 4 4,o1 25],cd 25 (sq [rg 27 [ol 5 1,oC 228 [27],gA,fo 4 1,nL,nB .gtr 0,gZ,gA,fo 4 1,oc 230 [.s 37,.c (.fn (.func 229) [] [])],gZ,o1 2],.ret]) (sq [rg 41 [oB .eql 4 5,o1 40],cr 40 42 [ol 5 1,oC 228 [42],gA,fo 4 1,oc 230 [.s 46,.c (.fn (.func 275) [] [])],gZ,o1 2]])])])])],rg 2 [oz 2],.ret]) [.tmp 2] 49:=aW func229
def afB:aT prog 230 (sq [rg 4 [oz 2],sq [rg 7 [om 0,nL,oi 0],lp 8 0 (sq [rg 11 [oA 5 7 9,nl 5,oZ 6 [0,0,1,7,10],o2 5 6],rg 13 [om 1,ol 5 6,oq (.il (.s 13) [(.s 14)]),nn],cr 16 4 [oz 2]]) 17],rg 4 [oq (.mv (.c (.bool aa)))],.ret]) [.tmp 4] 18:=aW func230
def af':aT prog 273 (sq [rg 2 [oz 2],sq [rg 5 [om 0,nL,oi 0],lp 6 0 (sq [rg 9 [oA 2 5 7,nl 2,oZ 4 [1,0],o2 2 4],rg 11 [fo 0 4,oC 161 [12],nn],cr 14 2 [oz 2]]) 15],rg 2 [oq (.mv (.c (.bool aa)))],.ret]) [.tmp 2] 16:=aW func273
def aga:aT prog 274 (sq [rg 2 [ox 1 5 0,oz 2],rg 3 [fo 0 1,nB .eql 11,gA,fo 2 1,oC 161 [8],gZ,gA,fo 3 1,nL,nB .eql 0,gZ,gA,fo 4 1,nL,nB .eql 1,gZ,gA,fo 4 1,nI 5 0,nl 5,oC 296 [27],gZ,o1 2],.ret]) [.tmp 2] 30:=aW func274
def agb:aT prog 275 (sq [rg 2 [ox 1 5 0,oz 2],rg 3 [fo 0 1,nB .eql 6,gA,fo 2 1,oC 161 [8],gZ,gA,fo 3 1,oC 273 [13],gZ,gA,fo 4 1,nL,nB .eql 0,gZ,o1 2],.ret]) [.tmp 2] 22:=aW func275
def agu:aT prog 296 (sq [rg 2 [ox 1 5 0,oz 2],rg 3 [fo 0 1,nB .eql 1,gB,fo 0 1,nB .eql 7,gZ,gA,ol 5 1,oC 182 [12],gZ,o1 2],.ret]) [.tmp 2] 15:=aW func296
def XK{l:List α}{f:α->Bool}(h:i<l.length):(l.take (i+1)).all f=((l.take i).all f&&f l[i]):=by
 rw[Ew (cL h),IE];simp only[tT,OM,vp]
def Ps{l:List α}{f:α->Bool}(h:i<l.length)(hf:f l[i]=ak):l.all f=false:=by
 rw[IF];exact⟨l[i],fh h,by simp[hf]⟩
def LH(l:List aA)(Z:ag)(i:Nat):St :=
 ⟨[.sl .no 2 (l.map aA.enc)]++au 4 .any++[.sl .no 2 (l.map aA.enc),.int .i64 l.length,.int .i64 (i:Nat)]++au 8 .any,[],Z⟩
def Nj(l:List aA)(Z:ag)(hb:l.length<=aO):a_ 273 [.sl .no 2 (l.map aA.enc)] Z (.bool (hZ l)):=by
 simp only[aO] at hb;refine af'.aS ?_;simp only[aR,am,a8,Nat.reduceAdd];refine iG (λp:{i:Nat // i<=l.length/\(l.take i).all (λw=>dG w.an)=aa}=>LH l Z p.1) (λp=>l.length - p.1) ?_ ?_
 .refine bq.enter ⟨0,by simp,by simp⟩ ?_ cm.rfl bL.rfl;simp[LH,au,am]
 .rintro⟨i,hi,ha⟩;simp only[LH,au,am];refine e9 ?_ ?_
  .intro aB;have aB:i<l.length:=by simpa using aB
   simp only[am];refine ix (qx (cL aB)) ?_;simp only[am,Nat.reduceAdd,aA.enc];refine cl (tm l[i].an Z) ?_;cases hg:dG l[i].an
   .simp only[am];refine aP rfl (ag.bc _) ⟨?_,rfl⟩;rw[show hZ l=ak from Ps (f:=λ(w:aA)=>dG w.an) aB hg];rfl
   .simp only[am];rw[wrap_i64];exact bq.ud ⟨i+1,aB,by rw[XK aB,ha,hg];rfl⟩ (by simp;omega) (by simp[am]) (by simp[am]) bL.rfl rfl rfl
  .intro aB;have aB:i=l.length:=by simp at aB;omega
   subst aB;rw[eN] at ha;simp only[am];refine aU ?_;simp[V.erase,hZ,ha]
def LI(g:FuncId)(l:List Nd)(Z:ag)(i:Nat):St :=
 ⟨[.sl .no 5 (l.map Nd.enc),.fn (.func g) [] []]++au 5 .any++[.sl .no 5 (l.map Nd.enc),.int .i64 l.length,.int .i64 (i:Nat)]++au 8 .any,[],Z⟩
def Fl{f:Nd->Bool}(l:List Nd)(Z:ag)(hb:l.length<=aO)(h:∀n∈l,a_ g [.agg n.enc] Z (.bool (f n))):a_ 230 [.sl .no 5 (l.map Nd.enc),.fn (.func g) [] []] Z (.bool (l.all f)):=by
 simp only[aO] at hb;refine afB.aS ?_;simp only[aR,am,a8,Nat.reduceAdd];refine iG (λp:{i:Nat // i<=l.length/\(l.take i).all f=aa}=>LI g l Z p.1) (λp=>l.length - p.1) ?_ ?_
 .refine bq.enter ⟨0,by simp,by simp⟩ ?_ cm.rfl bL.rfl;simp[LI,au,am]
 .rintro⟨i,hi,ha⟩;simp only[LI,au,am];refine e9 ?_ ?_
  .intro aB;have aB:i<l.length:=by simpa using aB
   simp only[am];refine ix (mb (cL aB)) ?_;simp only[am,Nd.al];refine cl (h l[i] (fh aB)) ?_;cases hg:f l[i]
   .simp only[am];refine aU ?_;simp[V.erase,Ps aB hg]
   .simp only[am];rw[wrap_i64];exact bq.ud ⟨i+1,aB,by rw[XK aB,ha,hg];rfl⟩ (by simp;omega) (by simp[am]) (by simp[am]) bL.rfl rfl rfl
  .intro aB;have aB:i=l.length:=by simp at aB;omega
   subst aB;rw[eN] at ha;simp only[am];refine aU ?_;simp[V.erase,ha]
def sv:=ae @am <| ae @a8 <| ae @Nd.al @Nd.fl
def iH:=ae @am <| ae @pn <| ae @cF <| ae @kh <| ae @bM <| ae @fk <| ae @ar.al <| ae @Nd.al <| ae @aA.al <| ae @cf.al @Nd.fl
def TB(n:Nd)(Z:ag)(hb:n.aj.length+n.ah.length<=aO):a_ 227 [.agg n.enc] Z (.bool n.kr):=by
 simp only[aO] at hb;refine afx.aS ?_;simp only[aR,sv,Nat.reduceAdd];refine cl (tm n.an Z) ?_;simp only[am]
 repeat' (first
  | (refine kP (λh=>?_) (λh=>?_)<;>simp only[am,h,aN,Nd.fl,wrap_i64 (x:=(n.aj.length:Int)+n.ah.length) (by omega) (by omega)])
  | (refine e9 (λh=>?_) (λh=>?_)<;>simp only[iH,h,Nat.reduceAdd,Nat.reduceEqDiff,aN,wrap_i64 (x:=(n.aj.length:Int)+n.ah.length) (by omega) (by omega)])
  | (refine la (λh=>?_) (λh=>?_)<;>simp only[iH,h,Nat.reduceAdd,Nat.reduceEqDiff,aN,wrap_i64 (x:=(n.aj.length:Int)+n.ah.length) (by omega) (by omega)])
 )
 all_goals refine aU ?_
 all_goals simp_all [V.erase,Nd.kr]
 all_goals (try omega)
def Fy(n:Nd)(Z:ag):a_ 228 [.agg n.enc] Z (.bool n.kJ):=by
 refine afy.aS ?_;simp only[aR,sv,Nat.reduceAdd]
 repeat' (first
  | (refine kP (λh=>?_) (λh=>?_)<;>simp only[am,h,aN,Nd.fl])
  | (refine e9 (λh=>?_) (λh=>?_)<;>simp only[iH,h,Nat.reduceAdd,Nat.reduceEqDiff,aN])
  | (refine la (λh=>?_) (λh=>?_)<;>simp only[iH,h,Nat.reduceAdd,Nat.reduceEqDiff,aN])
 )
 all_goals refine aU ?_
 all_goals simp_all [V.erase,Nd.kJ]
 all_goals (try omega)
def AI(n:Nd):n.aj.length+n.ah.length+4<=n.wt:=by
 have h2:n.aj.length<=eK n.aj:=by
  unfold eK;generalize n.aj=l;induction l with
  | nil=>simp
  | cons w ws ih=>simp only[b8,nM,dd];omega
 have h3:n.ah.length<=ft n.ah:=by
  rw[EJ];generalize n.ah=l;induction l with
  | nil=>simp
  | cons w ws ih=>simp only[b8,nM,dd];omega
 have h1:ft n.ah+eK n.aj+4<=n.wt:=by cases n;simp only[Nd.wt,Nd.ah,Nd.aj];omega
 omega
def apT(n:Nd)(Z:ag)(hw:n.wt<=aO):a_ 275 [.agg n.enc] Z (.bool n.pd):=by
 have hn:=AI n;refine agb.aS ?_;simp only[aR,sv,Nat.reduceAdd]
 repeat' (first
  | (refine kP (λh=>?_) (λh=>?_)<;>simp only[am,h,aN,Nd.fl])
  | (refine e9 (λh=>?_) (λh=>?_)<;>simp only[iH,h,Nat.reduceAdd,Nat.reduceEqDiff,aN])
  | (refine la (λh=>?_) (λh=>?_)<;>simp only[iH,h,Nat.reduceAdd,Nat.reduceEqDiff,aN])
  | (refine(tm n.an Z).mono ?_;rintro v _ ⟨rfl,rfl⟩;simp only[am])
  | (refine(Nj n.aj _ (by omega)).mono ?_;rintro v _ ⟨rfl,rfl⟩;simp only[am])
 )
 all_goals refine aU ?_
 all_goals simp_all [V.erase,Nd.pd]
 all_goals (try omega)
def Qt:∀(k:Nat) (n:Nd) (Z:ag),n.wt<=k->n.wt<=aO->a_ 229 [.agg n.enc] Z (.bool n.im):=by
 intro k;induction k with
 | zero=>intro n Z h _;cases n;simp only[Nd.wt] at h;omega
 | succ k s7 =>
  intro n Z hk hw;have hn:=AI n;have KU:∀m∈n.ah,m.wt+5<=n.wt:=λm hm=>by
   have h1:=Iq hm;have h2:ft n.ah+4<=n.wt:=by cases n;simp only[Nd.wt,Nd.ah];omega
   omega
  have dp:a_ 230 [.sl .no 5 (n.ah.map Nd.enc),.fn (.func 229) [] []] Z (.bool (n.ah.all Nd.im)) :=
   Fl n.ah Z (by omega) λm hm=>s7 m Z (by have:=KU m hm;omega) (by have:=KU m hm;omega)
  have ai1:a_ 230 [.sl .no 5 (n.ah.map Nd.enc),.fn (.func 275) [] []] Z (.bool (n.ah.all Nd.pd)) :=
   Fl n.ah Z (by omega) λm hm=>apT m Z (by have:=KU m hm;omega)
  rw[Nd.y5];refine afz.aS ?_;simp only[aR,sv,Nat.reduceAdd]
  by_cases k2:n.kind=2
  .simp only[am,Nd.al,aQ k2];refine cl (TB n Z (by omega)) ?_;simp only[am];refine aU ?_;simp[V.erase,k2]
  simp only[am,aM k2]
  by_cases k3:n.kind=3
  .simp only[am,Nd.fl,aQ k3]
   repeat' (first
    | (refine kP (λh=>?_) (λh=>?_)<;>simp only[am,h,aN,Nd.fl])
    | (refine e9 (λh=>?_) (λh=>?_)<;>simp only[iH,h,Nat.reduceAdd,Nat.reduceEqDiff,aN])
    | (refine la (λh=>?_) (λh=>?_)<;>simp only[iH,h,Nat.reduceAdd,Nat.reduceEqDiff,aN])
    | (refine(Nj n.aj _ (by omega)).mono ?_;rintro v _ ⟨rfl,rfl⟩;simp only[am])
   )
   all_goals refine aU ?_
   all_goals simp_all [V.erase]
   all_goals (try omega)
  simp only[am,aM k3]
  by_cases k4:n.kind=4
  .simp only[am,Nd.al,aQ k4];refine cl (Fy n Z) ?_;simp only[am]
   repeat' (first
    | (refine kP (λh=>?_) (λh=>?_)<;>simp only[am,h,aN,Nd.fl])
    | (refine e9 (λh=>?_) (λh=>?_)<;>simp only[iH,h,Nat.reduceAdd,Nat.reduceEqDiff,aN])
    | (refine la (λh=>?_) (λh=>?_)<;>simp only[iH,h,Nat.reduceAdd,Nat.reduceEqDiff,aN])
    | (refine dp.mono ?_;rintro v _ ⟨rfl,rfl⟩;simp only[am])
   )
   all_goals refine aU ?_
   all_goals simp_all [V.erase]
   all_goals (try omega)
  simp only[am,aM k4]
  by_cases k5:n.kind=5
  .simp only[am,Nd.al,aQ k5];refine cl (Fy n Z) ?_;simp only[am]
   repeat' (first
    | (refine kP (λh=>?_) (λh=>?_)<;>simp only[am,h,Nd.fl])
    | (refine e9 (λh=>?_) (λh=>?_)<;>simp only[iH,h,Nat.reduceAdd,Nat.reduceEqDiff,aN])
    | (refine la (λh=>?_) (λh=>?_)<;>simp only[iH,h,Nat.reduceAdd,Nat.reduceEqDiff,aN])
    | (refine ai1.mono ?_;rintro v _ ⟨rfl,rfl⟩;simp only[am])
   )
   all_goals refine aU ?_
   all_goals simp_all [V.erase]
   all_goals (try omega)
  simp only[am,aM k5];refine aU ?_;simp[V.erase,k2,k3,k4,k5]
def ng{n m:Nd}(hm:m∈n.ah):m.wt+5<=n.wt:=by
 have h1:=Iq hm;have h2:ft n.ah+4<=n.wt:=by cases n;simp only[Nd.wt,Nd.ah];omega
 omega
def DR:∀(k:Nat) (n:Nd) (Z:ag),n.wt<=k->n.wt<=aO->a_ 182 [.agg n.enc] Z (.bool n.eY):=by
 intro k;induction k with
 | zero=>intro n Z h _;cases n;simp only[Nd.wt] at h;omega
 | succ k s7 =>
  intro n Z hk hw;have hn:=AI n;have dp:a_ 230 [.sl .no 5 (n.ah.map Nd.enc),.fn (.func 182) [] []] Z (.bool (n.ah.all Nd.eY)) :=
   Fl n.ah Z (by omega) λm hm=>s7 m Z (by have:=ng hm;omega) (by have:=ng hm;omega)
  rw[Nd.s_];refine ae5.aS ?_;simp only[aR,sv,Nat.reduceAdd]
  by_cases k1:n.kind=1
  .simp only[am,Nd.al,aQ k1];refine cl (TB n Z (by omega)) ?_;simp only[am];refine aU ?_;simp[V.erase,k1]
  simp only[am,aM k1]
  by_cases k7:n.kind=7
  .simp only[am,Nd.al,aQ k7];refine cl (Fy n Z) ?_;simp only[am];cases fP:n.ah with
   | nil =>
    simp only[am,eM,wW,show decide ((0:Int)=1)=ak from rfl]
    repeat' (first
     | (refine kP (λh=>?_) (λh=>?_)<;>simp only[am,h,Nd.fl,fP,eR,eM,wW,show decide ((0:Int)=1)=ak from rfl])
     | (refine e9 (λh=>?_) (λh=>?_)<;>simp only[iH,h,Nat.reduceAdd,Nat.reduceEqDiff,aN,fP,eR,eM,wW,show decide ((0:Int)=1)=ak from rfl])
     | (refine la (λh=>?_) (λh=>?_)<;>simp only[iH,h,Nat.reduceAdd,Nat.reduceEqDiff,aN,fP,eR,eM,wW,show decide ((0:Int)=1)=ak from rfl])
    )
    all_goals refine aU ?_
    all_goals simp_all [V.erase]
    all_goals (try omega)
   | cons m ms =>
    have hc:a_ 229 [.agg m.enc] Z (.bool m.im):=Qt _ m Z (bP _) (by have:=ng (n:=n) (m:=m) (by rw[fP];simp);omega)
    repeat' (first
     | (refine kP (λh=>?_) (λh=>?_)<;>simp only[am,h,aN,Nd.fl,fP])
     | (refine e9 (λh=>?_) (λh=>?_)<;>simp only[iH,h,Nat.reduceAdd,Nat.reduceEqDiff,aN,fP])
     | (refine la (λh=>?_) (λh=>?_)<;>simp only[iH,h,Nat.reduceAdd,Nat.reduceEqDiff,aN,fP])
     | (refine xT (c:=m.enc) (by simp) ?_;simp only[am,Nd.al])
     | (refine hc.mono ?_;rintro v _ ⟨rfl,rfl⟩;simp only[am])
    )
    all_goals refine aU ?_
    all_goals simp_all [V.erase,uF]
    all_goals (try omega)
  simp only[am,aM k7]
  by_cases k8:n.kind=8
  case' pos =>
   simp only[am,Nd.al,aQ k8]
  case' neg =>
   simp only[am,aM k8]
   by_cases k9:n.kind=9
   case' pos =>
    simp only[am,Nd.al,aQ k9]
   case' neg =>
    simp only[am,aM k9];refine aU ?_;simp[V.erase,k1,k7,k8,k9]
  all_goals
   refine cl (Fy n Z) ?_;simp only[am]
   repeat' (first
    | (refine kP (λh=>?_) (λh=>?_)<;>simp only[am,h,aN,Nd.fl])
    | (refine e9 (λh=>?_) (λh=>?_)<;>simp only[iH,h,Nat.reduceAdd,Nat.reduceEqDiff,aN])
    | (refine la (λh=>?_) (λh=>?_)<;>simp only[iH,h,Nat.reduceAdd,Nat.reduceEqDiff,aN])
    | (refine dp.mono ?_;rintro v _ ⟨rfl,rfl⟩;simp only[am])
   )
   all_goals refine aU ?_
   all_goals simp_all [V.erase]
   all_goals (try omega)
def Ze(n:Nd)(Z:ag)(hw:n.wt<=aO):a_ 296 [.agg n.enc] Z (.bool n.po):=by
 refine agu.aS ?_;simp only[aR,sv,Nat.reduceAdd]
 repeat' (first
  | (refine kP (λh=>?_) (λh=>?_)<;>simp only[am,h,Nd.al,Nd.fl])
  | (refine e9 (λh=>?_) (λh=>?_)<;>simp only[iH,h,Nat.reduceAdd,Nat.reduceEqDiff,aN])
  | (refine la (λh=>?_) (λh=>?_)<;>simp only[iH,h,Nat.reduceAdd,Nat.reduceEqDiff,aN])
  | (refine(DR _ n _ (bP _) hw).mono ?_;rintro v _ ⟨rfl,rfl⟩;simp only[am])
 )
 all_goals refine aU ?_
 all_goals simp_all [V.erase,Nd.po]
 all_goals (try omega)
def adW(n:Nd)(Z:ag)(hw:n.wt<=aO):a_ 274 [.agg n.enc] Z (.bool n.ly):=by
 refine aga.aS ?_;simp only[aR,sv,Nat.reduceAdd];cases fP:n.ah with
 | nil =>
  repeat' (first
   | (refine kP (λh=>?_) (λh=>?_)<;>simp only[am,h,aN,Nd.fl,fP,eR,eM,wW,show decide ((0:Int)=1)=ak from rfl])
   | (refine e9 (λh=>?_) (λh=>?_)<;>simp only[iH,h,Nat.reduceAdd,Nat.reduceEqDiff,aN,fP,eR,eM,wW,show decide ((0:Int)=1)=ak from rfl])
   | (refine la (λh=>?_) (λh=>?_)<;>simp only[iH,h,Nat.reduceAdd,Nat.reduceEqDiff,aN,fP,eR,eM,wW,show decide ((0:Int)=1)=ak from rfl])
   | (refine(tm n.an _).mono ?_;rintro v _ ⟨rfl,rfl⟩;simp only[am])
  )
  all_goals refine aU ?_
  all_goals simp_all [V.erase,Nd.ly,uF]
  all_goals (try omega)
 | cons m ms =>
  have hc:a_ 296 [.agg m.enc] Z (.bool m.po):=Ze m Z (by have:=ng (n:=n) (m:=m) (by rw[fP];simp);omega)
  repeat' (first
   | (refine kP (λh=>?_) (λh=>?_)<;>simp only[am,h,aN,Nd.fl,fP])
   | (refine e9 (λh=>?_) (λh=>?_)<;>simp only[iH,h,Nat.reduceAdd,Nat.reduceEqDiff,aN,fP])
   | (refine la (λh=>?_) (λh=>?_)<;>simp only[iH,h,Nat.reduceAdd,Nat.reduceEqDiff,aN,fP])
   | (refine(tm n.an _).mono ?_;rintro v _ ⟨rfl,rfl⟩;simp only[am])
   | (refine xT (c:=m.enc) (by simp) ?_;simp only[am,Nd.al])
   | (refine hc.mono ?_;rintro v _ ⟨rfl,rfl⟩;simp only[am])
  )
  all_goals refine aU ?_
  all_goals simp_all [V.erase,Nd.ly,uF]
  all_goals (try omega)
def VK(n:Nd)(Z:ag)(hw:n.wt<=aO):a_ 225 [.agg n.enc] Z (.bool n.iX):=by
 have hn:=AI n;have dp:a_ 230 [.sl .no 5 (n.ah.map Nd.enc),.fn (.func 274) [] []] Z (.bool (n.ah.all Nd.ly)) :=
  Fl n.ah Z (by omega) λm hm=>adW m Z (by have:=ng hm;omega)
 refine afv.aS ?_;simp only[aR,sv,Nat.reduceAdd]
 by_cases zP:n.kind=10
 .simp only[am,Nd.fl,aQ zP]
  repeat' (first
   | (refine kP (λh=>?_) (λh=>?_)<;>simp only[am,h,aN,Nd.fl])
   | (refine e9 (λh=>?_) (λh=>?_)<;>simp only[iH,h,Nat.reduceAdd,Nat.reduceEqDiff,aN])
   | (refine la (λh=>?_) (λh=>?_)<;>simp only[iH,h,Nat.reduceAdd,Nat.reduceEqDiff,aN])
   | (refine(Nj n.aj _ (by omega)).mono ?_;rintro v _ ⟨rfl,rfl⟩;simp only[am])
   | (refine dp.mono ?_;rintro v _ ⟨rfl,rfl⟩;simp only[am])
  )
  all_goals refine aU ?_
  all_goals simp_all [V.erase,Nd.iX]
  all_goals (try omega)
 .simp only[am,Nd.fl,aM zP]
  repeat' (first
   | (refine kP (λh=>?_) (λh=>?_)<;>simp only[am,h,Nd.al])
   | (refine e9 (λh=>?_) (λh=>?_)<;>simp only[iH,h,Nat.reduceAdd,Nat.reduceEqDiff,aN])
   | (refine la (λh=>?_) (λh=>?_)<;>simp only[iH,h,Nat.reduceAdd,Nat.reduceEqDiff,aN])
   | (refine(DR _ n _ (bP _) hw).mono ?_;rintro v _ ⟨rfl,rfl⟩;simp only[am])
  )
  all_goals refine aU ?_
  all_goals simp_all [V.erase,Nd.iX]
  all_goals (try omega)
def ae7:aT prog 184 (sq [rg 0 [ox 2 2 0,ox 3 5 1,oR 4 A_,oZ 5 [0,0]],rg 0 [oR 6 A_],rg 13 [ol 2 2,ol 5 3,oC 232 [13,14],o1 12,oe 12 0,oe 12 1,ot 7 16,o1 8],sq [rg 18 [om 8,nn,gB,ol 2 2,oC 233 [21],nn,gZ,gB,ol 5 3,oC 229 [26],nn,gZ],ci 29 (sq [dg 30 [ol 8 6,of 1 3,mM [1],no,oG [0,0] [(0,1,.c (.int .i64 4)),(1,1,.s 32)],os 8 4 30,o2 2 5],.ret])],rg 34 [oW [2,0] [],oq (.gf 2 (.s 34)),o1 9],sq [rg 36 [fo 1 2,nL,oi 0],lp 38 0 (sq [rg 41 [om 39,oA 67 37 39,nl 67,oR 11 qL,ot 10 41,o2 67 11],dg 44 [om 10,om 9,ol 67 11,om 7,om 10,nA 5 47,nl 5,oC 234 [45,46,50],oP 8 1 6 44,os 1 52 51]]) 53],sq [rg 54 [mk 9,nF 0],ci 57 (sq [dg 58 [oY A_ [],mk 9,nf 1,mM [1],no,oG [0,0] [(0,1,.c (.int .i64 4)),(1,1,.s 62)],os 8 4 58,o2 2 5],.ret])],rg 64 [ol 8 6,oW [0,0] [],os 8 4 64,o2 2 5],.ret]) [.cell 4 aa 8,.cell 5 aa 2] 66:=aW func184 ⟨[35],[]⟩
def afD:aT prog 232 (sq [rg 4 [ox 2 2 0,ox 3 5 1,oz 10,oz 2],sq [rg 6 [fo 0 2,nn],cr 8 9 [ol 5 3,n1 5,o1 4,oV 5 (.bool aa)]],dg 11 [fo 4 3,fo 0 3,nB .eql 4,gA,fo 4 3,nL,fo 1 2,nL,nb .eql 19,gZ,ot 4 12,o1 5],.ret]) [.tmp 4,.tmp 5] 25:=aW func232
def afF:aT prog 234 (sq [rg 6 [ox 4 67 1,ox 5 5 2,oz 4],sq [dg 7 [of 0 5,mM [1],no,ol 67 4,oC 277 [9],nb .neq 8],cr 11 12 [om 0,fo 1 5,oC 278 [12,14],o1 6]],sq [rg 16 [fo 0 4],.block 0 (sq [rg 19 [oB .eql 17 2,o1 18],cd 18 (sq [rg 20 [om 0,fo 1 4,fo 3 5,oC 279 [20,22,24],o1 6],.ret]) (sq [rg 27 [oB .eql 17 3,o1 26],cr 26 28 [om 0,ol 67 4,ol 5 5,oC 280 [28,29,30],o1 6]])])],rg 32 [om 0,ol 67 4,ol 5 5,oC 281 [32,33,34],o1 6],.ret]) [.tmp 6] 36:=aW func234
def agd:aT prog 277 (sq [rg 2 [ox 1 67 0,oi 0],sq [rg 3 [fo 0 1],.block 0 (sq [rg 6 [oB .eql 4 2,o1 5],cd 5 (sq [rg 2 [oi 3],.ret]) (sq [rg 8 [oB .eql 4 3,o1 7],cr 7 2 [oi 5]])])],rg 2 [oi 2],.ret]) [.tmp 2] 9:=aW func277
def age:aT prog 278 (sq [rg 4 [oz 4],sq [rg 5 [mk 0,nF 0,nn],ci 9 (rg 10 [om 0,om 0,om 1,ok 10,nf 0,od af (.store 1 (.s 14) (.c (.bool aa))),ok 11,nf 1,os 1 16 12])],rg 4 [oz 4],.ret]) [.tmp 4] 17:=aW func278
def agf:aT prog 279 (sq [rg 6 [oz 4],rg 7 [oz 4],sq [rg 11 [om 2,nL,oi 0],lp 12 0 (sq [rg 15 [oA 2 11 13,nl 2,oZ 9 [1,0],o2 2 9],rg 17 [om 1,fo 0 9,oC 173 [17,19],o1 10],sq [rg 21 [om 10,nB .lss 0],cr 22 23 [om 0,fo 1 9,oC 278 [23,25],o1 6]],rg 27 [om 7,om 10,oC 247 [27,28],o1 7]]) 30],rg 31 [om 7,o1 6],.ret]) [.tmp 6] 32:=aW func279
def agh:aT prog 280 (sq [rg 6 [ox 4 67 1,ox 5 5 2,oz 4],rg 7 [oz 4],sq [rg 11 [fo 4 5,nL,oi 0],lp 13 0 (sq [rg 16 [oA 5 12 14,nl 5,oZ 9 [0,0,1,7,10],o2 5 9],rg 18 [fo 1 4,fo 2 9,oC 173 [19,21],o1 10],sq [rg 23 [om 10,nB .lss 0],cr 24 25 [om 0,fo 1 9,oC 278 [25,27],o1 6]],dg 29 [om 7,of 2 4,mM [1],nl 65,om 10,om 0,fo 1 4,fo 3 9,oC 279 [33,35,37],oC 300 [31,32,38],nb .or 29,o1 7]]) 41],rg 42 [om 7,o1 6],.ret]) [.tmp 6] 43:=aW func280
def agi:aT prog 281 (sq [rg 6 [ox 4 67 1,ox 5 5 2,oz 4],rg 10 [fo 1 4,fo 2 5,oC 173 [11,13],o1 7],sq [rg 15 [om 7,nB .lss 0],cr 16 17 [om 0,fo 1 5,oC 278 [17,19],o1 6]],sq [rg 21 [fo 0 4,nB .eql 4],cr 23 24 [of 2 4,nl 65,om 7,oC 301 [25,26],o1 6]],rg 29 [fo 1 4,nL,om 7,oC 302 [31,32],o1 28,oe 28 0,oe 28 1,ot 8 34,o1 9],rg 36 [om 8,o1 6],.ret]) [.tmp 6] 37:=aW func281
abbrev BB(Z:ag)(b:Nat)(o:Option Int):Prop:=Z.box b=U (pq o)
def arM{b:Nat}{o:Option Int}(hg:TZ Z)(h:BB Z b o):TZ (Z.set b c):=hg
def HY(b:Nat)(o:Option Int)(p:Int)(h:BB Z b o):dt 278 [.ptr (.out b) 0,.int .i64 p] Z (.int .u64 ((0#64:bB).toNat:Nat)) (Z.set b (pq (o.or (U p)))):=by
 refine age.aS ?_;simp only[aR,am,a8,Nat.reduceAdd,tM];cases o with
 | none =>
  simp only[am,show Z.box b=U [.bool ak,.int .i64 0] from h];exact aP rfl (ag.bc _) ⟨rfl,rfl⟩
 | some q =>
  have e:Z.set b (pq ((U q).or (U p)))=Z:=ag.yq h;simp only[am,show Z.box b=U [.bool aa,.int .i64 q] from h];rw[e];exact aP rfl (ag.bc _) ⟨rfl,rfl⟩
def aoq{l:List (List UInt8)}{w:aA}{ws:List aA}{s:bB}(h:gY l w.an=U k):gO l s (w::ws)=gO l (kb s (k:Nat)) ws:=by simp only[gO,h]
def aop{l:List (List UInt8)}{w:aA}{ws:List aA}{s:bB}(h:gY l w.an=af):gO l s (w::ws)=(0#64,U w.pos):=by simp only[gO,h]
def WL(b:Nat)(o:Option Int)(l:List (List UInt8))(ws:List aA)(h:BB Z b o)(hl:l.length<=100000)(hw:ws.length<=1000000000):
 dt 279 [.ptr (.out b) 0,.sl .no 1 (cU l),.sl .no 2 (ws.map aA.enc)] Z (.int .u64 ((gO l 0#64 ws).1.toNat:Nat)) (Z.set b (pq (o.or (gO l 0#64 ws).2))):=by
 refine agf.aS ?_;simp only[aR,am,a8,Nat.reduceAdd,tM,aN];refine dP (ws.length) (λi (x:bB)=>⟨[.ptr (.out b) 0,.sl .no 1 (cU l),.any,.any,.any,.any,.any,.int .u64 (x.toNat:Nat),.any,.any,.any,.sl .no 2 (ws.map aA.enc),.int .i64 (ws.length:Nat),.int .i64 (i:Nat)]++au 18 .any,[],Z⟩) (λi x=>(gO l 0#64 ws=gO l x (ws.drop i))) λF hF JF bj=>⟨?_,?_,?_⟩
 .exact en bj (0#64) (rfl)
 .rintro i x hi hJ;rw[mq hi] at hJ;simp only[hF,au,am,dB hi];refine ix (qx (cL hi)) ?_;simp only[am,Nat.reduceAdd,aA.enc];refine cl (vM l ws[i].an Z hl) ?_;simp only[am,BS];cases hf:gY l ws[i].an with
  | none =>
   rw[aop hf] at hJ;simp only[am,AU];refine(HY b o ws[i].pos h).mono ?_;rintro v σ' ⟨rfl,rfl⟩;simp only[am,a9];exact aP rfl (ag.bc _) ⟨by rw[hJ];rfl,by rw[hJ]⟩
  | some k =>
   rw[aoq hf] at hJ;simp only[am,Cw,dh];refine cl (D4 x (k:Nat) Z) ?_;simp only[am,a9,cE hi];refine fQ (kb x (k:Nat)) hi ?_ ?_ ?_ ?_ ?_ ?_
   .exact eQ (bj _ _) (hJ)
   all_goals simp[hF,au,am,bQ,bS,dL,V.lo]
 .rintro x hJ;rw[ER] at hJ;have e:Z.set b (pq (o.or (gO l 0#64 ws).2))=Z:=by rw[hJ];simp only[gO,Option.or_none];exact ag.yq h
  simp only[hF,au,am,a9,dV,a9];rw[e,hJ];refine aU ?_;simp[V.erase,gO]
def Ir:=ae @am <| ae @a8 <| ae @tM <| ae @bp.al <| ae @Nd.al @Nd.fl
def atr:=ae @am <| ae @a9 <| ae @Ca @bp.al
def apV(b:Nat)(o:Option Int)(f:bp)(n:Nd)(h:BB Z b o)(hg:TZ Z)(hl:f.aj.length<=100000)(hk:n.ah.length<=1000000000)(hw:∀k∈n.ah,k.aj.length<=1000000000):
 dt 280 [.ptr (.out b) 0,.agg f.enc,.agg n.enc] Z (.int .u64 ((pT f 0#64 o n.ah).1.toNat:Nat)) (Z.set b (pq (pT f 0#64 o n.ah).2)):=by
 refine agh.aS ?_;simp only[aR,Ir,Nat.reduceAdd,aN];have l6:Z.set b (pq o)=Z:=ag.yq h;refine dP (n.ah.length) (λi (x:bB × Option Int)=>⟨[.ptr (.out b) 0,.any,.any,.any,.ptr (.aD 0) 0,.ptr (.aD 1) 0,.any,.int .u64 (x.1.toNat:Nat),.any,.any,.any,.any,.sl .no 5 (n.ah.map Nd.enc),.int .i64 (n.ah.length:Nat),.int .i64 (i:Nat)]++au 28 .any,[f.enc,n.enc],Z.set b (pq x.2)⟩) (λi x=>(pT f 0#64 o n.ah=pT f x.1 x.2 (n.ah.drop i))) λF hF JF bj=>⟨?_,?_,?_⟩
 .refine en bj ((0#64,o)) (rfl) ?_ ?_ ?_
  all_goals simp[hF,au,am,bQ,l6]
 .rintro i ⟨x,o'⟩ hi hJ;rw[mq hi] at hJ;simp only at hJ;have h1:BB (Z.set b (pq o')) b o' := gR;simp only[hF,au,am,dB hi];refine ix (mb (cL hi)) ?_;simp only[Ir,Nat.reduceAdd];refine(vM f.aj n.ah[i].an _ hl).mono ?_;rintro v cN ⟨rfl,rfl⟩;simp only[am,BS];cases hf:gY f.aj n.ah[i].an with
  | none =>
   simp only[pT,hf] at hJ;simp only[am,Nd.fl,AU];refine(HY b o' n.ah[i].pos h1).mono ?_;rintro v σ' ⟨rfl,rfl⟩;simp only[am,a9];exact aP rfl (ag.bc _) ⟨by rw[hJ];rfl,by rw[hJ]⟩
  | some k =>
   simp only[pT,hf] at hJ;simp only[am,bp.al,Nd.fl,Cw,dh];refine bJ.intro (WL b o' f.aj n.ah[i].aj h1 hl (hw _ (fh hi))) ?_;simp only[am,Rl.al];refine bJ.intro (ah3 f.rel k (gO f.aj 0#64 n.ah[i].aj).1 (arM hg h)) ?_;simp only[atr,cE hi];refine fQ ((x|||B0 f.rel k (gO f.aj 0#64 n.ah[i].aj).1,o'.or (gO f.aj 0#64 n.ah[i].aj).2)) hi ?_ ?_ ?_ ?_ ?_ ?_
   .exact eQ (bj _ _) (hJ)
   all_goals simp[hF,au,am,bQ,bS,dL,V.lo,bp.cH,Nd.cH]
 .rintro⟨x,o'⟩ hJ;rw[ER] at hJ;simp only[hF,au,am,a9,dV,a9];rw[hJ];refine aU ?_;simp[V.erase,pT]
def aor(b:Nat)(o:Option Int)(f:bp)(n:Nd)(h:BB Z b o)(hl:f.aj.length<=100000):
 dt 281 [.ptr (.out b) 0,.agg f.enc,.agg n.enc] Z (.int .u64 ((pR f n).1.toNat:Nat)) (Z.set b (pq (o.or (pR f n).2))):=by
 refine agi.aS ?_;simp only[aR,Ir,Nat.reduceAdd];refine cl (vM f.aj n.an _ hl) ?_;simp only[am,BS];cases hf:gY f.aj n.an with
 | none =>
  simp only[am,Nd.fl,AU];refine(HY b o n.pos h).mono ?_;rintro v σ' ⟨rfl,rfl⟩;simp only[am];exact aP rfl (ag.bc _) ⟨by simp only[pR,hf];rfl,by simp only[pR,hf]⟩
 | some k =>
  have e:Z.set b (pq (o.or (pR f n).2))=Z:=by simp only[pR,hf,Option.or_none];exact ag.yq h
  rw[e];simp only[am,bp.al,Cw,dh]
  by_cases h4:f.kind=4
  .simp only[am,Rl.al,bp.al,aQ h4];refine cl (aja f.rel k Z) ?_;simp only[am];refine aU ?_;simp[V.erase,pR,hf,h4]
  .simp only[am,bp.al,iY,aM h4];refine cl (ap5 f.aj.length k Z) ?_;simp only[am,B_];refine aU ?_;simp[V.erase,pR,hf,h4]
def ajY(f:bp)(Z:ag):a_ 277 [.agg f.enc] Z (.int .i64 (zS f)):=by
 refine agd.aS ?_;simp only[aR,am,a8,Nat.reduceAdd,bp.al]
 by_cases h2:f.kind=2
 .simp only[am,aQ h2];refine aU ?_;simp[V.erase,zS,h2]
 .simp only[am,aM h2]
  by_cases h3:f.kind=3
  .simp only[am,aQ h3];refine aU ?_;simp[V.erase,zS,h3]
  .simp only[am,aM h3];refine aU ?_;simp[V.erase,zS,h2,h3]
def asG(b:Nat)(o:Option Int)(f:bp)(n:Nd)(h:BB Z b o)(hg:TZ Z)(hl:f.aj.length<=100000)(hk:n.aj.length<=1000000000/\n.ah.length<=1000000000)(hw:∀k∈n.ah,k.aj.length<=1000000000):
 dt 234 [.ptr (.out b) 0,.agg f.enc,.agg n.enc] Z (.int .u64 ((mm f n o).1.toNat:Nat)) (Z.set b (pq (mm f n o).2)):=by
 refine afF.aS ?_;simp only[aR,Ir,Nat.reduceAdd];refine bJ.intro (ajY f Z) ?_;simp only[am,Nd.fl]
 by_cases hq:n.kind=zS f
 .simp only[am,bp.al,aQ hq]
  by_cases h2:f.kind=2
  .have e:mm f n o=((gO f.aj 0#64 n.aj).1,o.or (gO f.aj 0#64 n.aj).2):=by rw[mm,aE hq,aE h2]
   simp only[am,bp.al,Nd.fl,aQ h2];refine(WL b o f.aj n.aj h hl hk.1).mono ?_;rintro v σ' ⟨rfl,rfl⟩;simp only[am];exact aP rfl (ag.bc _) ⟨by rw[e];rfl,by rw[e]⟩
  .simp only[am,aM h2]
   by_cases h3:f.kind=3
   .have e:mm f n o=pT f 0#64 o n.ah:=by rw[mm,aE hq,aC h2,aE h3]
    simp only[am,bp.al,Nd.al,aQ h3];refine(apV b o f n h hg hl hk.2 hw).mono ?_;rintro v σ' ⟨rfl,rfl⟩;simp only[am];exact aP rfl (ag.bc _) ⟨by rw[e];rfl,by rw[e]⟩
   .have e:mm f n o=((pR f n).1,o.or (pR f n).2):=by rw[mm,aE hq,aC h2,aC h3]
    simp only[am,bp.al,Nd.al,aM h3];refine(aor b o f n h hl).mono ?_;rintro v σ' ⟨rfl,rfl⟩;simp only[am];exact aP rfl (ag.bc _) ⟨by rw[e];rfl,by rw[e]⟩
 .have e:mm f n o=(0#64,o.or (U n.pos)):=by rw[mm,aC hq]
  simp only[am,Nd.fl,aM hq];refine(HY b o n.pos h).mono ?_;rintro v σ' ⟨rfl,rfl⟩;simp only[am];exact aP rfl (ag.bc _) ⟨by rw[e];rfl,by rw[e]⟩
def ats:=ae @am <| ae @a8 <| ae @bA.al @Nd.al
def an_(s:bA)(n:Nd)(Z:ag):a_ 232 [.agg s.enc,.agg n.enc] Z (.bt [.sl .no 5 ((j6 s n).map Nd.enc),.bool (pO s n)]):=by
 refine afD.aS ?_;simp only[aR,ats,Nat.reduceAdd];cases ht:s.tuple with
 | false =>
  simp only[am,Nd.al];refine aU ?_;simp[V.erase,bx,j6,pO,ht]
 | true =>
  simp only[am,Nd.fl]
  by_cases h4:n.kind=4
  .simp only[am,aN,bA.al,Nd.fl,aN,aQ h4]
   by_cases hl:n.ah.length=s.bO.length
   .simp only[aQ (show(n.ah.length:Int)=s.bO.length by omega)];refine aU ?_;simp[V.erase,bx,j6,pO,ht,h4,hl]
   .simp only[aM (show ¬(n.ah.length:Int)=s.bO.length by omega)];refine aU ?_;simp[V.erase,bx,j6,pO,ht,h4,hl]
  .simp only[am,aM h4];refine aU ?_;simp[V.erase,bx,j6,pO,ht,h4]
def Nd.ok(n:Nd):Prop:=n.aj.length<=1000000000/\n.ah.length<=1000000000/\∀k∈n.ah,k.aj.length<=1000000000
def JA{s:bA}{n:Nd}(h:(pO s n&&mN s&&n.im)=ak):iq s n=(.zero,U n.pos):=by rw[iq,h];rfl
def acT{s:bA}{n:Nd}(h1:pO s n=aa)(h2:mN s=aa)(h3:n.im=aa):iq s n=vH s (j6 s n):=by rw[iq,h1,h2,h3];rfl
def WB{s:bA}(h:mN s=aa):1<=s.bO.length/\s.bO.length<=8/\(s.tuple=ak->s.bO.length=1):=by
 simp only[mN,bC,ca,mn] at h;refine⟨h.1.1.1,h.1.1.2,λht=>?_⟩
 rcases h.1.2 with h | h
 .rw[ht] at h;simp at h
 .exact h
def an'{s:bA}{n:Nd}(h1:pO s n=aa)(h2:mN s=aa):(j6 s n).length=s.bO.length:=by
 have hl:=(WB h2).2.2;unfold j6;unfold pO at h1;cases ht:s.tuple with
 | false=>simp[hl ht]
 | true=>rw[ht] at h1;simpa using And.right (by simpa using h1)
def att:=ae @am <| ae @a8 <| ae @bA.al <| ae @bh.al @Nd.al
def JB(s:bA)(n:Nd)(hg:TZ Z)(b_:s.ok)(hn:∀k∈j6 s n,Nd.ok k)(hwt:n.wt<=aO):
 a_ 184 [.agg s.enc,.agg n.enc] Z (.bt [.agg (iq s n).1.enc,.agg (uA (iq s n).2)]):=by
 refine ae7.aS ?_;simp only[aR,att,Nat.reduceAdd];refine cl (an_ s n Z) ?_;simp only[am];have done:∀(e:bh × Option Int) (t:List V) (l:List (List V)) (cN:ag),e=iq s n->Z.sub cN->mV (λv σ' => v=V.bt [.agg (iq s n).1.enc,.agg (uA (iq s n).2)]/\σ' = Z) ⟨t,l,cN⟩ (.bt [.agg e.1.enc,.agg (uA e.2)]):=λe t l cN he hs=>by
  subst he;exact aP (by simp[V.cI,bK,bh.dw,uA]) hs ⟨by simp[V.erase,bx,bh.dk,uA],rfl⟩
 cases hp:pO s n with
 | false =>
  simp only[am,Nat.reduceAdd,bh.al,Nd.fl];exact done (.zero,U n.pos) _ _ _ (JA (by rw[hp];rfl)).symm (ag.bc _)
 | true =>
  simp only[am,bA.al];refine cl (aqH s hg b_) ?_;cases hr:mN s with
  | false =>
   simp only[am,Nat.reduceAdd,bh.al,Nd.fl];exact done (.zero,U n.pos) _ _ _ (JA (by rw[hp,hr];rfl)).symm (ag.bc _)
  | true =>
   simp only[am,Nd.al];refine cl (Qt _ n Z (bP _) hwt) ?_;cases hc:n.im with
   | false =>
    simp only[am,Nat.reduceAdd,bh.al,Nd.fl];exact done (.zero,U n.pos) _ _ _ (JA (by rw[hp,hr,hc];rfl)).symm (ag.bc _)
   | true =>
    have zr:=acT hp hr hc;obtain⟨Bv,hl8,_⟩:=WB hr;have n9:=an' hp hr;simp only[am,Nat.reduceAdd];refine j1 λb hb=>?_
    have hs:∀c,Z.sub (Z.set b c):=λc=>h_ hb
    have hgb:∀c,TZ (Z.set b c):=λc=>(hs c).2.2 _ _ hg
    simp only[am,aN,bA.al,aN];refine dP (s.bO.length) (λi (x:bh × Option Int)=>⟨[.any,.any,.any,.any,.ptr (.aD 2) 0,.ptr (.aD 3) 0,.ptr (.aD 4) 0,.sl .no 5 ((j6 s n).map Nd.enc),.any,.ptr (.out b) 0,.any,.any,.any,.any,.any,.any,.any,.any,.any,.any,.any,.any,.any,.any,.any,.any,.any,.any,.any,.any,.any,.any,.any,.any,.any,.any,.any,.sl .no 67 (s.bO.map bp.enc),.int .i64 (s.bO.length:Nat),.int .i64 (i:Nat)]++au 26 .any,[s.enc,n.enc,bh.zero.enc,[.int .i64 0,.int .i64 0],x.1.enc],Z.set b (pq x.2)⟩) (λi x=>(C4 s (j6 s n) i x)) λF hF JF bj=>⟨?_,?_,?_⟩
    .refine en bj ((.zero,af)) (ahR) ?_ ?_ ?_
     all_goals simp[hF,au,am,bQ,pq]
    .rintro i ⟨e,o⟩ hi hJ;have KR:i<(j6 s n).length:=by omega
     have h8:i<8:=by omega
     have ec:=ahQ hJ;rw[qN hi,qN KR] at ec;have Du:=hn _ (fh KR);simp only[hF,au,am,dB hi];refine ix (QZ hi) ?_;simp only[am,Nat.reduceAdd,bp.al];refine ix (mb (cL KR)) ?_;simp only[am,bp.al,Nd.al];refine bJ.intro (asG b o s.bO[i] (j6 s n)[i] gR (hgb _) (b_.2 _ (fh hi)) ⟨Du.1,Du.2.1⟩ Du.2.2) ?_;simp only[am,cF];refine jD ?_;simp only[Cd,bh.AB h8,bh.AD h8,cE hi];refine fQ ((e.put i (mm s.bO[i] (j6 s n)[i] o).1,(mm s.bO[i] (j6 s n)[i] o).2)) hi ?_ ?_ ?_ ?_ ?_ ?_
     .exact eQ (bj _ _) (ec)
     all_goals simp[hF,au,am,bQ,bS,dL,V.lo,Nd.cH,bA.cH,bh.cH]
    .rintro⟨e,o⟩ hJ;have iv:=ahP hJ;rw[<-zr] at iv;simp only[hF,au,am,a9,dV,a9,pq];cases o with
     | some p =>
      simp only[am,Nat.reduceAdd,bh.al,E9,E8];exact done (.zero,U p) _ _ _ (by rw[iv];rfl) (hs _)
     | none =>
      simp only[am,Nat.reduceAdd,bh.al,Cx];exact done (e,af) _ _ _ (by rw[iv];rfl) (hs _)
def ag5:aT prog 60 (sq [rg 4 [ox 2 5 0,ox 3 5 1,oz 2],sq [rg 7 [fo 0 2,fo 0 3,nb .neq 8,gB,fo 2 2,fo 2 3,nE .neq 14,gZ,gB,fo 3 2,nL,fo 3 3,nL,nb .neq 22,gZ,gB,fo 4 2,nL,fo 4 3,nL,nb .neq 31,gZ],cr 36 4 [oz 2]],sq [rg 5 [oi 0],bl 0 (sq [sq [rg 37 [om 5,fo 3 2,nL,nb .lss 37],cx 41 0],.block 1 (sq [dg 44 [fo 3 2,om 5,nA 2 45,nF 0,fo 3 3,om 5,nA 2 51,nF 0,nE .neq 49],cr 56 4 [oz 2]]),rg 42 [ic 5]])],sq [rg 6 [oi 0],bl 2 (sq [sq [rg 57 [om 6,fo 4 2,nL,nb .lss 57],cx 61 2],.block 3 (sq [dg 64 [fo 4 2,om 6,nA 5 65,nl 5,fo 4 3,om 6,nA 5 70,nl 5,oC 60 [68,73],nn],cr 75 4 [oz 2]]),rg 62 [ic 6]])],rg 4 [oq (.mv (.c (.bool aa)))],.ret]) [.tmp 4] 76:=aW func60
def afw:aT prog 226 (sq [rg 4 [ox 2 5 0,ox 3 5 1,oz 2],sq [rg 7 [fo 0 2,fo 0 3,nb .neq 8,gB,fo 2 2,fo 2 3,nE .neq 14,gZ,gB,fo 3 2,nL,fo 3 3,nL,nb .neq 22,gZ,gB,fo 4 2,nL,fo 4 3,nL,nb .neq 31,gZ],cr 36 4 [oz 2]],sq [rg 37 [fo 3 2,nL,oi 0],lp 39 0 (sq [rg 42 [om 40,o1 5],dg 43 [fo 3 2,om 5,nA 2 44,nF 0,fo 3 3,om 5,nA 2 50,nF 0,nE .neq 48],cr 55 4 [oz 2]]) 56],sq [rg 57 [fo 4 2,nL,oi 0],lp 59 2 (sq [rg 62 [om 60,o1 6],dg 63 [fo 4 2,om 6,nA 5 64,nl 5,fo 4 3,om 6,nA 5 69,nl 5,oC 226 [67,72],nn],cr 74 4 [oz 2]]) 75],rg 4 [oq (.mv (.c (.bool aa)))],.ret]) [.tmp 4] 76:=aW func226
def Ly(n m:Nd)(Z:ag)(i:Nat):St :=
 ⟨[.any,.any,.ptr (.aD 0) 0,.ptr (.aD 1) 0]++au 35 .any++[.int .i64 n.aj.length,.int .i64 (i:Nat)]++au 35 .any,[n.enc,m.enc],Z⟩
def Lw(n m:Nd)(Z:ag)(i:Nat):St :=
 ⟨[.any,.any,.ptr (.aD 0) 0,.ptr (.aD 1) 0]++au 55 .any++[.int .i64 n.ah.length,.int .i64 (i:Nat)]++au 15 .any,[n.enc,m.enc],Z⟩
def ap':∀(k:Nat) (n m:Nd) (Z:ag),n.wt<=k->n.wt<=aO->a_ 226 [.agg n.enc,.agg m.enc] Z (.bool (n.cK m)):=by
 intro k;induction k with
 | zero=>intro n m Z h _;cases n;simp only[Nd.wt] at h;omega
 | succ k s7 =>
  intro n m Z hk hw;have hn:=AI n;have jV:n.wt<2^62:=by simp only[aO] at hw;omega
  rw[Nd.Ap];refine afw.aS ?_;simp only[aR,sv,Nat.reduceAdd]
  by_cases k1:n.kind=m.kind
  case' neg =>
   simp only[am,aM k1];refine aU ?_;simp[V.erase]
  simp only[am,bM,Nd.fl,k1]
  by_cases k2:n.an=m.an
  case' neg =>
   simp only[am,aM k2];refine aU ?_;simp[V.erase]
  simp only[am,aN,bM,Nd.fl,k2]
  by_cases k3:n.aj.length=m.aj.length
  case' neg =>
   have LP : ¬(n.aj.length:Int)=m.aj.length:=by omega
   simp only[am,aM LP]
   have:dy n.aj m.aj=false:=by cases hs:dy n.aj m.aj with
    | false=>rfl
    | true=>exact absurd (NC hs) k3
   refine aU ?_;simp[V.erase,this]
  simp only[am,aN,bM,Nd.fl,k3]
  by_cases k4:n.ah.length=m.ah.length
  case' neg =>
   have LQ : ¬(n.ah.length:Int)=m.ah.length:=by omega
   simp only[am,aM LQ]
   have:cZ n.ah m.ah=false:=by cases hs:cZ n.ah m.ah with
    | false=>rfl
    | true=>exact absurd (NG hs) k4
   refine aU ?_;simp[V.erase,this]
  simp only[am,aN,bM,Nd.fl,k4];refine iG (λp:{i:Nat // i<=n.aj.length/\dy (n.aj.take i) (m.aj.take i)=aa}=>Ly n m Z p.1) (λp=>n.aj.length - p.1) ?_ ?_
  .refine bq.enter ⟨0,by simp,by simp[dy]⟩ ?_ cm.rfl bL.rfl;simp[Ly,au,am,k3]
  rintro⟨i,hi,ha⟩;simp only[Ly,au,am];refine e9 ?_ ?_
  .intro aB;have aB:i<n.aj.length:=by simpa using aB
   obtain⟨fu,iM⟩:=NA aB (by omega) k3 ha;simp only[am,Nd.fl];refine ix (qx (cL aB)) ?_;simp only[am,Nd.fl,aA.enc];refine ix (qx (cL (show i<m.aj.length by omega))) ?_;simp only[am,aA.enc]
   by_cases he:n.aj[i].an=m.aj[i].an
   .simp only[am,bM,he];rw[wrap_i64];exact bq.again ⟨i+1,aB,by rw[fu];exact aQ he⟩ (by simp;omega) (by simp[am]) cm.rfl bL.rfl
   .simp only[am,aM he];refine aU ?_;simp[V.erase,iM (aM he)]
  intro aB;have aB:i=n.aj.length:=by simp at aB;omega
  subst aB;rw[eN,k3,eN] at ha;simp only[am,aN,Nd.fl];refine iG (λp:{i:Nat // i<=n.ah.length/\cZ (n.ah.take i) (m.ah.take i)=aa}=>Lw n m Z p.1) (λp=>n.ah.length - p.1) ?_ ?_
  .refine bq.enter ⟨0,by simp,by simp[cZ]⟩ ?_ cm.rfl bL.rfl;simp[Lw,au,am,k4]
  rintro⟨i,hi,hb⟩;simp only[Lw,au,am];refine e9 ?_ ?_
  .intro aB;have aB:i<n.ah.length:=by simpa using aB
   have qU:=ng (n:=n) (fh aB);obtain⟨fu,iM⟩:=NF aB (by omega) k4 hb;simp only[am,Nd.fl];refine ix (mb (cL aB)) ?_;simp only[am,Nd.al,Nd.fl];refine ix (mb (cL (show i<m.ah.length by omega))) ?_;simp only[am,Nd.al];refine bJ.intro (s7 n.ah[i] m.ah[i] _ (by omega) (by omega)) ?_;cases he:n.ah[i].cK m.ah[i]
   .simp only[am];refine aU ?_;simp[V.erase,iM he]
   .simp only[am];rw[wrap_i64];exact bq.again ⟨i+1,aB,by rw[fu];exact he⟩ (by simp;omega) (by simp[am]) cm.rfl bL.rfl
  intro aB;have aB:i=n.ah.length:=by simp at aB;omega
  subst aB;rw[eN,k4,eN] at hb;simp only[am];refine aU ?_;simp[V.erase,ha,hb]
def LA(n m:Nd)(Z:ag)(i:Nat):St :=
 ⟨[.any,.any,.ptr (.aD 0) 0,.ptr (.aD 1) 0]++[.any,.int .i64 (i:Nat)]++au 70 .any,[n.enc,m.enc],Z⟩
def Lz(n m:Nd)(Z:ag)(i:Nat):St :=
 ⟨[.any,.any,.ptr (.aD 0) 0,.ptr (.aD 1) 0]++[.any,.any,.int .i64 (i:Nat)]++au 69 .any,[n.enc,m.enc],Z⟩
def Nx:∀(k:Nat) (n m:Nd) (Z:ag),n.wt<=k->n.wt<=aO->a_ 60 [.agg n.enc,.agg m.enc] Z (.bool (n.cK m)):=by
 intro k;induction k with
 | zero=>intro n m Z h _;cases n;simp only[Nd.wt] at h;omega
 | succ k s7 =>
  intro n m Z hk hw;have hn:=AI n;have jV:n.wt<2^62:=by simp only[aO] at hw;omega
  rw[Nd.Ap];refine ag5.aS ?_;simp only[aR,sv,Nat.reduceAdd]
  by_cases k1:n.kind=m.kind
  case' neg =>
   simp only[am,aM k1];refine aU ?_;simp[V.erase]
  simp only[am,bM,Nd.fl,k1]
  by_cases k2:n.an=m.an
  case' neg =>
   simp only[am,aM k2];refine aU ?_;simp[V.erase]
  simp only[am,aN,bM,Nd.fl,k2]
  by_cases k3:n.aj.length=m.aj.length
  case' neg =>
   have LP : ¬(n.aj.length:Int)=m.aj.length:=by omega
   simp only[am,aM LP]
   have:dy n.aj m.aj=false:=by cases hs:dy n.aj m.aj with
    | false=>rfl
    | true=>exact absurd (NC hs) k3
   refine aU ?_;simp[V.erase,this]
  simp only[am,aN,bM,Nd.fl,k3]
  by_cases k4:n.ah.length=m.ah.length
  case' neg =>
   have LQ : ¬(n.ah.length:Int)=m.ah.length:=by omega
   simp only[am,aM LQ]
   have:cZ n.ah m.ah=false:=by cases hs:cZ n.ah m.ah with
    | false=>rfl
    | true=>exact absurd (NG hs) k4
   refine aU ?_;simp[V.erase,this]
  simp only[am,bM,k4];refine iG (λp:{i:Nat // i<=n.aj.length/\dy (n.aj.take i) (m.aj.take i)=aa}=>LA n m Z p.1) (λp=>n.aj.length - p.1) ?_ ?_
  .refine bq.enter ⟨0,by simp,by simp[dy]⟩ ?_ cm.rfl bL.rfl;simp[LA,au,am]
  rintro⟨i,hi,ha⟩;simp only[LA,au,am,Nd.fl,aN];refine e9 ?_ ?_
  .intro aB;have aB:i<n.aj.length:=by simpa using aB
   obtain⟨fu,iM⟩:=NA aB (by omega) k3 ha;simp only[am,Nd.fl];refine ix (qx (cL aB)) ?_;simp only[am,Nd.fl,aA.enc];refine ix (qx (cL (show i<m.aj.length by omega))) ?_;simp only[am,aA.enc]
   by_cases he:n.aj[i].an=m.aj[i].an
   .simp only[am,bM,he];rw[wrap_i64];exact bq.again ⟨i+1,aB,by rw[fu];exact aQ he⟩ (by simp;omega) (by simp[am]) cm.rfl bL.rfl
   .simp only[am,aM he];refine aU ?_;simp[V.erase,iM (aM he)]
  intro aB;have aB:i=n.aj.length:=by simp at aB;omega
  subst aB;rw[eN,k3,eN] at ha;simp only[am];refine iG (λp:{i:Nat // i<=n.ah.length/\cZ (n.ah.take i) (m.ah.take i)=aa}=>Lz n m Z p.1) (λp=>n.ah.length - p.1) ?_ ?_
  .refine bq.enter ⟨0,by simp,by simp[cZ]⟩ ?_ cm.rfl bL.rfl;simp[Lz,au,am]
  rintro⟨i,hi,hb⟩;simp only[Lz,au,am,Nd.fl,aN];refine e9 ?_ ?_
  .intro aB;have aB:i<n.ah.length:=by simpa using aB
   have qU:=ng (n:=n) (fh aB);obtain⟨fu,iM⟩:=NF aB (by omega) k4 hb;simp only[am,Nd.fl];refine ix (mb (cL aB)) ?_;simp only[am,Nd.al,Nd.fl];refine ix (mb (cL (show i<m.ah.length by omega))) ?_;simp only[am,Nd.al];refine bJ.intro (s7 n.ah[i] m.ah[i] _ (by omega) (by omega)) ?_;cases he:n.ah[i].cK m.ah[i]
   .simp only[am];refine aU ?_;simp[V.erase,iM he]
   .simp only[am];rw[wrap_i64];exact bq.again ⟨i+1,aB,by rw[fu];exact he⟩ (by simp;omega) (by simp[am]) cm.rfl bL.rfl
  intro aB;have aB:i=n.ah.length:=by simp at aB;omega
  subst aB;rw[eN,k4,eN] at hb;simp only[am];refine aU ?_;simp[V.erase,ha,hb]
def s1:List UInt8:=[43,40,120,44,35,123,97,44,98,125,41]
def s2:List UInt8:=[43,40,41]
def s3:List UInt8:=[91,102,61,120,44,103,61,35,104,105,124,114,93]
def agT:aT prog 34 (sq [rg 4 [oz 2],sq [rg 6 [om 0,nL,om 1,nL,nb .neq 7],cr 10 4 [oz 2]],sq [rg 5 [oi 0],bl 0 (sq [sq [rg 11 [om 5,om 0,nL,nb .lss 11],cx 14 0],.block 1 (sq [dg 17 [om 0,om 5,nA 10 17,nl 10,om 1,om 5,nA 10 21,nl 10,oq (.ir aa [1,1,1,1,1,1,1,1,1,1] (.s 20) (.s 24))],cr 25 4 [oz 2]]),rg 15 [ic 5]])],rg 4 [oq (.mv (.c (.bool aa)))],.ret]) [.tmp 4] 26:=aW func34
def ag':aT prog 76 (sq [rg 4 [ox 2 2 0,oi 0,oi 0],rg 6 [oi (-1),oi (-1)],sq [rg 10 [fo 0 2,nL,oi 0],lp 12 0 (sq [rg 15 [om 13,o1 8],rg 16 [om 6,nB .lss 0,gA,fo 0 2,om 8,nA 3 20,nF 0,om 1,nE .eql 24,gZ],ci 27 (rg 28 [om 8,o1 6])]) 29],sq [rg 30 [fo 1 2,nL,oi 0],lp 32 2 (sq [rg 35 [om 33,o1 9],rg 36 [om 7,nB .lss 0,gA,fo 1 2,om 9,nA 3 40,nF 0,om 1,nE .eql 44,gZ],ci 47 (rg 48 [om 9,o1 7])]) 49],rg 50 [om 6,om 7,ot 4 50,o1 5],.ret]) [.tmp 4,.tmp 5] 52:=aW func76
def ae6:aT prog 183 (sq [rg 7 [ox 3 2 0,ox 5 5 2,oR 6 xV,oz 2],sq [rg 10 [fo 0 5,nB .eql 1],cr 12 13 [ol 2 3,om 1,fo 2 5,oC 231 [13,14,16],oe 17 0,oe 17 1,os 10 6 18,o1 7]],dA 21 [8,9] [fo 0 3,om 1,nA 3 22,nf 1,nl 2,fo 4 5,nI 5 0,nl 5,oC 184 [26,30],o1 20,oe 20 0,oe 20 1,oN,oN,oX 8 8 32,oX 9 2 33],dg 34 [ol 8 8,oY xV [(0,1,.c (.int .i64 2)),(2,8,.s 34)],of 0 9,mM [1],no,nB .eql 0,os 10 6 35,o1 7],.ret]) [.cell 6 aa 10,.tmp 7] 39:=aW func183
def afC:aT prog 231 (sq [rg 7 [ox 3 2 0,oR 6 xV,oz 2],rg 11 [ol 2 3,om 2,oC 76 [11,12],o1 10,oe 10 0,oe 10 1,ot 8 14,o1 9],sq [rg 16 [om 9,nB .lss 0,gB,fo 1 3,om 9,nA 3 20,nF 1,nB .neq 1,gZ,gB,fo 1 3,om 9,nA 3 29,nF 2,om 1,nb .neq 33,gZ],cr 36 37 [oY xV [],o2 10 6,oU 7 2]],rg 38 [om 9,oY xV [(0,1,.c (.int .i64 1)),(1,1,.s 38)],o2 10 6,oV 7 (.bool aa)],.ret]) [.cell 6 aa 10,.tmp 7] 40:=aW func231
def wo{l:List dY}(h:j<l.length):(l.map dY.enc)[((j:Nat):Int).toNat]?=U l[j].enc:=by simp[h]
def EB{l:List du}(h:j<l.length):(l.map du.enc)[((j:Nat):Int).toNat]?=U l[j].enc:=by simp[h]
def vd(s:aH)(t:List UInt8)(Z:ag)(h1:s.bu.length<=100000)(h2:s.vars.length<=100000) :
 a_ 76 [.agg s.enc,.aF t] Z (.bt [.int .i64 (dh (iu s.bu t)),.int .i64 (dh (kj s.vars t))]):=by
 refine ag'.aS ?_;simp only[aR,am,a8,Nat.reduceAdd,aH.al,aN];rw[iu,kj];generalize hpL:Mr s.bu t=pL;generalize hpV:Ms s.vars t=pV;have eL:∀i (hi:i<s.bu.length),pL i=decide (s.bu[i].name=t):=λi hi=>by rw[<-hpL];simp only[Mr,cL hi]
 have eV:∀i (hi:i<s.vars.length),pV i=decide (s.vars[i].name=t):=λi hi=>by rw[<-hpV];simp only[Ms,cL hi]
 refine dP (s.bu.length) (λi (x:Unit)=>⟨[.any,.aF t,.ptr (.aD 0) 0,.any,.any,.any,.int .i64 (dh ((bU i).find? pL)),.int .i64 (-1),.any,.any,.any,.sl .no 3 (s.bu.map dY.enc),.int .i64 (s.bu.length:Nat),.int .i64 (i:Nat)]++au 38 .any,[s.enc],Z⟩) (λi x=>(True)) λF hF JF bj=>⟨?_,?_,?_⟩
 .refine en bj (()) (trivial) ?_ ?_ ?_
  all_goals simp[hF,au,am,bQ,dh]
 .rintro i x hi -;simp only[hF,au,am,dB hi,BS];cases hf:(bU i).find? pL with
  | some k =>
   simp only[am,a9,Cw,cE hi];refine nx bj (()) hi (trivial) ?_ ?_ ?_
   all_goals simp[hF,au,am,bQ,qz,Cq,hf]
  | none =>
   simp only[am,aH.al,AU];refine ix (wo hi) ?_;simp only[am,aH.al];rw[<-eL i hi];cases hb:pL i with
   | false =>
    simp only[am,a9,cE hi];refine nx bj (()) hi (trivial) ?_ ?_ ?_
    all_goals simp[hF,au,am,bQ,qz,Cq,hf,hb]
   | true =>
    simp only[am,a9,cE hi];refine nx bj (()) hi (trivial) ?_ ?_ ?_
    all_goals simp[hF,au,am,bQ,qz,Cq,hf,hb,dh]
 .rintro x -;simp only[hF,au,am,a9,dV,a9,aH.al,aN];clear hF bj F JF;refine dP (s.vars.length) (λi (x:Unit)=>⟨[.any,.aF t,.ptr (.aD 0) 0,.any,.any,.any,.int .i64 (dh ((bU s.bu.length).find? pL)),.int .i64 (dh ((bU i).find? pV)),.any,.any,.any,.any,.any,.any,.any,.any,.any,.any,.any,.any,.any,.any,.any,.any,.any,.any,.any,.any,.any,.any,.any,.sl .no 3 (s.vars.map du.enc),.int .i64 (s.vars.length:Nat),.int .i64 (i:Nat)]++au 18 .any,[s.enc],Z⟩) (λi x=>(True)) λF hF JF bj=>⟨?_,?_,?_⟩
  .refine en bj (()) (trivial) ?_ ?_ ?_
   all_goals simp[hF,au,am,bQ,dh]
  .rintro i x hi -;simp only[hF,au,am,dB hi,BS];cases hf:(bU i).find? pV with
   | some k =>
    simp only[am,a9,Cw,cE hi];refine nx bj (()) hi (trivial) ?_ ?_ ?_
    all_goals simp[hF,au,am,bQ,qz,Cq,hf]
   | none =>
    simp only[am,aH.al,AU];refine ix (EB hi) ?_;simp only[am,aH.al];rw[<-eV i hi];cases hb:pV i with
    | false =>
     simp only[am,a9,cE hi];refine nx bj (()) hi (trivial) ?_ ?_ ?_
     all_goals simp[hF,au,am,bQ,qz,Cq,hf,hb]
    | true =>
     simp only[am,a9,cE hi];refine nx bj (()) hi (trivial) ?_ ?_ ?_
     all_goals simp[hF,au,am,bQ,qz,Cq,hf,hb,dh]
  .rintro x -;simp only[hF,au,am,a9,dV,a9];exact rt
def ad0{l:List du}{t:List UInt8}(h:kj l t=U k):k<l.length:=(F1 h).1
def DJ(o:Option bw):V:=.bt [.agg (match o with | some i=>i | none=>bw.zero).enc,.bool o.isSome]
def atu:=ae @am <| ae @a8 <| ae @aH.al @bw.al
def arS(s:aH)(lat:Nat)(t:List UInt8)(Z:ag)(h1:s.bu.length<=100000)(h2:s.vars.length<=100000) :
 a_ 231 [.agg s.enc,.int .i64 (lat:Nat),.aF t] Z (DJ (wP s lat t)):=by
 refine afC.aS ?_;simp only[aR,atu,Nat.reduceAdd];have no:∀(u:List V) (l:List (List V)),wP s lat t=af->mV (λv σ' => v=DJ (wP s lat t)/\σ' = Z) ⟨u,l,Z⟩ (.bt [.agg bw.zero.enc,.bool ak]):=λu l h=>by
  rw[h];exact aP (by simp[V.cI,bK,bw.dw]) (ag.bc _) ⟨by simp[DJ,V.erase,bx,bw.dk],rfl⟩
 refine cl (vd s t Z h1 h2) ?_;simp only[am,BS];cases hf:kj s.vars t with
 | none =>
  simp only[am,bw.al,AU];exact no _ _ (by simp only[wP,hf])
 | some k =>
  have hk:=ad0 hf;have hv:s.vars[k]?=U s.vars[k]:=cL hk;simp only[am,aH.al,Cw,dh];refine ix (EB hk) ?_;simp only[am,aH.al]
  by_cases e1:s.vars[k].kind=1
  .simp only[am,aH.al,aQ e1];refine ix (EB hk) ?_;simp only[am,aH.al]
   by_cases e2:s.vars[k].lat=(lat:Nat)
   .have e:wP s lat t=U ⟨1,k,.zero⟩:=by simp only[wP,hf,hv];rw[aE ⟨e1,e2⟩]
    simp only[am,bw.al,aQ e2];exact aP (by simp[V.cI,bK,bw.dw]) (ag.bc _) ⟨by simp[e,DJ,V.erase,bx,bw.dk,bw.zero],rfl⟩
   .simp only[am,bw.al,aM e2];exact no _ _ (by simp only[wP,hf,hv];rw[aC (λh=>e2 h.2)])
  .simp only[am,bw.al,aM e1];exact no _ _ (by simp only[wP,hf,hv];rw[aC (λh=>e1 h.1)])
variable{lat:Nat}
def NN{s:aH}(h:lat<s.bu.length):vf s lat=s.bu[lat].shape:=by simp only[vf,cL h]
def aku{s:aH}{n:Nd}(h1:n.kind≠1){e:bh}(he:iq (vf s lat) (n.ah.getD 0 j5)=(e,af)):nh s lat n=U ⟨2,0,e⟩:=by rw[nh,aC h1,he]
def aks{s:aH}{n:Nd}(h1:n.kind≠1){e:bh}{p:Int}(he:iq (vf s lat) (n.ah.getD 0 j5)=(e,U p)):nh s lat n=none:=by rw[nh,aC h1,he]
def MS{s:bA}{n:Nd}(hc:n.cy<=100000):∀k∈j6 s n,k.aj.length<=100000/\k.ah.length<=100000/\∀m∈k.ah,m.aj.length<=100000:=by
 intro k hk;have Dp:k.cy<=n.cy:=by
  unfold j6 at hk;split at hk
  .exact IV (qG hk)
  .rw[pj.1 hk];exact bP _
 have h1:=CO k;have h2:=y4 k;refine⟨by omega,by omega,λm hm=>?_⟩
 have:=qG hm
 have:=CO m
 omega
def an9{s:bA}{n:Nd}(hc:n.cy<=100000):∀k∈j6 s n,Nd.ok k:=λk hk=>by
 obtain⟨h1,h2,h3⟩:=MS hc k hk;exact⟨by omega,by omega,λm hm=>by have:=h3 m hm;omega⟩
def Is:=ae @am <| ae @a8 <| ae @Nd.al <| ae @Nd.fl <| ae @aH.al @bw.al
def akv(s:aH)(lat:Nat)(n:Nd)(hg:TZ Z)(hs:s.ok)(mY:lat<s.bu.length)(hc:n.cy<=100000)(hw:n.wt<=aO)(hl:n.eY=aa)(hk:n.kind=1\/n.kind=7):
 cg prog 183 [.agg s.enc,.int .i64 (lat:Nat),.agg n.enc] Z λv σ' => (∃i:bw,v = .bt [.agg i.enc,.bool (nh s lat n).isSome]/\∀j,nh s lat n=U j->i=j)/\σ' = Z:=by
 refine ae6.aS ?_;simp only[aR,Is,Nat.reduceAdd]
 by_cases h1:n.kind=1
 .simp only[am,Nd.fl,aH.al,aQ h1];refine cl (arS s lat n.an Z hs.1 hs.2.1) ?_;simp only[am,bw.al,DJ];refine aP (by simp[V.cI,bK,bw.dw]) (ag.bc _) ⟨⟨_,by rw[nh,aE h1];simp[V.erase,bx,bw.dk];rfl,λj hj=>?_⟩,rfl⟩;rw[nh,aE h1] at hj;rw[hj]
 .have h7:n.kind=7:=by simpa [h1] using hk
  have xK:=DP hl h7;have hm:n.ah[0]∈n.ah:=fh _;have xM:=qG hm;have xN:=ng hm;simp only[am,Nat.reduceAdd,bM,Nat.reduceLT,aH.al,aM h1];refine ix (wo mY) ?_;simp only[am,Nd.fl,aH.al];refine qZ (n:=0) (by omega) (mb (j:=0) (cL (by omega))) ?_;simp only[am,bA.al,Nd.al];refine bJ.intro (JB s.bu[lat].shape n.ah[0] hg (hs.2.2 _ (fh mY)) (an9 (by omega)) (by omega)) ?_;obtain⟨e,he⟩:∃e,iq s.bu[lat].shape n.ah[0]=e:=⟨_,rfl⟩;rw[he];have Gu : iq (vf s lat) (n.ah.getD 0 j5)=e:=by rw[NN mY,qN (by omega)];exact he
  simp only[am,Nat.reduceAdd,bh.al,bw.al,uA];obtain⟨e,o⟩:=e;cases o with
  | none =>
   have xL:=aku h1 Gu;simp only[am,bM,Cx];exact aP (by simp[V.cI,bK,bw.dw]) (ag.bc _) ⟨⟨⟨2,0,e⟩,by rw[xL];simp[V.erase,bx,bw.dk];rfl,λj hj=>by rw[xL] at hj;cases hj;rfl⟩,rfl⟩
  | some p =>
   have xL:=aks h1 Gu;simp only[am,fk,Int.reduceEq,E9];exact aP (by simp[V.cI,bK,bw.dw]) (ag.bc _) ⟨⟨⟨2,0,e⟩,by rw[xL];simp[V.erase,bx,bw.dk];rfl,λj hj=>by rw[xL] at hj;simp at hj⟩,rfl⟩
def Qk{l:List bw}(h:j<l.length):(l.map bw.enc)[((j:Nat):Int).toNat]?=U l[j].enc:=by simp[h]
def aqd(a b:List bw)(Z:ag)(ha:a.length<=100000)(hb:b.length<=100000):a_ 34 [.sl .no 10 (a.map bw.enc),.sl .no 10 (b.map bw.enc)] Z (.bool (decide (a=b))):=by
 refine agT.aS ?_;simp only[aR,am,a8,Nat.reduceAdd,aN]
 by_cases aX:a.length=b.length
 .simp only[am,aQ (show(a.length:Int)=b.length by omega)];refine dP (a.length) (λi (x:Unit)=>⟨[.sl .no 10 (a.map bw.enc),.sl .no 10 (b.map bw.enc),.any,.any,.any,.int .i64 (i:Nat)]++au 20 .any,[],Z⟩) (λi x=>(∀k,k<i->a[k]?=b[k]?)) λF hF JF bj=>⟨?_,?_,?_⟩
  .exact en bj (()) (by intro k h;omega)
  .rintro i x hi hJ;have GC:i<b.length:=by omega
   simp only[hF,au,am,dB hi,aN];refine ix (Qk hi) ?_;simp only[am,bw.al];refine ix (Qk GC) ?_;simp only[am,bw.al]
   by_cases h:a[i]=b[i]
   .simp only[am,a9,aQ h,cE hi];exact nx bj (()) hi (AY hJ (by rw[cL hi,cL GC,h]))
   .have e:a≠b:=λe=>h (by subst e;rfl)
    simp only[am,a9,aM h];refine aU ?_;simp[V.erase,e]
  .rintro x hJ;have e:a=b:=by
    refine OT aX λk h1 h2=>?_
    have:=hJ k h1
    rwa [cL h1,cL h2,aZ] at this
   simp only[hF,au,am,a9,dV,a9,aN];refine aU ?_;simp[V.erase,e]
 .have e:a≠b:=λe=>aX (by rw[e])
  simp only[am,aM (show ¬(a.length:Int)=b.length by omega)];refine aU ?_;simp[V.erase,e]
def Jp(o:Option (List bw)):V:=.bt [.sl .no 10 ((o.getD []).map bw.enc),.bool o.isSome]
def aa4{s:aH}{n:Nd}(h1:lat<s.bu.length)(h2:n.eY=aa):mw s (lat:Nat) n=mX s lat n:=by
 rw[mw,aE ⟨by omega,by omega,h2⟩];rfl
end Go.Proofs.Tryz
