/-
  Part 6 of the proof of StackTextUptoCardSaid: a logic over the model, the forms of the functions that the law reaches, and what they compute.
-/
import Derived.Test.YtnpggmhoandloaaGreatDoorProg
import Derived.Test.YtnpggmhoandloaaGreatDoorText5
set_option linter.unusedVariables false
set_option linter.unusedSimpArgs false
set_option linter.defProp false
set_option linter.unusedSectionVars false
set_option maxRecDepth 4000
set_option maxHeartbeats 4000000
open Option renaming some->aa,none->aj
open Bool renaming true->ab,false->ar
open List renaming replicate->aq,range->bA,getD->fW,zipWith->mu
open Eq renaming mpr->ey
open Ne renaming symm->fJ
namespace Go.Proofs.Tryz
open Go.Am
def aiU:aS prog 247 (sq [rg 4 [oz 4],sq [rg 5 [om 1,oC 285 [5],nn],cr 7 8 [om 0,o1 4]],rg 9 [om 0,om 1,oq (.qP .u64 (.s 10)),oq (.dU .shl (.c (.int .u64 1)) (.s 11)),nb .or 9,o1 4],.ret]) [.tmp 4] 14:=aW func247
def aiV:aS prog 248 (sq [rg 4 [oz 2],rg 5 [om 1,oC 285 [5],gA,om 0,om 1,oq (.qP .u64 (.s 9)),nb .shr 8,oq (.dU .and (.s 11) (.c (.int .u64 1))),oq (.dU .eql (.s 12) (.c (.int .u64 1))),gZ,o1 4],.ret]) [.tmp 4] 15:=aW func248
def ajg:aS prog 269 (sq [rg 2 [oz 4],rg 3 [oz 4],sq [rg 6 [om 0,nL,oi 0],lp 7 0 (sq [rg 10 [oA 1 6 8,no,o1 5],rg 12 [om 3,om 5,oC 247 [12,13],o1 3]]) 15],rg 16 [om 3,o1 2],.ret]) [.tmp 2] 17:=aW func269
def ajw:aS prog 285 (sq [rg 2 [oz 2],rg 3 [om 0,nB .geq 0,gA,om 0,nB .lss 64,gZ,o1 2],.ret]) [.tmp 2] 9:=aW func285
def ajE:aS prog 293 (sq [rg 2 [oz 6],rg 0 [od (aa 3) (.qL [(.sl .aZ 1 [])])],rg 4 [om 0,oq (.ky (.func 306) [] [(.s 3)]),oC 305 [4,5]],rg 7 [oo 3,o1 2],.ret]) [.tmp 2] 8:=aW func293 ⟨[3],[]⟩
def ajF:aS prog 294 (sq [rg 4 [oz 2],rg 5 [om 0,om 1,nb .andNot 5,oq (.dU .eql (.s 7) (.c (.int .u64 0))),o1 4],.ret]) [.tmp 4] 9:=aW func294
def ajP:aS prog 303 (sq [rg 2 [oz 4],sq [rg 3 [om 0,nB .leq 0],cr 4 2 [oz 4]],sq [rg 5 [om 0,nB .geq 64],cr 6 2 [oq (.mv (.c (.int .u64 18446744073709551615)))]],rg 7 [om 0,oq (.qP .u64 (.s 7)),oq (.dU .shl (.c (.int .u64 1)) (.s 8)),oq (.dU .sub (.s 9) (.c (.int .u64 1))),o1 2],.ret]) [.tmp 2] 11:=aW func303
def ajR:aS prog 305 (bl 0 (sq [sq [rg 4 [om 0,oq (.dU .neq (.s 4) (.c (.int .u64 0)))],cx 5 0],.block 1 (sq [sq [rg 6 [om 1,om 0,oC 313 [7],oq (.jj (.s 6) [(.s 8)]),nn],ci 10 .ret],rg 11 [om 0,om 0,oq (.dU .sub (.s 12) (.c (.int .u64 1))),nb .and 11,o1 0]])])) [] 15:=aW func305
def ajS:aS prog 306 (sq [rg 3 [oz 2],rg 4 [oo 1,om 0,n1 1,na 1 4,o2 1 1],rg 3 [oq (.mv (.c (.bool ab)))],.ret]) [.tmp 3] 8:=aW func306
def ajZ:aS prog 313 (sq [rg 2 [oi 0],sq [rg 3 [om 0,oq (.dU .eql (.s 3) (.c (.int .u64 0)))],cr 4 2 [oi 64]],rg 5 [om 0,om 0,oq (.dU .sub (.c (.int .u64 0)) (.s 6)),nb .and 5,oq (.dU .mul (.s 8) (.c (.int .u64 285870213051353865))),oq (.dU .shr (.s 9) (.c (.int .u64 58))),oq (.sO 64 1 (.c (.ptr (.kT 1) 0)) (.s 10)),no,oq (.qP .i64 (.s 12)),o1 2],.ret]) [.tmp 2] 14:=aW func313
def cy(l:List Int):List (List V):=l.map λn=>[.int .i64 n]
def sM(l:List Int):(cy l).length=l.length:=by simp[cy]
variable{j:Nat}
def Bz{l:List Int}(h:j<l.length):(cy l)[((j:Nat):Int).toNat]?=aa [.int .i64 l[j]]:=by simp[cy,h]
def Nw{l:List Int}{n:Int}:cy (l++[n])=cy l++[[.int .i64 n]]:=by simp[cy]
abbrev a8(f:FuncId)(es:List V)(D:ah)(x:V):Prop:=ch prog f es D λv σ' => v=x/\σ' = D
abbrev dY(f:FuncId)(es:List V)(D:ah)(x:V)(eT:ah):Prop:=ch prog f es D λv σ' => v=x/\σ' = eT
def Wu(n:Int)(D:ah):a8 285 [.int .i64 n] D (.bool (decide (0<=n)&&decide (n<64))):=by
 refine ajw.aV ?_;simp only[aU,am,a7,Nat.reduceAdd]
 by_cases h:0<=n
 .simp only[am,aK h];refine aL ?_;simp[V.erase]
 .simp only[am,aJ h];refine aL ?_;simp[V.erase]
def Qq:=af @am <| af @a7 <| af @sa @DT
def FU(s:br)(n:Int)(D:ah):a8 247 [.int .u64 (s.toNat:Nat),.int .i64 n] D (.int .u64 ((ln s n).toNat:Nat)):=by
 refine aiU.aV ?_;simp only[aU,Qq,Nat.reduceAdd];refine cl (Wu n _) ?_;simp only[am]
 by_cases h:0<=n/\n<64
 .obtain⟨m,rfl⟩:∃m:Nat,n=m:=⟨n.toNat,by omega⟩;simp only[am,DU,Qd,aK h.1,aK h.2,wrap_u64 h.1 (by omega:(m:Int)<18446744073709551616)];refine aL ?_;simp[V.erase,ln,h,mA]
 .have:(decide (0<=n)&&decide (n<64))=false:=by simp only[D4,xw];omega
  simp only[am,this];refine aL ?_;simp[V.erase,ln,h]
def FT(l:List Int)(D:ah)(hl:l.length<=100000):a8 269 [.sl .no 1 (cy l)] D (.int .u64 ((gK l).toNat:Nat)):=by
 refine ajg.aV ?_;simp only[aU,am,a7,Nat.reduceAdd,sa];refine cn (l.length) (λi (x:br)=>⟨[.sl .no 1 (cy l),.any,.int .u64 ((0#64:br).toNat:Nat),.int .u64 (x.toNat:Nat),.any,.any,.sl .no 1 (cy l),.int .i64 (l.length:Nat),.int .i64 (i:Nat)]++aq 8 .any,[],D⟩) (λi x=>(x=gK (l.take i))) λF hF JF aT=>⟨?_,?_,?_⟩
 .refine en aT (0#64) (rfl) ?_ ?_ ?_
  all_goals simp[hF,aq,am,bt,sM]
 .rintro i x hi rfl;simp only[hF,aq,am,cc hi];refine ix (Bz hi) ?_;simp only[am];refine cl (FU _ _ _) ?_;simp only[am,aI,bJ hi];exact nx aT (ln (gK (l.take i)) l[i]) hi (by rw[iG hi];simp only[gK,yN,yO,List.foldl_nil])
 .rintro x rfl;simp only[hF,aq,am,aI,cE,aI,dX];exact rt
def au0(s:br)(m:Nat):decide (s>>>m&&&1#64=1#64)=s.getLsbD m:=by
 have:(s>>>m&&&1#64=1#64)↔s.getLsbD m=true:=by
  constructor
  .intro h
   have:=iH (λx:br=>x.getLsbD 0) h
   simpa using this
  .intro h;apply mF;intro k hk;rw[ti,GG,BitVec.getLsbD_one]
   by_cases h0:k=0
   .subst h0;simp[h]
   .simp[h0]
 by_cases hc:s.getLsbD m=ab
 .rw[hc,aK (this.2 hc)]
 .rw[aJ (λh=>hc (this.1 h))];simpa using hc
def z1_:=af @am <| af @yC <| af @Kb @w_
def apk(s:br)(n:Int)(D:ah):a8 248 [.int .u64 (s.toNat:Nat),.int .i64 n] D (.bool (hasB s n)):=by
 refine aiV.aV ?_;simp only[aU,am,a7,Nat.reduceAdd,DT];refine cl (Wu n _) ?_;simp only[am]
 by_cases h:0<=n/\n<64
 .obtain⟨m,rfl⟩:∃m:Nat,n=m:=⟨n.toNat,by omega⟩;simp only[z1_,aK h.1,aK h.2,wrap_u64 h.1 (by omega:(m:Int)<18446744073709551616),au0];refine aL ?_;simp[V.erase,hasB]
 .have:(decide (0<=n)&&decide (n<64))=false:=by simp only[D4,xw];omega
  simp only[am,this];refine aL ?_;simp[V.erase,hasB];intro h0;exact vz _ _ (by omega)
def z2_:=af @am <| af @a7 <| af @sa <| af @ZS @w_
def apl(a b:br)(D:ah):a8 294 [.int .u64 (a.toNat:Nat),.int .u64 (b.toNat:Nat)] D (.bool (pP a b)):=by
 refine ajF.aV ?_;simp only[aU,z2_,Nat.reduceAdd];refine aL ?_;simp[V.erase,pP]
def z3_:=af @am <| af @a7 <| af @sa <| af @DT @awD
def FR(n:Int)(D:ah):a8 303 [.int .i64 n] D (.int .u64 ((fY n).toNat:Nat)):=by
 refine ajP.aV ?_;simp only[aU,z3_,Nat.reduceAdd]
 by_cases h:n<=0
 .simp only[am,aK h];refine aL ?_;simp[V.erase,fY,h]
 .simp only[am,aJ h]
  by_cases U:64<=n
  .simp only[am,aK U];refine aL ?_;simp[V.erase,fY,h,U]
  .obtain⟨m,rfl⟩:∃m:Nat,n=m:=⟨n.toNat,by omega⟩;simp only[am,Qd,Qe,aJ U,wrap_u64 (by omega:0<=(m:Int)) (by omega:(m:Int)<18446744073709551616)];have e:fY (m:Int)=mA m - 1#64:=by simp only[fY,h,U,cF,gi]
   refine aL ?_;simp[V.erase,e,mA]
abbrev TZ(D:ah):Prop:=D.b8 1=aa yA
variable{D:ah}
def av5(s:br)(h:s≠0#64)(hg:TZ D):a8 313 [.int .u64 (s.toNat:Nat)] D (.int .i64 (qt s:Nat)):=by
 refine ajZ.aV ?_;simp only[aU,z2_,Nat.reduceAdd];obtain⟨U,h2⟩:=av4 (qt s) (FN h).1;simp only[am,yC,Qe,aJ h,show V.int .u64 285870213051353865 = .int .u64 ((285870213051353865#64:br).toNat:Nat) from rfl,awB];rw[BitVec.zero_sub,apH h];generalize hj:((mA (qt s)*285870213051353865#64)>>>58).toNat=j at U h2;have e58:∀a:br,iJ .u64 (a.toNat:Nat) 58 .shr=aa (.int .u64 ((a>>>58).toNat:Nat)):=λa=>Kb (m:=58)
 simp only[am,cX,e58,hj];refine jC ?_;have hd:bP ar 1 (yA.drop j)=aa (.int .u8 (qt s:Nat)):=by
  obtain⟨h3,h4⟩:=fy.1 h2;have h5:j<yA.length:=by simpa [yA] using h3
  rw[nr h5];simp[bP,yA,h4]
 rw[show(((j:Nat):Int).toNat)*1=j by omega];simp only[am,show D.b8 1=aa yA from hg,hd,wrap_i64 (x:=((qt s:Nat):Int)) (by omega) (by have:=(FN h).1;omega)];exact rt
def z4_:=af @am <| af @aI <| af @yC @Qe
def ae6(f:FuncId)(cap:List V)(hn:bT cap=ab)(J:List Nat->ah->Prop)(s:br)(hg:∀l D,J l D->TZ D)
 (h:∀pre k Zz D,e9 s=pre++k::Zz->J pre D->ch prog f (.int .i64 (k:Nat)::cap) D λv σ' => v = .bool ab/\J (pre++[k]) σ')
 {D:ah} (h0:J [] D):ch prog 305 [.int .u64 (s.toNat:Nat),.fn (.func f) [] cap] D λv σ' => v = .bH []/\J (e9 s) σ' := by
 refine ajR.aV ?_;simp only[aU,Qq,Nat.reduceAdd];refine cn ((e9 s).length) (λi (x:br × ah)=>⟨[.int .u64 (x.1.toNat:Nat),.fn (.func f) [] cap]++aq 13 .any,[],x.2⟩) (λi x=>(e9 x.1=(e9 s).drop i/\J ((e9 s).take i) x.2)) λF hF JF aT=>⟨?_,?_,?_⟩
 .exact en aT ((s,D)) (⟨rfl,h0⟩)
 .rintro i ⟨x,D⟩ hi ⟨U,h2⟩;simp only at U h2;have hx:x≠0#64:=aoy (by rw[U];simp;omega);rw[nr hi] at U;have hl:=Wh hx;rw[U,iE] at hl;obtain⟨C_,iu⟩:=hl;simp only[hF,aq,am,w_,aJ hx];refine cl (av5 x hx (hg _ _ h2)) ?_;simp only[am];simp only[am,hn];rw[<-C_];refine(h _ _ ((e9 s).drop (i+1)) D (by rw[<-nr hi,rG]) h2).mono ?_;rintro v σ' ⟨rfl,h3⟩;simp only[z4_];exact nx aT ((x&&&(x - 1#64),σ')) hi (⟨iu.symm,by rw[iG hi];exact h3⟩)
 .rintro⟨x,D⟩ ⟨U,h2⟩;simp only[D6,dX] at U h2;have hx:=aoA U;subst hx;simp only[hF,aq,am,aI,b9,aI];exact aX rfl (ah.bm _) ⟨rfl,h2⟩
def Bx(dE D:ah)(b:Nat)(tk:Tk)(rows:List (List V)):Prop:=D.box b=aa [.sl tk 1 rows]/\Gr dE D tk rows.length/\dE.box b=aj
def aow(n:Int){dE:ah}{b:Nat}{tk:Tk}{l:List Int}(h:Bx dE D b tk (cy l))(hl:l.length<=100000):
 ch prog 306 [.int .i64 n,.ptr (.out b) 0] D λv σ' => v = .bool ab/\∃fD,Bx dE σ' b fD (cy (l++[n])):=by
 refine ajS.aV ?_;simp only[aU,am,a7,Nat.reduceAdd];obtain⟨U,h2,h3⟩:=h;simp only[am,U];refine Gr.app h2 (by simp[cy,aQ];omega) λfD σ' hG hB _=>?_
 simp only[am,show σ'.box b=aa [.sl tk 1 (cy l)] by rw[hB,U]];refine aX rfl (ah.bm _) ⟨rfl,fD,?_,?_,h3⟩
 .simp[ah.set,cy]
 .refine⟨⟨λc cs hc=>?_,hG.sub.2⟩,?_⟩
  .rw[ah.eY]
   .exact hG.sub.1 c cs hc
   .rintro rfl;rw[h3] at hc;simp at hc
  .simpa [cy,ah.set] using hG.tk
def Ol(s:br)(hg:TZ D):a8 293 [.int .u64 (s.toNat:Nat)] D (.sl .no 1 (cy ((e9 s).map Int.ofNat))):=by
 refine ajE.aV ?_;simp only[aU,am,a7,Nat.reduceAdd];refine kY λb hb=>?_
 simp only[am];have hl:=FL s;refine(ae6 _ _ rfl (λl σ' => ∃tk,Bx D σ' b tk (cy (l.map Int.ofNat))) s ?_ ?_ ⟨.aZ,?_⟩).mono ?_
 .rintro l σ' ⟨tk,U,h2,h3⟩;exact h2.sub.2.2 _ _ hg
 .rintro pre k Zz σ' hs ⟨tk,h⟩
  have:pre.length<=64:=by rw[hs] at hl;simp at hl;omega
  have:=aow k h (by simp;omega)
  simpa using this
 .exact⟨iS,⟨jg hb,.inl rfl⟩,hb⟩
 .rintro v σ' ⟨rfl,tk,U,h2,h3⟩;simp only[am,U];exact aX rfl h2.sub ⟨rfl,rfl⟩
def ah9:aS prog 199 (sq [rg 0 [ox 1 65 0,oR 2 mY],rg 7 [ol 65 1,oC 246 [7],oR 3 mY,o2 65 3],sq [rg 9 [fo 0 3,oi 0],lp 10 0 (sq [rg 13 [om 11,o1 4],rg 14 [om 4,om 4,of 1 3,oP 64 1 16 15,no,om 4,oC 247 [18,19],of 1 3,oP 64 1 21 14,os 1 22 20]]) 23],sq [rg 24 [fo 0 3,oi 0],lp 25 2 (sq [rg 28 [om 26,o1 5],rg 29 [fo 0 3,oi 0],lp 30 4 (sq [rg 33 [om 31,o1 6],rg 34 [om 6,of 1 3,oP 64 1 35 34,no,om 5,oC 248 [37,38]],ci 39 (dg 40 [om 6,of 1 3,oP 64 1 41 40,no,om 5,of 1 3,oP 64 1 45 44,no,nb .or 43,of 1 3,oP 64 1 49 40,os 1 50 48])]) 51]) 52],rg 53 [ol 65 3,o2 65 2],.ret]) [.cell 2 ab 65] 54:=aW func199
def ait:aS prog 220 (sq [rg 2 [ox 1 65 0,oz 2],sq [rg 4 [ol 65 1,oC 266 [4],nn],cr 6 2 [oz 2]],sq [rg 7 [ol 65 1,oC 267 [7],oi 0],lp 8 0 (sq [rg 11 [om 9,o1 3],rg 12 [ol 65 1,om 3,oC 268 [12,13],om 3,n1 1,oC 269 [16],nb .neq 14],cr 18 2 [oz 2]]) 19],rg 2 [oq (.mv (.c (.bool ab)))],.ret]) [.tmp 2] 20:=aW func220
def aiT:aS prog 246 (sq [rg 0 [ox 1 65 0,oR 2 mY],rg 5 [ol 65 1,oC 267 [5],oY mY [(0,1,.s 6)],oR 3 mY,o2 65 3],sq [rg 8 [fo 0 3,oi 0],lp 9 0 (sq [rg 12 [om 10,o1 4],rg 13 [om 4,ol 65 1,om 4,oC 284 [14,15],of 1 3,oP 64 1 17 13,os 1 18 16]]) 19],rg 20 [ol 65 3,o2 65 2],.ret]) [.cell 2 ab 65] 21:=aW func246
def aiW:aS prog 249 (sq [rg 0 [oR 2 mY],rg 3 [om 0,oY mY [(0,1,.s 3)],oC 267 [4],oY mY [(0,1,.s 5)],o2 65 2],.ret]) [.cell 2 ab 65] 7:=aW func249
def ajd:aS prog 266 (sq [rg 2 [ox 1 65 0,oz 2],dg 3 [ol 65 1,oC 246 [3],mM [0],ol 65 1,oC 199 [5],oq (.l8 ar JE (.s 4) (.s 6)),o1 2],.ret]) [.tmp 2] 8:=aW func266
def aje:aS prog 267 (sq [rg 2 [ox 1 65 0,oi 0],rg 3 [fo 0 1,oq (.own .min [(.s 4),(.c (.int .i64 64))]),oq (.own .max [(.c (.int .i64 0)),(.s 5)]),o1 2],.ret]) [.tmp 2] 7:=aW func267
def ajf:aS prog 268 (sq [rg 4 [ox 2 65 0,oz 4],rg 6 [om 1,n1 1,oC 269 [7],o1 5],dg 9 [ol 65 2,om 5,oC 291 [9,10],mM [0],ol 65 2,om 5,oC 292 [12,13],nb .and 11,o1 4],.ret]) [.tmp 4] 16:=aW func268
def ajv:aS prog 284 (sq [rg 4 [ox 2 65 0,oz 4],dg 5 [om 1,of 1 2,oP 64 1 6 5,mM [1,2],no,ol 65 2,oC 267 [9],oC 303 [10],nb .and 8,o1 4],.ret]) [.tmp 4] 13:=aW func284
def ajC:aS prog 291 (sq [rg 4 [ox 2 65 0,oz 4],rg 5 [oz 4],sq [rg 8 [om 1,ol 65 2,oC 267 [9],oC 303 [10],nb .and 8,oC 293 [12],nL,oi 0],lp 14 0 (sq [rg 17 [oA 1 13 15,no,o1 7],rg 19 [om 5,ol 65 2,om 7,oC 284 [20,21],nb .or 19,o1 5]]) 24],rg 25 [om 5,o1 4],.ret]) [.tmp 4] 26:=aW func291
def ajD:aS prog 292 (sq [rg 4 [ox 2 65 0,oz 4],rg 5 [oz 4],sq [rg 7 [ol 65 2,oC 267 [7],oi 0],lp 8 0 (sq [rg 11 [om 9,o1 6],rg 12 [ol 65 2,om 6,oC 284 [12,13],om 1,nb .and 14,oq (.dU .neq (.s 16) (.c (.int .u64 0)))],ci 17 (rg 18 [om 5,om 6,oC 247 [18,19],o1 5])]) 21],rg 22 [om 5,o1 4],.ret]) [.tmp 4] 23:=aW func292
def ajJ:aS prog 298 (sq [rg 4 [ox 2 65 0,ox 3 65 1,oz 2],dg 5 [ol 65 2,oC 246 [5],mM [0],ol 65 3,oC 246 [7],oq (.l8 ar JE (.s 6) (.s 8)),o1 4],.ret]) [.tmp 4] 10:=aW func298
def z5_:=af @am <| af @qM <| af @a7 @Rl.al
def B2(r:Rl)(D:ah):a8 267 [.agg r.enc] D (.int .i64 (bd r:Nat)):=by
 refine aje.aV ?_;simp only[aU,z5_,Nat.reduceAdd];refine apr ?_;simp only[am,qM];refine apm ?_;simp only[am];refine aL ?_;simp[V.erase];simp only[bd];split<;>split<;>omega
def s_:=af @am <| af @cX <| af @a7 <| af @sa @Rl.al
def z7_:=af @am <| af @Rl.al <| af @gi @se
def Ph(r:Rl)(i:Nat)(h:i<64)(D:ah):a8 284 [.agg r.enc,.int .i64 (i:Nat)] D (.int .u64 ((iC r i).toNat:Nat)):=by
 refine ajv.aV ?_;simp only[aU,s_,Nat.reduceAdd];refine jC ?_;simp only[z7_,Rl.ud h];refine bK.intro (B2 r D) ?_;simp only[am];refine bK.intro (FR _ D) ?_;simp only[am,yC];refine⟨⟨Rl.ud h,Rl.ud h⟩,?_⟩;refine aL ?_;simp[V.erase,iC]
def Ch:=af @am <| af @aI <| af @gi @se
def Jt(r:Rl)(D:ah):a8 246 [.agg r.enc] D (.agg (lf r).enc):=by
 refine aiT.aV ?_;simp only[aU,am,a7,Nat.reduceAdd,Rl.al];refine cl (B2 r D) ?_;simp only[am,Nat.reduceAdd,Rl.al];have hp:=@je r;refine cn (bd r) (λi (x:Unit)=>⟨[.agg r.enc,.ptr (.aE 0) 0,.ptr (.aE 1) 0,.ptr (.aE 2) 0,.any,.any,.any,.any,.any,.int .i64 (bd r:Nat),.int .i64 (i:Nat)]++aq 10 .any,[r.enc,Rl.zero.enc,(Rl.of (bd r:Nat) λj=>if j<i then iC r j else 0#64).enc],D⟩) (λi x=>(True)) λF hF JF aT=>⟨?_,?_,?_⟩
 .refine en aT (()) (trivial) ?_ ?_ ?_
  all_goals simp[hF,aq,am,bt,Rl.Ki,Rl.yf]
 .rintro i x hi -;simp only[hF,aq,am,cc hi,Rl.al];refine cl (Ph r i (by omega) D) ?_;simp only[am,cX];refine jC ?_;simp only[Ch,Rl.Aq (show i<64 by omega),Rl.Ar (show i<64 by omega),bJ hi];refine nx aT (()) hi (trivial) ?_ ?_ ?_
  all_goals simp[hF,aq,am,bt,Rl.fill]
 .rintro x -;simp only[hF,aq,am,aI,cE,aI,Rl.al];refine aL ?_;simp[V.erase,lf,Rl.dL]
def WL(n:Int)(D:ah):a8 249 [.int .i64 n] D (.agg (Rl.of (min n.toNat 64:Nat) λ_=>0#64).enc):=by
 refine aiW.aV ?_;simp only[aU,am,a7,Nat.reduceAdd,Rl.al];refine cl (B2 _ D) ?_;simp only[am,Rl.al];refine aL ?_;simp only[V.erase,Rl.dL,Rl.Ki];rfl
def YS(r s:Rl)(D:ah):a8 298 [.agg r.enc,.agg s.enc] D (.bool (decide (lf r=lf s))):=by
 refine ajJ.aV ?_;simp only[aU,am,a7,Nat.reduceAdd,Rl.al];refine bK.intro (Jt r D) ?_;simp only[am,Rl.al];refine bK.intro (Jt s D) ?_;simp only[am,Rl.al];exact rt
def J5(r:Rl)(w:br)(hg:TZ D):a8 291 [.agg r.enc,.int .u64 (w.toNat:Nat)] D (.int .u64 ((w8 r w).toNat:Nat)):=by
 refine ajC.aV ?_;simp only[aU,s_,Nat.reduceAdd];refine cl (B2 r D) ?_;simp only[am];refine cl (FR _ D) ?_;simp only[am,yC];refine cl (Ol _ hg) ?_;simp only[am,aN,sM];generalize hl:e9 (w&&&fY ↑(bd r))=l;have aD:∀k∈l,k<64:=λk hk=>aox (hl▸hk)
 have hlen:l.length<=64:=hl▸FL _;refine cn (l.length) (λi (x:Unit)=>⟨[.agg r.enc,.any,.ptr (.aE 0) 0,.any,.any,.int .u64 (((l.take i).foldl (λo i=>o|||iC r i) 0#64).toNat:Nat),.any,.any,.any,.any,.any,.any,.any,.sl .no 1 (cy (l.map Int.ofNat)),.int .i64 (l.length:Nat),.int .i64 (i:Nat)]++aq 10 .any,[r.enc],D⟩) (λi x=>(True)) λF hF JF aT=>⟨?_,?_,?_⟩
 .refine en aT (()) (trivial) ?_ ?_ ?_
  all_goals simp[hF,aq,am,bt]
 .rintro i x hi -;simp only[hF,aq,am,cc hi];refine ix (Bz (l:=l.map Int.ofNat) (by simpa using hi)) ?_;simp only[am,Rl.al,AL,AG];refine cl (Ph r l[i] (aD _ (dj hi)) D) ?_;simp only[am,aI,DU,bJ hi];refine nx aT (()) hi (trivial) ?_ ?_ ?_
  all_goals simp[hF,aq,am,bt,TE hi]
 .rintro x -;simp only[hF,aq,am,aI,cE,aI,dX];refine aL ?_;simp[V.erase,w8,hl]
def Lu(r:Rl)(w:br)(D:ah):a8 292 [.agg r.enc,.int .u64 (w.toNat:Nat)] D (.int .u64 ((y4 r w).toNat:Nat)):=by
 refine ajD.aV ?_;simp only[aU,s_,Nat.reduceAdd];refine cl (B2 r D) ?_;simp only[am];have hp:=@je r;refine cn (bd r) (λi (x:Unit)=>⟨[.agg r.enc,.int .u64 (w.toNat:Nat),.ptr (.aE 0) 0,.any,.any,.int .u64 (((bA i).foldl (λo i=>if iC r i&&&w=0#64 then o else ln o (i:Nat)) 0#64).toNat:Nat),.any,.any,.int .i64 (bd r:Nat),.int .i64 (i:Nat)]++aq 13 .any,[r.enc],D⟩) (λi x=>(True)) λF hF JF aT=>⟨?_,?_,?_⟩
 .exact en aT (()) (trivial)
 .rintro i x hi -;simp only[hF,aq,am,cc hi,Rl.al];refine cl (Ph r i (by omega) D) ?_;simp only[am,yC,w_]
  by_cases h:iC r i&&&w=0#64
  .simp only[am,aI,aK h,bJ hi];refine nx aT (()) hi (trivial) ?_ ?_ ?_
   all_goals simp[hF,aq,am,bt,za,h]
  .simp only[am,aJ h];refine cl (FU _ _ D) ?_;simp only[am,aI,bJ hi];refine nx aT (()) hi (trivial) ?_ ?_ ?_
   all_goals simp[hF,aq,am,bt,za,h]
 .rintro x -;simp only[hF,aq,am,aI,cE,aI];refine aL ?_;simp[V.erase,y4]
variable{i:Nat}
def adB{r:Rl}(hi:i<bd r):(Rl.of (bd r:Nat) λj=>if j<bd r then(if j<i then ln (iC r j) (j:Nat) else iC r j) else 0#64).put i (ln (iC r i) (i:Nat))=Rl.of (bd r:Nat) λj=>if j<bd r then(if j<i+1 then ln (iC r j) (j:Nat) else iC r j) else 0#64:=by
 refine Rl.ext rfl λk hk=>?_
 rw[Rl.CW,Rl.nz hk,Rl.nz hk]
 by_cases h:i=k
 .subst h;simp[hk,hi]
 .rw[aB (by omega)]
  by_cases h2:k<i
  .simp[h2,show k<i+1 by omega]
  .simp[h2,show ¬k<i+1 by omega]
def adA{r:Rl}(hi:i<bd r):(Rl.of (bd r:Nat) λj=>if j<bd r then(if j<i then ln (iC r j) (j:Nat) else iC r j) else 0#64).get i=iC r i:=by
 rw[Rl.nz (ur hi je),aF hi,aB (Nat.lt_irrefl _)]
def adz{r:Rl}:(Rl.of (bd r:Nat) λj=>if j<bd r then(if j<bd r then ln (iC r j) (j:Nat) else iC r j) else 0#64)=vR r:=by
 refine Rl.ext rfl λk hk=>?_
 rw[Rl.nz hk,vR,Rl.nz hk];split<;>rfl
variable{k:Nat}
def Vr{n:Nat}{o:Rl}:me (n+1) k o=yr k (me n k o) n:=za
theorem amT{o:Rl}:me 0 k o=o:=rfl
theorem arp{r:Rl}:lP r 0=vR r:=rfl
theorem ar9{r:Rl}:(lf r).n=(bd r:Nat):=rfl
def avq{o:Rl}(h:hasB (o.get i) (k:Nat)=ab):yr k o i=o.put i (o.get i|||o.get k):=by rw[yr,aF h]
def avp{o:Rl}(h:hasB (o.get i) (k:Nat)=ar):yr k o i=o:=by rw[yr,h];rfl
def z9_:=af @am <| af @cX <| af @gi @se
def axC:=af @am <| af @cX <| af @DU <| af @gi @se
def Sc(r:Rl)(D:ah):a8 199 [.agg r.enc] D (.agg (l6 r).enc):=by
 refine ah9.aV ?_;simp only[aU,am,a7,Nat.reduceAdd,Rl.al];refine cl (Jt r D) ?_;simp only[am,Nat.reduceAdd,Rl.al,ar9];have hp:=@je r;refine cn (bd r) (λi (x:Unit)=>⟨[.any,.ptr (.aE 0) 0,.ptr (.aE 1) 0,.ptr (.aE 2) 0,.any,.any,.any,.any,.any,.any,.int .i64 (bd r:Nat),.int .i64 (i:Nat)]++aq 42 .any,[r.enc,Rl.zero.enc,(Rl.of (bd r:Nat) λj=>if j<bd r then(if j<i then ln (iC r j) (j:Nat) else iC r j) else 0#64).enc],D⟩) (λi x=>(True)) λF hF JF aT=>⟨?_,?_,?_⟩
 .refine en aT (()) (trivial) ?_ ?_ ?_
  all_goals simp[hF,aq,am,bt,lf]
 .rintro i x hi -;simp only[hF,aq,am,cX,cc hi];have xJ:i<64:=by omega
  refine jC ?_;simp only[am,gi,se,Rl.ud xJ,adA hi];refine cl (FU _ _ D) ?_;simp only[am,cX];refine jC ?_;simp only[Ch,Rl.Aq xJ,Rl.Ar xJ,bJ hi];refine nx aT (()) hi (trivial) ?_ ?_ ?_
  all_goals simp[hF,aq,am,bt,adB hi]
 .rintro x -;simp only[hF,aq,am,aI,cE,aI,Rl.al,Rl.yf];rw[adz];clear hF F;refine cn (bd r) (λk (x:Unit)=>⟨[.any,.ptr (.aE 0) 0,.ptr (.aE 1) 0,.ptr (.aE 2) 0,.any,.any,.any,.any,.any,.any,.any,.any,.any,.any,.any,.any,.any,.any,.any,.any,.any,.any,.any,.any,.any,.int .i64 (bd r:Nat),.int .i64 (k:Nat)]++aq 27 .any,[r.enc,Rl.zero.enc,(lP r k).enc],D⟩) (λk x=>(True)) λF hF JF aT=>⟨?_,?_,?_⟩
  .refine en aT (()) (trivial) ?_ ?_ ?_
   all_goals simp[hF,aq,am,bt,arp]
  .rintro k x hi -;simp only[hF,aq,am,cc hi,Rl.al,Jm];refine cn (bd r) (λi (x:Unit)=>⟨[.any,.ptr (.aE 0) 0,.ptr (.aE 1) 0,.ptr (.aE 2) 0,.any,.int .i64 (k:Nat),.any,.any,.any,.any,.any,.any,.any,.any,.any,.any,.any,.any,.any,.any,.any,.any,.any,.any,.any,.int .i64 (bd r:Nat),.int .i64 (k:Nat),.any,.any,.any,.int .i64 (bd r:Nat),.int .i64 (i:Nat)]++aq 22 .any,[r.enc,Rl.zero.enc,(me i k (lP r k)).enc],D⟩) (λi x=>(True)) λF2 bZ pU df=>⟨?_,?_,?_⟩
   .refine en df (()) (trivial) ?_ ?_ ?_
    all_goals simp[bZ,aq,am,bt,amT]
   .rintro i x hj -;have E8:i<64:=by omega
    have amb:k<64:=by omega
    simp only[bZ,aq,am,cX,cc hj];refine jC ?_;simp only[am,gi,se,Rl.ud E8];refine cl (apk _ _ D) ?_;simp only[am];refine fx (λhb=>?_) (λhb=>?_)
    .simp only[am,cX];refine jC ?_;simp only[z9_,Rl.ud E8];refine jC ?_;simp only[axC,Rl.ud amb];refine jC ?_;simp only[Ch,Rl.Aq E8,Rl.Ar E8,bJ hj];refine nx df (()) hj (trivial) ?_ ?_ ?_
     all_goals simp[bZ,aq,am,bt,Vr,avq hb]
    .simp only[am,aI,bJ hj];refine nx df (()) hj (trivial) ?_ ?_ ?_
     all_goals simp[bZ,aq,am,bt,Vr,avp hb]
   .rintro x -;simp only[bZ,aq,am,aI,cE,Nat.reduceEqDiff,aI,Rl.al,bJ hi];refine nx aT (()) hi (trivial) ?_ ?_ ?_
    all_goals simp[hF,aq,am,bt,Jn]
  .rintro x -;simp only[hF,aq,am,aI,cE,aI,Rl.al];exact aX (v:=.agg (l6 r).enc) Rl.dV (ah.bm _) ⟨by simp only[V.erase,Rl.dL],rfl⟩
def R9(r:Rl)(D:ah):a8 266 [.agg r.enc] D (.bool (qO r)):=by
 refine ajd.aV ?_;simp only[aU,am,a7,Nat.reduceAdd,Rl.al];refine bK.intro (Jt r D) ?_;simp only[am,Rl.al];refine bK.intro (Sc r D) ?_;simp only[am,Rl.al];refine aL ?_;simp[V.erase,qO]
def apu(r:Rl)(i:Nat)(hg:TZ D):a8 268 [.agg r.enc,.int .i64 (i:Nat)] D (.int .u64 ((zR r i).toNat:Nat)):=by
 refine ajf.aV ?_;simp only[aU,s_,Nat.reduceAdd];refine ch.eC (as' := [.sl .no 1 (cy [(i:Int)])]) ?_ ⟨dp.no,trivial⟩ bW.rfl;refine cl (FT [(i:Int)] D (by simp)) ?_;simp only[am,Rl.al];refine bK.intro (J5 r _ hg) ?_;simp only[am,Rl.al];refine bK.intro (Lu r _ D) ?_;simp only[am,yC,Rl.al];refine aL ?_;simp[V.erase,zR]
def arj(r:Rl)(hg:TZ D):a8 220 [.agg r.enc] D (.bool (rl r)):=by
 refine ait.aV ?_;simp only[aU,am,a7,Nat.reduceAdd,Rl.al];refine cl (R9 r D) ?_;simp only[am];refine fx (λhb=>?_) (λhb=>?_)
 .have hb:qO r=false:=by simpa using hb
  simp only[am];refine aL ?_;simp[V.erase,rl,hb]
 .have hb:qO r=true:=by simpa using hb
  simp only[am,Rl.al];refine cl (B2 r D) ?_;simp only[am];have hp:=@je r;refine cn (bd r) (λi (x:Unit)=>⟨[.any,.ptr (.aE 0) 0,.any,.any,.any,.any,.any,.any,.int .i64 (bd r:Nat),.int .i64 (i:Nat)]++aq 10 .any,[r.enc],D⟩) (λi x=>(∀k,k<i->zR r k=gK [(k:Int)])) λF hF JF aT=>⟨?_,?_,?_⟩
  .exact en aT (()) (by intro k h;omega)
  .rintro i x hi hJ;simp only[hF,aq,am,cc hi,Rl.al];refine cl (apu r i hg) ?_;simp only[am];refine ch.eC (as' := [.sl .no 1 (cy [(i:Int)])]) ?_ ⟨dp.no,trivial⟩ bW.rfl;refine cl (FT [(i:Int)] _ (by simp)) ?_;simp only[am,w_]
   by_cases h:zR r i=gK [(i:Int)]
   .simp only[am,aI,aK h,bJ hi];exact nx aT (()) hi (λk hk=>if e:k=i then e▸h else hJ k (by omega))
   .have hA:uy r=false:=by
     cases hq:uy r with
     | false=>rfl
     | true=>exact absurd ((Rq hb).1 hq i hi) h
    simp only[am,aI,aJ h];refine aL ?_;simp[V.erase,rl,hA]
  .rintro x hJ;have hA:uy r=true:=(Rq hb).2 hJ;simp only[hF,aq,am,aI,cE,aI];refine aL ?_;simp[V.erase,rl,hb,hA]
def ajK:aS prog 299 (sq [rg 2 [ox 1 65 0,oz 2],rg 3 [fo 0 1,nB .geq 1,gA,fo 0 1,nB .leq 8,gZ,gA,ol 65 1,oC 266 [12],gZ,o1 2],.ret]) [.tmp 2] 15:=aW func299
def ajM:aS prog 300 (sq [rg 6 [ox 3 65 0,od (aa 4) (.gS 1 (.s 1)),oz 4],sq [rg 8 [ol 65 3,oo 4,oC 308 [8,9],nn],cr 11 6 [oz 4]],dA 12 [7] [fo 0 3,oC 303 [13],mM [0],ol 65 3,om 2,oC 291 [15,16],nb .andNot 14,oN,oX 7 1 18],.qG (dg 19 [mM [1],ol 65 3,ol 65 3,oq (.ky (.func 311) [] [(.s 4),(.s 7)]),oC 310 [20,21],oC 309 [19,22],o1 6]),.ret]) [.tmp 6] 24:=aW func300 ⟨[4],[4]⟩
def ajO:aS prog 302 (sq [rg 4 [oz 4,oz 2],sq [rg 6 [om 0,oC 312 [6],nn,gB,om 1,nB .lss 0,gZ,gB,om 1,om 0,nb .geq 14,gZ],cr 17 4 [oz 4,oz 2]],rg 18 [om 1,oC 303 [18],o1 4,oV 5 (.bool ab)],.ret]) [.tmp 4,.tmp 5] 20:=aW func302
def ajU:aS prog 308 (sq [rg 4 [ox 2 65 0,oz 2],rg 5 [ol 65 2,oC 299 [5],gA,om 1,nB .geq 0,gZ,gA,om 1,fo 0 2,nb .lss 12,gZ,o1 4],.ret]) [.tmp 4] 17:=aW func308
def ajV:aS prog 309 (sq [rg 4 [od (aa 2) (.gS 65 (.s 0)),od (aa 3) (.gS 1 (.s 1)),oz 4],sq [rg 5 [ol 65 2,oC 299 [5],nn],cr 7 4 [oz 4]],rg 8 [ol 65 2,oq (.ky (.func 315) [] [(.s 2),(.s 3)]),oC 310 [8,9],o1 4],.ret]) [.tmp 4] 11:=aW func309 ⟨[2,3],[]⟩
def ajW:aS prog 310 (sq [rg 4 [ox 2 65 0,oz 4],rg 5 [oz 4],sq [rg 7 [fo 0 2,oi 0],lp 8 0 (sq [rg 11 [om 9,o1 6],rg 12 [om 5,om 1,om 6,oq (.jj (.s 13) [(.s 14)]),om 6,oq (.dU .mul (.c (.int .i64 8)) (.s 16)),oq (.qP .u64 (.s 17)),nb .shl 15,nb .or 12,o1 5]]) 21],rg 22 [om 5,o1 4],.ret]) [.tmp 4] 23:=aW func310
def ajX:aS prog 311 (sq [rg 4 [oz 4],sq [rg 5 [om 0,oo 1,nb .eql 5],cr 7 8 [oo 2,o1 4]],rg 4 [oz 4],.ret]) [.tmp 4] 9:=aW func311
def ajY:aS prog 312 (sq [rg 2 [oz 2],rg 3 [om 0,nB .geq 1,gA,om 0,nB .leq 64,gZ,o1 2],.ret]) [.tmp 2] 9:=aW func312
def aj1:aS prog 315 (sq [rg 4 [oz 4],rg 5 [oz 4],sq [dg 8 [mM [1],ol 65 1,om 0,n1 1,oC 269 [10],oC 291 [8,11],oC 293 [12],nL,oi 0],lp 14 0 (sq [rg 17 [oA 1 13 15,no,o1 7],dg 19 [om 5,mM [1],ol 65 1,ol 65 1,oo 2,om 7,oC 316 [21,22,23],oC 292 [20,24],nb .or 19,o1 5]]) 27],rg 28 [om 5,o1 4],.ret]) [.tmp 4] 29:=aW func315
def aj2:aS prog 316 (sq [rg 6 [ox 3 65 0,oz 4],rg 7 [om 1,om 2,oq (.dU .mul (.c (.int .i64 8)) (.s 8)),oq (.qP .u64 (.s 9)),nb .shr 7,fo 0 3,oC 303 [13],nb .and 11,o1 6],.ret]) [.tmp 6] 16:=aW func316
def adu(n:Int)(D:ah):a8 312 [.int .i64 n] D (.bool (decide (1<=n)&&decide (n<=64))):=by
 refine ajY.aV ?_;simp only[aU,am,a7,Nat.reduceAdd]
 by_cases h:1<=n
 .simp only[am,aK h];refine aL ?_;simp[V.erase]
 .simp only[am,aJ h];refine aL ?_;simp[V.erase]
def DS(p:br × Bool):V:=.bH [.int .u64 (p.1.toNat:Nat),.bool p.2]
def auj(n k:Int)(D:ah):a8 302 [.int .i64 n,.int .i64 k] D (DS (pM n k)):=by
 refine ajO.aV ?_;simp only[aU,am,a7,Nat.reduceAdd,sa];refine cl (adu n D) ?_
 by_cases h:1<=n/\n<=64
 .simp only[am,aK h.1,aK h.2]
  by_cases h2:k<0
  .simp only[am,aK h2];refine aL ?_;simp[V.erase,bD,DS,pM,show ¬0<=k by omega]
  .simp only[am,aJ h2]
   by_cases h3:n<=k
   .simp only[am,aK h3];refine aL ?_;simp[V.erase,bD,DS,pM,show ¬k<n by omega]
   .simp only[am,aJ h3];refine cl (FR k D) ?_;simp only[am];refine aL ?_;simp[V.erase,bD,DS,pM,h,show 0<=k by omega,show k<n by omega]
 .have e:(decide (1<=n)&&decide (n<=64))=false:=by simp only[D4,xw];omega
  have e2:pM n k=(0#64,ar):=by simp only[pM];rw[aB (by omega)]
  simp only[am,e];refine aL ?_;simp[V.erase,bD,DS,e2]
def L9(r:Rl)(D:ah):a8 299 [.agg r.enc] D (.bool (gW r)):=by
 refine ajK.aV ?_;simp only[aU,am,a7,Nat.reduceAdd,Rl.al]
 by_cases h:1<=r.n
 .simp only[am,Rl.al,aK h]
  by_cases h2:r.n<=8
  .simp only[am,Rl.al,aK h2];refine cl (R9 r D) ?_;simp only[am];refine aL ?_;simp[V.erase,gW,h,h2]
  .simp only[am,aJ h2];refine aL ?_;simp[V.erase,gW,h2]
 .simp only[am,aJ h];refine aL ?_;simp[V.erase,gW,h]
def als(r:Rl)(w:br)(o:Nat)(ho:o<64)(D:ah):a8 316 [.agg r.enc,.int .u64 (w.toNat:Nat),.int .i64 (o:Nat)] D (.int .u64 ((Dx r w o).toNat:Nat)):=by
 refine aj2.aV ?_;simp only[aU,s_,Nat.reduceAdd];rw[wrap_i64,wrap_u64 (by omega) (by omega),show(8:Int)*(o:Nat)=((8*o:Nat):Int) by omega];simp only[am,Kb,Rl.al];refine cl (FR r.n D) ?_;simp only[am,yC];refine aL ?_;simp[V.erase,Dx]
def axD:=af @am <| af @aI <| af @DU @Qd
def Ud(r:Rl)(n:Nat)(hn:r.n=n)(h8:n<=8)(f:FuncId)(cap:List V)(hc:bT cap=ab)(g:Nat->br)(D:ah)
 (h:∀o,o<n->ch prog f (.int .i64 (o:Nat)::cap) D λv σ' => v = .int .u64 ((g o).toNat:Nat)/\σ' = D) :
 a8 310 [.agg r.enc,.fn (.func f) [] cap] D (.int .u64 ((Aa n g).toNat:Nat)):=by
 refine ajW.aV ?_;simp only[aU,s_,Nat.reduceAdd];refine cn (n) (λi (x:Unit)=>⟨[.any,.fn (.func f) [] cap,.any,.any,.any,.int .u64 ((Aa i g).toNat:Nat),.any,.any,.int .i64 (n:Nat),.int .i64 (i:Nat)]++aq 13 .any,[r.enc],D⟩) (λi x=>(True)) λF hF JF aT=>⟨?_,?_,?_⟩
 .refine en aT (()) (trivial) ?_ ?_ ?_
  all_goals simp[hF,aq,am,bt,hn,Aa]
 .rintro i x hi -;simp only[hF,aq,am,cc hi,hc];refine(h i hi).mono ?_;rintro v σ' ⟨rfl,rfl⟩;simp only[am];rw[wrap_i64 (x:=8*((i:Nat):Int)),wrap_u64 (x:=8*((i:Nat):Int)) (by omega) (by omega),show(8:Int)*(i:Nat)=((8*i:Nat):Int) by omega];simp only[axD,bJ hi];refine nx aT (()) hi (trivial) ?_ ?_ ?_
  all_goals simp[hF,aq,am,bt,Aa,za]
 .rintro x -;simp only[hF,aq,am,aI,cE,aI];exact rt
def axE:=af @am <| af @aI <| af @DU @Rl.al
def ak9(r:Rl)(w:br)(o b1 b2:Nat)(hg:TZ D)(ho:o<bd r)(h8:bd r<=8)(U:D.box b1=aa r.enc)(h2:D.box b2=aa [.int .u64 (w.toNat:Nat)]):
 a8 315 [.int .i64 (o:Nat),.ptr (.out b1) 0,.ptr (.out b2) 0] D (.int .u64 ((CJ r w o).toNat:Nat)):=by
 refine aj1.aV ?_;simp only[aU,am,a7,Nat.reduceAdd,sa];simp only[am,Rl.al,U];refine bK.intro (ch.eC (as' := [.sl .no 1 (cy [(o:Int)])]) (FT [(o:Int)] D (by simp)) ⟨dp.no,trivial⟩ bW.rfl) ?_;simp only[am,Rl.al];refine bK.intro (J5 r _ hg) ?_;simp only[am];refine bK.intro (Ol _ hg) ?_;simp only[am,aN,Rl.al,sM,U];rw[show w8 r (gK [(o:Int)])=xn r o from rfl];generalize hl:e9 (xn r o)=l;have aD:∀k∈l,k<bd r:=λk hk=>by
  rw[<-hl,FV,KU] at hk;exact(i_ hk).2
 have hlen:l.length<=64:=hl▸FL _;have hp:=@je r;refine cn (l.length) (λi (x:Unit)=>⟨[.any,.ptr (.out b1) 0,.ptr (.out b2) 0,.any,.any,.int .u64 (((l.take i).foldl (λs p=>s|||y4 r (Dx r w p)) 0#64).toNat:Nat),.any,.any,.any,.any,.any,.any,.any,.sl .no 1 (cy (l.map Int.ofNat)),.int .i64 (l.length:Nat),.int .i64 (i:Nat)]++aq 13 .any,[],D⟩) (λi x=>(True)) λF hF JF aT=>⟨?_,?_,?_⟩
 .refine en aT (()) (trivial) ?_ ?_ ?_
  all_goals simp[hF,aq,am,bt]
 .rintro i x hi -;simp only[hF,aq,am,cc hi];refine ix (Bz (l:=l.map Int.ofNat) (by simpa using hi)) ?_;simp only[am,Rl.al,AL,AG,U,h2]
  have:=aD _ (dj hi)
  refine bK.intro (als r w l[i] (by omega) D) ?_;simp only[am,Rl.al];refine bK.intro (Lu r _ D) ?_;simp only[axE,U,bJ hi];refine nx aT (()) hi (trivial) ?_ ?_ ?_
  all_goals simp[hF,aq,am,bt,TE hi]
 .rintro x -;simp only[hF,aq,am,aI,cE,aI,dX];refine aL ?_;simp[V.erase,CJ,hl]
def ak_(r:Rl)(w:br)(hg:TZ D):a8 309 [.agg r.enc,.int .u64 (w.toNat:Nat)] D (.int .u64 ((lv r w).toNat:Nat)):=by
 refine ajV.aV ?_;simp only[aU,s_,Nat.reduceAdd];refine kY λb1 ek=>?_
 simp only[am];refine kY λb2 dx=>?_
 have a9:b1≠b2:=by rintro rfl;rw[iS] at dx;simp at dx
 have qm:=jg (cs:=r.enc) ek;have hs:=ah.DL qm (jg (cs:=[.int .u64 (w.toNat:Nat)]) dx);have e1:((D.set b1 r.enc).set b2 [.int .u64 (w.toNat:Nat)]).box b1=aa r.enc:=by rw[pf a9,iS]
 generalize wE:(D.set b1 r.enc).set b2 [V.int .u64 (w.toNat:Nat)]=bF at hs e1;have e2:bF.box b2=aa [.int .u64 (w.toNat:Nat)]:=by rw[<-wE,iS]
 simp only[am,Rl.al,e1];refine(L9 r bF).mono ?_;rintro v bF ⟨rfl,rfl⟩;simp only[am];cases wq:gW r with
 | false =>
  simp only[am];exact aX rfl hs ⟨by simp[lv,wq,V.erase],rfl⟩
 | true =>
  obtain⟨n,hn,hp,U,h8⟩:=xE wq;simp only[am,Rl.al,e1];refine(Ud r n hn h8 _ _ rfl (CJ r w) bF λo ho=>ak9 r w o b1 b2 (hs.2.2 _ _ hg) (by omega) (by omega) e1 e2).mono ?_;rintro v bF ⟨rfl,rfl⟩;simp only[am];exact aX rfl hs ⟨by simp[lv,wq,V.erase,hn],rfl⟩
def arv(r:Rl)(o:Nat)(D:ah):a8 308 [.agg r.enc,.int .i64 (o:Nat)] D (.bool (gW r&&decide ((o:Int)<r.n))):=by
 refine ajU.aV ?_;simp only[aU,am,a7,Nat.reduceAdd,Rl.al];refine cl (L9 r D) ?_;cases h:gW r with
 | false =>
  simp only[am];exact rt
 | true =>
  simp only[am,Rl.al,show decide ((0:Int)<=(o:Nat))=ab from aK (by omega)];exact rt
def alu(k o b:Nat)(w:br)(b2:Nat)(U:D.box b=aa [.int .i64 (o:Nat)])(h2:D.box b2=aa [.int .u64 (w.toNat:Nat)]):
 a8 311 [.int .i64 (k:Nat),.ptr (.out b) 0,.ptr (.out b2) 0] D (.int .u64 ((if k=o then w else 0#64).toNat:Nat)):=by
 refine ajX.aV ?_;simp only[aU,am,a7,Nat.reduceAdd,sa];simp only[am,U]
 by_cases h:k=o
 .simp only[am,aK (show(k:Int)=(o:Nat) by omega),h2];refine aL ?_;simp[V.erase,h]
 .simp only[am,aJ (show ¬(k:Int)=(o:Nat) by omega)];refine aL ?_;simp[V.erase,h]
def alw(r:Rl)(o:Nat)(d:br)(hg:TZ D):a8 300 [.agg r.enc,.int .i64 (o:Nat),.int .u64 (d.toNat:Nat)] D (.int .u64 ((yo r o d).toNat:Nat)):=by
 refine ajM.aV ?_;simp only[aU,s_,Nat.reduceAdd];refine kY λb1 ek=>?_
 simp only[am,Rl.al];have hs:=jg (cs:=[V.int .i64 (o:Nat)]) ek;have e1:(D.set b1 [V.int .i64 (o:Nat)]).box b1=aa [V.int .i64 (o:Nat)]:=iS;generalize wE:D.set b1 [V.int .i64 (o:Nat)]=bF at hs e1;refine(arv r o bF).mono ?_;rintro v bF ⟨rfl,rfl⟩;simp only[am];cases wq:gW r&&decide ((o:Int)<r.n) with
 | false =>
  simp only[am];exact aX rfl hs ⟨by simp[yo,wq,V.erase],rfl⟩
 | true =>
  have al5 := wq;rw[bg,bQ] at wq;obtain⟨n,hn,hp,U,h8⟩:=xE wq.1;simp only[am,Nat.reduceAdd,b9,Nat.reduceLT,Rl.al];refine bK.intro (FR r.n bF) ?_;simp only[am,Rl.al];refine bK.intro (J5 r d (hs.2.2 _ _ hg)) ?_;simp only[am,ZS,Rl.al];refine bI.asz (l:=[r.enc]) (cs:=[V.int .u64 ((fY r.n&&&~~~w8 r d).toNat:Nat)]) rfl λb2 dx=>?_
  rw[show fY r.n&&&~~~w8 r d=ya r d from rfl];have Fp:=ah.DL hs (jg (cs:=[V.int .u64 ((ya r d).toNat:Nat)]) dx);have a9:b1≠b2:=by rintro rfl;rw[e1] at dx;simp at dx
  have e2:(bF.set b2 [V.int .u64 ((ya r d).toNat:Nat)]).box b1=aa [V.int .i64 (o:Nat)]:=by rw[pf a9,e1]
  have e3:(bF.set b2 [V.int .u64 ((ya r d).toNat:Nat)]).box b2=aa [V.int .u64 ((ya r d).toNat:Nat)]:=iS;generalize bF.set b2 [V.int .u64 ((ya r d).toNat:Nat)]=eT at Fp e2 e3;simp only[am,Nat.reduceLT,reduceCtorEq,Rl.al,cz,fe,amp,XK (n:=1) (l:=r.enc) Rl.cP Rl.dV];refine bK.intro (Ud r n hn h8 _ _ rfl (λk=>if k=o then ya r d else 0#64) eT λk hk=>alu k o b1 (ya r d) b2 e2 e3) ?_;simp only[am,Rl.al];refine bK.intro (ak_ r _ (Fp.2.2 _ _ hg)) ?_;simp only[am,Rl.al];exact aX rfl Fp ⟨by rw[yo,al5,hn];rfl,rfl⟩
def ahP:aS prog 175 (sq [rg 2 [ox 1 65 0,oz 2],sq [rg 9 [fo 0 1,nB .lss 1,gB,fo 0 1,nB .gtr 64,gZ,gB,ol 65 1,oC 220 [18],nn,gZ],cr 21 2 [oz 2]],sq [rg 22 [fo 0 1,oi 0],lp 23 0 (sq [rg 26 [om 24,o1 3],rg 27 [om 3,oi 0],lp 27 2 (sq [rg 30 [om 28,o1 4],rg 32 [ol 65 1,om 3,om 4,oC 221 [32,33,34],o1 31,oe 31 0,oe 31 1,ot 5 36,o1 6],rg 39 [ol 65 1,om 3,om 4,oC 222 [39,40,41],o1 38,oe 38 0,oe 38 1,ot 7 43,o1 8],rg 45 [om 6,nn,gB,om 8,nn,gZ],cr 50 2 [oz 2]]) 51]) 52],rg 2 [oq (.mv (.c (.bool ab)))],.ret]) [.tmp 2] 53:=aW func175
def aiu:aS prog 221 (sq [rg 6 [ox 3 65 0,oi 0,oz 2],rg 8 [ol 65 3,om 1,om 2,oc 270 [.s 8,.s 9,.s 10,.c (.fn (.func 271) [] [])],oe 11 0,oe 11 1,ot 6 12,o1 7],.ret]) [.tmp 6,.tmp 7] 14:=aW func221
def aiv:aS prog 222 (sq [rg 6 [ox 3 65 0,oi 0,oz 2],rg 8 [ol 65 3,om 1,om 2,oc 270 [.s 8,.s 9,.s 10,.c (.fn (.func 272) [] [])],oe 11 0,oe 11 1,ot 6 12,o1 7],.ret]) [.tmp 6,.tmp 7] 14:=aW func222
def aji:aS prog 270 (sq [rg 8 [ox 4 65 0,oi 0,oz 2],dg 13 [om 3,ol 65 4,om 1,oq (.jj (.s 13) [(.s 14),(.s 15)]),om 3,mM [0],ol 65 4,om 2,oq (.jj (.s 17) [(.s 18),(.s 19)]),nb .and 16,o1 10],sq [rg 22 [om 10,oC 293 [22],nL,oi 0],lp 24 0 (sq [rg 27 [oA 1 23 25,no,o1 12],rg 29 [om 10,om 3,ol 65 4,om 12,oq (.jj (.s 30) [(.s 31),(.s 32)]),oC 294 [29,33]],cr 34 8 [ot 35 12,om 35,oq (.mv (.c (.bool ab)))]]) 36],rg 8 [oi 0,oz 2],.ret]) [.tmp 8,.tmp 9] 37:=aW func270
def ajj:aS prog 271 (sq [rg 4 [ox 2 65 0,oz 4],dg 5 [mM [1],ol 65 2,om 1,n1 1,oC 269 [7],oC 291 [5,8],o1 4],.ret]) [.tmp 4] 10:=aW func271
def ajk:aS prog 272 (sq [rg 4 [ox 2 65 0,oz 4],sq [rg 5 [ol 65 2,om 1,oC 295 [5,6],nn],cr 8 4 [oz 4]],dg 9 [mM [1],ol 65 2,om 1,n1 1,oC 269 [11],oC 292 [9,12],o1 4],.ret]) [.tmp 4] 14:=aW func272
def ajG:aS prog 295 (sq [rg 4 [ox 2 65 0,oz 2],rg 5 [om 1,nB .geq 0,gA,om 1,fo 0 2,oC 249 [10],ow 0 11,nb .lss 8,gZ,o1 4],.ret]) [.tmp 4] 15:=aW func295
def ajN:aS prog 301 (sq [rg 4 [ox 2 65 0,oz 4],rg 5 [ol 65 2,om 1,oC 272 [5,6],o1 4],.ret]) [.tmp 4] 8:=aW func301
def jP(o:Option Nat):V:=.bH [.int .i64 ((o.getD 0:Nat):Int),.bool o.isSome]
def WI:decide ((0:Int)<=(i:Nat))=true:=aK (by omega)
def al_(r:Rl)(i:Nat)(D:ah):a8 295 [.agg r.enc,.int .i64 (i:Nat)] D (.bool (decide (i<bd r))):=by
 refine ajG.aV ?_;simp only[aU,am,a7,Nat.reduceAdd,Rl.al];simp only[am,Rl.al,WI];refine cl (WL r.n D) ?_;simp only[am,Rl.al,Rl.yf];refine aL ?_;simp[V.erase,bd];rfl
def aaP(r:Rl)(i:Nat)(hg:TZ D):a8 271 [.agg r.enc,.int .i64 (i:Nat)] D (.int .u64 ((xn r i).toNat:Nat)):=by
 refine ajj.aV ?_;simp only[aU,s_,Nat.reduceAdd];refine bK.intro (ch.eC (as' := [.sl .no 1 (cy [(i:Int)])]) (FT [(i:Int)] D (by simp)) ⟨dp.no,trivial⟩ bW.rfl) ?_;simp only[am,Rl.al];refine bK.intro (J5 r _ hg) ?_;simp only[am,Rl.al];refine aL ?_;simp[V.erase,xn]
def RQ(r:Rl)(i:Nat)(D:ah):a8 272 [.agg r.enc,.int .i64 (i:Nat)] D (.int .u64 ((mz r i).toNat:Nat)):=by
 refine ajk.aV ?_;simp only[aU,s_,Nat.reduceAdd];refine cl (al_ r i D) ?_
 by_cases h:i<bd r
 .simp only[am,Rl.al,aK h];refine bK.intro (ch.eC (as' := [.sl .no 1 (cy [(i:Int)])]) (FT [(i:Int)] D (by simp)) ⟨dp.no,trivial⟩ bW.rfl) ?_;simp only[am,Rl.al];refine bK.intro (Lu r _ D) ?_;simp only[am,Rl.al];refine aL ?_;simp[V.erase,mz,h]
 .simp only[am,aJ h];refine aL ?_;simp[V.erase,mz,h]
def WK(r:Rl)(i j:Nat)(f:FuncId)(g:Nat->br)(hg:TZ D)(hf:∀k,a8 f [.agg r.enc,.int .i64 (k:Nat)] D (.int .u64 ((g k).toNat:Nat))):
 a8 270 [.agg r.enc,.int .i64 (i:Nat),.int .i64 (j:Nat),.fn (.func f) [] []] D (jP (Ds g i j)):=by
 refine aji.aV ?_;simp only[aU,am,a7,Nat.reduceAdd,Rl.al];refine bK.intro (hf i) ?_;simp only[am,Rl.al];refine bK.intro (hf j) ?_;simp only[am,yC,Rl.al];refine cl (Ol _ hg) ?_;simp only[am,aN,sM];rw[Ds];generalize g i&&&g j=w;have hlen:=FL w;refine cn ((e9 w).length) (λm (x:Unit)=>⟨[.agg r.enc,.any,.any,.fn (.func f) [] [],.ptr (.aE 0) 0,.any,.any,.any,.any,.any,.int .u64 (w.toNat:Nat),.any,.any,.any,.any,.any,.any,.any,.any,.any,.any,.any,.any,.sl .no 1 (cy ((e9 w).map Int.ofNat)),.int .i64 ((e9 w).length:Nat),.int .i64 (m:Nat)]++aq 11 .any,[r.enc],D⟩) (λm x=>(∀u∈(e9 w).take m,pP w (g u)=ar)) λF hF JF aT=>⟨?_,?_,?_⟩
 .refine en aT (()) (by simp) ?_ ?_ ?_
  all_goals simp[hF,aq,am,bt]
 .rintro m x hi hJ;simp only[hF,aq,am,cc hi];refine ix (Bz (l:=(e9 w).map Int.ofNat) (by simpa using hi)) ?_;simp only[am,Rl.al,AL,AG];refine(hf _).mono ?_;rintro v D ⟨rfl,rfl⟩;simp only[am];refine cl (apl _ _ D) ?_;simp only[am];cases hb:pP w (g (e9 w)[m]) with
  | false =>
   simp only[am,aI,bJ hi];exact nx aT (()) hi (Gp hJ hi hb)
  | true =>
   have e:(e9 w).find? (λu=>pP w (g u))=aa (e9 w)[m]:=by
    rw[GM];exact⟨hb,_,(e9 w).drop (m+1),by rw[<-nr hi,rG],λa ha=>by rw[hJ a ha];rfl⟩
   simp only[am,aI];refine aL ?_;simp[V.erase,bD,jP,e]
 .rintro x hJ;rw[dX] at hJ;have e:(e9 w).find? (λu=>pP w (g u))=none:=by
   rw[um];intro u hu;rw[hJ u hu];simp
  simp only[hF,aq,am,aI,cE,aI];refine aL ?_;simp[V.erase,bD,jP,e]
def anl(r:Rl)(i j:Nat)(hg:TZ D):a8 221 [.agg r.enc,.int .i64 (i:Nat),.int .i64 (j:Nat)] D (jP (qo r i j)):=by
 refine aiu.aV ?_;simp only[aU,am,a7,Nat.reduceAdd,Rl.al];refine cl (WK r i j _ (xn r) hg λk=>aaP r k hg) ?_;simp only[am,jP];refine aL ?_;simp[V.erase,bD,qo]
def apq(r:Rl)(i j:Nat)(hg:TZ D):a8 222 [.agg r.enc,.int .i64 (i:Nat),.int .i64 (j:Nat)] D (jP (re r i j)):=by
 refine aiv.aV ?_;simp only[aU,am,a7,Nat.reduceAdd,Rl.al];refine cl (WK r i j _ (mz r) hg λk=>RQ r k D) ?_;simp only[am,jP];refine aL ?_;simp[V.erase,bD,re]
def amM(r:Rl)(i:Nat)(D:ah):a8 301 [.agg r.enc,.int .i64 (i:Nat)] D (.int .u64 ((mz r i).toNat:Nat)):=by
 refine ajN.aV ?_;simp only[aU,s_,Nat.reduceAdd];refine cl (RQ r i D) ?_;simp only[am];exact rt
variable{m:Nat}
def Bb{p:Nat->Bool}{n:Nat}(hm:m<n)(h:∀k,k<m->p k=ar)(hp:p m=ab):(bA n).find? p=aa m:=by
 rw[GM];refine⟨hp,bA m,List.range' (m+1) (n - (m+1)),?_,λa ha=>by rw[h a (by simpa using ha)];rfl⟩;rw[vE,vE,<-D_]
 have:=Q1 (s:=0) (m:=m) (n:=n - m) (step:=1)
 simp only[xi,j6] at this;rw[show n - (m+1)+1=n - m by omega,this];congr 1;omega
def Bc{p:Nat->Bool}{n:Nat}(h:∀k,k<n->p k=ar):(bA n).find? p=none:=by
 rw[um];intro u hu;rw[h u (by simpa using hu)];simp
def VL(r:Rl)(hg:TZ D):a8 175 [.agg r.enc] D (.bool (jN r)):=by
 refine ahP.aV ?_;simp only[aU,am,a7,Nat.reduceAdd,Rl.al]
 by_cases U:r.n<1
 .simp only[am,aK U];refine aL ?_;simp[V.erase,jN];omega
 .simp only[am,Rl.al,aJ U]
  by_cases h2:64<r.n
  .simp only[am,aK h2];refine aL ?_;simp[V.erase,jN];omega
  .simp only[am,Rl.al,aJ h2];refine cl (arj r hg) ?_;obtain⟨n,hn⟩:∃n:Nat,r.n=n:=⟨r.n.toNat,by omega⟩;have hp:bd r=n:=by rw[bd,hn];omega
   cases ho:rl r with
   | false =>
    simp only[am];refine aL ?_;simp[V.erase,jN,ho]
   | true =>
    simp only[am,Rl.al,hn];have kp:(∀i,i<n->∀j,j<i->((qo r i j).isSome&&(re r i j).isSome)=ab)->jN r=true:=λh=>by
     simp only[jN,ho,hn,gi,eM,mq,bg,bQ,rC];exact⟨by omega,λi hi j hj=>by have:=h i hi j hj;simpa using this⟩
    have aM:∀i j,i<n->j<i->((qo r i j).isSome&&(re r i j).isSome)=ar->jN r=false:=λi j hi hj h=>by
     cases hq:jN r with
     | false=>rfl
     | true =>
      simp only[jN,hn,gi,eM,mq,bg] at hq
      have:=hq.2 i hi j hj
      rw[this.1,this.2] at h;simp at h
    refine cn (n) (λi (x:Unit)=>⟨[.any,.ptr (.aE 0) 0,.any,.any,.any,.any,.any,.any,.any,.any,.any,.any,.any,.any,.any,.any,.any,.any,.any,.any,.any,.any,.any,.int .i64 (n:Nat),.int .i64 (i:Nat)]++aq 28 .any,[r.enc],D⟩) (λi x=>(∀a,a<i->∀b,b<a->((qo r a b).isSome&&(re r a b).isSome)=ab)) λF hF JF aT=>⟨?_,?_,?_⟩
    .exact en aT (()) (by intro k h;omega)
    .rintro i x hi hJ;simp only[hF,aq,am,cc hi];refine cn (i) (λj (x:Unit)=>⟨[.any,.ptr (.aE 0) 0,.any,.int .i64 (i:Nat),.any,.any,.any,.any,.any,.any,.any,.any,.any,.any,.any,.any,.any,.any,.any,.any,.any,.any,.any,.int .i64 (n:Nat),.int .i64 (i:Nat),.any,.any,.int .i64 (i:Nat),.int .i64 (j:Nat)]++aq 24 .any,[r.enc],D⟩) (λj x=>(∀b,b<j->((qo r i b).isSome&&(re r i b).isSome)=ab)) λF2 bZ pU df=>⟨?_,?_,?_⟩
     .refine en df (()) (by intro k h;omega) ?_ ?_ ?_
      all_goals simp[bZ,aq,am,bt]
     .rintro j x hj n_;simp only[bZ,aq,am,cc hj,Rl.al];refine cl (anl r i j hg) ?_;simp only[am,Rl.al,jP];refine cl (apq r i j hg) ?_;simp only[am,jP];cases ha:(qo r i j).isSome with
      | false =>
       simp only[am,aI];refine aL ?_;simp[V.erase,aM i j hi hj (by rw[ha];rfl)]
      | true =>
       simp only[am];cases hb:(re r i j).isSome with
       | false =>
        simp only[am,aI];refine aL ?_;simp[V.erase,aM i j hi hj (by rw[ha,hb];rfl)]
       | true =>
        simp only[am,aI,bJ hj];refine nx df (()) hj (iW n_ (by rw[ha,hb];rfl)) ?_ ?_ ?_
        all_goals simp[bZ,aq,am,bt]
     .rintro x n_;simp only[bZ,aq,am,aI,cE,Nat.reduceEqDiff,aI,reduceCtorEq,bJ hi];exact nx aT (()) hi (iW hJ n_)
    .rintro x hJ;simp only[hF,aq,am,aI,cE,aI];refine aL ?_;simp[V.erase,kp hJ]
def aie:aS prog 205 (sq [rg 4 [oz 2],rg 7 [om 0,oC 251 [7],o1 5],sq [rg 6 [oi 0],bl 0 (sq [sq [rg 9 [om 6,om 5,nL,nb .lss 9],cx 12 0],.block 1 (sq [rg 15 [om 1,om 5,om 6,nA 1 16,no,oC 252 [15,19],nn],cr 21 4 [oz 2]]),rg 13 [ic 6]])],rg 4 [oq (.mv (.c (.bool ab)))],.ret]) [.tmp 4] 22:=aW func205
def aif:aS prog 206 (sq [rg 2 [oz 4],rg 3 [oz 6],sq [rg 4 [oi 0],bl 0 (sq [sq [rg 5 [nm,om 0,nb .lss 5,gA,om 4,nB .lss 64,gZ],cx 11 0],.block 1 (rg 14 [om 3,om 4,n1 1,na 1 14,o1 3]),rg 12 [ic 4]])],rg 18 [om 3,oC 240 [18],o1 2],.ret]) [.tmp 2] 20:=aW func206
def aiP:aS prog 240 (sq [rg 2 [oz 4],rg 3 [oz 4,oq (.mv (.c (.int .u64 1)))],sq [rg 5 [oi 0],bl 0 (sq [sq [rg 7 [om 5,nB .lss 64],cx 8 0],.block 1 (sq [sq [rg 6 [oi 0],bl 2 (sq [sq [rg 11 [om 6,om 0,nL,nb .lss 11],cx 14 2],.block 3 (sq [rg 17 [om 0,om 6,nA 1 17,no,om 5,nb .eql 20],ci 22 (sq [rg 23 [om 3,om 4,nb .add 23,o1 3],(.exit 2)])]),rg 15 [ic 6]])],rg 26 [om 4,oq (.dU .mul (.s 26) (.c (.int .u64 2))),o1 4]]),rg 9 [ic 5]])],rg 28 [om 3,o1 2],.ret]) [.tmp 2] 29:=aW func240
def aiZ:aS prog 251 (sq [rg 2 [oz 6],rg 3 [oz 6],sq [rg 4 [oi 0],bl 0 (sq [sq [rg 5 [nm,nB .lss 64],cx 6 0],.block 1 (sq [sq [rg 9 [om 0,oq (.dU .rem (.s 9) (.c (.int .u64 2))),oq (.dU .eql (.s 10) (.c (.int .u64 1)))],ci 11 (rg 12 [om 3,om 4,n1 1,na 1 12,o1 3])],rg 16 [om 0,oq (.dU .quo (.s 16) (.c (.int .u64 2))),o1 0]]),rg 7 [ic 4]])],rg 18 [om 3,o1 2],.ret]) [.tmp 2] 19:=aW func251
def ai0:aS prog 252 (sq [rg 4 [oz 2],sq [rg 6 [om 1,nB .lss 0,gB,om 1,nB .gtr 63,gZ],cr 11 4 [oz 2]],sq [rg 5 [oi 0],bl 0 (sq [sq [rg 12 [om 5,om 1,nb .lss 12],cx 14 0],.block 1 (rg 17 [om 0,oq (.dU .quo (.s 17) (.c (.int .u64 2))),o1 0]),rg 15 [ic 5]])],rg 19 [om 0,oq (.dU .rem (.s 19) (.c (.int .u64 2))),oq (.dU .eql (.s 20) (.c (.int .u64 1))),o1 4],.ret]) [.tmp 4] 22:=aW func252
def PF(s:br)(i:Nat):(s>>>i)>>>1=s>>>(i+1):=by
 apply mF;intro k hk;simp only[GG];congr 1;omega
def X4(s:br)(n:Int)(D:ah):a8 252 [.int .u64 (s.toNat:Nat),.int .i64 n] D (.bool (hasB s n)):=by
 refine ai0.aV ?_;simp only[aU,am,a7,Nat.reduceAdd,DT]
 by_cases h:n<0
 .simp only[am,aK h];refine aL ?_;simp[V.erase,hasB];omega
 .obtain⟨m,rfl⟩:∃m:Nat,n=m:=⟨n.toNat,by omega⟩;simp only[am,aJ h]
  by_cases U:63<(m:Int)
  .simp only[am,aK U];refine aL ?_;simp[V.erase,hasB];exact vz _ _ (by omega)
  .simp only[am,aJ U];refine cn (m) (λi (x:br)=>⟨[.int .u64 (x.toNat:Nat),.int .i64 (m:Nat),.any,.any,.bool ar,.int .i64 (i:Nat)]++aq 16 .any,[],D⟩) (λi x=>(x=s>>>i)) λF hF JF aT=>⟨?_,?_,?_⟩
   .exact en aT (s) (by simp)
   .rintro i x hi rfl;simp only[hF,aq,am,aI,cc hi,aI,Qa,bJ hi];refine nx aT (s>>>(i+1)) hi (rfl) ?_ ?_ ?_
    all_goals simp[hF,aq,am,bt,PF]
   .rintro x rfl;simp only[hF,aq,am,aI,cE,aI,Qc,P'];refine aL ?_;simp[V.erase,hasB]
def DE(l:List Int)(D:ah)(hl:l.length<=100000):a8 240 [.sl .no 1 (cy l)] D (.int .u64 ((gK l).toNat:Nat)):=by
 refine aiP.aV ?_;simp only[aU,Qq,Nat.reduceAdd];refine cn (64) (λi (x:br)=>⟨[.sl .no 1 (cy l),.any,.int .u64 ((0#64:br).toNat:Nat),.int .u64 (x.toNat:Nat),.int .u64 ((mA i).toNat:Nat),.int .i64 (i:Nat)]++aq 23 .any,[],D⟩) (λi x=>(x=gK l&&&fY (i:Int))) λF hF JF aT=>⟨?_,?_,?_⟩
 .refine en aT (0#64) ((aqQ l).symm) ?_ ?_ ?_
  all_goals simp[hF,aq,am,bt,mA]
 .rintro i x hi rfl;simp only[hF,aq,am,show decide ((i:Int)<64)=ab from cc hi];refine cn (l.length) (λj (y:Unit)=>⟨[.sl .no 1 (cy l),.any,.int .u64 ((0#64:br).toNat:Nat),.int .u64 ((gK l&&&fY (i:Int)).toNat:Nat),.int .u64 ((mA i).toNat:Nat),.int .i64 (i:Nat),.int .i64 (j:Nat)]++aq 22 .any,[],D⟩) (λj y=>((i:Int)∉l.take j)) λF2 bZ pU df=>⟨?_,?_,?_⟩
  .refine en df (()) (by simp) ?_ ?_ ?_
   all_goals simp[bZ,aq,am,bt]
  .rintro j y hj hm;simp only[bZ,aq,am,cc hj,sM];refine ix (Bz hj) ?_;simp only[am]
   by_cases he:l[j]=(i:Int)
   .have M5:(i:Int)∈l:=he▸dj hj;simp only[am,Nat.reduceEqDiff,aI,reduceCtorEq,awy,ZT,aK he,bJ hi,RR];exact nx aT ((gK l&&&fY (i:Int))+mA i) hi (by rw[WZ l i hi,aF M5])
   .simp only[am,aI,aJ he,bJ hj];refine nx df (()) hj (by rw[iG hj,fi];simp[hm,fJ he]) ?_ ?_ ?_
    all_goals simp[bZ,aq,am,bt]
  .rintro y hm;rw[dX] at hm;simp only[bZ,aq,am,aI,cE,Nat.reduceEqDiff,aI,reduceCtorEq,ZT,sM,bJ hi,RR];exact nx aT (gK l&&&fY (i:Int)) hi (by rw[WZ l i hi,aB hm])
 .rintro x rfl;simp only[hF,aq,am,aI,aI,show decide (((64:Nat):Int)<64)=ar from rfl];rw[show((64:Nat):Int)=64 from rfl,aqP];exact rt
def ath(s:br)(D:ah):a8 251 [.int .u64 (s.toNat:Nat)] D (.sl .no 1 (cy ((e9 s).map Int.ofNat))):=by
 refine aiZ.aV ?_;simp only[aU,am,a7,Nat.reduceAdd,DT];refine cn (64) (λi (x:Tk × ah)=>⟨[.int .u64 ((s>>>i).toNat:Nat),.any,.sl .aZ 1 [],.sl x.1 1 (cy (((bA i).filter s.getLsbD).map Int.ofNat)),.int .i64 (i:Nat)]++aq 14 .any,[],x.2⟩) (λi x=>(Gr D x.2 x.1 (cy (((bA i).filter s.getLsbD).map Int.ofNat)).length)) λF hF JF aT=>⟨?_,?_,?_⟩
 .refine en aT ((.aZ,D)) (Gr.nil) ?_ ?_ ?_
  all_goals simp[hF,aq,am,bt,cy]
 .rintro i ⟨tk,bF⟩ hi hG;simp only at hG;have hlen:((bA i).filter s.getLsbD).length<=64:=by have:=Cq s.getLsbD (bA i);simp at this;omega
  simp only[hF,aq,am,Qc,P',show decide ((i:Int)<64)=ab from cc hi,GG];refine fx (λhb=>?_) (λhb=>?_)
  .simp only[am];refine Gr.app hG (by simp[cy,aQ];omega) λfD σ' lA _ _=>?_
   have e:cy (((bA (i+1)).filter s.getLsbD).map Int.ofNat)=cy (((bA i).filter s.getLsbD).map Int.ofNat)++[[.int .i64 (i:Nat)]]:=by
    rw[iF,AJ,yM,hb];simp[cy]
   simp only[am,aI,Qa,bJ hi];refine nx aT ((fD,σ')) hi (by rw[e];exact lA) ?_ ?_ ?_
   all_goals simp[hF,aq,am,bt,PF,e]
  .have e:cy (((bA (i+1)).filter s.getLsbD).map Int.ofNat)=cy (((bA i).filter s.getLsbD).map Int.ofNat):=by
    rw[iF,AJ,yM,hb];simp[cy]
   simp only[am,aI,Qa,bJ hi];refine nx aT ((tk,bF)) hi (by rw[e];exact hG) ?_ ?_ ?_
   all_goals simp[hF,aq,am,bt,PF,e]
 .rintro⟨tk,bF⟩ hG;simp only[hF,aq,am,aI,aI,show decide (((64:Nat):Int)<64)=ar from rfl];exact aX rfl hG.sub ⟨rfl,rfl⟩
def X3(n:Int)(D:ah):a8 206 [.int .i64 n] D (.int .u64 ((fY n).toNat:Nat)):=by
 refine aif.aV ?_;simp only[aU,am,a7,Nat.reduceAdd,sa];have amj:∃m:Nat,m<=64/\(∀i:Nat,i<m->(i:Int)<n/\i<64)/\((m:Int)<n->m=64)/\(n<0->m=0):=⟨min n.toNat 64,by omega,by omega,by omega,by omega⟩;obtain⟨m,U,h2,h3,h4⟩:=amj;refine cn (m) (λi (x:Tk × ah)=>⟨[.int .i64 n,.any,.int .u64 ((0#64:br).toNat:Nat),.sl x.1 1 (cy ((bA i).map Int.ofNat)),.int .i64 (i:Nat)]++aq 15 .any,[],x.2⟩) (λi x=>(Gr D x.2 x.1 (cy ((bA i).map Int.ofNat)).length)) λF hF JF aT=>⟨?_,?_,?_⟩
 .refine en aT ((.aZ,D)) (Gr.nil) ?_ ?_ ?_
  all_goals simp[hF,aq,am,bt,cy]
 .rintro i ⟨tk,bF⟩ hi hG;simp only at hG;simp only[hF,aq,am,aK (h2 i hi).1,aK (show(i:Int)<64 by omega)];refine Gr.app hG (by simp[cy,aQ];omega) λfD σ' lA _ _=>?_
  have e:cy ((bA (i+1)).map Int.ofNat)=cy ((bA i).map Int.ofNat)++[[.int .i64 (i:Nat)]]:=by
   rw[iF];simp[cy]
  simp only[am,aI,bJ hi];refine nx aT ((fD,σ')) hi (by rw[e];exact lA) ?_ ?_ ?_
  all_goals simp[hF,aq,am,bt,e]
 .rintro⟨tk,bF⟩ hG;have he:gK ((bA m).map Int.ofNat)=fY n:=by
   apply mF;intro k hk;rw[zS,xr];congr 1;apply su.2;simp only[px,mq,AG];constructor
   .rintro⟨a,ha,hb⟩;have:=h2 a ha;omega
   .intro h;refine⟨k,?_,rfl⟩
    by_cases h5:(m:Int)<n
    .have:=h3 h5;omega
    .omega
  have hx:decide ((m:Int)<n)=ar\/(decide ((m:Int)<n)=ab/\decide ((m:Int)<64)=ar):=by
   by_cases h5:(m:Int)<n
   .right;exact⟨aK h5,by rw[h3 h5];rfl⟩
   .left;exact aJ h5
  rcases hx with hx | ⟨hx,hy⟩
  .simp only[hF,aq,am,aI,aI,hx];refine ch.eC (as' := [.sl .no 1 (cy ((bA m).map Int.ofNat))]) ?_ ⟨dp.no,trivial⟩ bW.rfl;refine(DE ((bA m).map Int.ofNat) bF (by simp;omega)).mono ?_;rintro v σ' ⟨rfl,rfl⟩;simp only[am,he];exact aX rfl hG.sub ⟨rfl,rfl⟩
  .simp only[hF,aq,am,aI,aI,hx,hy];refine ch.eC (as' := [.sl .no 1 (cy ((bA m).map Int.ofNat))]) ?_ ⟨dp.no,trivial⟩ bW.rfl;refine(DE ((bA m).map Int.ofNat) bF (by simp;omega)).mono ?_;rintro v σ' ⟨rfl,rfl⟩;simp only[am,he];exact aX rfl hG.sub ⟨rfl,rfl⟩
def ati(a b:br)(D:ah):a8 205 [.int .u64 (a.toNat:Nat),.int .u64 (b.toNat:Nat)] D (.bool (pP a b)):=by
 refine aie.aV ?_;simp only[aU,am,a7,Nat.reduceAdd];refine cl (ath a D) ?_;simp only[am];have hlen:=FL a;refine cn ((e9 a).length) (λi (x:Unit)=>⟨[.int .u64 (a.toNat:Nat),.int .u64 (b.toNat:Nat),.any,.any,.bool ar,.sl .no 1 (cy ((e9 a).map Int.ofNat)),.int .i64 (i:Nat)]++aq 15 .any,[],D⟩) (λi x=>(∀k∈(e9 a).take i,b.getLsbD k=ab)) λF hF JF aT=>⟨?_,?_,?_⟩
 .exact en aT (()) (by simp)
 .rintro i x hi hJ;simp only[hF,aq,am,cc hi,sM,aN];refine ix (Bz (l:=(e9 a).map Int.ofNat) (by simpa using hi)) ?_;simp only[am,AL,AG];refine cl (X4 _ _ _) ?_;simp only[am];have hB:hasB b (((e9 a)[i]:Nat):Int)=b.getLsbD (e9 a)[i]:=by simp[hasB]
  by_cases hb:b.getLsbD (e9 a)[i]=ab
  .simp only[am,aI,hB,hb,bJ hi];exact nx aT (()) hi (Gp hJ hi hb)
  .have hs:pP a b=false:=by
    cases hq:pP a b with
    | false=>rfl
    | true=>exact absurd (Gm.1 hq _ (FV.1 (dj hi))) hb
   have hb:b.getLsbD (e9 a)[i]=false:=by simpa using hb
   simp only[am,aI,hB,hb];refine aL ?_;simp[V.erase,hs]
 .rintro x hJ;rw[dX] at hJ;have hs:pP a b=true:=Gm.2 λk hk=>hJ k (FV.2 hk)
  simp only[hF,aq,am,aI,cE,aI,sM,aN];refine aL ?_;simp[V.erase,hs]
def ahl:aS prog 136 (sq [rg 4 [ox 2 65 0,ox 3 65 1,oz 2],dg 5 [ol 65 2,oC 197 [5],mM [0],ol 65 3,oC 197 [7],oq (.l8 ar JE (.s 6) (.s 8)),o1 4],.ret]) [.tmp 4] 10:=aW func136
def ah3:aS prog 189 (sq [rg 2 [ox 1 65 0,oz 2],sq [rg 3 [oi 0],bl 0 (sq [sq [rg 5 [om 3,ol 65 1,oC 202 [6],nb .lss 5],cx 8 0],.block 1 (sq [rg 4 [oi 0],bl 2 (sq [sq [rg 11 [om 4,om 3,nb .lss 11],cx 13 2],.block 3 (sq [rg 16 [ol 65 1,om 3,om 4,oC 238 [16,17,18],gA,ol 65 1,om 4,om 3,oC 238 [21,22,23],gZ],cr 25 2 [oz 2]]),rg 14 [ic 4]])]),rg 9 [ic 3]])],rg 26 [ol 65 1,oC 239 [26],o1 2],.ret]) [.tmp 2] 28:=aW func189
def ah6:aS prog 192 (sq [rg 0 [ox 1 65 0,oR 2 mY],rg 5 [ol 65 1,oC 202 [5],oY mY [(0,1,.s 6)],oR 3 mY,o2 65 3],sq [rg 4 [oi 0],bl 0 (sq [sq [rg 8 [om 4,fo 0 3,nb .lss 8],cx 11 0],.block 1 (rg 14 [om 4,ol 65 1,om 4,oC 241 [15,16],oC 240 [17],of 1 3,oP 64 1 19 14,os 1 20 18]),rg 12 [ic 4]])],rg 21 [ol 65 3,o2 65 2],.ret]) [.cell 2 ab 65] 22:=aW func192
def ah7:aS prog 197 (sq [rg 0 [ox 1 65 0,oR 2 mY],rg 7 [ol 65 1,oC 202 [7],oY mY [(0,1,.s 8)],oR 3 mY,o2 65 3],sq [rg 4 [oi 0],bl 0 (sq [sq [rg 10 [om 4,fo 0 3,nb .lss 10],cx 13 0],.block 1 (sq [rg 5 [oz 6],sq [rg 6 [oi 0],bl 2 (sq [sq [rg 16 [om 6,fo 0 3,nb .lss 16],cx 19 2],.block 3 (sq [rg 22 [ol 65 1,om 4,om 6,oC 238 [22,23,24]],ci 25 (rg 26 [om 5,om 6,n1 1,na 1 26,o1 5])]),rg 20 [ic 6]])],rg 30 [om 4,om 5,oC 240 [31],of 1 3,oP 64 1 33 30,os 1 34 32]]),rg 14 [ic 4]])],rg 35 [ol 65 3,o2 65 2],.ret]) [.cell 2 ab 65] 36:=aW func197
def aib:aS prog 202 (sq [rg 2 [ox 1 65 0,oi 0],sq [rg 3 [fo 0 1,nB .lss 0],cr 5 2 [oi 0]],sq [rg 6 [fo 0 1,nB .gtr 64],cr 8 2 [oi 64]],rg 9 [fo 0 1,o1 2],.ret]) [.tmp 2] 11:=aW func202
def aiM:aS prog 238 (sq [rg 6 [ox 3 65 0,oz 2],rg 8 [ol 65 3,oC 202 [8],o1 7],rg 10 [om 1,nB .geq 0,gA,om 2,nB .geq 0,gZ,gA,om 1,om 7,nb .lss 17,gZ,gA,om 2,om 7,nb .lss 22,gZ,gA,om 1,of 1 3,oP 64 1 28 27,no,om 2,oq (.qP .u64 (.s 31)),nb .shr 30,oq (.dU .rem (.s 33) (.c (.int .u64 2))),oq (.dU .eql (.s 34) (.c (.int .u64 1))),gZ,o1 6],.ret]) [.tmp 6] 37:=aW func238
def aiN:aS prog 239 (sq [rg 2 [ox 1 65 0,oz 2],dg 3 [mM [1],ol 65 1,ol 65 1,oC 192 [4],oC 136 [3,5],o1 2],.ret]) [.tmp 2] 7:=aW func239
def aiQ:aS prog 241 (sq [rg 4 [ox 2 65 0,oz 6],sq [rg 8 [om 1,nB .lss 0,gB,om 1,ol 65 2,oC 202 [12],nb .geq 11,gZ],cr 15 4 [oz 6]],rg 16 [om 1,n1 1,o1 5],sq [rg 6 [oi 0],bl 0 (sq [sq [rg 18 [om 6,om 5,nL,nb .lss 18],cx 21 0],.block 1 (sq [rg 7 [oi 0],bl 2 (sq [sq [rg 24 [om 7,ol 65 2,oC 202 [25],nb .lss 24],cx 27 2],.block 3 (sq [dg 30 [ol 65 2,om 5,om 6,nA 1 31,no,om 7,oC 238 [30,34,35],gA,om 5,om 7,oC 282 [38,39],nn,gZ],ci 42 (rg 43 [om 5,om 7,n1 1,na 1 43,o1 5])]),rg 28 [ic 7]])]),rg 22 [ic 6]])],rg 47 [om 5,o1 4],.ret]) [.tmp 4] 48:=aW func241
def aju:aS prog 282 (sq [rg 4 [oz 2],sq [rg 5 [oi 0],bl 0 (sq [sq [rg 6 [nm,om 0,nL,nb .lss 6],cx 9 0],.block 1 (sq [rg 12 [om 0,om 5,nA 1 12,no,om 1,nb .eql 15],cr 17 4 [oq (.mv (.c (.bool ab)))]]),rg 10 [ic 5]])],rg 4 [oz 2],.ret]) [.tmp 4] 18:=aW func282
def apE:decide ((0:Int)<=(i:Nat))=true:=aK (by omega)
def lR(r:Rl)(D:ah):a8 202 [.agg r.enc] D (.int .i64 (bd r:Nat)):=by
 refine aib.aV ?_;simp only[aU,am,a7,Nat.reduceAdd,Rl.al]
 by_cases h:r.n<0
 .simp only[am,aK h];refine aL ?_;simp[V.erase,bd];omega
 .simp only[am,Rl.al,aJ h]
  by_cases h2:64<r.n
  .simp only[am,aK h2];refine aL ?_;simp[V.erase,bd];omega
  .simp only[am,Rl.al,aJ h2];refine aL ?_;simp[V.erase,bd];omega
def axF:=af @am <| af @a7 <| af @DT @Rl.al
def axG:=af @am <| af @Kb <| af @gi @se
def pI(r:Rl)(i j:Nat)(D:ah):a8 238 [.agg r.enc,.int .i64 (i:Nat),.int .i64 (j:Nat)] D (.bool (bx r i j)):=by
 refine aiM.aV ?_;simp only[aU,axF,Nat.reduceAdd];refine cl (lR r D) ?_;simp only[am,apE];have hp:=@je r
 by_cases U:i<bd r
 .simp only[am,cc U]
  by_cases h2:j<bd r
  .simp only[am,cX,cc h2];refine jC ?_;simp only[axG,Qc,P',Rl.ud (show i<64 by omega),wrap_u64 (x:=((j:Nat):Int)) (by omega) (by omega),GG];refine aL ?_;simp[V.erase,Br,U,h2]
  .have e:decide ((j:Int)<(bd r:Nat))=false:=aJ (by omega);simp only[am,e];refine aL ?_;simp[V.erase,Br,h2]
 .have e:decide ((i:Int)<(bd r:Nat))=false:=aJ (by omega);simp only[am,e];refine aL ?_;simp[V.erase,Br,U]
def Yl(r:Rl)(D:ah):a8 197 [.agg r.enc] D (.agg (lf r).enc):=by
 refine ah7.aV ?_;simp only[aU,am,a7,Nat.reduceAdd,Rl.al];refine cl (lR r D) ?_;simp only[am,Nat.reduceAdd,Rl.al];have hp:=@je r;refine cn (bd r) (λi (x:Unit)=>⟨[.any,.ptr (.aE 0) 0,.ptr (.aE 1) 0,.ptr (.aE 2) 0,.int .i64 (i:Nat)]++aq 31 .any,[r.enc,Rl.zero.enc,(Rl.of (bd r:Nat) λj=>if j<i then iC r j else 0#64).enc],D⟩) (λi x=>(True)) λF hF JF aT=>⟨?_,?_,?_⟩
 .refine en aT (()) (trivial) ?_ ?_ ?_
  all_goals simp[hF,aq,am,bt,Rl.Ki]
 .rintro i x hi -;simp only[hF,aq,am,cc hi,Rl.al,Rl.yf];refine cn (bd r) (λj (x:Tk × ah)=>⟨[.any,.ptr (.aE 0) 0,.ptr (.aE 1) 0,.ptr (.aE 2) 0,.int .i64 (i:Nat),.sl x.1 1 (cy (((bA j).filter (bx r i)).map Int.ofNat)),.int .i64 (j:Nat)]++aq 29 .any,[r.enc,Rl.zero.enc,(Rl.of (bd r:Nat) λj=>if j<i then iC r j else 0#64).enc],x.2⟩) (λj x=>(Gr D x.2 x.1 ((bA j).filter (bx r i)).length)) λF2 bZ pU df=>⟨?_,?_,?_⟩
  .refine en df ((.aZ,D)) (Gr.nil) ?_ ?_ ?_
   all_goals simp[bZ,aq,am,bt,cy]
  .rintro j ⟨tk,bF⟩ hj hG;simp only at hG;have hlen:((bA j).filter (bx r i)).length<=64:=by have:=Cq (bx r i) (bA j);simp at this;omega
   simp only[bZ,aq,am,cc hj,Rl.al,Rl.yf];refine(pI r i j bF).mono ?_;rintro v bF ⟨rfl,rfl⟩;simp only[am];refine fx (λhb=>?_) (λhb=>?_)
   .simp only[am];refine Gr.app (by simpa [cy] using hG) (by simp[cy,aQ];omega) λfD σ' lA _ _=>?_
    have e:cy (((bA (j+1)).filter (bx r i)).map Int.ofNat)=cy (((bA j).filter (bx r i)).map Int.ofNat)++[[.int .i64 (j:Nat)]]:=by
     rw[iF,AJ,yM,hb];simp[cy]
    simp only[am,aI,bJ hj];refine nx df ((fD,σ')) hj (by rw[<-e] at lA;simpa [cy] using lA) ?_ ?_ ?_
    all_goals simp[bZ,aq,am,bt,e]
   .have e:cy (((bA (j+1)).filter (bx r i)).map Int.ofNat)=cy (((bA j).filter (bx r i)).map Int.ofNat):=by
     rw[iF,AJ,yM,hb];simp[cy]
    simp only[am,aI,bJ hj];refine nx df ((tk,bF)) hj (by simpa [iF,hb] using hG) ?_ ?_ ?_
    all_goals simp[bZ,aq,am,bt,e]
  .rintro⟨tk,bF⟩ hG;simp only at hG;have hlen:((bA (bd r)).filter (bx r i)).length<=64:=by have:=Cq (bx r i) (bA (bd r));simp at this;omega
   simp only[bZ,aq,am,aI,cE,Nat.reduceEqDiff,aI,reduceCtorEq,Rl.al,Rl.yf];refine ch.eC (as' := [.sl .no 1 (cy (((bA (bd r)).filter (bx r i)).map Int.ofNat))]) ?_ ⟨dp.no,trivial⟩ bW.rfl;refine cl (DE _ _ (by rw[aN];omega)) ?_;simp only[am,cX,aqU hi];refine jC ?_;simp only[Ch,Rl.Aq (show i<64 by omega),Rl.Ar (show i<64 by omega),bJ hi];refine nx aT (()) hi (trivial) ?_ ?_ (by simp only[hF];exact(bW.aqV hG.sub))
   all_goals simp[hF,aq,am,bt,Rl.fill]
 .rintro x -;simp only[hF,aq,am,aI,cE,aI,Rl.al,Rl.yf];refine aL ?_;simp[V.erase,lf,Rl.dL]
def Ym(r s:Rl)(D:ah):a8 136 [.agg r.enc,.agg s.enc] D (.bool (decide (lf r=lf s))):=by
 refine ahl.aV ?_;simp only[aU,am,a7,Nat.reduceAdd,Rl.al];refine bK.intro (Yl r D) ?_;simp only[am,Rl.al];refine bK.intro (Yl s D) ?_;simp only[am,Rl.al];exact rt
def amR(l:List Int)(n:Int)(D:ah)(hl:l.length<=100000):a8 282 [.sl .no 1 (cy l),.int .i64 n] D (.bool (decide (n∈l))):=by
 refine aju.aV ?_;simp only[aU,am,a7,Nat.reduceAdd];refine cn (l.length) (λi (x:Unit)=>⟨[.sl .no 1 (cy l),.int .i64 n,.any,.any,.bool ar,.int .i64 (i:Nat)]++aq 12 .any,[],D⟩) (λi x=>(∀k∈l.take i,k≠n)) λF hF JF aT=>⟨?_,?_,?_⟩
 .exact en aT (()) (by simp)
 .rintro i x hi hJ;simp only[hF,aq,am,cc hi,sM];refine ix (Bz hi) ?_;simp only[am]
  by_cases h:l[i]=n
  .simp only[am,aI,aK h];have hm:n∈l:=h▸dj hi;refine aL ?_;simp[V.erase,hm]
  .simp only[am,aI,aJ h,bJ hi];exact nx aT (()) hi (Gp hJ hi h)
 .rintro x hJ;rw[dX] at hJ;have hm:n∉l:=λhm=>hJ n hm rfl
  simp only[hF,aq,am,aI,cE,aI,sM];refine aL ?_;simp[V.erase,hm]
def Wv{l:List Nat}:((j:Nat):Int)∈l.map Int.ofNat↔j∈l:=by
 simp only[px,AG];constructor
 .rintro⟨a,U,h2⟩;obtain rfl:a=j:=by omega
  exact U
 .intro h;exact⟨j,h,rfl⟩
structure RI(r:Rl)(i0 m:Nat)(l:List Nat):Prop where
 nd:l.Nodup
 F':∀k∈l,jx r i0 k
 fst:i0∈l
 PV:∀a v,a<m->l[a]?=aa v->∀k,bx r v k=ab->k∈l
variable{i0:Nat}
def RI.len{r:Rl}{l:List Nat}(h:RI r i0 m l):l.length<=bd r:=Ox h.nd λk hk=>(h.F' k hk).lt.2
def RI.all{r:Rl}{l:List Nat}(h:RI r i0 l.length l)(j:Nat):j∈l↔jx r i0 j:=by
 refine⟨h.F' j,λhr=>?_⟩;induction hr with
 | refl _=>exact h.fst
 | tail _ hs ih =>
  obtain⟨a,ha,hv⟩:=uq.1 ih;exact h.PV a _ ha (by rw[cK ha,hv]) _ hs
def RI.add{r:Rl}{l:List Nat}{v:Nat}(h:RI r i0 m l)(hm:m<=l.length)(hv:v∈l)(hs:bx r v j=ab)(hj:j∉l):RI r i0 m (l++[j]):=by
 refine⟨?_,λk hk=>?_,by simp[h.fst],λa w ha hw k hk=>?_⟩
 .rw[KH];exact⟨h.nd,by simp,λa ha b hb=>by simp only[kH] at hb;subst hb;rintro rfl;exact hj ha⟩
 .rcases fi.1 hk with hk | hk
  .exact h.F' k hk
  .rw[kH.1 hk];exact(h.F' v hv).tail hs
 .rw[qJ (by omega)] at hw;exact fi.2 (.inl (h.PV a w ha hw k hk))
def amN{l:List Nat}{v:Nat}(h:l[m]?=aa v):(cy (l.map Int.ofNat))[((m:Nat):Int).toNat]?=aa [.int .i64 (v:Nat)]:=by simp[cy,h]
def ate(r:Rl)(i0:Nat)(E7:i0<bd r)(D:ah):ch prog 241 [.agg r.enc,.int .i64 (i0:Nat)] D λv σ' => (∃l:List Nat,v = .sl .no 1 (cy (l.map Int.ofNat))/\(∀j,j∈l↔jx r i0 j)/\l.length<=64)/\σ' = D:=by
 refine aiQ.aV ?_;simp only[aU,am,a7,Nat.reduceAdd,Rl.al];have hp:=@je r;simp only[am,Rl.al,aJ (show ¬(i0:Int)<0 by omega)];refine cl (lR r D) ?_;simp only[am,aJ (show ¬((bd r:Nat):Int)<=(i0:Nat) by omega)];have fin:∀(l:List Nat) (tk:Tk) (bF:ah),RI r i0 l.length l->Gr D bF tk l.length->∀t aE,mw (λv σ' => (∃l:List Nat,v=V.sl .no 1 (cy (l.map Int.ofNat))/\(∀j,j∈l↔jx r i0 j)/\l.length<=64)/\σ' = D) ⟨t,aE,bF⟩ (.sl tk 1 (cy (l.map Int.ofNat))):=λl tk bF U h2 t aE =>
  aX rfl h2.sub ⟨⟨l,rfl,U.all,by have:=U.len;omega⟩,rfl⟩
 refine cn (bd r) (λm (x:List Nat × Tk × ah)=>⟨[.agg r.enc,.any,.ptr (.aE 0) 0,.any,.any,.sl x.2.1 1 (cy (x.1.map Int.ofNat)),.int .i64 (m:Nat)]++aq 41 .any,[r.enc],x.2.2⟩) (λm x=>(RI r i0 m x.1/\m<=x.1.length/\Gr D x.2.2 x.2.1 x.1.length)) λF hF JF aT=>⟨?_,?_,?_⟩
 .refine en aT (([i0],.aZ,D)) (⟨⟨by simp,by simp[jx.refl E7],by simp,λa v h=>by omega⟩,by simp,ah.bm _,.inl rfl⟩) ?_ ?_ ?_
  all_goals simp[hF,aq,am,bt,cy]
 .rintro m ⟨l,tk,bF⟩ hi ⟨U,h2,h3⟩;simp only at U h2 h3;simp only[hF,aq,am,sM,aN]
  by_cases aD:m<l.length
  .obtain⟨v,hv⟩:∃v,l[m]?=aa v:=⟨_,cK aD⟩;simp only[am,cc aD];refine cn (bd r) (λj (x:List Nat × Tk × ah)=>⟨[.agg r.enc,.any,.ptr (.aE 0) 0,.any,.any,.sl x.2.1 1 (cy (x.1.map Int.ofNat)),.int .i64 (m:Nat),.int .i64 (j:Nat)]++aq 40 .any,[r.enc],x.2.2⟩) (λj x=>((RI r i0 m x.1/\m<x.1.length/\Gr D x.2.2 x.2.1 x.1.length)/\x.1[m]?=aa v/\∀k,k<j->bx r v k=ab->k∈x.1)) λF2 bZ pU df=>⟨?_,?_,?_⟩
   .refine en df ((l,tk,bF)) (⟨⟨U,aD,h3⟩,hv,λk hk=>by omega⟩) ?_ ?_ ?_
    all_goals simp[bZ,aq,am,bt]
   .rintro j ⟨l,tk,bF⟩ hj ⟨⟨U,h2,h3⟩,hv,h4⟩;simp only at U h2 h3 hv h4;have hlen:=U.len;simp only[bZ,aq,am,Rl.al];refine(lR r bF).mono ?_;rintro v bF ⟨rfl,rfl⟩;simp only[am,Rl.al,cc hj];refine ix (amN hv) ?_;simp only[am,Rl.al];refine bK.intro (pI r v j bF) ?_;have M5:v∈l:=rF hv;cases hb:bx r v j with
    | false =>
     simp only[am,aI,bJ hj];refine nx df ((l,tk,bF)) hj (⟨⟨U,h2,h3⟩,hv,iW h4 λhs=>by rw[hb] at hs;simp at hs⟩) ?_ ?_ ?_
     all_goals simp[bZ,aq,am,bt]
    | true =>
     simp only[am];refine bK.intro (ch.eC (as' := [.sl .no 1 (cy (l.map Int.ofNat)),.int .i64 (j:Nat)]) (amR (l.map Int.ofNat) (j:Nat) bF (by rw[aN];omega)) ⟨dp.no,dp.rfl,trivial⟩ bW.rfl) ?_
     by_cases hm:j∈l
     .simp only[am,aI,aK (Wv.2 hm),bJ hj];refine nx df ((l,tk,bF)) hj (⟨⟨U,h2,h3⟩,hv,iW h4 λ_=>hm⟩) ?_ ?_ ?_
      all_goals simp[bZ,aq,am,bt]
     .simp only[am,aJ (λh=>hm (Wv.1 h))];refine Gr.app (by simpa [cy] using h3) (by simp[cy,aQ];omega) λfD σ' lA _ _=>?_
      simp only[am,aI,bJ hj];refine nx df ((l++[j],fD,σ')) hj (⟨⟨U.add (by omega) M5 hb hm,by simp;omega,by simpa [cy] using lA⟩,by rw[qJ h2];exact hv,iW (λk hk hs=>fi.2 (.inl (h4 k hk hs))) λ_=>by simp⟩) ?_ ?_ ?_
      all_goals simp[bZ,aq,am,bt,Nw]
   .rintro⟨l,tk,bF⟩ ⟨⟨U,h2,h3⟩,hv,h4⟩;simp only at U h2 h3 hv h4;simp only[bZ,aq,am,Rl.al];refine(lR r bF).mono ?_;rintro v bF ⟨rfl,rfl⟩;simp only[am,Nat.reduceEqDiff,aI,reduceCtorEq,cE,bJ hi];have h5:∀a w,a<m+1->l[a]?=aa w->∀k,bx r w k=ab->k∈l:=λa w ha hw k hk=>by
     rcases Q3.1 ha with h | h
     .exact U.PV a w h hw k hk
     .subst h;rw[hv] at hw;cases hw;exact h4 k (i_ hk).2 hk
    exact nx aT ((l,tk,bF)) hi (⟨⟨U.nd,U.F',U.fst,h5⟩,h2,h3⟩)
  .obtain rfl:m=l.length:=by omega
   simp only[am,aI,cE];exact fin l tk bF U h3 _ _
 .rintro⟨l,tk,bF⟩ ⟨U,h2,h3⟩;simp only at U h2 h3;have hlen:=U.len;have e:bd r=l.length:=by omega
  rw[e] at U;simp only[hF,aq,am,aI,aI,sM,aN,show decide (((bd r:Nat):Int)<(l.length:Nat))=ar from by rw[e];exact cE];exact fin l tk bF U h3 _ _
def ata(r:Rl)(D:ah):a8 192 [.agg r.enc] D (.agg (l6 r).enc):=by
 refine ah6.aV ?_;simp only[aU,am,a7,Nat.reduceAdd,Rl.al];refine cl (lR r D) ?_;simp only[am,Nat.reduceAdd,Rl.al];have hp:=@je r;refine cn (bd r) (λi (x:Unit)=>⟨[.any,.ptr (.aE 0) 0,.ptr (.aE 1) 0,.ptr (.aE 2) 0,.int .i64 (i:Nat)]++aq 17 .any,[r.enc,Rl.zero.enc,(Rl.of (bd r:Nat) λj=>if j<i then(l6 r).get j else 0#64).enc],D⟩) (λi x=>(True)) λF hF JF aT=>⟨?_,?_,?_⟩
 .refine en aT (()) (trivial) ?_ ?_ ?_
  all_goals simp[hF,aq,am,bt,Rl.Ki]
 .rintro i x hi -;simp only[hF,aq,am,cc hi,Rl.al,Rl.yf];refine(ate r i hi D).mono ?_;rintro v D ⟨⟨l,rfl,hl,hlen⟩,rfl⟩;simp only[am];refine cl (DE _ D (by rw[aN];omega)) ?_;simp only[am,cX,adE hi hl];refine jC ?_;simp only[Ch,Rl.Aq (show i<64 by omega),Rl.Ar (show i<64 by omega),bJ hi];refine nx aT (()) hi (trivial) ?_ ?_ ?_
  all_goals simp[hF,aq,am,bt,Rl.fill]
 .rintro x -;simp only[hF,aq,am,aI,cE,aI,Rl.al,Rl.yf];rw[adD];exact aX (v:=.agg (l6 r).enc) Rl.dV (ah.bm _) ⟨by simp only[V.erase,Rl.dL],rfl⟩
def XY(r:Rl)(D:ah):a8 239 [.agg r.enc] D (.bool (qO r)):=by
 refine aiN.aV ?_;simp only[aU,am,a7,Nat.reduceAdd,Rl.al];refine bK.intro (ata r D) ?_;simp only[am,Rl.al];refine bK.intro (Ym r (l6 r) D) ?_;simp only[am,Rl.al];refine aL ?_;simp[V.erase,qO,Lg]
def atB(r:Rl)(D:ah):a8 189 [.agg r.enc] D (.bool (rl r)):=by
 refine ah3.aV ?_;simp only[aU,am,a7,Nat.reduceAdd,Rl.al];have hp:=@je r;refine cn (bd r) (λi (x:Unit)=>⟨[.any,.ptr (.aE 0) 0,.bool ar,.int .i64 (i:Nat)]++aq 24 .any,[r.enc],D⟩) (λi x=>(∀a,a<i->∀b,b<a->(bx r a b&&bx r b a)=ar)) λF hF JF aT=>⟨?_,?_,?_⟩
 .exact en aT (()) (by intro k h;omega)
 .rintro i x hi hJ;simp only[hF,aq,am,Rl.al];refine cl (lR r D) ?_;simp only[am,cc hi];refine cn (i) (λj (x:Unit)=>⟨[.any,.ptr (.aE 0) 0,.bool ar,.int .i64 (i:Nat),.int .i64 (j:Nat)]++aq 23 .any,[r.enc],D⟩) (λj x=>(∀b,b<j->(bx r i b&&bx r b i)=ar)) λF2 bZ pU df=>⟨?_,?_,?_⟩
  .refine en df (()) (by intro k h;omega) ?_ ?_ ?_
   all_goals simp[bZ,aq,am,bt]
  .rintro j x hj n_;simp only[bZ,aq,am,cc hj,Rl.al];refine cl (pI r i j D) ?_;have aM:bx r i j=ab->bx r j i=ab->rl r=false:=λU h2=>by
    have:uy r=false:=by
     cases hq:uy r with
     | false=>rfl
     | true=>have:=KZ.1 hq i j U h2;omega
    simp[rl,this]
   cases U:bx r i j with
   | false =>
    simp only[am,aI,bJ hj];refine nx df (()) hj (iW n_ (by rw[U];rfl)) ?_ ?_ ?_
    all_goals simp[bZ,aq,am,bt]
   | true =>
    simp only[am,Rl.al];refine cl (pI r j i D) ?_;cases h2:bx r j i with
    | false =>
     simp only[am,aI,bJ hj];refine nx df (()) hj (iW n_ (by rw[h2,QF])) ?_ ?_ ?_
     all_goals simp[bZ,aq,am,bt]
    | true =>
     simp only[am,aI];refine aL ?_;simp[V.erase,aM U h2]
  .rintro x n_;simp only[bZ,aq,am,aI,cE,Nat.reduceEqDiff,aI,reduceCtorEq,Rl.al,bJ hi];exact nx aT (()) hi (iW hJ n_)
 .rintro x hJ;have hA:uy r=true:=by
   simp only[uy,eM,mq,tm];exact hJ
  simp only[hF,aq,am,Rl.al];refine cl (lR r D) ?_;simp only[am,aI,Rl.al,cE];refine cl (XY r D) ?_;simp only[am];refine aL ?_;simp[V.erase,rl,hA]
def aic:aS prog 203 (sq [rg 2 [ox 1 65 0,oz 2],rg 3 [fo 0 1,nB .geq 1,gA,fo 0 1,nB .leq 8,gZ,gA,ol 65 1,oC 239 [12],gZ,o1 2],.ret]) [.tmp 2] 15:=aW func203
def aid:aS prog 204 (sq [rg 4 [oi 0,oz 2],sq [rg 6 [oi 0],bl 0 (sq [sq [rg 9 [om 6,om 0,nb .lss 9,gA,om 6,nB .lss 64,gZ],cx 15 0],.block 1 (sq [rg 19 [om 0,om 6,oC 245 [19,20],o1 18,oe 18 0,oe 18 1,ot 7 22,o1 8],rg 24 [om 8,gA,om 7,om 1,nb .eql 26,gZ],cr 29 4 [ot 30 6,om 30,oq (.mv (.c (.bool ab)))]]),rg 16 [ic 6]])],rg 4 [oi 0,oz 2],.ret]) [.tmp 4,.tmp 5] 31:=aW func204
def aih:aS prog 207 (sq [rg 4 [ox 2 65 0,oz 4],rg 5 [oz 6],sq [rg 8 [ol 65 2,oC 203 [8],nn],cr 10 4 [oz 4]],sq [rg 6 [oi 0],bl 0 (sq [sq [rg 11 [om 6,fo 0 2,nb .lss 11],cx 14 0],.block 1 (sq [rg 7 [oi 0],bl 2 (sq [sq [rg 17 [om 7,fo 0 2,nb .lss 17],cx 20 2],.block 3 (sq [rg 23 [ol 65 2,om 1,om 6,om 7,oC 253 [23,24,25,26]],ci 27 (rg 28 [om 5,om 6,oq (.dU .mul (.c (.int .i64 8)) (.s 29)),om 7,nb .add 30,n1 1,na 1 28,o1 5])]),rg 21 [ic 7]])]),rg 15 [ic 6]])],rg 35 [om 5,oC 240 [35],o1 4],.ret]) [.tmp 4] 37:=aW func207
def aiS:aS prog 245 (sq [rg 4 [oz 4,oz 2],sq [rg 6 [om 0,nB .lss 1,gB,om 0,nB .gtr 64,gZ,gB,om 1,nB .lss 0,gZ,gB,om 1,om 0,nb .geq 17,gZ],cr 20 4 [oz 4,oz 2]],rg 21 [om 1,oC 206 [21],o1 4,oV 5 (.bool ab)],.ret]) [.tmp 4,.tmp 5] 23:=aW func245
def ai1:aS prog 253 (sq [rg 8 [ox 4 65 0,oz 2],sq [rg 9 [oi 0],bl 0 (sq [sq [rg 11 [om 9,fo 0 4,nb .lss 11],cx 14 0],.block 1 (sq [rg 10 [oi 0],bl 2 (sq [sq [rg 17 [om 10,fo 0 4,nb .lss 17],cx 20 2],.block 3 (sq [rg 23 [ol 65 4,om 1,om 9,om 10,oC 286 [23,24,25,26],gA,ol 65 4,om 2,om 9,oC 238 [29,30,31],gZ,gA,ol 65 4,om 3,om 10,oC 238 [35,36,37],gZ],cr 39 8 [oq (.mv (.c (.bool ab)))]]),rg 21 [ic 10]])]),rg 15 [ic 9]])],rg 8 [oz 2],.ret]) [.tmp 8] 40:=aW func253
def ajx:aS prog 286 (sq [rg 8 [ox 4 65 0,oz 2],rg 9 [om 2,nB .geq 0,gA,om 3,nB .geq 0,gZ,gA,om 2,fo 0 4,nb .lss 16,gZ,gA,om 3,fo 0 4,nb .lss 22,gZ,gA,om 1,om 2,oq (.dU .mul (.c (.int .i64 8)) (.s 29)),om 3,nb .add 30,oC 252 [28,32],gZ,o1 8],.ret]) [.tmp 8] 35:=aW func286
def Au(p:br × Bool):V:=.bH [.int .u64 (p.1.toNat:Nat),.bool p.2]
def asU(n k:Int)(D:ah):a8 245 [.int .i64 n,.int .i64 k] D (Au (pM n k)):=by
 refine aiS.aV ?_;simp only[aU,am,a7,Nat.reduceAdd,sa];have aM:¬(1<=n/\n<=64/\0<=k/\k<n)->pM n k=(0#64,ar):=λh=>by rw[pM,aB h]
 by_cases U:n<1
 .simp only[am,aK U];refine aL ?_;simp[V.erase,bD,Au,aM (by omega)]
 .simp only[am,aJ U]
  by_cases h2:64<n
  .simp only[am,aK h2];refine aL ?_;simp[V.erase,bD,Au,aM (by omega)]
  .simp only[am,aJ h2]
   by_cases h3:k<0
   .simp only[am,aK h3];refine aL ?_;simp[V.erase,bD,Au,aM (by omega)]
   .simp only[am,aJ h3]
    by_cases h4:n<=k
    .simp only[am,aK h4];refine aL ?_;simp[V.erase,bD,Au,aM (by omega)]
    .simp only[am,aJ h4];refine cl (X3 k D) ?_;have e:pM n k=(fY k,ab):=by rw[pM,aF (by omega)]
     simp only[am];refine aL ?_;simp[V.erase,bD,Au,e]
def aol(n:Nat)(w:br)(D:ah):a8 204 [.int .i64 (n:Nat),.int .u64 (w.toNat:Nat)] D (jP (zO n w)):=by
 refine aid.aV ?_;simp only[aU,am,a7,Nat.reduceAdd];refine cn (min n 64) (λi (x:Unit)=>⟨[.int .i64 (n:Nat),.int .u64 (w.toNat:Nat),.any,.any,.any,.any,.int .i64 (i:Nat)]++aq 24 .any,[],D⟩) (λi x=>(n<=64->∀k,k<i->decide (fY (k:Nat)=w)=ar)) λF hF JF aT=>⟨?_,?_,?_⟩
 .exact en aT (()) (by intro _ k h;omega)
 .rintro i x hi hJ;have eX:i<n:=by omega
  have E8:i<64:=by omega
  simp only[hF,aq,am,cc eX,show decide ((i:Int)<64)=ab from aK (by omega)];refine cl (asU (n:Nat) (i:Nat) D) ?_
  by_cases hn:n<=64
  .have e:pM (n:Nat) (i:Nat)=(fY (i:Nat),ab):=by rw[pM,aF (by omega)]
   simp only[am,w_,e,Au]
   by_cases h:fY (i:Nat)=w
   .have e:zO n w=aa i:=by rw[zO,aF hn];exact Bb eX (hJ hn) (aK h)
    simp only[am,aI,aK h];refine aL ?_;simp[V.erase,bD,jP,e]
   .simp only[am,aI,aJ h,bJ hi];exact nx aT (()) hi (λ_=>iW (hJ hn) (aJ h))
  .have e:pM (n:Nat) (i:Nat)=(0#64,ar):=by rw[pM,aB (by omega)]
   simp only[am,aI,e,Au,bJ hi];exact nx aT (()) hi (λh=>absurd h hn)
 .rintro x hJ;have e:zO n w=none:=by
   unfold zO;split
   .rename_i h;rw[show min n 64=n by omega] at hJ;exact Bc (hJ h)
   .rfl
  by_cases h:n<=64
  .rw[show min n 64=n by omega];simp only[hF,aq,am,aI,cE,aI];refine aL ?_;simp[V.erase,bD,jP,e]
  .rw[show min n 64=64 by omega];simp only[hF,aq,am,aI,aI,cc (show 64<n by omega),show decide (((64:Nat):Int)<64)=ar from rfl];refine aL ?_;simp[V.erase,bD,jP,e]
def XT(r:Rl)(D:ah):a8 203 [.agg r.enc] D (.bool (gW r)):=by
 refine aic.aV ?_;simp only[aU,am,a7,Nat.reduceAdd,Rl.al]
 by_cases h:1<=r.n
 .simp only[am,Rl.al,aK h]
  by_cases h2:r.n<=8
  .simp only[am,Rl.al,aK h2];refine cl (XY r D) ?_;simp only[am];refine aL ?_;simp[V.erase,gW,h,h2]
  .simp only[am,aJ h2];refine aL ?_;simp[V.erase,gW,h2]
 .simp only[am,aJ h];refine aL ?_;simp[V.erase,gW,h]
def arl(r:Rl)(n:Nat)(hn:r.n=n)(w:br)(o x:Nat)(ho:o<64)(hx:x<64)(D:ah):a8 286 [.agg r.enc,.int .u64 (w.toNat:Nat),.int .i64 (o:Nat),.int .i64 (x:Nat)] D (.bool (decide (o<n)&&(decide (x<n)&&w.getLsbD (8*o+x)))):=by
 refine ajx.aV ?_;simp only[aU,am,a7,Nat.reduceAdd,Rl.al];simp only[am,Rl.al,WI,hn]
 by_cases U:o<n
 .simp only[am,Rl.al,cc U,hn]
  by_cases h2:x<n
  .simp only[am,cc h2];rw[wrap_i64 (x:=8*((o:Nat):Int)),wrap_i64 (x:=8*((o:Nat):Int)+(x:Nat)),show 8*((o:Nat):Int)+(x:Nat)=((8*o+x:Nat):Int) by omega];refine cl (X4 w ((8*o+x:Nat):Int) D) ?_;simp only[am,Ux];refine aL ?_;simp[V.erase,U,h2]
  .simp only[am,aJ (show ¬(x:Int)<(n:Nat) by omega)];refine aL ?_;simp[V.erase,h2]
 .simp only[am,aJ (show ¬(o:Int)<(n:Nat) by omega)];refine aL ?_;simp[V.erase,U]
def akC(r:Rl)(hg:gW r=ab)(w:br)(o x:Nat)(D:ah):a8 253 [.agg r.enc,.int .u64 (w.toNat:Nat),.int .i64 (o:Nat),.int .i64 (x:Nat)] D (.bool (uH r w o x)):=by
 refine ai1.aV ?_;simp only[aU,am,a7,Nat.reduceAdd,Rl.al];obtain⟨n,hn,hp,U,h8⟩:=xE hg;have hf:uH r w o x=(bA n).any λp=>(bA n).any λy=>w.getLsbD (8*p+y)&&(bx r o p&&bx r x y):=by rw[uH,hn];rfl
 refine cn (n) (λp (z:Unit)=>⟨[.any,.int .u64 (w.toNat:Nat),.int .i64 (o:Nat),.int .i64 (x:Nat),.ptr (.aE 0) 0,.any,.any,.any,.any,.int .i64 (p:Nat)]++aq 30 .any,[r.enc],D⟩) (λp z=>(∀p',p' < p->∀y,y<n->(w.getLsbD (8*p' + y)&&(bx r o p' && bx r x y))=ar)) λF hF JF aT=>⟨?_,?_,?_⟩
 .exact en aT (()) (by intro k h;omega)
 .rintro p z hi hJ;simp only[hF,aq,am,cc hi,Rl.al,hn];refine cn (n) (λy (z:Unit)=>⟨[.any,.int .u64 (w.toNat:Nat),.int .i64 (o:Nat),.int .i64 (x:Nat),.ptr (.aE 0) 0,.any,.any,.any,.any,.int .i64 (p:Nat),.int .i64 (y:Nat)]++aq 29 .any,[r.enc],D⟩) (λy z=>(∀y',y' < y->(w.getLsbD (8*p+y')&&(bx r o p&&bx r x y'))=ar)) λF2 bZ pU df=>⟨?_,?_,?_⟩
  .refine en df (()) (by intro k h;omega) ?_ ?_ ?_
   all_goals simp[bZ,aq,am,bt]
  .rintro y z hj n_;simp only[bZ,aq,am,cc hj,Rl.al,hn];refine cl (arl r n hn w p y (by omega) (by omega) D) ?_;cases ha:w.getLsbD (8*p+y) with
   | false =>
    simp only[am,aI,aK hi,aK hj,bJ hj];refine nx df (()) hj (iW n_ (by rw[ha];rfl)) ?_ ?_ ?_
    all_goals simp[bZ,aq,am,bt]
   | true =>
    simp only[am,Rl.al,aK hi,aK hj];refine cl (pI r o p D) ?_;cases hb:bx r o p with
    | false =>
     simp only[am,aI,bJ hj];refine nx df (()) hj (iW n_ (by rw[hb];simp)) ?_ ?_ ?_
     all_goals simp[bZ,aq,am,bt]
    | true =>
     simp only[am,Rl.al];refine cl (pI r x y D) ?_;cases hc:bx r x y with
     | false =>
      simp only[am,aI,bJ hj];refine nx df (()) hj (iW n_ (by rw[hc];simp)) ?_ ?_ ?_
      all_goals simp[bZ,aq,am,bt]
     | true =>
      have:uH r w o x=true:=by
       rw[TI hg];exact⟨p,y,hb,hc,ha⟩
      simp only[am,aI];refine aL ?_;simp[V.erase,this]
  .rintro z n_;simp only[bZ,aq,am,aI,cE,Nat.reduceEqDiff,aI,reduceCtorEq,Rl.al,hn,bJ hi];exact nx aT (()) hi (iW hJ n_)
 .rintro z hJ
  have:uH r w o x=false:=by
   rw[hf,QL];intro p hp;rw[Bool.not_eq_true,QL];intro y hy;rw[hJ p (by simpa using hp) y (by simpa using hy)];simp
  simp only[hF,aq,am,aI,cE,aI,Rl.al,hn];refine aL ?_;simp[V.erase,this]
def asV(r:Rl)(w:br)(D:ah):a8 207 [.agg r.enc,.int .u64 (w.toNat:Nat)] D (.int .u64 ((lv r w).toNat:Nat)):=by
 refine aih.aV ?_;simp only[aU,s_,Nat.reduceAdd];refine cl (XT r D) ?_;cases hg:gW r with
 | false =>
  simp only[am];refine aL ?_;simp[V.erase,lv,hg]
 | true =>
  obtain⟨n,hn,hp,U,h8⟩:=xE hg;simp only[am];refine cn (n) (λo (z:Tk × ah)=>⟨[.any,.int .u64 (w.toNat:Nat),.ptr (.aE 0) 0,.any,.any,.sl z.1 1 (cy (n8 r w o)),.int .i64 (o:Nat)]++aq 30 .any,[r.enc],z.2⟩) (λo z=>(Gr D z.2 z.1 (n8 r w o).length)) λF hF JF aT=>⟨?_,?_,?_⟩
  .refine en aT ((.aZ,D)) (Gr.nil) ?_ ?_ ?_
   all_goals simp[hF,aq,am,bt,n8,cy]
  .rintro o ⟨tk,bF⟩ hi hG;simp only at hG;have xR:=@Ua r w o;rw[hn,gi] at xR;have al4:o*n<=8*8:=GV (by omega) h8;simp only[hF,aq,am,cc hi,Rl.al,hn];refine cn (n) (λx (z:Tk × ah)=>⟨[.any,.int .u64 (w.toNat:Nat),.ptr (.aE 0) 0,.any,.any,.sl z.1 1 (cy (n8 r w o++rr r w o x)),.int .i64 (o:Nat),.int .i64 (x:Nat)]++aq 29 .any,[r.enc],z.2⟩) (λx z=>(Gr D z.2 z.1 (n8 r w o++rr r w o x).length)) λF2 bZ pU df=>⟨?_,?_,?_⟩
   .refine en df ((tk,bF)) (by simpa [rr] using hG) ?_ ?_ ?_
    all_goals simp[bZ,aq,am,bt,rr]
   .rintro x ⟨tk,bF⟩ hj hG;simp only at hG;have fT:=@Yb r w o x;simp only[bZ,aq,am,cc hj,Rl.al,hn];refine(akC r hg w o x bF).mono ?_;rintro v bF ⟨rfl,rfl⟩;cases hb:uH r w o x with
    | false =>
     simp only[am,aI,bJ hj];refine nx df ((tk,bF)) hj (by simpa [Pe,hb] using hG) ?_ ?_ ?_
     all_goals simp[bZ,aq,am,bt,Pe,hb]
    | true =>
     simp only[am];rw[wrap_i64 (x:=8*((o:Nat):Int)),wrap_i64 (x:=8*((o:Nat):Int)+(x:Nat)),show 8*((o:Nat):Int)+(x:Nat)=((8*o+x:Nat):Int) by omega];refine Gr.app (by simpa [cy] using hG) (by simp[cy,aQ];omega) λfD σ' lA _ _=>?_
     have e:cy (n8 r w o++rr r w o (x+1))=cy (n8 r w o++rr r w o x)++[[.int .i64 ((8*o+x:Nat):Int)]]:=by
      rw[Pe,hb,aF rfl,<-eN,Nw]
     simp only[am,aI,bJ hj];refine nx df ((fD,σ')) hj (by rw[<-sM,e];exact lA) ?_ ?_ ?_
     all_goals simp[bZ,aq,am,bt,e]
   .rintro⟨tk,bF⟩ hG;simp only at hG;simp only[bZ,aq,am,aI,cE,Nat.reduceEqDiff,aI,reduceCtorEq,Rl.al,hn,bJ hi];have e:n8 r w (o+1)=n8 r w o++rr r w o n:=by rw[Ub,hn];rfl
    refine nx aT ((tk,bF)) hi (by rw[e];exact hG) ?_ ?_ ?_
    all_goals simp[hF,aq,am,bt,e]
  .rintro⟨tk,bF⟩ hG;simp only at hG;have xR:=@Ua r w n;rw[hn,gi] at xR;have al4:n*n<=8*8:=GV h8 h8;simp only[hF,aq,am,aI,cE,aI,Rl.al,hn];refine ch.eC (as' := [.sl .no 1 (cy (n8 r w n))]) ?_ ⟨dp.no,trivial⟩ bW.rfl;refine(DE _ bF (by omega)).mono ?_;rintro v bF ⟨rfl,rfl⟩;have e:gK (n8 r w n)=lv r w:=by have:=alr (w:=w) hg;rwa [hn,gi] at this
   simp only[am,e];exact aX rfl hG.sub ⟨rfl,rfl⟩
def ahk:aS prog 124 (sq [rg 2 [ox 1 65 0,oz 2],sq [rg 9 [fo 0 1,nB .lss 1,gB,fo 0 1,nB .gtr 64,gZ,gB,ol 65 1,oC 189 [18],nn,gZ],cr 21 2 [oz 2]],sq [rg 3 [oi 0],bl 0 (sq [sq [rg 22 [om 3,fo 0 1,nb .lss 22],cx 25 0],.block 1 (sq [rg 4 [oi 0],bl 2 (sq [sq [rg 28 [om 4,om 3,nb .lss 28],cx 30 2],.block 3 (sq [rg 34 [ol 65 1,om 3,om 4,oC 190 [34,35,36],o1 33,oe 33 0,oe 33 1,ot 5 38,o1 6],rg 41 [ol 65 1,om 3,om 4,oC 191 [41,42,43],o1 40,oe 40 0,oe 40 1,ot 7 45,o1 8],rg 47 [om 6,nn,gB,om 8,nn,gZ],cr 52 2 [oz 2]]),rg 31 [ic 4]])]),rg 26 [ic 3]])],rg 2 [oq (.mv (.c (.bool ab)))],.ret]) [.tmp 2] 53:=aW func124
def ah4:aS prog 190 (sq [rg 6 [ox 3 65 0,oi 0,oz 2],sq [rg 8 [oi 0],bl 0 (sq [sq [rg 11 [om 8,ol 65 3,oC 202 [12],nb .lss 11],cx 14 0],.block 1 (sq [rg 17 [ol 65 3,om 1,om 8,oC 238 [17,18,19],gA,ol 65 3,om 2,om 8,oC 238 [22,23,24],gZ,o1 9],sq [rg 10 [oi 0],bl 2 (sq [sq [rg 27 [om 10,ol 65 3,oC 202 [28],nb .lss 27],cx 30 2],.block 3 (sq [rg 33 [ol 65 3,om 1,om 10,oC 238 [33,34,35],gA,ol 65 3,om 2,om 10,oC 238 [38,39,40],gZ,gA,ol 65 3,om 8,om 10,oC 238 [44,45,46],nn,gZ],ci 49 (rg 9 [oz 2])]),rg 31 [ic 10]])],rg 50 [om 9],cr 50 6 [ot 51 8,om 51,oq (.mv (.c (.bool ab)))]]),rg 15 [ic 8]])],rg 6 [oi 0,oz 2],.ret]) [.tmp 6,.tmp 7] 52:=aW func190
def ah5:aS prog 191 (sq [rg 6 [ox 3 65 0,oi 0,oz 2],sq [rg 8 [oi 0],bl 0 (sq [sq [rg 11 [om 8,ol 65 3,oC 202 [12],nb .lss 11],cx 14 0],.block 1 (sq [rg 17 [ol 65 3,om 8,om 1,oC 238 [17,18,19],gA,ol 65 3,om 8,om 2,oC 238 [22,23,24],gZ,o1 9],sq [rg 10 [oi 0],bl 2 (sq [sq [rg 27 [om 10,ol 65 3,oC 202 [28],nb .lss 27],cx 30 2],.block 3 (sq [rg 33 [ol 65 3,om 10,om 1,oC 238 [33,34,35],gA,ol 65 3,om 10,om 2,oC 238 [38,39,40],gZ,gA,ol 65 3,om 10,om 8,oC 238 [44,45,46],nn,gZ],ci 49 (rg 9 [oz 2])]),rg 31 [ic 10]])],rg 50 [om 9],cr 50 6 [ot 51 8,om 51,oq (.mv (.c (.bool ab)))]]),rg 15 [ic 8]])],rg 6 [oi 0,oz 2],.ret]) [.tmp 6,.tmp 7] 52:=aW func191
def aii:aS prog 208 (sq [rg 4 [ox 2 65 0,oi 0,oz 2],sq [rg 6 [oi 0],bl 0 (sq [sq [rg 7 [nm,ol 65 2,oC 202 [8],nb .lss 7],cx 10 0],.block 1 (sq [rg 13 [ol 65 2,om 6,oC 244 [13,14],om 1,nb .eql 15],cr 17 4 [ot 18 6,om 18,oq (.mv (.c (.bool ab)))]]),rg 11 [ic 6]])],rg 4 [oi 0,oz 2],.ret]) [.tmp 4,.tmp 5] 19:=aW func208
def aiR:aS prog 244 (sq [rg 4 [ox 2 65 0,oz 4],rg 5 [oz 6],sq [rg 6 [oi 0],bl 0 (sq [sq [rg 7 [nm,ol 65 2,oC 202 [8],nb .lss 7],cx 10 0],.block 1 (sq [rg 13 [ol 65 2,om 6,om 1,oC 238 [13,14,15]],ci 16 (rg 17 [om 5,om 6,n1 1,na 1 17,o1 5])]),rg 11 [ic 6]])],rg 21 [om 5,oC 240 [21],o1 4],.ret]) [.tmp 4] 23:=aW func244
def atx(r:Rl)(i j:Nat)(D:ah):a8 190 [.agg r.enc,.int .i64 (i:Nat),.int .i64 (j:Nat)] D (jP (qo r i j)):=by
 refine ah4.aV ?_;simp only[aU,am,a7,Nat.reduceAdd,Rl.al];rw[ani];generalize hg:(λu=>(bx r i u&&bx r j u)&&(bA (bd r)).all λv=>!(bx r i v&&bx r j v&&!bx r u v))=g;have hg:∀u,((bx r i u&&bx r j u)&&(bA (bd r)).all λv=>!(bx r i v&&bx r j v&&!bx r u v))=g u:=λu=>by rw[<-hg]
 have hp:=@je r;refine cn (bd r) (λu (x:Unit)=>⟨[.agg r.enc,.int .i64 (i:Nat),.int .i64 (j:Nat),.ptr (.aE 0) 0,.any,.any,.any,.any,.int .i64 (u:Nat)]++aq 43 .any,[r.enc],D⟩) (λu x=>(∀k,k<u->g k=ar)) λF hF JF aT=>⟨?_,?_,?_⟩
 .exact en aT (()) (by intro k h;omega)
 .rintro u x hi hJ;simp only[hF,aq,am,Rl.al];refine cl (lR r D) ?_;simp only[am,Rl.al,cc hi];refine cl (pI r i u D) ?_
  rcases aao (bx r i u) with hb | hb
  all_goals simp only[am,Rl.al,hb]
  case' inl =>
   refine cl (pI r j u D) ?_;simp only[am]
  all_goals
   refine cn (bd r) (λv (x:Unit)=>⟨[.agg r.enc,.int .i64 (i:Nat),.int .i64 (j:Nat),.ptr (.aE 0) 0,.any,.any,.any,.any,.int .i64 (u:Nat),.bool ((bx r i u&&bx r j u)&&(bA v).all λv=>!(bx r i v&&bx r j v&&!bx r u v)),.int .i64 (v:Nat)]++aq 41 .any,[r.enc],D⟩) (λv x=>(True)) λF2 bZ pU df=>⟨?_,?_,?_⟩
   .refine en df (()) (trivial) ?_ ?_ ?_
    all_goals simp[bZ,aq,am,bt,hb]
   .rintro v x hj -;simp only[bZ,aq,am,Rl.al];refine cl (lR r D) ?_;simp only[am,Rl.al,cc hj];refine cl (pI r i v D) ?_;cases U:bx r i v with
    | false =>
     simp only[am,aI,bJ hj];refine nx df (()) hj (trivial) ?_ ?_ ?_
     all_goals simp[bZ,aq,am,bt,iF,U]
    | true =>
     simp only[am,Rl.al];refine cl (pI r j v D) ?_;cases h2:bx r j v with
     | false =>
      simp only[am,aI,bJ hj];refine nx df (()) hj (trivial) ?_ ?_ ?_
      all_goals simp[bZ,aq,am,bt,iF,h2]
     | true =>
      simp only[am,Rl.al];refine cl (pI r u v D) ?_;cases h3:bx r u v with
      | false =>
       simp only[am,aI,bJ hj];refine nx df (()) hj (trivial) ?_ ?_ ?_
       all_goals simp[bZ,aq,am,bt,iF,U,h2,h3]
      | true =>
       simp only[am,aI,bJ hj];refine nx df (()) hj (trivial) ?_ ?_ ?_
       all_goals simp[bZ,aq,am,bt,iF,U,h2,h3]
   .rintro x -;simp only[bZ,aq,am,Rl.al];refine cl (lR r D) ?_;simp only[am,Nat.reduceEqDiff,aI,reduceCtorEq,cE,hg];cases h:g u with
    | true =>
     have e:(bA (bd r)).find? g=aa u:=Bb hi hJ h;simp only[am,aI];refine aL ?_;simp[V.erase,bD,jP,e]
    | false =>
     simp only[am,aI,bJ hi];exact nx aT (()) hi (iW hJ h)
 .rintro x hJ;have e:(bA (bd r)).find? g=none:=Bc hJ;simp only[hF,aq,am,Rl.al];refine cl (lR r D) ?_;simp only[am,aI,cE];refine aL ?_;simp[V.erase,bD,jP,e]
def atz(r:Rl)(i j:Nat)(D:ah):a8 191 [.agg r.enc,.int .i64 (i:Nat),.int .i64 (j:Nat)] D (jP (re r i j)):=by
 refine ah5.aV ?_;simp only[aU,am,a7,Nat.reduceAdd,Rl.al];rw[apo];generalize hg:(λu=>(bx r u i&&bx r u j)&&(bA (bd r)).all λv=>!(bx r v i&&bx r v j&&!bx r v u))=g;have hg:∀u,((bx r u i&&bx r u j)&&(bA (bd r)).all λv=>!(bx r v i&&bx r v j&&!bx r v u))=g u:=λu=>by rw[<-hg]
 have hp:=@je r;refine cn (bd r) (λu (x:Unit)=>⟨[.agg r.enc,.int .i64 (i:Nat),.int .i64 (j:Nat),.ptr (.aE 0) 0,.any,.any,.any,.any,.int .i64 (u:Nat)]++aq 43 .any,[r.enc],D⟩) (λu x=>(∀k,k<u->g k=ar)) λF hF JF aT=>⟨?_,?_,?_⟩
 .exact en aT (()) (by intro k h;omega)
 .rintro u x hi hJ;simp only[hF,aq,am,Rl.al];refine cl (lR r D) ?_;simp only[am,Rl.al,cc hi];refine cl (pI r u i D) ?_
  rcases aao (bx r u i) with hb | hb
  all_goals simp only[am,Rl.al,hb]
  case' inl =>
   refine cl (pI r u j D) ?_;simp only[am]
  all_goals
   refine cn (bd r) (λv (x:Unit)=>⟨[.agg r.enc,.int .i64 (i:Nat),.int .i64 (j:Nat),.ptr (.aE 0) 0,.any,.any,.any,.any,.int .i64 (u:Nat),.bool ((bx r u i&&bx r u j)&&(bA v).all λv=>!(bx r v i&&bx r v j&&!bx r v u)),.int .i64 (v:Nat)]++aq 41 .any,[r.enc],D⟩) (λv x=>(True)) λF2 bZ pU df=>⟨?_,?_,?_⟩
   .refine en df (()) (trivial) ?_ ?_ ?_
    all_goals simp[bZ,aq,am,bt,hb]
   .rintro v x hj -;simp only[bZ,aq,am,Rl.al];refine cl (lR r D) ?_;simp only[am,Rl.al,cc hj];refine cl (pI r v i D) ?_;cases U:bx r v i with
    | false =>
     simp only[am,aI,bJ hj];refine nx df (()) hj (trivial) ?_ ?_ ?_
     all_goals simp[bZ,aq,am,bt,iF,U]
    | true =>
     simp only[am,Rl.al];refine cl (pI r v j D) ?_;cases h2:bx r v j with
     | false =>
      simp only[am,aI,bJ hj];refine nx df (()) hj (trivial) ?_ ?_ ?_
      all_goals simp[bZ,aq,am,bt,iF,h2]
     | true =>
      simp only[am,Rl.al];refine cl (pI r v u D) ?_;cases h3:bx r v u with
      | false =>
       simp only[am,aI,bJ hj];refine nx df (()) hj (trivial) ?_ ?_ ?_
       all_goals simp[bZ,aq,am,bt,iF,U,h2,h3]
      | true =>
       simp only[am,aI,bJ hj];refine nx df (()) hj (trivial) ?_ ?_ ?_
       all_goals simp[bZ,aq,am,bt,iF,U,h2,h3]
   .rintro x -;simp only[bZ,aq,am,Rl.al];refine cl (lR r D) ?_;simp only[am,Nat.reduceEqDiff,aI,reduceCtorEq,cE,hg];cases h:g u with
    | true =>
     have e:(bA (bd r)).find? g=aa u:=Bb hi hJ h;simp only[am,aI];refine aL ?_;simp[V.erase,bD,jP,e]
    | false =>
     simp only[am,aI,bJ hi];exact nx aT (()) hi (iW hJ h)
 .rintro x hJ;have e:(bA (bd r)).find? g=none:=Bc hJ;simp only[hF,aq,am,Rl.al];refine cl (lR r D) ?_;simp only[am,aI,cE];refine aL ?_;simp[V.erase,bD,jP,e]
def awV{r:Rl}:gK (((bA (bd r)).filter λk=>bx r k i).map Int.ofNat)=mz r i:=by
 apply mF;intro j hj;rw[rD,WY hj,Hl];simp only[GQ,mq];exact⟨λh=>h.2,λh=>⟨(i_ h).1,h⟩⟩
def auh(r:Rl)(i:Nat)(D:ah):a8 244 [.agg r.enc,.int .i64 (i:Nat)] D (.int .u64 ((mz r i).toNat:Nat)):=by
 refine aiR.aV ?_;simp only[aU,s_,Nat.reduceAdd];have hp:=@je r;refine cn (bd r) (λk (x:Tk × ah)=>⟨[.agg r.enc,.int .i64 (i:Nat),.ptr (.aE 0) 0,.any,.any,.sl x.1 1 (cy (((bA k).filter λk=>bx r k i).map Int.ofNat)),.int .i64 (k:Nat)]++aq 16 .any,[r.enc],x.2⟩) (λk x=>(Gr D x.2 x.1 ((bA k).filter λk=>bx r k i).length)) λF hF JF aT=>⟨?_,?_,?_⟩
 .refine en aT ((.aZ,D)) (Gr.nil) ?_ ?_ ?_
  all_goals simp[hF,aq,am,bt,cy]
 .rintro k ⟨tk,bF⟩ hi hG;simp only at hG;have hlen:((bA k).filter λk=>bx r k i).length<=64:=by have:=Cq (λk=>bx r k i) (bA k);simp at this;omega
  simp only[hF,aq,am,Rl.al];refine(lR r bF).mono ?_;rintro v bF ⟨rfl,rfl⟩;simp only[am,Rl.al,cc hi];refine(pI r k i bF).mono ?_;rintro v bF ⟨rfl,rfl⟩;cases hb:bx r k i with
  | false =>
   simp only[am,aI,bJ hi];refine nx aT ((tk,bF)) hi (by simpa [iF,hb] using hG) ?_ ?_ ?_
   all_goals simp[hF,aq,am,bt,iF,hb]
  | true =>
   simp only[am];refine Gr.app (by simpa [cy] using hG) (by simp[cy,aQ];omega) λfD σ' lA _ _=>?_
   simp only[am,aI,bJ hi];refine nx aT ((fD,σ')) hi (by simpa [cy,iF,hb] using lA) ?_ ?_ ?_
   all_goals simp[hF,aq,am,bt,iF,hb,Nw]
 .rintro⟨tk,bF⟩ hG;simp only at hG;have hlen:((bA (bd r)).filter λk=>bx r k i).length<=64:=by have:=Cq (λk=>bx r k i) (bA (bd r));simp at this;omega
  simp only[hF,aq,am,Rl.al];refine(lR r bF).mono ?_;rintro v bF ⟨rfl,rfl⟩;simp only[am,aI,cE];refine ch.eC (as' := [.sl .no 1 (cy (((bA (bd r)).filter λk=>bx r k i).map Int.ofNat))]) ?_ ⟨dp.no,trivial⟩ bW.rfl;refine(DE _ bF (by rw[aN];omega)).mono ?_;rintro v bF ⟨rfl,rfl⟩;simp only[am,awV];exact aX rfl hG.sub ⟨rfl,rfl⟩
def atV(r:Rl)(w:br)(D:ah):a8 208 [.agg r.enc,.int .u64 (w.toNat:Nat)] D (jP (vf r w)):=by
 refine aii.aV ?_;simp only[aU,am,a7,Nat.reduceAdd,Rl.al];have hp:=@je r;refine cn (bd r) (λi (x:Unit)=>⟨[.agg r.enc,.int .u64 (w.toNat:Nat),.ptr (.aE 0) 0,.any,.any,.any,.int .i64 (i:Nat)]++aq 12 .any,[r.enc],D⟩) (λi x=>(∀k,k<i->decide (mz r k=w)=ar)) λF hF JF aT=>⟨?_,?_,?_⟩
 .exact en aT (()) (by intro k h;omega)
 .rintro i x hi hJ;simp only[hF,aq,am,Rl.al];refine cl (lR r D) ?_;simp only[am,Rl.al,cc hi];refine cl (auh r i D) ?_;simp only[am,w_]
  by_cases h:mz r i=w
  .have e:vf r w=aa i:=Bb hi hJ (aK h);simp only[am,aI,aK h];refine aL ?_;simp[V.erase,bD,jP,e]
  .simp only[am,aI,aJ h,bJ hi];exact nx aT (()) hi (iW hJ (aJ h))
 .rintro x hJ;have e:vf r w=none:=Bc hJ;simp only[hF,aq,am,Rl.al];refine cl (lR r D) ?_;simp only[am,aI,cE];refine aL ?_;simp[V.erase,bD,jP,e]
def aty(r:Rl)(D:ah):a8 124 [.agg r.enc] D (.bool (jN r)):=by
 refine ahk.aV ?_;simp only[aU,am,a7,Nat.reduceAdd,Rl.al]
 by_cases U:r.n<1
 .simp only[am,aK U];refine aL ?_;simp[V.erase,jN];omega
 .simp only[am,Rl.al,aJ U]
  by_cases h2:64<r.n
  .simp only[am,aK h2];refine aL ?_;simp[V.erase,jN];omega
  .simp only[am,Rl.al,aJ h2];refine cl (atB r D) ?_;obtain⟨n,hn⟩:∃n:Nat,r.n=n:=⟨r.n.toNat,by omega⟩;have hp:bd r=n:=by rw[bd,hn];omega
   cases ho:rl r with
   | false =>
    simp only[am];refine aL ?_;simp[V.erase,jN,ho]
   | true =>
    simp only[am];have kp:(∀i,i<n->∀j,j<i->((qo r i j).isSome&&(re r i j).isSome)=ab)->jN r=true:=λh=>by
     simp only[jN,ho,hn,gi,eM,mq,bg,bQ,rC];exact⟨by omega,λi hi j hj=>by have:=h i hi j hj;simpa using this⟩
    have aM:∀i j,i<n->j<i->((qo r i j).isSome&&(re r i j).isSome)=ar->jN r=false:=λi j hi hj h=>by
     cases hq:jN r with
     | false=>rfl
     | true =>
      simp only[jN,hn,gi,eM,mq,bg] at hq
      have:=hq.2 i hi j hj
      rw[this.1,this.2] at h;simp at h
    refine cn (n) (λi (x:Unit)=>⟨[.any,.ptr (.aE 0) 0,.any,.int .i64 (i:Nat)]++aq 49 .any,[r.enc],D⟩) (λi x=>(∀a,a<i->∀b,b<a->((qo r a b).isSome&&(re r a b).isSome)=ab)) λF hF JF aT=>⟨?_,?_,?_⟩
    .exact en aT (()) (by intro k h;omega)
    .rintro i x hi hJ;simp only[hF,aq,am,cc hi,Rl.al,hn];refine cn (i) (λj (x:Unit)=>⟨[.any,.ptr (.aE 0) 0,.any,.int .i64 (i:Nat),.int .i64 (j:Nat)]++aq 48 .any,[r.enc],D⟩) (λj x=>(∀b,b<j->((qo r i b).isSome&&(re r i b).isSome)=ab)) λF2 bZ pU df=>⟨?_,?_,?_⟩
     .refine en df (()) (by intro k h;omega) ?_ ?_ ?_
      all_goals simp[bZ,aq,am,bt]
     .rintro j x hj n_;simp only[bZ,aq,am,cc hj,Rl.al];refine cl (atx r i j D) ?_;simp only[am,Rl.al,jP];refine cl (atz r i j D) ?_;simp only[am,jP];cases ha:(qo r i j).isSome with
      | false =>
       simp only[am,aI];refine aL ?_;simp[V.erase,aM i j hi hj (by rw[ha];rfl)]
      | true =>
       simp only[am];cases hb:(re r i j).isSome with
       | false =>
        simp only[am,aI];refine aL ?_;simp[V.erase,aM i j hi hj (by rw[ha,hb];rfl)]
       | true =>
        simp only[am,aI,bJ hj];refine nx df (()) hj (iW n_ (by rw[ha,hb];rfl)) ?_ ?_ ?_
        all_goals simp[bZ,aq,am,bt]
     .rintro x n_;simp only[bZ,aq,am,aI,cE,Nat.reduceEqDiff,aI,reduceCtorEq,bJ hi];exact nx aT (()) hi (iW hJ n_)
    .rintro x hJ;simp only[hF,aq,am,aI,cE,aI,Rl.al,hn];refine aL ?_;simp[V.erase,kp hJ]
def ain:aS prog 214 (sq [rg 2 [oz 2],rg 3 [mk 0,nf 3,nl 2,oW [0,0] [],oq (.l8 ar [1,1] (.s 6) (.s 7)),o1 2],.ret]) [.tmp 2] 9:=aW func214
def ai6:aS prog 258 (sq [rg 0 [oZ 2 [1,0]],rg 4 [om 0,oc 260 [.s 4,.c (.int .u8 97)],oZ 3 [3,1,0,10,0],o2 5 3],rg 6 [of 0 3,nF 1,of 0 3,nF 2,oW [1,0] [(0,1,8),(1,1,11)],o2 2 2],.ret]) [.cell 2 ab 2] 13:=aW func258
def ai7:aS prog 259 (sq [rg 4 [oz 2],dg 5 [om 0,oC 214 [5],gA,mk 0,nF 1,nB .geq 0,gZ,gA,mk 0,nF 1,mk 0,nF 0,nL,nb .lss 18,gZ,gA,mk 0,nF 0,mk 0,nF 1,nA 5 30,nf 0,nF 0,om 1,nb .eql 38,gZ,o1 4],.ret]) [.tmp 4] 42:=aW func259
def ai9:aS prog 260 (sq [rg 0 [oZ 4 [3,1,0,10,0]],sq [rg 5 [om 0,om 1,oC 259 [5,6],nn],ci 8 (sq [rg 9 [om 0,oC 287 [9]],rg 11 [oW [3,1,0,10,0] [],o2 5 4],.ret])],rg 12 [mk 0,nF 1,nB .add 1,ok 12,nf 1,os 1 18 16],dg 19 [mk 0,nF 0,mk 0,nF 1,nB .sub 1,nA 5 22,nl 5,o2 5 4],.ret]) [.cell 4 ab 5] 30:=aW func260
def ajy:aS prog 287 (sq [sq [rg 2 [om 0,oC 214 [2],nn],ci 4 .ret],rg 5 [om 0,mk 0,nF 2,oG [0,0] [(0,1,.c (.int .i64 2)),(1,1,.s 9)],ok 5,nf 3,os 2 12 10],dg 13 [mk 0,nF 1,nB .geq 0,gA,mk 0,nF 1,mk 0,nF 0,nL,nb .lss 22,gZ],ci 29 (dg 30 [om 0,mk 0,nF 0,mk 0,nF 1,nA 5 34,nf 0,nF 2,ok 30,nf 3,nf 1,os 1 45 42])]) [] 46:=aW func287
variable{r:Nat}{rd:ae}
def yg(h:D.box r=aa rd.enc):a8 214 [.ptr (.out r) 0] D (.bool rd.ok):=by
 refine ain.aV ?_;simp only[aU,a7,am,h,ae.enc];refine aX rfl (ah.bm _) ⟨?_,rfl⟩;cases hb:rd.aM<;>simp[ae.ok,V.erase,hb,dz,gk]
def r7{k:Int}(h:D.box r=aa rd.enc):a8 259 [.ptr (.out r) 0,.int .u8 k] D (.bool (rd.b_ k)):=by
 refine ai7.aV ?_;simp only[aU,a7,am];refine bK.intro (yg h) ?_;simp only[am];cases ck:rd.ok
 .simp only[am];refine aX rfl (ah.bm _) ⟨?_,rfl⟩;simp[ae.b_,ck,V.erase]
 .simp only[am,h,ae.enc]
  by_cases h0:0<=rd.at_
  .simp only[am,h0,b9,h,ae.enc,lz]
   by_cases U:rd.at_<rd.l.length
   .obtain⟨j,hj⟩:=AF h0;have iP : j<rd.l.length:=by omega
    simp only[am,U,b9,h,ae.enc];refine sN h0 (c:=rd.l[j].enc) (by simp[uF,hj,iP]) ?_;simp only[am,dB];refine aX rfl (ah.bm _) ⟨?_,rfl⟩;simp[ae.b_,bL,V.erase,ck,hj,iP]
   .simp only[am,U,fL];refine aX rfl (ah.bm _) ⟨?_,rfl⟩
    have:rd.l[rd.at_.toNat]?=none:=xe (by omega)
    simp[ae.b_,bL,V.erase,this]
  .simp only[am,h0,fL];refine aX rfl (ah.bm _) ⟨?_,rfl⟩;simp[ae.b_,bL,V.erase,h0]
def Tc(h:D.box r=aa rd.enc):dY 287 [.ptr (.out r) 0] D (.bH []) (D.set r rd.fail.enc):=by
 refine ajy.aV ?_;simp only[aU,a7,am];refine(yg h).mono ?_;rintro v σ' ⟨rfl,rfl⟩;cases hb:rd.aM with
 | some b =>
  simp only[am,ae.ok,hb,Option.isNone];refine aX rfl (ah.bm _) ⟨rfl,?_⟩;rw[ae.fail,hb];exact(ah.Ae h).symm
 | none =>
  simp only[am,ae.ok,hb,Option.isNone,h,ae.enc,Nat.reduceAdd]
  by_cases h0:0<=rd.at_
  .simp only[am,h0,b9,lz]
   by_cases U:rd.at_<rd.l.length
   .obtain⟨j,hj⟩:=AF h0;have iP : j<rd.l.length:=by omega
    simp only[am,U,b9];refine sN h0 (c:=rd.l[j].enc) (by simp[uF,hj,iP]) ?_;simp only[am,dB,Nat.reduceAdd];refine aX rfl (ah.bm _) ⟨rfl,?_⟩;simp[ae.fail,ae.spot,hb,hj,iP,dz,gk]
   .simp only[am,U,fL];refine aX rfl (ah.bm _) ⟨rfl,?_⟩
    have:rd.l[rd.at_.toNat]?=none:=xe (by omega)
    simp[ae.fail,ae.spot,hb,this,dz,gk]
  .simp only[am,h0,fL];refine aX rfl (ah.bm _) ⟨rfl,?_⟩;simp[ae.fail,ae.spot,hb,h0,dz,gk]
def yv{k:Int}(h:D.box r=aa rd.enc)(hb:rd.l.length<=aQ):dY 260 [.ptr (.out r) 0,.int .u8 k] D (.agg (rd.take k).1.enc) (D.set r (rd.take k).2.enc):=by
 refine ai9.aV ?_;simp only[aU,a7,am];refine(r7 h).mono ?_;rintro v σ' ⟨rfl,rfl⟩;cases hs:rd.b_ k
 .simp only[am];refine(Tc h).mono ?_;rintro v σ' ⟨rfl,rfl⟩;simp only[am];refine aX rfl (ah.bm _) ⟨?_,?_⟩
  .simp[ae.take,hs,V.erase,bD,aC.zero,aC.enc,eg]
  .simp[ae.take,hs]
 .have dS := hs;simp only[ae.b_,bL,bg,bQ] at dS;obtain⟨_,h0,hk⟩:=dS;have U:rd.at_.toNat<rd.l.length:=by
   cases hq:rd.l[rd.at_.toNat]? with
   | none=>rw[hq] at hk;simp at hk
   | some t=>exact(fy.1 hq).1
  simp only[aQ] at hb;simp only[am,h,ae.enc];rw[wrap_i64 (x:=rd.at_+1),wrap_i64 (x:=rd.at_+1 - 1)];refine tU (c:=rd.l[rd.at_.toNat].enc) (by rw[show(rd.at_+1 - 1).toNat=rd.at_.toNat by omega];simp[uF,U]) ?_;simp only[am,dB];refine aX rfl (ah.bm _) ⟨?_,?_⟩
  .simp[ae.take,hs,V.erase,bD,U,fW]
  .simp[ae.take,hs]
def Ax(h:D.box r=aa rd.enc)(hb:rd.l.length<=aQ):dY 258 [.ptr (.out r) 0] D (.agg rd.word.1.enc) (D.set r rd.word.2.enc):=by
 refine ai6.aV ?_;simp only[aU,a7,am];refine(yv h hb).mono ?_;rintro v σ' ⟨rfl,rfl⟩;simp only[am,dB,Nat.reduceAdd];refine aX rfl (ah.bm _) ⟨?_,?_⟩
 .simp[ae.word,V.erase,bD,aA.enc]
 .simp[ae.word]
def ai4:aS prog 256 (sq [rg 4 [om 1,oq (.jj (.s 4) [])],bl 0 (sq [sq [rg 6 [om 0,oc 259 [.s 6,.c (.int .u8 44)]],cx 7 0],.block 1 (sq [rg 8 [om 0,oc 260 [.s 8,.c (.int .u8 44)]],rg 10 [om 1,oq (.jj (.s 10) [])]])])]) [] 12:=aW func256
structure Sys(O:Type) where
 F:O->ah
 rd:O->ae
 set:O->ae->O
 step:O->O
def Sys.go{O:Type}(S:Sys O):Nat->O->O
 | 0,a=>a
 | n+1,a=>if (S.rd a).b_ 44 then S.go n (S.step (S.set a ((S.rd a).take 44).2)) else a
def auC{k:Int}(h:rd.b_ k=ab):rd.aM=aj/\0<=rd.at_/\rd.at_<rd.l.length:=by
 simp only[ae.b_,ae.ok,bL,bg,bQ,si] at h;obtain⟨U,h0,hk⟩:=h;refine⟨U,h0,?_⟩;cases hq:rd.l[rd.at_.toNat]? with
 | none=>rw[hq] at hk;simp at hk
 | some t=>have:=(fy.1 hq).1;omega
variable{g:FuncId}
def PK{O:Type}(S:Sys O)(Inv:O->Prop){cap:List V}(qj:bT cap=ab)
 (qd:∀a,Inv a->(S.F a).box r=aa (S.rd a).enc) (hlen:∀a,Inv a->(S.rd a).l.length<=aQ)
 (o5:∀a,Inv a->(S.rd a).b_ 44=ab->(S.F a).set r ((S.rd a).take 44).2.enc=S.F (S.set a ((S.rd a).take 44).2))
 (tP:∀a,Inv a->(S.rd a).b_ 44=ab->ch prog g cap (S.F (S.set a ((S.rd a).take 44).2)) (λv σ' => v = .bH []/\σ' = S.F (S.step (S.set a ((S.rd a).take 44).2))) /\
   Inv (S.step (S.set a ((S.rd a).take 44).2))/\(S.rd (S.step (S.set a ((S.rd a).take 44).2))).l=(S.rd a).l/\(S.rd a).at_+1<=(S.rd (S.step (S.set a ((S.rd a).take 44).2))).at_)
 {a:O} (h0:ch prog g cap (S.F a) (λv σ' => v = .bH []/\σ' = S.F (S.step a))) (hI:Inv (S.step a)) {n:Nat} (hn:(S.rd (S.step a)).l.length<=n) :
 dY 256 [.ptr (.out r) 0,.fn (.func g) [] cap] (S.F a) (.bH []) (S.F (S.go n (S.step a))):=by
 refine ai4.aV ?_;simp only[aU,a7,am,qj];refine h0.mono ?_;rintro v σ' ⟨rfl,rfl⟩;simp only[am]
 let I:{p:O × Nat // Inv p.1/\((S.rd p.1).l.length:Int)<=max (S.rd p.1).at_ 0+p.2/\S.go p.2 p.1=S.go n (S.step a)}->St:=λp =>
  ⟨[.ptr (.out r) 0,.fn (.func g) [] cap]++aq 10 .any,[],S.F p.1.1⟩
 refine jX I (λp=>p.1.2) ?_ ?_
 .refine bI.enter ⟨(S.step a,n),hI,by simp only;omega,rfl⟩ ?_ cT.rfl bW.rfl;simp[I,aq,am]
 .rintro⟨⟨b,m⟩,hb,hm,uR⟩;simp only[I,aq,am];simp only at hb hm uR;refine(r7 (qd b hb)).mono ?_;rintro v σ' ⟨rfl,rfl⟩;cases hs:(S.rd b).b_ 44
  .simp only[am];refine aX rfl (ah.bm _) ⟨rfl,?_⟩;rw[<-uR];cases m<;>simp[Sys.go,hs]
  .obtain⟨_,U,h2⟩:=auC hs;simp only[am];refine(yv (qd b hb) (hlen b hb)).mono ?_;rintro v σ' ⟨rfl,rfl⟩;simp only[am,qj];obtain⟨k1,k2,k3,k4⟩:=tP b hb hs;rw[o5 b hb hs];refine k1.mono ?_;rintro v σ' ⟨rfl,rfl⟩;simp only[am];cases m with
   | zero=>omega
   | succ m =>
    refine bI.again ⟨(S.step (S.set b ((S.rd b).take 44).2),m),k2,?_,?_⟩ (by simp) ?_ cT.rfl bW.rfl
    .rw[k3];simp only;omega
    .rw[<-uR];simp[Sys.go,hs]
    .simp[am]
def ai2:aS prog 254 (sq [rg 8 [oi 0],rg 11 [om 0,om 1,oC 260 [11,12],oZ 9 [3,1,0,10,0],o2 5 9],sq [rg 14 [om 0,oC 214 [14],nn],cr 16 8 [oi 0]],rg 17 [fo 3 9,fo 4 9,oW [10,0,0,0,0] [(0,1,18),(2,1,20)],oq (.gS 5 (.s 21)),o1 10],sq [rg 23 [om 2,nn,gB,fo 3 9,nL,nB .gtr 0,gZ],ci 30 (rg 31 [om 3,om 10,oq (.jj (.s 31) [(.s 32)])])],sq [dg 34 [om 10,oC 214 [34],gA,mk 10,nF 1,mk 10,nF 0,nL,nb .lss 40,gZ],ci 47 (rg 48 [om 10,oC 287 [48]])],sq [rg 50 [om 10,oC 214 [50],nn],ci 52 (rg 53 [om 0,mk 10,nf 3,nl 2,ok 53,nf 3,os 2 59 57])],rg 60 [of 0 9,nF 2,o1 8],.ret]) [.tmp 8] 63:=aW func254 ⟨[22],[]⟩
variable{empty:Bool}
def Qj{kind:Int}{cap:List V}(qj:bT cap=ab)(h:D.box r=aa rd.enc)(hlen:rd.l.length<=aQ)(nD:(rd.take kind).1.ak.length<=aQ)
 (i1:ae) (tg:ah) (hcb:(rd.take kind).2.ok=ab->(empty=ar\/(rd.take kind).1.ak.length≠0)->∀q,D.box q=aj ->
   ch prog g (.ptr (.out q) 0::cap) ((D.set r (rd.take kind).2.enc).set q (rd.take kind).1.inner.enc) λv σ' => v = .bH []/\σ' = (tg.set r (rd.take kind).2.enc).set q i1.enc)
 (ka:empty=ab->(rd.take kind).1.ak.length=0->i1=(rd.take kind).1.inner/\tg=D) (hq:∀q,D.box q=aj->tg.box q=aj) (hl:i1.l=(rd.take kind).1.ak) :
 ch prog 254 [.ptr (.out r) 0,.int .u8 kind,.bool empty,.fn (.func g) [] cap] D λv σ' =>
  if (rd.take kind).2.ok=ab then v = .int .i64 (rd.take kind).1.tok.pos/\σ' = tg.set r ((rd.take kind).2.under i1).enc else v = .int .i64 0/\σ' = D.set r (rd.take kind).2.enc:=by
 refine ai2.aV ?_;simp only[aU,a7,am];refine(yv h hlen).mono ?_;rintro v σ' ⟨rfl,rfl⟩;generalize ht:(rd.take kind).1=t at *;generalize hr1:(rd.take kind).2=vj at *;simp only[am,dB,Nat.reduceAdd];refine(yg (ah.eW _ _ _)).mono ?_;rintro v σ' ⟨rfl,rfl⟩;cases ck:vj.ok
 .simp only[am];refine aX rfl (ah.bm _) ?_;simp[V.erase]
 .have gm:vj.aM=none:=by simpa [ae.ok] using ck
  simp only[am,Nat.reduceAdd];refine kY λq Ix=>?_
  have lC:q≠r:=by rintro rfl;rw[ah.eW] at Ix;simp at Ix
  have U1 : D.box q=none:=by rw[ah.eY _ _ lC] at Ix;exact Ix
  have eX:[V.sl .no 5 (eg t.ak),.int .i64 0,.int .i64 t.fin,.int .i64 0,.int .i64 0]=t.inner.enc:=rfl;simp only[am,eX];have gI:∀i:ae,i.l=t.ak->((tg.set r vj.enc).set q i.enc).box q=aa i.enc:=λi _=>ah.eW _ _ _
  have qY:∀(A B:List V),(tg.set r A).sub ((tg.set r A).set q B):=λA B=>by
   refine⟨λb cs hb=>?_,λ_ _ h=>h,λ_ _ h=>h⟩
   by_cases xM:b=q
   .subst xM;rw[ah.eY _ _ lC,hq b U1] at hb;simp at hb
   .rw[ah.eY _ _ xM];exact hb
  have hsw:∀(A B C:List V),((tg.set r A).set q B).set r C=(tg.set r C).set q B:=λA B C=>by rw[ah.set_comm lC,ah.set_set]
  have H':((tg.set r vj.enc).set q i1.enc).box q=aa i1.enc:=ah.eW _ _ _
  by_cases hc:empty=ar\/t.ak.length≠0
  case' neg =>
   have hE:empty=true:=by cases empty<;>simp at hc ⊢
   have hk:t.ak.length=0:=by
    rcases KL t.ak.length with h | h
    .exact h
    .exact absurd (.inr (by omega)) hc
   obtain⟨e1,e2⟩:=ka hE hk;simp only[am,hE,lz,hk,uj,Int.lt_irrefl,fL];rw[<-e1,<-e2]
  case' pos =>
   have uR:=hcb ck hc q U1;cases hE:empty
   case' true =>
    have hk:0<t.ak.length:=by
     rcases hc with h | h
     .rw[hE] at h;simp at h
     .omega
    simp only[am,lz,Int.natCast_pos,hk,b9]
   all_goals
    simp only[am,qj];refine uR.mono ?_;rintro v σ' ⟨rfl,rfl⟩;simp only[am]
  all_goals
   refine bK.intro (yg H') ?_;have UA:∀(i:ae),((tg.set r vj.enc).set q i.enc).box r=aa vj.enc:=λi=>by rw[ah.eY _ _ (fJ lC),ah.eW]
   have fin:∀(i:ae) (x:List V),x=(vj.under i1).enc->(tg.set r (vj.under i1).enc).sub (((tg.set r vj.enc).set q i.enc).set r x):=λi x hx=>by
    rw[hx,hsw];exact qY _ _
   cases C7:i1.ok
   .have gI:i1.close=i1:=by simp[ae.close,C7]
    simp only[am];refine(yg H').mono ?_;rintro v σ' ⟨rfl,rfl⟩;simp only[am,C7,UA,ae.ex,Nat.reduceAdd];exact aX rfl (fin i1 _ (by rw[ae.under,gI];rfl)) ⟨rfl,rfl⟩
   .simp only[am,ae.ex,hl,lz]
    by_cases aD:i1.at_<t.ak.length
    .have gI:i1.close=i1.fail:=by simp[ae.close,C7,hl,aD]
     simp only[am,aD,b9];refine(Tc H').mono ?_;rintro v σ' ⟨rfl,rfl⟩;simp only[am];refine(yg (ah.eW _ _ _)).mono ?_;rintro v σ' ⟨rfl,rfl⟩;have hf:i1.fail.ok=false:=by
      have:i1.aM=none:=by simpa [ae.ok] using C7
      simp[ae.fail,this,ae.ok]
     simp only[am,hf,UA,ae.ex,Nat.reduceAdd];exact aX rfl (fin i1.fail _ (by rw[ae.under,gI];rfl)) ⟨rfl,rfl⟩
    .have gI:i1.close=i1:=by simp[ae.close,hl,aD]
     have hu:vj.under i1=vj:=by
      have:i1.aM=none:=by simpa [ae.ok] using C7
      rw[ae.under,gI,this,<-gm]
     simp only[am,aD,fL];refine(yg H').mono ?_;rintro v σ' ⟨rfl,rfl⟩;simp only[am,C7];refine aX rfl ?_ ⟨rfl,rfl⟩;rw[hu];exact qY _ _
def aim:aS prog 213 (sq [rg 4 [oz 7,oi 0],rg 0 [od (aa 6) (.qL [(.sl .aZ 2 [])])],.qG (rg 8 [om 0,om 1,oq (.ky (.func 255) [] [(.s 6)]),oc 254 [.s 8,.c (.int .u8 123),.s 9,.s 10],o1 7]),rg 12 [oo 6,om 7,ot 4 12,o1 5],.ret]) [.tmp 4,.tmp 5] 14:=aW func213 ⟨[6],[2]⟩
def ai3:aS prog 255 (sq [rg 0 [od (aa 2) (.gS 1 (.s 0))],rg 3 [no,oq (.ky (.func 257) [] [(.s 1),(.s 2)]),oC 256 [3,4]]]) [] 6:=aW func255 ⟨[2],[]⟩
def ai5:aS prog 257 (dg 2 [mM [1],oo 0,oo 1,oC 258 [3],n1 2,na 2 2,o2 1 0]) [] 7:=aW func257
variable{o p Z:Nat}
def awZ{rows:List (List V)}(ho:D.box o=aa [.sl (.tk Z) 2 rows])(hp:D.box p=aa [.ptr (.out r) 0])(hr:D.box r=aa rd.enc)(kb:o≠r)
 (ht:D.aR Z=aa rows.length) (hb:rows.length+1<=aQ) (hlen:rd.l.length<=aQ) :
 dY 257 [.ptr (.out o) 0,.ptr (.out p) 0] D (.bH []) (((D.set r rd.word.2.enc).set o [.sl (.tk Z) 2 (rows++[rd.word.1.enc])]).a_ Z (rows.length+1)):=by
 refine ai5.aV ?_;simp only[aU,a7,am,ho,hp];refine bK.intro (Ax hr hlen) ?_;simp only[am,aA.enc];refine xo (by simpa using hb) ht ?_;have U:(D.set r rd.word.2.enc).box o=aa [.sl (.tk Z) 2 rows]:=by rw[ah.eY _ _ kb];exact ho
 simp only[am,U];exact aX rfl (ah.bm _) ⟨rfl,rfl⟩
def f_(D:ah)(q o Z k:Nat)(rd:ae)(rows:List (List V)):ah:=((D.set q rd.enc).set o [.sl (.tk Z) k rows]).a_ Z rows.length
def Gx(D:ah)(q o Z:Nat):Sys (ae × List aA):=⟨λa=>f_ D q o Z 2 a.1 (a.2.map aA.enc),λa=>a.1,λa r=>(r,a.2),gP⟩
def HW{G:Type}(F:ae × List G->ah)(step:ae × List G->ae × List G):∀(n:Nat) (a:ae × List G),Sys.go ⟨F,λa=>a.1,λa r=>(r,a.2),step⟩ n a=jy step n a
 | 0,_=>rfl
 | n+1,a=>by simp only[Sys.go,jy,HW F step n]
variable{q:Nat}
def CV{rows:List (List V)}(h:q≠o):(f_ D q o Z k rd rows).box q=aa rd.enc:=by
 simp[f_,ah.a_,ah.set,h]
def HT{rows:List (List V)}:(f_ D q o Z k rd rows).box o=aa [.sl (.tk Z) k rows]:=by
 simp[f_,ah.a_,ah.set]
def wa{rows:List (List V)}(h:p≠q)(h' : p≠o):(f_ D q o Z k rd rows).box p=D.box p:=by
 simp[f_,ah.a_,ah.set,h,h']
variable{cs:List V}
def HU{rows:List (List V)}(h:p≠q)(h' : p≠o):(f_ D q o Z k rd rows).set p cs=f_ (D.set p cs) q o Z k rd rows:=by
 have:((D.set q rd.enc).set o [.sl (.tk Z) k rows]).set p cs=((D.set p cs).set q rd.enc).set o [.sl (.tk Z) k rows]:=by
  rw[ah.set_comm (fJ h'),ah.set_comm (b:=q) (fJ h)]
 show(((D.set q rd.enc).set o [.sl (.tk Z) k rows]).set p cs).a_ Z rows.length=_;rw[this];rfl
def jg(h:D.box p=aj):D.sub (D.set p cs):=by
 refine⟨λb ds hb=>?_,λ_ _ h=>h,λ_ _ h=>h⟩
 have:b≠p:=by rintro rfl;rw[h] at hb;simp at hb
 rw[ah.eY _ _ this];exact hb
def TT{rows:List (List V)}:(f_ D q o Z k rd rows).aR Z=aa rows.length:=by
 simp[f_,ah.a_]
variable{lh:ae}
def L2{rows:List (List V)}(h:q≠o):(f_ D q o Z k rd rows).set q lh.enc=f_ D q o Z k lh rows:=by
 have:((D.set q rd.enc).set o [.sl (.tk Z) k rows]).set q lh.enc=(D.set q lh.enc).set o [.sl (.tk Z) k rows]:=by rw[ah.set_comm (fJ h),ah.set_set]
 show(((D.set q rd.enc).set o [.sl (.tk Z) k rows]).set q lh.enc).a_ Z rows.length=_;rw[this];rfl
def TS{rows:List (List V)}{c:List V}(h:q≠o):(((f_ D q o Z k rd rows).set q lh.enc).set o [.sl (.tk Z) k (rows++[c])]).a_ Z (rows.length+1)=f_ D q o Z k lh (rows++[c]):=by
 rw[L2 h];unfold f_;rw[bM,dm,dQ];show((((D.set q lh.enc).set o [.sl (.tk Z) k rows]).set o [.sl (.tk Z) k (rows++[c])]).a_ Z rows.length).a_ Z (rows.length+1)=_;rw[ah.set_set,jU]
variable{G:Type}
def qK(l:List aC)(a:ae × List G):Prop:=a.1.l=l/\0<=a.1.at_/\a.1.at_<=l.length/\(a.1.aM=aj->(a.2.length:Int)<=a.1.at_)
variable{l:List aC}
def Xb{a:ae × List aA}(h:qK l a)(hb:a.1.aM=aj):qK l (gP a)/\a.1.at_<=(gP a).1.at_:=by
 obtain⟨U,h2,h3,h4⟩:=h;have h4:=h4 hb
 rcases a.1.vp 97 with ⟨_,k1,k2,k3,k4⟩ | ⟨_,k1,k2⟩
 .refine⟨⟨?_,?_,?_,λ_=>?_⟩,?_⟩<;>simp only[gP,ae.word,ae.fU,k1,bM,dm,dQ]
  .exact U
  .omega
  .rw[U] at k4;omega
  .omega
  .omega
 .refine⟨⟨?_,?_,?_,λhq=>absurd hq k2⟩,?_⟩<;>simp only[gP,ae.word,ae.fU,k1]
  .exact U
  .exact h2
  .exact h3
  .omega
def OK{a:ae × List G}(h:qK l a)(hs:a.1.b_ 44=ab):qK l ((a.1.take 44).2,a.2)/\(a.1.take 44).2.aM=aj/\(a.1.take 44).2.at_=a.1.at_+1:=by
 obtain⟨U,h2,h3,h4⟩:=h
 rcases a.1.vp 44 with ⟨_,k1,k2,k3,k4⟩ | ⟨k0,_⟩
 .have hb:a.1.aM=none:=by
   simp only[ae.b_,ae.ok,bg,si] at hs;exact hs.1
  have:=h4 hb
  rw[U] at k4;exact⟨⟨by simp only[ae.fU];exact U,by simp only[k1];omega,by simp only[k1];omega,λ_=>by simp only[k1];omega⟩,k2,k1⟩
 .rw[hs] at k0;simp at k0
def aw0(eh:q≠o)(dr:rd.at_=0)(gm:rd.aM=aj)(hlen:rd.l.length+1<=aQ):
 dY 255 [.ptr (.out q) 0,.ptr (.out o) 0] (f_ D q o Z 2 rd []) (.bH []) (f_ D q o Z 2 (eJ gP rd).1 ((eJ gP rd).2.map aA.enc)):=by
 refine ai3.aV ?_;simp only[aU,a7,am];refine kY λp hp=>?_
 have mP:p≠q:=by rintro rfl;rw[CV eh] at hp;simp at hp
 have mO:p≠o:=by rintro rfl;rw[HT] at hp;simp at hp
 rw[HU mP mO];simp only[am,wa mP mO];have tP:∀a:ae × List aA,qK rd.l a->a.1.aM=aj->ch prog 257 [.ptr (.out o) 0,.ptr (.out p) 0] (f_ (D.set p [.ptr (.out q) 0]) q o Z 2 a.1 (a.2.map aA.enc)) λv σ' =>
  v = .bH []/\σ' = f_ (D.set p [.ptr (.out q) 0]) q o Z 2 (gP a).1 ((gP a).2.map aA.enc):=λa ma hb=>by
  have hl:=ma.2.2.2 hb;have iu:=ma.2.2.1;refine(awZ HT (by rw[wa mP mO,ah.eW]) (CV eh) (fJ eh) TT (by rw[aN];omega) (by rw[ma.1];omega)).mono ?_;rintro v σ' ⟨rfl,rfl⟩;refine⟨rfl,?_⟩;rw[TS eh];simp[gP]
 have h0:qK rd.l (rd,([]:List aA)):=⟨rfl,by simp[dr],by simp[dr],λ_=>by simp[dr]⟩;obtain⟨p1,_⟩:=Xb h0 gm;refine(PK (Gx (D.set p [.ptr (.out q) 0]) q o Z) (qK rd.l) (a:=(rd,[])) (n:=rd.l.length) (by simp[am]) (λa h=>CV eh) (λa h=>?_) (λa h hs=>L2 eh) (λa h hs=>?_) (tP _ h0 gm) p1 ?_).mono ?_
 .show a.1.l.length<=aQ;rw[h.1];omega
 .obtain⟨k1,k2,k3⟩:=OK h hs;obtain⟨k4,k5⟩:=Xb k1 k2;refine⟨tP _ k1 k2,k4,?_,?_⟩
  .exact k4.1.trans h.1.symm
  .show a.1.at_+1<=_;simp only at k5;rw[k3] at k5;exact k5
 .show(gP (rd,[])).1.l.length<=rd.l.length;rw[p1.1];omega
 rintro v σ' ⟨rfl,rfl⟩;simp only[am];refine aX rfl (σ' := f_ D q o Z 2 (eJ gP rd).1 ((eJ gP rd).2.map aA.enc)) ?_ ⟨rfl,rfl⟩;have e:(Gx (D.set p [.ptr (.out q) 0]) q o Z).F ((Gx (D.set p [.ptr (.out q) 0]) q o Z).go rd.l.length ((Gx (D.set p [.ptr (.out q) 0]) q o Z).step (rd,[])))=f_ (D.set p [.ptr (.out q) 0]) q o Z 2 (eJ gP rd).1 ((eJ gP rd).2.map aA.enc):=by
  unfold Gx;rw[HW];rfl
 rw[e,<-HU mP mO];exact jg (by rw[wa mP mO];rw[wa mP mO] at hp;exact hp)
def L5{G:Type}{l:List aC}{step:ae × List G->ae × List G}(hs:∀a,a.1.l=l->(step a).1.l=l):∀(n:Nat) (a:ae × List G),a.1.l=l->(jy step n a).1.l=l
 | 0,_,h=>h
 | n + 1, a, h => by
  simp only[jy];split
  .exact L5 hs n _ (hs _ (by rw[ae.fU];exact h))
  .exact h
def Vs{step:ae × List G->ae × List G}(hs:∀l a,a.1.l=l->(step a).1.l=l)(empty:Bool)(t:aC):(ae.inside step empty t).1.l=t.ak:=by
 unfold ae.inside;split
 .rfl
 .exact L5 (hs _) _ _ (hs _ _ rfl)
def awx(l:List aC)(a:ae × List aA)(h:a.1.l=l):(gP a).1.l=l:=by simp[gP,ae.word,ae.fU,h]
def Qp(h:D.box r=aa rd.enc)(hlen:rd.l.length<=aQ)(nD:(rd.take 123).1.ak.length+1<=aQ):
 dY 213 [.ptr (.out r) 0,.bool empty] D (.bH [.sl .no 2 ((rd.words empty).1.1.map aA.enc),.int .i64 (rd.words empty).1.2]) (D.set r (rd.words empty).2.enc):=by
 refine aim.aV ?_;simp only[aU,a7,am];refine kY λo ho=>?_
 have kb:o≠r:=by rintro rfl;rw[h] at ho;simp at ho
 simp only[am];refine bI.tok 0 λZ bE=>⟨_,_,_,fc.rfl,rfl,λi c hc=>⟨c,hc,fc.rfl⟩,rH.set (cs:=[.sl .aZ 2 []]) (cs' := [.sl (.tk Z) 2 []]) (ah.eW _ _ _) ⟨j8.tok rfl,trivial⟩,?_⟩
 simp only[am];have U:((D.set o [.sl (.tk Z) 2 []]).a_ Z 0).box r=aa rd.enc:=by
  show(D.set o _).box r=_;rw[ah.eY _ _ (fJ kb)];exact h
 have a9:∀q,((D.set o [V.sl (.tk Z) 2 []]).a_ Z 0).box q=aj->q≠o/\q≠r/\D.box q=none:=λq hq=>by
  have eh:q≠o:=by rintro rfl;rw[show((D.set q [V.sl (.tk Z) 2 []]).a_ Z 0).box q=_ from ah.eW _ _ _] at hq;simp at hq
  have nJ : D.box q=none:=by rw[<-ah.eY D [V.sl (.tk Z) 2 []] eh];exact hq
  exact⟨eh,by rintro rfl;rw[h] at nJ;simp at nJ,nJ⟩
 generalize eX:ae.inside gP empty (rd.take 123).1=ins;have E9:ins.1.l=(rd.take 123).1.ak:=by rw[<-eX];exact Vs awx _ _
 refine(Qj (kind:=123) (by simp[am]) U hlen (by omega) ins.1 ((D.set o [.sl (.tk Z) 2 (ins.2.map aA.enc)]).a_ Z (ins.2.map aA.enc).length) ?_ ?_ ?_ E9).mono ?_
 .intro ck hc q hq;obtain⟨eh,lC,_⟩:=a9 q hq;have e1:(((D.set o [V.sl (.tk Z) 2 []]).a_ Z 0).set r (rd.take 123).2.enc).set q (rd.take 123).1.inner.enc=f_ (D.set r (rd.take 123).2.enc) q o Z 2 (rd.take 123).1.inner []:=by
   unfold f_;rw[ah.set_comm (b:=q) eh,ah.set_comm (b:=r) (fJ kb)];rfl
  have e2:(((D.set o [V.sl (.tk Z) 2 (ins.2.map aA.enc)]).a_ Z (ins.2.map aA.enc).length).set r (rd.take 123).2.enc).set q ins.1.enc=f_ (D.set r (rd.take 123).2.enc) q o Z 2 ins.1 (ins.2.map aA.enc):=by
   unfold f_;rw[ah.set_comm (b:=q) eh,ah.set_comm (b:=r) (fJ kb)];rfl
  have e3:ins=eJ gP (rd.take 123).1.inner:=by
   rw[<-eX,ae.inside,aB];rintro⟨q1,q2⟩
   rcases hc with hc | hc
   .rw[q1] at hc;simp at hc
   .exact hc q2
  rw[e1,e2,e3];exact aw0 eh rfl rfl nD
 .intro q1 q2
  have:ins=((rd.take 123).1.inner,[]):=by rw[<-eX,ae.inside,aF ⟨q1,q2⟩]
  rw[this];exact⟨rfl,rfl⟩
 .intro q hq;obtain⟨eh,_,nJ⟩:=a9 q hq;show(D.set o _).box q=aj;rw[ah.eY _ _ eh];exact nJ
 rintro v σ' hv;have zn:∀(A B:List V) (n:Nat),(D.set r A).sub (((D.set o B).a_ Z n).set r A):=λA B n=>by
  refine⟨λb cs hb=>?_,λυ m hm=>?_,λ_ _ h=>h⟩
  .have EW:b≠o:=by rintro rfl;rw[ah.eY _ _ kb,ho] at hb;simp at hb
   by_cases we:b=r
   .subst we;rw[ah.eW] at hb ⊢;exact hb
   .rw[ah.eY _ _ we] at hb ⊢;show(D.set o B).box b=_;rw[ah.eY _ _ EW];exact hb
  .have qW : D.aR υ=aa m:=hm;have Bn : υ≠Z:=by rintro rfl;rw[show(D.set o [V.sl .aZ 2 []]).aR υ=D.aR υ from rfl] at bE;rw[bE] at qW;simp at qW
   show((D.set o B).a_ Z n).aR υ=aa m;rw[qE Bn];exact qW
 split at hv
 .rename_i ck;obtain⟨rfl,rfl⟩:=hv;have hb:(((D.set o [V.sl (.tk Z) 2 (ins.2.map aA.enc)]).a_ Z (ins.2.map aA.enc).length).set r ((rd.take 123).2.under ins.1).enc).box o=aa [V.sl (.tk Z) 2 (ins.2.map aA.enc)]:=by
   rw[ah.eY _ _ kb];exact ah.eW _ _ _
  simp only[am,hb];refine aX rfl (zn _ _ _) ⟨?_,?_⟩
  .simp[ae.words,ae.bracket,ck,eX,V.erase,bD]
  .simp[ae.words,ae.bracket,ck,eX]
 .rename_i ck;obtain⟨rfl,rfl⟩:=hv;have hb:(((D.set o [V.sl (.tk Z) 2 []]).a_ Z 0).set r (rd.take 123).2.enc).box o=aa [V.sl (.tk Z) 2 []]:=by
   rw[ah.eY _ _ kb];exact ah.eW _ _ _
  simp only[am,hb];refine aX rfl (zn _ _ _) ⟨?_,?_⟩
  .simp[ae.words,ae.bracket,ck,V.erase,bD]
  .simp[ae.words,ae.bracket,ck]
def ajz:aS prog 288 (sq [rg 0 [od (aa 3) (.gS 1 (.s 0))],rg 4 [no,oq (.ky (.func 289) [] [(.s 1),(.s 2),(.s 3)]),oC 256 [4,5]]]) [] 7:=aW func288 ⟨[3],[]⟩
def ajA:aS prog 289 (dH 3 ⟨5,(.s 3),(.s 8),(.s 7),(.s 6),(.s 0),aj,9,10,20⟩ [mM [1],oo 0,oo 1,oo 2,oq (.jj (.s 4) [(.s 5)]),oL 3,oq (.ko 5 [(.c (.agg [(.int .i64 0),(.int .i64 0),(.aG []),(.sl .aZ 2 []),(.sl .aZ 5 [])]))]),oq (.mv (.c .any)),oq (.mv (.c .any)),oN,oN]) [] 11:=aW func289
def Nd.wd{n:Nd}:(V.agg n.enc).wd=aa 5:=by rw[Nd.dB];rfl
def Nd.one{n:Nd}:cW n.enc=true:=by rw[Nd.dB];rfl
def Nd.c9{n:Nd}:bT n.enc=true:=by rw[Nd.dB];rfl
def Nd.er{n:Nd}:bD n.enc=n.enc:=by rw[Nd.dB];rfl
def anx{f:Nat}{rows:List (List V)}{n:Nd}(ho:D.box o=aa [.sl (.tk Z) 5 rows])(hf:D.box f=aa [.fn (.func g) [] []])(hp:D.box p=aa [.ptr (.out q) 0])
 (M_:o≠q) (ht:D.aR Z=aa rows.length) (hb:rows.length+1<=aQ) (gp:dY g [.ptr (.out q) 0] D (.agg n.enc) (D.set q lh.enc)) :
 dY 289 [.ptr (.out o) 0,.ptr (.out f) 0,.ptr (.out p) 0] D (.bH []) (((D.set q lh.enc).set o [.sl (.tk Z) 5 (rows++[n.enc])]).a_ Z (rows.length+1)):=by
 refine ajA.aV ?_;simp only[aU,a7,am,ho,hp,hf];refine bK.intro gp ?_;have U:(D.set q lh.enc).box o=aa [.sl (.tk Z) 5 rows]:=by rw[ah.eY _ _ M_];exact ho
 simp only[am,U];refine UU (Z:=Z) (m:=rows) (cs:=n.enc) (p:=.ptr (.out o) 0) rfl rfl rfl hb ht ⟨Nd.wd,Nd.one,Nd.c9⟩ Nd.er (by simp) rfl (by simp only[am,U];rfl) ?_;simp only[am];exact aX rfl (ah.bm _) ⟨rfl,rfl⟩
def Jp{one:ae->G × ae}(ho:Reads one){a:ae × List G}(h:qK l a)(hb:a.1.aM=aj):qK l (cH one a)/\a.1.at_<=(cH one a).1.at_:=by
 obtain⟨U,h2,h3,h4⟩:=h;have h4:=h4 hb;obtain⟨k1,k2,k3⟩:=ho.go a.1 h2 (by rw[U];exact h3);refine⟨⟨by simp only[cH,ho.l];exact U,by simp only[cH];omega,by simp only[cH];rw[U] at k2;exact k2,λhq=>?_⟩,k1⟩
 have:=k3 hq
 simp only[cH,bM,dm,dQ];omega
def Fz(one:ae->Nd × ae)(D:ah)(q o Z:Nat):Sys (ae × List Nd):=⟨λa=>f_ D q o Z 5 a.1 (a.2.map Nd.enc),λa=>a.1,λa r=>(r,a.2),cH one⟩
def anz{f:Nat}{one:ae->Nd × ae}(hr:Reads one)(eh:q≠o)(hfq:f≠q)(wm:f≠o)(hf:D.box f=aa [.fn (.func g) [] []])(dr:rd.at_=0)(gm:rd.aM=aj)(hlen:rd.l.length+1<=aQ)
 (gp:∀(r:ae) (D:ah),r.l=rd.l->0<=r.at_->r.at_<=rd.l.length->D.box q=aa r.enc->dY g [.ptr (.out q) 0] D (.agg (one r).1.enc) (D.set q (one r).2.enc)) :
 dY 288 [.ptr (.out q) 0,.ptr (.out o) 0,.ptr (.out f) 0] (f_ D q o Z 5 rd []) (.bH []) (f_ D q o Z 5 (eJ (cH one) rd).1 ((eJ (cH one) rd).2.map Nd.enc)):=by
 refine ajz.aV ?_;simp only[aU,a7,am];refine kY λp hp=>?_
 have mP:p≠q:=by rintro rfl;rw[CV eh] at hp;simp at hp
 have mO:p≠o:=by rintro rfl;rw[HT] at hp;simp at hp
 have UY:f≠p:=by rintro rfl;rw[wa mP mO,hf] at hp;simp at hp
 rw[HU mP mO];simp only[am,wa mP mO];have tP:∀a:ae × List Nd,qK rd.l a->a.1.aM=aj->ch prog 289 [.ptr (.out o) 0,.ptr (.out f) 0,.ptr (.out p) 0] (f_ (D.set p [.ptr (.out q) 0]) q o Z 5 a.1 (a.2.map Nd.enc)) λv σ' =>
  v = .bH []/\σ' = f_ (D.set p [.ptr (.out q) 0]) q o Z 5 (cH one a).1 ((cH one a).2.map Nd.enc):=λa ma hb=>by
  have hl:=ma.2.2.2 hb;have iu:=ma.2.2.1;refine(anx HT (by rw[wa hfq wm,ah.eY _ _ UY];exact hf) (by rw[wa mP mO,ah.eW]) (fJ eh) TT (by rw[aN];omega) (gp a.1 _ ma.1 ma.2.1 iu (CV eh))).mono ?_;rintro v σ' ⟨rfl,rfl⟩;refine⟨rfl,?_⟩;rw[TS eh];simp[cH]
 have h0:qK rd.l (rd,([]:List Nd)):=⟨rfl,by simp[dr],by simp[dr],λ_=>by simp[dr]⟩;obtain⟨p1,_⟩:=Jp hr h0 gm;refine(PK (Fz one (D.set p [.ptr (.out q) 0]) q o Z) (qK rd.l) (a:=(rd,[])) (n:=rd.l.length) (by simp[am]) (λa h=>CV eh) (λa h=>?_) (λa h hs=>L2 eh) (λa h hs=>?_) (tP _ h0 gm) p1 ?_).mono ?_
 .show a.1.l.length<=aQ;rw[h.1];omega
 .obtain⟨k1,k2,k3⟩:=OK h hs;obtain⟨k4,k5⟩:=Jp hr k1 k2;refine⟨tP _ k1 k2,k4,?_,?_⟩
  .exact k4.1.trans h.1.symm
  .show a.1.at_+1<=_;simp only at k5;rw[k3] at k5;exact k5
 .show(cH one (rd,[])).1.l.length<=rd.l.length;rw[p1.1];omega
 rintro v σ' ⟨rfl,rfl⟩;simp only[am];refine aX rfl (σ' := f_ D q o Z 5 (eJ (cH one) rd).1 ((eJ (cH one) rd).2.map Nd.enc)) ?_ ⟨rfl,rfl⟩;have e:(Fz one (D.set p [.ptr (.out q) 0]) q o Z).F ((Fz one (D.set p [.ptr (.out q) 0]) q o Z).go rd.l.length ((Fz one (D.set p [.ptr (.out q) 0]) q o Z).step (rd,[])))=f_ (D.set p [.ptr (.out q) 0]) q o Z 5 (eJ (cH one) rd).1 ((eJ (cH one) rd).2.map Nd.enc):=by
  unfold Fz;rw[HW];rfl
 rw[e,<-HU mP mO];exact jg (by rw[wa mP mO];rw[wa mP mO] at hp;exact hp)
def ai_:aS prog 261 (sq [rg 8 [od (aa 7) (.gS 1 (.s 3)),oz 10,oi 0],rg 0 [od (aa 10) (.qL [(.sl .aZ 5 [])])],.qG (rg 12 [om 0,om 1,om 2,oq (.ky (.func 288) [] [(.s 10),(.s 7)]),oC 254 [12,13,14,15],o1 11]),rg 17 [oo 10,om 11,ot 8 17,o1 9],.ret]) [.tmp 8,.tmp 9] 19:=aW func261 ⟨[7,10],[2]⟩
def ah.avC{a b c:ah}(h:a.sub b)(k:b.sub c):a.sub c:=⟨λx cs hx=>k.1 x cs (h.1 x cs hx),λx n hx=>k.2.1 x n (h.2.1 x n hx),λx n hx=>k.2.2 x n (h.2.2 x n hx)⟩
def avz{a b:ah}{A:List V}(h:a.sub b):(a.set r A).sub (b.set r A):=by
 refine⟨λx cs hx=>?_,h.2⟩
 by_cases hr:x=r
 .subst hr;rw[ah.eW] at hx ⊢;exact hx
 .rw[ah.eY _ _ hr] at hx ⊢;exact h.1 x cs hx
def Oy{one:ae->G × ae}(h:Reads one)(l:List aC)(a:ae × List G)(ha:a.1.l=l):(cH one a).1.l=l:=by simp[cH,h.l,ha]
def IS{kind:Int}{one:ae->Nd × ae}(gp:Reads one)(h:D.box r=aa rd.enc)(hlen:rd.l.length<=aQ)(nD:(rd.take kind).1.ak.length+1<=aQ)
 (alK:∀(q:Nat) (i:ae) (D:ah),i.l=(rd.take kind).1.ak->0<=i.at_->i.at_<=i.l.length->D.box q=aa i.enc->dY g [.ptr (.out q) 0] D (.agg (one i).1.enc) (D.set q (one i).2.enc)) :
 dY 261 [.ptr (.out r) 0,.int .u8 kind,.bool empty,.fn (.func g) [] []] D (.bH [.sl .no 5 ((rd.nodes one kind empty).1.1.map Nd.enc),.int .i64 (rd.nodes one kind empty).1.2]) (D.set r (rd.nodes one kind empty).2.enc):=by
 refine ai_.aV ?_;simp only[aU,a7,am];refine kY λf hf=>?_
 have bq:f≠r:=by rintro rfl;rw[h] at hf;simp at hf
 simp only[am];refine kY λo ho=>?_
 have wm:f≠o:=by rintro rfl;rw[ah.eW] at ho;simp at ho
 have kb:o≠r:=by rintro rfl;rw[ah.eY _ _ (fJ bq),h] at ho;simp at ho
 generalize wE:D.set f [.fn (.func g) [] []]=jZ at ho ⊢;have UI:jZ.box f=aa [.fn (.func g) [] []]:=by rw[<-wE];exact ah.eW _ _ _
 have al2:D.sub jZ:=by rw[<-wE];exact jg hf
 have h:jZ.box r=aa rd.enc:=by rw[<-wE,ah.eY _ _ (fJ bq)];exact h
 simp only[am];refine bI.tok 0 λZ bE=>⟨_,_,_,fc.rfl,rfl,λi c hc=>⟨c,hc,fc.rfl⟩,rH.set (cs:=[.sl .aZ 5 []]) (cs' := [.sl (.tk Z) 5 []]) (ah.eW _ _ _) ⟨j8.tok rfl,trivial⟩,?_⟩
 simp only[am];have U:((jZ.set o [.sl (.tk Z) 5 []]).a_ Z 0).box r=aa rd.enc:=by
  show(jZ.set o _).box r=_;rw[ah.eY _ _ (fJ kb)];exact h
 have a9:∀q,((jZ.set o [V.sl (.tk Z) 5 []]).a_ Z 0).box q=aj->q≠o/\q≠r/\jZ.box q=none:=λq hq=>by
  have eh:q≠o:=by rintro rfl;rw[show((jZ.set q [V.sl (.tk Z) 5 []]).a_ Z 0).box q=_ from ah.eW _ _ _] at hq;simp at hq
  have nJ : jZ.box q=none:=by rw[<-ah.eY jZ [V.sl (.tk Z) 5 []] eh];exact hq
  exact⟨eh,by rintro rfl;rw[h] at nJ;simp at nJ,nJ⟩
 generalize eX:ae.inside (cH one) empty (rd.take kind).1=ins;have E9:ins.1.l=(rd.take kind).1.ak:=by rw[<-eX];exact Vs (Oy gp) _ _
 refine(Qj (kind:=kind) (by simp[am]) U hlen (by omega) ins.1 ((jZ.set o [.sl (.tk Z) 5 (ins.2.map Nd.enc)]).a_ Z (ins.2.map Nd.enc).length) ?_ ?_ ?_ E9).mono ?_
 .intro ck hc q hq;obtain⟨eh,lC,_⟩:=a9 q hq;have e1:(((jZ.set o [V.sl (.tk Z) 5 []]).a_ Z 0).set r (rd.take kind).2.enc).set q (rd.take kind).1.inner.enc=f_ (jZ.set r (rd.take kind).2.enc) q o Z 5 (rd.take kind).1.inner []:=by
   unfold f_;rw[ah.set_comm (b:=q) eh,ah.set_comm (b:=r) (fJ kb)];rfl
  have e2:(((jZ.set o [V.sl (.tk Z) 5 (ins.2.map Nd.enc)]).a_ Z (ins.2.map Nd.enc).length).set r (rd.take kind).2.enc).set q ins.1.enc=f_ (jZ.set r (rd.take kind).2.enc) q o Z 5 ins.1 (ins.2.map Nd.enc):=by
   unfold f_;rw[ah.set_comm (b:=q) eh,ah.set_comm (b:=r) (fJ kb)];rfl
  have e3:ins=eJ (cH one) (rd.take kind).1.inner:=by
   rw[<-eX,ae.inside,aB];rintro⟨q1,q2⟩
   rcases hc with hc | hc
   .rw[q1] at hc;simp at hc
   .exact hc q2
  rw[e1,e2,e3];refine anz gp eh ?_ wm (by rw[ah.eY _ _ bq];exact UI) rfl rfl nD (λi σ' U h2 h3 h4=>alK q i σ' U h2 (by rw[U];exact h3) h4);rintro rfl;rw[show((jZ.set o [V.sl (.tk Z) 5 []]).a_ Z 0).box f=(jZ.set o [V.sl (.tk Z) 5 []]).box f from rfl,ah.eY _ _ wm,UI] at hq;simp at hq
 .intro q1 q2
  have:ins=((rd.take kind).1.inner,[]):=by rw[<-eX,ae.inside,aF ⟨q1,q2⟩]
  rw[this];exact⟨rfl,rfl⟩
 .intro q hq;obtain⟨eh,_,nJ⟩:=a9 q hq;show(jZ.set o _).box q=aj;rw[ah.eY _ _ eh];exact nJ
 rintro v σ' hv;have zn:∀(A B:List V) (n:Nat),(D.set r A).sub (((jZ.set o B).a_ Z n).set r A):=λA B n=>by
  refine ah.avC (avz al2) ?_;refine⟨λb cs hb=>?_,λυ m hm=>?_,λ_ _ h=>h⟩
  .have EW:b≠o:=by rintro rfl;rw[ah.eY _ _ kb,ho] at hb;simp at hb
   by_cases we:b=r
   .subst we;rw[ah.eW] at hb ⊢;exact hb
   .rw[ah.eY _ _ we] at hb ⊢;show(jZ.set o B).box b=_;rw[ah.eY _ _ EW];exact hb
  .have qW : jZ.aR υ=aa m:=hm;have Bn : υ≠Z:=by rintro rfl;rw[show(jZ.set o [V.sl .aZ 5 []]).aR υ=jZ.aR υ from rfl] at bE;rw[bE] at qW;simp at qW
   show((jZ.set o B).a_ Z n).aR υ=aa m;rw[qE Bn];exact qW
 split at hv
 .rename_i ck;obtain⟨rfl,rfl⟩:=hv;have hb:(((jZ.set o [V.sl (.tk Z) 5 (ins.2.map Nd.enc)]).a_ Z (ins.2.map Nd.enc).length).set r ((rd.take kind).2.under ins.1).enc).box o=aa [V.sl (.tk Z) 5 (ins.2.map Nd.enc)]:=by
   rw[ah.eY _ _ kb];exact ah.eW _ _ _
  simp only[am,hb];refine aX rfl (zn _ _ _) ⟨?_,?_⟩
  .simp[ae.nodes,ae.bracket,ck,eX,V.erase,bD]
  .simp[ae.nodes,ae.bracket,ck,eX]
 .rename_i ck;obtain⟨rfl,rfl⟩:=hv;have hb:(((jZ.set o [V.sl (.tk Z) 5 []]).a_ Z 0).set r (rd.take kind).2.enc).box o=aa [V.sl (.tk Z) 5 []]:=by
   rw[ah.eY _ _ kb];exact ah.eW _ _ _
  simp only[am,hb];refine aX rfl (zn _ _ _) ⟨?_,?_⟩
  .simp[ae.nodes,ae.bracket,ck,V.erase,bD]
  .simp[ae.nodes,ae.bracket,ck]
def ajQ:aS prog 304 (sq [rg 0 [oZ 2 [0,0,1,7,10]],rg 6 [om 0,oC 258 [6],oZ 3 [1,0],o2 2 3],rg 8 [om 0,oc 260 [.s 8,.c (.int .u8 58)]],rg 11 [om 0,oc 213 [.s 11,.c (.bool ab)],o1 10,oe 10 0,oe 10 1,ot 4 13,o1 5],rg 15 [fo 1 3,fo 0 3,om 4,oG [0,0,1,7,10] [(0,1,.c (.int .i64 6)),(1,1,.s 16),(2,1,.s 18),(3,1,.s 19)],o2 5 2],.ret]) [.cell 2 ab 5] 21:=aW func304
def at1(h:D.box r=aa rd.enc)(hlen:rd.l.length<=aQ)(hk:∀(x:ae) (k:Int),x.l=rd.l->(x.take k).1.ak.length+1<=aQ):
 dY 304 [.ptr (.out r) 0] D (.agg rd.pJ.1.enc) (D.set r rd.pJ.2.enc):=by
 refine ajQ.aV ?_;simp only[aU,a7,am];refine(Ax h hlen).mono ?_;rintro v σ' ⟨rfl,rfl⟩;simp only[am,aA.enc];refine(yv (ah.eW _ _ _) (by simp[ae.word,ae.fU,hlen])).mono ?_;rintro v σ' ⟨rfl,rfl⟩;simp only[am];refine(Qp (ah.eW _ _ _) (by simp[ae.word,ae.fU,hlen]) (hk _ _ (by simp[ae.word,ae.fU]))).mono ?_;rintro v σ' ⟨rfl,rfl⟩;simp only[am,Nat.reduceAdd];refine aX rfl (ah.bm _) ⟨?_,rfl⟩;simp[ae.pJ,V.erase,bD,Nd.enc,sW]
def TB:aS prog 290 (sq [rg 0 [oZ 2 [0,0,1,7,10]],rg 5 [oW [0,0,1,7,10] [],oZ 3 [0,0,1,7,10],o2 5 3],.block 0 (sq [rg 14 [om 0,oc 259 [.s 14,.c (.int .u8 123)],o1 13],cd 13 (sq [rg 16 [of 0 3,od aj (.store 1 (.s 16) (.c (.int .i64 3)))],rg 18 [om 0,oc 213 [.s 18,.c (.bool ab)],o1 17,oe 17 0,oe 17 1,of 3 3,os 1 22 20,of 1 3,os 1 23 21]]) (sq [rg 25 [om 0,oc 259 [.s 25,.c (.int .u8 40)],o1 24],cd 24 (sq [rg 27 [of 0 3,od aj (.store 1 (.s 27) (.c (.int .i64 4)))],rg 29 [om 0,oc 261 [.s 29,.c (.int .u8 40),.c (.bool ar),.c (.fn (.func 290) [] [])],o1 28,oe 28 0,oe 28 1,of 4 3,os 1 33 31,of 1 3,os 1 34 32]]) (sq [rg 36 [om 0,oc 259 [.s 36,.c (.int .u8 91)],o1 35],cd 35 (sq [rg 38 [of 0 3,od aj (.store 1 (.s 38) (.c (.int .i64 5)))],rg 40 [om 0,oc 261 [.s 40,.c (.int .u8 91),.c (.bool ab),.c (.fn (.func 304) [] [])],o1 39,oe 39 0,oe 39 1,of 4 3,os 1 44 42,of 1 3,os 1 45 43]]) (sq [rg 6 [om 0,oC 258 [6],oZ 4 [1,0],o2 2 4],rg 8 [fo 1 4,fo 0 4,oG [0,0,1,7,10] [(0,1,.c (.int .i64 2)),(1,1,.s 9),(2,1,.s 11)],o2 5 3]])])])]),rg 46 [ol 5 3,o2 5 2],.ret]) [.cell 2 ab 5] 47:=aW func290
def Gc{r:ae}{k:Int}(h:bp r.l=0):r.b_ k=false:=by
 have:r.l=[]:=uk (by have:=mW r.l;omega)
 simp[ae.b_,bL,this]
def BG{x:ae}{k:Int}(hm:bp l+1<=aQ)(h:x.l=l):(x.take k).1.ak.length+1<=aQ:=by
 have U:=(x.wX k).1;have h2:=mW (x.take k).1.ak;rw[h] at U;omega
def ad1:∀(n:Nat) {r:Nat} {rd:ae} {D:ah} (_:D.box r=aa rd.enc) (_:bp rd.l<=n) (_:bp rd.l+1<=aQ),
 dY 290 [.ptr (.out r) 0] D (.agg (ae.constant n rd).1.enc) (D.set r (ae.constant n rd).2.enc):=by
 intro n;induction n with
 | zero =>
  intro r rd D h hn hm;have hlen:=mW rd.l;refine TB.aV ?_;simp only[aU,a7,am];refine(r7 h).mono ?_;rintro v σ' ⟨rfl,rfl⟩;simp only[am,Gc (GU.1 hn)];refine(r7 h).mono ?_;rintro v σ' ⟨rfl,rfl⟩;simp only[am,Gc (GU.1 hn)];refine(r7 h).mono ?_;rintro v σ' ⟨rfl,rfl⟩;simp only[am,Gc (GU.1 hn)];refine(Ax h (by omega)).mono ?_;rintro v σ' ⟨rfl,rfl⟩;simp only[am,aA.enc,Nat.reduceAdd];refine aX rfl (ah.bm _) ⟨?_,rfl⟩;simp[ae.constant,ae.leaf,V.erase,bD,Nd.enc,sW]
 | succ n ih =>
  intro r rd D h hn hm;have hlen:=mW rd.l;refine TB.aV ?_;simp only[aU,a7,am];refine(r7 h).mono ?_;rintro v σ' ⟨rfl,rfl⟩;cases U:rd.b_ 123
  case' true =>
   simp only[am,Nat.reduceAdd];refine(Qp h (by omega) (BG hm rfl)).mono ?_;rintro v σ' ⟨rfl,rfl⟩;simp only[am,Nat.reduceAdd];refine aX rfl (ah.bm _) ⟨?_,by simp[ae.constant,U]⟩;simp[ae.constant,U,V.erase,bD,Nd.enc,sW]
  case' false =>
   simp only[am];refine(r7 h).mono ?_;rintro v σ' ⟨rfl,rfl⟩;cases h2:rd.b_ 40
  case' false.true =>
   have hk:bp (rd.take 40).1.ak+1<=bp rd.l:=(rd.wX 40).2 (by
    rcases rd.vp 40 with ⟨_,_,e,_,_⟩ | ⟨e,_,_⟩
    .exact e
    .rw[h2] at e;simp at e)
   simp only[am,Nat.reduceAdd];refine(IS (DD (T7 n)) h (by omega) (BG hm rfl) (λq i σ' e1 _ _ e4=>ih e4 (by rw[e1];omega) (by rw[e1];omega))).mono ?_;rintro v σ' ⟨rfl,rfl⟩;simp only[am,Nat.reduceAdd];refine aX rfl (ah.bm _) ⟨?_,by simp[ae.constant,U,h2]⟩;simp[ae.constant,U,h2,V.erase,bD,Nd.enc,BT]
  case' false.false =>
   simp only[am];refine(r7 h).mono ?_;rintro v σ' ⟨rfl,rfl⟩;cases h3:rd.b_ 91
  case' false.false.true =>
   simp only[am,Nat.reduceAdd];refine(IS (DD alk) h (by omega) (BG hm rfl) (λq i σ' e1 _ _ e4=>at1 e4 (by have g1:=mW i.l;have g2:=(rd.wX 91).1;rw[<-e1] at g2;omega) (λx k ex=>BG (by have g2:=(rd.wX 91).1;rw[<-e1] at g2;omega) ex))).mono ?_;rintro v σ' ⟨rfl,rfl⟩;simp only[am,Nat.reduceAdd];refine aX rfl (ah.bm _) ⟨?_,by simp[ae.constant,U,h2,h3]⟩;simp[ae.constant,U,h2,h3,V.erase,bD,Nd.enc,BT]
  case' false.false.false =>
   simp only[am];refine(Ax h (by omega)).mono ?_;rintro v σ' ⟨rfl,rfl⟩;simp only[am,aA.enc,Nat.reduceAdd];refine aX rfl (ah.bm _) ⟨?_,by simp[ae.constant,ae.leaf,U,h2,h3]⟩;simp[ae.constant,ae.leaf,U,h2,h3,V.erase,bD,Nd.enc,sW]
def ai':aS prog 262 (sq [rg 0 [oZ 2 [0,0,1,7,10]],sq [rg 5 [om 0,oc 259 [.s 5,.c (.int .u8 35)]],ci 6 (sq [rg 7 [om 0,oc 260 [.s 7,.c (.int .u8 35)],oZ 3 [3,1,0,10,0],o2 5 3],dg 9 [of 0 3,nf 2,mM [1],no,om 0,oC 290 [12],n1 5,oG [0,0,1,7,10] [(0,1,.c (.int .i64 7)),(1,1,.s 11),(4,1,.s 14)],o2 5 2],.ret])],rg 16 [om 0,oC 258 [16],oZ 4 [1,0],o2 2 4],rg 18 [fo 1 4,fo 0 4,oG [0,0,1,7,10] [(0,1,.c (.int .i64 1)),(1,1,.s 19),(2,1,.s 21)],o2 5 2],.ret]) [.cell 2 ab 5] 23:=aW func262
def ajc:aS prog 265 (sq [rg 0 [oZ 2 [0,0,1,7,10]],rg 4 [om 0,oC 258 [4],oZ 3 [1,0],o2 2 3],rg 6 [om 0,oc 260 [.s 6,.c (.int .u8 61)]],dg 8 [of 1 3,mM [1],no,of 0 3,mM [1],no,om 0,oC 262 [12],n1 5,oG [0,0,1,7,10] [(0,1,.c (.int .i64 11)),(1,1,.s 9),(2,1,.s 11),(4,1,.s 14)],o2 5 2],.ret]) [.cell 2 ab 5] 16:=aW func265
def Nd.len{n:Nd}:n.enc.length=5:=by rw[Nd.dB];rfl
def RE{n:Nat}(h:D.box r=aa rd.enc)(hn:bp rd.l<=n)(hm:bp rd.l+1<=aQ):
 dY 262 [.ptr (.out r) 0] D (.agg (rd.atom n).1.enc) (D.set r (rd.atom n).2.enc):=by
 have hlen:=mW rd.l;refine ai'.aV ?_;simp only[aU,a7,am];refine(r7 h).mono ?_;rintro v σ' ⟨rfl,rfl⟩;cases U:rd.b_ 35
 case' true =>
  simp only[am];refine(yv h (by omega)).mono ?_;rintro v σ' ⟨rfl,rfl⟩;simp only[am,dB,Nat.reduceAdd];refine bK.intro (ad1 n (ah.eW _ _ _) (by rw[ae.fU];exact hn) (by rw[ae.fU];exact hm)) ?_;simp only[am,Nd.len,Nd.one,Nd.c9,Nd.er,Nat.reduceAdd];refine aX rfl (ah.bm _) ⟨?_,by simp[ae.atom,U]⟩;simp[ae.atom,U,V.erase,bD,Nd.enc,sW]
 case' false =>
  simp only[am];refine(Ax h (by omega)).mono ?_;rintro v σ' ⟨rfl,rfl⟩;simp only[am,aA.enc,Nat.reduceAdd];refine aX rfl (ah.bm _) ⟨?_,by simp[ae.atom,ae.leaf,U]⟩;simp[ae.atom,ae.leaf,U,V.erase,bD,Nd.enc,sW]
def agC{n:Nat}(h:D.box r=aa rd.enc)(hn:bp rd.l<=n)(hm:bp rd.l+1<=aQ):
 dY 265 [.ptr (.out r) 0] D (.agg (rd.field n).1.enc) (D.set r (rd.field n).2.enc):=by
 have hlen:=mW rd.l;refine ajc.aV ?_;simp only[aU,a7,am];refine(Ax h (by omega)).mono ?_;rintro v σ' ⟨rfl,rfl⟩;simp only[am,aA.enc,Nat.reduceAdd];have e1:rd.word.2.l=rd.l:=by simp[ae.word,ae.fU]
 refine(yv (ah.eW _ _ _) (by rw[e1];omega)).mono ?_;rintro v σ' ⟨rfl,rfl⟩;simp only[am];refine bK.intro (RE (n:=n) (ah.eW _ _ _) (by rw[ae.fU,e1];exact hn) (by rw[ae.fU,e1];exact hm)) ?_;simp only[am,Nd.len,Nd.one,Nd.c9,Nd.er,Nat.reduceAdd];refine aX rfl (ah.bm _) ⟨?_,by simp[ae.field]⟩;simp[ae.field,V.erase,bD,Nd.enc,sW]
def aip:aS prog 216 (sq [rg 0 [oZ 2 [0,0,1,7,10]],sq [rg 9 [oq (.ko 1 [(.c (.int .u8 43)),(.c (.int .u8 38))]),nL,oi 0],lp 10 0 (sq [rg 13 [oA 1 9 11,no,o1 4],sq [rg 15 [om 0,om 4,oC 259 [15,16],nn],ci 18 (.exit 1)],rg 19 [om 0,om 4,oC 260 [19,20],oZ 5 [3,1,0,10,0],o2 5 5],rg 6 [oi 8],sq [rg 22 [om 4,nu .eql 38],ci 23 (rg 6 [oi 9])],rg 25 [om 0,oc 261 [.s 25,.c (.int .u8 40),.c (.bool ar),.c (.fn (.func 216) [] [])],o1 24,oe 24 0,oe 24 1,ot 7 27,o1 8],rg 29 [om 6,of 0 5,nF 2,om 7,oW [0,0,1,7,10] [(0,1,29),(1,1,32),(4,1,33)],o2 5 2],.ret]) 35],rg 36 [om 0,oC 262 [36],o2 5 2],.ret]) [.cell 2 ab 5] 38:=aW func216
def IJ(r:Nat)(rd:ae)(D:ah)(i:{i:Nat // i<=2/\(1<=i->rd.b_ 43=ar)/\(2<=i->rd.b_ 38=ar)}):St :=
 ⟨[.ptr (.out r) 0,.any,.ptr (.aE 0) 0,.any,.any,.any,.any,.any,.any,.sl .aZ 1 [[.int .u8 43],[.int .u8 38]],.int .i64 2,.int .i64 (i.1:Nat)]++aq 26 .any,
  [[.int .i64 0,.int .i64 0,.aG [],.sl .aZ 2 [],.sl .aZ 5 []]],D⟩
def Nd.F5{n:Nd}{a b c d e:V}:over [a,b,c,d,e] n.enc=n.enc:=by rw[Nd.dB];rfl
def Nd.tk{n:Nd}:takeN 5 n.enc=aa n.enc:=by rw[Nd.dB];rfl
def avI(r:ae)(k:Int):bp (r.take k).1.ak+1<=bp r.l\/bp (r.take k).1.ak=0:=by
 rcases r.vp k with ⟨_,_,e,_,_⟩ | ⟨e,_,_⟩
 .exact .inl ((r.wX k).2 e)
 .right;simp[ae.take,e,aC.zero,aC.ak,bp]
def anG{n:Nat}(U:rd.b_ 43=ar)(h2:rd.b_ 38=ar)(hn:bp rd.l<=n):ae.label n rd=rd.atom n:=by
 cases n with
 | zero=>simp[ae.label,ae.atom,Gc (GU.1 hn)]
 | succ n=>simp[ae.label,U,h2]
def VG{n:Nat}(ih:∀m,n=m+1->∀{r:Nat} {rd:ae} {D:ah} (_:D.box r=aa rd.enc) (_:bp rd.l<=m) (_:bp rd.l+1<=aQ),
 dY 216 [.ptr (.out r) 0] D (.agg (ae.label m rd).1.enc) (D.set r (ae.label m rd).2.enc)) {r:Nat} {rd:ae} {D:ah} (h:D.box r=aa rd.enc) (hn:bp rd.l<=n) (hm:bp rd.l+1<=aQ) :
 dY 216 [.ptr (.out r) 0] D (.agg (ae.label n rd).1.enc) (D.set r (ae.label n rd).2.enc):=by
 have hlen:=mW rd.l;have iw:∀k,rd.b_ k=ab->∃m,n=m+1:=λk hk=>by
  cases n with
  | zero=>rw[Gc (GU.1 hn)] at hk;simp at hk
  | succ m=>exact⟨m,rfl⟩
 have ak:∀(m:Nat) (k:Int),n=m+1->∀(q:Nat) (i:ae) (D:ah),i.l=((rd.take k).2.take 40).1.ak->0<=i.at_->i.at_<=i.l.length->D.box q=aa i.enc->dY 216 [.ptr (.out q) 0] D (.agg (ae.label m i).1.enc) (D.set q (ae.label m i).2.enc):=λm k e q i D e1 _ _ e4=>by
  have g1:=((rd.take k).2.wX 40).1;have g2:=avI (rd.take k).2 40;rw[ae.fU,<-e1] at g1 g2;exact ih m e e4 (by omega) (by omega)
 refine aip.aV ?_;simp only[aU,a7,am];refine jX (λi=>IJ r rd D i) (λi=>2 - i.1) ?_ ?_
 .refine bI.enter ⟨0,by omega,by omega,by omega⟩ ?_ ?_ bW.rfl
  .simp[IJ,aq,am]
  .simp[IJ,am]
 .rintro⟨i,hi,qi,MR⟩;simp only[IJ,aq,am];have alM:i=0\/i=1\/i=2:=by omega
  rcases alM with rfl | rfl | rfl
  .simp only[am,show(((0:Nat):Int)<2)=True by simp,b9];refine tU (c:=[.int .u8 43]) rfl ?_;simp only[am];refine(r7 h).mono ?_;rintro v σ' ⟨rfl,rfl⟩;cases U:rd.b_ 43
   .simp only[am];rw[wrap_i64];exact bI.again ⟨1,by omega,λ_=>rfl,by omega⟩ (by simp) (by simp[am]) cT.rfl bW.rfl
   .have S8:decide ((43:Int)=38)=false:=by simp
    obtain⟨m,rfl⟩:=iw _ U;simp only[am];refine(yv h (by omega)).mono ?_;rintro v σ' ⟨rfl,rfl⟩;simp only[am,dB,Nat.reduceAdd,S8];refine(IS (DD (L6 m)) (ah.eW _ _ _) (by rw[ae.fU];omega) (BG hm (ae.fU _ _)) (ak m 43 rfl)).mono ?_;rintro v σ' ⟨rfl,rfl⟩;simp only[am,Nat.reduceAdd];refine aX rfl (ah.bm _) ⟨?_,by simp[ae.label,U]⟩;simp[ae.label,U,V.erase,bD,Nd.enc,BT]
  .have qm:=qi (by omega);simp only[am,show(((1:Nat):Int)<2)=True by simp,b9];refine tU (c:=[.int .u8 38]) rfl ?_;simp only[am];refine(r7 h).mono ?_;rintro v σ' ⟨rfl,rfl⟩;cases U:rd.b_ 38
   .simp only[am];rw[wrap_i64];exact bI.again ⟨2,by omega,λ_=>qm,λ_=>rfl⟩ (by simp) (by simp[am]) cT.rfl bW.rfl
   .have S8:decide ((38:Int)=38)=true:=by simp
    obtain⟨m,rfl⟩:=iw _ U;simp only[am];refine(yv h (by omega)).mono ?_;rintro v σ' ⟨rfl,rfl⟩;simp only[am,dB,Nat.reduceAdd,b9];refine(IS (DD (L6 m)) (ah.eW _ _ _) (by rw[ae.fU];omega) (BG hm (ae.fU _ _)) (ak m 38 rfl)).mono ?_;rintro v σ' ⟨rfl,rfl⟩;simp only[am,Nat.reduceAdd];refine aX rfl (ah.bm _) ⟨?_,by simp[ae.label,qm,U]⟩;simp[ae.label,qm,U,V.erase,bD,Nd.enc,BT]
  .have qm:=qi (by omega);have Fp:=MR (by omega);simp only[am,show(((2:Nat):Int)<2)=False by simp,fL];refine(RE h hn hm).mono ?_;rintro v σ' ⟨rfl,rfl⟩;simp only[am,Nd.len,Nd.one,Nd.F5,Nd.tk];rw[anG qm Fp hn];refine aX (by simp only[am,Nd.c9]) (ah.bm _) ⟨?_,rfl⟩;simp only[am,Nd.er]
def anF:∀(n:Nat) {r:Nat} {rd:ae} {D:ah} (_:D.box r=aa rd.enc) (_:bp rd.l<=n) (_:bp rd.l+1<=aQ),
 dY 216 [.ptr (.out r) 0] D (.agg (ae.label n rd).1.enc) (D.set r (ae.label n rd).2.enc):=by
 intro n;induction n with
 | zero=>exact λh hn hm=>VG (λm e=>by omega) h hn hm
 | succ n ih=>exact λh hn hm=>VG (λm e=>Nat.succ.inj e▸ih) h hn hm
def ajb:aS prog 264 (dH 2 ⟨5,(.s 3),(.s 7),(.s 6),(.s 5),(.s 0),(aa 4),8,9,10⟩ [of 4 0,mM [1],no,oo 1,oC 265 [4],oL 3,oq (.ko 5 [(.c (.agg [(.int .i64 0),(.int .i64 0),(.aG []),(.sl .aZ 2 []),(.sl .aZ 5 [])]))]),oq (.mv (.c .any)),oq (.mv (.c .any)),oN,oq (.mv (.c .any)),oN]) [] 11:=aW func264
def iQ(Z:Nat)(an rows:List (List V)):List V:=[.int .i64 10,.int .i64 0,.aG [],.sl .aZ 2 an,.sl (.tk Z) 5 rows]
def atC{n:Nat}{an rows:List (List V)}(ho:D.box o=aa (iQ Z an rows))(hp:D.box p=aa [.ptr (.out q) 0])(hq:D.box q=aa rd.enc)
 (M_:o≠q) (ht:D.aR Z=aa rows.length) (hb:rows.length+1<=aQ) (hn:bp rd.l<=n) (hm:bp rd.l+1<=aQ) :
 dY 264 [.ptr (.out o) 0,.ptr (.out p) 0] D (.bH []) (((D.set q (rd.field n).2.enc).set o (iQ Z an (rows++[(rd.field n).1.enc]))).a_ Z (rows.length+1)):=by
 unfold iQ at ho ⊢;refine ajb.aV ?_;simp only[aU,a7,am,ho,hp];refine bK.intro (agC (n:=n) hq hn hm) ?_;have U:(D.set q (rd.field n).2.enc).box o=aa [.int .i64 10,.int .i64 0,.aG [],.sl .aZ 2 an,.sl (.tk Z) 5 rows]:=by rw[ah.eY _ _ M_];exact ho
 simp only[am,U];refine UU (Z:=Z) (m:=rows) (cs:=(rd.field n).1.enc) (p:=.ptr (.out o) 4) rfl rfl rfl hb ht ⟨Nd.wd,Nd.one,Nd.c9⟩ Nd.er (by simp) rfl (by simp only[am,U];rfl) ?_;simp only[am];exact aX rfl (ah.bm _) ⟨rfl,rfl⟩
def aja:aS prog 263 (sq [rg 0 [od (aa 2) (.gS 1 (.s 0))],sq [rg 3 [no,oc 259 [.s 3,.c (.int .u8 124)],nn],ci 5 (rg 6 [oo 2,oq (.ky (.func 264) [] [(.s 1),(.s 2)]),oC 256 [6,7]])],rg 9 [oo 2,oc 259 [.s 9,.c (.int .u8 124)]],ci 10 (sq [rg 11 [oo 2,oc 260 [.s 11,.c (.int .u8 124)]],rg 13 [oo 2,oC 258 [13],n1 2,of 3 1,os 1 16 15]])]) [] 17:=aW func263 ⟨[2],[]⟩
def ir(D:ah)(q o Z:Nat)(rd:ae)(an rows:List (List V)):ah:=((D.set q rd.enc).set o (iQ Z an rows)).a_ Z rows.length
def Bd{an rows:List (List V)}(h:q≠o):(ir D q o Z rd an rows).box q=aa rd.enc:=by
 simp[ir,ah.a_,ah.set,h]
def L0{an rows:List (List V)}:(ir D q o Z rd an rows).box o=aa (iQ Z an rows):=by
 simp[ir,ah.a_,ah.set]
def L1{an rows:List (List V)}(h:p≠q)(h' : p≠o):(ir D q o Z rd an rows).box p=D.box p:=by
 simp[ir,ah.a_,ah.set,h,h']
def TQ{an rows:List (List V)}(h:p≠q)(h' : p≠o):(ir D q o Z rd an rows).set p cs=ir (D.set p cs) q o Z rd an rows:=by
 have:((D.set q rd.enc).set o (iQ Z an rows)).set p cs=((D.set p cs).set q rd.enc).set o (iQ Z an rows):=by
  rw[ah.set_comm (fJ h'),ah.set_comm (b:=q) (fJ h)]
 show(((D.set q rd.enc).set o (iQ Z an rows)).set p cs).a_ Z rows.length=_;rw[this];rfl
def ak8{an rows:List (List V)}:(ir D q o Z rd an rows).aR Z=aa rows.length:=by
 simp[ir,ah.a_]
def HS{an rows:List (List V)}(h:q≠o):(ir D q o Z rd an rows).set q lh.enc=ir D q o Z lh an rows:=by
 have:((D.set q rd.enc).set o (iQ Z an rows)).set q lh.enc=(D.set q lh.enc).set o (iQ Z an rows):=by rw[ah.set_comm (fJ h),ah.set_set]
 show(((D.set q rd.enc).set o (iQ Z an rows)).set q lh.enc).a_ Z rows.length=_;rw[this];rfl
def ak6{an Oo rows:List (List V)}:(ir D q o Z rd an rows).set o (iQ Z Oo rows)=ir D q o Z rd Oo rows:=by
 show(((D.set q rd.enc).set o (iQ Z an rows)).set o (iQ Z Oo rows)).a_ Z rows.length=_;rw[ah.set_set];rfl
def ak7{an rows:List (List V)}{c:List V}(h:q≠o):(((ir D q o Z rd an rows).set q lh.enc).set o (iQ Z an (rows++[c]))).a_ Z (rows.length+1)=ir D q o Z lh an (rows++[c]):=by
 rw[HS h];unfold ir;rw[bM,dm,dQ];show((((D.set q lh.enc).set o (iQ Z an rows)).set o (iQ Z an (rows++[c]))).a_ Z rows.length).a_ Z (rows.length+1)=_;rw[ah.set_set,jU]
def F9(one:ae->Nd × ae)(D:ah)(q o Z:Nat):Sys (ae × List Nd):=⟨λa=>ir D q o Z a.1 [] (a.2.map Nd.enc),λa=>a.1,λa r=>(r,a.2),cH one⟩
def Zm{one:ae->Nd × ae}(h:Reads one)(r:ae):(eJ (cH one) r).1.l=r.l:=L5 (Oy h _) _ _ (Oy h _ _ rfl)
def atD{n:Nat}(eh:q≠o)(dr:rd.at_=0)(gm:rd.aM=aj)(hn:bp rd.l<=n)(hm:bp rd.l+1<=aQ):
 dY 263 [.ptr (.out q) 0,.ptr (.out o) 0] (ir D q o Z rd [] []) (.bH []) (ir D q o Z (rd.pe n).1.1 ((rd.pe n).2.map aA.enc) ((rd.pe n).1.2.map Nd.enc)):=by
 have hlen:=mW rd.l;have E5:Reads (ae.field n):=DD (T8 n);refine aja.aV ?_;simp only[aU,a7,am];refine kY λp hp=>?_
 have mP:p≠q:=by rintro rfl;rw[Bd eh] at hp;simp at hp
 have mO:p≠o:=by rintro rfl;rw[L0] at hp;simp at hp
 rw[L1 mP mO] at hp;rw[TQ mP mO];have xX:∀a b c,(ir (D.set p [.ptr (.out q) 0]) q o Z a b c).box p=aa [.ptr (.out q) 0]:=λa b c=>by rw[L1 mP mO,ah.eW]
 have uP:∀a b c,(ir D q o Z a b c).sub (ir (D.set p [.ptr (.out q) 0]) q o Z a b c):=λa b c=>by
  rw[<-TQ mP mO];exact jg (by rw[L1 mP mO];exact hp)
 simp only[am,xX];refine(r7 (Bd eh)).mono ?_;rintro v σ' ⟨rfl,rfl⟩;cases U:rd.b_ 124
 all_goals simp only[am,xX]
 case' false =>
  have tP:∀a:ae × List Nd,qK rd.l a->a.1.aM=aj->ch prog 264 [.ptr (.out o) 0,.ptr (.out p) 0] (ir (D.set p [.ptr (.out q) 0]) q o Z a.1 [] (a.2.map Nd.enc)) λv σ' =>
   v = .bH []/\σ' = ir (D.set p [.ptr (.out q) 0]) q o Z (cH (ae.field n) a).1 [] ((cH (ae.field n) a).2.map Nd.enc):=λa ma hb=>by
   have hl:=ma.2.2.2 hb;have iu:=ma.2.2.1;refine(atC (n:=n) L0 (xX _ _ _) (Bd eh) (fJ eh) ak8 (by rw[aN];omega) (by rw[ma.1];exact hn) (by rw[ma.1];exact hm)).mono ?_;rintro v σ' ⟨rfl,rfl⟩;refine⟨rfl,?_⟩;rw[ak7 eh];simp[cH]
  have h0:qK rd.l (rd,([]:List Nd)):=⟨rfl,by simp[dr],by simp[dr],λ_=>by simp[dr]⟩;obtain⟨p1,_⟩:=Jp E5 h0 gm;refine(PK (F9 (ae.field n) (D.set p [.ptr (.out q) 0]) q o Z) (qK rd.l) (a:=(rd,[])) (n:=rd.l.length) (by simp[am]) (λa h=>Bd eh) (λa h=>?_) (λa h hs=>HS eh) (λa h hs=>?_) (tP _ h0 gm) p1 ?_).mono ?_
  .show a.1.l.length<=aQ;rw[h.1];omega
  .obtain⟨k1,k2,k3⟩:=OK h hs;obtain⟨k4,k5⟩:=Jp E5 k1 k2;refine⟨tP _ k1 k2,k4,?_,?_⟩
   .exact k4.1.trans h.1.symm
   .show a.1.at_+1<=_;simp only at k5;rw[k3] at k5;exact k5
  .show(cH (ae.field n) (rd,[])).1.l.length<=rd.l.length;rw[p1.1];omega
  rintro v σ' ⟨rfl,rfl⟩;have e:(F9 (ae.field n) (D.set p [.ptr (.out q) 0]) q o Z).F ((F9 (ae.field n) (D.set p [.ptr (.out q) 0]) q o Z).go rd.l.length ((F9 (ae.field n) (D.set p [.ptr (.out q) 0]) q o Z).step (rd,[])))=ir (D.set p [.ptr (.out q) 0]) q o Z (eJ (cH (ae.field n)) rd).1 [] ((eJ (cH (ae.field n)) rd).2.map Nd.enc):=by
   unfold F9;rw[HW];rfl
  rw[e];have hl:=Zm E5 rd;have jo:rd.pe n=if (eJ (cH (ae.field n)) rd).1.b_ 124=ab then((((eJ (cH (ae.field n)) rd).1.take 124).2.word.2,(eJ (cH (ae.field n)) rd).2),[((eJ (cH (ae.field n)) rd).1.take 124).2.word.1]) else(eJ (cH (ae.field n)) rd,[]):=by
   simp only[ae.pe,U,dP,cF]
  generalize eJ (cH (ae.field n)) rd=a at hl jo ⊢;simp only[am,xX]
 case' true =>
  have jo:rd.pe n=if rd.b_ 124=ab then(((rd.take 124).2.word.2,[]),[(rd.take 124).2.word.1]) else((rd,[]),[]):=by
   simp only[ae.pe,U,cM]
  have hl:rd.l=rd.l:=rfl;rw[show ir (D.set p [.ptr (.out q) 0]) q o Z rd [] []=ir (D.set p [.ptr (.out q) 0]) q o Z (rd,([]:List Nd)).1 [] ((rd,([]:List Nd)).2.map Nd.enc) from rfl];have jo:rd.pe n=if (rd,([]:List Nd)).1.b_ 124=ab then((((rd,([]:List Nd)).1.take 124).2.word.2,(rd,([]:List Nd)).2),[((rd,([]:List Nd)).1.take 124).2.word.1]) else((rd,([]:List Nd)),[]):=jo
  have hl:(rd,([]:List Nd)).1.l=rd.l:=rfl;generalize (rd,([]:List Nd))=a at hl jo ⊢
 all_goals
  refine(r7 (Bd eh)).mono ?_;rintro v σ' ⟨rfl,rfl⟩;cases h2:a.1.b_ 124
  .simp only[am,jo,h2];exact aX rfl (uP _ _ _) ⟨rfl,rfl⟩
  .simp only[am,xX];refine(yv (Bd eh) (by rw[hl];omega)).mono ?_;rintro v σ' ⟨rfl,rfl⟩;rw[HS eh];simp only[am,xX];refine(Ax (Bd eh) (by rw[ae.fU,hl];omega)).mono ?_;rintro v σ' ⟨rfl,rfl⟩;rw[HS eh];simp only[am,aA.enc,L0,iQ,Nat.reduceAdd];rw[show [V.int .i64 10,.int .i64 0,.aG [],.sl .aZ 2 [[.aG (a.1.take 124).2.word.1.au,.int .i64 (a.1.take 124).2.word.1.pos]],.sl (.tk Z) 5 (a.2.map Nd.enc)]=iQ Z ([(a.1.take 124).2.word.1].map aA.enc) (a.2.map Nd.enc) from rfl,ak6];exact aX rfl (uP _ _ _) ⟨rfl,by rw[jo,aF h2]⟩
def aiq:aS prog 217 (sq [rg 0 [oZ 2 [0,0,1,7,10]],sq [rg 5 [om 0,oc 259 [.s 5,.c (.int .u8 91)],nn],ci 7 (sq [rg 8 [om 0,oC 258 [8],oZ 3 [1,0],o2 2 3],rg 10 [fo 1 3,fo 0 3,oG [0,0,1,7,10] [(0,1,.c (.int .i64 1)),(1,1,.s 11),(2,1,.s 13)],o2 5 2],.ret])],rg 15 [oG [0,0,1,7,10] [(0,1,.c (.int .i64 10))],od (aa 4) (.qL [(.int .i64 0),(.int .i64 0),(.aG []),(.sl .aZ 2 []),(.sl .aZ 5 [])]),o2 5 4],.qG (rg 16 [om 0,oq (.ky (.func 263) [] [(.s 4)]),oc 254 [.s 16,.c (.int .u8 91),.c (.bool ab),.s 17],of 1 4,os 1 19 18]),rg 20 [ol 5 4,o2 5 2],.ret]) [.cell 2 ab 5] 21:=aW func217 ⟨[4],[5]⟩
def avA{a b:ah}{C:List V}(h:a.sub b)(k:a.box o=aj):a.sub (b.set o C):=by
 refine⟨λx cs hx=>?_,h.2⟩
 have:x≠o:=by rintro rfl;rw[k] at hx;simp at hx
 rw[ah.eY _ _ this];exact h.1 x cs hx
def atH{n:Nat}(i:ae):(i.pe n).1.1.l=i.l:=by
 have E5:Reads (ae.field n):=DD (T8 n);cases U:i.b_ 124
 .cases h2:(eJ (cH (ae.field n)) i).1.b_ 124<;>simp[ae.pe,U,h2,ae.word,ae.fU,Zm E5]
 .simp[ae.pe,U,ae.word,ae.fU]
def atL{n:Nat}(t:aC):(ae.rowOf n t).1.1.l=t.ak:=by
 unfold ae.rowOf;split
 .rfl
 .rw[atH];rfl
def axx{n:Nat}(h:D.box r=aa rd.enc)(hn:bp rd.l<=n)(hm:bp rd.l+1<=aQ):
 dY 217 [.ptr (.out r) 0] D (.agg (rd.row n).1.enc) (D.set r (rd.row n).2.enc):=by
 have hlen:=mW rd.l;refine aiq.aV ?_;simp only[aU,a7,am];refine(r7 h).mono ?_;rintro v D ⟨rfl,rfl⟩;cases U:rd.b_ 91
 .simp only[am];refine(Ax h (by omega)).mono ?_;rintro v σ' ⟨rfl,rfl⟩;simp only[am,aA.enc,Nat.reduceAdd];refine aX rfl (ah.bm _) ⟨?_,by simp[ae.row,ae.leaf,U]⟩;simp[ae.row,ae.leaf,U,V.erase,bD,Nd.enc,sW]
 .simp only[am];refine kY λo ho=>?_
  have kb:o≠r:=by rintro rfl;rw[h] at ho;simp at ho
  simp only[am];refine bI.tok 0 λZ bE=>⟨_,_,_,fc.rfl,rfl,λi c hc=>⟨c,hc,fc.rfl⟩,rH.set (cs:=[.int .i64 10,.int .i64 0,.aG [],.sl .aZ 2 [],.sl .aZ 5 []]) (cs' := iQ Z [] []) (ah.eW _ _ _) ⟨j8.same,j8.same,j8.same,j8.same,j8.tok rfl,trivial⟩,?_⟩
  simp only[am];have xF : ((D.set o (iQ Z [] [])).a_ Z 0).box r=aa rd.enc:=by
   show(D.set o _).box r=_;rw[ah.eY _ _ (fJ kb)];exact h
  have a9:∀q,((D.set o (iQ Z [] [])).a_ Z 0).box q=aj->q≠o/\q≠r/\D.box q=none:=λq hq=>by
   have eh:q≠o:=by rintro rfl;rw[show((D.set q (iQ Z [] [])).a_ Z 0).box q=_ from ah.eW _ _ _] at hq;simp at hq
   have nJ : D.box q=none:=by rw[<-ah.eY D (iQ Z [] []) eh];exact hq
   exact⟨eh,by rintro rfl;rw[h] at nJ;simp at nJ,nJ⟩
  have nD:bp (rd.take 91).1.ak<=bp rd.l:=(rd.wX 91).1;have ax9:=mW (rd.take 91).1.ak;generalize eX:ae.rowOf n (rd.take 91).1=ins;have E9:ins.1.1.l=(rd.take 91).1.ak:=by rw[<-eX];exact atL _
  refine(Qj (kind:=91) (by simp[am]) xF (by omega) (by omega) ins.1.1 ((D.set o (iQ Z (ins.2.map aA.enc) (ins.1.2.map Nd.enc))).a_ Z (ins.1.2.map Nd.enc).length) ?_ ?_ ?_ E9).mono ?_
  .intro ck hc q hq;obtain⟨eh,lC,_⟩:=a9 q hq;have e1:(((D.set o (iQ Z [] [])).a_ Z 0).set r (rd.take 91).2.enc).set q (rd.take 91).1.inner.enc=ir (D.set r (rd.take 91).2.enc) q o Z (rd.take 91).1.inner [] []:=by
    unfold ir;rw[ah.set_comm (b:=q) eh,ah.set_comm (b:=r) (fJ kb)];rfl
   have e2:(((D.set o (iQ Z (ins.2.map aA.enc) (ins.1.2.map Nd.enc))).a_ Z (ins.1.2.map Nd.enc).length).set r (rd.take 91).2.enc).set q ins.1.1.enc=ir (D.set r (rd.take 91).2.enc) q o Z ins.1.1 (ins.2.map aA.enc) (ins.1.2.map Nd.enc):=by
    unfold ir;rw[ah.set_comm (b:=q) eh,ah.set_comm (b:=r) (fJ kb)];rfl
   have e3:ins=(rd.take 91).1.inner.pe n:=by
    rw[<-eX,ae.rowOf,aB]
    rcases hc with hc | hc
    .simp at hc
    .exact hc
   rw[e1,e2,e3];exact atD eh rfl rfl (by show bp (rd.take 91).1.ak<=n;omega) (by show bp (rd.take 91).1.ak+1<=aQ;omega)
  .intro q1 q2
   have:ins=(((rd.take 91).1.inner,[]),[]):=by rw[<-eX,ae.rowOf,aF q2]
   rw[this];exact⟨rfl,rfl⟩
  .intro q hq;obtain⟨eh,_,nJ⟩:=a9 q hq;show(D.set o _).box q=aj;rw[ah.eY _ _ eh];exact nJ
  rintro v σ' hv;have zn:∀(A B:List V) (n:Nat),(D.set r A).sub (((D.set o B).a_ Z n).set r A):=λA B n=>by
   refine⟨λb cs hb=>?_,λυ m hm=>?_,λ_ _ h=>h⟩
   .have EW:b≠o:=by rintro rfl;rw[ah.eY _ _ kb,ho] at hb;simp at hb
    by_cases we:b=r
    .subst we;rw[ah.eW] at hb ⊢;exact hb
    .rw[ah.eY _ _ we] at hb ⊢;show(D.set o B).box b=_;rw[ah.eY _ _ EW];exact hb
   .have qW : D.aR υ=aa m:=hm;have Bn : υ≠Z:=by rintro rfl;rw[show(D.set o [V.int .i64 10,.int .i64 0,.aG [],.sl .aZ 2 [],.sl .aZ 5 []]).aR υ=D.aR υ from rfl] at bE;rw[bE] at qW;simp at qW
    show((D.set o B).a_ Z n).aR υ=aa m;rw[qE Bn];exact qW
  have ck:(rd.take 91).2.ok=true:=by
   rcases rd.vp 91 with ⟨_,_,e,_,_⟩ | ⟨e,_,_⟩
   .simp[ae.ok,e]
   .rw[U] at e;simp at e
  rw[aF ck] at hv;obtain⟨rfl,rfl⟩:=hv;have hb:(((D.set o (iQ Z (ins.2.map aA.enc) (ins.1.2.map Nd.enc))).a_ Z (ins.1.2.map Nd.enc).length).set r ((rd.take 91).2.under ins.1.1).enc).box o=aa (iQ Z (ins.2.map aA.enc) (ins.1.2.map Nd.enc)):=by
   rw[ah.eY _ _ kb];exact ah.eW _ _ _
  simp only[iQ] at hb zn ⊢;simp only[am,hb,Nat.reduceAdd];refine aX rfl (avA (zn _ _ _) (by rw[ah.eY _ _ kb];exact ho)) ⟨?_,by simp[ae.row,U,eX]⟩;simp[ae.row,U,eX,V.erase,bD,Nd.enc,BT]
def ahG:aS prog 166 (sq [rg 6 [oz 7,oM [0,0]],rg 11 [om 0,om 1,om 2,oW [10,0,0,0,0] [(0,1,11),(1,1,12),(2,1,13)],oq (.gS 5 (.s 14)),o1 8],rg 17 [om 8,oc 213 [.s 17,.c (.bool ar)],o1 16,oe 16 0,oe 16 1,ot 9 19,o1 10],sq [rg 21 [om 8,oC 214 [21],nn],ci 23 (sq [dg 24 [mk 8,nf 3,nl 2,oU 6 7,o2 2 7],.ret])],rg 28 [om 9,oW [0,0] [],ot 6 28,o2 2 7],.ret]) [.tmp 6,.cell 7 ab 2] 30:=aW func166 ⟨[15],[]⟩
def ahJ:aS prog 169 (sq [rg 7 [oZ 6 [0,0,1,7,10],oi 0,oM [0,0]],rg 9 [om 0,om 1,om 2,oc 215 [.s 9,.s 10,.s 11,.c (.fn (.func 216) [] [])],oe 12 0,oe 12 1,oe 12 2,os 5 6 13,ot 7 14,o2 2 8],.ret]) [.cell 6 ab 5,.tmp 7,.cell 8 ab 2] 16:=aW func169
def ahK:aS prog 170 (sq [rg 7 [oZ 6 [0,0,1,7,10],oi 0,oM [0,0]],rg 9 [om 0,om 1,om 2,oc 215 [.s 9,.s 10,.s 11,.c (.fn (.func 217) [] [])],oe 12 0,oe 12 1,oe 12 2,os 5 6 13,ot 7 14,o2 2 8],.ret]) [.cell 6 ab 5,.tmp 7,.cell 8 ab 2] 16:=aW func170
def aio:aS prog 215 (sq [rg 9 [oZ 8 [0,0,1,7,10],oi 0,oM [0,0]],rg 13 [om 0,om 1,om 2,oW [10,0,0,0,0] [(0,1,13),(1,1,14),(2,1,15)],oq (.gS 5 (.s 16)),o1 11],rg 18 [om 3,om 11,oq (.jj (.s 18) [(.s 19)]),oZ 12 [0,0,1,7,10],o2 5 12],sq [rg 21 [om 11,oC 214 [21],nn],ci 23 (sq [dg 24 [oW [0,0,1,7,10] [],mk 11,nf 3,mM [1],nl 2,os 5 8 24,oj 9 0,o2 2 10],.ret])],dg 29 [ol 5 12,mk 11,nf 1,mM [1],no,oW [0,0] [],os 5 8 29,ot 9 33,o2 2 10],.ret]) [.cell 8 ab 5,.tmp 9,.cell 10 ab 2] 35:=aW func215 ⟨[17],[]⟩
def kR(b:Option Int):V:=.agg [.int .i64 (dz b),.int .i64 (gk b)]
def aag{one:ae->Nd × ae}{at_ fin:Int}
 (gp:∀q (D:ah),D.box q=aa (⟨l,at_,fin,aj⟩:ae).enc->dY g [.ptr (.out q) 0] D (.agg (one ⟨l,at_,fin,aj⟩).1.enc) (D.set q (one ⟨l,at_,fin,aj⟩).2.enc)) :
 a8 215 [.sl .no 5 (eg l),.int .i64 at_,.int .i64 fin,.fn (.func g) [] []] D (.bH [.agg (fO one l at_ fin).1.enc,.int .i64 (fO one l at_ fin).2.1,kR (fO one l at_ fin).2.2]):=by
 refine aio.aV ?_;simp only[aU,a7,am];refine kY λq hq=>?_
 rw[show [V.sl .no 5 (eg l),.int .i64 at_,.int .i64 fin,.int .i64 0,.int .i64 0]=(⟨l,at_,fin,aj⟩:ae).enc from rfl];simp only[am];refine(gp q _ (ah.eW _ _ _)).mono ?_;rintro v σ' ⟨rfl,rfl⟩;have hb:=ah.eW D q (one ⟨l,at_,fin,aj⟩).2.enc;have jo:fO one l at_ fin=match (one ⟨l,at_,fin,aj⟩).2.aM with | some b=>(.zero,0,aa b) | none=>((one ⟨l,at_,fin,aj⟩).1,(one ⟨l,at_,fin,aj⟩).2.at_,aj):=rfl
 generalize one ⟨l,at_,fin,aj⟩=o at hb jo ⊢;simp only[am,Nd.len,Nd.one,Nd.F5];refine(yg (ah.eW _ _ _)).mono ?_;rintro v σ' ⟨rfl,rfl⟩;cases h:o.2.aM with
 | some b =>
  simp only[am,ae.ok,h,Option.isNone,ae.ex,Nat.reduceAdd];rw[h] at jo;refine aX rfl (jg hq) ⟨?_,rfl⟩;simp[jo,V.erase,bD,Nd.zero,Nd.enc,sW,kR]
 | none =>
  simp only[am,ae.ok,h,Option.isNone,ae.ex,Nat.reduceAdd,Nd.len,Nd.one,Nd.F5,Nd.tk];rw[h] at jo;refine aX (by simp only[am,Nd.c9]) (jg hq) ⟨?_,rfl⟩;simp[jo,V.erase,bD,kR,Nd.er,dz,gk]
def aap{n:Nat}{at_ fin:Int}(hn:bp l<=n)(hm:bp l+1<=aQ):
 a8 169 [.sl .no 5 (eg l),.int .i64 at_,.int .i64 fin] D (.bH [.agg (fO (ae.label n) l at_ fin).1.enc,.int .i64 (fO (ae.label n) l at_ fin).2.1,kR (fO (ae.label n) l at_ fin).2.2]):=by
 refine ahJ.aV ?_;simp only[aU,a7,am];refine(aag (one:=ae.label n) (λq D h=>anF n h hn hm)).mono ?_;rintro v D ⟨rfl,rfl⟩;generalize fO (ae.label n) l at_ fin=o;simp only[am,kR,Nd.len,Nd.F5,Nd.tk,Nd.one];refine aX (by simp only[am,Nd.c9]) (ah.bm _) ⟨?_,rfl⟩;simp[V.erase,bD,Nd.er]
def aaK{n:Nat}{at_ fin:Int}(hn:bp l<=n)(hm:bp l+1<=aQ):
 a8 170 [.sl .no 5 (eg l),.int .i64 at_,.int .i64 fin] D (.bH [.agg (fO (ae.row n) l at_ fin).1.enc,.int .i64 (fO (ae.row n) l at_ fin).2.1,kR (fO (ae.row n) l at_ fin).2.2]):=by
 refine ahK.aV ?_;simp only[aU,a7,am];refine(aag (one:=ae.row n) (λq D h=>axx (n:=n) h hn hm)).mono ?_;rintro v D ⟨rfl,rfl⟩;generalize fO (ae.row n) l at_ fin=o;simp only[am,kR,Nd.len,Nd.F5,Nd.tk,Nd.one];refine aX (by simp only[am,Nd.c9]) (ah.bm _) ⟨?_,rfl⟩;simp[V.erase,bD,Nd.er]
def aaO{at_ fin:Int}(hm:bp l+1<=aQ):
 a8 166 [.sl .no 5 (eg l),.int .i64 at_,.int .i64 fin] D (.bH [.sl .no 2 ((jY l at_ fin).1.map aA.enc),kR (jY l at_ fin).2]):=by
 have hlen:=mW l;refine ahG.aV ?_;simp only[aU,a7,am];refine kY λq hq=>?_
 rw[show [V.sl .no 5 (eg l),.int .i64 at_,.int .i64 fin,.int .i64 0,.int .i64 0]=(⟨l,at_,fin,aj⟩:ae).enc from rfl];simp only[am];refine(Qp (ah.eW _ _ _) (by simp only;omega) (BG hm rfl)).mono ?_;rintro v σ' ⟨rfl,rfl⟩;have hb:=ah.eW D q ((⟨l,at_,fin,aj⟩:ae).words ar).2.enc;have jo:jY l at_ fin=match ((⟨l,at_,fin,aj⟩:ae).words ar).2.aM with | some b=>([],aa b) | none=>(((⟨l,at_,fin,aj⟩:ae).words ar).1.1,aj):=rfl
 generalize (⟨l,at_,fin,aj⟩:ae).words ar=o at hb jo ⊢;simp only[am];refine(yg (ah.eW _ _ _)).mono ?_;rintro v σ' ⟨rfl,rfl⟩;cases h:o.2.aM with
 | some b =>
  simp only[am,ae.ok,h,Option.isNone,ae.ex,Nat.reduceAdd];rw[h] at jo;refine aX rfl (jg hq) ⟨?_,rfl⟩;simp[jo,V.erase,bD,kR]
 | none =>
  simp only[am,ae.ok,h,Option.isNone];rw[h] at jo;refine aX rfl (jg hq) ⟨?_,rfl⟩;simp[jo,V.erase,bD,kR,dz,gk]
def akr:aS prog 79 (sq [rg 2 [oz 2],sq [rg 4 [om 0,nT,nB .lss 1,gB,om 0,nT,nB .gtr 16,gZ,gB,om 0,oq (.tV (.s 13) (.c (.int .i64 0))),oC 143 [14],nn,gZ],cr 17 2 [oz 2]],sq [rg 3 [oi 1],bl 0 (sq [sq [rg 18 [om 3,om 0,nT,nb .lss 18],cx 21 0],.block 1 (sq [rg 24 [om 0,om 3,nS 24,oC 143 [26],nn,nm,og 29 (om 0),og 29 (om 3),og 29 (nS 30),og 29 (nu .lss 48),og 29 (nm),oh 34 (om 0),oh 34 (om 3),oh 34 (nS 35),oh 34 (nu .gtr 57),og 29 (oq (.pick (.s 34) (.c (.bool ab)) (.s 38))),oy 29 39,gA,om 0,om 3,nS 42,nu .neq 95,gZ],cr 46 2 [oz 2]]),rg 22 [ic 3]])],rg 2 [oq (.mv (.c (.bool ab)))],.ret]) [.tmp 2] 47:=aW func79
def aht:aS prog 143 (sq [rg 2 [oz 2],rg 3 [om 0,nu .geq 97,gA,om 0,nu .leq 122,gZ,o1 2],.ret]) [.tmp 2] 9:=aW func143
def ahB:aS prog 161 (sq [rg 2 [oz 2],sq [rg 4 [om 0,oq (.pZ .eql (.s 4) (.c (.aG []))),gB,om 0,nT,nB .gtr 16,gZ,gB,om 0,oq (.tV (.s 12) (.c (.int .i64 0))),oC 211 [13],nn,gZ],cr 16 2 [oz 2]],sq [rg 17 [om 0,nT,oi 0],lp 18 0 (sq [rg 21 [om 19,o1 3],rg 22 [om 0,om 3,nS 22,oC 212 [24],nn],cr 26 2 [oz 2]]) 27],rg 2 [oq (.mv (.c (.bool ab)))],.ret]) [.tmp 2] 28:=aW func161
def aik:aS prog 211 (sq [rg 2 [oz 2],rg 3 [om 0,nu .geq 97,gA,om 0,nu .leq 122,gZ,o1 2],.ret]) [.tmp 2] 9:=aW func211
def ail:aS prog 212 (sq [rg 2 [oz 2],rg 3 [om 0,oC 211 [3],nm,oh 5 (om 0),oh 5 (nu .geq 48),oh 5 (nm),og 8 (om 0),og 8 (nu .leq 57),oh 5 (oy 8 10),oq (.pick (.s 5) (.c (.bool ab)) (.s 11)),gB,om 0,nu .eql 95,gZ,o1 2],.ret]) [.tmp 2] 17:=aW func212
def s9:=af @am <| af @qM <| af @cX <| af @lz <| af @b9 <| af @fL <| af @aC.al <| af @Nd.al <| af @aA.al @cI.al
def VZ(c:Int)(D:ah):a8 211 [.int .u8 c] D (.bool (sV c)):=by
 refine aik.aV ?_;simp only[aU,am,a7,Nat.reduceAdd]
 repeat' (first
  | (refine kS (λh=>?_) (λh=>?_)<;>simp only[am,h])
  | (refine fx (λh=>?_) (λh=>?_)<;>simp only[s9,h,Nat.reduceAdd,Nat.reduceEqDiff,aN])
  | (refine lb (λh=>?_) (λh=>?_)<;>simp only[s9,h,Nat.reduceAdd,Nat.reduceEqDiff,aN])
 )
 all_goals refine aL ?_
 all_goals simp_all [V.erase,sV]
 all_goals (try omega)
def VY(c:Int)(D:ah):a8 143 [.int .u8 c] D (.bool (sV c)):=by
 refine aht.aV ?_;simp only[aU,am,a7,Nat.reduceAdd]
 repeat' (first
  | (refine kS (λh=>?_) (λh=>?_)<;>simp only[am,h])
  | (refine fx (λh=>?_) (λh=>?_)<;>simp only[s9,h,Nat.reduceAdd,Nat.reduceEqDiff,aN])
  | (refine lb (λh=>?_) (λh=>?_)<;>simp only[s9,h,Nat.reduceAdd,Nat.reduceEqDiff,aN])
 )
 all_goals refine aL ?_
 all_goals simp_all [V.erase,sV]
 all_goals (try omega)
def ali(c:Int)(D:ah):a8 212 [.int .u8 c] D (.bool (uI c)):=by
 refine ail.aV ?_;simp only[aU,am,a7,Nat.reduceAdd];refine cl (VZ c D) ?_;simp only[am]
 repeat' (first
  | (refine kS (λh=>?_) (λh=>?_)<;>simp only[am,h])
  | (refine fx (λh=>?_) (λh=>?_)<;>simp only[s9,h,Nat.reduceAdd,Nat.reduceEqDiff,aN])
  | (refine lb (λh=>?_) (λh=>?_)<;>simp only[s9,h,Nat.reduceAdd,Nat.reduceEqDiff,aN])
 )
 all_goals refine aL ?_
 all_goals simp_all [V.erase,uI]
 all_goals (try omega)
variable{s:List UInt8}
def Ao(h:i<s.length):s[((i:Nat):Int).toNat]?=aa s[i]:=by simp[h]
def NL(s:List UInt8)(D:ah)(i:Nat):St :=
 ⟨[.aG s]++aq 17 .any++[.int .i64 s.length,.int .i64 (i:Nat)]++aq 8 .any,[],D⟩
def G_{f:UInt8->Bool}(h:i<s.length):(s.take (i+1)).all f=((s.take i).all f&&f s[i]):=by
 rw[DM (cK h),D5];simp only[vB,QK,rC]
def WG(h:s.length<=16)(U:0<s.length):cV s=(sU s[0]&&s.all fA):=by
 cases s with
 | nil=>simp at U
 | cons c r =>
  simp only[cV,h,b9,iM,List.getElem_cons_zero,vB];cases hc:sU c
  .simp
  .have:fA c=true:=by simp only[sU] at hc;simp[fA,uI,hc]
   simp[this]
def u9(s:List UInt8)(D:ah):a8 161 [.aG s] D (.bool (cV s)):=by
 refine ahB.aV ?_;simp only[aU,am,a7,Nat.reduceAdd]
 by_cases h0:s=[]
 .subst h0;simp only[am,b9];refine aL ?_;simp[V.erase,cV]
 .have iw:0<s.length:=by cases s with | nil=>exact absurd rfl h0 | cons _ _=>simp
  simp only[am,fL,h0]
  by_cases zf:s.length<=16
  .have e:decide ((16:Int)<s.length)=false:=by simp;omega
   simp only[am,e];refine wF (c:=s[0]) (by simp[iw]) ?_;simp only[am];refine cl (VZ s[0].toNat D) ?_;have hl:cV s=(sU s[0]&&s.all fA):=WG zf iw;cases hb:sV (s[0].toNat:Nat)
   .have cC : sU s[0]=false:=hb;simp only[am];refine aL ?_;simp[V.erase,hl,cC]
   .have cC : sU s[0]=true:=hb;simp only[am];refine jX (λp:{i:Nat // i<=s.length/\(s.take i).all fA=ab}=>NL s D p.1) (λp=>s.length - p.1) ?_ ?_
    .refine bI.enter ⟨0,by simp,by simp⟩ ?_ cT.rfl bW.rfl;simp[NL,aq,am]
    .rintro⟨i,hi,ha⟩;simp only[NL,aq,am];refine fx ?_ ?_
     .intro aD;have aD:i<s.length:=by simpa using aD
      simp only[am];refine wF (Ao aD) ?_;simp only[am];refine cl (ali s[i].toNat D) ?_;cases hg:uI (s[i].toNat:Nat)
      .have rN : fA s[i]=false:=hg;simp only[am];refine aX rfl (ah.bm _) ⟨?_,rfl⟩
       have:s.all fA=false:=by
        rw[AI];exact⟨s[i],dj aD,by simp[rN]⟩
       simp[V.erase,hl,this]
      .simp only[am];rw[wrap_i64];refine bI.again ⟨i+1,by omega,?_⟩ (by simp;omega) (by simp[am]) cT.rfl bW.rfl;rw[G_ aD,ha];exact hg
     .intro aD;have aD:i=s.length:=by simp at aD;omega
      subst aD;rw[dX] at ha;simp only[am];refine aL ?_;simp[V.erase,hl,cC,ha]
  .have e:decide ((16:Int)<s.length)=true:=by simp;omega
   simp only[am,e];refine aL ?_;simp[V.erase,cV,zf]
def NK(s:List UInt8)(D:ah)(i:Nat):St :=
 ⟨[.aG s,.any,.any,.int .i64 (i:Nat)]++aq 43 .any,[],D⟩
def JG(s:List UInt8)(D:ah):a8 79 [.aG s] D (.bool (cV s)):=by
 refine akr.aV ?_;simp only[aU,am,a7,Nat.reduceAdd]
 by_cases h0:s=[]
 .subst h0;simp only[am,show decide ((([]:List UInt8).length:Int)<1)=ab from rfl];refine aL ?_;simp[V.erase,cV]
 .have iw:0<s.length:=by cases s with | nil=>exact absurd rfl h0 | cons _ _=>simp
  have e1:decide ((s.length:Int)<1)=false:=by simp;omega
  simp only[am,e1]
  by_cases zf:s.length<=16
  .have e:decide ((16:Int)<s.length)=false:=by simp;omega
   simp only[am,e];refine wF (c:=s[0]) (by simp[iw]) ?_;simp only[am];refine cl (VY s[0].toNat D) ?_;have hl:cV s=(sU s[0]&&s.all fA):=WG zf iw;cases hb:sV (s[0].toNat:Nat)
   .have cC : sU s[0]=false:=hb;simp only[am];refine aL ?_;simp[V.erase,hl,cC]
   .have cC : sU s[0]=true:=hb;simp only[am];refine jX (λp:{i:Nat // 1<=i/\i<=s.length/\(s.take i).all fA=ab}=>NK s D p.1) (λp=>s.length - p.1) ?_ ?_
    .refine bI.enter ⟨1,by simp,by omega,?_⟩ ?_ cT.rfl bW.rfl
     .rw[G_ iw];simp[fA,uI,hb]
     .simp[NK,aq,am]
    .rintro⟨i,qi,hi,ha⟩;simp only[NK,aq,am];refine fx ?_ ?_
     .intro aD;have aD:i<s.length:=by simpa using aD
      simp only[am];refine wF (Ao aD) ?_;simp only[am];refine cl (VY s[i].toNat D) ?_;have ka:fA s[i]=ar->s.all fA=false:=λhg=>by
       rw[AI];exact⟨s[i],dj aD,by simp[hg]⟩
      have fin:fA s[i]=ab->(s.take (i+1)).all fA=true:=λhg=>by rw[G_ aD,ha,hg];rfl
      have kq:fA s[i]=(sV (s[i].toNat:Nat)||(decide (48<=(s[i].toNat:Int))&&decide ((s[i].toNat:Int)<=57))||decide ((s[i].toNat:Int)=95)):=rfl;cases hg:sV (s[i].toNat:Nat)
      all_goals rw[hg] at kq
      all_goals simp only[am]
      repeat' (first
       | (refine kS (λh=>?_) (λh=>?_)<;>simp only[am,h])
       | (refine fx (λh=>?_) (λh=>?_)<;>simp only[am,h])
       | (refine lb (λh=>?_) (λh=>?_)<;>simp only[s9,h,Nat.reduceAdd,Nat.reduceEqDiff,aN])
       | (refine wF (Ao aD) ?_;simp only[am])
      )
      all_goals first
       | (have uR:fA s[i]=true:=by rw[kq];simp_all<;>omega
          rw[wrap_i64];exact bI.again ⟨i+1,by omega,by omega,fin uR⟩ (by simp;omega) (by simp[am]) cT.rfl bW.rfl)
       | (have uR:fA s[i]=false:=by rw[kq];simp_all<;>omega
          refine aX rfl (ah.bm _) ⟨?_,rfl⟩;simp[V.erase,hl,ka uR])
     .intro aD;have aD:i=s.length:=by simp at aD;omega
      subst aD;rw[dX] at ha;simp only[am];refine aL ?_;simp[V.erase,hl,cC,ha]
  .have e:decide ((16:Int)<s.length)=true:=by simp;omega
   simp only[am,e];refine aL ?_;simp[V.erase,cV,zf]
def aks:aS prog 80 (sq [rg 2 [oi 0],sq [rg 3 [oi 0],bl 0 (sq [sq [rg 4 [nm,om 0,nL,nb .lss 4],cx 7 0],.block 1 (sq [rg 10 [om 0,om 0,om 3,nA 1 11,no,oC 144 [10,14],om 3,nb .lss 15],cr 17 18 [om 3,o1 2]]),rg 8 [ic 3]])],rg 2 [oi (-1)],.ret]) [.tmp 2] 19:=aW func80
def ahu:aS prog 144 (sq [rg 4 [oi 0],sq [rg 5 [oi 0],bl 0 (sq [sq [rg 6 [nm,om 0,nL,nb .lss 6],cx 9 0],.block 1 (sq [rg 12 [om 0,om 5,nA 1 12,no,om 1,nE .eql 15],cr 17 18 [om 5,o1 4]]),rg 10 [ic 5]])],rg 4 [oi (-1)],.ret]) [.tmp 4] 19:=aW func144
def ahN:aS prog 173 (sq [rg 4 [od (aa 2) (.gS 1 (.s 0)),od (aa 3) (.gS 1 (.s 1)),oi 0],rg 5 [oo 2,nL,oq (.ky (.func 219) [] [(.s 2),(.s 3)]),oc 218 [.c (.int .i64 0),.s 6,.s 7],o1 4],.ret]) [.tmp 4] 9:=aW func173 ⟨[2,3],[]⟩
def air:aS prog 218 (sq [rg 6 [oi 0],sq [rg 8 [om 0,o1 7],bl 0 (sq [sq [rg 9 [om 7,om 1,nb .lss 9],cx 11 0],.block 1 (sq [rg 14 [om 2,om 7,oq (.jj (.s 14) [(.s 15)])],cr 16 17 [om 7,o1 6]]),rg 12 [ic 7]])],rg 6 [oi (-1)],.ret]) [.tmp 6] 18:=aW func218
def ais:aS prog 219 (sq [rg 4 [oz 2],dg 5 [oo 1,om 0,nA 1 5,no,oo 2,nE .eql 8,o1 4],.ret]) [.tmp 4] 11:=aW func219
def ajI:aS prog 297 (sq [rg 2 [oz 2],sq [rg 5 [om 0,nL,nB .lss 1,gB,om 0,nL,nB .gtr 64,gZ,gB,om 0,oC 307 [14],nB .geq 0,gZ],cr 17 2 [oz 2]],sq [rg 18 [om 0,nL,oi 0],lp 19 0 (sq [rg 22 [oA 1 18 20,no,o1 4],rg 24 [om 4,oC 161 [24],nn],cr 26 2 [oz 2]]) 27],rg 2 [oq (.mv (.c (.bool ab)))],.ret]) [.tmp 2] 28:=aW func297
def ajT:aS prog 307 (sq [rg 2 [od (aa 1) (.gS 1 (.s 0)),oi 0],rg 3 [oo 1,nL,oq (.ky (.func 314) [] [(.s 1)]),oc 218 [.c (.int .i64 0),.s 4,.s 5],o1 2],.ret]) [.tmp 2] 7:=aW func307 ⟨[1],[]⟩
def aj0:aS prog 314 (sq [rg 3 [oz 2],dg 4 [oo 1,om 0,oq (.lT 1 (.s 4) aj (aa (.s 5)) aj),oo 1,om 0,nA 1 7,no,oC 173 [6,10],nB .geq 0,o1 3],.ret]) [.tmp 3] 13:=aW func314
def Xu(n:Nat)(hn:n<=100000)(f:FuncId)(cap:List V)(hc:bT cap=ab)(p:Nat->Bool)(D:ah)(h:∀i,i<n->ch prog f (.int .i64 (i:Nat)::cap) D λv σ' => v = .bool (p i)/\σ' = D) :
 a8 218 [.int .i64 0,.int .i64 (n:Nat),.fn (.func f) [] cap] D (.int .i64 (cN ((bA n).find? p))):=by
 refine air.aV ?_;simp only[aU,am,a7,Nat.reduceAdd];refine cn (n) (λi (x:Unit)=>⟨[.any,.int .i64 (n:Nat),.fn (.func f) [] cap,.any,.any,.any,.any,.int .i64 (i:Nat)]++aq 10 .any,[],D⟩) (λi x=>(∀k,k<i->p k=ar)) λF hF JF aT=>⟨?_,?_,?_⟩
 .exact en aT (()) (by intro k h;omega)
 .rintro i x hi hJ;simp only[hF,aq,am,cc hi,hc];refine(h i hi).mono ?_;rintro v σ' ⟨rfl,rfl⟩;cases hb:p i with
  | false =>
   simp only[am,aI,bJ hi];exact nx aT (()) hi (iW hJ hb)
  | true =>
   have e:=Bb hi hJ hb;simp only[am,aI];refine aL ?_;simp[V.erase,e,cN]
 .rintro x hJ;have e:=Bc hJ;simp only[hF,aq,am,aI,cE,aI];refine aL ?_;simp[V.erase,e,cN]
def agH(l:List (List UInt8))(s:List UInt8)(i b1 b2:Nat)(hi:i<l.length)(U:D.box b1=aa [.sl .no 1 (cD l)])(h2:D.box b2=aa [.aG s]):
 a8 219 [.int .i64 (i:Nat),.ptr (.out b1) 0,.ptr (.out b2) 0] D (.bool (decide (l.getD i []=s))):=by
 refine ais.aV ?_;simp only[aU,am,a7,Nat.reduceAdd];simp only[am,U];refine ix (B9 hi) ?_;simp only[am,h2];exact rt
def xB(l:List (List UInt8))(s:List UInt8)(D:ah)(hl:l.length<=100000):a8 173 [.sl .no 1 (cD l),.aG s] D (.int .i64 (cN (fu l s))):=by
 refine ahN.aV ?_;simp only[aU,am,a7,Nat.reduceAdd];refine kY λb1 ek=>?_
 simp only[am];refine kY λb2 dx=>?_
 have a9:b1≠b2:=by rintro rfl;rw[iS] at dx;simp at dx
 have hs:=ah.DL (jg (cs:=[.sl .no 1 (cD l)]) ek) (jg (cs:=[.aG s]) dx);have e1:((D.set b1 [.sl .no 1 (cD l)]).set b2 [.aG s]).box b1=aa [.sl .no 1 (cD l)]:=by rw[pf a9,iS]
 generalize wE:(D.set b1 [V.sl .no 1 (cD l)]).set b2 [V.aG s]=bF at hs e1;have e2:bF.box b2=aa [.aG s]:=by rw[<-wE,iS]
 simp only[am,eB,e1];refine(Xu l.length hl _ _ rfl (λi=>decide (l.getD i []=s)) bF λi hi=>agH l s i b1 b2 hi e1 e2).mono ?_;rintro v bF ⟨rfl,rfl⟩;simp only[am];exact aX rfl hs ⟨rfl,rfl⟩
def av2(l:List (List UInt8))(i b1:Nat)(hl:l.length<=100000)(hi:i<l.length)(U:D.box b1=aa [.sl .no 1 (cD l)]):
 a8 314 [.int .i64 (i:Nat),.ptr (.out b1) 0] D (.bool (fu (l.take i) (l.getD i [])).isSome):=by
 refine aj0.aV ?_;simp only[aU,am,a7,Nat.reduceAdd];simp only[am,cX,U];refine Zk (b:=i) (by rw[eB];omega) ?_;simp only[am,U];refine ix (B9 hi) ?_;rw[YI];simp only[am];refine bK.intro (xB (l.take i) (l.getD i []) D (by rw[iN];omega)) ?_;simp only[am,Jk];exact rt
def av3(l:List (List UInt8))(D:ah)(hl:l.length<=100000):a8 307 [.sl .no 1 (cD l)] D (.int .i64 (cN (po l))):=by
 refine ajT.aV ?_;simp only[aU,am,a7,Nat.reduceAdd];refine kY λb1 ek=>?_
 simp only[am,eB];refine(Xu l.length hl _ _ rfl (λi=>(fu (l.take i) (l.getD i [])).isSome) _ λi hi=>av2 l i b1 hl hi iS).mono ?_;rintro v bF ⟨rfl,rfl⟩;simp only[am];exact aX rfl (jg ek) ⟨rfl,rfl⟩
def ats(l:List (List UInt8))(s:List UInt8)(D:ah)(hl:l.length<=100000):a8 144 [.sl .no 1 (cD l),.aG s] D (.int .i64 (cN (fu l s))):=by
 refine ahu.aV ?_;simp only[aU,am,a7,Nat.reduceAdd];refine cn (l.length) (λi (x:Unit)=>⟨[.sl .no 1 (cD l),.aG s,.any,.any,.any,.int .i64 (i:Nat)]++aq 13 .any,[],D⟩) (λi x=>(∀k,k<i->decide (l.getD k []=s)=ar)) λF hF JF aT=>⟨?_,?_,?_⟩
 .exact en aT (()) (by intro k h;omega)
 .rintro i x hi hJ;simp only[hF,aq,am,cc hi,eB];refine ix (B9 hi) ?_;simp only[am]
  by_cases h:l.getD i []=s
  .have e:fu l s=aa i:=Bb hi hJ (aK h);simp only[am,aI,aK h];refine aL ?_;simp[V.erase,e,cN]
  .simp only[am,aI,aJ h,bJ hi];exact nx aT (()) hi (iW hJ (aJ h))
 .rintro x hJ;have e:fu l s=none:=Bc hJ;simp only[hF,aq,am,aI,cE,aI,eB];refine aL ?_;simp[V.erase,e,cN]
def Pj(l:List (List UInt8))(D:ah)(hl:l.length<=100000):a8 80 [.sl .no 1 (cD l)] D (.int .i64 (cN (po l))):=by
 refine aks.aV ?_;simp only[aU,am,a7,Nat.reduceAdd];refine cn (l.length) (λi (x:Unit)=>⟨[.sl .no 1 (cD l),.any,.any,.int .i64 (i:Nat)]++aq 15 .any,[],D⟩) (λi x=>(∀k,k<i->(fu (l.take k) (l.getD k [])).isSome=ar)) λF hF JF aT=>⟨?_,?_,?_⟩
 .exact en aT (()) (by intro k h;omega)
 .rintro i x hi hJ;simp only[hF,aq,am,cc hi,eB];refine ix (B9 hi) ?_;simp only[am];refine cl (ats l (l.getD i []) D hl) ?_;have e:=agK hi;simp only[am,<-e];cases hb:(fu (l.take i) (l.getD i [])).isSome with
  | false =>
   simp only[am,aI,bJ hi];exact nx aT (()) hi (iW hJ hb)
  | true =>
   have e:po l=aa i:=Bb hi hJ hb;simp only[am,aI];refine aL ?_;simp[V.erase,e,cN]
 .rintro x hJ;have e:po l=none:=Bc hJ;simp only[hF,aq,am,aI,cE,aI,eB];refine aL ?_;simp[V.erase,e,cN]
def apy(l:List (List UInt8))(D:ah)(hl:l.length<=100000):a8 297 [.sl .no 1 (cD l)] D (.bool (kz l)):=by
 refine ajI.aV ?_;simp only[aU,am,a7,Nat.reduceAdd,eB]
 by_cases U:l.length<1
 .simp only[am,aK (show(l.length:Int)<1 by omega)];refine aL ?_;simp[V.erase,kz];omega
 .simp only[am,eB,aJ (show ¬(l.length:Int)<1 by omega)]
  by_cases h2:64<l.length
  .simp only[am,aK (show(64:Int)<l.length by omega)];refine aL ?_;simp[V.erase,kz];omega
  .simp only[am,aJ (show ¬(64:Int)<l.length by omega)];refine cl (av3 l D hl) ?_;simp only[am,Jk];cases ht:po l with
   | some k =>
    simp only[am,Ec];refine aL ?_;simp[V.erase,kz,ht]
   | none =>
    simp only[am,eB,Cv];refine cn (l.length) (λi (x:Unit)=>⟨[.any,.any,.any,.any,.any,.any,.any,.any,.any,.any,.any,.any,.any,.any,.any,.any,.any,.any,.sl .no 1 (cD l),.int .i64 (l.length:Nat),.int .i64 (i:Nat)]++aq 7 .any,[],D⟩) (λi x=>(∀k,k<i->cV (l.getD k [])=ab)) λF hF JF aT=>⟨?_,?_,?_⟩
    .exact en aT (()) (by intro k h;omega)
    .rintro i x hi hJ;simp only[hF,aq,am,cc hi];refine ix (B9 hi) ?_;simp only[am];refine cl (u9 _ D) ?_;simp only[am];cases hb:cV (l.getD i []) with
     | false =>
      have e:kz l=false:=by
       cases hq:kz l with
       | false=>rfl
       | true =>
        simp only[kz,bg,eM] at hq;have hm:l.getD i []∈l:=by rw[ny hi];exact dj hi
        rw[hq.2 _ hm] at hb;simp at hb
      simp only[am,aI];refine aL ?_;simp[V.erase,e]
     | true =>
      simp only[am,aI,bJ hi];exact nx aT (()) hi (iW hJ hb)
    .rintro x hJ;have e:kz l=true:=by
      simp only[kz,ht,bg,eM,bQ,yS,im];refine⟨by omega,λs hs=>?_⟩;obtain⟨k,hk,rfl⟩:=uq.1 hs
      have:=hJ k hk
      rwa [ny hk] at this
     simp only[hF,aq,am,aI,cE,aI];refine aL ?_;simp[V.erase,e]
def aiH:aS prog 233 (sq [rg 2 [ox 1 2 0,oz 2],rg 6 [fo 1 1,nL,o1 3],sq [rg 9 [om 3,nB .lss 1,gB,om 3,nB .gtr 8,gZ,nm,oh 15 (of 0 1),oh 15 (no),oh 15 (nn),oh 15 (nm),og 19 (om 3),og 19 (nB .neq 1),oh 15 (oy 19 21),oq (.pick (.s 15) (.c (.bool ab)) (.s 22))],cr 23 2 [oz 2]],sq [rg 24 [fo 1 1,nL,oi 0],lp 26 0 (sq [rg 29 [oA 67 25 27,nl 67,oR 5 sA,o2 67 5],rg 31 [ol 67 5,oC 276 [31],nn],cr 33 2 [oz 2]]) 34],rg 2 [oq (.mv (.c (.bool ab)))],.ret]) [.tmp 2] 35:=aW func233
def ajo:aS prog 276 (sq [rg 2 [ox 1 67 0,oz 2],sq [rg 3 [fo 1 1,oC 297 [4],nn],cr 6 2 [oz 2]],sq [rg 7 [fo 0 1],.block 0 (sq [sq [rg 10 [oB .eql 8 1,o1 9],cd 9 .skip (rg 11 [oB .eql 8 2,o1 9])],cd 9 (sq [rg 12 [of 2 1,nl 65,oY mY [],oC 298 [13,14],o1 2],.ret]) (sq [rg 17 [oB .eql 8 3,o1 16],cd 16 (sq [rg 18 [of 2 1,nF 0,fo 1 1,nL,nb .eql 20,gA,of 2 1,nl 65,oC 299 [27],gZ,o1 2],.ret]) (sq [rg 31 [oB .eql 8 4,o1 30],cr 30 32 [of 2 1,nF 0,fo 1 1,nL,nb .eql 34,gA,of 2 1,nl 65,oC 175 [41],gZ,o1 2]])])])],rg 2 [oz 2],.ret]) [.tmp 2] 44:=aW func276
def axH:=af @am <| af @a7 <| af @Rl.al @bh.al
def agi(f:bh)(hg:TZ D)(hl:f.an.length<=100000):a8 276 [.agg f.enc] D (.bool (gl f)):=by
 refine ajo.aV ?_;simp only[aU,axH,Nat.reduceAdd];refine cl (apy f.an D hl) ?_;cases hn:kz f.an with
 | false =>
  simp only[am];refine aL ?_;simp[V.erase,gl,hn]
 | true =>
  simp only[am,bh.al]
  by_cases U:f.kind=1
  .simp only[am,Rl.al,bh.al,aK U];refine cl (YS f.rel Rl.zero D) ?_;simp only[am,Xx];refine aL ?_;simp[V.erase,gl,hn,U]
  .simp only[am,aJ U]
   by_cases h2:f.kind=2
   .simp only[am,Rl.al,bh.al,aK h2];refine cl (YS f.rel Rl.zero D) ?_;simp only[am,Xx];refine aL ?_;simp[V.erase,gl,hn,h2]
   .simp only[am,aJ h2]
    by_cases h3:f.kind=3
    .simp only[am,bh.al,eB,aK h3]
     by_cases h4:f.rel.n=f.an.length
     .simp only[am,Rl.al,bh.al,aK h4];refine cl (L9 f.rel D) ?_;simp only[am];refine aL ?_;simp[V.erase,gl,hn,h3,h4]
     .simp only[am,aJ h4];refine aL ?_;simp[V.erase,gl,hn,h3,h4]
    .simp only[am,aJ h3]
     by_cases h5:f.kind=4
     .simp only[am,bh.al,eB,aK h5]
      by_cases h4:f.rel.n=f.an.length
      .simp only[am,Rl.al,bh.al,aK h4];refine cl (VL f.rel hg) ?_;simp only[am];refine aL ?_;simp[V.erase,gl,hn,h5,h4]
      .simp only[am,aJ h4];refine aL ?_;simp[V.erase,gl,hn,h5,h4]
     .simp only[am,aJ h5];refine aL ?_;simp[V.erase,gl,hn,U,h2,h3,h5]
def HK{l:List bh}(h:j<l.length):(l.map bh.enc)[((j:Nat):Int).toNat]?=aa l[j].enc:=by simp[h]
def Ze{s:bz}(hi:i<s.bC.length)(h:gl s.bC[i]=ar):fH s=false:=by
 cases hq:fH s with
 | false=>rfl
 | true =>
  simp only[fH,bg,eM] at hq;rw[hq.2 _ (dj hi)] at h;simp at h
def Zg{s:bz}(U:1<=s.bC.length)(h2:s.bC.length<=8)(h3:s.tuple=ab\/s.bC.length=1)(h:∀k (hk:k<s.bC.length),gl s.bC[k]=ab):fH s=true:=by
 simp only[fH,bg,eM,bQ,j1];refine⟨⟨⟨U,h2⟩,h3⟩,λf hf=>?_⟩;obtain⟨k,hk,rfl⟩:=uq.1 hf;exact h k hk
def au1(s:bz)(hg:TZ D)(ck:s.ok):a8 233 [.agg s.enc] D (.bool (fH s)):=by
 refine aiH.aV ?_;simp only[aU,am,a7,Nat.reduceAdd,bz.al,aN]
 by_cases U:s.bC.length<1
 .simp only[am,aK (show(s.bC.length:Int)<1 by omega)];refine aL ?_;simp[V.erase,fH];omega
 .simp only[am,aJ (show ¬(s.bC.length:Int)<1 by omega)]
  by_cases h2:8<s.bC.length
  .simp only[am,aK (show(8:Int)<s.bC.length by omega)];refine aL ?_;simp[V.erase,fH];omega
  .simp only[am,bz.al,aJ (show ¬(8:Int)<s.bC.length by omega)];have h3:(∃t,s.tuple=t/\(t=ab\/s.bC.length=1))\/(s.tuple=ar/\s.bC.length≠1):=by
    cases ht:s.tuple with
    | true=>exact .inl ⟨ab,rfl,.inl rfl⟩
    | false =>
     by_cases hl:s.bC.length=1
     .exact .inl ⟨ar,rfl,.inr hl⟩
     .exact .inr ⟨rfl,hl⟩
   rcases h3 with ⟨t,ht,h3⟩ | ⟨ht,h3⟩
   .cases t
    case' false =>
     have h3:s.bC.length=1:=by simpa using h3
     simp only[am,aN,bz.al,aN,ht,aK (show(s.bC.length:Int)=1 by omega)]
    case' true=>simp only[am,aN,bz.al,aN,ht]
    all_goals
     refine cn (s.bC.length) (λi (x:Unit)=>⟨[.any,.ptr (.aE 0) 0,.bool ar,.any,.any,.any,.any,.any,.any,.any,.any,.any,.any,.any,.any,.any,.any,.any,.any,.any,.any,.any,.any,.any,.any,.sl .no 67 (s.bC.map bh.enc),.int .i64 (s.bC.length:Nat),.int .i64 (i:Nat)]++aq 7 .any,[s.enc],D⟩) (λi x=>(∀k,k<i->∀hk:k<s.bC.length,gl s.bC[k]=ab)) λF hF JF aT=>⟨?_,?_,?_⟩
     .exact en aT (()) (by intro k h;omega)
     .rintro i x hi hJ;simp only[hF,aq,am,cc hi];refine ix (HK hi) ?_;simp only[am,bh.al];refine cl (agi s.bC[i] hg (ck.2 _ (dj hi))) ?_;cases hb:gl s.bC[i] with
      | false =>
       simp only[am,aI];refine aL ?_;simp[V.erase,Ze hi hb]
      | true =>
       simp only[am,aI,bJ hi];refine fk (()) hi ?_ ?_ ?_ ?_ ?_ ?_
       .exact ey (aT _ _) (iW hJ (λ_=>hb))
       all_goals simp[hF,aq,am,bt,bR,du,V.lo,bz.cP]
     .rintro x hJ;have e:=Zg (s:=s) (by omega) (by omega) (by first | exact .inr h3 | exact .inl ht) λk hk=>hJ k hk hk
      simp only[hF,aq,am,aI,cE,aI];refine aL ?_;simp[V.erase,e]
   .have e:fH s=false:=by simp[fH,ht,h3]
    simp only[am,ht,aJ (show ¬(s.bC.length:Int)=1 by omega)];refine aL ?_;simp[V.erase,e]
def akq:aS prog 78 (sq [rg 2 [ox 1 2 0,oz 2],sq [rg 4 [fo 1 1,nL,nB .lss 1,gB,fo 1 1,nL,nB .gtr 8,gZ,nm,oh 14 (of 0 1),oh 14 (no),oh 14 (nn),oh 14 (nm),og 18 (of 1 1),og 18 (no),og 18 (nL),og 18 (nB .neq 1),oh 14 (oy 18 22),oq (.pick (.s 14) (.c (.bool ab)) (.s 23))],cr 24 2 [oz 2]],sq [rg 3 [oi 0],bl 0 (sq [sq [rg 25 [om 3,fo 1 1,nL,nb .lss 25],cx 29 0],.block 1 (sq [rg 32 [fo 1 1,om 3,nA 67 33,nl 67,oC 142 [36],nn],cr 38 2 [oz 2]]),rg 30 [ic 3]])],rg 2 [oq (.mv (.c (.bool ab)))],.ret]) [.tmp 2] 39:=aW func78
def akx:aS prog 85 (sq [rg 4 [ox 2 2 0,ox 3 8 1,oz 2],sq [rg 6 [ol 2 2,oC 78 [6],nn],cr 8 4 [oz 2]],sq [rg 5 [oi 0],bl 0 (sq [sq [rg 9 [om 5,nB .lss 8],cx 10 0],.block 1 (sq [dg 13 [om 5,fo 1 2,nL,nb .lss 13,gA,fo 1 2,om 5,nA 67 20,nl 67,om 5,oP 8 1 3 24,no,oC 145 [23,26],nn,gZ,nm,oh 30 (om 5),oh 30 (of 1 2),oh 30 (no),oh 30 (nL),oh 30 (nb .geq 31),oh 30 (nm),og 36 (om 5),og 36 (oP 8 1 3 37),og 36 (no),og 36 (oq (.dU .neq (.s 39) (.c (.int .u64 0)))),oh 30 (oy 36 40),oq (.pick (.s 30) (.c (.bool ab)) (.s 41))],cr 42 4 [oz 2]]),rg 11 [ic 5]])],rg 4 [oq (.mv (.c (.bool ab)))],.ret]) [.tmp 4] 43:=aW func85
def ahs:aS prog 142 (sq [rg 2 [ox 1 67 0,oz 2],rg 5 [fo 1 1,nL,o1 3],sq [rg 8 [om 3,nB .lss 1,gB,om 3,nB .gtr 64,gZ,gB,fo 1 1,oC 80 [16],nB .geq 0,gZ],cr 19 2 [oz 2]],sq [rg 4 [oi 0],bl 0 (sq [sq [rg 20 [om 4,om 3,nb .lss 20],cx 22 0],.block 1 (sq [rg 25 [fo 1 1,om 4,nA 1 26,no,oC 79 [29],nn],cr 31 2 [oz 2]]),rg 23 [ic 4]])],sq [rg 32 [fo 0 1,nB .eql 1,gB,fo 0 1,nB .eql 2,gZ],cr 39 40 [of 2 1,nl 65,oC 202 [41],nB .eql 0,o1 2]],sq [rg 44 [fo 0 1,nB .eql 3],cr 46 47 [of 2 1,nF 0,om 3,nb .eql 49,gA,of 2 1,nl 65,oC 203 [54],gZ,o1 2]],rg 57 [fo 0 1,nB .eql 4,gA,of 2 1,nF 0,om 3,nb .eql 63,gZ,gA,of 2 1,nl 65,oC 124 [69],gZ,o1 2],.ret]) [.tmp 2] 72:=aW func142
def ahv:aS prog 145 (sq [rg 4 [ox 2 67 0,oz 2],sq [rg 9 [fo 0 2,nB .eql 1],ci 11 (sq [rg 13 [fo 1 2,nL,om 1,oC 204 [15,16],o1 12,oe 12 0,oe 12 1,ot 5 18,o1 6],rg 20 [om 6,o1 4],.ret])],sq [rg 21 [fo 0 2,nB .eql 2],cr 23 24 [om 1,fo 1 2,nL,oC 206 [27],oC 205 [24,28],o1 4]],sq [rg 30 [fo 0 2,nB .eql 3],cr 32 33 [of 2 2,nl 65,om 1,oC 207 [34,35],om 1,nb .eql 36,o1 4]],rg 40 [of 2 2,nl 65,om 1,oC 208 [41,42],o1 39,oe 39 0,oe 39 1,ot 7 44,o1 8],rg 46 [om 8,o1 4],.ret]) [.tmp 4] 47:=aW func145
def apz{l:List (List UInt8)}(U:1<=l.length)(h2:l.length<=64)(ht:po l=aj)(hJ:∀k,k<l.length->cV (l.getD k [])=ab):kz l=true:=by
 simp only[kz,ht,bg,eM,bQ,yS,im];refine⟨⟨U,h2⟩,λs hs=>?_⟩;obtain⟨k,hk,rfl⟩:=uq.1 hs
 have:=hJ k hk
 rwa [ny hk] at this
def apx{l:List (List UInt8)}(hi:i<l.length)(hb:cV (l.getD i [])=ar):kz l=false:=by
 cases hq:kz l with
 | false=>rfl
 | true =>
  simp only[kz,bg,eM] at hq;have hm:l.getD i []∈l:=by rw[ny hi];exact dj hi
  rw[hq.2 _ hm] at hb;simp at hb
def axI:=af @am <| af @a7 <| af @bh.al @eB
def atr(f:bh)(D:ah)(hl:f.an.length<=100000):a8 142 [.agg f.enc] D (.bool (gl f)):=by
 refine ahs.aV ?_;simp only[aU,axI,Nat.reduceAdd];have aM:kz f.an=ar->gl f=false:=λh=>by rw[gl,h];rfl
 by_cases U:f.an.length<1
 .simp only[am,aK (show(f.an.length:Int)<1 by omega)];refine aL ?_;simp[V.erase,aM (by simp[kz];omega)]
 .simp only[am,aJ (show ¬(f.an.length:Int)<1 by omega)]
  by_cases h2:64<f.an.length
  .simp only[am,aK (show(64:Int)<f.an.length by omega)];refine aL ?_;simp[V.erase,aM (by simp[kz];omega)]
  .simp only[am,bh.al,aJ (show ¬(64:Int)<f.an.length by omega)];refine cl (Pj f.an D hl) ?_;simp only[am,Jk];cases ht:po f.an with
   | some k =>
    simp only[am,Ec];refine aL ?_;simp[V.erase,aM (by simp[kz,ht])]
   | none =>
    simp only[am,Cv];refine cn (f.an.length) (λi (x:Unit)=>⟨[.any,.ptr (.aE 0) 0,.any,.int .i64 (f.an.length:Nat),.int .i64 (i:Nat)]++aq 67 .any,[f.enc],D⟩) (λi x=>(∀k,k<i->cV (f.an.getD k [])=ab)) λF hF JF aT=>⟨?_,?_,?_⟩
    .exact en aT (()) (by intro k h;omega)
    .rintro i x hi hJ;simp only[hF,aq,am,cc hi,bh.al];refine ix (B9 hi) ?_;simp only[am];refine cl (JG _ D) ?_;simp only[am];cases hb:cV (f.an.getD i []) with
     | false =>
      simp only[am,aI];refine aL ?_;simp[V.erase,aM (apx hi hb)]
     | true =>
      simp only[am,aI,bJ hi];exact nx aT (()) hi (iW hJ hb)
    .rintro x hJ;have hn:kz f.an=true:=apz (by omega) (by omega) ht hJ;simp only[hF,aq,am,aI,cE,aI,bh.al]
     by_cases U:f.kind=1
     .simp only[am,Rl.al,bh.al,aK U];refine cl (lR f.rel D) ?_;simp only[am];refine aL ?_;simp[V.erase,gl,hn,U]
     .simp only[am,bh.al,aJ U]
      by_cases h2:f.kind=2
      .simp only[am,Rl.al,bh.al,aK h2];refine cl (lR f.rel D) ?_;simp only[am];refine aL ?_;simp[V.erase,gl,hn,h2]
      .simp only[am,bh.al,aJ h2]
       by_cases h3:f.kind=3
       .simp only[am,bh.al,aK h3]
        by_cases h4:f.rel.n=f.an.length
        .simp only[am,Rl.al,bh.al,aK h4];refine cl (XT f.rel D) ?_;simp only[am];refine aL ?_;simp[V.erase,gl,hn,h3,h4]
        .simp only[am,aJ h4];refine aL ?_;simp[V.erase,gl,hn,h3,h4]
       .simp only[am,bh.al,aJ h3]
        by_cases h5:f.kind=4
        .simp only[am,bh.al,aK h5]
         by_cases h4:f.rel.n=f.an.length
         .simp only[am,Rl.al,bh.al,aK h4];refine cl (aty f.rel D) ?_;simp only[am];refine aL ?_;simp[V.erase,gl,hn,h5,h4]
         .simp only[am,aJ h4];refine aL ?_;simp[V.erase,gl,hn,h5,h4]
        .simp only[am,aJ h5];refine aL ?_;simp[V.erase,gl,hn,U,h2,h3,h5]
def Yn(s:bz)(D:ah)(ck:s.ok):a8 78 [.agg s.enc] D (.bool (fH s)):=by
 refine akq.aV ?_;simp only[aU,am,a7,Nat.reduceAdd,bz.al,aN]
 by_cases U:s.bC.length<1
 .simp only[am,aK (show(s.bC.length:Int)<1 by omega)];refine aL ?_;simp[V.erase,fH];omega
 .simp only[am,aN,bz.al,aN,aJ (show ¬(s.bC.length:Int)<1 by omega)]
  by_cases h2:8<s.bC.length
  .simp only[am,aK (show(8:Int)<s.bC.length by omega)];refine aL ?_;simp[V.erase,fH];omega
  .simp only[am,bz.al,aJ (show ¬(8:Int)<s.bC.length by omega)];have h3:(∃t,s.tuple=t/\(t=ab\/s.bC.length=1))\/(s.tuple=ar/\s.bC.length≠1):=by
    cases ht:s.tuple with
    | true=>exact .inl ⟨ab,rfl,.inl rfl⟩
    | false =>
     by_cases hl:s.bC.length=1
     .exact .inl ⟨ar,rfl,.inr hl⟩
     .exact .inr ⟨rfl,hl⟩
   rcases h3 with ⟨t,ht,h3⟩ | ⟨ht,h3⟩
   .cases t
    case' false =>
     have h3:s.bC.length=1:=by simpa using h3
     simp only[am,aN,bz.al,aN,ht,aK (show(s.bC.length:Int)=1 by omega)]
    case' true=>simp only[am,ht]
    all_goals
     refine cn (s.bC.length) (λi (x:Unit)=>⟨[.any,.ptr (.aE 0) 0,.bool ar,.int .i64 (i:Nat)]++aq 35 .any,[s.enc],D⟩) (λi x=>(∀k,k<i->∀hk:k<s.bC.length,gl s.bC[k]=ab)) λF hF JF aT=>⟨?_,?_,?_⟩
     .exact en aT (()) (by intro k h;omega)
     .rintro i x hi hJ;simp only[hF,aq,am,cc hi,bz.al,aN];refine ix (HK hi) ?_;simp only[am,bh.al];refine cl (atr s.bC[i] D (ck.2 _ (dj hi))) ?_;cases hb:gl s.bC[i] with
      | false =>
       simp only[am,aI];refine aL ?_;simp[V.erase,Ze hi hb]
      | true =>
       simp only[am,aI,bJ hi];exact nx aT (()) hi (iW hJ (λ_=>hb))
     .rintro x hJ;have e:=Zg (s:=s) (by omega) (by omega) (by simp[ht,h3]) λk hk=>hJ k hk hk
      simp only[hF,aq,am,aI,cE,aI,bz.al,aN];refine aL ?_;simp[V.erase,e]
   .have e:fH s=false:=by simp[fH,ht,h3]
    simp only[am,aN,bz.al,aN,ht,aJ (show ¬(s.bC.length:Int)=1 by omega)];refine aL ?_;simp[V.erase,e]
def aui(f:bh)(w:br)(D:ah)(hl:f.an.length<=100000):a8 145 [.agg f.enc,.int .u64 (w.toNat:Nat)] D (.bool (s7 f w)):=by
 refine ahv.aV ?_;simp only[aU,am,a7,Nat.reduceAdd,bh.al]
 by_cases U:f.kind=1
 .simp only[am,bh.al,eB,aK U];refine cl (aol f.an.length w D) ?_;simp only[am,jP];refine aL ?_;simp[V.erase,s7,U]
 .simp only[am,bh.al,aJ U]
  by_cases h2:f.kind=2
  .simp only[am,bh.al,eB,aK h2];refine cl (X3 f.an.length D) ?_;simp only[am];refine cl (ati w (fY (f.an.length:Nat)) D) ?_;simp only[am];refine aL ?_;simp[V.erase,s7,h2]
  .simp only[am,bh.al,aJ h2]
   by_cases h3:f.kind=3
   .simp only[am,Rl.al,bh.al,aK h3];refine cl (asV f.rel w D) ?_;simp only[am,w_];refine aL ?_;simp[V.erase,s7,h3]
   .simp only[am,Rl.al,bh.al,aJ h3];refine cl (atV f.rel w D) ?_;simp only[am,jP];refine aL ?_;simp[V.erase,s7,U,h2,h3]
def axJ:=af @am <| af @a7 <| af @sa <| af @bz.al @bn.al
def axK:=af @am <| af @bh.al <| af @gi @se
def axL:=af @am <| af @cX <| af @aI @bz.al
def axM:=af @am <| af @w_ <| af @gi @se
def To(s:bz)(e:bn)(D:ah)(ck:s.ok):a8 85 [.agg s.enc,.agg e.enc] D (.bool (sB s e)):=by
 refine akx.aV ?_;simp only[aU,axJ,Nat.reduceAdd];refine cl (Yn s D ck) ?_;cases hr:fH s with
 | false =>
  simp only[am];refine aL ?_;simp[V.erase,sB,hr]
 | true =>
  simp only[am];have aM:∀i,i<8->xC s e i=ar->sB s e=false:=λi hi h=>by
   rw[sB,hr,iM,AI];exact⟨i,by simpa using hi,by rw[h];simp⟩
  refine cn (8) (λi (x:Unit)=>⟨[.any,.any,.ptr (.aE 0) 0,.ptr (.aE 1) 0,.any,.int .i64 (i:Nat)]++aq 37 .any,[s.enc,e.enc],D⟩) (λi x=>(∀k,k<i->xC s e k=ab)) λF hF JF aT=>⟨?_,?_,?_⟩
  .exact en aT (()) (by intro k h;omega)
  .rintro i x hi hJ;simp only[hF,aq,am,bz.al,aN,show decide ((i:Int)<8)=ab from cc hi]
   by_cases hl:i<s.bC.length
   .have hf:xC s e i=s7 s.bC[i] (e.get i):=by simp only[xC];rw[cK hl]
    simp only[am,bz.al,cc hl];refine ix (HK hl) ?_;simp only[am,cX,bh.al];refine jC ?_;simp only[axK,bn.ud hi];refine bK.intro (aui s.bC[i] (e.get i) D (ck.2 _ (dj hl))) ?_;cases hb:s7 s.bC[i] (e.get i) with
    | false =>
     simp only[am,cX,aI];refine aL ?_;simp[V.erase,aM i hi (by rw[hf,hb])]
    | true =>
     simp only[axL,aN,aJ (show ¬(s.bC.length:Int)<=(i:Nat) by omega),bJ hi];exact nx aT (()) hi (iW hJ (by rw[hf,hb]))
   .have hf:xC s e i=decide (e.get i=0#64):=by simp only[xC];rw[xe (by omega)]
    simp only[am,cX,aN,bz.al,aN,aJ (show ¬(i:Int)<s.bC.length by omega),aK (show(s.bC.length:Int)<=(i:Nat) by omega)];refine jC ?_;simp only[axM,bn.ud hi]
    by_cases hb:e.get i=0#64
    .simp only[am,aI,aK hb,bJ hi];exact nx aT (()) hi (iW hJ (by rw[hf,aK hb]))
    .simp only[am,aI,aJ hb];refine aL ?_;simp[V.erase,aM i hi (by rw[hf,aJ hb])]
  .rintro x hJ;have e:sB s e=true:=by rw[sB,hr,iM,eM];intro k hk;exact hJ k (by simpa using hk)
   simp only[hF,aq,am,aI,aI,show decide (((8:Nat):Int)<8)=ar from rfl];refine aL ?_;simp[V.erase,e]
def Yu{a n:Nat}(h:((s.drop a).take n).all fA=ab)(hn:a+n<=s.length)(he:∀hl:a+n<s.length,fA s[a+n]=ar):(fP (s.drop a)).length=n:=by
 have key:∀(r:List UInt8) (n:Nat),(r.take n).all fA=ab->n<=r.length->(∀hl:n<r.length,fA r[n]=ar)->(fP r).length=n:=by
  intro r;induction r with
  | nil=>intro n _ h2 _;simp at h2;subst h2;rfl
  | cons c r ih =>
   intro n U h2 h3;cases n with
   | zero=>have:=h3 (by simp);simp at this;simp[fP,this]
   | succ n =>
    simp only[xf,vB,bg] at U
    have:=ih n U.2 (by simpa using h2) (λhl=>h3 (Nat.succ_lt_succ hl))
    simp only[fP] at this;simp[fP,U.1,this]
 refine key _ _ h (by simp;omega) λhl=>?_
 have fS : a+n<s.length:=by simp at hl;omega
 have:=he fS
 simpa using this
def drop_cons{a:Nat}(h:a<s.length):s.drop a=s[a]::s.drop (a+1):=nr h
def avK{l:List Tok}(h:j<l.length):(l.map Tok.enc)[((j:Nat):Int).toNat]?=aa (jW l j).enc:=by simp[jW,h]
end Go.Proofs.Tryz
