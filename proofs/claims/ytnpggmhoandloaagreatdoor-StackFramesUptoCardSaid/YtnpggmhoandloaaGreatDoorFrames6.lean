/-
  Part 6 of the proof of StackFramesUptoCardSaid: a logic over the model, the forms of the functions that the law reaches, and what they compute.
-/
import Derived.Test.YtnpggmhoandloaaGreatDoorProg
import Derived.Test.YtnpggmhoandloaaGreatDoorFrames5
set_option linter.unusedVariables false
set_option linter.unusedSimpArgs false
set_option linter.defProp false
set_option linter.unusedSectionVars false
set_option maxRecDepth 4000
set_option maxHeartbeats 4000000
open Option renaming some->aa,none->ag
open Bool renaming true->ab,false->ak
open List renaming replicate->ar,range->bX,getD->ij,zipWith->l8
open Eq renaming mpr->eU
open Ne renaming symm->fF
namespace Go.Proofs.Tryz
open Go.Am
def ahF:aU prog 247 (sq [rg 4 [oz 4],sq [rg 5 [om 1,oC 285 [5],nn],cr 7 8 [om 0,o1 4]],rg 9 [om 0,om 1,oq (.qt .u64 (.s 10)),oq (.eW .shl (.c (.int .u64 1)) (.s 11)),nb .or 9,o1 4],.ret]) [.tmp 4] 14:=aV func247
def ahG:aU prog 248 (sq [rg 4 [oz 2],rg 5 [om 1,oC 285 [5],gA,om 0,om 1,oq (.qt .u64 (.s 9)),nb .shr 8,oq (.eW .and (.s 11) (.c (.int .u64 1))),oq (.eW .eql (.s 12) (.c (.int .u64 1))),gZ,o1 4],.ret]) [.tmp 4] 15:=aV func248
def ahZ:aU prog 269 (sq [rg 2 [oz 4],rg 3 [oz 4],sq [rg 6 [om 0,nL,oi 0],lp 7 0 (sq [rg 10 [oA 1 6 8,no,o1 5],rg 12 [om 3,om 5,oC 247 [12,13],o1 3]]) 15],rg 16 [om 3,o1 2],.ret]) [.tmp 2] 17:=aV func269
def aic:aU prog 285 (sq [rg 2 [oz 2],rg 3 [om 0,nB .geq 0,gA,om 0,nB .lss 64,gZ,o1 2],.ret]) [.tmp 2] 9:=aV func285
def aik:aU prog 293 (sq [rg 2 [oz 6],rg 0 [od (aa 3) (.qm [(.sl .ba 1 [])])],rg 4 [om 0,oq (.ko (.func 306) [] [(.s 3)]),oC 305 [4,5]],rg 7 [oo 3,o1 2],.ret]) [.tmp 2] 8:=aV func293 ⟨[3],[]⟩
def ail:aU prog 294 (sq [rg 4 [oz 2],rg 5 [om 0,om 1,nb .andNot 5,oq (.eW .eql (.s 7) (.c (.int .u64 0))),o1 4],.ret]) [.tmp 4] 9:=aV func294
def aiv:aU prog 303 (sq [rg 2 [oz 4],sq [rg 3 [om 0,nB .leq 0],cr 4 2 [oz 4]],sq [rg 5 [om 0,nB .geq 64],cr 6 2 [oq (.mv (.c (.int .u64 18446744073709551615)))]],rg 7 [om 0,oq (.qt .u64 (.s 7)),oq (.eW .shl (.c (.int .u64 1)) (.s 8)),oq (.eW .sub (.s 9) (.c (.int .u64 1))),o1 2],.ret]) [.tmp 2] 11:=aV func303
def aix:aU prog 305 (bl 0 (sq [sq [rg 4 [om 0,oq (.eW .neq (.s 4) (.c (.int .u64 0)))],cx 5 0],.block 1 (sq [sq [rg 6 [om 1,om 0,oC 313 [7],oq (.iX (.s 6) [(.s 8)]),nn],ci 10 .ret],rg 11 [om 0,om 0,oq (.eW .sub (.s 12) (.c (.int .u64 1))),nb .and 11,o1 0]])])) [] 15:=aV func305
def aiy:aU prog 306 (sq [rg 3 [oz 2],rg 4 [oo 1,om 0,n1 1,na 1 4,o2 1 1],rg 3 [oq (.mv (.c (.bool ab)))],.ret]) [.tmp 3] 8:=aV func306
def aiF:aU prog 313 (sq [rg 2 [oi 0],sq [rg 3 [om 0,oq (.eW .eql (.s 3) (.c (.int .u64 0)))],cr 4 2 [oi 64]],rg 5 [om 0,om 0,oq (.eW .sub (.c (.int .u64 0)) (.s 6)),nb .and 5,oq (.eW .mul (.s 8) (.c (.int .u64 285870213051353865))),oq (.eW .shr (.s 9) (.c (.int .u64 58))),oq (.sr 64 1 (.c (.ptr (.kB 1) 0)) (.s 10)),no,oq (.qt .i64 (.s 12)),o1 2],.ret]) [.tmp 2] 14:=aV func313
def fR(l:List Int):List (List V):=l.map λn=>[.int .i64 n]
def CT(l:List Int):(fR l).length=l.length:=by simp[fR]
variable{j:Nat}
def EZ{l:List Int}(h:j<l.length):(fR l)[((j:Nat):Int).toNat]?=aa [.int .i64 l[j]]:=by simp[fR,h]
abbrev a7(f:FuncId)(es:List V)(D:af)(x:V):Prop:=cz prog f es D λv σ' => v=x/\σ' = D
abbrev dS(f:FuncId)(es:List V)(D:af)(x:V)(fc:af):Prop:=cz prog f es D λv σ' => v=x/\σ' = fc
def VC(n:Int)(D:af):a7 285 [.int .i64 n] D (.bool (decide (0<=n)&&decide (n<64))):=by
 refine aic.aT ?_;simp only[aS,am,aZ,Nat.reduceAdd]
 by_cases h:0<=n
 .simp only[am,aJ h];refine aH ?_;simp[V.erase]
 .simp only[am,aI h];refine aH ?_;simp[V.erase]
def PJ:=ah @am <| ah @aZ <| ah @u0 @Jw
def Fs(s:bD)(n:Int)(D:af):a7 247 [.int .u64 (s.toNat:Nat),.int .i64 n] D (.int .u64 ((kW s n).toNat:Nat)):=by
 refine ahF.aT ?_;simp only[aS,PJ,Nat.reduceAdd];refine cl (VC n _) ?_;simp only[am]
 by_cases h:0<=n/\n<64
 .obtain⟨m,rfl⟩:∃m:Nat,n=m:=⟨n.toNat,by omega⟩;simp only[am,Dw,Pq,aJ h.1,aJ h.2,wrap_u64 h.1 (by omega:(m:Int)<18446744073709551616)];refine aH ?_;simp[V.erase,kW,h,ma]
 .have:(decide (0<=n)&&decide (n<64))=false:=by simp only[DG,Ao];omega
  simp only[am,this];refine aH ?_;simp[V.erase,kW,h]
def Fq(l:List Int)(D:af)(hl:l.length<=100000):a7 269 [.sl .no 1 (fR l)] D (.int .u64 ((jf l).toNat:Nat)):=by
 refine ahZ.aT ?_;simp only[aS,am,aZ,Nat.reduceAdd,u0];refine dK (l.length) (λi (x:bD)=>⟨[.sl .no 1 (fR l),.any,.int .u64 ((0#64:bD).toNat:Nat),.int .u64 (x.toNat:Nat),.any,.any,.sl .no 1 (fR l),.int .i64 (l.length:Nat),.int .i64 (i:Nat)]++ar 8 .any,[],D⟩) (λi x=>(x=jf (l.take i))) λF hF JF bn=>⟨?_,?_,?_⟩
 .refine en bn (0#64) (rfl) ?_ ?_ ?_
  all_goals simp[hF,ar,am,bT,CT]
 .rintro i x hi rfl;simp only[hF,ar,am,dD hi];refine ix (EZ hi) ?_;simp only[am];refine cl (Fs _ _ _) ?_;simp only[am,a_,cG hi];exact nx bn (kW (jf (l.take i)) l[i]) hi (by rw[jl hi];simp only[jf,zT,zU,List.foldl_nil])
 .rintro x rfl;simp only[hF,ar,am,a_,dY,a_,fm];exact rt
def ate(s:bD)(m:Nat):decide (s>>>m&&&1#64=1#64)=s.getLsbD m:=by
 have:(s>>>m&&&1#64=1#64)↔s.getLsbD m=true:=by
  constructor
  .intro h
   have:=iK (λx:bD=>x.getLsbD 0) h
   simpa using this
  .intro h;apply sW;intro k hk;rw[va,Zr,BitVec.getLsbD_one]
   by_cases h0:k=0
   .subst h0;simp[h]
   .simp[h0]
 by_cases hc:s.getLsbD m=ab
 .rw[hc,aJ (this.2 hc)]
 .rw[aI (λh=>hc (this.1 h))];simpa using hc
def z1_:=ah @am <| ah @x9 <| ah @Jx @Dv
def anW(s:bD)(n:Int)(D:af):a7 248 [.int .u64 (s.toNat:Nat),.int .i64 n] D (.bool (hasB s n)):=by
 refine ahG.aT ?_;simp only[aS,am,aZ,Nat.reduceAdd,Jw];refine cl (VC n _) ?_;simp only[am]
 by_cases h:0<=n/\n<64
 .obtain⟨m,rfl⟩:∃m:Nat,n=m:=⟨n.toNat,by omega⟩;simp only[z1_,aJ h.1,aJ h.2,wrap_u64 h.1 (by omega:(m:Int)<18446744073709551616),ate];refine aH ?_;simp[V.erase,hasB]
 .have:(decide (0<=n)&&decide (n<64))=false:=by simp only[DG,Ao];omega
  simp only[am,this];refine aH ?_;simp[V.erase,hasB];intro h0;exact DF _ _ (by omega)
def Zm:=ah @am <| ah @aZ <| ah @u0 <| ah @YV @Dv
def anX(a b:bD)(D:af):a7 294 [.int .u64 (a.toNat:Nat),.int .u64 (b.toNat:Nat)] D (.bool (Bu a b)):=by
 refine ail.aT ?_;simp only[aS,Zm,Nat.reduceAdd];refine aH ?_;simp[V.erase,Bu]
def z3_:=ah @am <| ah @aZ <| ah @u0 <| ah @Jw @au4
def Fp(n:Int)(D:af):a7 303 [.int .i64 n] D (.int .u64 ((j4 n).toNat:Nat)):=by
 refine aiv.aT ?_;simp only[aS,z3_,Nat.reduceAdd]
 by_cases h:n<=0
 .simp only[am,aJ h];refine aH ?_;simp[V.erase,j4,h]
 .simp only[am,aI h]
  by_cases h1:64<=n
  .simp only[am,aJ h1];refine aH ?_;simp[V.erase,j4,h,h1]
  .obtain⟨m,rfl⟩:∃m:Nat,n=m:=⟨n.toNat,by omega⟩;simp only[am,Pq,Pr,aI h1,wrap_u64 (by omega:0<=(m:Int)) (by omega:(m:Int)<18446744073709551616)];have e:j4 (m:Int)=ma m - 1#64:=by simp only[j4,h,h1,bZ,jW]
   refine aH ?_;simp[V.erase,e,ma]
abbrev TZ(D:af):Prop:=D.b9 1=aa xZ
variable{D:af}
def aur(s:bD)(h:s≠0#64)(hg:TZ D):a7 313 [.int .u64 (s.toNat:Nat)] D (.int .i64 (pY s:Nat)):=by
 refine aiF.aT ?_;simp only[aS,Zm,Nat.reduceAdd];obtain⟨h1,h2⟩:=auq (pY s) (Fk h).1;simp only[am,x9,Pr,aI h,show V.int .u64 285870213051353865 = .int .u64 ((285870213051353865#64:bD).toNat:Nat) from rfl,au2];rw[BitVec.zero_sub,aoe h];generalize hj:((ma (pY s)*285870213051353865#64)>>>58).toNat=j at h1 h2;have e58:∀a:bD,iP .u64 (a.toNat:Nat) 58 .shr=aa (.int .u64 ((a>>>58).toNat:Nat)):=λa=>Jx (m:=58)
 simp only[am,cV,e58,hj];refine km ?_;have hd:bI ak 1 (xZ.drop j)=aa (.int .u8 (pY s:Nat)):=by
  obtain⟨h3,h4⟩:=fv.1 h2;have h5:j<xZ.length:=by simpa [xZ] using h3
  rw[mJ h5];simp[bI,xZ,h4]
 rw[show(((j:Nat):Int).toNat)*1=j by omega];simp only[am,show D.b9 1=aa xZ from hg,hd,wrap_i64 (x:=((pY s:Nat):Int)) (by omega) (by have:=(Fk h).1;omega)];exact rt
def z4_:=ah @am <| ah @a_ <| ah @x9 @Pr
def ad2(f:FuncId)(cap:List V)(hn:bO cap=ab)(J:List Nat->af->Prop)(s:bD)(hg:∀l D,J l D->TZ D)
 (h:∀pre k Yz D,gk s=pre++k::Yz->J pre D->cz prog f (.int .i64 (k:Nat)::cap) D λv σ' => v = .bool ab/\J (pre++[k]) σ')
 {D:af} (h0:J [] D):cz prog 305 [.int .u64 (s.toNat:Nat),.fn (.func f) [] cap] D λv σ' => v = .bt []/\J (gk s) σ' := by
 refine aix.aT ?_;simp only[aS,PJ,Nat.reduceAdd];refine dK ((gk s).length) (λi (x:bD × af)=>⟨[.int .u64 (x.1.toNat:Nat),.fn (.func f) [] cap]++ar 13 .any,[],x.2⟩) (λi x=>(gk x.1=(gk s).drop i/\J ((gk s).take i) x.2)) λF hF JF bn=>⟨?_,?_,?_⟩
 .exact en bn ((s,D)) (⟨rfl,h0⟩)
 .rintro i ⟨x,D⟩ hi ⟨h1,h2⟩;simp only at h1 h2;have hx:x≠0#64:=am9 (by rw[h1];simp;omega);rw[mJ hi] at h1;have hl:=Vp hx;rw[h1,ig] at hl;obtain⟨CG,lh⟩:=hl;simp only[hF,ar,am,Dv,aI hx];refine cl (aur x hx (hg _ _ h2)) ?_;simp only[am];simp only[am,hn];rw[<-CG];refine(h _ _ ((gk s).drop (i+1)) D (by rw[<-mJ hi,rQ]) h2).mono ?_;rintro v σ' ⟨rfl,h3⟩;simp only[z4_];exact nx bn ((x&&&(x - 1#64),σ')) hi (⟨lh.symm,by rw[jl hi];exact h3⟩)
 .rintro⟨x,D⟩ ⟨h1,h2⟩;simp only[BS,fm] at h1 h2;have hx:=am' h1;subst hx;simp only[hF,ar,am,a_,bL,a_];exact aL rfl (af.bg _) ⟨rfl,h2⟩
def Bx(dz D:af)(b:Nat)(tk:Tk)(rows:List (List V)):Prop:=D.box b=aa [.sl tk 1 rows]/\Gr dz D tk rows.length/\dz.box b=ag
def am7(n:Int){dz:af}{b:Nat}{tk:Tk}{l:List Int}(h:Bx dz D b tk (fR l))(hl:l.length<=100000):
 cz prog 306 [.int .i64 n,.ptr (.out b) 0] D λv σ' => v = .bool ab/\∃ku,Bx dz σ' b ku (fR (l++[n])):=by
 refine aiy.aT ?_;simp only[aS,am,aZ,Nat.reduceAdd];obtain⟨h1,h2,h3⟩:=h;simp only[am,h1];refine Gr.app h2 (by simp[fR,aK];omega) λku σ' hG hB _=>?_
 simp only[am,show σ'.box b=aa [.sl tk 1 (fR l)] by rw[hB,h1]];refine aL rfl (af.bg _) ⟨rfl,ku,?_,?_,h3⟩
 .simp[af.set,fR]
 .refine⟨⟨λc cs hc=>?_,hG.sub.2⟩,?_⟩
  .rw[af.eQ]
   .exact hG.sub.1 c cs hc
   .rintro rfl;rw[h3] at hc;simp at hc
  .simpa [fR,af.set] using hG.tk
def NJ(s:bD)(hg:TZ D):a7 293 [.int .u64 (s.toNat:Nat)] D (.sl .no 1 (fR ((gk s).map Int.ofNat))):=by
 refine aik.aT ?_;simp only[aS,am,aZ,Nat.reduceAdd];refine kI λb hb=>?_
 simp only[am];have hl:=Iz s;refine(ad2 _ _ rfl (λl σ' => ∃tk,Bx D σ' b tk (fR (l.map Int.ofNat))) s ?_ ?_ ⟨.ba,?_⟩).mono ?_
 .rintro l σ' ⟨tk,h1,h2,h3⟩;exact h2.sub.2.2 _ _ hg
 .rintro pre k Yz σ' hs ⟨tk,h⟩
  have:pre.length<=64:=by rw[hs] at hl;simp at hl;omega
  have:=am7 k h (by simp;omega)
  simpa using this
 .exact⟨jh,⟨iS hb,.inl rfl⟩,hb⟩
 .rintro v σ' ⟨rfl,tk,h1,h2,h3⟩;simp only[am,h1];exact aL rfl h2.sub ⟨rfl,rfl⟩
def ag3:aU prog 199 (sq [rg 0 [ox 1 65 0,oR 2 pg],rg 7 [ol 65 1,oC 246 [7],oR 3 pg,o2 65 3],sq [rg 9 [fo 0 3,oi 0],lp 10 0 (sq [rg 13 [om 11,o1 4],rg 14 [om 4,om 4,of 1 3,oP 64 1 16 15,no,om 4,oC 247 [18,19],of 1 3,oP 64 1 21 14,os 1 22 20]]) 23],sq [rg 24 [fo 0 3,oi 0],lp 25 2 (sq [rg 28 [om 26,o1 5],rg 29 [fo 0 3,oi 0],lp 30 4 (sq [rg 33 [om 31,o1 6],rg 34 [om 6,of 1 3,oP 64 1 35 34,no,om 5,oC 248 [37,38]],ci 39 (dg 40 [om 6,of 1 3,oP 64 1 41 40,no,om 5,of 1 3,oP 64 1 45 44,no,nb .or 43,of 1 3,oP 64 1 49 40,os 1 50 48])]) 51]) 52],rg 53 [ol 65 3,o2 65 2],.ret]) [.cell 2 ab 65] 54:=aV func199
def ahi:aU prog 220 (sq [rg 2 [ox 1 65 0,oz 2],sq [rg 4 [ol 65 1,oC 266 [4],nn],cr 6 2 [oz 2]],sq [rg 7 [ol 65 1,oC 267 [7],oi 0],lp 8 0 (sq [rg 11 [om 9,o1 3],rg 12 [ol 65 1,om 3,oC 268 [12,13],om 3,n1 1,oC 269 [16],nb .neq 14],cr 18 2 [oz 2]]) 19],rg 2 [oq (.mv (.c (.bool ab)))],.ret]) [.tmp 2] 20:=aV func220
def ahE:aU prog 246 (sq [rg 0 [ox 1 65 0,oR 2 pg],rg 5 [ol 65 1,oC 267 [5],oY pg [(0,1,.s 6)],oR 3 pg,o2 65 3],sq [rg 8 [fo 0 3,oi 0],lp 9 0 (sq [rg 12 [om 10,o1 4],rg 13 [om 4,ol 65 1,om 4,oC 284 [14,15],of 1 3,oP 64 1 17 13,os 1 18 16]]) 19],rg 20 [ol 65 3,o2 65 2],.ret]) [.cell 2 ab 65] 21:=aV func246
def ahH:aU prog 249 (sq [rg 0 [oR 2 pg],rg 3 [om 0,oY pg [(0,1,.s 3)],oC 267 [4],oY pg [(0,1,.s 5)],o2 65 2],.ret]) [.cell 2 ab 65] 7:=aV func249
def ahW:aU prog 266 (sq [rg 2 [ox 1 65 0,oz 2],dg 3 [ol 65 1,oC 246 [3],mM [0],ol 65 1,oC 199 [5],oq (.kA ak I4 (.s 4) (.s 6)),o1 2],.ret]) [.tmp 2] 8:=aV func266
def ahX:aU prog 267 (sq [rg 2 [ox 1 65 0,oi 0],rg 3 [fo 0 1,oq (.own .min [(.s 4),(.c (.int .i64 64))]),oq (.own .max [(.c (.int .i64 0)),(.s 5)]),o1 2],.ret]) [.tmp 2] 7:=aV func267
def ahY:aU prog 268 (sq [rg 4 [ox 2 65 0,oz 4],rg 6 [om 1,n1 1,oC 269 [7],o1 5],dg 9 [ol 65 2,om 5,oC 291 [9,10],mM [0],ol 65 2,om 5,oC 292 [12,13],nb .and 11,o1 4],.ret]) [.tmp 4] 16:=aV func268
def aib:aU prog 284 (sq [rg 4 [ox 2 65 0,oz 4],dg 5 [om 1,of 1 2,oP 64 1 6 5,mM [1,2],no,ol 65 2,oC 267 [9],oC 303 [10],nb .and 8,o1 4],.ret]) [.tmp 4] 13:=aV func284
def aii:aU prog 291 (sq [rg 4 [ox 2 65 0,oz 4],rg 5 [oz 4],sq [rg 8 [om 1,ol 65 2,oC 267 [9],oC 303 [10],nb .and 8,oC 293 [12],nL,oi 0],lp 14 0 (sq [rg 17 [oA 1 13 15,no,o1 7],rg 19 [om 5,ol 65 2,om 7,oC 284 [20,21],nb .or 19,o1 5]]) 24],rg 25 [om 5,o1 4],.ret]) [.tmp 4] 26:=aV func291
def aij:aU prog 292 (sq [rg 4 [ox 2 65 0,oz 4],rg 5 [oz 4],sq [rg 7 [ol 65 2,oC 267 [7],oi 0],lp 8 0 (sq [rg 11 [om 9,o1 6],rg 12 [ol 65 2,om 6,oC 284 [12,13],om 1,nb .and 14,oq (.eW .neq (.s 16) (.c (.int .u64 0)))],ci 17 (rg 18 [om 5,om 6,oC 247 [18,19],o1 5])]) 21],rg 22 [om 5,o1 4],.ret]) [.tmp 4] 23:=aV func292
def aip:aU prog 298 (sq [rg 4 [ox 2 65 0,ox 3 65 1,oz 2],dg 5 [ol 65 2,oC 246 [5],mM [0],ol 65 3,oC 246 [7],oq (.kA ak I4 (.s 6) (.s 8)),o1 4],.ret]) [.tmp 4] 10:=aV func298
def z5_:=ah @am <| ah @jm <| ah @aZ @Rl.au
def Bj(r:Rl)(D:af):a7 267 [.agg r.enc] D (.int .i64 (bG r:Nat)):=by
 refine ahX.aT ?_;simp only[aS,z5_,Nat.reduceAdd];refine an1 ?_;simp only[am,jm];refine anY ?_;simp only[am];refine aH ?_;simp[V.erase];simp only[bG];split<;>split<;>omega
def u9:=ah @am <| ah @cV <| ah @aZ <| ah @u0 @Rl.au
def z7_:=ah @am <| ah @Rl.au <| ah @jW @tV
def OJ(r:Rl)(i:Nat)(h:i<64)(D:af):a7 284 [.agg r.enc,.int .i64 (i:Nat)] D (.int .u64 ((h_ r i).toNat:Nat)):=by
 refine aib.aT ?_;simp only[aS,u9,Nat.reduceAdd];refine km ?_;simp only[z7_,Rl.x6 h];refine bE.intro (Bj r D) ?_;simp only[am];refine bE.intro (Fp _ D) ?_;simp only[am,x9];refine⟨⟨Rl.x6 h,Rl.x6 h⟩,?_⟩;refine aH ?_;simp[V.erase,h_]
def DA:=ah @am <| ah @a_ <| ah @jW @tV
def IX(r:Rl)(D:af):a7 246 [.agg r.enc] D (.agg (kQ r).enc):=by
 refine ahE.aT ?_;simp only[aS,am,aZ,Nat.reduceAdd,Rl.au];refine cl (Bj r D) ?_;simp only[am,Nat.reduceAdd,Rl.au];have hp:=@mX r;refine dK (bG r) (λi (x:Unit)=>⟨[.agg r.enc,.ptr (.aD 0) 0,.ptr (.aD 1) 0,.ptr (.aD 2) 0,.any,.any,.any,.any,.any,.int .i64 (bG r:Nat),.int .i64 (i:Nat)]++ar 10 .any,[r.enc,Rl.zero.enc,(Rl.of (bG r:Nat) λj=>if j<i then h_ r j else 0#64).enc],D⟩) (λi x=>(True)) λF hF JF bn=>⟨?_,?_,?_⟩
 .refine en bn (()) (trivial) ?_ ?_ ?_
  all_goals simp[hF,ar,am,bT,Rl.PS,Rl.Bh]
 .rintro i x hi -;simp only[hF,ar,am,dD hi,Rl.au];refine cl (OJ r i (by omega) D) ?_;simp only[am,cV];refine km ?_;simp only[DA,Rl.BE (show i<64 by omega),Rl.BF (show i<64 by omega),cG hi];refine nx bn (()) hi (trivial) ?_ ?_ ?_
  all_goals simp[hF,ar,am,bT,Rl.fill]
 .rintro x -;simp only[hF,ar,am,a_,dY,a_,Rl.au];refine aH ?_;simp[V.erase,kQ,Rl.dO]
def VQ(n:Int)(D:af):a7 249 [.int .i64 n] D (.agg (Rl.of (min n.toNat 64:Nat) λ_=>0#64).enc):=by
 refine ahH.aT ?_;simp only[aS,am,aZ,Nat.reduceAdd,Rl.au];refine cl (Bj _ D) ?_;simp only[am,Rl.au];refine aH ?_;simp only[V.erase,Rl.dO,Rl.PS];rfl
def XN(r s:Rl)(D:af):a7 298 [.agg r.enc,.agg s.enc] D (.bool (decide (kQ r=kQ s))):=by
 refine aip.aT ?_;simp only[aS,am,aZ,Nat.reduceAdd,Rl.au];refine bE.intro (IX r D) ?_;simp only[am,Rl.au];refine bE.intro (IX s D) ?_;simp only[am,Rl.au];exact rt
def Js(r:Rl)(w:bD)(hg:TZ D):a7 291 [.agg r.enc,.int .u64 (w.toNat:Nat)] D (.int .u64 ((wD r w).toNat:Nat)):=by
 refine aii.aT ?_;simp only[aS,u9,Nat.reduceAdd];refine cl (Bj r D) ?_;simp only[am];refine cl (Fp _ D) ?_;simp only[am,x9];refine cl (NJ _ hg) ?_;simp only[am,aR,CT];generalize hl:gk (w&&&j4 ↑(bG r))=l;have aC:∀k∈l,k<64:=λk hk=>am8 (hl▸hk)
 have hlen:l.length<=64:=hl▸Iz _;refine dK (l.length) (λi (x:Unit)=>⟨[.agg r.enc,.any,.ptr (.aD 0) 0,.any,.any,.int .u64 (((l.take i).foldl (λo i=>o|||h_ r i) 0#64).toNat:Nat),.any,.any,.any,.any,.any,.any,.any,.sl .no 1 (fR (l.map Int.ofNat)),.int .i64 (l.length:Nat),.int .i64 (i:Nat)]++ar 10 .any,[r.enc],D⟩) (λi x=>(True)) λF hF JF bn=>⟨?_,?_,?_⟩
 .refine en bn (()) (trivial) ?_ ?_ ?_
  all_goals simp[hF,ar,am,bT]
 .rintro i x hi -;simp only[hF,ar,am,dD hi];refine ix (EZ (l:=l.map Int.ofNat) (by simpa using hi)) ?_;simp only[am,Rl.au,Qe,JO];refine cl (OJ r l[i] (aC _ (fg hi)) D) ?_;simp only[am,a_,Dw,cG hi];refine nx bn (()) hi (trivial) ?_ ?_ ?_
  all_goals simp[hF,ar,am,bT,SY hi]
 .rintro x -;simp only[hF,ar,am,a_,dY,a_,fm];refine aH ?_;simp[V.erase,wD,hl]
def KR(r:Rl)(w:bD)(D:af):a7 292 [.agg r.enc,.int .u64 (w.toNat:Nat)] D (.int .u64 ((yA r w).toNat:Nat)):=by
 refine aij.aT ?_;simp only[aS,u9,Nat.reduceAdd];refine cl (Bj r D) ?_;simp only[am];have hp:=@mX r;refine dK (bG r) (λi (x:Unit)=>⟨[.agg r.enc,.int .u64 (w.toNat:Nat),.ptr (.aD 0) 0,.any,.any,.int .u64 (((bX i).foldl (λo i=>if h_ r i&&&w=0#64 then o else kW o (i:Nat)) 0#64).toNat:Nat),.any,.any,.int .i64 (bG r:Nat),.int .i64 (i:Nat)]++ar 13 .any,[r.enc],D⟩) (λi x=>(True)) λF hF JF bn=>⟨?_,?_,?_⟩
 .exact en bn (()) (trivial)
 .rintro i x hi -;simp only[hF,ar,am,dD hi,Rl.au];refine cl (OJ r i (by omega) D) ?_;simp only[am,x9,Dv]
  by_cases h:h_ r i&&&w=0#64
  .simp only[am,a_,aJ h,cG hi];refine nx bn (()) hi (trivial) ?_ ?_ ?_
   all_goals simp[hF,ar,am,bT,yF,h]
  .simp only[am,aI h];refine cl (Fs _ _ D) ?_;simp only[am,a_,cG hi];refine nx bn (()) hi (trivial) ?_ ?_ ?_
   all_goals simp[hF,ar,am,bT,yF,h]
 .rintro x -;simp only[hF,ar,am,a_,dY,a_];refine aH ?_;simp[V.erase,yA]
variable{i:Nat}
def acs{r:Rl}(hi:i<bG r):(Rl.of (bG r:Nat) λj=>if j<bG r then(if j<i then kW (h_ r j) (j:Nat) else h_ r j) else 0#64).put i (kW (h_ r i) (i:Nat))=Rl.of (bG r:Nat) λj=>if j<bG r then(if j<i+1 then kW (h_ r j) (j:Nat) else h_ r j) else 0#64:=by
 refine Rl.ext rfl λk hk=>?_
 rw[Rl.Cl,Rl.pJ hk,Rl.pJ hk]
 by_cases h:i=k
 .subst h;simp[hk,hi]
 .rw[aA (by omega)]
  by_cases h2:k<i
  .simp[h2,show k<i+1 by omega]
  .simp[h2,show ¬k<i+1 by omega]
def acr{r:Rl}(hi:i<bG r):(Rl.of (bG r:Nat) λj=>if j<bG r then(if j<i then kW (h_ r j) (j:Nat) else h_ r j) else 0#64).get i=h_ r i:=by
 rw[Rl.pJ (vk hi mX),aE hi,aA (Nat.lt_irrefl _)]
def acq{r:Rl}:(Rl.of (bG r:Nat) λj=>if j<bG r then(if j<bG r then kW (h_ r j) (j:Nat) else h_ r j) else 0#64)=vE r:=by
 refine Rl.ext rfl λk hk=>?_
 rw[Rl.pJ hk,vE,Rl.pJ hk];split<;>rfl
variable{k:Nat}
def UK{n:Nat}{o:Rl}:lN (n+1) k o=xS k (lN n k o) n:=yF
theorem alk{o:Rl}:lN 0 k o=o:=rfl
theorem apZ{r:Rl}:lA r 0=vE r:=rfl
theorem aqI{r:Rl}:(kQ r).n=(bG r:Nat):=rfl
def atI{o:Rl}(h:hasB (o.get i) (k:Nat)=ab):xS k o i=o.put i (o.get i|||o.get k):=by rw[xS,aE h]
def atH{o:Rl}(h:hasB (o.get i) (k:Nat)=ak):xS k o i=o:=by rw[xS,h];rfl
def z9_:=ah @am <| ah @cV <| ah @jW @tV
def av0:=ah @am <| ah @cV <| ah @Dw <| ah @jW @tV
def Rw(r:Rl)(D:af):a7 199 [.agg r.enc] D (.agg (sU r).enc):=by
 refine ag3.aT ?_;simp only[aS,am,aZ,Nat.reduceAdd,Rl.au];refine cl (IX r D) ?_;simp only[am,Nat.reduceAdd,Rl.au,aqI];have hp:=@mX r;refine dK (bG r) (λi (x:Unit)=>⟨[.any,.ptr (.aD 0) 0,.ptr (.aD 1) 0,.ptr (.aD 2) 0,.any,.any,.any,.any,.any,.any,.int .i64 (bG r:Nat),.int .i64 (i:Nat)]++ar 42 .any,[r.enc,Rl.zero.enc,(Rl.of (bG r:Nat) λj=>if j<bG r then(if j<i then kW (h_ r j) (j:Nat) else h_ r j) else 0#64).enc],D⟩) (λi x=>(True)) λF hF JF bn=>⟨?_,?_,?_⟩
 .refine en bn (()) (trivial) ?_ ?_ ?_
  all_goals simp[hF,ar,am,bT,kQ]
 .rintro i x hi -;simp only[hF,ar,am,cV,dD hi];have Cn:i<64:=by omega
  refine km ?_;simp only[am,jW,tV,Rl.x6 Cn,acr hi];refine cl (Fs _ _ D) ?_;simp only[am,cV];refine km ?_;simp only[DA,Rl.BE Cn,Rl.BF Cn,cG hi];refine nx bn (()) hi (trivial) ?_ ?_ ?_
  all_goals simp[hF,ar,am,bT,acs hi]
 .rintro x -;simp only[hF,ar,am,a_,dY,a_,Rl.au,Rl.Bh];rw[acq];clear hF F;refine dK (bG r) (λk (x:Unit)=>⟨[.any,.ptr (.aD 0) 0,.ptr (.aD 1) 0,.ptr (.aD 2) 0,.any,.any,.any,.any,.any,.any,.any,.any,.any,.any,.any,.any,.any,.any,.any,.any,.any,.any,.any,.any,.any,.int .i64 (bG r:Nat),.int .i64 (k:Nat)]++ar 27 .any,[r.enc,Rl.zero.enc,(lA r k).enc],D⟩) (λk x=>(True)) λF hF JF bn=>⟨?_,?_,?_⟩
  .refine en bn (()) (trivial) ?_ ?_ ?_
   all_goals simp[hF,ar,am,bT,apZ]
  .rintro k x hi -;simp only[hF,ar,am,dD hi,Rl.au,N7];refine dK (bG r) (λi (x:Unit)=>⟨[.any,.ptr (.aD 0) 0,.ptr (.aD 1) 0,.ptr (.aD 2) 0,.any,.int .i64 (k:Nat),.any,.any,.any,.any,.any,.any,.any,.any,.any,.any,.any,.any,.any,.any,.any,.any,.any,.any,.any,.int .i64 (bG r:Nat),.int .i64 (k:Nat),.any,.any,.any,.int .i64 (bG r:Nat),.int .i64 (i:Nat)]++ar 22 .any,[r.enc,Rl.zero.enc,(lN i k (lA r k)).enc],D⟩) (λi x=>(True)) λF2 ep yf iO=>⟨?_,?_,?_⟩
   .refine en iO (()) (trivial) ?_ ?_ ?_
    all_goals simp[ep,ar,am,bT,alk]
   .rintro i x hj -;have HQ:i<64:=by omega
    have akP:k<64:=by omega
    simp only[ep,ar,am,cV,dD hj];refine km ?_;simp only[am,jW,tV,Rl.x6 HQ];refine cl (anW _ _ D) ?_;simp only[am];refine eR (λhb=>?_) (λhb=>?_)
    .simp only[am,cV];refine km ?_;simp only[z9_,Rl.x6 HQ];refine km ?_;simp only[av0,Rl.x6 akP];refine km ?_;simp only[DA,Rl.BE HQ,Rl.BF HQ,cG hj];refine nx iO (()) hj (trivial) ?_ ?_ ?_
     all_goals simp[ep,ar,am,bT,UK,atI hb]
    .simp only[am,a_,cG hj];refine nx iO (()) hj (trivial) ?_ ?_ ?_
     all_goals simp[ep,ar,am,bT,UK,atH hb]
   .rintro x -;simp only[ep,ar,am,a_,dY,Nat.reduceEqDiff,a_,Rl.au,cG hi];refine nx bn (()) hi (trivial) ?_ ?_ ?_
    all_goals simp[hF,ar,am,bT,IS]
  .rintro x -;simp only[hF,ar,am,a_,dY,a_,Rl.au];exact aL (v:=.agg (sU r).enc) Rl.dV (af.bg _) ⟨by simp only[V.erase,Rl.dO],rfl⟩
def Rr(r:Rl)(D:af):a7 266 [.agg r.enc] D (.bool (vF r)):=by
 refine ahW.aT ?_;simp only[aS,am,aZ,Nat.reduceAdd,Rl.au];refine bE.intro (IX r D) ?_;simp only[am,Rl.au];refine bE.intro (Rw r D) ?_;simp only[am,Rl.au];refine aH ?_;simp[V.erase,vF]
def an4(r:Rl)(i:Nat)(hg:TZ D):a7 268 [.agg r.enc,.int .i64 (i:Nat)] D (.int .u64 ((zm r i).toNat:Nat)):=by
 refine ahY.aT ?_;simp only[aS,u9,Nat.reduceAdd];refine cz.eT (as' := [.sl .no 1 (fR [(i:Int)])]) ?_ ⟨dT.no,trivial⟩ bK.rfl;refine cl (Fq [(i:Int)] D (by simp)) ?_;simp only[am,Rl.au];refine bE.intro (Js r _ hg) ?_;simp only[am,Rl.au];refine bE.intro (KR r _ D) ?_;simp only[am,x9,Rl.au];refine aH ?_;simp[V.erase,zm]
def apV(r:Rl)(hg:TZ D):a7 220 [.agg r.enc] D (.bool (Db r)):=by
 refine ahi.aT ?_;simp only[aS,am,aZ,Nat.reduceAdd,Rl.au];refine cl (Rr r D) ?_;simp only[am];refine eR (λhb=>?_) (λhb=>?_)
 .have hb:vF r=false:=by simpa using hb
  simp only[am];refine aH ?_;simp[V.erase,Db,hb]
 .have hb:vF r=true:=by simpa using hb
  simp only[am,Rl.au];refine cl (Bj r D) ?_;simp only[am];have hp:=@mX r;refine dK (bG r) (λi (x:Unit)=>⟨[.any,.ptr (.aD 0) 0,.any,.any,.any,.any,.any,.any,.int .i64 (bG r:Nat),.int .i64 (i:Nat)]++ar 10 .any,[r.enc],D⟩) (λi x=>(∀k,k<i->zm r k=jf [(k:Int)])) λF hF JF bn=>⟨?_,?_,?_⟩
  .exact en bn (()) (by intro k h;omega)
  .rintro i x hi hJ;simp only[hF,ar,am,dD hi,Rl.au];refine cl (an4 r i hg) ?_;simp only[am];refine cz.eT (as' := [.sl .no 1 (fR [(i:Int)])]) ?_ ⟨dT.no,trivial⟩ bK.rfl;refine cl (Fq [(i:Int)] _ (by simp)) ?_;simp only[am,Dv]
   by_cases h:zm r i=jf [(i:Int)]
   .simp only[am,a_,aJ h,cG hi];exact nx bn (()) hi (λk hk=>if e:k=i then e▸h else hJ k (by omega))
   .have hA:Ac r=false:=by
     cases hq:Ac r with
     | false=>rfl
     | true=>exact absurd ((QK hb).1 hq i hi) h
    simp only[am,a_,aI h];refine aH ?_;simp[V.erase,Db,hA]
  .rintro x hJ;have hA:Ac r=true:=(QK hb).2 hJ;simp only[hF,ar,am,a_,dY,a_];refine aH ?_;simp[V.erase,Db,hb,hA]
def aiq:aU prog 299 (sq [rg 2 [ox 1 65 0,oz 2],rg 3 [fo 0 1,nB .geq 1,gA,fo 0 1,nB .leq 8,gZ,gA,ol 65 1,oC 266 [12],gZ,o1 2],.ret]) [.tmp 2] 15:=aV func299
def ais:aU prog 300 (sq [rg 6 [ox 3 65 0,od (aa 4) (.gO 1 (.s 1)),oz 4],sq [rg 8 [ol 65 3,oo 4,oC 308 [8,9],nn],cr 11 6 [oz 4]],dA 12 [7] [fo 0 3,oC 303 [13],mM [0],ol 65 3,om 2,oC 291 [15,16],nb .andNot 14,oN,oX 7 1 18],.qf (dg 19 [mM [1],ol 65 3,ol 65 3,oq (.ko (.func 311) [] [(.s 4),(.s 7)]),oC 310 [20,21],oC 309 [19,22],o1 6]),.ret]) [.tmp 6] 24:=aV func300 ⟨[4],[4]⟩
def aiu:aU prog 302 (sq [rg 4 [oz 4,oz 2],sq [rg 6 [om 0,oC 312 [6],nn,gB,om 1,nB .lss 0,gZ,gB,om 1,om 0,nb .geq 14,gZ],cr 17 4 [oz 4,oz 2]],rg 18 [om 1,oC 303 [18],o1 4,oV 5 (.bool ab)],.ret]) [.tmp 4,.tmp 5] 20:=aV func302
def aiA:aU prog 308 (sq [rg 4 [ox 2 65 0,oz 2],rg 5 [ol 65 2,oC 299 [5],gA,om 1,nB .geq 0,gZ,gA,om 1,fo 0 2,nb .lss 12,gZ,o1 4],.ret]) [.tmp 4] 17:=aV func308
def aiB:aU prog 309 (sq [rg 4 [od (aa 2) (.gO 65 (.s 0)),od (aa 3) (.gO 1 (.s 1)),oz 4],sq [rg 5 [ol 65 2,oC 299 [5],nn],cr 7 4 [oz 4]],rg 8 [ol 65 2,oq (.ko (.func 315) [] [(.s 2),(.s 3)]),oC 310 [8,9],o1 4],.ret]) [.tmp 4] 11:=aV func309 ⟨[2,3],[]⟩
def aiC:aU prog 310 (sq [rg 4 [ox 2 65 0,oz 4],rg 5 [oz 4],sq [rg 7 [fo 0 2,oi 0],lp 8 0 (sq [rg 11 [om 9,o1 6],rg 12 [om 5,om 1,om 6,oq (.iX (.s 13) [(.s 14)]),om 6,oq (.eW .mul (.c (.int .i64 8)) (.s 16)),oq (.qt .u64 (.s 17)),nb .shl 15,nb .or 12,o1 5]]) 21],rg 22 [om 5,o1 4],.ret]) [.tmp 4] 23:=aV func310
def aiD:aU prog 311 (sq [rg 4 [oz 4],sq [rg 5 [om 0,oo 1,nb .eql 5],cr 7 8 [oo 2,o1 4]],rg 4 [oz 4],.ret]) [.tmp 4] 9:=aV func311
def aiE:aU prog 312 (sq [rg 2 [oz 2],rg 3 [om 0,nB .geq 1,gA,om 0,nB .leq 64,gZ,o1 2],.ret]) [.tmp 2] 9:=aV func312
def aiH:aU prog 315 (sq [rg 4 [oz 4],rg 5 [oz 4],sq [dg 8 [mM [1],ol 65 1,om 0,n1 1,oC 269 [10],oC 291 [8,11],oC 293 [12],nL,oi 0],lp 14 0 (sq [rg 17 [oA 1 13 15,no,o1 7],dg 19 [om 5,mM [1],ol 65 1,ol 65 1,oo 2,om 7,oC 316 [21,22,23],oC 292 [20,24],nb .or 19,o1 5]]) 27],rg 28 [om 5,o1 4],.ret]) [.tmp 4] 29:=aV func315
def aiI:aU prog 316 (sq [rg 6 [ox 3 65 0,oz 4],rg 7 [om 1,om 2,oq (.eW .mul (.c (.int .i64 8)) (.s 8)),oq (.qt .u64 (.s 9)),nb .shr 7,fo 0 3,oC 303 [13],nb .and 11,o1 6],.ret]) [.tmp 6] 16:=aV func316
def ack(n:Int)(D:af):a7 312 [.int .i64 n] D (.bool (decide (1<=n)&&decide (n<=64))):=by
 refine aiE.aT ?_;simp only[aS,am,aZ,Nat.reduceAdd]
 by_cases h:1<=n
 .simp only[am,aJ h];refine aH ?_;simp[V.erase]
 .simp only[am,aI h];refine aH ?_;simp[V.erase]
def Du(p:bD × Bool):V:=.bt [.int .u64 (p.1.toNat:Nat),.bool p.2]
def asB(n k:Int)(D:af):a7 302 [.int .i64 n,.int .i64 k] D (Du (Bp n k)):=by
 refine aiu.aT ?_;simp only[aS,am,aZ,Nat.reduceAdd,u0];refine cl (ack n D) ?_
 by_cases h:1<=n/\n<=64
 .simp only[am,aJ h.1,aJ h.2]
  by_cases h2:k<0
  .simp only[am,aJ h2];refine aH ?_;simp[V.erase,aX,Du,Bp,show ¬0<=k by omega]
  .simp only[am,aI h2]
   by_cases h3:n<=k
   .simp only[am,aJ h3];refine aH ?_;simp[V.erase,aX,Du,Bp,show ¬k<n by omega]
   .simp only[am,aI h3];refine cl (Fp k D) ?_;simp only[am];refine aH ?_;simp[V.erase,aX,Du,Bp,h,show 0<=k by omega,show k<n by omega]
 .have e:(decide (1<=n)&&decide (n<=64))=false:=by simp only[DG,Ao];omega
  have e2:Bp n k=(0#64,ak):=by simp only[Bp];rw[aA (by omega)]
  simp only[am,e];refine aH ?_;simp[V.erase,aX,Du,e2]
def Lm(r:Rl)(D:af):a7 299 [.agg r.enc] D (.bool (r_ r)):=by
 refine aiq.aT ?_;simp only[aS,am,aZ,Nat.reduceAdd,Rl.au]
 by_cases h:1<=r.n
 .simp only[am,Rl.au,aJ h]
  by_cases h2:r.n<=8
  .simp only[am,Rl.au,aJ h2];refine cl (Rr r D) ?_;simp only[am];refine aH ?_;simp[V.erase,r_,h,h2]
  .simp only[am,aI h2];refine aH ?_;simp[V.erase,r_,h2]
 .simp only[am,aI h];refine aH ?_;simp[V.erase,r_,h]
def aj_(r:Rl)(w:bD)(o:Nat)(ho:o<64)(D:af):a7 316 [.agg r.enc,.int .u64 (w.toNat:Nat),.int .i64 (o:Nat)] D (.int .u64 ((IQ r w o).toNat:Nat)):=by
 refine aiI.aT ?_;simp only[aS,u9,Nat.reduceAdd];rw[wrap_i64,wrap_u64 (by omega) (by omega),show(8:Int)*(o:Nat)=((8*o:Nat):Int) by omega];simp only[am,Jx,Rl.au];refine cl (Fp r.n D) ?_;simp only[am,x9];refine aH ?_;simp[V.erase,IQ]
def av1:=ah @am <| ah @a_ <| ah @Dw @Pq
def Tp(r:Rl)(n:Nat)(hn:r.n=n)(h8:n<=8)(f:FuncId)(cap:List V)(hc:bO cap=ab)(g:Nat->bD)(D:af)
 (h:∀o,o<n->cz prog f (.int .i64 (o:Nat)::cap) D λv σ' => v = .int .u64 ((g o).toNat:Nat)/\σ' = D) :
 a7 310 [.agg r.enc,.fn (.func f) [] cap] D (.int .u64 ((Dg n g).toNat:Nat)):=by
 refine aiC.aT ?_;simp only[aS,u9,Nat.reduceAdd];refine dK (n) (λi (x:Unit)=>⟨[.any,.fn (.func f) [] cap,.any,.any,.any,.int .u64 ((Dg i g).toNat:Nat),.any,.any,.int .i64 (n:Nat),.int .i64 (i:Nat)]++ar 13 .any,[r.enc],D⟩) (λi x=>(True)) λF hF JF bn=>⟨?_,?_,?_⟩
 .refine en bn (()) (trivial) ?_ ?_ ?_
  all_goals simp[hF,ar,am,bT,hn,Dg]
 .rintro i x hi -;simp only[hF,ar,am,dD hi,hc];refine(h i hi).mono ?_;rintro v σ' ⟨rfl,rfl⟩;simp only[am];rw[wrap_i64 (x:=8*((i:Nat):Int)),wrap_u64 (x:=8*((i:Nat):Int)) (by omega) (by omega),show(8:Int)*(i:Nat)=((8*i:Nat):Int) by omega];simp only[av1,cG hi];refine nx bn (()) hi (trivial) ?_ ?_ ?_
  all_goals simp[hF,ar,am,bT,Dg,yF]
 .rintro x -;simp only[hF,ar,am,a_,dY,a_];exact rt
def av2:=ah @am <| ah @a_ <| ah @Dw @Rl.au
def ajQ(r:Rl)(w:bD)(o b1 b2:Nat)(hg:TZ D)(ho:o<bG r)(h8:bG r<=8)(h1:D.box b1=aa r.enc)(h2:D.box b2=aa [.int .u64 (w.toNat:Nat)]):
 a7 315 [.int .i64 (o:Nat),.ptr (.out b1) 0,.ptr (.out b2) 0] D (.int .u64 ((G0 r w o).toNat:Nat)):=by
 refine aiH.aT ?_;simp only[aS,am,aZ,Nat.reduceAdd,u0];simp only[am,Rl.au,h1];refine bE.intro (cz.eT (as' := [.sl .no 1 (fR [(o:Int)])]) (Fq [(o:Int)] D (by simp)) ⟨dT.no,trivial⟩ bK.rfl) ?_;simp only[am,Rl.au];refine bE.intro (Js r _ hg) ?_;simp only[am];refine bE.intro (NJ _ hg) ?_;simp only[am,aR,Rl.au,CT,h1];rw[show wD r (jf [(o:Int)])=wS r o from rfl];generalize hl:gk (wS r o)=l;have aC:∀k∈l,k<bG r:=λk hk=>by
  rw[<-hl,VD,ZT] at hk;exact(xu hk).2
 have hlen:l.length<=64:=hl▸Iz _;have hp:=@mX r;refine dK (l.length) (λi (x:Unit)=>⟨[.any,.ptr (.out b1) 0,.ptr (.out b2) 0,.any,.any,.int .u64 (((l.take i).foldl (λs p=>s|||yA r (IQ r w p)) 0#64).toNat:Nat),.any,.any,.any,.any,.any,.any,.any,.sl .no 1 (fR (l.map Int.ofNat)),.int .i64 (l.length:Nat),.int .i64 (i:Nat)]++ar 13 .any,[],D⟩) (λi x=>(True)) λF hF JF bn=>⟨?_,?_,?_⟩
 .refine en bn (()) (trivial) ?_ ?_ ?_
  all_goals simp[hF,ar,am,bT]
 .rintro i x hi -;simp only[hF,ar,am,dD hi];refine ix (EZ (l:=l.map Int.ofNat) (by simpa using hi)) ?_;simp only[am,Rl.au,Qe,JO,h1,h2]
  have:=aC _ (fg hi)
  refine bE.intro (aj_ r w l[i] (by omega) D) ?_;simp only[am,Rl.au];refine bE.intro (KR r _ D) ?_;simp only[av2,h1,cG hi];refine nx bn (()) hi (trivial) ?_ ?_ ?_
  all_goals simp[hF,ar,am,bT,SY hi]
 .rintro x -;simp only[hF,ar,am,a_,dY,a_,fm];refine aH ?_;simp[V.erase,G0,hl]
def ajR(r:Rl)(w:bD)(hg:TZ D):a7 309 [.agg r.enc,.int .u64 (w.toNat:Nat)] D (.int .u64 ((G1 r w).toNat:Nat)):=by
 refine aiB.aT ?_;simp only[aS,u9,Nat.reduceAdd];refine kI λb1 e_=>?_
 simp only[am];refine kI λb2 ec=>?_
 have aW:b1≠b2:=by rintro rfl;rw[jh] at ec;simp at ec
 have pW:=iS (cs:=r.enc) e_;have hs:=af.Dn pW (iS (cs:=[.int .u64 (w.toNat:Nat)]) ec);have e1:((D.set b1 r.enc).set b2 [.int .u64 (w.toNat:Nat)]).box b1=aa r.enc:=by rw[qS aW,jh]
 generalize wa:(D.set b1 r.enc).set b2 [V.int .u64 (w.toNat:Nat)]=cU at hs e1;have e2:cU.box b2=aa [.int .u64 (w.toNat:Nat)]:=by rw[<-wa,jh]
 simp only[am,Rl.au,e1];refine(Lm r cU).mono ?_;rintro v cU ⟨rfl,rfl⟩;simp only[am];cases vZ:r_ r with
 | false =>
  simp only[am];exact aL rfl hs ⟨by simp[G1,vZ,V.erase],rfl⟩
 | true =>
  obtain⟨n,hn,hp,h1,h8⟩:=Tn vZ;simp only[am,Rl.au,e1];refine(Tp r n hn h8 _ _ rfl (G0 r w) cU λo ho=>ajQ r w o b1 b2 (hs.2.2 _ _ hg) (by omega) (by omega) e1 e2).mono ?_;rintro v cU ⟨rfl,rfl⟩;simp only[am];exact aL rfl hs ⟨by simp[G1,vZ,V.erase,hn],rfl⟩
def ap5(r:Rl)(o:Nat)(D:af):a7 308 [.agg r.enc,.int .i64 (o:Nat)] D (.bool (r_ r&&decide ((o:Int)<r.n))):=by
 refine aiA.aT ?_;simp only[aS,am,aZ,Nat.reduceAdd,Rl.au];refine cl (Lm r D) ?_;cases h:r_ r with
 | false =>
  simp only[am];exact rt
 | true =>
  simp only[am,Rl.au,show decide ((0:Int)<=(o:Nat))=ab from aJ (by omega)];exact rt
def aj'(k o b:Nat)(w:bD)(b2:Nat)(h1:D.box b=aa [.int .i64 (o:Nat)])(h2:D.box b2=aa [.int .u64 (w.toNat:Nat)]):
 a7 311 [.int .i64 (k:Nat),.ptr (.out b) 0,.ptr (.out b2) 0] D (.int .u64 ((if k=o then w else 0#64).toNat:Nat)):=by
 refine aiD.aT ?_;simp only[aS,am,aZ,Nat.reduceAdd,u0];simp only[am,h1]
 by_cases h:k=o
 .simp only[am,aJ (show(k:Int)=(o:Nat) by omega),h2];refine aH ?_;simp[V.erase,h]
 .simp only[am,aI (show ¬(k:Int)=(o:Nat) by omega)];refine aH ?_;simp[V.erase,h]
def aka(r:Rl)(o:Nat)(d:bD)(hg:TZ D):a7 300 [.agg r.enc,.int .i64 (o:Nat),.int .u64 (d.toNat:Nat)] D (.int .u64 ((Dh r o d).toNat:Nat)):=by
 refine ais.aT ?_;simp only[aS,u9,Nat.reduceAdd];refine kI λb1 e_=>?_
 simp only[am,Rl.au];have hs:=iS (cs:=[V.int .i64 (o:Nat)]) e_;have e1:(D.set b1 [V.int .i64 (o:Nat)]).box b1=aa [V.int .i64 (o:Nat)]:=jh;generalize wa:D.set b1 [V.int .i64 (o:Nat)]=cU at hs e1;refine(ap5 r o cU).mono ?_;rintro v cU ⟨rfl,rfl⟩;simp only[am];cases vZ:r_ r&&decide ((o:Int)<r.n) with
 | false =>
  simp only[am];exact aL rfl hs ⟨by simp[Dh,vZ,V.erase],rfl⟩
 | true =>
  have akH := vZ;rw[bF,cn] at vZ;obtain⟨n,hn,hp,h1,h8⟩:=Tn vZ.1;simp only[am,Nat.reduceAdd,bL,Nat.reduceLT,Rl.au];refine bE.intro (Fp r.n cU) ?_;simp only[am,Rl.au];refine bE.intro (Js r d (hs.2.2 _ _ hg)) ?_;simp only[am,YV,Rl.au];refine bm.aq8 (l:=[r.enc]) (cs:=[V.int .u64 ((j4 r.n&&&~~~wD r d).toNat:Nat)]) rfl λb2 ec=>?_
  rw[show j4 r.n&&&~~~wD r d=xG r d from rfl];have ER:=af.Dn hs (iS (cs:=[V.int .u64 ((xG r d).toNat:Nat)]) ec);have aW:b1≠b2:=by rintro rfl;rw[e1] at ec;simp at ec
  have e2:(cU.set b2 [V.int .u64 ((xG r d).toNat:Nat)]).box b1=aa [V.int .i64 (o:Nat)]:=by rw[qS aW,e1]
  have e3:(cU.set b2 [V.int .u64 ((xG r d).toNat:Nat)]).box b2=aa [V.int .u64 ((xG r d).toNat:Nat)]:=jh;generalize cU.set b2 [V.int .u64 ((xG r d).toNat:Nat)]=fc at ER e2 e3;simp only[am,Nat.reduceLT,reduceCtorEq,Rl.au,ch,fh,ZZ,WQ (n:=1) (l:=r.enc) Rl.cT Rl.dV];refine bE.intro (Tp r n hn h8 _ _ rfl (λk=>if k=o then xG r d else 0#64) fc λk hk=>aj' k o b1 (xG r d) b2 e2 e3) ?_;simp only[am,Rl.au];refine bE.intro (ajR r _ (ER.2.2 _ _ hg)) ?_;simp only[am,Rl.au];exact aL rfl ER ⟨by rw[Dh,akH,hn];rfl,rfl⟩
def agN:aU prog 175 (sq [rg 2 [ox 1 65 0,oz 2],sq [rg 9 [fo 0 1,nB .lss 1,gB,fo 0 1,nB .gtr 64,gZ,gB,ol 65 1,oC 220 [18],nn,gZ],cr 21 2 [oz 2]],sq [rg 22 [fo 0 1,oi 0],lp 23 0 (sq [rg 26 [om 24,o1 3],rg 27 [om 3,oi 0],lp 27 2 (sq [rg 30 [om 28,o1 4],rg 32 [ol 65 1,om 3,om 4,oC 221 [32,33,34],o1 31,oe 31 0,oe 31 1,ot 5 36,o1 6],rg 39 [ol 65 1,om 3,om 4,oC 222 [39,40,41],o1 38,oe 38 0,oe 38 1,ot 7 43,o1 8],rg 45 [om 6,nn,gB,om 8,nn,gZ],cr 50 2 [oz 2]]) 51]) 52],rg 2 [oq (.mv (.c (.bool ab)))],.ret]) [.tmp 2] 53:=aV func175
def ahj:aU prog 221 (sq [rg 6 [ox 3 65 0,oi 0,oz 2],rg 8 [ol 65 3,om 1,om 2,oc 270 [.s 8,.s 9,.s 10,.c (.fn (.func 271) [] [])],oe 11 0,oe 11 1,ot 6 12,o1 7],.ret]) [.tmp 6,.tmp 7] 14:=aV func221
def ahk:aU prog 222 (sq [rg 6 [ox 3 65 0,oi 0,oz 2],rg 8 [ol 65 3,om 1,om 2,oc 270 [.s 8,.s 9,.s 10,.c (.fn (.func 272) [] [])],oe 11 0,oe 11 1,ot 6 12,o1 7],.ret]) [.tmp 6,.tmp 7] 14:=aV func222
def ah0:aU prog 270 (sq [rg 8 [ox 4 65 0,oi 0,oz 2],dg 13 [om 3,ol 65 4,om 1,oq (.iX (.s 13) [(.s 14),(.s 15)]),om 3,mM [0],ol 65 4,om 2,oq (.iX (.s 17) [(.s 18),(.s 19)]),nb .and 16,o1 10],sq [rg 22 [om 10,oC 293 [22],nL,oi 0],lp 24 0 (sq [rg 27 [oA 1 23 25,no,o1 12],rg 29 [om 10,om 3,ol 65 4,om 12,oq (.iX (.s 30) [(.s 31),(.s 32)]),oC 294 [29,33]],cr 34 8 [ot 35 12,om 35,oq (.mv (.c (.bool ab)))]]) 36],rg 8 [oi 0,oz 2],.ret]) [.tmp 8,.tmp 9] 37:=aV func270
def ah1:aU prog 271 (sq [rg 4 [ox 2 65 0,oz 4],dg 5 [mM [1],ol 65 2,om 1,n1 1,oC 269 [7],oC 291 [5,8],o1 4],.ret]) [.tmp 4] 10:=aV func271
def ah2:aU prog 272 (sq [rg 4 [ox 2 65 0,oz 4],sq [rg 5 [ol 65 2,om 1,oC 295 [5,6],nn],cr 8 4 [oz 4]],dg 9 [mM [1],ol 65 2,om 1,n1 1,oC 269 [11],oC 292 [9,12],o1 4],.ret]) [.tmp 4] 14:=aV func272
def aim:aU prog 295 (sq [rg 4 [ox 2 65 0,oz 2],rg 5 [om 1,nB .geq 0,gA,om 1,fo 0 2,oC 249 [10],ow 0 11,nb .lss 8,gZ,o1 4],.ret]) [.tmp 4] 15:=aV func295
def ait:aU prog 301 (sq [rg 4 [ox 2 65 0,oz 4],rg 5 [ol 65 2,om 1,oC 272 [5,6],o1 4],.ret]) [.tmp 4] 8:=aV func301
def xN(o:Option Nat):V:=.bt [.int .i64 ((o.getD 0:Nat):Int),.bool o.isSome]
def aoc:decide ((0:Int)<=(i:Nat))=true:=aJ (by omega)
def akM(r:Rl)(i:Nat)(D:af):a7 295 [.agg r.enc,.int .i64 (i:Nat)] D (.bool (decide (i<bG r))):=by
 refine aim.aT ?_;simp only[aS,am,aZ,Nat.reduceAdd,Rl.au];simp only[am,Rl.au,aoc];refine cl (VQ r.n D) ?_;simp only[am,Rl.au,Rl.Bh];refine aH ?_;simp[V.erase,bG];rfl
def ZU(r:Rl)(i:Nat)(hg:TZ D):a7 271 [.agg r.enc,.int .i64 (i:Nat)] D (.int .u64 ((wS r i).toNat:Nat)):=by
 refine ah1.aT ?_;simp only[aS,u9,Nat.reduceAdd];refine bE.intro (cz.eT (as' := [.sl .no 1 (fR [(i:Int)])]) (Fq [(i:Int)] D (by simp)) ⟨dT.no,trivial⟩ bK.rfl) ?_;simp only[am,Rl.au];refine bE.intro (Js r _ hg) ?_;simp only[am,Rl.au];refine aH ?_;simp[V.erase,wS]
def Q7(r:Rl)(i:Nat)(D:af):a7 272 [.agg r.enc,.int .i64 (i:Nat)] D (.int .u64 ((wT r i).toNat:Nat)):=by
 refine ah2.aT ?_;simp only[aS,u9,Nat.reduceAdd];refine cl (akM r i D) ?_
 by_cases h:i<bG r
 .simp only[am,Rl.au,aJ h];refine bE.intro (cz.eT (as' := [.sl .no 1 (fR [(i:Int)])]) (Fq [(i:Int)] D (by simp)) ⟨dT.no,trivial⟩ bK.rfl) ?_;simp only[am,Rl.au];refine bE.intro (KR r _ D) ?_;simp only[am,Rl.au];refine aH ?_;simp[V.erase,wT,h]
 .simp only[am,aI h];refine aH ?_;simp[V.erase,wT,h]
def VP(r:Rl)(i j:Nat)(f:FuncId)(g:Nat->bD)(hg:TZ D)(hf:∀k,a7 f [.agg r.enc,.int .i64 (k:Nat)] D (.int .u64 ((g k).toNat:Nat))):
 a7 270 [.agg r.enc,.int .i64 (i:Nat),.int .i64 (j:Nat),.fn (.func f) [] []] D (xN (II g i j)):=by
 refine ah0.aT ?_;simp only[aS,am,aZ,Nat.reduceAdd,Rl.au];refine bE.intro (hf i) ?_;simp only[am,Rl.au];refine bE.intro (hf j) ?_;simp only[am,x9,Rl.au];refine cl (NJ _ hg) ?_;simp only[am,aR,CT];rw[II];generalize g i&&&g j=w;have hlen:=Iz w;refine dK ((gk w).length) (λm (x:Unit)=>⟨[.agg r.enc,.any,.any,.fn (.func f) [] [],.ptr (.aD 0) 0,.any,.any,.any,.any,.any,.int .u64 (w.toNat:Nat),.any,.any,.any,.any,.any,.any,.any,.any,.any,.any,.any,.any,.sl .no 1 (fR ((gk w).map Int.ofNat)),.int .i64 ((gk w).length:Nat),.int .i64 (m:Nat)]++ar 11 .any,[r.enc],D⟩) (λm x=>(∀u∈(gk w).take m,Bu w (g u)=ak)) λF hF JF bn=>⟨?_,?_,?_⟩
 .refine en bn (()) (by simp) ?_ ?_ ?_
  all_goals simp[hF,ar,am,bT]
 .rintro m x hi hJ;simp only[hF,ar,am,dD hi];refine ix (EZ (l:=(gk w).map Int.ofNat) (by simpa using hi)) ?_;simp only[am,Rl.au,Qe,JO];refine(hf _).mono ?_;rintro v D ⟨rfl,rfl⟩;simp only[am];refine cl (anX _ _ D) ?_;simp only[am];cases hb:Bu w (g (gk w)[m]) with
  | false =>
   simp only[am,a_,cG hi];exact nx bn (()) hi (atY hJ hi hb)
  | true =>
   have e:(gk w).find? (λu=>Bu w (g u))=aa (gk w)[m]:=by
    rw[Gk];exact⟨hb,_,(gk w).drop (m+1),by rw[<-mJ hi,rQ],λa ha=>by rw[hJ a ha];rfl⟩
   simp only[am,a_];refine aH ?_;simp[V.erase,aX,xN,e]
 .rintro x hJ;rw[fm] at hJ;have e:(gk w).find? (λu=>Bu w (g u))=none:=by
   rw[JY];intro u hu;rw[hJ u hu];simp
  simp only[hF,ar,am,a_,dY,a_];refine aH ?_;simp[V.erase,aX,xN,e]
def alQ(r:Rl)(i j:Nat)(hg:TZ D):a7 221 [.agg r.enc,.int .i64 (i:Nat),.int .i64 (j:Nat)] D (xN (xE r i j)):=by
 refine ahj.aT ?_;simp only[aS,am,aZ,Nat.reduceAdd,Rl.au];refine cl (VP r i j _ (wS r) hg λk=>ZU r k hg) ?_;simp only[am,xN];refine aH ?_;simp[V.erase,aX,xE]
def an0(r:Rl)(i j:Nat)(hg:TZ D):a7 222 [.agg r.enc,.int .i64 (i:Nat),.int .i64 (j:Nat)] D (xN (zj r i j)):=by
 refine ahk.aT ?_;simp only[aS,am,aZ,Nat.reduceAdd,Rl.au];refine cl (VP r i j _ (wT r) hg λk=>Q7 r k D) ?_;simp only[am,xN];refine aH ?_;simp[V.erase,aX,zj]
def alg(r:Rl)(i:Nat)(D:af):a7 301 [.agg r.enc,.int .i64 (i:Nat)] D (.int .u64 ((wT r i).toNat:Nat)):=by
 refine ait.aT ?_;simp only[aS,u9,Nat.reduceAdd];refine cl (Q7 r i D) ?_;simp only[am];exact rt
def afG{p:Nat->Bool}{n m:Nat}(hm:m<n)(h:∀k,k<m->p k=ak)(hp:p m=ab):(bX n).find? p=aa m:=by
 rw[Gk];refine⟨hp,bX m,List.range' (m+1) (n - (m+1)),?_,λa ha=>by rw[h a (by simpa using ha)];rfl⟩;rw[vj,vj,<-DN]
 have:=Qn (s:=0) (m:=m) (n:=n - m) (step:=1)
 simp only[yj,jY] at this;rw[show n - (m+1)+1=n - m by omega,this];congr 1;omega
def afJ{p:Nat->Bool}{n:Nat}(h:∀k,k<n->p k=ak):(bX n).find? p=none:=by
 rw[JY];intro u hu;rw[h u (by simpa using hu)];simp
def U4(r:Rl)(hg:TZ D):a7 175 [.agg r.enc] D (.bool (sv r)):=by
 refine agN.aT ?_;simp only[aS,am,aZ,Nat.reduceAdd,Rl.au]
 by_cases h1:r.n<1
 .simp only[am,aJ h1];refine aH ?_;simp[V.erase,sv];omega
 .simp only[am,Rl.au,aI h1]
  by_cases h2:64<r.n
  .simp only[am,aJ h2];refine aH ?_;simp[V.erase,sv];omega
  .simp only[am,Rl.au,aI h2];refine cl (apV r hg) ?_;obtain⟨n,hn⟩:∃n:Nat,r.n=n:=⟨r.n.toNat,by omega⟩;have hp:bG r=n:=by rw[bG,hn];omega
   cases ho:Db r with
   | false =>
    simp only[am];refine aH ?_;simp[V.erase,sv,ho]
   | true =>
    simp only[am,Rl.au,hn];have lf:(∀i,i<n->∀j,j<i->((xE r i j).isSome&&(zj r i j).isSome)=ab)->sv r=true:=λh=>by
     simp only[sv,ho,hn,jW,l7,zW,bF,cn,wH];exact⟨by omega,λi hi j hj=>by have:=h i hi j hj;simpa using this⟩
    have aG:∀i j,i<n->j<i->((xE r i j).isSome&&(zj r i j).isSome)=ak->sv r=false:=λi j hi hj h=>by
     cases hq:sv r with
     | false=>rfl
     | true =>
      simp only[sv,hn,jW,l7,zW,bF] at hq
      have:=hq.2 i hi j hj
      rw[this.1,this.2] at h;simp at h
    refine dK (n) (λi (x:Unit)=>⟨[.any,.ptr (.aD 0) 0,.any,.any,.any,.any,.any,.any,.any,.any,.any,.any,.any,.any,.any,.any,.any,.any,.any,.any,.any,.any,.any,.int .i64 (n:Nat),.int .i64 (i:Nat)]++ar 28 .any,[r.enc],D⟩) (λi x=>(∀a,a<i->∀b,b<a->((xE r a b).isSome&&(zj r a b).isSome)=ab)) λF hF JF bn=>⟨?_,?_,?_⟩
    .exact en bn (()) (by intro k h;omega)
    .rintro i x hi hJ;simp only[hF,ar,am,dD hi];refine dK (i) (λj (x:Unit)=>⟨[.any,.ptr (.aD 0) 0,.any,.int .i64 (i:Nat),.any,.any,.any,.any,.any,.any,.any,.any,.any,.any,.any,.any,.any,.any,.any,.any,.any,.any,.any,.int .i64 (n:Nat),.int .i64 (i:Nat),.any,.any,.int .i64 (i:Nat),.int .i64 (j:Nat)]++ar 24 .any,[r.enc],D⟩) (λj x=>(∀b,b<j->((xE r i b).isSome&&(zj r i b).isSome)=ab)) λF2 ep yf iO=>⟨?_,?_,?_⟩
     .refine en iO (()) (by intro k h;omega) ?_ ?_ ?_
      all_goals simp[ep,ar,am,bT]
     .rintro j x hj Lt;simp only[ep,ar,am,dD hj,Rl.au];refine cl (alQ r i j hg) ?_;simp only[am,Rl.au,xN];refine cl (an0 r i j hg) ?_;simp only[am,xN];cases ha:(xE r i j).isSome with
      | false =>
       simp only[am,a_];refine aH ?_;simp[V.erase,aG i j hi hj (by rw[ha];rfl)]
      | true =>
       simp only[am];cases hb:(zj r i j).isSome with
       | false =>
        simp only[am,a_];refine aH ?_;simp[V.erase,aG i j hi hj (by rw[ha,hb];rfl)]
       | true =>
        simp only[am,a_,cG hj];refine nx iO (()) hj (B2 Lt (by rw[ha,hb];rfl)) ?_ ?_ ?_
        all_goals simp[ep,ar,am,bT]
     .rintro x Lt;simp only[ep,ar,am,a_,dY,Nat.reduceEqDiff,a_,reduceCtorEq,cG hi];exact nx bn (()) hi (B2 hJ Lt)
    .rintro x hJ;simp only[hF,ar,am,a_,dY,a_];refine aH ?_;simp[V.erase,lf hJ]
def ahD:aU prog 240 (sq [rg 2 [oz 4],rg 3 [oz 4,oq (.mv (.c (.int .u64 1)))],sq [rg 5 [oi 0],bl 0 (sq [sq [rg 7 [om 5,nB .lss 64],cx 8 0],.block 1 (sq [sq [rg 6 [oi 0],bl 2 (sq [sq [rg 11 [om 6,om 0,nL,nb .lss 11],cx 14 2],.block 3 (sq [rg 17 [om 0,om 6,nA 1 17,no,om 5,nb .eql 20],ci 22 (sq [rg 23 [om 3,om 4,nb .add 23,o1 3],(.exit 2)])]),rg 15 [ic 6]])],rg 26 [om 4,oq (.eW .mul (.s 26) (.c (.int .u64 2))),o1 4]]),rg 9 [ic 5]])],rg 28 [om 3,o1 2],.ret]) [.tmp 2] 29:=aV func240
def arN(l:List Int)(D:af)(hl:l.length<=100000):a7 240 [.sl .no 1 (fR l)] D (.int .u64 ((jf l).toNat:Nat)):=by
 refine ahD.aT ?_;simp only[aS,PJ,Nat.reduceAdd];refine dK (64) (λi (x:bD)=>⟨[.sl .no 1 (fR l),.any,.int .u64 ((0#64:bD).toNat:Nat),.int .u64 (x.toNat:Nat),.int .u64 ((ma i).toNat:Nat),.int .i64 (i:Nat)]++ar 23 .any,[],D⟩) (λi x=>(x=jf l&&&j4 (i:Int))) λF hF JF bn=>⟨?_,?_,?_⟩
 .refine en bn (0#64) ((apm l).symm) ?_ ?_ ?_
  all_goals simp[hF,ar,am,bT,ma]
 .rintro i x hi rfl;simp only[hF,ar,am,show decide ((i:Int)<64)=ab from dD hi];refine dK (l.length) (λj (y:Unit)=>⟨[.sl .no 1 (fR l),.any,.int .u64 ((0#64:bD).toNat:Nat),.int .u64 ((jf l&&&j4 (i:Int)).toNat:Nat),.int .u64 ((ma i).toNat:Nat),.int .i64 (i:Nat),.int .i64 (j:Nat)]++ar 22 .any,[],D⟩) (λj y=>((i:Int)∉l.take j)) λF2 ep yf iO=>⟨?_,?_,?_⟩
  .refine en iO (()) (by simp) ?_ ?_ ?_
   all_goals simp[ep,ar,am,bT]
  .rintro j y hj hm;simp only[ep,ar,am,dD hj,CT];refine ix (EZ hj) ?_;simp only[am]
   by_cases he:l[j]=(i:Int)
   .have xo:(i:Int)∈l:=he▸fg hj;simp only[am,Nat.reduceEqDiff,a_,reduceCtorEq,auY,YW,aJ he,cG hi,Q_];exact nx bn ((jf l&&&j4 (i:Int))+ma i) hi (by rw[V1 l i hi,aE xo])
   .simp only[am,a_,aI he,cG hj];refine nx iO (()) hj (by rw[jl hj,jC];simp[hm,fF he]) ?_ ?_ ?_
    all_goals simp[ep,ar,am,bT]
  .rintro y hm;rw[fm] at hm;simp only[ep,ar,am,a_,dY,Nat.reduceEqDiff,a_,reduceCtorEq,YW,CT,cG hi,Q_];exact nx bn (jf l&&&j4 (i:Int)) hi (by rw[V1 l i hi,aA hm])
 .rintro x rfl;simp only[hF,ar,am,a_,a_,show decide (((64:Nat):Int)<64)=ak from rfl];rw[show((64:Nat):Int)=64 from rfl,apl];exact rt
def age:aU prog 136 (sq [rg 4 [ox 2 65 0,ox 3 65 1,oz 2],dg 5 [ol 65 2,oC 197 [5],mM [0],ol 65 3,oC 197 [7],oq (.kA ak I4 (.s 6) (.s 8)),o1 4],.ret]) [.tmp 4] 10:=aV func136
def ag1:aU prog 197 (sq [rg 0 [ox 1 65 0,oR 2 pg],rg 7 [ol 65 1,oC 202 [7],oY pg [(0,1,.s 8)],oR 3 pg,o2 65 3],sq [rg 4 [oi 0],bl 0 (sq [sq [rg 10 [om 4,fo 0 3,nb .lss 10],cx 13 0],.block 1 (sq [rg 5 [oz 6],sq [rg 6 [oi 0],bl 2 (sq [sq [rg 16 [om 6,fo 0 3,nb .lss 16],cx 19 2],.block 3 (sq [rg 22 [ol 65 1,om 4,om 6,oC 238 [22,23,24]],ci 25 (rg 26 [om 5,om 6,n1 1,na 1 26,o1 5])]),rg 20 [ic 6]])],rg 30 [om 4,om 5,oC 240 [31],of 1 3,oP 64 1 33 30,os 1 34 32]]),rg 14 [ic 4]])],rg 35 [ol 65 3,o2 65 2],.ret]) [.cell 2 ab 65] 36:=aV func197
def ag7:aU prog 202 (sq [rg 2 [ox 1 65 0,oi 0],sq [rg 3 [fo 0 1,nB .lss 0],cr 5 2 [oi 0]],sq [rg 6 [fo 0 1,nB .gtr 64],cr 8 2 [oi 64]],rg 9 [fo 0 1,o1 2],.ret]) [.tmp 2] 11:=aV func202
def ahB:aU prog 238 (sq [rg 6 [ox 3 65 0,oz 2],rg 8 [ol 65 3,oC 202 [8],o1 7],rg 10 [om 1,nB .geq 0,gA,om 2,nB .geq 0,gZ,gA,om 1,om 7,nb .lss 17,gZ,gA,om 2,om 7,nb .lss 22,gZ,gA,om 1,of 1 3,oP 64 1 28 27,no,om 2,oq (.qt .u64 (.s 31)),nb .shr 30,oq (.eW .rem (.s 33) (.c (.int .u64 2))),oq (.eW .eql (.s 34) (.c (.int .u64 1))),gZ,o1 6],.ret]) [.tmp 6] 37:=aV func238
def aob:decide ((0:Int)<=(i:Nat))=true:=aJ (by omega)
def Xk(r:Rl)(D:af):a7 202 [.agg r.enc] D (.int .i64 (bG r:Nat)):=by
 refine ag7.aT ?_;simp only[aS,am,aZ,Nat.reduceAdd,Rl.au]
 by_cases h:r.n<0
 .simp only[am,aJ h];refine aH ?_;simp[V.erase,bG];omega
 .simp only[am,Rl.au,aI h]
  by_cases h2:64<r.n
  .simp only[am,aJ h2];refine aH ?_;simp[V.erase,bG];omega
  .simp only[am,Rl.au,aI h2];refine aH ?_;simp[V.erase,bG];omega
def av3:=ah @am <| ah @aZ <| ah @Jw @Rl.au
def av4:=ah @am <| ah @Jx <| ah @jW @tV
def arW(r:Rl)(i j:Nat)(D:af):a7 238 [.agg r.enc,.int .i64 (i:Nat),.int .i64 (j:Nat)] D (.bool (dj r i j)):=by
 refine ahB.aT ?_;simp only[aS,av3,Nat.reduceAdd];refine cl (Xk r D) ?_;simp only[am,aob];have hp:=@mX r
 by_cases h1:i<bG r
 .simp only[am,dD h1]
  by_cases h2:j<bG r
  .simp only[am,cV,dD h2];refine km ?_;simp only[av4,au5,auZ,Rl.x6 (show i<64 by omega),wrap_u64 (x:=((j:Nat):Int)) (by omega) (by omega),Zr];refine aH ?_;simp[V.erase,AP,h1,h2]
  .have e:decide ((j:Int)<(bG r:Nat))=false:=aI (by omega);simp only[am,e];refine aH ?_;simp[V.erase,AP,h2]
 .have e:decide ((i:Int)<(bG r:Nat))=false:=aI (by omega);simp only[am,e];refine aH ?_;simp[V.erase,AP,h1]
def Xj(r:Rl)(D:af):a7 197 [.agg r.enc] D (.agg (kQ r).enc):=by
 refine ag1.aT ?_;simp only[aS,am,aZ,Nat.reduceAdd,Rl.au];refine cl (Xk r D) ?_;simp only[am,Nat.reduceAdd,Rl.au];have hp:=@mX r;refine dK (bG r) (λi (x:Unit)=>⟨[.any,.ptr (.aD 0) 0,.ptr (.aD 1) 0,.ptr (.aD 2) 0,.int .i64 (i:Nat)]++ar 31 .any,[r.enc,Rl.zero.enc,(Rl.of (bG r:Nat) λj=>if j<i then h_ r j else 0#64).enc],D⟩) (λi x=>(True)) λF hF JF bn=>⟨?_,?_,?_⟩
 .refine en bn (()) (trivial) ?_ ?_ ?_
  all_goals simp[hF,ar,am,bT,Rl.PS]
 .rintro i x hi -;simp only[hF,ar,am,dD hi,Rl.au,Rl.Bh];refine dK (bG r) (λj (x:Tk × af)=>⟨[.any,.ptr (.aD 0) 0,.ptr (.aD 1) 0,.ptr (.aD 2) 0,.int .i64 (i:Nat),.sl x.1 1 (fR (((bX j).filter (dj r i)).map Int.ofNat)),.int .i64 (j:Nat)]++ar 29 .any,[r.enc,Rl.zero.enc,(Rl.of (bG r:Nat) λj=>if j<i then h_ r j else 0#64).enc],x.2⟩) (λj x=>(Gr D x.2 x.1 ((bX j).filter (dj r i)).length)) λF2 ep yf iO=>⟨?_,?_,?_⟩
  .refine en iO ((.ba,D)) (Gr.nil) ?_ ?_ ?_
   all_goals simp[ep,ar,am,bT,fR]
  .rintro j ⟨tk,cU⟩ hj hG;simp only at hG;have hlen:((bX j).filter (dj r i)).length<=64:=by have:=Qf (dj r i) (bX j);simp at this;omega
   simp only[ep,ar,am,dD hj,Rl.au,Rl.Bh];refine(arW r i j cU).mono ?_;rintro v cU ⟨rfl,rfl⟩;simp only[am];refine eR (λhb=>?_) (λhb=>?_)
   .simp only[am];refine Gr.app (by simpa [fR] using hG) (by simp[fR,aK];omega) λku σ' yK _ _=>?_
    have e:fR (((bX (j+1)).filter (dj r i)).map Int.ofNat)=fR (((bX j).filter (dj r i)).map Int.ofNat)++[[.int .i64 (j:Nat)]]:=by
     rw[rP,JX,Gj,hb];simp[fR]
    simp only[am,a_,cG hj];refine nx iO ((ku,σ')) hj (by rw[<-e] at yK;simpa [fR] using yK) ?_ ?_ ?_
    all_goals simp[ep,ar,am,bT,e]
   .have e:fR (((bX (j+1)).filter (dj r i)).map Int.ofNat)=fR (((bX j).filter (dj r i)).map Int.ofNat):=by
     rw[rP,JX,Gj,hb];simp[fR]
    simp only[am,a_,cG hj];refine nx iO ((tk,cU)) hj (by simpa [rP,hb] using hG) ?_ ?_ ?_
    all_goals simp[ep,ar,am,bT,e]
  .rintro⟨tk,cU⟩ hG;simp only at hG;have hlen:((bX (bG r)).filter (dj r i)).length<=64:=by have:=Qf (dj r i) (bX (bG r));simp at this;omega
   simp only[ep,ar,am,a_,dY,Nat.reduceEqDiff,a_,reduceCtorEq,Rl.au,Rl.Bh];refine cz.eT (as' := [.sl .no 1 (fR (((bX (bG r)).filter (dj r i)).map Int.ofNat))]) ?_ ⟨dT.no,trivial⟩ bK.rfl;refine cl (arN _ _ (by rw[aR];omega)) ?_;simp only[am,cV,apq hi];refine km ?_;simp only[DA,Rl.BE (show i<64 by omega),Rl.BF (show i<64 by omega),cG hi];refine nx bn (()) hi (trivial) ?_ ?_ (by simp only[hF];exact(bK.apr hG.sub))
   all_goals simp[hF,ar,am,bT,Rl.fill]
 .rintro x -;simp only[hF,ar,am,a_,dY,a_,Rl.au,Rl.Bh];refine aH ?_;simp[V.erase,kQ,Rl.dO]
def ash(r s:Rl)(D:af):a7 136 [.agg r.enc,.agg s.enc] D (.bool (decide (kQ r=kQ s))):=by
 refine age.aT ?_;simp only[aS,am,aZ,Nat.reduceAdd,Rl.au];refine bE.intro (Xj r D) ?_;simp only[am,Rl.au];refine bE.intro (Xj s D) ?_;simp only[am,Rl.au];exact rt
def ahc:aU prog 214 (sq [rg 2 [oz 2],rg 3 [mk 0,nf 3,nl 2,oW [0,0] [],oq (.kA ak [1,1] (.s 6) (.s 7)),o1 2],.ret]) [.tmp 2] 9:=aV func214
def ahO:aU prog 258 (sq [rg 0 [oZ 2 [1,0]],rg 4 [om 0,oc 260 [.s 4,.c (.int .u8 97)],oZ 3 [3,1,0,10,0],o2 5 3],rg 6 [of 0 3,nF 1,of 0 3,nF 2,oW [1,0] [(0,1,8),(1,1,11)],o2 2 2],.ret]) [.cell 2 ab 2] 13:=aV func258
def ahP:aU prog 259 (sq [rg 4 [oz 2],dg 5 [om 0,oC 214 [5],gA,mk 0,nF 1,nB .geq 0,gZ,gA,mk 0,nF 1,mk 0,nF 0,nL,nb .lss 18,gZ,gA,mk 0,nF 0,mk 0,nF 1,nA 5 30,nf 0,nF 0,om 1,nb .eql 38,gZ,o1 4],.ret]) [.tmp 4] 42:=aV func259
def ahQ:aU prog 260 (sq [rg 0 [oZ 4 [3,1,0,10,0]],sq [rg 5 [om 0,om 1,oC 259 [5,6],nn],ci 8 (sq [rg 9 [om 0,oC 287 [9]],rg 11 [oW [3,1,0,10,0] [],o2 5 4],.ret])],rg 12 [mk 0,nF 1,nB .add 1,ok 12,nf 1,os 1 18 16],dg 19 [mk 0,nF 0,mk 0,nF 1,nB .sub 1,nA 5 22,nl 5,o2 5 4],.ret]) [.cell 4 ab 5] 30:=aV func260
def aid:aU prog 287 (sq [sq [rg 2 [om 0,oC 214 [2],nn],ci 4 .ret],rg 5 [om 0,mk 0,nF 2,oG [0,0] [(0,1,.c (.int .i64 2)),(1,1,.s 9)],ok 5,nf 3,os 2 12 10],dg 13 [mk 0,nF 1,nB .geq 0,gA,mk 0,nF 1,mk 0,nF 0,nL,nb .lss 22,gZ],ci 29 (dg 30 [om 0,mk 0,nF 0,mk 0,nF 1,nA 5 34,nf 0,nF 2,ok 30,nf 3,nf 1,os 1 45 42])]) [] 46:=aV func287
variable{r:Nat}{rd:ae}
def xL(h:D.box r=aa rd.enc):a7 214 [.ptr (.out r) 0] D (.bool rd.ok):=by
 refine ahc.aT ?_;simp only[aS,aZ,am,h,ae.enc];refine aL rfl (af.bg _) ⟨?_,rfl⟩;cases hb:rd.aG<;>simp[ae.ok,V.erase,hb,df,fx]
def rJ{k:Int}(h:D.box r=aa rd.enc):a7 259 [.ptr (.out r) 0,.int .u8 k] D (.bool (rd.bW k)):=by
 refine ahP.aT ?_;simp only[aS,aZ,am];refine bE.intro (xL h) ?_;simp only[am];cases cu:rd.ok
 .simp only[am];refine aL rfl (af.bg _) ⟨?_,rfl⟩;simp[ae.bW,cu,V.erase]
 .simp only[am,h,ae.enc]
  by_cases h0:0<=rd.at_
  .simp only[am,h0,bL,h,ae.enc,dt]
   by_cases h1:rd.at_<rd.l.length
   .obtain⟨j,hj⟩:=wK h0;have gG : j<rd.l.length:=by omega
    simp only[am,h1,bL,h,ae.enc];refine qD h0 (c:=rd.l[j].enc) (by simp[n_,hj,gG]) ?_;simp only[am,cJ];refine aL rfl (af.bg _) ⟨?_,rfl⟩;simp[ae.bW,a8,V.erase,cu,hj,gG]
   .simp only[am,h1,c7];refine aL rfl (af.bg _) ⟨?_,rfl⟩
    have:rd.l[rd.at_.toNat]?=none:=sP (by omega)
    simp[ae.bW,a8,V.erase,this]
  .simp only[am,h0,c7];refine aL rfl (af.bg _) ⟨?_,rfl⟩;simp[ae.bW,a8,V.erase,h0]
def Ss(h:D.box r=aa rd.enc):dS 287 [.ptr (.out r) 0] D (.bt []) (D.set r rd.fail.enc):=by
 refine aid.aT ?_;simp only[aS,aZ,am];refine(xL h).mono ?_;rintro v σ' ⟨rfl,rfl⟩;cases hb:rd.aG with
 | some b =>
  simp only[am,ae.ok,hb,Option.isNone];refine aL rfl (af.bg _) ⟨rfl,?_⟩;rw[ae.fail,hb];exact(af.zB h).symm
 | none =>
  simp only[am,ae.ok,hb,Option.isNone,h,ae.enc,Nat.reduceAdd]
  by_cases h0:0<=rd.at_
  .simp only[am,h0,bL,dt]
   by_cases h1:rd.at_<rd.l.length
   .obtain⟨j,hj⟩:=wK h0;have gG : j<rd.l.length:=by omega
    simp only[am,h1,bL];refine qD h0 (c:=rd.l[j].enc) (by simp[n_,hj,gG]) ?_;simp only[am,cJ,Nat.reduceAdd];refine aL rfl (af.bg _) ⟨rfl,?_⟩;simp[ae.fail,ae.spot,hb,hj,gG,df,fx]
   .simp only[am,h1,c7];refine aL rfl (af.bg _) ⟨rfl,?_⟩
    have:rd.l[rd.at_.toNat]?=none:=sP (by omega)
    simp[ae.fail,ae.spot,hb,this,df,fx]
  .simp only[am,h0,c7];refine aL rfl (af.bg _) ⟨rfl,?_⟩;simp[ae.fail,ae.spot,hb,h0,df,fx]
def xW{k:Int}(h:D.box r=aa rd.enc)(hb:rd.l.length<=aK):dS 260 [.ptr (.out r) 0,.int .u8 k] D (.agg (rd.take k).1.enc) (D.set r (rd.take k).2.enc):=by
 refine ahQ.aT ?_;simp only[aS,aZ,am];refine(rJ h).mono ?_;rintro v σ' ⟨rfl,rfl⟩;cases hs:rd.bW k
 .simp only[am];refine(Ss h).mono ?_;rintro v σ' ⟨rfl,rfl⟩;simp only[am];refine aL rfl (af.bg _) ⟨?_,?_⟩
  .simp[ae.take,hs,V.erase,aX,al.zero,al.enc,b_]
  .simp[ae.take,hs]
 .have dL := hs;simp only[ae.bW,a8,bF,cn] at dL;obtain⟨_,h0,hk⟩:=dL;have h1:rd.at_.toNat<rd.l.length:=by
   cases hq:rd.l[rd.at_.toNat]? with
   | none=>rw[hq] at hk;simp at hk
   | some t=>exact(fv.1 hq).1
  simp only[aK] at hb;simp only[am,h,ae.enc];rw[wrap_i64 (x:=rd.at_+1),wrap_i64 (x:=rd.at_+1 - 1)];refine lM (c:=rd.l[rd.at_.toNat].enc) (by rw[show(rd.at_+1 - 1).toNat=rd.at_.toNat by omega];simp[n_,h1]) ?_;simp only[am,cJ];refine aL rfl (af.bg _) ⟨?_,?_⟩
  .simp[ae.take,hs,V.erase,aX,h1,ij]
  .simp[ae.take,hs]
def zL(h:D.box r=aa rd.enc)(hb:rd.l.length<=aK):dS 258 [.ptr (.out r) 0] D (.agg rd.word.1.enc) (D.set r rd.word.2.enc):=by
 refine ahO.aT ?_;simp only[aS,aZ,am];refine(xW h hb).mono ?_;rintro v σ' ⟨rfl,rfl⟩;simp only[am,cJ,Nat.reduceAdd];refine aL rfl (af.bg _) ⟨?_,?_⟩
 .simp[ae.word,V.erase,aX,aB.enc]
 .simp[ae.word]
def ahM:aU prog 256 (sq [rg 4 [om 1,oq (.iX (.s 4) [])],bl 0 (sq [sq [rg 6 [om 0,oc 259 [.s 6,.c (.int .u8 44)]],cx 7 0],.block 1 (sq [rg 8 [om 0,oc 260 [.s 8,.c (.int .u8 44)]],rg 10 [om 1,oq (.iX (.s 10) [])]])])]) [] 12:=aV func256
structure Sys(U:Type) where
 F:U->af
 rd:U->ae
 set:U->ae->U
 step:U->U
variable{U:Type}
def Sys.go(S:Sys U):Nat->U->U
 | 0,a=>a
 | n+1,a=>if (S.rd a).bW 44 then S.go n (S.step (S.set a ((S.rd a).take 44).2)) else a
def asS{k:Int}(h:rd.bW k=ab):rd.aG=ag/\0<=rd.at_/\rd.at_<rd.l.length:=by
 simp only[ae.bW,ae.ok,a8,bF,cn,DQ] at h;obtain⟨h1,h0,hk⟩:=h;refine⟨h1,h0,?_⟩;cases hq:rd.l[rd.at_.toNat]? with
 | none=>rw[hq] at hk;simp at hk
 | some t=>have:=(fv.1 hq).1;omega
variable{cap:List V}{g:FuncId}
def O5(S:Sys U)(Inv:U->Prop)(pR:bO cap=ab)
 (pM:∀a,Inv a->(S.F a).box r=aa (S.rd a).enc) (hlen:∀a,Inv a->(S.rd a).l.length<=aK)
 (nH:∀a,Inv a->(S.rd a).bW 44=ab->(S.F a).set r ((S.rd a).take 44).2.enc=S.F (S.set a ((S.rd a).take 44).2))
 (tq:∀a,Inv a->(S.rd a).bW 44=ab->cz prog g cap (S.F (S.set a ((S.rd a).take 44).2)) (λv σ' => v = .bt []/\σ' = S.F (S.step (S.set a ((S.rd a).take 44).2))) /\
   Inv (S.step (S.set a ((S.rd a).take 44).2))/\(S.rd (S.step (S.set a ((S.rd a).take 44).2))).l=(S.rd a).l/\(S.rd a).at_+1<=(S.rd (S.step (S.set a ((S.rd a).take 44).2))).at_)
 {a:U} (h0:cz prog g cap (S.F a) (λv σ' => v = .bt []/\σ' = S.F (S.step a))) (hI:Inv (S.step a)) {n:Nat} (hn:(S.rd (S.step a)).l.length<=n) :
 dS 256 [.ptr (.out r) 0,.fn (.func g) [] cap] (S.F a) (.bt []) (S.F (S.go n (S.step a))):=by
 refine ahM.aT ?_;simp only[aS,aZ,am,pR];refine h0.mono ?_;rintro v σ' ⟨rfl,rfl⟩;simp only[am]
 let I:{p:U × Nat // Inv p.1/\((S.rd p.1).l.length:Int)<=max (S.rd p.1).at_ 0+p.2/\S.go p.2 p.1=S.go n (S.step a)}->St:=λp =>
  ⟨[.ptr (.out r) 0,.fn (.func g) [] cap]++ar 10 .any,[],S.F p.1.1⟩
 refine gn I (λp=>p.1.2) ?_ ?_
 .refine bm.enter ⟨(S.step a,n),hI,by simp only;omega,rfl⟩ ?_ cC.rfl bK.rfl;simp[I,ar,am]
 .rintro⟨⟨b,m⟩,hb,hm,uq⟩;simp only[I,ar,am];simp only at hb hm uq;refine(rJ (pM b hb)).mono ?_;rintro v σ' ⟨rfl,rfl⟩;cases hs:(S.rd b).bW 44
  .simp only[am];refine aL rfl (af.bg _) ⟨rfl,?_⟩;rw[<-uq];cases m<;>simp[Sys.go,hs]
  .obtain⟨_,h1,h2⟩:=asS hs;simp only[am];refine(xW (pM b hb) (hlen b hb)).mono ?_;rintro v σ' ⟨rfl,rfl⟩;simp only[am,pR];obtain⟨k1,k2,k3,k4⟩:=tq b hb hs;rw[nH b hb hs];refine k1.mono ?_;rintro v σ' ⟨rfl,rfl⟩;simp only[am];cases m with
   | zero=>omega
   | succ m =>
    refine bm.again ⟨(S.step (S.set b ((S.rd b).take 44).2),m),k2,?_,?_⟩ (by simp) ?_ cC.rfl bK.rfl
    .rw[k3];simp only;omega
    .rw[<-uq];simp[Sys.go,hs]
    .simp[am]
def ahK:aU prog 254 (sq [rg 8 [oi 0],rg 11 [om 0,om 1,oC 260 [11,12],oZ 9 [3,1,0,10,0],o2 5 9],sq [rg 14 [om 0,oC 214 [14],nn],cr 16 8 [oi 0]],rg 17 [fo 3 9,fo 4 9,oW [10,0,0,0,0] [(0,1,18),(2,1,20)],oq (.gO 5 (.s 21)),o1 10],sq [rg 23 [om 2,nn,gB,fo 3 9,nL,nB .gtr 0,gZ],ci 30 (rg 31 [om 3,om 10,oq (.iX (.s 31) [(.s 32)])])],sq [dg 34 [om 10,oC 214 [34],gA,mk 10,nF 1,mk 10,nF 0,nL,nb .lss 40,gZ],ci 47 (rg 48 [om 10,oC 287 [48]])],sq [rg 50 [om 10,oC 214 [50],nn],ci 52 (rg 53 [om 0,mk 10,nf 3,nl 2,ok 53,nf 3,os 2 59 57])],rg 60 [of 0 9,nF 2,o1 8],.ret]) [.tmp 8] 63:=aV func254 ⟨[22],[]⟩
variable{empty:Bool}
def Pz{kind:Int}(pR:bO cap=ab)(h:D.box r=aa rd.enc)(hlen:rd.l.length<=aK)(td:(rd.take kind).1.aj.length<=aK)
 (i1:ae) (sK:af) (hcb:(rd.take kind).2.ok=ab->(empty=ak\/(rd.take kind).1.aj.length≠0)->∀q,D.box q=ag ->
   cz prog g (.ptr (.out q) 0::cap) ((D.set r (rd.take kind).2.enc).set q (rd.take kind).1.inner.enc) λv σ' => v = .bt []/\σ' = (sK.set r (rd.take kind).2.enc).set q i1.enc)
 (j6:empty=ab->(rd.take kind).1.aj.length=0->i1=(rd.take kind).1.inner/\sK=D) (hq:∀q,D.box q=ag->sK.box q=ag) (hl:i1.l=(rd.take kind).1.aj) :
 cz prog 254 [.ptr (.out r) 0,.int .u8 kind,.bool empty,.fn (.func g) [] cap] D λv σ' =>
  if (rd.take kind).2.ok=ab then v = .int .i64 (rd.take kind).1.tok.pos/\σ' = sK.set r ((rd.take kind).2.under i1).enc else v = .int .i64 0/\σ' = D.set r (rd.take kind).2.enc:=by
 refine ahK.aT ?_;simp only[aS,aZ,am];refine(xW h hlen).mono ?_;rintro v σ' ⟨rfl,rfl⟩;generalize ht:(rd.take kind).1=t at *;generalize hr1:(rd.take kind).2=uQ at *;simp only[am,cJ,Nat.reduceAdd];refine(xL (af.eH _ _ _)).mono ?_;rintro v σ' ⟨rfl,rfl⟩;cases cu:uQ.ok
 .simp only[am];refine aL rfl (af.bg _) ?_;simp[V.erase]
 .have bU:uQ.aG=none:=by simpa [ae.ok] using cu
  simp only[am,Nat.reduceAdd];refine kI λq HZ=>?_
  have lj:q≠r:=by rintro rfl;rw[af.eH] at HZ;simp at HZ
  have Ui : D.box q=none:=by rw[af.eQ _ _ lj] at HZ;exact HZ
  have dG:[V.sl .no 5 (b_ t.aj),.int .i64 0,.int .i64 t.fin,.int .i64 0,.int .i64 0]=t.inner.enc:=rfl;simp only[am,dG];have gu:∀i:ae,i.l=t.aj->((sK.set r uQ.enc).set q i.enc).box q=aa i.enc:=λi _=>af.eH _ _ _
  have qy:∀(A B:List V),(sK.set r A).sub ((sK.set r A).set q B):=λA B=>by
   refine⟨λb cs hb=>?_,λ_ _ h=>h,λ_ _ h=>h⟩
   by_cases xg:b=q
   .subst xg;rw[af.eQ _ _ lj,hq b Ui] at hb;simp at hb
   .rw[af.eQ _ _ xg];exact hb
  have hsw:∀(A B C:List V),((sK.set r A).set q B).set r C=(sK.set r C).set q B:=λA B C=>by rw[af.set_comm lj,af.set_set]
  have HD:((sK.set r uQ.enc).set q i1.enc).box q=aa i1.enc:=af.eH _ _ _
  by_cases hc:empty=ak\/t.aj.length≠0
  case' neg =>
   have hE:empty=true:=by cases empty<;>simp at hc ⊢
   have hk:t.aj.length=0:=by
    rcases J9 t.aj.length with h | h
    .exact h
    .exact absurd (.inr (by omega)) hc
   obtain⟨e1,e2⟩:=j6 hE hk;simp only[am,hE,dt,hk,sO,Int.lt_irrefl,c7];rw[<-e1,<-e2]
  case' pos =>
   have uq:=hcb cu hc q Ui;cases hE:empty
   case' true =>
    have hk:0<t.aj.length:=by
     rcases hc with h | h
     .rw[hE] at h;simp at h
     .omega
    simp only[am,dt,Int.natCast_pos,hk,bL]
   all_goals
    simp only[am,pR];refine uq.mono ?_;rintro v σ' ⟨rfl,rfl⟩;simp only[am]
  all_goals
   refine bE.intro (xL HD) ?_;have TP:∀(i:ae),((sK.set r uQ.enc).set q i.enc).box r=aa uQ.enc:=λi=>by rw[af.eQ _ _ (fF lj),af.eH]
   have fin:∀(i:ae) (x:List V),x=(uQ.under i1).enc->(sK.set r (uQ.under i1).enc).sub (((sK.set r uQ.enc).set q i.enc).set r x):=λi x hx=>by
    rw[hx,hsw];exact qy _ _
   cases Cz:i1.ok
   .have gu:i1.close=i1:=by simp[ae.close,Cz]
    simp only[am];refine(xL HD).mono ?_;rintro v σ' ⟨rfl,rfl⟩;simp only[am,Cz,TP,ae.ex,Nat.reduceAdd];exact aL rfl (fin i1 _ (by rw[ae.under,gu];rfl)) ⟨rfl,rfl⟩
   .simp only[am,ae.ex,hl,dt]
    by_cases aC:i1.at_<t.aj.length
    .have gu:i1.close=i1.fail:=by simp[ae.close,Cz,hl,aC]
     simp only[am,aC,bL];refine(Ss HD).mono ?_;rintro v σ' ⟨rfl,rfl⟩;simp only[am];refine(xL (af.eH _ _ _)).mono ?_;rintro v σ' ⟨rfl,rfl⟩;have hf:i1.fail.ok=false:=by
      have:i1.aG=none:=by simpa [ae.ok] using Cz
      simp[ae.fail,this,ae.ok]
     simp only[am,hf,TP,ae.ex,Nat.reduceAdd];exact aL rfl (fin i1.fail _ (by rw[ae.under,gu];rfl)) ⟨rfl,rfl⟩
    .have gu:i1.close=i1:=by simp[ae.close,hl,aC]
     have hu:uQ.under i1=uQ:=by
      have:i1.aG=none:=by simpa [ae.ok] using Cz
      rw[ae.under,gu,this,<-bU]
     simp only[am,aC,c7];refine(xL HD).mono ?_;rintro v σ' ⟨rfl,rfl⟩;simp only[am,Cz];refine aL rfl ?_ ⟨rfl,rfl⟩;rw[hu];exact qy _ _
def ahb:aU prog 213 (sq [rg 4 [oz 7,oi 0],rg 0 [od (aa 6) (.qm [(.sl .ba 2 [])])],.qf (rg 8 [om 0,om 1,oq (.ko (.func 255) [] [(.s 6)]),oc 254 [.s 8,.c (.int .u8 123),.s 9,.s 10],o1 7]),rg 12 [oo 6,om 7,ot 4 12,o1 5],.ret]) [.tmp 4,.tmp 5] 14:=aV func213 ⟨[6],[2]⟩
def ahL:aU prog 255 (sq [rg 0 [od (aa 2) (.gO 1 (.s 0))],rg 3 [no,oq (.ko (.func 257) [] [(.s 1),(.s 2)]),oC 256 [3,4]]]) [] 6:=aV func255 ⟨[2],[]⟩
def ahN:aU prog 257 (dg 2 [mM [1],oo 0,oo 1,oC 258 [3],n1 2,na 2 2,o2 1 0]) [] 7:=aV func257
variable{o p Z:Nat}
def avn{rows:List (List V)}(ho:D.box o=aa [.sl (.tk Z) 2 rows])(hp:D.box p=aa [.ptr (.out r) 0])(hr:D.box r=aa rd.enc)(j7:o≠r)
 (ht:D.aP Z=aa rows.length) (hb:rows.length+1<=aK) (hlen:rd.l.length<=aK) :
 dS 257 [.ptr (.out o) 0,.ptr (.out p) 0] D (.bt []) (((D.set r rd.word.2.enc).set o [.sl (.tk Z) 2 (rows++[rd.word.1.enc])]).aY Z (rows.length+1)):=by
 refine ahN.aT ?_;simp only[aS,aZ,am,ho,hp];refine bE.intro (zL hr hlen) ?_;simp only[am,aB.enc];refine vt (by simpa using hb) ht ?_;have h1:(D.set r rd.word.2.enc).box o=aa [.sl (.tk Z) 2 rows]:=by rw[af.eQ _ _ j7];exact ho
 simp only[am,h1];exact aL rfl (af.bg _) ⟨rfl,rfl⟩
def fU(D:af)(q o Z k:Nat)(rd:ae)(rows:List (List V)):af:=((D.set q rd.enc).set o [.sl (.tk Z) k rows]).aY Z rows.length
def F5(D:af)(q o Z:Nat):Sys (ae × List aB):=⟨λa=>fU D q o Z 2 a.1 (a.2.map aB.enc),λa=>a.1,λa r=>(r,a.2),gK⟩
def Hv{G:Type}(F:ae × List G->af)(step:ae × List G->ae × List G):∀(n:Nat) (a:ae × List G),Sys.go ⟨F,λa=>a.1,λa r=>(r,a.2),step⟩ n a=jr step n a
 | 0,_=>rfl
 | n+1,a=>by simp only[Sys.go,jr,Hv F step n]
variable{q:Nat}
def Ck{rows:List (List V)}(h:q≠o):(fU D q o Z k rd rows).box q=aa rd.enc:=by
 simp[fU,af.aY,af.set,h]
def Hs{rows:List (List V)}:(fU D q o Z k rd rows).box o=aa [.sl (.tk Z) k rows]:=by
 simp[fU,af.aY,af.set]
def vQ{rows:List (List V)}(h:p≠q)(h' : p≠o):(fU D q o Z k rd rows).box p=D.box p:=by
 simp[fU,af.aY,af.set,h,h']
variable{cs:List V}
def Ht{rows:List (List V)}(h:p≠q)(h' : p≠o):(fU D q o Z k rd rows).set p cs=fU (D.set p cs) q o Z k rd rows:=by
 have:((D.set q rd.enc).set o [.sl (.tk Z) k rows]).set p cs=((D.set p cs).set q rd.enc).set o [.sl (.tk Z) k rows]:=by
  rw[af.set_comm (fF h'),af.set_comm (b:=q) (fF h)]
 show(((D.set q rd.enc).set o [.sl (.tk Z) k rows]).set p cs).aY Z rows.length=_;rw[this];rfl
def iS(h:D.box p=ag):D.sub (D.set p cs):=by
 refine⟨λb ds hb=>?_,λ_ _ h=>h,λ_ _ h=>h⟩
 have:b≠p:=by rintro rfl;rw[h] at hb;simp at hb
 rw[af.eQ _ _ this];exact hb
def S8{rows:List (List V)}:(fU D q o Z k rd rows).aP Z=aa rows.length:=by
 simp[fU,af.aY]
variable{kT:ae}
def Lg{rows:List (List V)}(h:q≠o):(fU D q o Z k rd rows).set q kT.enc=fU D q o Z k kT rows:=by
 have:((D.set q rd.enc).set o [.sl (.tk Z) k rows]).set q kT.enc=(D.set q kT.enc).set o [.sl (.tk Z) k rows]:=by rw[af.set_comm (fF h),af.set_set]
 show(((D.set q rd.enc).set o [.sl (.tk Z) k rows]).set q kT.enc).aY Z rows.length=_;rw[this];rfl
def S7{rows:List (List V)}{c:List V}(h:q≠o):(((fU D q o Z k rd rows).set q kT.enc).set o [.sl (.tk Z) k (rows++[c])]).aY Z (rows.length+1)=fU D q o Z k kT (rows++[c]):=by
 rw[Lg h];unfold fU;rw[bP,dB,eM];show((((D.set q kT.enc).set o [.sl (.tk Z) k rows]).set o [.sl (.tk Z) k (rows++[c])]).aY Z rows.length).aY Z (rows.length+1)=_;rw[af.set_set,gJ]
variable{G:Type}
def qk(l:List al)(a:ae × List G):Prop:=a.1.l=l/\0<=a.1.at_/\a.1.at_<=l.length/\(a.1.aG=ag->(a.2.length:Int)<=a.1.at_)
variable{l:List al}
def Wb{a:ae × List aB}(h:qk l a)(hb:a.1.aG=ag):qk l (gK a)/\a.1.at_<=(gK a).1.at_:=by
 obtain⟨h1,h2,h3,h4⟩:=h;have h4:=h4 hb
 rcases a.1.uY 97 with ⟨_,k1,k2,k3,k4⟩ | ⟨_,k1,k2⟩
 .refine⟨⟨?_,?_,?_,λ_=>?_⟩,?_⟩<;>simp only[gK,ae.word,ae.fT,k1,bP,dB,eM]
  .exact h1
  .omega
  .rw[h1] at k4;omega
  .omega
  .omega
 .refine⟨⟨?_,?_,?_,λhq=>absurd hq k2⟩,?_⟩<;>simp only[gK,ae.word,ae.fT,k1]
  .exact h1
  .exact h2
  .exact h3
  .omega
def N9{a:ae × List G}(h:qk l a)(hs:a.1.bW 44=ab):qk l ((a.1.take 44).2,a.2)/\(a.1.take 44).2.aG=ag/\(a.1.take 44).2.at_=a.1.at_+1:=by
 obtain⟨h1,h2,h3,h4⟩:=h
 rcases a.1.uY 44 with ⟨_,k1,k2,k3,k4⟩ | ⟨k0,_⟩
 .have hb:a.1.aG=none:=by
   simp only[ae.bW,ae.ok,bF,DQ] at hs;exact hs.1
  have:=h4 hb
  rw[h1] at k4;exact⟨⟨by simp only[ae.fT];exact h1,by simp only[k1];omega,by simp only[k1];omega,λ_=>by simp only[k1];omega⟩,k2,k1⟩
 .rw[hs] at k0;simp at k0
def avo(dZ:q≠o)(gF:rd.at_=0)(bU:rd.aG=ag)(hlen:rd.l.length+1<=aK):
 dS 255 [.ptr (.out q) 0,.ptr (.out o) 0] (fU D q o Z 2 rd []) (.bt []) (fU D q o Z 2 (eB gK rd).1 ((eB gK rd).2.map aB.enc)):=by
 refine ahL.aT ?_;simp only[aS,aZ,am];refine kI λp hp=>?_
 have mr:p≠q:=by rintro rfl;rw[Ck dZ] at hp;simp at hp
 have mq:p≠o:=by rintro rfl;rw[Hs] at hp;simp at hp
 rw[Ht mr mq];simp only[am,vQ mr mq];have tq:∀a:ae × List aB,qk rd.l a->a.1.aG=ag->cz prog 257 [.ptr (.out o) 0,.ptr (.out p) 0] (fU (D.set p [.ptr (.out q) 0]) q o Z 2 a.1 (a.2.map aB.enc)) λv σ' =>
  v = .bt []/\σ' = fU (D.set p [.ptr (.out q) 0]) q o Z 2 (gK a).1 ((gK a).2.map aB.enc):=λa lK hb=>by
  have hl:=lK.2.2.2 hb;have lh:=lK.2.2.1;refine(avn Hs (by rw[vQ mr mq,af.eH]) (Ck dZ) (fF dZ) S8 (by rw[aR];omega) (by rw[lK.1];omega)).mono ?_;rintro v σ' ⟨rfl,rfl⟩;refine⟨rfl,?_⟩;rw[S7 dZ];simp[gK]
 have h0:qk rd.l (rd,([]:List aB)):=⟨rfl,by simp[gF],by simp[gF],λ_=>by simp[gF]⟩;obtain⟨p1,_⟩:=Wb h0 bU;refine(O5 (F5 (D.set p [.ptr (.out q) 0]) q o Z) (qk rd.l) (a:=(rd,[])) (n:=rd.l.length) (by simp[am]) (λa h=>Ck dZ) (λa h=>?_) (λa h hs=>Lg dZ) (λa h hs=>?_) (tq _ h0 bU) p1 ?_).mono ?_
 .show a.1.l.length<=aK;rw[h.1];omega
 .obtain⟨k1,k2,k3⟩:=N9 h hs;obtain⟨k4,k5⟩:=Wb k1 k2;refine⟨tq _ k1 k2,k4,?_,?_⟩
  .exact k4.1.trans h.1.symm
  .show a.1.at_+1<=_;simp only at k5;rw[k3] at k5;exact k5
 .show(gK (rd,[])).1.l.length<=rd.l.length;rw[p1.1];omega
 rintro v σ' ⟨rfl,rfl⟩;simp only[am];refine aL rfl (σ' := fU D q o Z 2 (eB gK rd).1 ((eB gK rd).2.map aB.enc)) ?_ ⟨rfl,rfl⟩;have e:(F5 (D.set p [.ptr (.out q) 0]) q o Z).F ((F5 (D.set p [.ptr (.out q) 0]) q o Z).go rd.l.length ((F5 (D.set p [.ptr (.out q) 0]) q o Z).step (rd,[])))=fU (D.set p [.ptr (.out q) 0]) q o Z 2 (eB gK rd).1 ((eB gK rd).2.map aB.enc):=by
  unfold F5;rw[Hv];rfl
 rw[e,<-Ht mr mq];exact iS (by rw[vQ mr mq];rw[vQ mr mq] at hp;exact hp)
def Li{G:Type}{l:List al}{step:ae × List G->ae × List G}(hs:∀a,a.1.l=l->(step a).1.l=l):∀(n:Nat) (a:ae × List G),a.1.l=l->(jr step n a).1.l=l
 | 0,_,h=>h
 | n + 1, a, h => by
  simp only[jr];split
  .exact Li hs n _ (hs _ (by rw[ae.fT];exact h))
  .exact h
def UL{step:ae × List G->ae × List G}(hs:∀l a,a.1.l=l->(step a).1.l=l)(empty:Bool)(t:al):(ae.inside step empty t).1.l=t.aj:=by
 unfold ae.inside;split
 .rfl
 .exact Li (hs _) _ _ (hs _ _ rfl)
def auX(l:List al)(a:ae × List aB)(h:a.1.l=l):(gK a).1.l=l:=by simp[gK,ae.word,ae.fT,h]
def PI(h:D.box r=aa rd.enc)(hlen:rd.l.length<=aK)(td:(rd.take 123).1.aj.length+1<=aK):
 dS 213 [.ptr (.out r) 0,.bool empty] D (.bt [.sl .no 2 ((rd.words empty).1.1.map aB.enc),.int .i64 (rd.words empty).1.2]) (D.set r (rd.words empty).2.enc):=by
 refine ahb.aT ?_;simp only[aS,aZ,am];refine kI λo ho=>?_
 have j7:o≠r:=by rintro rfl;rw[h] at ho;simp at ho
 simp only[am];refine bm.tok 0 λZ bc=>⟨_,_,_,eZ.rfl,rfl,λi c hc=>⟨c,hc,eZ.rfl⟩,qY.set (cs:=[.sl .ba 2 []]) (cs' := [.sl (.tk Z) 2 []]) (af.eH _ _ _) ⟨j1.tok rfl,trivial⟩,?_⟩
 simp only[am];have h1:((D.set o [.sl (.tk Z) 2 []]).aY Z 0).box r=aa rd.enc:=by
  show(D.set o _).box r=_;rw[af.eQ _ _ (fF j7)];exact h
 have aW:∀q,((D.set o [V.sl (.tk Z) 2 []]).aY Z 0).box q=ag->q≠o/\q≠r/\D.box q=none:=λq hq=>by
  have dZ:q≠o:=by rintro rfl;rw[show((D.set q [V.sl (.tk Z) 2 []]).aY Z 0).box q=_ from af.eH _ _ _] at hq;simp at hq
  have o6 : D.box q=none:=by rw[<-af.eQ D [V.sl (.tk Z) 2 []] dZ];exact hq
  exact⟨dZ,by rintro rfl;rw[h] at o6;simp at o6,o6⟩
 generalize dG:ae.inside gK empty (rd.take 123).1=ins;have EC:ins.1.l=(rd.take 123).1.aj:=by rw[<-dG];exact UL auX _ _
 refine(Pz (kind:=123) (by simp[am]) h1 hlen (by omega) ins.1 ((D.set o [.sl (.tk Z) 2 (ins.2.map aB.enc)]).aY Z (ins.2.map aB.enc).length) ?_ ?_ ?_ EC).mono ?_
 .intro cu hc q hq;obtain⟨dZ,lj,_⟩:=aW q hq;have e1:(((D.set o [V.sl (.tk Z) 2 []]).aY Z 0).set r (rd.take 123).2.enc).set q (rd.take 123).1.inner.enc=fU (D.set r (rd.take 123).2.enc) q o Z 2 (rd.take 123).1.inner []:=by
   unfold fU;rw[af.set_comm (b:=q) dZ,af.set_comm (b:=r) (fF j7)];rfl
  have e2:(((D.set o [V.sl (.tk Z) 2 (ins.2.map aB.enc)]).aY Z (ins.2.map aB.enc).length).set r (rd.take 123).2.enc).set q ins.1.enc=fU (D.set r (rd.take 123).2.enc) q o Z 2 ins.1 (ins.2.map aB.enc):=by
   unfold fU;rw[af.set_comm (b:=q) dZ,af.set_comm (b:=r) (fF j7)];rfl
  have e3:ins=eB gK (rd.take 123).1.inner:=by
   rw[<-dG,ae.inside,aA];rintro⟨q1,q2⟩
   rcases hc with hc | hc
   .rw[q1] at hc;simp at hc
   .exact hc q2
  rw[e1,e2,e3];exact avo dZ rfl rfl td
 .intro q1 q2
  have:ins=((rd.take 123).1.inner,[]):=by rw[<-dG,ae.inside,aE ⟨q1,q2⟩]
  rw[this];exact⟨rfl,rfl⟩
 .intro q hq;obtain⟨dZ,_,o6⟩:=aW q hq;show(D.set o _).box q=ag;rw[af.eQ _ _ dZ];exact o6
 rintro v σ' hv;have yS:∀(A B:List V) (n:Nat),(D.set r A).sub (((D.set o B).aY Z n).set r A):=λA B n=>by
  refine⟨λb cs hb=>?_,λO m hm=>?_,λ_ _ h=>h⟩
  .have Eu:b≠o:=by rintro rfl;rw[af.eQ _ _ j7,ho] at hb;simp at hb
   by_cases vS:b=r
   .subst vS;rw[af.eH] at hb ⊢;exact hb
   .rw[af.eQ _ _ vS] at hb ⊢;show(D.set o B).box b=_;rw[af.eQ _ _ Eu];exact hb
  .have uy : D.aP O=aa m:=hm;have AK : O≠Z:=by rintro rfl;rw[show(D.set o [V.sl .ba 2 []]).aP O=D.aP O from rfl] at bc;rw[bc] at uy;simp at uy
   show((D.set o B).aY Z n).aP O=aa m;rw[qe AK];exact uy
 split at hv
 .rename_i cu;obtain⟨rfl,rfl⟩:=hv;have hb:(((D.set o [V.sl (.tk Z) 2 (ins.2.map aB.enc)]).aY Z (ins.2.map aB.enc).length).set r ((rd.take 123).2.under ins.1).enc).box o=aa [V.sl (.tk Z) 2 (ins.2.map aB.enc)]:=by
   rw[af.eQ _ _ j7];exact af.eH _ _ _
  simp only[am,hb];refine aL rfl (yS _ _ _) ⟨?_,?_⟩
  .simp[ae.words,ae.bracket,cu,dG,V.erase,aX]
  .simp[ae.words,ae.bracket,cu,dG]
 .rename_i cu;obtain⟨rfl,rfl⟩:=hv;have hb:(((D.set o [V.sl (.tk Z) 2 []]).aY Z 0).set r (rd.take 123).2.enc).box o=aa [V.sl (.tk Z) 2 []]:=by
   rw[af.eQ _ _ j7];exact af.eH _ _ _
  simp only[am,hb];refine aL rfl (yS _ _ _) ⟨?_,?_⟩
  .simp[ae.words,ae.bracket,cu,V.erase,aX]
  .simp[ae.words,ae.bracket,cu]
def aie:aU prog 288 (sq [rg 0 [od (aa 3) (.gO 1 (.s 0))],rg 4 [no,oq (.ko (.func 289) [] [(.s 1),(.s 2),(.s 3)]),oC 256 [4,5]]]) [] 7:=aV func288 ⟨[3],[]⟩
def aif:aU prog 289 (dH 3 ⟨5,(.s 3),(.s 8),(.s 7),(.s 6),(.s 0),ag,9,10,20⟩ [mM [1],oo 0,oo 1,oo 2,oq (.iX (.s 4) [(.s 5)]),oL 3,oq (.jn 5 [(.c (.agg [(.int .i64 0),(.int .i64 0),(.aF []),(.sl .ba 2 []),(.sl .ba 5 [])]))]),oq (.mv (.c .any)),oq (.mv (.c .any)),oN,oN]) [] 11:=aV func289
def Nd.wd{n:Nd}:(V.agg n.enc).wd=aa 5:=by rw[Nd.cJ];rfl
def Nd.one{n:Nd}:cL n.enc=true:=by rw[Nd.cJ];rfl
def Nd.cY{n:Nd}:bO n.enc=true:=by rw[Nd.cJ];rfl
def Nd.er{n:Nd}:aX n.enc=n.enc:=by rw[Nd.cJ];rfl
def al2{f:Nat}{rows:List (List V)}{n:Nd}(ho:D.box o=aa [.sl (.tk Z) 5 rows])(hf:D.box f=aa [.fn (.func g) [] []])(hp:D.box p=aa [.ptr (.out q) 0])
 (Mq:o≠q) (ht:D.aP Z=aa rows.length) (hb:rows.length+1<=aK) (fE:dS g [.ptr (.out q) 0] D (.agg n.enc) (D.set q kT.enc)) :
 dS 289 [.ptr (.out o) 0,.ptr (.out f) 0,.ptr (.out p) 0] D (.bt []) (((D.set q kT.enc).set o [.sl (.tk Z) 5 (rows++[n.enc])]).aY Z (rows.length+1)):=by
 refine aif.aT ?_;simp only[aS,aZ,am,ho,hp,hf];refine bE.intro fE ?_;have h1:(D.set q kT.enc).box o=aa [.sl (.tk Z) 5 rows]:=by rw[af.eQ _ _ Mq];exact ho
 simp only[am,h1];refine Ud (Z:=Z) (m:=rows) (cs:=n.enc) (p:=.ptr (.out o) 0) rfl rfl rfl hb ht ⟨Nd.wd,Nd.one,Nd.cY⟩ Nd.er (by simp) rfl (by simp only[am,h1];rfl) ?_;simp only[am];exact aL rfl (af.bg _) ⟨rfl,rfl⟩
def IU{one:ae->G × ae}(ho:Reads one){a:ae × List G}(h:qk l a)(hb:a.1.aG=ag):qk l (cw one a)/\a.1.at_<=(cw one a).1.at_:=by
 obtain⟨h1,h2,h3,h4⟩:=h;have h4:=h4 hb;obtain⟨k1,k2,k3⟩:=ho.go a.1 h2 (by rw[h1];exact h3);refine⟨⟨by simp only[cw,ho.l];exact h1,by simp only[cw];omega,by simp only[cw];rw[h1] at k2;exact k2,λhq=>?_⟩,k1⟩
 have:=k3 hq
 simp only[cw,bP,dB,eM];omega
def E9(one:ae->Nd × ae)(D:af)(q o Z:Nat):Sys (ae × List Nd):=⟨λa=>fU D q o Z 5 a.1 (a.2.map Nd.enc),λa=>a.1,λa r=>(r,a.2),cw one⟩
def al3{f:Nat}{one:ae->Nd × ae}(hr:Reads one)(dZ:q≠o)(hfq:f≠q)(vX:f≠o)(hf:D.box f=aa [.fn (.func g) [] []])(gF:rd.at_=0)(bU:rd.aG=ag)(hlen:rd.l.length+1<=aK)
 (fE:∀(r:ae) (D:af),r.l=rd.l->0<=r.at_->r.at_<=rd.l.length->D.box q=aa r.enc->dS g [.ptr (.out q) 0] D (.agg (one r).1.enc) (D.set q (one r).2.enc)) :
 dS 288 [.ptr (.out q) 0,.ptr (.out o) 0,.ptr (.out f) 0] (fU D q o Z 5 rd []) (.bt []) (fU D q o Z 5 (eB (cw one) rd).1 ((eB (cw one) rd).2.map Nd.enc)):=by
 refine aie.aT ?_;simp only[aS,aZ,am];refine kI λp hp=>?_
 have mr:p≠q:=by rintro rfl;rw[Ck dZ] at hp;simp at hp
 have mq:p≠o:=by rintro rfl;rw[Hs] at hp;simp at hp
 have Uf:f≠p:=by rintro rfl;rw[vQ mr mq,hf] at hp;simp at hp
 rw[Ht mr mq];simp only[am,vQ mr mq];have tq:∀a:ae × List Nd,qk rd.l a->a.1.aG=ag->cz prog 289 [.ptr (.out o) 0,.ptr (.out f) 0,.ptr (.out p) 0] (fU (D.set p [.ptr (.out q) 0]) q o Z 5 a.1 (a.2.map Nd.enc)) λv σ' =>
  v = .bt []/\σ' = fU (D.set p [.ptr (.out q) 0]) q o Z 5 (cw one a).1 ((cw one a).2.map Nd.enc):=λa lK hb=>by
  have hl:=lK.2.2.2 hb;have lh:=lK.2.2.1;refine(al2 Hs (by rw[vQ hfq vX,af.eQ _ _ Uf];exact hf) (by rw[vQ mr mq,af.eH]) (fF dZ) S8 (by rw[aR];omega) (fE a.1 _ lK.1 lK.2.1 lh (Ck dZ))).mono ?_;rintro v σ' ⟨rfl,rfl⟩;refine⟨rfl,?_⟩;rw[S7 dZ];simp[cw]
 have h0:qk rd.l (rd,([]:List Nd)):=⟨rfl,by simp[gF],by simp[gF],λ_=>by simp[gF]⟩;obtain⟨p1,_⟩:=IU hr h0 bU;refine(O5 (E9 one (D.set p [.ptr (.out q) 0]) q o Z) (qk rd.l) (a:=(rd,[])) (n:=rd.l.length) (by simp[am]) (λa h=>Ck dZ) (λa h=>?_) (λa h hs=>Lg dZ) (λa h hs=>?_) (tq _ h0 bU) p1 ?_).mono ?_
 .show a.1.l.length<=aK;rw[h.1];omega
 .obtain⟨k1,k2,k3⟩:=N9 h hs;obtain⟨k4,k5⟩:=IU hr k1 k2;refine⟨tq _ k1 k2,k4,?_,?_⟩
  .exact k4.1.trans h.1.symm
  .show a.1.at_+1<=_;simp only at k5;rw[k3] at k5;exact k5
 .show(cw one (rd,[])).1.l.length<=rd.l.length;rw[p1.1];omega
 rintro v σ' ⟨rfl,rfl⟩;simp only[am];refine aL rfl (σ' := fU D q o Z 5 (eB (cw one) rd).1 ((eB (cw one) rd).2.map Nd.enc)) ?_ ⟨rfl,rfl⟩;have e:(E9 one (D.set p [.ptr (.out q) 0]) q o Z).F ((E9 one (D.set p [.ptr (.out q) 0]) q o Z).go rd.l.length ((E9 one (D.set p [.ptr (.out q) 0]) q o Z).step (rd,[])))=fU (D.set p [.ptr (.out q) 0]) q o Z 5 (eB (cw one) rd).1 ((eB (cw one) rd).2.map Nd.enc):=by
  unfold E9;rw[Hv];rfl
 rw[e,<-Ht mr mq];exact iS (by rw[vQ mr mq];rw[vQ mr mq] at hp;exact hp)
def ahR:aU prog 261 (sq [rg 8 [od (aa 7) (.gO 1 (.s 3)),oz 10,oi 0],rg 0 [od (aa 10) (.qm [(.sl .ba 5 [])])],.qf (rg 12 [om 0,om 1,om 2,oq (.ko (.func 288) [] [(.s 10),(.s 7)]),oC 254 [12,13,14,15],o1 11]),rg 17 [oo 10,om 11,ot 8 17,o1 9],.ret]) [.tmp 8,.tmp 9] 19:=aV func261 ⟨[7,10],[2]⟩
def af.atU{a b c:af}(h:a.sub b)(k:b.sub c):a.sub c:=⟨λx cs hx=>k.1 x cs (h.1 x cs hx),λx n hx=>k.2.1 x n (h.2.1 x n hx),λx n hx=>k.2.2 x n (h.2.2 x n hx)⟩
def atQ{a b:af}{A:List V}(h:a.sub b):(a.set r A).sub (b.set r A):=by
 refine⟨λx cs hx=>?_,h.2⟩
 by_cases hr:x=r
 .subst hr;rw[af.eH] at hx ⊢;exact hx
 .rw[af.eQ _ _ hr] at hx ⊢;exact h.1 x cs hx
def NU{one:ae->G × ae}(h:Reads one)(l:List al)(a:ae × List G)(ha:a.1.l=l):(cw one a).1.l=l:=by simp[cw,h.l,ha]
def Ih{kind:Int}{one:ae->Nd × ae}(fE:Reads one)(h:D.box r=aa rd.enc)(hlen:rd.l.length<=aK)(td:(rd.take kind).1.aj.length+1<=aK)
 (ako:∀(q:Nat) (i:ae) (D:af),i.l=(rd.take kind).1.aj->0<=i.at_->i.at_<=i.l.length->D.box q=aa i.enc->dS g [.ptr (.out q) 0] D (.agg (one i).1.enc) (D.set q (one i).2.enc)) :
 dS 261 [.ptr (.out r) 0,.int .u8 kind,.bool empty,.fn (.func g) [] []] D (.bt [.sl .no 5 ((rd.nodes one kind empty).1.1.map Nd.enc),.int .i64 (rd.nodes one kind empty).1.2]) (D.set r (rd.nodes one kind empty).2.enc):=by
 refine ahR.aT ?_;simp only[aS,aZ,am];refine kI λf hf=>?_
 have bj:f≠r:=by rintro rfl;rw[h] at hf;simp at hf
 simp only[am];refine kI λo ho=>?_
 have vX:f≠o:=by rintro rfl;rw[af.eH] at ho;simp at ho
 have j7:o≠r:=by rintro rfl;rw[af.eQ _ _ (fF bj),h] at ho;simp at ho
 generalize wa:D.set f [.fn (.func g) [] []]=jU at ho ⊢;have T0:jU.box f=aa [.fn (.func g) [] []]:=by rw[<-wa];exact af.eH _ _ _
 have akF:D.sub jU:=by rw[<-wa];exact iS hf
 have h:jU.box r=aa rd.enc:=by rw[<-wa,af.eQ _ _ (fF bj)];exact h
 simp only[am];refine bm.tok 0 λZ bc=>⟨_,_,_,eZ.rfl,rfl,λi c hc=>⟨c,hc,eZ.rfl⟩,qY.set (cs:=[.sl .ba 5 []]) (cs' := [.sl (.tk Z) 5 []]) (af.eH _ _ _) ⟨j1.tok rfl,trivial⟩,?_⟩
 simp only[am];have h1:((jU.set o [.sl (.tk Z) 5 []]).aY Z 0).box r=aa rd.enc:=by
  show(jU.set o _).box r=_;rw[af.eQ _ _ (fF j7)];exact h
 have aW:∀q,((jU.set o [V.sl (.tk Z) 5 []]).aY Z 0).box q=ag->q≠o/\q≠r/\jU.box q=none:=λq hq=>by
  have dZ:q≠o:=by rintro rfl;rw[show((jU.set q [V.sl (.tk Z) 5 []]).aY Z 0).box q=_ from af.eH _ _ _] at hq;simp at hq
  have o6 : jU.box q=none:=by rw[<-af.eQ jU [V.sl (.tk Z) 5 []] dZ];exact hq
  exact⟨dZ,by rintro rfl;rw[h] at o6;simp at o6,o6⟩
 generalize dG:ae.inside (cw one) empty (rd.take kind).1=ins;have EC:ins.1.l=(rd.take kind).1.aj:=by rw[<-dG];exact UL (NU fE) _ _
 refine(Pz (kind:=kind) (by simp[am]) h1 hlen (by omega) ins.1 ((jU.set o [.sl (.tk Z) 5 (ins.2.map Nd.enc)]).aY Z (ins.2.map Nd.enc).length) ?_ ?_ ?_ EC).mono ?_
 .intro cu hc q hq;obtain⟨dZ,lj,_⟩:=aW q hq;have e1:(((jU.set o [V.sl (.tk Z) 5 []]).aY Z 0).set r (rd.take kind).2.enc).set q (rd.take kind).1.inner.enc=fU (jU.set r (rd.take kind).2.enc) q o Z 5 (rd.take kind).1.inner []:=by
   unfold fU;rw[af.set_comm (b:=q) dZ,af.set_comm (b:=r) (fF j7)];rfl
  have e2:(((jU.set o [V.sl (.tk Z) 5 (ins.2.map Nd.enc)]).aY Z (ins.2.map Nd.enc).length).set r (rd.take kind).2.enc).set q ins.1.enc=fU (jU.set r (rd.take kind).2.enc) q o Z 5 ins.1 (ins.2.map Nd.enc):=by
   unfold fU;rw[af.set_comm (b:=q) dZ,af.set_comm (b:=r) (fF j7)];rfl
  have e3:ins=eB (cw one) (rd.take kind).1.inner:=by
   rw[<-dG,ae.inside,aA];rintro⟨q1,q2⟩
   rcases hc with hc | hc
   .rw[q1] at hc;simp at hc
   .exact hc q2
  rw[e1,e2,e3];refine al3 fE dZ ?_ vX (by rw[af.eQ _ _ bj];exact T0) rfl rfl td (λi σ' h1 h2 h3 h4=>ako q i σ' h1 h2 (by rw[h1];exact h3) h4);rintro rfl;rw[show((jU.set o [V.sl (.tk Z) 5 []]).aY Z 0).box f=(jU.set o [V.sl (.tk Z) 5 []]).box f from rfl,af.eQ _ _ vX,T0] at hq;simp at hq
 .intro q1 q2
  have:ins=((rd.take kind).1.inner,[]):=by rw[<-dG,ae.inside,aE ⟨q1,q2⟩]
  rw[this];exact⟨rfl,rfl⟩
 .intro q hq;obtain⟨dZ,_,o6⟩:=aW q hq;show(jU.set o _).box q=ag;rw[af.eQ _ _ dZ];exact o6
 rintro v σ' hv;have yS:∀(A B:List V) (n:Nat),(D.set r A).sub (((jU.set o B).aY Z n).set r A):=λA B n=>by
  refine af.atU (atQ akF) ?_;refine⟨λb cs hb=>?_,λO m hm=>?_,λ_ _ h=>h⟩
  .have Eu:b≠o:=by rintro rfl;rw[af.eQ _ _ j7,ho] at hb;simp at hb
   by_cases vS:b=r
   .subst vS;rw[af.eH] at hb ⊢;exact hb
   .rw[af.eQ _ _ vS] at hb ⊢;show(jU.set o B).box b=_;rw[af.eQ _ _ Eu];exact hb
  .have uy : jU.aP O=aa m:=hm;have AK : O≠Z:=by rintro rfl;rw[show(jU.set o [V.sl .ba 5 []]).aP O=jU.aP O from rfl] at bc;rw[bc] at uy;simp at uy
   show((jU.set o B).aY Z n).aP O=aa m;rw[qe AK];exact uy
 split at hv
 .rename_i cu;obtain⟨rfl,rfl⟩:=hv;have hb:(((jU.set o [V.sl (.tk Z) 5 (ins.2.map Nd.enc)]).aY Z (ins.2.map Nd.enc).length).set r ((rd.take kind).2.under ins.1).enc).box o=aa [V.sl (.tk Z) 5 (ins.2.map Nd.enc)]:=by
   rw[af.eQ _ _ j7];exact af.eH _ _ _
  simp only[am,hb];refine aL rfl (yS _ _ _) ⟨?_,?_⟩
  .simp[ae.nodes,ae.bracket,cu,dG,V.erase,aX]
  .simp[ae.nodes,ae.bracket,cu,dG]
 .rename_i cu;obtain⟨rfl,rfl⟩:=hv;have hb:(((jU.set o [V.sl (.tk Z) 5 []]).aY Z 0).set r (rd.take kind).2.enc).box o=aa [V.sl (.tk Z) 5 []]:=by
   rw[af.eQ _ _ j7];exact af.eH _ _ _
  simp only[am,hb];refine aL rfl (yS _ _ _) ⟨?_,?_⟩
  .simp[ae.nodes,ae.bracket,cu,V.erase,aX]
  .simp[ae.nodes,ae.bracket,cu]
def aiw:aU prog 304 (sq [rg 0 [oZ 2 [0,0,1,7,10]],rg 6 [om 0,oC 258 [6],oZ 3 [1,0],o2 2 3],rg 8 [om 0,oc 260 [.s 8,.c (.int .u8 58)]],rg 11 [om 0,oc 213 [.s 11,.c (.bool ab)],o1 10,oe 10 0,oe 10 1,ot 4 13,o1 5],rg 15 [fo 1 3,fo 0 3,om 4,oG [0,0,1,7,10] [(0,1,.c (.int .i64 6)),(1,1,.s 16),(2,1,.s 18),(3,1,.s 19)],o2 5 2],.ret]) [.cell 2 ab 5] 21:=aV func304
def asm(h:D.box r=aa rd.enc)(hlen:rd.l.length<=aK)(hk:∀(x:ae) (k:Int),x.l=rd.l->(x.take k).1.aj.length+1<=aK):
 dS 304 [.ptr (.out r) 0] D (.agg rd.pj.1.enc) (D.set r rd.pj.2.enc):=by
 refine aiw.aT ?_;simp only[aS,aZ,am];refine(zL h hlen).mono ?_;rintro v σ' ⟨rfl,rfl⟩;simp only[am,aB.enc];refine(xW (af.eH _ _ _) (by simp[ae.word,ae.fT,hlen])).mono ?_;rintro v σ' ⟨rfl,rfl⟩;simp only[am];refine(PI (af.eH _ _ _) (by simp[ae.word,ae.fT,hlen]) (hk _ _ (by simp[ae.word,ae.fT]))).mono ?_;rintro v σ' ⟨rfl,rfl⟩;simp only[am,Nat.reduceAdd];refine aL rfl (af.bg _) ⟨?_,rfl⟩;simp[ae.pj,V.erase,aX,Nd.enc,sB]
def SR:aU prog 290 (sq [rg 0 [oZ 2 [0,0,1,7,10]],rg 5 [oW [0,0,1,7,10] [],oZ 3 [0,0,1,7,10],o2 5 3],.block 0 (sq [rg 14 [om 0,oc 259 [.s 14,.c (.int .u8 123)],o1 13],cd 13 (sq [rg 16 [of 0 3,od ag (.store 1 (.s 16) (.c (.int .i64 3)))],rg 18 [om 0,oc 213 [.s 18,.c (.bool ab)],o1 17,oe 17 0,oe 17 1,of 3 3,os 1 22 20,of 1 3,os 1 23 21]]) (sq [rg 25 [om 0,oc 259 [.s 25,.c (.int .u8 40)],o1 24],cd 24 (sq [rg 27 [of 0 3,od ag (.store 1 (.s 27) (.c (.int .i64 4)))],rg 29 [om 0,oc 261 [.s 29,.c (.int .u8 40),.c (.bool ak),.c (.fn (.func 290) [] [])],o1 28,oe 28 0,oe 28 1,of 4 3,os 1 33 31,of 1 3,os 1 34 32]]) (sq [rg 36 [om 0,oc 259 [.s 36,.c (.int .u8 91)],o1 35],cd 35 (sq [rg 38 [of 0 3,od ag (.store 1 (.s 38) (.c (.int .i64 5)))],rg 40 [om 0,oc 261 [.s 40,.c (.int .u8 91),.c (.bool ab),.c (.fn (.func 304) [] [])],o1 39,oe 39 0,oe 39 1,of 4 3,os 1 44 42,of 1 3,os 1 45 43]]) (sq [rg 6 [om 0,oC 258 [6],oZ 4 [1,0],o2 2 4],rg 8 [fo 1 4,fo 0 4,oG [0,0,1,7,10] [(0,1,.c (.int .i64 2)),(1,1,.s 9),(2,1,.s 11)],o2 5 3]])])])]),rg 46 [ol 5 3,o2 5 2],.ret]) [.cell 2 ab 5] 47:=aV func290
def FM{r:ae}{k:Int}(h:bd r.l=0):r.bW k=false:=by
 have:r.l=[]:=tS (by have:=gm r.l;omega)
 simp[ae.bW,a8,this]
def A2{x:ae}{k:Int}(hm:bd l+1<=aK)(h:x.l=l):(x.take k).1.aj.length+1<=aK:=by
 have h1:=(x.wz k).1;have h2:=gm (x.take k).1.aj;rw[h] at h1;omega
def acQ:∀(n:Nat) {r:Nat} {rd:ae} {D:af} (_:D.box r=aa rd.enc) (_:bd rd.l<=n) (_:bd rd.l+1<=aK),
 dS 290 [.ptr (.out r) 0] D (.agg (ae.constant n rd).1.enc) (D.set r (ae.constant n rd).2.enc):=by
 intro n;induction n with
 | zero =>
  intro r rd D h hn hm;have hlen:=gm rd.l;refine SR.aT ?_;simp only[aS,aZ,am];refine(rJ h).mono ?_;rintro v σ' ⟨rfl,rfl⟩;simp only[am,FM (Gs.1 hn)];refine(rJ h).mono ?_;rintro v σ' ⟨rfl,rfl⟩;simp only[am,FM (Gs.1 hn)];refine(rJ h).mono ?_;rintro v σ' ⟨rfl,rfl⟩;simp only[am,FM (Gs.1 hn)];refine(zL h (by omega)).mono ?_;rintro v σ' ⟨rfl,rfl⟩;simp only[am,aB.enc,Nat.reduceAdd];refine aL rfl (af.bg _) ⟨?_,rfl⟩;simp[ae.constant,ae.leaf,V.erase,aX,Nd.enc,sB]
 | succ n ih =>
  intro r rd D h hn hm;have hlen:=gm rd.l;refine SR.aT ?_;simp only[aS,aZ,am];refine(rJ h).mono ?_;rintro v σ' ⟨rfl,rfl⟩;cases h1:rd.bW 123
  case' true =>
   simp only[am,Nat.reduceAdd];refine(PI h (by omega) (A2 hm rfl)).mono ?_;rintro v σ' ⟨rfl,rfl⟩;simp only[am,Nat.reduceAdd];refine aL rfl (af.bg _) ⟨?_,by simp[ae.constant,h1]⟩;simp[ae.constant,h1,V.erase,aX,Nd.enc,sB]
  case' false =>
   simp only[am];refine(rJ h).mono ?_;rintro v σ' ⟨rfl,rfl⟩;cases h2:rd.bW 40
  case' false.true =>
   have hk:bd (rd.take 40).1.aj+1<=bd rd.l:=(rd.wz 40).2 (by
    rcases rd.uY 40 with ⟨_,_,e,_,_⟩ | ⟨e,_,_⟩
    .exact e
    .rw[h2] at e;simp at e)
   simp only[am,Nat.reduceAdd];refine(Ih (Df (Tg n)) h (by omega) (A2 hm rfl) (λq i σ' e1 _ _ e4=>ih e4 (by rw[e1];omega) (by rw[e1];omega))).mono ?_;rintro v σ' ⟨rfl,rfl⟩;simp only[am,Nat.reduceAdd];refine aL rfl (af.bg _) ⟨?_,by simp[ae.constant,h1,h2]⟩;simp[ae.constant,h1,h2,V.erase,aX,Nd.enc,Bd]
  case' false.false =>
   simp only[am];refine(rJ h).mono ?_;rintro v σ' ⟨rfl,rfl⟩;cases h3:rd.bW 91
  case' false.false.true =>
   simp only[am,Nat.reduceAdd];refine(Ih (Df aj4) h (by omega) (A2 hm rfl) (λq i σ' e1 _ _ e4=>asm e4 (by have g1:=gm i.l;have g2:=(rd.wz 91).1;rw[<-e1] at g2;omega) (λx k ex=>A2 (by have g2:=(rd.wz 91).1;rw[<-e1] at g2;omega) ex))).mono ?_;rintro v σ' ⟨rfl,rfl⟩;simp only[am,Nat.reduceAdd];refine aL rfl (af.bg _) ⟨?_,by simp[ae.constant,h1,h2,h3]⟩;simp[ae.constant,h1,h2,h3,V.erase,aX,Nd.enc,Bd]
  case' false.false.false =>
   simp only[am];refine(zL h (by omega)).mono ?_;rintro v σ' ⟨rfl,rfl⟩;simp only[am,aB.enc,Nat.reduceAdd];refine aL rfl (af.bg _) ⟨?_,by simp[ae.constant,ae.leaf,h1,h2,h3]⟩;simp[ae.constant,ae.leaf,h1,h2,h3,V.erase,aX,Nd.enc,sB]
def ahS:aU prog 262 (sq [rg 0 [oZ 2 [0,0,1,7,10]],sq [rg 5 [om 0,oc 259 [.s 5,.c (.int .u8 35)]],ci 6 (sq [rg 7 [om 0,oc 260 [.s 7,.c (.int .u8 35)],oZ 3 [3,1,0,10,0],o2 5 3],dg 9 [of 0 3,nf 2,mM [1],no,om 0,oC 290 [12],n1 5,oG [0,0,1,7,10] [(0,1,.c (.int .i64 7)),(1,1,.s 11),(4,1,.s 14)],o2 5 2],.ret])],rg 16 [om 0,oC 258 [16],oZ 4 [1,0],o2 2 4],rg 18 [fo 1 4,fo 0 4,oG [0,0,1,7,10] [(0,1,.c (.int .i64 1)),(1,1,.s 19),(2,1,.s 21)],o2 5 2],.ret]) [.cell 2 ab 5] 23:=aV func262
def ahV:aU prog 265 (sq [rg 0 [oZ 2 [0,0,1,7,10]],rg 4 [om 0,oC 258 [4],oZ 3 [1,0],o2 2 3],rg 6 [om 0,oc 260 [.s 6,.c (.int .u8 61)]],dg 8 [of 1 3,mM [1],no,of 0 3,mM [1],no,om 0,oC 262 [12],n1 5,oG [0,0,1,7,10] [(0,1,.c (.int .i64 11)),(1,1,.s 9),(2,1,.s 11),(4,1,.s 14)],o2 5 2],.ret]) [.cell 2 ab 5] 16:=aV func265
def Nd.len{n:Nd}:n.enc.length=5:=by rw[Nd.cJ];rfl
def QX{n:Nat}(h:D.box r=aa rd.enc)(hn:bd rd.l<=n)(hm:bd rd.l+1<=aK):
 dS 262 [.ptr (.out r) 0] D (.agg (rd.atom n).1.enc) (D.set r (rd.atom n).2.enc):=by
 have hlen:=gm rd.l;refine ahS.aT ?_;simp only[aS,aZ,am];refine(rJ h).mono ?_;rintro v σ' ⟨rfl,rfl⟩;cases h1:rd.bW 35
 case' true =>
  simp only[am];refine(xW h (by omega)).mono ?_;rintro v σ' ⟨rfl,rfl⟩;simp only[am,cJ,Nat.reduceAdd];refine bE.intro (acQ n (af.eH _ _ _) (by rw[ae.fT];exact hn) (by rw[ae.fT];exact hm)) ?_;simp only[am,Nd.len,Nd.one,Nd.cY,Nd.er,Nat.reduceAdd];refine aL rfl (af.bg _) ⟨?_,by simp[ae.atom,h1]⟩;simp[ae.atom,h1,V.erase,aX,Nd.enc,sB]
 case' false =>
  simp only[am];refine(zL h (by omega)).mono ?_;rintro v σ' ⟨rfl,rfl⟩;simp only[am,aB.enc,Nat.reduceAdd];refine aL rfl (af.bg _) ⟨?_,by simp[ae.atom,ae.leaf,h1]⟩;simp[ae.atom,ae.leaf,h1,V.erase,aX,Nd.enc,sB]
def afx{n:Nat}(h:D.box r=aa rd.enc)(hn:bd rd.l<=n)(hm:bd rd.l+1<=aK):
 dS 265 [.ptr (.out r) 0] D (.agg (rd.field n).1.enc) (D.set r (rd.field n).2.enc):=by
 have hlen:=gm rd.l;refine ahV.aT ?_;simp only[aS,aZ,am];refine(zL h (by omega)).mono ?_;rintro v σ' ⟨rfl,rfl⟩;simp only[am,aB.enc,Nat.reduceAdd];have e1:rd.word.2.l=rd.l:=by simp[ae.word,ae.fT]
 refine(xW (af.eH _ _ _) (by rw[e1];omega)).mono ?_;rintro v σ' ⟨rfl,rfl⟩;simp only[am];refine bE.intro (QX (n:=n) (af.eH _ _ _) (by rw[ae.fT,e1];exact hn) (by rw[ae.fT,e1];exact hm)) ?_;simp only[am,Nd.len,Nd.one,Nd.cY,Nd.er,Nat.reduceAdd];refine aL rfl (af.bg _) ⟨?_,by simp[ae.field]⟩;simp[ae.field,V.erase,aX,Nd.enc,sB]
def ahe:aU prog 216 (sq [rg 0 [oZ 2 [0,0,1,7,10]],sq [rg 9 [oq (.jn 1 [(.c (.int .u8 43)),(.c (.int .u8 38))]),nL,oi 0],lp 10 0 (sq [rg 13 [oA 1 9 11,no,o1 4],sq [rg 15 [om 0,om 4,oC 259 [15,16],nn],ci 18 (.exit 1)],rg 19 [om 0,om 4,oC 260 [19,20],oZ 5 [3,1,0,10,0],o2 5 5],rg 6 [oi 8],sq [rg 22 [om 4,nu .eql 38],ci 23 (rg 6 [oi 9])],rg 25 [om 0,oc 261 [.s 25,.c (.int .u8 40),.c (.bool ak),.c (.fn (.func 216) [] [])],o1 24,oe 24 0,oe 24 1,ot 7 27,o1 8],rg 29 [om 6,of 0 5,nF 2,om 7,oW [0,0,1,7,10] [(0,1,29),(1,1,32),(4,1,33)],o2 5 2],.ret]) 35],rg 36 [om 0,oC 262 [36],o2 5 2],.ret]) [.cell 2 ab 5] 38:=aV func216
def Ib(r:Nat)(rd:ae)(D:af)(i:{i:Nat // i<=2/\(1<=i->rd.bW 43=ak)/\(2<=i->rd.bW 38=ak)}):St :=
 ⟨[.ptr (.out r) 0,.any,.ptr (.aD 0) 0,.any,.any,.any,.any,.any,.any,.sl .ba 1 [[.int .u8 43],[.int .u8 38]],.int .i64 2,.int .i64 (i.1:Nat)]++ar 26 .any,
  [[.int .i64 0,.int .i64 0,.aF [],.sl .ba 2 [],.sl .ba 5 []]],D⟩
def Nd.Fz{n:Nd}{a b c d e:V}:over [a,b,c,d,e] n.enc=n.enc:=by rw[Nd.cJ];rfl
def Nd.tk{n:Nd}:takeN 5 n.enc=aa n.enc:=by rw[Nd.cJ];rfl
def at1(r:ae)(k:Int):bd (r.take k).1.aj+1<=bd r.l\/bd (r.take k).1.aj=0:=by
 rcases r.uY k with ⟨_,_,e,_,_⟩ | ⟨e,_,_⟩
 .exact .inl ((r.wz k).2 e)
 .right;simp[ae.take,e,al.zero,al.aj,bd]
def al'{n:Nat}(h1:rd.bW 43=ak)(h2:rd.bW 38=ak)(hn:bd rd.l<=n):ae.label n rd=rd.atom n:=by
 cases n with
 | zero=>simp[ae.label,ae.atom,FM (Gs.1 hn)]
 | succ n=>simp[ae.label,h1,h2]
def U0{n:Nat}(ih:∀m,n=m+1->∀{r:Nat} {rd:ae} {D:af} (_:D.box r=aa rd.enc) (_:bd rd.l<=m) (_:bd rd.l+1<=aK),
 dS 216 [.ptr (.out r) 0] D (.agg (ae.label m rd).1.enc) (D.set r (ae.label m rd).2.enc)) {r:Nat} {rd:ae} {D:af} (h:D.box r=aa rd.enc) (hn:bd rd.l<=n) (hm:bd rd.l+1<=aK) :
 dS 216 [.ptr (.out r) 0] D (.agg (ae.label n rd).1.enc) (D.set r (ae.label n rd).2.enc):=by
 have hlen:=gm rd.l;have gi:∀k,rd.bW k=ab->∃m,n=m+1:=λk hk=>by
  cases n with
  | zero=>rw[FM (Gs.1 hn)] at hk;simp at hk
  | succ m=>exact⟨m,rfl⟩
 have aj:∀(m:Nat) (k:Int),n=m+1->∀(q:Nat) (i:ae) (D:af),i.l=((rd.take k).2.take 40).1.aj->0<=i.at_->i.at_<=i.l.length->D.box q=aa i.enc->dS 216 [.ptr (.out q) 0] D (.agg (ae.label m i).1.enc) (D.set q (ae.label m i).2.enc):=λm k e q i D e1 _ _ e4=>by
  have g1:=((rd.take k).2.wz 40).1;have g2:=at1 (rd.take k).2 40;rw[ae.fT,<-e1] at g1 g2;exact ih m e e4 (by omega) (by omega)
 refine ahe.aT ?_;simp only[aS,aZ,am];refine gn (λi=>Ib r rd D i) (λi=>2 - i.1) ?_ ?_
 .refine bm.enter ⟨0,by omega,by omega,by omega⟩ ?_ ?_ bK.rfl
  .simp[Ib,ar,am]
  .simp[Ib,am]
 .rintro⟨i,hi,pQ,L8⟩;simp only[Ib,ar,am];have akq:i=0\/i=1\/i=2:=by omega
  rcases akq with rfl | rfl | rfl
  .simp only[am,show(((0:Nat):Int)<2)=True by simp,bL];refine lM (c:=[.int .u8 43]) rfl ?_;simp only[am];refine(rJ h).mono ?_;rintro v σ' ⟨rfl,rfl⟩;cases h1:rd.bW 43
   .simp only[am];rw[wrap_i64];exact bm.again ⟨1,by omega,λ_=>rfl,by omega⟩ (by simp) (by simp[am]) cC.rfl bK.rfl
   .have Sm:decide ((43:Int)=38)=false:=by simp
    obtain⟨m,rfl⟩:=gi _ h1;simp only[am];refine(xW h (by omega)).mono ?_;rintro v σ' ⟨rfl,rfl⟩;simp only[am,cJ,Nat.reduceAdd,Sm];refine(Ih (Df (Lj m)) (af.eH _ _ _) (by rw[ae.fT];omega) (A2 hm (ae.fT _ _)) (aj m 43 rfl)).mono ?_;rintro v σ' ⟨rfl,rfl⟩;simp only[am,Nat.reduceAdd];refine aL rfl (af.bg _) ⟨?_,by simp[ae.label,h1]⟩;simp[ae.label,h1,V.erase,aX,Nd.enc,Bd]
  .have pW:=pQ (by omega);simp only[am,show(((1:Nat):Int)<2)=True by simp,bL];refine lM (c:=[.int .u8 38]) rfl ?_;simp only[am];refine(rJ h).mono ?_;rintro v σ' ⟨rfl,rfl⟩;cases h1:rd.bW 38
   .simp only[am];rw[wrap_i64];exact bm.again ⟨2,by omega,λ_=>pW,λ_=>rfl⟩ (by simp) (by simp[am]) cC.rfl bK.rfl
   .have Sm:decide ((38:Int)=38)=true:=by simp
    obtain⟨m,rfl⟩:=gi _ h1;simp only[am];refine(xW h (by omega)).mono ?_;rintro v σ' ⟨rfl,rfl⟩;simp only[am,cJ,Nat.reduceAdd,bL];refine(Ih (Df (Lj m)) (af.eH _ _ _) (by rw[ae.fT];omega) (A2 hm (ae.fT _ _)) (aj m 38 rfl)).mono ?_;rintro v σ' ⟨rfl,rfl⟩;simp only[am,Nat.reduceAdd];refine aL rfl (af.bg _) ⟨?_,by simp[ae.label,pW,h1]⟩;simp[ae.label,pW,h1,V.erase,aX,Nd.enc,Bd]
  .have pW:=pQ (by omega);have ER:=L8 (by omega);simp only[am,show(((2:Nat):Int)<2)=False by simp,c7];refine(QX h hn hm).mono ?_;rintro v σ' ⟨rfl,rfl⟩;simp only[am,Nd.len,Nd.one,Nd.Fz,Nd.tk];rw[al' pW ER hn];refine aL (by simp only[am,Nd.cY]) (af.bg _) ⟨?_,rfl⟩;simp only[am,Nd.er]
def al_:∀(n:Nat) {r:Nat} {rd:ae} {D:af} (_:D.box r=aa rd.enc) (_:bd rd.l<=n) (_:bd rd.l+1<=aK),
 dS 216 [.ptr (.out r) 0] D (.agg (ae.label n rd).1.enc) (D.set r (ae.label n rd).2.enc):=by
 intro n;induction n with
 | zero=>exact λh hn hm=>U0 (λm e=>by omega) h hn hm
 | succ n ih=>exact λh hn hm=>U0 (λm e=>Nat.succ.inj e▸ih) h hn hm
def ahU:aU prog 264 (dH 2 ⟨5,(.s 3),(.s 7),(.s 6),(.s 5),(.s 0),(aa 4),8,9,10⟩ [of 4 0,mM [1],no,oo 1,oC 265 [4],oL 3,oq (.jn 5 [(.c (.agg [(.int .i64 0),(.int .i64 0),(.aF []),(.sl .ba 2 []),(.sl .ba 5 [])]))]),oq (.mv (.c .any)),oq (.mv (.c .any)),oN,oq (.mv (.c .any)),oN]) [] 11:=aV func264
def iE(Z:Nat)(an rows:List (List V)):List V:=[.int .i64 10,.int .i64 0,.aF [],.sl .ba 2 an,.sl (.tk Z) 5 rows]
def ar1{n:Nat}{an rows:List (List V)}(ho:D.box o=aa (iE Z an rows))(hp:D.box p=aa [.ptr (.out q) 0])(hq:D.box q=aa rd.enc)
 (Mq:o≠q) (ht:D.aP Z=aa rows.length) (hb:rows.length+1<=aK) (hn:bd rd.l<=n) (hm:bd rd.l+1<=aK) :
 dS 264 [.ptr (.out o) 0,.ptr (.out p) 0] D (.bt []) (((D.set q (rd.field n).2.enc).set o (iE Z an (rows++[(rd.field n).1.enc]))).aY Z (rows.length+1)):=by
 unfold iE at ho ⊢;refine ahU.aT ?_;simp only[aS,aZ,am,ho,hp];refine bE.intro (afx (n:=n) hq hn hm) ?_;have h1:(D.set q (rd.field n).2.enc).box o=aa [.int .i64 10,.int .i64 0,.aF [],.sl .ba 2 an,.sl (.tk Z) 5 rows]:=by rw[af.eQ _ _ Mq];exact ho
 simp only[am,h1];refine Ud (Z:=Z) (m:=rows) (cs:=(rd.field n).1.enc) (p:=.ptr (.out o) 4) rfl rfl rfl hb ht ⟨Nd.wd,Nd.one,Nd.cY⟩ Nd.er (by simp) rfl (by simp only[am,h1];rfl) ?_;simp only[am];exact aL rfl (af.bg _) ⟨rfl,rfl⟩
def ahT:aU prog 263 (sq [rg 0 [od (aa 2) (.gO 1 (.s 0))],sq [rg 3 [no,oc 259 [.s 3,.c (.int .u8 124)],nn],ci 5 (rg 6 [oo 2,oq (.ko (.func 264) [] [(.s 1),(.s 2)]),oC 256 [6,7]])],rg 9 [oo 2,oc 259 [.s 9,.c (.int .u8 124)]],ci 10 (sq [rg 11 [oo 2,oc 260 [.s 11,.c (.int .u8 124)]],rg 13 [oo 2,oC 258 [13],n1 2,of 3 1,os 1 16 15]])]) [] 17:=aV func263 ⟨[2],[]⟩
def hC(D:af)(q o Z:Nat)(rd:ae)(an rows:List (List V)):af:=((D.set q rd.enc).set o (iE Z an rows)).aY Z rows.length
def Ax{an rows:List (List V)}(h:q≠o):(hC D q o Z rd an rows).box q=aa rd.enc:=by
 simp[hC,af.aY,af.set,h]
def Le{an rows:List (List V)}:(hC D q o Z rd an rows).box o=aa (iE Z an rows):=by
 simp[hC,af.aY,af.set]
def Lf{an rows:List (List V)}(h:p≠q)(h' : p≠o):(hC D q o Z rd an rows).box p=D.box p:=by
 simp[hC,af.aY,af.set,h,h']
def S6{an rows:List (List V)}(h:p≠q)(h' : p≠o):(hC D q o Z rd an rows).set p cs=hC (D.set p cs) q o Z rd an rows:=by
 have:((D.set q rd.enc).set o (iE Z an rows)).set p cs=((D.set p cs).set q rd.enc).set o (iE Z an rows):=by
  rw[af.set_comm (fF h'),af.set_comm (b:=q) (fF h)]
 show(((D.set q rd.enc).set o (iE Z an rows)).set p cs).aY Z rows.length=_;rw[this];rfl
def ajP{an rows:List (List V)}:(hC D q o Z rd an rows).aP Z=aa rows.length:=by
 simp[hC,af.aY]
def Hr{an rows:List (List V)}(h:q≠o):(hC D q o Z rd an rows).set q kT.enc=hC D q o Z kT an rows:=by
 have:((D.set q rd.enc).set o (iE Z an rows)).set q kT.enc=(D.set q kT.enc).set o (iE Z an rows):=by rw[af.set_comm (fF h),af.set_set]
 show(((D.set q rd.enc).set o (iE Z an rows)).set q kT.enc).aY Z rows.length=_;rw[this];rfl
def ajN{an NO rows:List (List V)}:(hC D q o Z rd an rows).set o (iE Z NO rows)=hC D q o Z rd NO rows:=by
 show(((D.set q rd.enc).set o (iE Z an rows)).set o (iE Z NO rows)).aY Z rows.length=_;rw[af.set_set];rfl
def ajO{an rows:List (List V)}{c:List V}(h:q≠o):(((hC D q o Z rd an rows).set q kT.enc).set o (iE Z an (rows++[c]))).aY Z (rows.length+1)=hC D q o Z kT an (rows++[c]):=by
 rw[Hr h];unfold hC;rw[bP,dB,eM];show((((D.set q kT.enc).set o (iE Z an rows)).set o (iE Z an (rows++[c]))).aY Z rows.length).aY Z (rows.length+1)=_;rw[af.set_set,gJ]
def FH(one:ae->Nd × ae)(D:af)(q o Z:Nat):Sys (ae × List Nd):=⟨λa=>hC D q o Z a.1 [] (a.2.map Nd.enc),λa=>a.1,λa r=>(r,a.2),cw one⟩
def Yi{one:ae->Nd × ae}(h:Reads one)(r:ae):(eB (cw one) r).1.l=r.l:=Li (NU h _) _ _ (NU h _ _ rfl)
def ar2{n:Nat}(dZ:q≠o)(gF:rd.at_=0)(bU:rd.aG=ag)(hn:bd rd.l<=n)(hm:bd rd.l+1<=aK):
 dS 263 [.ptr (.out q) 0,.ptr (.out o) 0] (hC D q o Z rd [] []) (.bt []) (hC D q o Z (rd.nQ n).1.1 ((rd.nQ n).2.map aB.enc) ((rd.nQ n).1.2.map Nd.enc)):=by
 have hlen:=gm rd.l;have Ez:Reads (ae.field n):=Df (Th n);refine ahT.aT ?_;simp only[aS,aZ,am];refine kI λp hp=>?_
 have mr:p≠q:=by rintro rfl;rw[Ax dZ] at hp;simp at hp
 have mq:p≠o:=by rintro rfl;rw[Le] at hp;simp at hp
 rw[Lf mr mq] at hp;rw[S6 mr mq];have xw:∀a b c,(hC (D.set p [.ptr (.out q) 0]) q o Z a b c).box p=aa [.ptr (.out q) 0]:=λa b c=>by rw[Lf mr mq,af.eH]
 have uk:∀a b c,(hC D q o Z a b c).sub (hC (D.set p [.ptr (.out q) 0]) q o Z a b c):=λa b c=>by
  rw[<-S6 mr mq];exact iS (by rw[Lf mr mq];exact hp)
 simp only[am,xw];refine(rJ (Ax dZ)).mono ?_;rintro v σ' ⟨rfl,rfl⟩;cases h1:rd.bW 124
 all_goals simp only[am,xw]
 case' false =>
  have tq:∀a:ae × List Nd,qk rd.l a->a.1.aG=ag->cz prog 264 [.ptr (.out o) 0,.ptr (.out p) 0] (hC (D.set p [.ptr (.out q) 0]) q o Z a.1 [] (a.2.map Nd.enc)) λv σ' =>
   v = .bt []/\σ' = hC (D.set p [.ptr (.out q) 0]) q o Z (cw (ae.field n) a).1 [] ((cw (ae.field n) a).2.map Nd.enc):=λa lK hb=>by
   have hl:=lK.2.2.2 hb;have lh:=lK.2.2.1;refine(ar1 (n:=n) Le (xw _ _ _) (Ax dZ) (fF dZ) ajP (by rw[aR];omega) (by rw[lK.1];exact hn) (by rw[lK.1];exact hm)).mono ?_;rintro v σ' ⟨rfl,rfl⟩;refine⟨rfl,?_⟩;rw[ajO dZ];simp[cw]
  have h0:qk rd.l (rd,([]:List Nd)):=⟨rfl,by simp[gF],by simp[gF],λ_=>by simp[gF]⟩;obtain⟨p1,_⟩:=IU Ez h0 bU;refine(O5 (FH (ae.field n) (D.set p [.ptr (.out q) 0]) q o Z) (qk rd.l) (a:=(rd,[])) (n:=rd.l.length) (by simp[am]) (λa h=>Ax dZ) (λa h=>?_) (λa h hs=>Hr dZ) (λa h hs=>?_) (tq _ h0 bU) p1 ?_).mono ?_
  .show a.1.l.length<=aK;rw[h.1];omega
  .obtain⟨k1,k2,k3⟩:=N9 h hs;obtain⟨k4,k5⟩:=IU Ez k1 k2;refine⟨tq _ k1 k2,k4,?_,?_⟩
   .exact k4.1.trans h.1.symm
   .show a.1.at_+1<=_;simp only at k5;rw[k3] at k5;exact k5
  .show(cw (ae.field n) (rd,[])).1.l.length<=rd.l.length;rw[p1.1];omega
  rintro v σ' ⟨rfl,rfl⟩;have e:(FH (ae.field n) (D.set p [.ptr (.out q) 0]) q o Z).F ((FH (ae.field n) (D.set p [.ptr (.out q) 0]) q o Z).go rd.l.length ((FH (ae.field n) (D.set p [.ptr (.out q) 0]) q o Z).step (rd,[])))=hC (D.set p [.ptr (.out q) 0]) q o Z (eB (cw (ae.field n)) rd).1 [] ((eB (cw (ae.field n)) rd).2.map Nd.enc):=by
   unfold FH;rw[Hv];rfl
  rw[e];have hl:=Yi Ez rd;have bx:rd.nQ n=if (eB (cw (ae.field n)) rd).1.bW 124=ab then((((eB (cw (ae.field n)) rd).1.take 124).2.word.2,(eB (cw (ae.field n)) rd).2),[((eB (cw (ae.field n)) rd).1.take 124).2.word.1]) else(eB (cw (ae.field n)) rd,[]):=by
   simp only[ae.nQ,h1,da,bZ]
  generalize eB (cw (ae.field n)) rd=a at hl bx ⊢;simp only[am,xw]
 case' true =>
  have bx:rd.nQ n=if rd.bW 124=ab then(((rd.take 124).2.word.2,[]),[(rd.take 124).2.word.1]) else((rd,[]),[]):=by
   simp only[ae.nQ,h1,cm]
  have hl:rd.l=rd.l:=rfl;rw[show hC (D.set p [.ptr (.out q) 0]) q o Z rd [] []=hC (D.set p [.ptr (.out q) 0]) q o Z (rd,([]:List Nd)).1 [] ((rd,([]:List Nd)).2.map Nd.enc) from rfl];have bx:rd.nQ n=if (rd,([]:List Nd)).1.bW 124=ab then((((rd,([]:List Nd)).1.take 124).2.word.2,(rd,([]:List Nd)).2),[((rd,([]:List Nd)).1.take 124).2.word.1]) else((rd,([]:List Nd)),[]):=bx
  have hl:(rd,([]:List Nd)).1.l=rd.l:=rfl;generalize (rd,([]:List Nd))=a at hl bx ⊢
 all_goals
  refine(rJ (Ax dZ)).mono ?_;rintro v σ' ⟨rfl,rfl⟩;cases h2:a.1.bW 124
  .simp only[am,bx,h2];exact aL rfl (uk _ _ _) ⟨rfl,rfl⟩
  .simp only[am,xw];refine(xW (Ax dZ) (by rw[hl];omega)).mono ?_;rintro v σ' ⟨rfl,rfl⟩;rw[Hr dZ];simp only[am,xw];refine(zL (Ax dZ) (by rw[ae.fT,hl];omega)).mono ?_;rintro v σ' ⟨rfl,rfl⟩;rw[Hr dZ];simp only[am,aB.enc,Le,iE,Nat.reduceAdd];rw[show [V.int .i64 10,.int .i64 0,.aF [],.sl .ba 2 [[.aF (a.1.take 124).2.word.1.aq,.int .i64 (a.1.take 124).2.word.1.pos]],.sl (.tk Z) 5 (a.2.map Nd.enc)]=iE Z ([(a.1.take 124).2.word.1].map aB.enc) (a.2.map Nd.enc) from rfl,ajN];exact aL rfl (uk _ _ _) ⟨rfl,by rw[bx,aE h2]⟩
def ahf:aU prog 217 (sq [rg 0 [oZ 2 [0,0,1,7,10]],sq [rg 5 [om 0,oc 259 [.s 5,.c (.int .u8 91)],nn],ci 7 (sq [rg 8 [om 0,oC 258 [8],oZ 3 [1,0],o2 2 3],rg 10 [fo 1 3,fo 0 3,oG [0,0,1,7,10] [(0,1,.c (.int .i64 1)),(1,1,.s 11),(2,1,.s 13)],o2 5 2],.ret])],rg 15 [oG [0,0,1,7,10] [(0,1,.c (.int .i64 10))],od (aa 4) (.qm [(.int .i64 0),(.int .i64 0),(.aF []),(.sl .ba 2 []),(.sl .ba 5 [])]),o2 5 4],.qf (rg 16 [om 0,oq (.ko (.func 263) [] [(.s 4)]),oc 254 [.s 16,.c (.int .u8 91),.c (.bool ab),.s 17],of 1 4,os 1 19 18]),rg 20 [ol 5 4,o2 5 2],.ret]) [.cell 2 ab 5] 21:=aV func217 ⟨[4],[5]⟩
def atS{a b:af}{C:List V}(h:a.sub b)(k:a.box o=ag):a.sub (b.set o C):=by
 refine⟨λx cs hx=>?_,h.2⟩
 have:x≠o:=by rintro rfl;rw[k] at hx;simp at hx
 rw[af.eQ _ _ this];exact h.1 x cs hx
def ar5{n:Nat}(i:ae):(i.nQ n).1.1.l=i.l:=by
 have Ez:Reads (ae.field n):=Df (Th n);cases h1:i.bW 124
 .cases h2:(eB (cw (ae.field n)) i).1.bW 124<;>simp[ae.nQ,h1,h2,ae.word,ae.fT,Yi Ez]
 .simp[ae.nQ,h1,ae.word,ae.fT]
def ar9{n:Nat}(t:al):(ae.rowOf n t).1.1.l=t.aj:=by
 unfold ae.rowOf;split
 .rfl
 .rw[ar5];rfl
def avX{n:Nat}(h:D.box r=aa rd.enc)(hn:bd rd.l<=n)(hm:bd rd.l+1<=aK):
 dS 217 [.ptr (.out r) 0] D (.agg (rd.row n).1.enc) (D.set r (rd.row n).2.enc):=by
 have hlen:=gm rd.l;refine ahf.aT ?_;simp only[aS,aZ,am];refine(rJ h).mono ?_;rintro v D ⟨rfl,rfl⟩;cases h1:rd.bW 91
 .simp only[am];refine(zL h (by omega)).mono ?_;rintro v σ' ⟨rfl,rfl⟩;simp only[am,aB.enc,Nat.reduceAdd];refine aL rfl (af.bg _) ⟨?_,by simp[ae.row,ae.leaf,h1]⟩;simp[ae.row,ae.leaf,h1,V.erase,aX,Nd.enc,sB]
 .simp only[am];refine kI λo ho=>?_
  have j7:o≠r:=by rintro rfl;rw[h] at ho;simp at ho
  simp only[am];refine bm.tok 0 λZ bc=>⟨_,_,_,eZ.rfl,rfl,λi c hc=>⟨c,hc,eZ.rfl⟩,qY.set (cs:=[.int .i64 10,.int .i64 0,.aF [],.sl .ba 2 [],.sl .ba 5 []]) (cs' := iE Z [] []) (af.eH _ _ _) ⟨j1.same,j1.same,j1.same,j1.same,j1.tok rfl,trivial⟩,?_⟩
  simp only[am];have xa : ((D.set o (iE Z [] [])).aY Z 0).box r=aa rd.enc:=by
   show(D.set o _).box r=_;rw[af.eQ _ _ (fF j7)];exact h
  have aW:∀q,((D.set o (iE Z [] [])).aY Z 0).box q=ag->q≠o/\q≠r/\D.box q=none:=λq hq=>by
   have dZ:q≠o:=by rintro rfl;rw[show((D.set q (iE Z [] [])).aY Z 0).box q=_ from af.eH _ _ _] at hq;simp at hq
   have o6 : D.box q=none:=by rw[<-af.eQ D (iE Z [] []) dZ];exact hq
   exact⟨dZ,by rintro rfl;rw[h] at o6;simp at o6,o6⟩
  have td:bd (rd.take 91).1.aj<=bd rd.l:=(rd.wz 91).1;have awq:=gm (rd.take 91).1.aj;generalize dG:ae.rowOf n (rd.take 91).1=ins;have EC:ins.1.1.l=(rd.take 91).1.aj:=by rw[<-dG];exact ar9 _
  refine(Pz (kind:=91) (by simp[am]) xa (by omega) (by omega) ins.1.1 ((D.set o (iE Z (ins.2.map aB.enc) (ins.1.2.map Nd.enc))).aY Z (ins.1.2.map Nd.enc).length) ?_ ?_ ?_ EC).mono ?_
  .intro cu hc q hq;obtain⟨dZ,lj,_⟩:=aW q hq;have e1:(((D.set o (iE Z [] [])).aY Z 0).set r (rd.take 91).2.enc).set q (rd.take 91).1.inner.enc=hC (D.set r (rd.take 91).2.enc) q o Z (rd.take 91).1.inner [] []:=by
    unfold hC;rw[af.set_comm (b:=q) dZ,af.set_comm (b:=r) (fF j7)];rfl
   have e2:(((D.set o (iE Z (ins.2.map aB.enc) (ins.1.2.map Nd.enc))).aY Z (ins.1.2.map Nd.enc).length).set r (rd.take 91).2.enc).set q ins.1.1.enc=hC (D.set r (rd.take 91).2.enc) q o Z ins.1.1 (ins.2.map aB.enc) (ins.1.2.map Nd.enc):=by
    unfold hC;rw[af.set_comm (b:=q) dZ,af.set_comm (b:=r) (fF j7)];rfl
   have e3:ins=(rd.take 91).1.inner.nQ n:=by
    rw[<-dG,ae.rowOf,aA]
    rcases hc with hc | hc
    .simp at hc
    .exact hc
   rw[e1,e2,e3];exact ar2 dZ rfl rfl (by show bd (rd.take 91).1.aj<=n;omega) (by show bd (rd.take 91).1.aj+1<=aK;omega)
  .intro q1 q2
   have:ins=(((rd.take 91).1.inner,[]),[]):=by rw[<-dG,ae.rowOf,aE q2]
   rw[this];exact⟨rfl,rfl⟩
  .intro q hq;obtain⟨dZ,_,o6⟩:=aW q hq;show(D.set o _).box q=ag;rw[af.eQ _ _ dZ];exact o6
  rintro v σ' hv;have yS:∀(A B:List V) (n:Nat),(D.set r A).sub (((D.set o B).aY Z n).set r A):=λA B n=>by
   refine⟨λb cs hb=>?_,λO m hm=>?_,λ_ _ h=>h⟩
   .have Eu:b≠o:=by rintro rfl;rw[af.eQ _ _ j7,ho] at hb;simp at hb
    by_cases vS:b=r
    .subst vS;rw[af.eH] at hb ⊢;exact hb
    .rw[af.eQ _ _ vS] at hb ⊢;show(D.set o B).box b=_;rw[af.eQ _ _ Eu];exact hb
   .have uy : D.aP O=aa m:=hm;have AK : O≠Z:=by rintro rfl;rw[show(D.set o [V.int .i64 10,.int .i64 0,.aF [],.sl .ba 2 [],.sl .ba 5 []]).aP O=D.aP O from rfl] at bc;rw[bc] at uy;simp at uy
    show((D.set o B).aY Z n).aP O=aa m;rw[qe AK];exact uy
  have cu:(rd.take 91).2.ok=true:=by
   rcases rd.uY 91 with ⟨_,_,e,_,_⟩ | ⟨e,_,_⟩
   .simp[ae.ok,e]
   .rw[h1] at e;simp at e
  rw[aE cu] at hv;obtain⟨rfl,rfl⟩:=hv;have hb:(((D.set o (iE Z (ins.2.map aB.enc) (ins.1.2.map Nd.enc))).aY Z (ins.1.2.map Nd.enc).length).set r ((rd.take 91).2.under ins.1.1).enc).box o=aa (iE Z (ins.2.map aB.enc) (ins.1.2.map Nd.enc)):=by
   rw[af.eQ _ _ j7];exact af.eH _ _ _
  simp only[iE] at hb yS ⊢;simp only[am,hb,Nat.reduceAdd];refine aL rfl (atS (yS _ _ _) (by rw[af.eQ _ _ j7];exact ho)) ⟨?_,by simp[ae.row,h1,dG]⟩;simp[ae.row,h1,dG,V.erase,aX,Nd.enc,Bd]
def agE:aU prog 166 (sq [rg 6 [oz 7,oM [0,0]],rg 11 [om 0,om 1,om 2,oW [10,0,0,0,0] [(0,1,11),(1,1,12),(2,1,13)],oq (.gO 5 (.s 14)),o1 8],rg 17 [om 8,oc 213 [.s 17,.c (.bool ak)],o1 16,oe 16 0,oe 16 1,ot 9 19,o1 10],sq [rg 21 [om 8,oC 214 [21],nn],ci 23 (sq [dg 24 [mk 8,nf 3,nl 2,oU 6 7,o2 2 7],.ret])],rg 28 [om 9,oW [0,0] [],ot 6 28,o2 2 7],.ret]) [.tmp 6,.cell 7 ab 2] 30:=aV func166 ⟨[15],[]⟩
def agH:aU prog 169 (sq [rg 7 [oZ 6 [0,0,1,7,10],oi 0,oM [0,0]],rg 9 [om 0,om 1,om 2,oc 215 [.s 9,.s 10,.s 11,.c (.fn (.func 216) [] [])],oe 12 0,oe 12 1,oe 12 2,os 5 6 13,ot 7 14,o2 2 8],.ret]) [.cell 6 ab 5,.tmp 7,.cell 8 ab 2] 16:=aV func169
def agI:aU prog 170 (sq [rg 7 [oZ 6 [0,0,1,7,10],oi 0,oM [0,0]],rg 9 [om 0,om 1,om 2,oc 215 [.s 9,.s 10,.s 11,.c (.fn (.func 217) [] [])],oe 12 0,oe 12 1,oe 12 2,os 5 6 13,ot 7 14,o2 2 8],.ret]) [.cell 6 ab 5,.tmp 7,.cell 8 ab 2] 16:=aV func170
def ahd:aU prog 215 (sq [rg 9 [oZ 8 [0,0,1,7,10],oi 0,oM [0,0]],rg 13 [om 0,om 1,om 2,oW [10,0,0,0,0] [(0,1,13),(1,1,14),(2,1,15)],oq (.gO 5 (.s 16)),o1 11],rg 18 [om 3,om 11,oq (.iX (.s 18) [(.s 19)]),oZ 12 [0,0,1,7,10],o2 5 12],sq [rg 21 [om 11,oC 214 [21],nn],ci 23 (sq [dg 24 [oW [0,0,1,7,10] [],mk 11,nf 3,mM [1],nl 2,os 5 8 24,oj 9 0,o2 2 10],.ret])],dg 29 [ol 5 12,mk 11,nf 1,mM [1],no,oW [0,0] [],os 5 8 29,ot 9 33,o2 2 10],.ret]) [.cell 8 ab 5,.tmp 9,.cell 10 ab 2] 35:=aV func215 ⟨[17],[]⟩
def jq(b:Option Int):V:=.agg [.int .i64 (df b),.int .i64 (fx b)]
def Zi{one:ae->Nd × ae}{at_ fin:Int}
 (fE:∀q (D:af),D.box q=aa (⟨l,at_,fin,ag⟩:ae).enc->dS g [.ptr (.out q) 0] D (.agg (one ⟨l,at_,fin,ag⟩).1.enc) (D.set q (one ⟨l,at_,fin,ag⟩).2.enc)) :
 a7 215 [.sl .no 5 (b_ l),.int .i64 at_,.int .i64 fin,.fn (.func g) [] []] D (.bt [.agg (fN one l at_ fin).1.enc,.int .i64 (fN one l at_ fin).2.1,jq (fN one l at_ fin).2.2]):=by
 refine ahd.aT ?_;simp only[aS,aZ,am];refine kI λq hq=>?_
 rw[show [V.sl .no 5 (b_ l),.int .i64 at_,.int .i64 fin,.int .i64 0,.int .i64 0]=(⟨l,at_,fin,ag⟩:ae).enc from rfl];simp only[am];refine(fE q _ (af.eH _ _ _)).mono ?_;rintro v σ' ⟨rfl,rfl⟩;have hb:=af.eH D q (one ⟨l,at_,fin,ag⟩).2.enc;have bx:fN one l at_ fin=match (one ⟨l,at_,fin,ag⟩).2.aG with | some b=>(.zero,0,aa b) | none=>((one ⟨l,at_,fin,ag⟩).1,(one ⟨l,at_,fin,ag⟩).2.at_,ag):=rfl
 generalize one ⟨l,at_,fin,ag⟩=o at hb bx ⊢;simp only[am,Nd.len,Nd.one,Nd.Fz];refine(xL (af.eH _ _ _)).mono ?_;rintro v σ' ⟨rfl,rfl⟩;cases h:o.2.aG with
 | some b =>
  simp only[am,ae.ok,h,Option.isNone,ae.ex,Nat.reduceAdd];rw[h] at bx;refine aL rfl (iS hq) ⟨?_,rfl⟩;simp[bx,V.erase,aX,Nd.zero,Nd.enc,sB,jq]
 | none =>
  simp only[am,ae.ok,h,Option.isNone,ae.ex,Nat.reduceAdd,Nd.len,Nd.one,Nd.Fz,Nd.tk];rw[h] at bx;refine aL (by simp only[am,Nd.cY]) (iS hq) ⟨?_,rfl⟩;simp[bx,V.erase,aX,jq,Nd.er,df,fx]
def Zu{n:Nat}{at_ fin:Int}(hn:bd l<=n)(hm:bd l+1<=aK):
 a7 169 [.sl .no 5 (b_ l),.int .i64 at_,.int .i64 fin] D (.bt [.agg (fN (ae.label n) l at_ fin).1.enc,.int .i64 (fN (ae.label n) l at_ fin).2.1,jq (fN (ae.label n) l at_ fin).2.2]):=by
 refine agH.aT ?_;simp only[aS,aZ,am];refine(Zi (one:=ae.label n) (λq D h=>al_ n h hn hm)).mono ?_;rintro v D ⟨rfl,rfl⟩;generalize fN (ae.label n) l at_ fin=o;simp only[am,jq,Nd.len,Nd.Fz,Nd.tk,Nd.one];refine aL (by simp only[am,Nd.cY]) (af.bg _) ⟨?_,rfl⟩;simp[V.erase,aX,Nd.er]
def ZM{n:Nat}{at_ fin:Int}(hn:bd l<=n)(hm:bd l+1<=aK):
 a7 170 [.sl .no 5 (b_ l),.int .i64 at_,.int .i64 fin] D (.bt [.agg (fN (ae.row n) l at_ fin).1.enc,.int .i64 (fN (ae.row n) l at_ fin).2.1,jq (fN (ae.row n) l at_ fin).2.2]):=by
 refine agI.aT ?_;simp only[aS,aZ,am];refine(Zi (one:=ae.row n) (λq D h=>avX (n:=n) h hn hm)).mono ?_;rintro v D ⟨rfl,rfl⟩;generalize fN (ae.row n) l at_ fin=o;simp only[am,jq,Nd.len,Nd.Fz,Nd.tk,Nd.one];refine aL (by simp only[am,Nd.cY]) (af.bg _) ⟨?_,rfl⟩;simp[V.erase,aX,Nd.er]
def ZR{at_ fin:Int}(hm:bd l+1<=aK):
 a7 166 [.sl .no 5 (b_ l),.int .i64 at_,.int .i64 fin] D (.bt [.sl .no 2 ((jS l at_ fin).1.map aB.enc),jq (jS l at_ fin).2]):=by
 have hlen:=gm l;refine agE.aT ?_;simp only[aS,aZ,am];refine kI λq hq=>?_
 rw[show [V.sl .no 5 (b_ l),.int .i64 at_,.int .i64 fin,.int .i64 0,.int .i64 0]=(⟨l,at_,fin,ag⟩:ae).enc from rfl];simp only[am];refine(PI (af.eH _ _ _) (by simp only;omega) (A2 hm rfl)).mono ?_;rintro v σ' ⟨rfl,rfl⟩;have hb:=af.eH D q ((⟨l,at_,fin,ag⟩:ae).words ak).2.enc;have bx:jS l at_ fin=match ((⟨l,at_,fin,ag⟩:ae).words ak).2.aG with | some b=>([],aa b) | none=>(((⟨l,at_,fin,ag⟩:ae).words ak).1.1,ag):=rfl
 generalize (⟨l,at_,fin,ag⟩:ae).words ak=o at hb bx ⊢;simp only[am];refine(xL (af.eH _ _ _)).mono ?_;rintro v σ' ⟨rfl,rfl⟩;cases h:o.2.aG with
 | some b =>
  simp only[am,ae.ok,h,Option.isNone,ae.ex,Nat.reduceAdd];rw[h] at bx;refine aL rfl (iS hq) ⟨?_,rfl⟩;simp[bx,V.erase,aX,jq]
 | none =>
  simp only[am,ae.ok,h,Option.isNone];rw[h] at bx;refine aL rfl (iS hq) ⟨?_,rfl⟩;simp[bx,V.erase,aX,jq,df,fx]
def ags:aU prog 150 (sq [rg 6 [oz 2],rg 7 [om 1,nB .geq 0,gA,om 1,om 0,nL,nb .lss 10,gZ,gA,om 0,om 1,nA 5 16,nf 0,nF 0,om 2,nb .eql 21,gZ,o1 6],.ret]) [.tmp 6] 25:=aV func150
def agt:aU prog 151 (sq [rg 0 [oZ 6 [0,0,1,7,10,0,2,0]],sq [rg 7 [om 1,nB .geq 0,gA,om 1,om 0,nL,nb .lss 10,gZ],cr 14 15 [om 0,om 1,nA 5 15,nf 0,nF 2,oG [0,0,1,7,10,0,2,0] [(6,1,.c (.bool ab)),(7,1,.s 20)],o2 8 6]],rg 22 [om 2,oG [0,0,1,7,10,0,2,0] [(6,1,.c (.bool ab)),(7,1,.s 22)],o2 8 6],.ret]) [.cell 6 ab 8] 24:=aV func151
def SQ:aU prog 155 (sq [rg 8 [oz 10,oM [0,0,1,7,10,0,2,0]],rg 10 [oz 10],bl 0 (.block 1 (sq [rg 12 [om 0,om 1,om 2,om 3,oC 156 [12,13,14,15],oZ 11 [0,0,1,7,10,0,2,0],o2 8 11],sq [rg 17 [fo 6 11],ci 18 (sq [dg 19 [ol 8 11,oU 8 10,o2 8 9],.ret])],rg 20 [om 10,of 0 11,nl 5,n1 5,na 5 20,o1 10],sq [rg 25 [om 1,fo 5 11,oc 150 [.s 25,.s 27,.c (.int .u8 44)],nn],ci 29 (sq [dg 30 [om 10,ol 8 11,ot 8 30,o2 8 9],.ret])],rg 32 [fo 5 11,nB .add 1,o1 2]]))]) [.tmp 8,.cell 9 ab 8] 35:=aV func155
def Ci:aU prog 156 (sq [rg 0 [oZ 8 [0,0,1,7,10,0,2,0]],sq [rg 9 [om 0],.block 0 (sq [rg 11 [oB .eql 9 1,o1 10],cd 10 (sq [rg 12 [om 1,om 2,om 3,oC 154 [12,13,14],o2 8 8],.ret]) (sq [rg 17 [oB .eql 9 2,o1 16],cd 16 (sq [rg 18 [om 1,om 2,om 3,oC 209 [18,19,20],o2 8 8],.ret]) (sq [rg 23 [oB .eql 9 3,o1 22],cd 22 (sq [rg 24 [om 1,om 2,om 3,oC 94 [24,25,26],o2 8 8],.ret]) (sq [rg 29 [oB .eql 9 4,o1 28],cd 28 (sq [rg 30 [om 1,om 2,om 3,oC 210 [30,31,32],o2 8 8],.ret]) (sq [rg 35 [oB .eql 9 5,o1 34],ci 34 (sq [sq [rg 36 [om 1,om 2,oc 150 [.s 36,.s 37,.c (.int .u8 43)],gB,om 1,om 2,oc 150 [.s 40,.s 41,.c (.int .u8 38)],gZ],cr 43 44 [om 1,om 2,om 3,oC 151 [44,45,46],o2 8 8]],rg 48 [om 1,om 2,om 3,oC 94 [48,49,50],o2 8 8],.ret])])])])])])],sq [rg 52 [om 1,om 2,oc 150 [.s 52,.s 53,.c (.int .u8 97)],nn],cr 55 56 [om 1,om 2,om 3,oC 151 [56,57,58],o2 8 8]],dg 60 [om 1,om 2,nA 5 60,nf 0,nF 2,om 1,om 2,nA 5 66,nf 0,nF 1,oW [0,0,1,7,10] [(1,1,65),(2,1,71)],om 2,nB .add 1,oW [0,0,1,7,10,0,2,0] [(0,5,72),(5,1,74)],o2 8 8],.ret]) [.cell 8 ab 8] 76:=aV func156
def gR(l:List al)(i:Int)(k:Int)(D:af):a7 150 [.sl .no 5 (b_ l),.int .i64 i,.int .u8 k] D (.bool (a8 l i k)):=by
 refine ags.go ?_
 by_cases h0:0<=i
 .simp only[am,h0,bL,dt]
  by_cases h1:i<l.length
  .obtain⟨j,rfl⟩:=wK h0;have hj:j<l.length:=by omega
   simp only[am,bL,h1,bL];refine qD h0 (c:=l[j].enc) (by simp[n_,hj]) ?_;simp only[am,cJ];refine aH ?_;simp[V.erase,a8,hj]
  .simp only[am,c7,h1,c7]
   have:l[i.toNat]?=none:=sP (by omega)
   refine aH ?_;simp[V.erase,a8,this]
 .simp only[am,c7,h0,c7];refine aH ?_;simp[V.erase,a8,h0]
def lX(l:List al)(i fin:Int)(D:af):a7 151 [.sl .no 5 (b_ l),.int .i64 i,.int .i64 fin] D (.agg (dr l i fin).enc):=by
 refine agt.go ?_
 by_cases h0:0<=i
 .simp only[am,h0,bL,dt]
  by_cases h1:i<l.length
  .obtain⟨j,rfl⟩:=wK h0;have hj:j<l.length:=by omega
   simp only[am,bL,h1,bL];refine qD h0 (c:=l[j].enc) (by simp[n_,hj]) ?_;simp only[am,Nat.reduceAdd,cJ,Nat.reduceAdd];refine aH ?_;simp[V.erase,aX,dr,jP,br.enc,Nd.zero,Nd.kind,Nd.pos,Nd.aq,Nd.an,Nd.aj,hj]
  .simp only[am,Nat.reduceAdd,c7,h1,c7]
   have:l[i.toNat]?=none:=sP (by omega)
   refine aH ?_;simp[V.erase,aX,dr,jP,br.enc,Nd.zero,Nd.kind,Nd.pos,Nd.aq,Nd.an,Nd.aj,this]
 .simp only[am,Nat.reduceAdd,c7,h0,c7];refine aH ?_;simp[V.erase,aX,dr,jP,br.enc,Nd.zero,Nd.kind,Nd.pos,Nd.aq,Nd.an,Nd.aj,h0]
def IG(l:List al)(i fin:Int)(D:af)(hb:l.length<=aK):a7 156 [.int .i64 6,.sl .no 5 (b_ l),.int .i64 i,.int .i64 fin] D (.agg (nameAt l i fin).enc):=by
 refine Ci.go ?_;simp only[am,show decide ((6:Int)=1)=ak from rfl,show decide ((6:Int)=2)=ak from rfl,show decide ((6:Int)=3)=ak from rfl,show decide ((6:Int)=4)=ak from rfl,show decide ((6:Int)=5)=ak from rfl];refine cl (gR l i 97 D) ?_;cases h:a8 l i 97
 .simp only[am];refine cl (lX l i fin D) ?_;simp only[am,Nat.reduceAdd,br.enc];refine aH ?_;simp[V.erase,aX,nameAt,h]
 .obtain⟨j,t,rfl,hj,hk,hl⟩:=iB h;simp only[aK] at hb;simp only[am];refine ix (gz hj) ?_;simp only[am,cJ];refine ix (gz hj) ?_;simp only[am,Nat.reduceAdd,cJ,Nat.reduceAdd];rw[wrap_i64];refine aH ?_;simp[V.erase,aX,nameAt,h,br.enc,fC,hj,Nd.kind,Nd.pos,Nd.aq,Nd.an,Nd.aj]
def an6{at_:Nat}{fin:Int}{g:br}(h:nameAt l at_ fin=g)(hb:g.aG=ak):g.next=(at_:Int)+1/\at_<l.length:=by
 unfold nameAt at h;split at h
 .rename_i hk;obtain⟨j,t,e,_,_,hl⟩:=iB hk;subst h;exact⟨rfl,by omega⟩
 .subst h;simp[dr] at hb
def C_:List V:=[.int .i64 0,.int .i64 0,.aF [],.sl .ba 2 [],.sl .ba 5 [],.int .i64 0,.bool ak,.int .i64 0]
def MY(l:List al)(fin:Int)(D:af)(at_ Z:Nat)(out:List Nd):St :=
 ⟨[.int .i64 6,.sl .no 5 (b_ l),.int .i64 (at_:Nat),.int .i64 fin]++ar 4 .any++[.any,.ptr (.aD 0) 0,.sl (.tk Z) 5 (out.map Nd.enc)]++ar 24 .any,[C_],D.aY Z out.length⟩
def atp(l:List al)(fin:Int)(D:af)(hb:l.length+1<=aK):a7 155 [.int .i64 6,.sl .no 5 (b_ l),.int .i64 0,.int .i64 fin] D (.bt [.sl .no 5 ((dq (λi=>nameAt l i fin) l (l.length+1) 0 []).1.map Nd.enc),.agg (dq (λi=>nameAt l i fin) l (l.length+1) 0 []).2.enc]):=by
 generalize hR:dq (λi=>nameAt l i fin) l (l.length+1) 0 []=R;refine SQ.go ?_
 let I:{p:Nat × Nat × Nat × List Nd // D.aP p.2.2.1=ag/\dq (λi=>nameAt l i fin) l p.1 (p.2.1:Nat) p.2.2.2=R/\p.2.2.2.length<=p.2.1/\p.2.1<=l.length/\l.length+1<=p.2.1+p.1}->St:=λp=>MY l fin D p.1.2.1 p.1.2.2.1 p.1.2.2.2
 refine gn I (λp=>p.1.1) ?_ ?_
 .refine bm.sH 0 λZ bc=>⟨⟨(l.length+1,0,Z,[]),bc,hR,by simp,by simp,by simp⟩,?_,rfl,rfl⟩
  simp[I,MY,ar,kJ]
 .rintro⟨⟨m,at_,Z,out⟩,bc,hR,h1,h2,h3⟩;simp only at bc hR h1 h2 h3;have hm:∃k,m=k+1:=⟨m - 1,by omega⟩;obtain⟨m,rfl⟩:=hm;simp only[I,MY,ar,am,C_];refine(IG l at_ fin _ (by omega)).mono ?_;rintro v σ' ⟨rfl,rfl⟩;simp only[dq] at hR;generalize hg:nameAt l at_ fin=g at *;simp only[am,Nat.reduceAdd,br.enc,Nat.reduceAdd];cases bU:g.aG
  .rw[bU] at hR;simp only[am,Nat.reduceAdd];have hK:=an6 hg bU;refine iy (by simp;omega) (by simp[gw]) ?_;simp only[am,aR,gJ];refine(gR l g.next 44 _).mono ?_;rintro v σ' ⟨rfl,rfl⟩;cases mf:a8 l g.next 44
   .simp only[am,Nat.reduceAdd];refine aL rfl (jQ bc) ⟨?_,rfl⟩;rw[mf] at hR;simp only[da,bZ] at hR;simp[V.erase,aX,<-hR,bU,Nd.cJ]
   .obtain⟨j,t,hj,hjt,hk,ur⟩:=iB mf;simp only[aK] at hb;simp only[am];rw[wrap_i64];rw[mf] at hR;simp only[da,bZ,cm] at hR;refine bm.ql ⟨(m,at_+2,Z,out++[g.node]),bc,?_,by simp;omega,by simp only;omega,by simp only;omega⟩ (by simp) ?_ ?_ ?_ rfl rfl
    .rw[<-hR];congr 1;simp only;omega
    .simp[am,Nd.cJ];omega
    .simp[am]
    .simp[bK.rfl]
  .rw[bU] at hR;simp only[am,Nat.reduceAdd];refine aL rfl (jQ bc) ⟨?_,rfl⟩;simp[V.erase,aX,<-hR,bU]
def ajb:aU prog 92 (sq [rg 6 [oz 7,oM [0,0,1,7,10,0,2,0]],sq [rg 10 [om 0,om 1,oc 150 [.s 10,.s 11,.c (.int .u8 123)],nn],cr 13 14 [om 0,om 1,om 2,oC 151 [14,15,16],oU 6 7,o2 8 7]],rg 19 [om 0,om 1,nA 5 19,nl 5,oc 152 [.c (.int .i64 6),.s 22,.c (.bool ak)],o1 18,oe 18 0,oe 18 1,oZ 9 [0,0,1,7,10,0,2,0],ot 8 24,o2 8 9],dg 26 [om 8,oC 153 [26],mM [0],ol 8 9,ot 6 27,o2 8 7],.ret]) [.tmp 6,.cell 7 ab 8] 29:=aV func92
def SO:aU prog 152 (sq [rg 6 [ox 4 5 1,oz 10,oM [0,0,1,7,10,0,2,0]],sq [rg 10 [om 2,gA,fo 3 4,nL,nB .eql 0,gZ],cr 16 17 [oW [0,0,1,7,10,0,2,0] [],oU 6 10,o2 8 7]],rg 19 [om 0,fo 3 4,fo 4 4,oc 155 [.s 19,.s 21,.c (.int .i64 0),.s 23],o1 18,oe 18 0,oe 18 1,oZ 9 [0,0,1,7,10,0,2,0],ot 8 25,o2 8 9],sq [rg 27 [fo 6 9,nn,gA,fo 5 9,fo 3 4,nL,nb .lss 32,gZ],cr 37 38 [fo 3 4,fo 5 9,fo 4 4,oC 151 [39,41,43],oU 6 10,o2 8 7]],dg 45 [om 8,ol 8 9,ot 6 45,o2 8 7],.ret]) [.tmp 6,.cell 7 ab 8] 47:=aV func152
def agu:aU prog 153 (sq [rg 2 [oz 7],rg 3 [oz 7],sq [rg 4 [oi 0],bl 0 (sq [sq [rg 5 [nm,om 0,nL,nb .lss 5],cx 8 0],.block 1 (dg 11 [om 3,om 0,om 4,nA 5 12,nF 2,om 0,om 4,nA 5 17,nF 1,oW [1,0] [(0,1,16),(1,1,21)],n1 2,na 2 11,o1 3]),rg 9 [ic 4]])],rg 25 [om 3,o1 2],.ret]) [.tmp 2] 26:=aV func153
def MR(l:List Nd)(D:af)(i Z:Nat):St :=
 ⟨[.sl .no 5 (l.map Nd.enc),.any,.any,.sl (.tk Z) 2 ((jT (l.take i)).map aB.enc),.int .i64 (i:Nat)]++ar 21 .any,[],D.aY Z i⟩
def C8(l:List Nd)(D:af)(hb:l.length<=aK):a7 153 [.sl .no 5 (l.map Nd.enc)] D (.sl .no 2 ((jT l).map aB.enc)):=by
 refine agu.aT ?_;simp only[aS,am,aZ,Nat.reduceAdd];refine gn (λp:{p:Nat × Nat // D.aP p.2=ag/\p.1<=l.length}=>MR l D p.1.1 p.1.2) (λp=>l.length - p.1.1) ?_ ?_
 .refine bm.sH 0 λZ bc=>⟨⟨(0,Z),bc,by simp⟩,?_,rfl,rfl⟩
  simp[MR,ar,kJ,jT]
 .rintro⟨⟨i,Z⟩,bc,hi⟩;simp only at bc hi;simp only[MR,ar,am,aR];refine eR ?_ ?_
  .intro aC;have aC:i<l.length:=by simpa using aC
   have hn:l[i]?=aa l[i]:=by simp[aC]
   have qA:(jT (l.take i)).length=i:=by simp[jT];omega
   simp only[aK] at hb;simp only[am];refine ix (o_ hn) ?_;simp only[am,Nd.cJ];refine ix (o_ hn) ?_;simp only[am,Nat.reduceAdd,Nd.cJ,Nat.reduceAdd];refine vt (by rw[aR,qA];simp[aK];omega) (by rw[aR,gw,qA]) ?_;simp only[am,aR,gJ];rw[wrap_i64];refine bm.again ⟨(i+1,Z),bc,aC⟩ (by simp;omega) ?_ cC.rfl (by rw[qA];exact bK.rfl);have e:(jT (l.take (i+1))).map aB.enc=(jT (l.take i)).map aB.enc++[[.aF l[i].aq,.int .i64 l[i].pos]]:=by rw[Bw hn];simp only[jT,gy,ch,fh,aB.enc]
   simp only[am,e];simp
  .intro aC;have aC:i=l.length:=by simp at aC;omega
   subst aC;simp only[am];refine aL rfl (jQ bc) ⟨?_,rfl⟩;simp[V.erase]
def Px(t:al)(empty:Bool)(D:af)(hb:t.aj.length+1<=aK):a7 152 [.int .i64 6,.agg t.enc,.bool empty] D (.bt [.sl .no 5 ((wholeAt nameAt t empty).1.map Nd.enc),.agg (wholeAt nameAt t empty).2.enc]):=by
 refine SO.aT ?_;simp only[aS,am,aZ,cJ,Nat.reduceAdd];have main:∀(aW:¬(empty=ab/\t.aj.length=0)),wholeAt nameAt t empty=if (dq (λi=>nameAt t.aj i t.fin) t.aj (t.aj.length+1) 0 []).2.aG=ak/\(dq (λi=>nameAt t.aj i t.fin) t.aj (t.aj.length+1) 0 []).2.next<t.aj.length then([],dr t.aj (dq (λi=>nameAt t.aj i t.fin) t.aj (t.aj.length+1) 0 []).2.next t.fin) else(dq (λi=>nameAt t.aj i t.fin) t.aj (t.aj.length+1) 0 []):=λaW=>by
  unfold wholeAt;rw[aA aW]
 by_cases hc:empty=ab/\t.aj.length=0
 .obtain⟨rfl,hk⟩:=hc;simp only[am,Nat.reduceAdd,dt,bL,dt,hk,sO,bL];refine aL rfl (af.bg _) ⟨?_,rfl⟩;simp[V.erase,aX,wholeAt,hk,br.enc,Nd.zero,Nd.kind,Nd.pos,Nd.aq,Nd.an,Nd.aj]
 .have main:=main hc;cases empty
  case' true =>
   have hk:¬((t.aj.length:Int)=0):=by simp at hc ⊢;exact hc
   simp only[am,dt,c7,dt,hk,c7]
  case' false =>
   simp only[am]
  all_goals
   refine cl (atp t.aj t.fin D hb) ?_;generalize (dq (λi=>nameAt t.aj i t.fin) t.aj (t.aj.length+1) 0 [])=R at main ⊢;simp only[am,Nat.reduceAdd,br.enc,Nat.reduceAdd];cases bU:R.2.aG
   .simp only[am,dt]
    by_cases hn:R.2.next<t.aj.length
    .simp only[am,bL,hn,bL];refine cl (lX t.aj R.2.next t.fin D) ?_;simp only[am,Nat.reduceAdd,br.enc];refine aH ?_;simp[V.erase,aX,main,bU,hn]
    .simp only[am,Nat.reduceAdd,c7,hn,c7];refine aH ?_;simp[V.erase,aX,main,bU,hn]
   .simp only[am,Nat.reduceAdd];refine aH ?_;simp[V.erase,aX,main,bU]
def ZS(l:List al)(i fin:Int)(D:af)(hm:bd l+1<=aK):a7 92 [.sl .no 5 (b_ l),.int .i64 i,.int .i64 fin] D (.bt [.sl .no 2 ((lU l i fin).1.map aB.enc),.agg (lU l i fin).2.enc]):=by
 refine ajb.aT ?_;simp only[aS,am,aZ,Nat.reduceAdd];refine cl (gR l i 123 D) ?_;cases h:a8 l i 123
 .simp only[am];refine cl (lX l i fin D) ?_;simp only[am,Nat.reduceAdd,br.enc];refine aH ?_;simp[V.erase,aX,lU,h]
 .obtain⟨j,t,rfl,hj,hk,hl⟩:=iB h;have ht:bJ l (j:Nat)=t:=by simp[bJ,hj]
  have hmk:t.aj.length+1<=bd l:=by
   have h1:=NI hl;have h2:=gm t.aj;have h3:l[j]=t:=by rw[cS hl] at hj;simpa using hj
   rw[h3] at h1;omega
  simp only[am];refine ix (gz hj) ?_;simp only[am,al.au];refine cl (Px t ak D (by omega)) ?_;have bx:lU l (j:Nat) fin=(jT (wholeAt nameAt t ak).1,(wholeAt nameAt t ak).2):=by simp[lU,h,ht]
  have hlen:(wholeAt nameAt t ak).1.length<=t.aj.length+1:=Py t ak;generalize wholeAt nameAt t ak=R at bx hlen ⊢;simp only[am,Nat.reduceAdd,br.enc];refine bE.intro (C8 R.1 D (by omega)) ?_;simp only[am,Nat.reduceAdd];refine aH ?_;simp[V.erase,aX,bx]
def ai6:aU prog 79 (sq [rg 2 [oz 2],sq [rg 4 [om 0,nT,nB .lss 1,gB,om 0,nT,nB .gtr 16,gZ,gB,om 0,oq (.tB (.s 13) (.c (.int .i64 0))),oC 143 [14],nn,gZ],cr 17 2 [oz 2]],sq [rg 3 [oi 1],bl 0 (sq [sq [rg 18 [om 3,om 0,nT,nb .lss 18],cx 21 0],.block 1 (sq [rg 24 [om 0,om 3,nS 24,oC 143 [26],nn,nm,og 29 (om 0),og 29 (om 3),og 29 (nS 30),og 29 (nu .lss 48),og 29 (nm),oh 34 (om 0),oh 34 (om 3),oh 34 (nS 35),oh 34 (nu .gtr 57),og 29 (oq (.pick (.s 34) (.c (.bool ab)) (.s 38))),oy 29 39,gA,om 0,om 3,nS 42,nu .neq 95,gZ],cr 46 2 [oz 2]]),rg 22 [ic 3]])],rg 2 [oq (.mv (.c (.bool ab)))],.ret]) [.tmp 2] 47:=aV func79
def agm:aU prog 143 (sq [rg 2 [oz 2],rg 3 [om 0,nu .geq 97,gA,om 0,nu .leq 122,gZ,o1 2],.ret]) [.tmp 2] 9:=aV func143
def agn:aU prog 146 (sq [rg 2 [oz 2],rg 3 [om 0,nu .geq 97,gA,om 0,nu .leq 122,gZ,nm,oh 9 (om 0),oh 9 (nu .geq 48),oh 9 (nm),og 12 (om 0),og 12 (nu .leq 57),oh 9 (oy 12 14),oq (.pick (.s 9) (.c (.bool ab)) (.s 15)),gB,om 0,nu .eql 95,gZ,o1 2],.ret]) [.tmp 2] 21:=aV func146
def ago:aU prog 147 (sq [rg 2 [oz 3],sq [rg 3 [om 0,nu .eql 40],cr 4 2 [oq (.mv (.c (.int .u8 41)))]],sq [rg 5 [om 0,nu .eql 123,gB,om 0,nu .eql 91,gZ],cr 10 11 [om 0,nu .add 2,o1 2]],rg 2 [oz 3],.ret]) [.tmp 2] 13:=aV func147
def agp:aU prog 148 (sq [rg 2 [oz 2],rg 3 [om 0,nu .eql 41,gB,om 0,nu .eql 125,gZ,gB,om 0,nu .eql 93,gZ,o1 2],.ret]) [.tmp 2] 13:=aV func148
def agz:aU prog 161 (sq [rg 2 [oz 2],sq [rg 4 [om 0,oq (.pA .eql (.s 4) (.c (.aF []))),gB,om 0,nT,nB .gtr 16,gZ,gB,om 0,oq (.tB (.s 12) (.c (.int .i64 0))),oC 211 [13],nn,gZ],cr 16 2 [oz 2]],sq [rg 17 [om 0,nT,oi 0],lp 18 0 (sq [rg 21 [om 19,o1 3],rg 22 [om 0,om 3,nS 22,oC 212 [24],nn],cr 26 2 [oz 2]]) 27],rg 2 [oq (.mv (.c (.bool ab)))],.ret]) [.tmp 2] 28:=aV func161
def ag':aU prog 211 (sq [rg 2 [oz 2],rg 3 [om 0,nu .geq 97,gA,om 0,nu .leq 122,gZ,o1 2],.ret]) [.tmp 2] 9:=aV func211
def aha:aU prog 212 (sq [rg 2 [oz 2],rg 3 [om 0,oC 211 [3],nm,oh 5 (om 0),oh 5 (nu .geq 48),oh 5 (nm),og 8 (om 0),og 8 (nu .leq 57),oh 5 (oy 8 10),oq (.pick (.s 5) (.c (.bool ab)) (.s 11)),gB,om 0,nu .eql 95,gZ,o1 2],.ret]) [.tmp 2] 17:=aV func212
def n5:=ah @am <| ah @jm <| ah @cV <| ah @dt <| ah @bL <| ah @c7 <| ah @al.au <| ah @Nd.au <| ah @aB.au @br.au
def Vc(c:Int)(D:af):a7 211 [.int .u8 c] D (.bool (rD c)):=by
 refine ag'.aT ?_;simp only[aS,am,aZ,Nat.reduceAdd]
 repeat' (first
  | (refine jH (λh=>?_) (λh=>?_)<;>simp only[am,h])
  | (refine eR (λh=>?_) (λh=>?_)<;>simp only[n5,h,Nat.reduceAdd,Nat.reduceEqDiff,aR])
  | (refine jL (λh=>?_) (λh=>?_)<;>simp only[n5,h,Nat.reduceAdd,Nat.reduceEqDiff,aR])
 )
 all_goals refine aH ?_
 all_goals simp_all [V.erase,rD]
 all_goals (try omega)
def Vb(c:Int)(D:af):a7 143 [.int .u8 c] D (.bool (rD c)):=by
 refine agm.aT ?_;simp only[aS,am,aZ,Nat.reduceAdd]
 repeat' (first
  | (refine jH (λh=>?_) (λh=>?_)<;>simp only[am,h])
  | (refine eR (λh=>?_) (λh=>?_)<;>simp only[n5,h,Nat.reduceAdd,Nat.reduceEqDiff,aR])
  | (refine jL (λh=>?_) (λh=>?_)<;>simp only[n5,h,Nat.reduceAdd,Nat.reduceEqDiff,aR])
 )
 all_goals refine aH ?_
 all_goals simp_all [V.erase,rD]
 all_goals (try omega)
def aj2(c:Int)(D:af):a7 212 [.int .u8 c] D (.bool (rf c)):=by
 refine aha.aT ?_;simp only[aS,am,aZ,Nat.reduceAdd];refine cl (Vc c D) ?_;simp only[am]
 repeat' (first
  | (refine jH (λh=>?_) (λh=>?_)<;>simp only[am,h])
  | (refine eR (λh=>?_) (λh=>?_)<;>simp only[n5,h,Nat.reduceAdd,Nat.reduceEqDiff,aR])
  | (refine jL (λh=>?_) (λh=>?_)<;>simp only[n5,h,Nat.reduceAdd,Nat.reduceEqDiff,aR])
 )
 all_goals refine aH ?_
 all_goals simp_all [V.erase,rf]
 all_goals (try omega)
def aj0(c:Int)(D:af):a7 146 [.int .u8 c] D (.bool (rf c)):=by
 refine agn.aT ?_;simp only[aS,am,aZ,Nat.reduceAdd]
 repeat' (first
  | (refine jH (λh=>?_) (λh=>?_)<;>simp only[am,h])
  | (refine eR (λh=>?_) (λh=>?_)<;>simp only[n5,h,Nat.reduceAdd,Nat.reduceEqDiff,aR])
  | (refine jL (λh=>?_) (λh=>?_)<;>simp only[n5,h,Nat.reduceAdd,Nat.reduceEqDiff,aR])
 )
 all_goals refine aH ?_
 all_goals simp_all [V.erase,rf,rD]
 all_goals (try omega)
def G2(c:Int)(D:af):a7 147 [.int .u8 c] D (.int .u8 (closing c)):=by
 refine ago.aT ?_;simp only[aS,am,aZ,Nat.reduceAdd]
 repeat' (first
  | (refine jH (λh=>?_) (λh=>?_)<;>simp only[am,h])
  | (refine eR (λh=>?_) (λh=>?_)<;>simp only[am,h])
  | (refine jL (λh=>?_) (λh=>?_)<;>simp only[n5,h,Nat.reduceAdd,Nat.reduceEqDiff,aR])
 )
 all_goals refine aH ?_
 all_goals simp_all [V.erase,closing,show IntKind.u8.wrap 125=125 from rfl,show IntKind.u8.wrap 93=93 from rfl]
 all_goals (try omega)
def Rt(c:Int)(D:af):a7 148 [.int .u8 c] D (.bool (j5 c)):=by
 refine agp.aT ?_;simp only[aS,am,aZ,Nat.reduceAdd]
 repeat' (first
  | (refine jH (λh=>?_) (λh=>?_)<;>simp only[am,h])
  | (refine eR (λh=>?_) (λh=>?_)<;>simp only[n5,h,Nat.reduceAdd,Nat.reduceEqDiff,aR])
  | (refine jL (λh=>?_) (λh=>?_)<;>simp only[n5,h,Nat.reduceAdd,Nat.reduceEqDiff,aR])
 )
 all_goals refine aH ?_
 all_goals simp_all [V.erase,j5]
 all_goals (try omega)
variable{s:List UInt8}
def uW(h:i<s.length):s[((i:Nat):Int).toNat]?=aa s[i]:=by simp[h]
def MZ(s:List UInt8)(D:af)(i:Nat):St :=
 ⟨[.aF s]++ar 17 .any++[.int .i64 s.length,.int .i64 (i:Nat)]++ar 8 .any,[],D⟩
def DY{f:UInt8->Bool}(h:i<s.length):(s.take (i+1)).all f=((s.take i).all f&&f s[i]):=by
 rw[Bw (cS h),JR];simp only[ve,P4,wH]
def VN(h:s.length<=16)(h1:0<s.length):dx s=(sA s[0]&&s.all fq):=by
 cases s with
 | nil=>simp at h1
 | cons c r =>
  simp only[dx,h,bL,lD,List.getElem_cons_zero,ve];cases hc:sA c
  .simp
  .have:fq c=true:=by simp only[sA] at hc;simp[fq,rf,hc]
   simp[this]
def uI(s:List UInt8)(D:af):a7 161 [.aF s] D (.bool (dx s)):=by
 refine agz.aT ?_;simp only[aS,am,aZ,Nat.reduceAdd]
 by_cases h0:s=[]
 .subst h0;simp only[am,bL];refine aH ?_;simp[V.erase,dx]
 .have gi:0<s.length:=by cases s with | nil=>exact absurd rfl h0 | cons _ _=>simp
  simp only[am,c7,h0]
  by_cases yJ:s.length<=16
  .have e:decide ((16:Int)<s.length)=false:=by simp;omega
   simp only[am,e];refine rA (c:=s[0]) (by simp[gi]) ?_;simp only[am];refine cl (Vc s[0].toNat D) ?_;have hl:dx s=(sA s[0]&&s.all fq):=VN yJ gi;cases hb:rD (s[0].toNat:Nat)
   .have cc : sA s[0]=false:=hb;simp only[am];refine aH ?_;simp[V.erase,hl,cc]
   .have cc : sA s[0]=true:=hb;simp only[am];refine gn (λp:{i:Nat // i<=s.length/\(s.take i).all fq=ab}=>MZ s D p.1) (λp=>s.length - p.1) ?_ ?_
    .refine bm.enter ⟨0,by simp,by simp⟩ ?_ cC.rfl bK.rfl;simp[MZ,ar,am]
    .rintro⟨i,hi,ha⟩;simp only[MZ,ar,am];refine eR ?_ ?_
     .intro aC;have aC:i<s.length:=by simpa using aC
      simp only[am];refine rA (uW aC) ?_;simp only[am];refine cl (aj2 s[i].toNat D) ?_;cases hg:rf (s[i].toNat:Nat)
      .have rl : fq s[i]=false:=hg;simp only[am];refine aL rfl (af.bg _) ⟨?_,rfl⟩
       have:s.all fq=false:=by
        rw[Gi];exact⟨s[i],fg aC,by simp[rl]⟩
       simp[V.erase,hl,this]
      .simp only[am];rw[wrap_i64];refine bm.again ⟨i+1,by omega,?_⟩ (by simp;omega) (by simp[am]) cC.rfl bK.rfl;rw[DY aC,ha];exact hg
     .intro aC;have aC:i=s.length:=by simp at aC;omega
      subst aC;rw[fm] at ha;simp only[am];refine aH ?_;simp[V.erase,hl,cc,ha]
  .have e:decide ((16:Int)<s.length)=true:=by simp;omega
   simp only[am,e];refine aH ?_;simp[V.erase,dx,yJ]
def MV(s:List UInt8)(D:af)(i:Nat):St :=
 ⟨[.aF s,.any,.any,.int .i64 (i:Nat)]++ar 43 .any,[],D⟩
def arX(s:List UInt8)(D:af):a7 79 [.aF s] D (.bool (dx s)):=by
 refine ai6.aT ?_;simp only[aS,am,aZ,Nat.reduceAdd]
 by_cases h0:s=[]
 .subst h0;simp only[am,show decide ((([]:List UInt8).length:Int)<1)=ab from rfl];refine aH ?_;simp[V.erase,dx]
 .have gi:0<s.length:=by cases s with | nil=>exact absurd rfl h0 | cons _ _=>simp
  have e1:decide ((s.length:Int)<1)=false:=by simp;omega
  simp only[am,e1]
  by_cases yJ:s.length<=16
  .have e:decide ((16:Int)<s.length)=false:=by simp;omega
   simp only[am,e];refine rA (c:=s[0]) (by simp[gi]) ?_;simp only[am];refine cl (Vb s[0].toNat D) ?_;have hl:dx s=(sA s[0]&&s.all fq):=VN yJ gi;cases hb:rD (s[0].toNat:Nat)
   .have cc : sA s[0]=false:=hb;simp only[am];refine aH ?_;simp[V.erase,hl,cc]
   .have cc : sA s[0]=true:=hb;simp only[am];refine gn (λp:{i:Nat // 1<=i/\i<=s.length/\(s.take i).all fq=ab}=>MV s D p.1) (λp=>s.length - p.1) ?_ ?_
    .refine bm.enter ⟨1,by simp,by omega,?_⟩ ?_ cC.rfl bK.rfl
     .rw[DY gi];simp[fq,rf,hb]
     .simp[MV,ar,am]
    .rintro⟨i,pQ,hi,ha⟩;simp only[MV,ar,am];refine eR ?_ ?_
     .intro aC;have aC:i<s.length:=by simpa using aC
      simp only[am];refine rA (uW aC) ?_;simp only[am];refine cl (Vb s[i].toNat D) ?_;have j6:fq s[i]=ak->s.all fq=false:=λhg=>by
       rw[Gi];exact⟨s[i],fg aC,by simp[hg]⟩
      have fin:fq s[i]=ab->(s.take (i+1)).all fq=true:=λhg=>by rw[DY aC,ha,hg];rfl
      have kg:fq s[i]=(rD (s[i].toNat:Nat)||(decide (48<=(s[i].toNat:Int))&&decide ((s[i].toNat:Int)<=57))||decide ((s[i].toNat:Int)=95)):=rfl;cases hg:rD (s[i].toNat:Nat)
      all_goals rw[hg] at kg
      all_goals simp only[am]
      repeat' (first
       | (refine jH (λh=>?_) (λh=>?_)<;>simp only[am,h])
       | (refine eR (λh=>?_) (λh=>?_)<;>simp only[am,h])
       | (refine jL (λh=>?_) (λh=>?_)<;>simp only[n5,h,Nat.reduceAdd,Nat.reduceEqDiff,aR])
       | (refine rA (uW aC) ?_;simp only[am])
      )
      all_goals first
       | (have uq:fq s[i]=true:=by rw[kg];simp_all<;>omega
          rw[wrap_i64];exact bm.again ⟨i+1,by omega,by omega,fin uq⟩ (by simp;omega) (by simp[am]) cC.rfl bK.rfl)
       | (have uq:fq s[i]=false:=by rw[kg];simp_all<;>omega
          refine aL rfl (af.bg _) ⟨?_,rfl⟩;simp[V.erase,hl,j6 uq])
     .intro aC;have aC:i=s.length:=by simp at aC;omega
      subst aC;rw[fm] at ha;simp only[am];refine aH ?_;simp[V.erase,hl,cc,ha]
  .have e:decide ((16:Int)<s.length)=true:=by simp;omega
   simp only[am,e];refine aH ?_;simp[V.erase,dx,yJ]
def agL:aU prog 173 (sq [rg 4 [od (aa 2) (.gO 1 (.s 0)),od (aa 3) (.gO 1 (.s 1)),oi 0],rg 5 [oo 2,nL,oq (.ko (.func 219) [] [(.s 2),(.s 3)]),oc 218 [.c (.int .i64 0),.s 6,.s 7],o1 4],.ret]) [.tmp 4] 9:=aV func173 ⟨[2,3],[]⟩
def ahg:aU prog 218 (sq [rg 6 [oi 0],sq [rg 8 [om 0,o1 7],bl 0 (sq [sq [rg 9 [om 7,om 1,nb .lss 9],cx 11 0],.block 1 (sq [rg 14 [om 2,om 7,oq (.iX (.s 14) [(.s 15)])],cr 16 17 [om 7,o1 6]]),rg 12 [ic 7]])],rg 6 [oi (-1)],.ret]) [.tmp 6] 18:=aV func218
def ahh:aU prog 219 (sq [rg 4 [oz 2],dg 5 [oo 1,om 0,nA 1 5,no,oo 2,nE .eql 8,o1 4],.ret]) [.tmp 4] 11:=aV func219
def aio:aU prog 297 (sq [rg 2 [oz 2],sq [rg 5 [om 0,nL,nB .lss 1,gB,om 0,nL,nB .gtr 64,gZ,gB,om 0,oC 307 [14],nB .geq 0,gZ],cr 17 2 [oz 2]],sq [rg 18 [om 0,nL,oi 0],lp 19 0 (sq [rg 22 [oA 1 18 20,no,o1 4],rg 24 [om 4,oC 161 [24],nn],cr 26 2 [oz 2]]) 27],rg 2 [oq (.mv (.c (.bool ab)))],.ret]) [.tmp 2] 28:=aV func297
def aiz:aU prog 307 (sq [rg 2 [od (aa 1) (.gO 1 (.s 0)),oi 0],rg 3 [oo 1,nL,oq (.ko (.func 314) [] [(.s 1)]),oc 218 [.c (.int .i64 0),.s 4,.s 5],o1 2],.ret]) [.tmp 2] 7:=aV func307 ⟨[1],[]⟩
def aiG:aU prog 314 (sq [rg 3 [oz 2],dg 4 [oo 1,om 0,oq (.kV 1 (.s 4) ag (aa (.s 5)) ag),oo 1,om 0,nA 1 7,no,oC 173 [6,10],nB .geq 0,o1 3],.ret]) [.tmp 3] 13:=aV func314
def Wx(n:Nat)(hn:n<=100000)(f:FuncId)(cap:List V)(hc:bO cap=ab)(p:Nat->Bool)(D:af)(h:∀i,i<n->cz prog f (.int .i64 (i:Nat)::cap) D λv σ' => v = .bool (p i)/\σ' = D) :
 a7 218 [.int .i64 0,.int .i64 (n:Nat),.fn (.func f) [] cap] D (.int .i64 (dJ ((bX n).find? p))):=by
 refine ahg.aT ?_;simp only[aS,am,aZ,Nat.reduceAdd];refine dK (n) (λi (x:Unit)=>⟨[.any,.int .i64 (n:Nat),.fn (.func f) [] cap,.any,.any,.any,.any,.int .i64 (i:Nat)]++ar 10 .any,[],D⟩) (λi x=>(∀k,k<i->p k=ak)) λF hF JF bn=>⟨?_,?_,?_⟩
 .exact en bn (()) (by intro k h;omega)
 .rintro i x hi hJ;simp only[hF,ar,am,dD hi,hc];refine(h i hi).mono ?_;rintro v σ' ⟨rfl,rfl⟩;cases hb:p i with
  | false =>
   simp only[am,a_,cG hi];exact nx bn (()) hi (B2 hJ hb)
  | true =>
   have e:=afG hi hJ hb;simp only[am,a_];refine aH ?_;simp[V.erase,e,dJ]
 .rintro x hJ;have e:=afJ hJ;simp only[hF,ar,am,a_,dY,a_];refine aH ?_;simp[V.erase,e,dJ]
def afD(l:List (List UInt8))(s:List UInt8)(i b1 b2:Nat)(hi:i<l.length)(h1:D.box b1=aa [.sl .no 1 (cX l)])(h2:D.box b2=aa [.aF s]):
 a7 219 [.int .i64 (i:Nat),.ptr (.out b1) 0,.ptr (.out b2) 0] D (.bool (decide (l.getD i []=s))):=by
 refine ahh.aT ?_;simp only[aS,am,aZ,Nat.reduceAdd];simp only[am,h1];refine ix (OR hi) ?_;simp only[am,h2];exact rt
def w9(l:List (List UInt8))(s:List UInt8)(D:af)(hl:l.length<=100000):a7 173 [.sl .no 1 (cX l),.aF s] D (.int .i64 (dJ (iL l s))):=by
 refine agL.aT ?_;simp only[aS,am,aZ,Nat.reduceAdd];refine kI λb1 e_=>?_
 simp only[am];refine kI λb2 ec=>?_
 have aW:b1≠b2:=by rintro rfl;rw[jh] at ec;simp at ec
 have hs:=af.Dn (iS (cs:=[.sl .no 1 (cX l)]) e_) (iS (cs:=[.aF s]) ec);have e1:((D.set b1 [.sl .no 1 (cX l)]).set b2 [.aF s]).box b1=aa [.sl .no 1 (cX l)]:=by rw[qS aW,jh]
 generalize wa:(D.set b1 [V.sl .no 1 (cX l)]).set b2 [V.aF s]=cU at hs e1;have e2:cU.box b2=aa [.aF s]:=by rw[<-wa,jh]
 simp only[am,ia,e1];refine(Wx l.length hl _ _ rfl (λi=>decide (l.getD i []=s)) cU λi hi=>afD l s i b1 b2 hi e1 e2).mono ?_;rintro v cU ⟨rfl,rfl⟩;simp only[am];exact aL rfl hs ⟨rfl,rfl⟩
def auo(l:List (List UInt8))(i b1:Nat)(hl:l.length<=100000)(hi:i<l.length)(h1:D.box b1=aa [.sl .no 1 (cX l)]):
 a7 314 [.int .i64 (i:Nat),.ptr (.out b1) 0] D (.bool (iL (l.take i) (l.getD i [])).isSome):=by
 refine aiG.aT ?_;simp only[aS,am,aZ,Nat.reduceAdd];simp only[am,cV,h1];refine Yf (b:=i) (by rw[ia];omega) ?_;simp only[am,h1];refine ix (OR hi) ?_;rw[XC];simp only[am];refine bE.intro (w9 (l.take i) (l.getD i []) D (by rw[jj];omega)) ?_;simp only[am,N2];exact rt
def aup(l:List (List UInt8))(D:af)(hl:l.length<=100000):a7 307 [.sl .no 1 (cX l)] D (.int .i64 (dJ (Pg l))):=by
 refine aiz.aT ?_;simp only[aS,am,aZ,Nat.reduceAdd];refine kI λb1 e_=>?_
 simp only[am,ia];refine(Wx l.length hl _ _ rfl (λi=>(iL (l.take i) (l.getD i [])).isSome) _ λi hi=>auo l i b1 hl hi jh).mono ?_;rintro v cU ⟨rfl,rfl⟩;simp only[am];exact aL rfl (iS e_) ⟨rfl,rfl⟩
def an9(l:List (List UInt8))(D:af)(hl:l.length<=100000):a7 297 [.sl .no 1 (cX l)] D (.bool (uH l)):=by
 refine aio.aT ?_;simp only[aS,am,aZ,Nat.reduceAdd,ia]
 by_cases h1:l.length<1
 .simp only[am,aJ (show(l.length:Int)<1 by omega)];refine aH ?_;simp[V.erase,uH];omega
 .simp only[am,ia,aI (show ¬(l.length:Int)<1 by omega)]
  by_cases h2:64<l.length
  .simp only[am,aJ (show(64:Int)<l.length by omega)];refine aH ?_;simp[V.erase,uH];omega
  .simp only[am,aI (show ¬(64:Int)<l.length by omega)];refine cl (aup l D hl) ?_;simp only[am,N2];cases ht:Pg l with
   | some k =>
    simp only[am,Gv];refine aH ?_;simp[V.erase,uH,ht]
   | none =>
    simp only[am,ia,DS];refine dK (l.length) (λi (x:Unit)=>⟨[.any,.any,.any,.any,.any,.any,.any,.any,.any,.any,.any,.any,.any,.any,.any,.any,.any,.any,.sl .no 1 (cX l),.int .i64 (l.length:Nat),.int .i64 (i:Nat)]++ar 7 .any,[],D⟩) (λi x=>(∀k,k<i->dx (l.getD k [])=ab)) λF hF JF bn=>⟨?_,?_,?_⟩
    .exact en bn (()) (by intro k h;omega)
    .rintro i x hi hJ;simp only[hF,ar,am,dD hi];refine ix (OR hi) ?_;simp only[am];refine cl (uI _ D) ?_;simp only[am];cases hb:dx (l.getD i []) with
     | false =>
      have e:uH l=false:=by
       cases hq:uH l with
       | false=>rfl
       | true =>
        simp only[uH,bF,l7] at hq;have hm:l.getD i []∈l:=by rw[r9 hi];exact fg hi
        rw[hq.2 _ hm] at hb;simp at hb
      simp only[am,a_];refine aH ?_;simp[V.erase,e]
     | true =>
      simp only[am,a_,cG hi];exact nx bn (()) hi (B2 hJ hb)
    .rintro x hJ;have e:uH l=true:=by
      simp only[uH,ht,bF,l7,cn,BY,il];refine⟨by omega,λs hs=>?_⟩;obtain⟨k,hk,rfl⟩:=List.mem_iff_getElem.1 hs
      have:=hJ k hk
      rwa [r9 hk] at this
     simp only[hF,ar,am,a_,dY,a_];refine aH ?_;simp[V.erase,e]
def ahw:aU prog 233 (sq [rg 2 [ox 1 2 0,oz 2],rg 6 [fo 1 1,nL,o1 3],sq [rg 9 [om 3,nB .lss 1,gB,om 3,nB .gtr 8,gZ,nm,oh 15 (of 0 1),oh 15 (no),oh 15 (nn),oh 15 (nm),og 19 (om 3),og 19 (nB .neq 1),oh 15 (oy 19 21),oq (.pick (.s 15) (.c (.bool ab)) (.s 22))],cr 23 2 [oz 2]],sq [rg 24 [fo 1 1,nL,oi 0],lp 26 0 (sq [rg 29 [oA 67 25 27,nl 67,oR 5 r7,o2 67 5],rg 31 [ol 67 5,oC 276 [31],nn],cr 33 2 [oz 2]]) 34],rg 2 [oq (.mv (.c (.bool ab)))],.ret]) [.tmp 2] 35:=aV func233
def ah6:aU prog 276 (sq [rg 2 [ox 1 67 0,oz 2],sq [rg 3 [fo 1 1,oC 297 [4],nn],cr 6 2 [oz 2]],sq [rg 7 [fo 0 1],.block 0 (sq [sq [rg 10 [oB .eql 8 1,o1 9],cd 9 .skip (rg 11 [oB .eql 8 2,o1 9])],cd 9 (sq [rg 12 [of 2 1,nl 65,oY pg [],oC 298 [13,14],o1 2],.ret]) (sq [rg 17 [oB .eql 8 3,o1 16],cd 16 (sq [rg 18 [of 2 1,nF 0,fo 1 1,nL,nb .eql 20,gA,of 2 1,nl 65,oC 299 [27],gZ,o1 2],.ret]) (sq [rg 31 [oB .eql 8 4,o1 30],cr 30 32 [of 2 1,nF 0,fo 1 1,nL,nb .eql 34,gA,of 2 1,nl 65,oC 175 [41],gZ,o1 2]])])])],rg 2 [oz 2],.ret]) [.tmp 2] 44:=aV func276
def av5:=ah @am <| ah @aZ <| ah @Rl.au @bw.au
def afd(f:bw)(hg:TZ D)(hl:f.an.length<=100000):a7 276 [.agg f.enc] D (.bool (re f)):=by
 refine ah6.aT ?_;simp only[aS,av5,Nat.reduceAdd];refine cl (an9 f.an D hl) ?_;cases hn:uH f.an with
 | false =>
  simp only[am];refine aH ?_;simp[V.erase,re,hn]
 | true =>
  simp only[am,bw.au]
  by_cases h1:f.kind=1
  .simp only[am,Rl.au,bw.au,aJ h1];refine cl (XN f.rel Rl.zero D) ?_;simp only[am,WA];refine aH ?_;simp[V.erase,re,hn,h1]
  .simp only[am,aI h1]
   by_cases h2:f.kind=2
   .simp only[am,Rl.au,bw.au,aJ h2];refine cl (XN f.rel Rl.zero D) ?_;simp only[am,WA];refine aH ?_;simp[V.erase,re,hn,h2]
   .simp only[am,aI h2]
    by_cases h3:f.kind=3
    .simp only[am,bw.au,ia,aJ h3]
     by_cases h4:f.rel.n=f.an.length
     .simp only[am,Rl.au,bw.au,aJ h4];refine cl (Lm f.rel D) ?_;simp only[am];refine aH ?_;simp[V.erase,re,hn,h3,h4]
     .simp only[am,aI h4];refine aH ?_;simp[V.erase,re,hn,h3,h4]
    .simp only[am,aI h3]
     by_cases h5:f.kind=4
     .simp only[am,bw.au,ia,aJ h5]
      by_cases h4:f.rel.n=f.an.length
      .simp only[am,Rl.au,bw.au,aJ h4];refine cl (U4 f.rel hg) ?_;simp only[am];refine aH ?_;simp[V.erase,re,hn,h5,h4]
      .simp only[am,aI h4];refine aH ?_;simp[V.erase,re,hn,h5,h4]
     .simp only[am,aI h5];refine aH ?_;simp[V.erase,re,hn,h1,h2,h3,h5]
def Sq{l:List bw}(h:j<l.length):(l.map bw.enc)[((j:Nat):Int).toNat]?=aa l[j].enc:=by simp[h]
def atb{s:bC}(hi:i<s.bQ.length)(h:re s.bQ[i]=ak):nR s=false:=by
 cases hq:nR s with
 | false=>rfl
 | true =>
  simp only[nR,bF,l7] at hq;rw[hq.2 _ (fg hi)] at h;simp at h
def atc{s:bC}(h1:1<=s.bQ.length)(h2:s.bQ.length<=8)(h3:s.tuple=ab\/s.bQ.length=1)(h:∀k (hk:k<s.bQ.length),re s.bQ[k]=ab):nR s=true:=by
 simp only[nR,bF,l7,cn,nh];refine⟨⟨⟨h1,h2⟩,h3⟩,λf hf=>?_⟩;obtain⟨k,hk,rfl⟩:=List.mem_iff_getElem.1 hf;exact h k hk
def atf(s:bC)(hg:TZ D)(cu:s.ok):a7 233 [.agg s.enc] D (.bool (nR s)):=by
 refine ahw.aT ?_;simp only[aS,am,aZ,Nat.reduceAdd,bC.au,aR]
 by_cases h1:s.bQ.length<1
 .simp only[am,aJ (show(s.bQ.length:Int)<1 by omega)];refine aH ?_;simp[V.erase,nR];omega
 .simp only[am,aI (show ¬(s.bQ.length:Int)<1 by omega)]
  by_cases h2:8<s.bQ.length
  .simp only[am,aJ (show(8:Int)<s.bQ.length by omega)];refine aH ?_;simp[V.erase,nR];omega
  .simp only[am,bC.au,aI (show ¬(8:Int)<s.bQ.length by omega)];have h3:(∃t,s.tuple=t/\(t=ab\/s.bQ.length=1))\/(s.tuple=ak/\s.bQ.length≠1):=by
    cases ht:s.tuple with
    | true=>exact .inl ⟨ab,rfl,.inl rfl⟩
    | false =>
     by_cases hl:s.bQ.length=1
     .exact .inl ⟨ak,rfl,.inr hl⟩
     .exact .inr ⟨rfl,hl⟩
   rcases h3 with ⟨t,ht,h3⟩ | ⟨ht,h3⟩
   .cases t
    case' false =>
     have h3:s.bQ.length=1:=by simpa using h3
     simp only[am,aR,bC.au,aR,ht,aJ (show(s.bQ.length:Int)=1 by omega)]
    case' true=>simp only[am,aR,bC.au,aR,ht]
    all_goals
     refine dK (s.bQ.length) (λi (x:Unit)=>⟨[.any,.ptr (.aD 0) 0,.bool ak,.any,.any,.any,.any,.any,.any,.any,.any,.any,.any,.any,.any,.any,.any,.any,.any,.any,.any,.any,.any,.any,.any,.sl .no 67 (s.bQ.map bw.enc),.int .i64 (s.bQ.length:Nat),.int .i64 (i:Nat)]++ar 7 .any,[s.enc],D⟩) (λi x=>(∀k,k<i->∀hk:k<s.bQ.length,re s.bQ[k]=ab)) λF hF JF bn=>⟨?_,?_,?_⟩
     .exact en bn (()) (by intro k h;omega)
     .rintro i x hi hJ;simp only[hF,ar,am,dD hi];refine ix (Sq hi) ?_;simp only[am,bw.au];refine cl (afd s.bQ[i] hg (cu.2 _ (fg hi))) ?_;cases hb:re s.bQ[i] with
      | false =>
       simp only[am,a_];refine aH ?_;simp[V.erase,atb hi hb]
      | true =>
       simp only[am,a_,cG hi];refine fK (()) hi ?_ ?_ ?_ ?_ ?_ ?_
       .exact eU (bn _ _) (B2 hJ (λ_=>hb))
       all_goals simp[hF,ar,am,bT,bR,dw,V.lo,bC.cT]
     .rintro x hJ;have e:=atc (s:=s) (by omega) (by omega) (by first | exact .inr h3 | exact .inl ht) λk hk=>hJ k hk hk
      simp only[hF,ar,am,a_,dY,a_];refine aH ?_;simp[V.erase,e]
   .have e:nR s=false:=by simp[nR,ht,h3]
    simp only[am,ht,aI (show ¬(s.bQ.length:Int)=1 by omega)];refine aH ?_;simp[V.erase,e]
def ai7:aU prog 86 (sq [rg 4 [oi 0],rg 5 [oi 0],bl 0 (sq [sq [rg 6 [om 1,om 5,nb .add 6,om 0,nT,nb .lss 8,gA,om 0,om 1,om 5,nb .add 14,nS 13,oC 146 [17],gZ],cx 19 0],.block 1 (rg 20 [ic 5])]),rg 22 [om 5,o1 4],.ret]) [.tmp 4] 23:=aV func86
def ai8:aU prog 87 (sq [rg 2 [oz 2],rg 5 [oq (.jn 1 [(.c (.int .u8 35)),(.c (.int .u8 43)),(.c (.int .u8 38)),(.c (.int .u8 40)),(.c (.int .u8 41)),(.c (.int .u8 123)),(.c (.int .u8 125)),(.c (.int .u8 91)),(.c (.int .u8 93)),(.c (.int .u8 44)),(.c (.int .u8 58)),(.c (.int .u8 61)),(.c (.int .u8 124)),(.c (.int .u8 60))]),o1 3],sq [rg 4 [oi 0],bl 0 (sq [sq [rg 6 [om 4,om 3,nL,nb .lss 6],cx 9 0],.block 1 (sq [rg 12 [om 3,om 4,nA 1 12,no,om 0,nb .eql 15],cr 17 2 [oq (.mv (.c (.bool ab)))]]),rg 10 [ic 4]])],rg 2 [oz 2],.ret]) [.tmp 2] 18:=aV func87
def I':List (List V):=uV.map λs=>[.int .u8 s]
def MX(c:Int)(D:af)(i:Nat):St :=
 ⟨[.int .u8 c,.any,.any,.sl .ba 1 I',.int .i64 (i:Nat)]++ar 13 .any,[],D⟩
def ath(c:Int)(D:af):a7 87 [.int .u8 c] D (.bool (kr c)):=by
 refine ai8.aT ?_;simp only[aS,am,aZ,Nat.reduceAdd];rw[show [[V.int .u8 35],[V.int .u8 43],[V.int .u8 38],[V.int .u8 40],[V.int .u8 41],[V.int .u8 123],[V.int .u8 125],[V.int .u8 91],[V.int .u8 93],[V.int .u8 44],[V.int .u8 58],[V.int .u8 61],[V.int .u8 124],[V.int .u8 60]]=I' from rfl];refine gn (λp:{i:Nat // i<=14/\(uV.take i).any (λs=>decide (s=c))=ak}=>MX c D p.1) (λp=>14 - p.1) ?_ ?_
 .refine bm.enter ⟨0,by simp,by simp⟩ ?_ cC.rfl bK.rfl;simp[MX,ar,am]
 .rintro⟨i,hi,ha⟩;simp only[MX,ar,am];rw[show I'.length=14 from rfl];refine eR ?_ ?_
  .intro aC;have aC:i<14:=by simp at aC;omega
   have hs:i<uV.length:=aC;simp only[am];refine lM (c:=[.int .u8 uV[i]]) (by simp[I',hs]) ?_;simp only[am];refine eR ?_ ?_
   .intro h;have h:uV[i]=c:=by simpa using h
    simp only[am];refine aL rfl (af.bg _) ⟨?_,rfl⟩
    have:kr c=true:=by
     simp only[kr,BR];exact⟨uV[i],fg hs,by simp[h]⟩
    simp[V.erase,this]
   .intro h;have h:¬uV[i]=c:=by simpa using h
    simp only[am];rw[wrap_i64];refine bm.again ⟨i+1,by omega,?_⟩ (by simp;omega) (by simp[am]) cC.rfl bK.rfl;rw[Bw (cS hs),List.any_append,ha];simp[h]
  .intro aC;have aC:i=14:=by simp at aC;omega
   subst aC;simp only[am];refine aH ?_;simp[V.erase,kr,show uV.any (λs=>decide (s=c))=ak from ha]
def I6{a n:Nat}(h:((s.drop a).take n).all fq=ab)(hn:a+n<=s.length)(he:∀hl:a+n<s.length,fq s[a+n]=ak):(dQ (s.drop a)).length=n:=by
 have key:∀(r:List UInt8) (n:Nat),(r.take n).all fq=ab->n<=r.length->(∀hl:n<r.length,fq r[n]=ak)->(dQ r).length=n:=by
  intro r;induction r with
  | nil=>intro n _ h2 _;simp at h2;subst h2;rfl
  | cons c r ih =>
   intro n h1 h2 h3;cases n with
   | zero=>have:=h3 (by simp);simp at this;simp[dQ,this]
   | succ n =>
    simp only[wM,ve,bF] at h1
    have:=ih n h1.2 (by simpa using h2) (λhl=>h3 (Nat.succ_lt_succ hl))
    simp only[dQ] at this;simp[dQ,h1.1,this]
 refine key _ _ h (by simp;omega) λhl=>?_
 have iq : a+n<s.length:=by simp at hl;omega
 have:=he iq
 simpa using this
def MW(s:List UInt8)(D:af)(a n:Nat):St :=
 ⟨[.aF s,.int .i64 (a:Nat),.any,.any,.any,.int .i64 (n:Nat)]++ar 17 .any,[],D⟩
def ast(s:List UInt8)(a:Nat)(D:af)(ha:a<=s.length)(hb:s.length<=aK):a7 86 [.aF s,.int .i64 (a:Nat)] D (.int .i64 (dQ (s.drop a)).length):=by
 simp only[aK] at hb;refine ai7.aT ?_;simp only[aS,am,aZ,Nat.reduceAdd];refine gn (λp:{n:Nat // a+n<=s.length/\((s.drop a).take n).all fq=ab}=>MW s D a p.1) (λp=>s.length - p.1) ?_ ?_
 .refine bm.enter ⟨0,by simpa using ha,by simp⟩ ?_ cC.rfl bK.rfl;simp[MW,ar,am]
 .rintro⟨n,hn,cK⟩;simp only[MW,ar,am];rw[wrap_i64]
  by_cases aC:a+n<s.length
  .have e:decide ((a:Int)+(n:Int)<s.length)=true:=by simp;omega
   simp only[am,e];rw[show(a:Int)+(n:Int)=((a+n:Nat):Int) by simp];rw[wrap_i64];refine rA (uW aC) ?_;simp only[am];refine cl (aj0 s[a+n].toNat D) ?_;cases hg:rf (s[a+n].toNat:Nat)
   .simp only[am];refine aL rfl (af.bg _) ⟨?_,rfl⟩;simp[V.erase,I6 cK hn (λ_=>hg)]
   .simp only[am];rw[wrap_i64];refine bm.again ⟨n+1,by omega,?_⟩ (by simp;omega) (by simp[am]) cC.rfl bK.rfl;have hd:n<(s.drop a).length:=by simp;omega
    rw[DY hd,cK];simp only[lD,List.getElem_drop];exact hg
  .have e:decide ((a:Int)+(n:Int)<s.length)=false:=by simp;omega
   simp only[am,e];refine aL rfl (af.bg _) ⟨?_,rfl⟩;simp[V.erase,I6 cK hn (λh=>absurd h aC)]
def aiQ:aU prog 50 (sq [rg 2 [oz 8,oM [0,0]],rg 4 [oz 8],rg 5 [oi 0],bl 0 (sq [sq [rg 8 [om 5,om 0,nT,nb .lss 8],cx 11 0],.block 1 (sq [rg 12 [om 0,om 5,nS 12,o1 6],rg 15 [om 0,om 5,oC 86 [15,16],o1 7],sq [rg 18 [om 6,nu .eql 45,gA,om 5,nB .add 1,om 0,nT,nb .lss 22,gZ,gA,om 0,om 5,nB .add 1,nS 28,nu .eql 45,gZ],cr 33 34 [om 4,oW [0,0] [],ot 2 34,o2 2 3]],rg 36 [om 7,nB .gtr 0,gA,om 0,om 5,om 5,om 7,nb .add 41,oK 39 40 43,oC 79 [44],gZ],cd 46 (sq [rg 47 [om 4,om 0,om 5,om 5,om 7,nb .add 50,oK 48 49 52,om 5,oG [3,1,0] [(0,1,.c (.int .u8 97)),(1,1,.s 53),(2,1,.s 54)],n1 3,na 3 47,o1 4],rg 58 [om 5,om 7,nb .add 58,o1 5]]) (sq [rg 61 [om 6,oC 87 [61]],cd 62 (sq [rg 63 [om 4,om 6,om 0,om 5,om 5,nB .add 1,oK 65 66 68,om 5,oW [3,1,0] [(0,1,64),(1,1,69),(2,1,70)],n1 3,na 3 63,o1 4],rg 74 [ic 5]]) (sq [rg 76 [om 6,nu .eql 32,gB,om 6,nu .eql 9,gZ],cd 81 (rg 82 [ic 5]) (sq [rg 84 [om 5,oG [0,0] [(0,1,.c (.int .i64 1)),(1,1,.s 84)],oU 2 8,o2 2 3],.ret])])])])]),rg 86 [om 4,oW [0,0] [],ot 2 86,o2 2 3],.ret]) [.tmp 2,.cell 3 ab 2] 88:=aV func50
def E6(s:List UInt8)(D:af)(a Z:Nat)(acc:List Tok):St :=
 ⟨[.aF s,.any,.any,.ptr (.aD 0) 0,.sl (.tk Z) 3 (acc.map Tok.enc),.int .i64 (a:Nat)]++ar 82 .any,[[.int .i64 0,.int .i64 0]],D.aY Z acc.length⟩
def drop_cons{a:Nat}(h:a<s.length):s.drop a=s[a]::s.drop (a+1):=mJ h
def amU(s:List UInt8)(D:af)(hb:s.length+1<=aK):a7 50 [.aF s] D (.bt [.sl .no 3 ((dv s).1.map Tok.enc),vv (dv s).2]):=by
 simp only[aK] at hb;generalize hR:dv s=R;refine aiQ.aT ?_;simp only[aS,am,aZ,Nat.reduceAdd];refine gn (λp:{p:Nat × Nat × Nat × List Tok // D.aP p.2.2.1=ag/\eY p.1 p.2.1 (s.drop p.2.1) p.2.2.2=R/\p.2.2.2.length<=p.2.1/\p.2.1<=s.length/\s.length<=p.2.1+p.1}=>E6 s D p.1.2.1 p.1.2.2.1 p.1.2.2.2) (λp=>s.length - p.1.2.1) ?_ ?_
 .refine bm.sH 0 λZ bc=>⟨⟨(s.length,0,Z,[]),bc,hR,by simp,by simp,by simp⟩,?_,rfl,rfl⟩
  simp[E6,ar,kJ]
 .rintro⟨⟨n,a,Z,acc⟩,bc,hR,h1,h2,h3⟩;simp only at bc hR h1 h2 h3;simp only[E6,ar,am];refine eR ?_ ?_
  .intro aC;have aC:a<s.length:=by simpa using aC
   obtain⟨m,rfl⟩:∃m,n=m+1:=⟨n - 1,by omega⟩;rw[drop_cons aC] at hR;simp only[eY,<-drop_cons aC] at hR;have dc:=Xq (s:=s) (a:=a);have hh:(s.drop (a+1)).head?.map UInt8.toNat=if h:a+1<s.length then aa s[a+1].toNat else none:=by
    by_cases h:a+1<s.length
    .rw[yz h,drop_cons h];rfl
    .rw[dif_neg h,JT (by omega)];rfl
   simp only[am];refine rA (uW aC) ?_;simp only[am];refine(ast s a _ (by omega) (by simp only[aK];omega)).mono ?_;rintro v σ' ⟨rfl,rfl⟩
   -- a step on,with or without a piece
   have again:∀(b:Nat) (pz : List Tok) (t:List V) (l:List (List V)),eY m b (s.drop b) pz = R->pz.length<=b->a<b->b<=s.length ->
    cQ t ([.aF s,.any,.any,.ptr (.aD 0) 0,.sl (.tk Z) 3 (pz.map Tok.enc),.int .i64 (b:Nat)]++ar 82 .any)->l=[[.int .i64 0,.int .i64 0]] ->
    bm ⟨t,l,D.aY Z pz.length⟩ λaM => ∃j:{p:Nat × Nat × Nat × List Tok // D.aP p.2.2.1=ag/\eY p.1 p.2.1 (s.drop p.2.1) p.2.2.2=R/\p.2.2.2.length<=p.2.1/\p.2.1<=s.length/\s.length<=p.2.1+p.1},aM = E6 s D j.1.2.1 j.1.2.2.1 j.1.2.2.2/\s.length - j.1.2.1<s.length - a:=λb pz t l e1 e2 e3 e4 e5 e6=>by
    refine bm.again (μ:=λp:{p:Nat × Nat × Nat × List Tok // D.aP p.2.2.1=ag/\eY p.1 p.2.1 (s.drop p.2.1) p.2.2.2=R/\p.2.2.2.length<=p.2.1/\p.2.1<=s.length/\s.length<=p.2.1+p.1}=>s.length - p.1.2.1) (I:=λp=>E6 s D p.1.2.1 p.1.2.2.1 p.1.2.2.2) ⟨(m,b,Z,pz),bc,e1,e2,e4,by simp only;omega⟩ (by simp;omega) e5 (by rw[e6];exact cC.rfl) bK.rfl
   have KU:s[a].toNat=45->decide (((s[a].toNat:Nat):Int)=45)=true:=λh=>by simp[h]
   have ad1:¬s[a].toNat=45->decide (((s[a].toNat:Nat):Int)=45)=false:=λh=>aI (by omega)
   have w1:IntKind.i64.wrap ((a:Int)+1)=((a+1:Nat):Int):=by rw[wrap_i64];simp
   have wN:IntKind.i64.wrap ((a:Int)+((dQ (s.drop a)).length:Nat))=((a+(dQ (s.drop a)).length:Nat):Int):=by
    rw[show(a:Int)+((dQ (s.drop a)).length:Nat)=((a+(dQ (s.drop a)).length:Nat):Int) by simp];exact wrap_i64 (by omega) (by omega)
   have el:a+1<s.length->decide (((a+1:Nat):Int)<s.length)=true:=λh=>aJ (by omega)
   have elf:¬a+1<s.length->decide (((a+1:Nat):Int)<s.length)=false:=λh=>aI (by omega)
   have eN:0<(dQ (s.drop a)).length->decide ((0:Int)<((dQ (s.drop a)).length:Nat))=true:=λh=>aJ (by omega)
   have eNf:¬0<(dQ (s.drop a)).length->decide ((0:Int)<((dQ (s.drop a)).length:Nat))=false:=λh=>aI (by omega)
   have Ct:(s.take (a+(dQ (s.drop a)).length)).drop a=dQ (s.drop a):=KP
   by_cases rj:s[a].toNat=45/\(s.drop (a+1)).head?.map UInt8.toNat=aa 45
   .obtain⟨sZ,s8⟩:=rj;rw[aE ⟨sZ,s8⟩] at hR;rw[hh] at s8;have hl:a+1<s.length:=by
     by_cases h:a+1<s.length
     .exact h
     .rw[dif_neg h] at s8;simp at s8
    rw[yz hl] at s8;have e2:decide (((s[a+1].toNat:Nat):Int)=45)=true:=by simp at s8;simp[s8]
    simp only[am,KU sZ,w1,el hl];refine rA (uW hl) ?_;simp only[am,Nat.reduceAdd,e2];refine aL rfl (jQ bc) ⟨?_,rfl⟩;simp[V.erase,aX,<-hR,vv,fx]
   .rw[aA rj] at hR
    by_cases sZ:s[a].toNat=45
    case' neg =>
     simp only[am,ad1 sZ]
    case' pos =>
     by_cases hl:a+1<s.length
     case' pos =>
      have e2:decide (((s[a+1].toNat:Nat):Int)=45)=false:=by
       rw[hh,yz hl] at rj;simp at rj ⊢;intro h;exact rj sZ (by omega)
      simp only[am,KU sZ,w1,el hl];refine rA (uW hl) ?_;simp only[am,e2]
     case' neg =>
      simp only[am,KU sZ,w1,elf hl]
    all_goals
     by_cases hN:0<(dQ (s.drop a)).length
     case' neg =>
      simp only[am,eNf hN]
     case' pos =>
      simp only[am,cV,eN hN,wN];refine Dk (by omega) (by omega) ?_;rw[Ct];simp only[am];refine(arX (dQ (s.drop a)) _).mono ?_;rintro v σ' ⟨rfl,rfl⟩;cases CK:dx (dQ (s.drop a))
      case' true =>
       rw[aE ⟨hN,CK⟩] at hR;simp only[am,cV,wN];refine Dk (by omega) (by omega) ?_;rw[Ct];simp only[am,Nat.reduceAdd];refine iy (by simp[aK];omega) (by rw[aR,gw]) ?_;simp only[am,aR,gJ,wN];have e:acc.length+1=(acc++[(⟨97,dQ (s.drop a),a⟩:Tok)]).length:=by simp
       rw[e];rw[wL] at hR;exact again (a+(dQ (s.drop a)).length) _ _ _ hR (by simp;omega) (by omega) (by omega) (by simp[ar,am,Tok.enc]) rfl
      case' false =>
       simp only[am]
     all_goals
      rw[aA (by simp_all)] at hR;refine(ath (s[a].toNat:Nat) _).mono ?_;rintro v σ' ⟨rfl,rfl⟩;cases ET:kr (s[a].toNat:Nat)
      .rw[aA (by simp[ET])] at hR;simp only[am]
       by_cases lg:s[a].toNat=32\/s[a].toNat=9
       .rw[aE lg] at hR
        by_cases h32:s[a].toNat=32
        case' pos =>
         simp only[am,aJ (show((s[a].toNat:Nat):Int)=32 by omega),w1]
        case' neg =>
         simp only[am,aI (show ¬((s[a].toNat:Nat):Int)=32 by omega),aJ (show((s[a].toNat:Nat):Int)=9 by omega),w1]
        all_goals exact again (a+1) acc _ _ hR (by omega) (by omega) (by omega) (by simp[ar,am]) rfl
       .rw[aA lg] at hR;simp only[am,Nat.reduceAdd,aI (show ¬((s[a].toNat:Nat):Int)=32 by omega),aI (show ¬((s[a].toNat:Nat):Int)=9 by omega)];refine aL rfl (jQ bc) ⟨?_,rfl⟩;simp[V.erase,aX,<-hR,vv,fx]
      .rw[aE ET] at hR;simp only[am,cV,w1];refine Dk (by omega) (by omega) ?_;rw[RY aC];simp only[am,Nat.reduceAdd];refine iy (by simp[aK];omega) (by rw[aR,gw]) ?_;simp only[am,aR,gJ,w1];have e:acc.length+1=(acc++[(⟨(s[a].toNat:Nat),[s[a]],a⟩:Tok)]).length:=by simp
       rw[e];exact again (a+1) _ _ _ hR (by simp;omega) (by omega) (by omega) (by simp[ar,am,Tok.enc]) rfl
  .intro aC;have aC:a=s.length:=by simp at aC;omega
   subst aC;rw[BS] at hR;have oD : (acc,ag)=R:=by cases n<;>simpa [eY] using hR
   simp only[am,Nat.reduceAdd];refine aL rfl (jQ bc) ⟨?_,rfl⟩;simp[V.erase,aX,<-oD,vv,fx]
def ai9:aU prog 88 (sq [rg 2 [oi 0],rg 3 [oO .nil []],sq [rg 4 [oi 0],bl 0 (sq [sq [rg 6 [om 4,om 0,nL,nb .lss 6],cx 9 0],.block 1 (sq [rg 12 [om 0,om 4,nA 3 12,nF 0,o1 5],sq [rg 17 [om 5,oC 147 [17],nu .neq 0],ci 19 (sq [sq [rg 20 [om 3,nO .len,nB .geq 24],cr 22 23 [om 4,o1 2]],rg 24 [om 3,om 4,n1 1,oO (.app 1) [24,26],o1 3]])],rg 28 [om 5,oC 148 [28]],ci 29 (sq [sq [rg 30 [om 3,nO .len,nB .eql 0,gB,om 0,om 3,om 3,nO .len,nB .sub 1,oO (.idx 1) [35,38],no,nA 3 34,nF 0,oC 147 [43],om 5,nb .neq 44,gZ],cr 47 48 [om 4,o1 2]],rg 49 [om 3,om 3,nO .len,nB .sub 1,oO (.kV 1 ak ab ak) [49,52],o1 3]])]),rg 10 [ic 4]])],sq [rg 54 [om 3,nO .len,nB .gtr 0],cr 56 57 [om 3,om 3,nO .len,nB .sub 1,oO (.idx 1) [57,60],no,o1 2]],rg 2 [oi (-1)],.ret]) [.tmp 2] 63:=aV func88 ⟨[3,21,27,31,37,39,51,53,55,59,61],[]⟩
def wB{l:List Tok}(h:j<l.length):(l.map Tok.enc)[((j:Nat):Int).toNat]?=aa (iG l j).enc:=by simp[iG,h]
def A3{l:List Tok}(h:j<l.length):dn l j=(iG l j).kind:=by simp[dn,iG,h]
def FE{l:List Tok}(h:j<l.length):p_ l j=(iG l j).pos:=by simp[p_,iG,h]
def tI(o:List Nat):List (List V):=o.map λ(j:Nat)=>[.int .i64 (j:Nat)]
def zn(o:List Nat):(tI o).length=o.length:=by simp[tI]
def CX(l:List Tok)(i:Nat)(v:V)(D:af):St :=
 ⟨[.sl .no 3 (l.map Tok.enc),.any,.any,v,.int .i64 (i:Nat)]++ar 58 .any,[],D⟩
structure Gg(l:List Tok)(D:af)(R:Int) where
 n:Nat
 i:Nat
 o:List Nat
 v:V
 s:af
 own:fO s 1 v (tI o)
 sub:vm D s v
 res:jG l n i o=R
 sum:i+n=l.length
 le:o.length<=i
 mem:∀j∈o,j<l.length
def U3{o:List Nat}(h:o≠[]):∃j,o.getLast?=aa j/\(tI o)[((o.length:Int) - 1).toNat]?=aa [.int .i64 (j:Nat)]/\j∈o:=by
 have hp:0<o.length:=J6.2 h;refine⟨o[o.length - 1],?_,?_,fg _⟩
 .rw[List.getLast?_eq_getElem?,cS]
 .rw[show((o.length:Int) - 1).toNat=o.length - 1 by omega];simp[tI,cS (show o.length - 1<o.length by omega)]
def amX(l:List Tok)(D:af)(hb:l.length+1<=aK):a7 88 [.sl .no 3 (l.map Tok.enc)] D (.int .i64 (jG l l.length 0 [])):=by
 simp only[aK] at hb;generalize hR:jG l l.length 0 []=R;refine ai9.aT ?_;simp only[aS,am,aZ,jm];refine gn (λp:Gg l D R=>CX l p.i p.v p.s) (λp=>p.n) ?_ ?_
 .refine bm.enter ⟨l.length,0,[],_,D,fO.none,vm.start,hR,by simp,by simp,by simp⟩ ?_ cC.rfl bK.rfl;simp[CX,ar,am]
 .rintro⟨n,i,o,v2,fc,hO,hS,hR,Us,hle,xo⟩;simp only[CX,ar,am,aR];refine eR ?_ ?_
  .intro aC;have aC:i<l.length:=by simpa using aC
   obtain⟨m,rfl⟩:∃m,n=m+1:=⟨n - 1,by omega⟩;simp only[jG] at hR;simp only[am,Nat.reduceAdd];refine ix (wB aC) ?_;simp only[am,Tok.enc];rw[<-A3 aC];refine(G2 (dn l i) _).mono ?_;rintro v fc ⟨rfl,rfl⟩;simp only[am];have again:∀(o:List Nat) (v:V) (s:af) (t:List V),fO s 1 v (tI o)->vm D s v->jG l m (i+1) o=R->o.length<=i+1->(∀j∈o,j<l.length) ->
    cQ t ([.sl .no 3 (l.map Tok.enc),.any,.any,v,.int .i64 ((i:Int)+1)]++ar 58 .any)->bm ⟨t,[],s⟩ λaM => ∃j:Gg l D R,aM = CX l j.i j.v j.s/\j.n<m+1:=λo v s t e1 e2 e3 e4 e5 e6 =>
    bm.again (I:=λp:Gg l D R=>CX l p.i p.v p.s) (μ:=λp:Gg l D R=>p.n) ⟨m,i+1,o,v,s,e1,e2,e3,by omega,e4,e5⟩ (by simp) (by simpa [CX] using e6) cC.rfl bK.rfl
   by_cases hc:closing (dn l i)=0
   case' neg =>
    simp only[am,jm,aI hc];refine fO.len hO ?_;simp only[am,zn]
    by_cases rh:24<=o.length
    .simp only[rE,hc,C9,pq,rh,cm] at hR;simp only[am,aJ (show(24:Int)<=o.length by omega)];refine aL rfl hS.sub ⟨?_,rfl⟩;simp[V.erase,<-hR]
    simp only[rE,hc,C9,pq,rh,bZ,cm] at hR;simp only[am,jm,aI (show ¬(24:Int)<=o.length by omega)];refine fO.app hO (by simp) rfl (by simp[zn,aK];omega) ?_;intro v2' awi Ty hF;have hS:=hS.step hF;have e:tI o++[[.int .i64 (i:Nat)]]=tI (o++[i]):=by simp[tI]
    rw[e] at Ty;have hO:=Ty;have hle:(o++[i]).length<=i+1:=by simp;omega
    have xo:∀j∈o++[i],j<l.length:=λj hj=>by
     rcases jC.1 hj with h | h
     .exact xo j h
     .simp at h;omega
    generalize hq:o++[i]=o2 at hO hle xo hR;generalize hv:v2' = v3 at hO hS;generalize hs:awi = mG at hO hS;simp only[am]
   case' pos =>
    simp only[rE,hc,Bf,Cg,bZ] at hR;have hle:o.length<=i+1:=by omega
    generalize hq:o=o2 at hO hle xo hR;generalize hv:v2=v3 at hO hS;generalize hs:fc=mG at hO hS;simp only[am,aJ hc]
   all_goals
    refine(Rt (dn l i) _).mono ?_;rintro v mG ⟨rfl,rfl⟩;cases gu:j5 (dn l i)
    .rw[gu] at hR;simp only[am];rw[wrap_i64];exact again o2 v3 mG _ hO hS hR hle xo (by simp[ar,am])
    .rw[gu,aE rfl] at hR;simp only[am,jm];refine fO.len hO ?_;simp only[am,zn]
     by_cases ho:o2=[]
     .rw[ho] at hR;simp only[J4] at hR;simp only[am,bL,ho,eM,sO];refine aL rfl hS.sub ⟨?_,rfl⟩;simp[V.erase,<-hR]
     .have gi:0<o2.length:=J6.2 ho;obtain⟨j,Mb,AH,CC⟩:=U3 ho;rw[Mb] at hR;simp only at hR;have ur:=xo j CC;simp only[am,jm,aI (show ¬(o2.length:Int)=0 by omega)];refine fO.len hO ?_;simp only[am,jm,zn];rw[wrap_i64];refine fO.idx hO (by omega) AH ?_;intro b cs rest _ e_ ec;simp only[am,e_,ec];refine ix (wB ur) ?_;simp only[am,Tok.enc];rw[<-A3 ur];refine(G2 (dn l j) _).mono ?_;rintro v mG ⟨rfl,rfl⟩;simp only[am]
      by_cases vU:closing (dn l j)=dn l i
      .rw[aE vU] at hR;simp only[am,jm,aJ vU];refine fO.len hO ?_;simp only[am,jm,zn];rw[wrap_i64];refine fO.take hO (by omega) (m:=o2.length - 1) (by omega) (by simp[zn]) ?_;intro v4 hO4 hB;simp only[am];rw[wrap_i64];refine again o2.dropLast v4 mG _ ?_ ⟨hS.sub,λb hb=>hS.new b (by rw[<-hB];exact hb)⟩ hR (by simp;omega) (λj hj=>xo j (P7 _ hj)) (by simp[ar,am])
       have:(tI o2).take (o2.length - 1)=tI o2.dropLast:=by simp[tI,List.dropLast_eq_take,Qg]
       rw[<-this];exact hO4
      .rw[aA vU] at hR;simp only[am,aI vU];refine aL rfl hS.sub ⟨?_,rfl⟩;simp[V.erase,<-hR]
  .intro aC;have aC:i=l.length:=by simp at aC;omega
   have hn:n=0:=by omega
   subst hn;simp only[jG] at hR;simp only[am,jm,Nat.reduceAdd];refine fO.len hO ?_;simp only[am,zn]
   by_cases ho:o=[]
   .rw[ho] at hR;simp only[J4] at hR;simp only[am,ho,eM,sO,show decide ((0:Int)<0)=ak from rfl];refine aL rfl hS.sub ⟨?_,rfl⟩;simp[V.erase,<-hR]
   .have gi:0<o.length:=J6.2 ho;obtain⟨j,Mb,AH,CC⟩:=U3 ho;rw[Mb] at hR;simp only at hR;simp only[am,jm,aJ (show(0:Int)<o.length by omega)];refine fO.len hO ?_;simp only[am,jm,zn];rw[wrap_i64];refine fO.idx hO (by omega) AH ?_;intro b cs rest _ e_ ec;simp only[am,e_,ec];refine aL rfl hS.sub ⟨?_,rfl⟩;simp[V.erase,<-hR]
def aiR:aU prog 51 (sq [rg 2 [oz 10,oM [0,0]],rg 5 [om 0,oC 88 [5],o1 4],sq [rg 7 [om 4,nB .geq 0],ci 8 (sq [dg 9 [om 0,om 4,nA 3 9,nF 2,oG [0,0] [(0,1,.c (.int .i64 2)),(1,1,.s 13)],oU 2 10,o2 2 3],.ret])],rg 15 [om 0,om 0,nL,oc 89 [.s 15,.c (.int .i64 0),.s 17],oW [0,0] [],ot 2 18,o2 2 3],.ret]) [.tmp 2,.cell 3 ab 2] 20:=aV func51
def ai_:aU prog 89 (sq [rg 6 [oz 10],rg 7 [oz 10],sq [rg 11 [om 1,o1 8],bl 0 (sq [sq [rg 12 [om 8,om 2,nb .lss 12],cx 14 0],.block 1 (sq [dg 17 [om 0,om 8,nA 3 17,mM [1],nl 3,om 0,om 8,nA 3 21,nf 2,mM [1],no,oW [3,1,0,10,0] [(0,3,20),(4,1,25)],oZ 9 [3,1,0,10,0],o2 5 9],sq [rg 27 [om 0,om 8,nA 3 27,nF 0,oC 147 [31],nu .neq 0],ci 33 (sq [rg 34 [om 0,om 8,oC 149 [34,35],o1 10],rg 37 [om 0,om 8,nB .add 1,om 10,oC 89 [37,39,40],of 3 9,os 1 42 41],rg 43 [om 0,om 10,nA 3 43,nF 2,of 4 9,os 1 48 47],rg 49 [om 10,o1 8]])],rg 50 [om 7,ol 5 9,n1 5,na 5 50,o1 7]]),rg 15 [ic 8]])],rg 54 [om 7,o1 6],.ret]) [.tmp 6] 55:=aV func89
def agq:aU prog 149 (sq [rg 4 [oi 0],rg 5 [oi 0],sq [rg 7 [om 1,o1 6],bl 0 (sq [sq [rg 8 [om 6,om 0,nL,nb .lss 8],cx 11 0],.block 1 (sq [sq [rg 14 [om 0,om 6,nA 3 14,nF 0,oC 147 [18],nu .neq 0],ci 20 (rg 21 [ic 5])],sq [rg 23 [om 0,om 6,nA 3 23,nF 0,oC 148 [27]],ci 28 (rg 29 [om 5,nB .sub 1,o1 5])],rg 31 [om 5,nB .eql 0],cr 32 33 [om 6,o1 4]]),rg 12 [ic 6]])],rg 34 [om 1,o1 4],.ret]) [.tmp 4] 35:=aV func149
def CZ(l:List Tok)(a i:Nat)(d:Int)(D:af):St :=
 ⟨[.sl .no 3 (l.map Tok.enc),.int .i64 (a:Nat),.any,.any,.any,.int .i64 d,.int .i64 (i:Nat)]++ar 28 .any,[],D⟩
def aqm(l:List Tok)(a:Nat)(D:af)(ha:a<l.length)(hb:l.length+1<=aK):a7 149 [.sl .no 3 (l.map Tok.enc),.int .i64 (a:Nat)] D (.int .i64 (partner l a:Nat)):=by
 simp only[aK] at hb;generalize hR:partner l a=R;unfold partner at hR;refine agq.aT ?_;simp only[aS,am,aZ,Nat.reduceAdd];refine gn (λp:{p:Nat × Nat × Int // iu l a p.1 p.2.1 p.2.2=R/\p.2.1+p.1=l.length/\p.2.2<=p.2.1/\-(p.2.1:Int)<=p.2.2}=>CZ l a p.1.2.1 p.1.2.2 D) (λp=>p.1.1) ?_ ?_
 .refine bm.enter ⟨(l.length - a,a,0),hR,by simp only;omega,by simp,by simp⟩ ?_ cC.rfl bK.rfl;simp[CZ,ar,am]
 .rintro⟨⟨n,i,d⟩,hR,Us,Ew,Ex⟩;simp only at hR Us Ew Ex;simp only[CZ,ar,am,aR];refine eR ?_ ?_
  .intro aC;have aC:i<l.length:=by simpa using aC
   obtain⟨m,rfl⟩:∃m,n=m+1:=⟨n - 1,by omega⟩;simp only[iu] at hR;simp only[am];refine ix (wB aC) ?_;simp only[am,Tok.enc];rw[<-A3 aC];refine cl (G2 (dn l i) _) ?_;simp only[am];have again:∀(d' : Int) (t:List V),(if d' = 0 then i else iu l a m (i+1) d')=R->¬d' = 0->d' <= (i:Int)+1->-((i:Int)+1)<=d' ->
    cQ t ([.sl .no 3 (l.map Tok.enc),.int .i64 (a:Nat),.any,.any,.any,.int .i64 d',.int .i64 ((i:Int)+1)]++ar 28 .any) ->
    bm ⟨t,[],D⟩ λaM => ∃j:{p:Nat × Nat × Int // iu l a p.1 p.2.1 p.2.2=R/\p.2.1+p.1=l.length/\p.2.2<=p.2.1/\-(p.2.1:Int)<=p.2.2},aM = CZ l a j.1.2.1 j.1.2.2 D/\j.1.1<m+1:=λd' t e1 e2 e3 e4 e5 =>
    bm.again (I:=λp:{p:Nat × Nat × Int // iu l a p.1 p.2.1 p.2.2=R/\p.2.1+p.1=l.length/\p.2.2<=p.2.1/\-(p.2.1:Int)<=p.2.2}=>CZ l a p.1.2.1 p.1.2.2 D) (μ:=λp=>p.1.1)
     ⟨(m,i+1,d'),by rw[aA e2] at e1;exact e1,by simp only;omega,by simp only;omega,by simp only;omega⟩ (by simp) (by simpa [CZ] using e5) cC.rfl bK.rfl
   have w1:IntKind.i64.wrap (d+1)=d+1:=wrap_i64 (by omega) (by omega);have w2:IntKind.i64.wrap (d - 1)=d - 1:=wrap_i64 (by omega) (by omega);have w3:IntKind.i64.wrap (d+1 - 1)=d+1 - 1:=wrap_i64 (by omega) (by omega);have wi:IntKind.i64.wrap ((i:Int)+1)=(i:Int)+1:=wrap_i64 (by omega) (by omega)
   by_cases hc:closing (dn l i)=0
   case' neg =>
    simp only[rE,hc,C9,cm] at hR;simp only[am,aI hc,w1]
   case' pos =>
    simp only[rE,hc,Bf,bZ,Int.add_zero] at hR;simp only[am,aJ hc]
   all_goals
    refine ix (wB aC) ?_;simp only[am,Tok.enc];rw[<-A3 aC];refine cl (Rt (dn l i) _) ?_;cases gu:j5 (dn l i)
    all_goals rw[gu] at hR
    all_goals simp only[da,bZ,cm,Int.sub_zero] at hR
    all_goals simp only[am,w2,w3]
    all_goals refine eR (λh0=>?_) (λh0=>?_)
    all_goals simp only[cn,Ao] at h0
    all_goals simp only[am,wi]
    all_goals first
     | (rw[aE h0] at hR
        refine aL rfl (af.bg _) ⟨?_,rfl⟩;simp[V.erase,hR])
     | exact again d _ hR h0 (by omega) (by omega) (by simp[ar,am])
     | exact again (d+1) _ hR h0 (by omega) (by omega) (by simp[ar,am])
     | exact again (d - 1) _ hR h0 (by omega) (by omega) (by simp[ar,am])
     | exact again (d+1 - 1) _ hR h0 (by omega) (by omega) (by simp[ar,am])
  .intro aC;have aC:i=l.length:=by simp at aC;omega
   have hn:n=0:=by omega
   subst hn;simp only[iu] at hR;simp only[am];refine aH ?_;simp[V.erase,hR]
def CY(l:List Tok)(a:Nat)(to:Nat)(i Z:Nat)(out:List al)(D:af):St :=
 ⟨[.sl .no 3 (l.map Tok.enc),.int .i64 (a:Nat),.int .i64 (to:Nat),.any,.any,.any,.any,.sl (.tk Z) 5 (b_ out),.int .i64 (i:Nat)]++ar 46 .any,[],D.aY Z out.length⟩
def Sk(a:List al)(t:al):b_ (a++[t])=b_ a++[t.enc]:=by simp[n_]
def al.Sj{t:Tok}{ks:List al}{e:Int}:(al.mk t ks e).enc=[.int .u8 t.kind,.aF t.aq,.int .i64 t.pos,.sl .no 5 (b_ ks),.int .i64 e]:=by simp[al.enc]
def aul(l:List Tok)(hb:l.length+1<=aK):∀(n from_ to:Nat) (D:af),l.length<=n+from_->from_<=l.length->to<=l.length ->
 a7 89 [.sl .no 3 (l.map Tok.enc),.int .i64 (from_:Nat),.int .i64 (to:Nat)] D (.sl .no 5 (b_ (jR l n from_ to))):=by
 have cc := hb;simp only[aK] at cc;intro n;induction n using Nat.strongRecOn with
 | ind n ih =>
 intro a to D hn ha hto;generalize hR:jR l n a to=R;refine ai_.aT ?_;simp only[aS,am,aZ,Nat.reduceAdd];refine gn (λp:{p:Nat × Nat × Nat × List al // D.aP p.2.2.1=ag/\p.2.2.2++jR l p.1 p.2.1 to=R/\p.1<=n/\l.length<=p.1+p.2.1/\p.2.1<=l.length/\p.2.2.2.length<=p.2.1}=>CY l a to p.1.2.1 p.1.2.2.1 p.1.2.2.2 D) (λp=>l.length - p.1.2.1) ?_ ?_
 .refine bm.sH 0 λZ bc=>⟨⟨(n,a,Z,[]),bc,hR,by simp,hn,ha,by simp⟩,?_,rfl,rfl⟩
  simp[CY,ar,kJ,b_]
 .rintro⟨⟨m,i,Z,out⟩,bc,hR,rq,hmi,hi,hol⟩;simp only at bc hR rq hmi hi hol;simp only[CY,ar,am];refine eR ?_ ?_
  .intro aC;have aC:i<to:=by simpa using aC
   have si:i<l.length:=by omega
   obtain⟨m,rfl⟩:∃k,m=k+1:=⟨m - 1,by omega⟩;simp only[jR,aC,cm] at hR;obtain⟨HW,CL⟩:=FC si;have wi:∀j:Nat,j<l.length->IntKind.i64.wrap ((j:Int)+1)=((j+1:Nat):Int):=λj hj=>by rw[wrap_i64];simp
   simp only[am];refine ix (wB si) ?_;simp only[am,Tok.enc];refine ix (wB si) ?_;simp only[am,Nat.reduceAdd,Tok.enc];refine ix (wB si) ?_;simp only[am,Tok.enc];rw[<-A3 si,<-FE si];refine(G2 (dn l i) _).mono ?_;rintro v fc ⟨rfl,rfl⟩;have again:∀(b:Nat) (t:al) (st:List V) (ls:List (List V)),out++(t::jR l m b to)=R->i<b->b<=l.length ->
    cQ st ([.sl .no 3 (l.map Tok.enc),.int .i64 (a:Nat),.int .i64 (to:Nat),.any,.any,.any,.any,.sl (.tk Z) 5 (b_ (out++[t])),.int .i64 (b:Nat)]++ar 46 .any) ->
    bm ⟨st,ls,D.aY Z (out.length+1)⟩ λaM => ∃j:{p:Nat × Nat × Nat × List al // D.aP p.2.2.1=ag/\p.2.2.2++jR l p.1 p.2.1 to=R/\p.1<=n/\l.length<=p.1+p.2.1/\p.2.1<=l.length/\p.2.2.2.length<=p.2.1},aM = CY l a to j.1.2.1 j.1.2.2.1 j.1.2.2.2 D/\l.length - j.1.2.1<l.length - i:=λb t st ls e1 e2 e3 e4=>by
    have e:out.length+1=(out++[t]).length:=by simp
    rw[e];exact bm.ql (I:=λp:{p:Nat × Nat × Nat × List al // D.aP p.2.2.1=ag/\p.2.2.2++jR l p.1 p.2.1 to=R/\p.1<=n/\l.length<=p.1+p.2.1/\p.2.1<=l.length/\p.2.2.2.length<=p.2.1}=>CY l a to p.1.2.1 p.1.2.2.1 p.1.2.2.2 D) (μ:=λp=>l.length - p.1.2.1)
     ⟨(m,b,Z,out++[t]),bc,by simpa using e1,by simp only;omega,by simp only;omega,e3,by simp;omega⟩ (by simp;omega) e4 (by simp[CY,am]) bK.rfl rfl rfl
   by_cases hc:closing (dn l i)=0
   .simp only[rE,hc,Bf,bZ] at hR;simp only[am,Nat.reduceAdd,aJ hc];refine iy (by simp[dt,aK];omega) (by rw[dt,gw]) ?_;simp only[am,dt,gJ,wi i si];exact again (i+1) _ _ _ hR (by omega) (by omega) (by simp[ar,am,Sk,al.Sj,b_,A3 si,FE si])
   .simp only[rE,hc,C9,cm] at hR;simp only[am,aI hc];refine(aqm l i _ si hb).mono ?_;rintro v fc ⟨rfl,rfl⟩;simp only[am,wi i si];refine(ih m (by omega) (i+1) (partner l i) _ (by omega) (by omega) (by omega)).mono ?_;rintro v fc ⟨rfl,rfl⟩;simp only[am];refine ix (wB CL) ?_;simp only[am,Nat.reduceAdd,Tok.enc];rw[<-FE CL];refine iy (by simp[dt,aK];omega) (by rw[dt,gw]) ?_;simp only[am,dt,gJ,wi _ CL];exact again (partner l i+1) _ _ _ hR (by omega) (by omega) (by simp[ar,am,Sk,al.Sj,A3 si,FE si])
  .intro aC;have aC:¬i<to:=by simp at aC;omega
   have hE:jR l m i to=[]:=by cases m<;>simp[jR,aC]
   rw[hE,eK] at hR;simp only[am];refine aL rfl (jQ bc) ⟨?_,rfl⟩;simp[V.erase,<-hR]
def aui(l:List Tok)(D:af)(hb:l.length+1<=aK):a7 51 [.sl .no 3 (l.map Tok.enc)] D (.bt [.sl .no 5 (b_ (gf l).1),jq (gf l).2]):=by
 refine aiR.aT ?_;simp only[aS,am,aZ,Nat.reduceAdd];refine cl (amX l D hb) ?_;have hf:=K5 l l.length 0 [] (by omega) (by simp);generalize hg:jG l l.length 0 []=f at hf ⊢
 by_cases h0:0<=f
 .obtain⟨j,rfl⟩:=wK h0;have hj:j<l.length:=by omega
  simp only[am,aJ h0];refine ix (wB hj) ?_;simp only[am,Nat.reduceAdd,Tok.enc];rw[<-FE hj];refine aH ?_;simp[V.erase,aX,gf,hg,jq,df,fx,b_]
 .simp only[am,aR,aI h0];refine cl (aul l hb l.length 0 l.length D (by omega) (by omega) (by omega)) ?_;simp only[am,Nat.reduceAdd];refine aH ?_;simp[V.erase,aX,gf,hg,h0,jq,df,fx]
def agd:aU prog 121 (sq [rg 2 [ox 1 5 0,oz 1],sq [rg 3 [fo 0 1],.block 0 (sq [sq [rg 6 [oB .eql 4 1,o1 5],cd 5 .skip (rg 7 [oB .eql 4 2,o1 5])],cd 5 (sq [rg 8 [fo 2 1,o1 2],.ret]) (sq [rg 11 [oB .eql 4 3,o1 10],cd 10 (sq [rg 12 [ol 5 1,oC 185 [12],oq (.cat (.c (.aF [123])) (.s 13)),oq (.cat (.s 14) (.c (.aF [125]))),o1 2],.ret]) (sq [rg 17 [oB .eql 4 4,o1 16],cd 16 (sq [rg 18 [ol 5 1,oC 186 [18],oq (.cat (.c (.aF [40])) (.s 19)),oq (.cat (.s 20) (.c (.aF [41]))),o1 2],.ret]) (sq [rg 23 [oB .eql 4 5,o1 22],cd 22 (sq [rg 24 [ol 5 1,oC 186 [24],oq (.cat (.c (.aF [91])) (.s 25)),oq (.cat (.s 26) (.c (.aF [93]))),o1 2],.ret]) (sq [rg 29 [oB .eql 4 6,o1 28],cd 28 (sq [dg 30 [of 2 1,mM [1],no,oq (.cat (.s 31) (.c (.aF [58,123]))),ol 5 1,oC 185 [33],oq (.cat (.s 32) (.s 34)),oq (.cat (.s 35) (.c (.aF [125]))),o1 2],.ret]) (sq [rg 38 [oB .eql 4 7,o1 37],cd 37 (sq [rg 39 [ol 5 1,oC 187 [39],oq (.cat (.c (.aF [35])) (.s 40)),o1 2],.ret]) (sq [rg 43 [oB .eql 4 8,o1 42],cd 42 (sq [rg 44 [ol 5 1,oC 186 [44],oq (.cat (.c (.aF [43,40])) (.s 45)),oq (.cat (.s 46) (.c (.aF [41]))),o1 2],.ret]) (sq [rg 49 [oB .eql 4 9,o1 48],cd 48 (sq [rg 50 [ol 5 1,oC 186 [50],oq (.cat (.c (.aF [38,40])) (.s 51)),oq (.cat (.s 52) (.c (.aF [41]))),o1 2],.ret]) (sq [rg 55 [oB .eql 4 10,o1 54],cd 54 (sq [rg 56 [ol 5 1,oC 188 [56],o1 2],.ret]) (sq [rg 59 [oB .eql 4 11,o1 58],ci 58 (sq [dg 60 [of 2 1,mM [1],no,oq (.cat (.s 61) (.c (.aF [61]))),ol 5 1,oC 187 [63],oq (.cat (.s 62) (.s 64)),o1 2],.ret])])])])])])])])])])])],rg 2 [oz 1],.ret]) [.tmp 2] 66:=aV func121
def agX:aU prog 185 (sq [rg 2 [od (aa 1) (.gO 5 (.s 0)),oz 1],rg 3 [fo 3 1,nL,oq (.ko (.func 236) [] [(.s 1)]),oC 235 [5,6],o1 2],.ret]) [.tmp 2] 8:=aV func185 ⟨[1],[]⟩
def agY:aU prog 186 (sq [rg 2 [od (aa 1) (.gO 5 (.s 0)),oz 1],rg 3 [fo 4 1,nL,oq (.ko (.func 237) [] [(.s 1)]),oC 235 [5,6],o1 2],.ret]) [.tmp 2] 8:=aV func186 ⟨[1],[]⟩
def agZ:aU prog 187 (sq [rg 2 [ox 1 5 0,oz 1],sq [rg 3 [fo 4 1,nL,nB .eql 0],cr 6 2 [oz 1]],rg 7 [fo 4 1,nI 5 0,nl 5,oC 121 [10],o1 2],.ret]) [.tmp 2] 12:=aV func187
def ag0:aU prog 188 (sq [rg 2 [ox 1 5 0,oz 1],rg 4 [ol 5 1,oC 186 [4],oq (.cat (.c (.aF [91])) (.s 5)),o1 3],sq [rg 7 [fo 3 1,nL,nB .gtr 0],ci 10 (rg 11 [om 3,ol 5 1,oC 185 [12],oq (.cat (.c (.aF [124])) (.s 13)),oq (.cat (.s 11) (.s 14)),o1 3])],rg 16 [om 3,oq (.cat (.s 16) (.c (.aF [93]))),o1 2],.ret]) [.tmp 2] 18:=aV func188
def ahy:aU prog 235 (sq [rg 4 [oz 1],rg 5 [oz 6],sq [rg 7 [om 0,oi 0],lp 7 0 (sq [rg 10 [om 8,o1 6],sq [rg 11 [om 6,nB .gtr 0],ci 12 (rg 13 [om 5,oq (.jn 1 [(.c (.int .u8 44))]),na 1 13,o1 5])],rg 16 [om 5,om 1,om 6,oq (.iX (.s 17) [(.s 18)]),oq (.nj (.s 16) (.s 19)),o1 5]]) 21],rg 22 [om 5,oq (.uc (.s 22)),o1 4],.ret]) [.tmp 4] 24:=aV func235
def ahz:aU prog 236 (sq [rg 3 [oz 1],rg 4 [fo 3 1,om 0,nA 2 5,nF 0,o1 3],.ret]) [.tmp 3] 10:=aV func236
def ahA:aU prog 237 (sq [rg 3 [oz 1],rg 4 [fo 4 1,om 0,nA 5 5,nl 5,oC 121 [8],o1 3],.ret]) [.tmp 3] 10:=aV func237
def M0(n:Nat)(g:FuncId)(cap:List V)(f:Nat->List UInt8)(D:af)(i Z:Nat):St :=
 ⟨[.int .i64 (n:Nat),.fn (.func g) [] cap,.any,.any,.any,.sl (.tk Z) 1 (dE (cO ((bX i).map f))),.any,.int .i64 (n:Nat),.int .i64 (i:Nat)]++ar 15 .any,[],D.aY Z (cO ((bX i).map f)).length⟩
def W1(f:Nat->List UInt8)(i:Nat):cO ((bX (i+1)).map f)=cO ((bX i).map f)++(if 0<i then [44] else [])++f i:=by
 rw[rP,gy,Gn,UQ];simp
def arF(f:Nat->List UInt8){n:Nat}(h:i<=n):(cO ((bX i).map f)).length<=(cO ((bX n).map f)).length:=by
 induction n with
 | zero =>
  have:i=0:=by omega
  rw[this];exact bS _
 | succ n ih =>
  by_cases hi:i=n+1
  .rw[hi];exact bS _
  .have:=ih (by omega)
   rw[W1];simp only[bP];omega
def RG{n:Nat}{f:Nat->List UInt8}(pR:bO cap=ab)(hn:n<=aK)(hb:(cO ((bX n).map f)).length<=aK)
 (h:∀i,i<n->∀cU:af,cU.box=D.box->cz prog g (.int .i64 (i:Nat)::cap) cU λv σ' => v = .aF (f i)/\σ' = cU) :
 a7 235 [.int .i64 (n:Nat),.fn (.func g) [] cap] D (.aF (cO ((bX n).map f))):=by
 refine ahy.aT ?_;simp only[aS,am,aZ,Nat.reduceAdd];refine gn (λp:{p:Nat × Nat // D.aP p.2=ag/\p.1<=n}=>M0 n g cap f D p.1.1 p.1.2) (λp=>n - p.1.1) ?_ ?_
 .refine bm.sH 0 λZ bc=>⟨⟨(0,Z),bc,by simp⟩,?_,rfl,rfl⟩
  simp[M0,ar,kJ,cO,dE]
 .rintro⟨⟨i,Z⟩,bc,hi⟩;simp only at bc hi;simp only[M0,ar,am];refine eR ?_ ?_
  .intro aC;have aC:i<n:=by simpa using aC
   have hs:=W1 f i;have hm:=arF f (i:=i+1) (n:=n) (by omega);simp only[aK] at hn hb;rw[hs] at hm;simp only[bP] at hm;have wi:IntKind.i64.wrap ((i:Int)+1)=(i:Int)+1:=wrap_i64 (by omega) (by omega);simp only[am]
   by_cases h0:0<i
   case' pos =>
    rw[aE h0] at hs hm;simp only[am,aJ (show(0:Int)<i by omega)];refine iy (by simp[jE,aK];simp at hm;omega) (by rw[jE,gw]) ?_;simp only[am,gJ];rw[show dE (cO ((bX i).map f))++[[.int .u8 44]]=dE (cO ((bX i).map f)++[44]) by simp[dE],show(dE (cO ((bX i).map f))).length+1=(cO ((bX i).map f)++[44]).length by simp[dE]]
   case' neg =>
    rw[aA h0,eK] at hs;rw[aA h0] at hm;simp only[am,aI (show ¬(0:Int)<i by omega)]
   all_goals
    refine⟨pR,?_⟩;refine(h i aC (D.aY Z _) rfl).mono ?_;rintro v σ' ⟨rfl,rfl⟩;simp only[am,cV];refine⟨_,rfl,?_⟩;refine iy (by simp[jE,aK];simp at hm;omega) (by rw[jE,gw]) ?_;simp only[am,gJ,wi];rw[<-D9,jE,jE,<-bP,<-hs];exact bm.again ⟨(i+1,Z),bc,aC⟩ (by simp;omega) (by simp[am]) cC.rfl bK.rfl
  .intro aC;have aC:i=n:=by simp at aC;omega
   subst aC;simp only[am,cV];refine⟨_,_,rfl,?_⟩;refine aL rfl (jQ bc) ⟨?_,rfl⟩;simp[V.erase]
def an'{n:Nd}(hi:i<n.an.length)(hq:D.box q=aa n.enc):a7 236 [.int .i64 (i:Nat),.ptr (.out q) 0] D (.aF (n.an[i].aq)):=by
 refine ahz.aT ?_;simp only[aS,am,aZ,Nat.reduceAdd];simp only[am,hq,Nd.fl];refine ix (Dx (show n.an[i]?=aa n.an[i] by simp[hi])) ?_;simp only[am,aB.enc];exact rt
def al4{n:Nd}(hi:i<n.aj.length)(hq:D.box q=aa n.enc)(ih:∀m∈n.aj,∀D,a7 121 [.agg m.enc] D (.aF m.dy)):
 a7 237 [.int .i64 (i:Nat),.ptr (.out q) 0] D (.aF (n.aj[i].dy)):=by
 refine ahA.aT ?_;simp only[aS,am,aZ,Nat.reduceAdd];simp only[am,hq,Nd.fl];refine ix (o_ (show n.aj[i]?=aa n.aj[i] by simp[hi])) ?_;simp only[am,Nd.au];refine cl (ih n.aj[i] (fg hi) D) ?_;simp only[am];exact rt
def W0(l:List U)(f:U->List UInt8)(d:List UInt8):(bX l.length).map (λi=>if h:i<l.length then f l[i] else d)=l.map f:=by
 apply P';intro i
 by_cases h:i<l.length<;>simp[h]
def NP{n:Nd}(hw:n.wt<=aK):a7 185 [.agg n.enc] D (.aF (iT n.an)):=by
 have h1:=Ga n.an;have h2:n.an.length<=fu n.an:=by
  unfold fu;generalize n.an=l;induction l with
  | nil=>simp
  | cons w ws ih=>simp only[ch,n7,dB];omega
 have h3:fu n.an<=n.wt:=by cases n;simp only[Nd.wt,Nd.an];omega
 have e:cO ((bX n.an.length).map (λi=>if h:i<n.an.length then n.an[i].aq else []))=iT n.an:=by
  rw[W0 n.an (λw=>w.aq) []];rfl
 refine agX.aT ?_;simp only[aS,am,aZ,Nat.reduceAdd,Nd.au];refine kI λq hq=>?_
 simp only[am,aR,Nd.fl];refine(RG (f:=λi=>if h:i<n.an.length then n.an[i].aq else []) rfl (by omega) (by rw[e];omega) (λi hi cU h1=>?_)).mono ?_
 .rw[yz hi];exact an' hi (by rw[h1];exact af.eH _ _ _)
 rintro v σ' ⟨rfl,rfl⟩;simp only[am];refine aL rfl (iS hq) ⟨?_,rfl⟩;rw[e];simp[V.erase]
def E_{n:Nd}(hw:n.wt<=aK)(ih:∀m∈n.aj,∀D,a7 121 [.agg m.enc] D (.aF m.dy)):a7 186 [.agg n.enc] D (.aF (cO (eh n.aj))):=by
 have h1:=Ij n.aj (BC n.aj);have h2:n.aj.length<=gg n.aj:=by
  rw[Gb];generalize n.aj=l;induction l with
  | nil=>simp
  | cons w ws ih=>simp only[ch,n7,dB];omega
 have h3:gg n.aj<=n.wt:=by cases n;simp only[Nd.wt,Nd.aj];omega
 have e:cO ((bX n.aj.length).map (λi=>if h:i<n.aj.length then n.aj[i].dy else []))=cO (eh n.aj):=by
  rw[W0 n.aj (λw=>w.dy) [],BD]
 refine agY.aT ?_;simp only[aS,am,aZ,Nat.reduceAdd,Nd.au];refine kI λq hq=>?_
 simp only[am,aR,Nd.fl];refine(RG (f:=λi=>if h:i<n.aj.length then n.aj[i].dy else []) rfl (by omega) (by rw[e];omega) (λi hi cU h1=>?_)).mono ?_
 .rw[yz hi];exact al4 hi (by rw[h1];exact af.eH _ _ _) ih
 rintro v σ' ⟨rfl,rfl⟩;simp only[am];refine aL rfl (iS hq) ⟨?_,rfl⟩;rw[e];simp[V.erase]
def SB{n:Nd}(ih:∀m∈n.aj,∀D,a7 121 [.agg m.enc] D (.aF m.dy)):a7 187 [.agg n.enc] D (.aF (rk (eh n.aj))):=by
 refine agZ.aT ?_;simp only[aS,am,aZ,Nat.reduceAdd,Nd.au];simp only[am,aR,Nd.fl];cases hk:n.aj with
 | nil =>
  simp only[am,bL,fh,eM,sO];refine aH ?_;simp[V.erase,rk,eh]
 | cons m ms =>
  simp only[am,aI (show ¬(((m::ms).length:Nat):Int)=0 by simp;omega),Nd.fl,hk];refine lM (c:=m.enc) (by simp) ?_;simp only[am,Nd.au];refine cl (ih m (by rw[hk];simp) D) ?_;simp only[am];refine aH ?_;simp[V.erase,rk,eh]
def asc{n:Nd}(hw:n.wt<=aK)(ih:∀m∈n.aj,∀D,a7 121 [.agg m.enc] D (.aF m.dy)):
 a7 188 [.agg n.enc] D (.aF (([91]++cO (eh n.aj))++(if 0<n.an.length then [124]++iT n.an else [])++[93])):=by
 have h1:=Ij n.aj (BC n.aj);have h2:=Ga n.an;have h3:gg n.aj+fu n.an+4<=n.wt:=by cases n;simp only[Nd.wt,Nd.aj,Nd.an];omega
 refine ag0.aT ?_;simp only[aS,am,aZ,Nat.reduceAdd,Nd.au];refine cl (E_ hw ih) ?_;simp only[am];refine⟨by simp;omega,?_⟩;simp only[am,aR,Nd.fl]
 by_cases h0:0<n.an.length
 .simp only[am,Nd.au,aJ (show(0:Int)<n.an.length by omega)];refine cl (NP hw) ?_;simp only[am];refine⟨by simp;omega,by simp;omega,by simp;omega,?_⟩;refine aH ?_;simp[V.erase,h0]
 .simp only[am,aI (show ¬(0:Int)<n.an.length by omega)];refine⟨by simp;omega,?_⟩;refine aH ?_;simp[V.erase,h0]
def at6:∀(k:Nat) (n:Nd) (D:af),n.wt<=k->n.wt<=aK->a7 121 [.agg n.enc] D (.aF n.dy):=by
 intro k;induction k with
 | zero=>intro n D h _;cases n;simp only[Nd.wt] at h;omega
 | succ k AX =>
  intro n D hk hw;have ih:∀m∈n.aj,∀D,a7 121 [.agg m.enc] D (.aF m.dy):=λm hm D=>by
   have h1:=JB hm;have h2:gg n.aj+4<=n.wt:=by cases n;simp only[Nd.wt,Nd.aj];omega
   exact AX m D (by omega) (by omega)
  have h1:=Ij n.aj (BC n.aj);have h2:=Ga n.an;have h3:n.aq.length+gg n.aj+fu n.an+4<=n.wt:=by cases n;simp only[Nd.wt,Nd.aj,Nd.an,Nd.aq];omega
  have h4:=TX n.aj (BC n.aj);have e:n.dy=if n.kind=1\/n.kind=2 then n.aq else if n.kind=3 then [123]++iT n.an++[125] else if n.kind=4 then [40]++cO (eh n.aj)++[41] else if n.kind=5 then [91]++cO (eh n.aj)++[93]
   else if n.kind=6 then n.aq++[58,123]++iT n.an++[125] else if n.kind=7 then [35]++rk (eh n.aj) else if n.kind=8 then [43,40]++cO (eh n.aj)++[41] else if n.kind=9 then [38,40]++cO (eh n.aj)++[41]
   else if n.kind=10 then([91]++cO (eh n.aj))++(if 0<n.an.length then [124]++iT n.an else [])++[93] else if n.kind=11 then n.aq++[61]++rk (eh n.aj) else []:=by cases n;rw[Nd.dy];rfl
  rw[e];refine agd.aT ?_;simp only[aS,am,aZ,Nat.reduceAdd,Nd.au];simp only[am,Nd.fl]
  by_cases k1:n.kind=1
  .simp only[am,aJ k1,Nd.fl];refine aH ?_;simp[V.erase,k1]
  simp only[am,aI k1]
  by_cases k2:n.kind=2
  .simp only[am,aJ k2,Nd.fl];refine aH ?_;simp[V.erase,k2]
  simp only[am,aI k2]
  by_cases k3:n.kind=3
  .simp only[am,Nd.au,aJ k3];refine cl (NP hw) ?_;simp only[am];refine⟨by simp;omega,by simp;omega,?_⟩;refine aH ?_;simp[V.erase,k3]
  simp only[am,aI k3]
  by_cases k4:n.kind=4
  .simp only[am,Nd.au,aJ k4];refine cl (E_ hw ih) ?_;simp only[am];refine⟨by simp;omega,by simp;omega,?_⟩;refine aH ?_;simp[V.erase,k4]
  simp only[am,aI k4]
  by_cases k5:n.kind=5
  .simp only[am,Nd.au,aJ k5];refine cl (E_ hw ih) ?_;simp only[am];refine⟨by simp;omega,by simp;omega,?_⟩;refine aH ?_;simp[V.erase,k5]
  simp only[am,aI k5]
  by_cases k6:n.kind=6
  .simp only[am,Nd.au,aJ k6,Nd.fl];refine⟨by simp;omega,?_⟩;refine bE.intro (NP hw) ?_;simp only[am,Nd.fl];refine⟨by simp;omega,by simp;omega,?_⟩;refine aH ?_;simp[V.erase,k6]
  simp only[am,aI k6]
  by_cases k7:n.kind=7
  .simp only[am,Nd.au,aJ k7];refine cl (SB ih) ?_;simp only[am];refine⟨by simp;omega,?_⟩;refine aH ?_;simp[V.erase,k7]
  simp only[am,aI k7]
  by_cases k8:n.kind=8
  .simp only[am,Nd.au,aJ k8];refine cl (E_ hw ih) ?_;simp only[am];refine⟨by simp;omega,by simp;omega,?_⟩;refine aH ?_;simp[V.erase,k8]
  simp only[am,aI k8]
  by_cases k9:n.kind=9
  .simp only[am,Nd.au,aJ k9];refine cl (E_ hw ih) ?_;simp only[am];refine⟨by simp;omega,by simp;omega,?_⟩;refine aH ?_;simp[V.erase,k9]
  simp only[am,aI k9]
  by_cases A0:n.kind=10
  .simp only[am,Nd.au,aJ A0];refine cl (asc hw ih) ?_;simp only[am];refine aH ?_;simp[V.erase,A0]
  simp only[am,aI A0]
  by_cases Ie:n.kind=11
  .simp only[am,Nd.au,aJ Ie,Nd.fl];refine⟨by simp;omega,?_⟩;refine bE.intro (SB ih) ?_;simp only[am,Nd.fl];refine⟨by simp;omega,?_⟩;refine aH ?_;simp[V.erase,Ie]
  simp only[am,aI Ie];refine aH ?_;simp[V.erase,k1,k2,k3,k4,k5,k6,k7,k8,k9,A0,Ie]
end Go.Proofs.Tryz
