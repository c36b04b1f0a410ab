/-
  Part 5 of the proof of JudgeLineUptoCardSaid: a logic over the model, the forms of the functions that the law reaches, and what they compute.
-/
import Derived.Test.YtkeidlpchmepkaaGreatDoorProg
import Derived.Test.YtkeidlpchmepkaaGreatDoorLine4
set_option linter.unusedVariables false
set_option linter.unusedSimpArgs false
set_option linter.defProp false
set_option linter.unusedSectionVars false
set_option maxRecDepth 4000
set_option maxHeartbeats 4000000
open Option renaming some->U,none->ah
open Bool renaming true->aa,false->aq
open List renaming replicate->aj,range->bG,getD->gy,zipWith->lQ
open Eq renaming mpr->cI
open Ne renaming symm->fL
namespace Go.Proofs.Tryz
open Go.Am
def ags:aR prog 215 (sq [rg 2 [oz 4],rg 3 [oz 4],sq [rg 6 [om 0,nL,oi 0],lp 7 0 (sq [rg 10 [oA 1 6 8,no,o1 5],rg 12 [om 3,om 5,oC 220 [12,13],o1 3]]) 15],rg 16 [om 3,o1 2],.ret]) [.tmp 2] 17:=aS func215
def agy:aR prog 220 (sq [rg 4 [oz 4],sq [rg 5 [om 1,oC 253 [5],nn],cr 7 8 [om 0,o1 4]],rg 9 [om 0,om 1,oq (.pG .u64 (.s 10)),oq (.dV .shl (.c (.int .u64 1)) (.s 11)),nb .or 9,o1 4],.ret]) [.tmp 4] 14:=aS func220
def agz:aR prog 221 (sq [rg 4 [oz 2],rg 5 [om 1,oC 253 [5],gA,om 0,om 1,oq (.pG .u64 (.s 9)),nb .shr 8,oq (.dV .and (.s 11) (.c (.int .u64 1))),oq (.dV .eql (.s 12) (.c (.int .u64 1))),gZ,o1 4],.ret]) [.tmp 4] 15:=aS func221
def ag2:aR prog 249 (sq [rg 2 [oz 6],rg 0 [od (U 3) (.qy [(.sl .a9 1 [])])],rg 4 [om 0,oq (.kb (.func 269) [] [(.s 3)]),oC 268 [4,5]],rg 7 [oo 3,o1 2],.ret]) [.tmp 2] 8:=aS func249 ⟨[3],[]⟩
def ag4:aR prog 250 (sq [rg 4 [oz 2],rg 5 [om 0,om 1,nb .andNot 5,oq (.dV .eql (.s 7) (.c (.int .u64 0))),o1 4],.ret]) [.tmp 4] 9:=aS func250
def ag7:aR prog 253 (sq [rg 2 [oz 2],rg 3 [om 0,nB .geq 0,gA,om 0,nB .lss 64,gZ,o1 2],.ret]) [.tmp 2] 9:=aS func253
def ahk:aR prog 267 (sq [rg 2 [oz 4],sq [rg 3 [om 0,nB .leq 0],cr 4 2 [oz 4]],sq [rg 5 [om 0,nB .geq 64],cr 6 2 [oq (.mv (.c (.int .u64 18446744073709551615)))]],rg 7 [om 0,oq (.pG .u64 (.s 7)),oq (.dV .shl (.c (.int .u64 1)) (.s 8)),oq (.dV .sub (.s 9) (.c (.int .u64 1))),o1 2],.ret]) [.tmp 2] 11:=aS func267
def ahl:aR prog 268 (bl 0 (sq [sq [rg 4 [om 0,oq (.dV .neq (.s 4) (.c (.int .u64 0)))],cx 5 0],.block 1 (sq [sq [rg 6 [om 1,om 0,oC 278 [7],oq (.iV (.s 6) [(.s 8)]),nn],ci 10 .ret],rg 11 [om 0,om 0,oq (.dV .sub (.s 12) (.c (.int .u64 1))),nb .and 11,o1 0]])])) [] 15:=aS func268
def ahm:aR prog 269 (sq [rg 3 [oz 2],rg 4 [oo 1,om 0,n1 1,na 1 4,o2 1 1],rg 3 [oq (.mv (.c (.bool aa)))],.ret]) [.tmp 3] 8:=aS func269
def ahw:aR prog 278 (sq [rg 2 [oi 0],sq [rg 3 [om 0,oq (.dV .eql (.s 3) (.c (.int .u64 0)))],cr 4 2 [oi 64]],rg 5 [om 0,om 0,oq (.dV .sub (.c (.int .u64 0)) (.s 6)),nb .and 5,oq (.dV .mul (.s 8) (.c (.int .u64 285870213051353865))),oq (.dV .shr (.s 9) (.c (.int .u64 58))),oq (.sO 64 1 (.c (.ptr (.kS 1) 0)) (.s 10)),no,oq (.pG .i64 (.s 12)),o1 2],.ret]) [.tmp 2] 14:=aS func278
def cg(l:List Int):List (List V):=l.map λn=>[.int .i64 n]
def tW(l:List Int):(cg l).length=l.length:=by simp[cg]
variable{j:Nat}
def De{l:List Int}(h:j<l.length):(cg l)[((j:Nat):Int).toNat]?=U [.int .i64 l[j]]:=by simp[cg,h]
def Fk{l:List Int}{n:Int}:cg (l++[n])=cg l++[[.int .i64 n]]:=by simp[cg]
abbrev aT(f:FuncId)(es:List V)(Z:ab)(x:V):Prop:=cF prog f es Z λv σ' => v=x/\σ' = Z
abbrev d_(f:FuncId)(es:List V)(Z:ab)(x:V)(gX:ab):Prop:=cF prog f es Z λv σ' => v=x/\σ' = gX
def U9(n:Int)(Z:ab):aT 253 [.int .i64 n] Z (.bool (decide (0<=n)&&decide (n<64))):=by
 refine ag7.aP ?_;simp only[aO,am,aX,Nat.reduceAdd]
 by_cases h:0<=n
 .simp only[am,aB h];refine aC ?_;simp[V.erase]
 .simp only[am,az h];refine aC ?_;simp[V.erase]
def PH:=af @am <| af @aX <| af @r5 @Ge
def FM(s:bu)(n:Int)(Z:ab):aT 220 [.int .u64 (s.toNat:Nat),.int .i64 n] Z (.int .u64 ((j5 s n).toNat:Nat)):=by
 refine agy.aP ?_;simp only[aO,PH,Nat.reduceAdd];refine cl (U9 n _) ?_;simp only[am]
 by_cases h:0<=n/\n<64
 .obtain⟨m,rfl⟩:∃m:Nat,n=m:=⟨n.toNat,by omega⟩;simp only[am,BW,Jq,aB h.1,aB h.2,wrap_u64 h.1 (by omega:(m:Int)<18446744073709551616)];refine aC ?_;simp[V.erase,j5,h,kl]
 .have:(decide (0<=n)&&decide (n<64))=false:=by simp only[B3,uH];omega
  simp only[am,this];refine aC ?_;simp[V.erase,j5,h]
def FL(l:List Int)(Z:ab)(hl:l.length<=100000):aT 215 [.sl .no 1 (cg l)] Z (.int .u64 ((fC l).toNat:Nat)):=by
 refine ags.aP ?_;simp only[aO,am,aX,Nat.reduceAdd,r5];refine ct (l.length) (λi (x:bu)=>⟨[.sl .no 1 (cg l),.any,.int .u64 ((0#64:bu).toNat:Nat),.int .u64 (x.toNat:Nat),.any,.any,.sl .no 1 (cg l),.int .i64 (l.length:Nat),.int .i64 (i:Nat)]++aj 8 .any,[],Z⟩) (λi x=>(x=fC (l.take i))) λF hF JF aW=>⟨?_,?_,?_⟩
 .refine en aW (0#64) (rfl) ?_ ?_ ?_
  all_goals simp[hF,aj,am,bd,tW]
 .rintro i x hi rfl;simp only[hF,aj,am,ca hi];refine ix (De hi) ?_;simp only[am];refine cl (FM _ _ _) ?_;simp only[am,aK,bF hi];exact nx aW (j5 (fC (l.take i)) l[i]) hi (by rw[jg hi];simp only[fC,B_,yF,Qa])
 .rintro x rfl;simp only[hF,aj,am,aK,cy,aK,df];exact rt
def asm(s:bu)(m:Nat):decide (s>>>m&&&1#64=1#64)=s.getLsbD m:=by
 have:(s>>>m&&&1#64=1#64)↔s.getLsbD m=true:=by
  constructor
  .intro h
   have:=jR (λx:bu=>x.getLsbD 0) h
   simpa using this
  .intro h;apply lZ;intro k hk;rw[r_,JA,BitVec.getLsbD_one]
   by_cases h0:k=0
   .subst h0;simp[h]
   .simp[h0]
 by_cases hc:s.getLsbD m=aa
 .rw[hc,aB (this.2 hc)]
 .rw[az (λh=>hc (this.1 h))];simpa using hc
def z1_:=af @am <| af @yr <| af @Jr @DX
def amS(s:bu)(n:Int)(Z:ab):aT 221 [.int .u64 (s.toNat:Nat),.int .i64 n] Z (.bool (hasB s n)):=by
 refine agz.aP ?_;simp only[aO,am,aX,Nat.reduceAdd,Ge];refine cl (U9 n _) ?_;simp only[am]
 by_cases h:0<=n/\n<64
 .obtain⟨m,rfl⟩:∃m:Nat,n=m:=⟨n.toNat,by omega⟩;simp only[z1_,aB h.1,aB h.2,wrap_u64 h.1 (by omega:(m:Int)<18446744073709551616),asm];refine aC ?_;simp[V.erase,hasB]
 .have:(decide (0<=n)&&decide (n<64))=false:=by simp only[B3,uH];omega
  simp only[am,this];refine aC ?_;simp[V.erase,hasB];intro h0;exact yz _ _ (by omega)
def YD:=af @am <| af @aX <| af @r5 <| af @X9 @DX
def amT(a b:bu)(Z:ab):aT 250 [.int .u64 (a.toNat:Nat),.int .u64 (b.toNat:Nat)] Z (.bool (wT a b)):=by
 refine ag4.aP ?_;simp only[aO,YD,Nat.reduceAdd];refine aC ?_;simp[V.erase,wT]
def z3_:=af @am <| af @aX <| af @r5 <| af @Ge @atV
def FK(n:Int)(Z:ab):aT 267 [.int .i64 n] Z (.int .u64 ((iU n).toNat:Nat)):=by
 refine ahk.aP ?_;simp only[aO,z3_,Nat.reduceAdd]
 by_cases h:n<=0
 .simp only[am,aB h];refine aC ?_;simp[V.erase,iU,h]
 .simp only[am,az h]
  by_cases h1:64<=n
  .simp only[am,aB h1];refine aC ?_;simp[V.erase,iU,h,h1]
  .obtain⟨m,rfl⟩:∃m:Nat,n=m:=⟨n.toNat,by omega⟩;simp only[am,Jq,Ps,az h1,wrap_u64 (by omega:0<=(m:Int)) (by omega:(m:Int)<18446744073709551616)];have e:iU (m:Int)=kl m - 1#64:=by simp only[iU,h,h1,ch,gK]
   refine aC ?_;simp[V.erase,e,kl]
abbrev TZ(Z:ab):Prop:=Z.cQ 1=U yo
variable{Z:ab}
def ati(s:bu)(h:s≠0#64)(hg:TZ Z):aT 278 [.int .u64 (s.toNat:Nat)] Z (.int .i64 (p9 s:Nat)):=by
 refine ahw.aP ?_;simp only[aO,YD,Nat.reduceAdd];obtain⟨h1,h2⟩:=ath (p9 s) (FG h).1;simp only[am,yr,Ps,az h,show V.int .u64 285870213051353865 = .int .u64 ((285870213051353865#64:bu).toNat:Nat) from rfl,atT];rw[BitVec.zero_sub,anc h];generalize hj:((kl (p9 s)*285870213051353865#64)>>>58).toNat=j at h1 h2;have e58:∀a:bu,ib .u64 (a.toNat:Nat) 58 .shr=U (.int .u64 ((a>>>58).toNat:Nat)):=λa=>Jr (m:=58)
 simp only[am,cG,e58,hj];refine i_ ?_;have hd:bX aq 1 (yo.drop j)=U (.int .u8 (p9 s:Nat)):=by
  obtain⟨h3,h4⟩:=fw.1 h2;have h5:j<yo.length:=by simpa [yo] using h3
  rw[kM h5];simp[bX,yo,h4]
 rw[show(((j:Nat):Int).toNat)*1=j by omega];simp only[am,show Z.cQ 1=U yo from hg,hd,wrap_i64 (x:=((p9 s:Nat):Int)) (by omega) (by have:=(FG h).1;omega)];exact rt
def z4_:=af @am <| af @aK <| af @yr @Ps
def acT(f:FuncId)(cap:List V)(hn:bS cap=aa)(J:List Nat->ab->Prop)(s:bu)(hg:∀l Z,J l Z->TZ Z)
 (h:∀pre k XQ Z,fY s=pre++k::XQ->J pre Z->cF prog f (.int .i64 (k:Nat)::cap) Z λv σ' => v = .bool aa/\J (pre++[k]) σ')
 {Z:ab} (h0:J [] Z):cF prog 268 [.int .u64 (s.toNat:Nat),.fn (.func f) [] cap] Z λv σ' => v = .bz []/\J (fY s) σ' := by
 refine ahl.aP ?_;simp only[aO,PH,Nat.reduceAdd];refine ct ((fY s).length) (λi (x:bu × ab)=>⟨[.int .u64 (x.1.toNat:Nat),.fn (.func f) [] cap]++aj 13 .any,[],x.2⟩) (λi x=>(fY x.1=(fY s).drop i/\J ((fY s).take i) x.2)) λF hF JF aW=>⟨?_,?_,?_⟩
 .exact en aW ((s,Z)) (⟨rfl,h0⟩)
 .rintro i ⟨x,Z⟩ hi ⟨h1,h2⟩;simp only at h1 h2;have hx:x≠0#64:=al' (by rw[h1];simp;omega);rw[kM hi] at h1;have hl:=UX hx;rw[h1,iJ] at hl;obtain⟨xJ,gf⟩:=hl;simp only[hF,aj,am,DX,az hx];refine cl (ati x hx (hg _ _ h2)) ?_;simp only[am];simp only[am,hn];rw[<-xJ];refine(h _ _ ((fY s).drop (i+1)) Z (by rw[<-kM hi,pA]) h2).mono ?_;rintro v σ' ⟨rfl,h3⟩;simp only[z4_];exact nx aW ((x&&&(x - 1#64),σ')) hi (⟨gf.symm,by rw[jg hi];exact h3⟩)
 .rintro⟨x,Z⟩ ⟨h1,h2⟩;simp only[yE,df] at h1 h2;have hx:=amb h1;subst hx;simp only[hF,aj,am,aK,bL,aK];exact aN rfl (ab.bc _) ⟨rfl,h2⟩
def Bx(dJ Z:ab)(b:Nat)(tk:Tk)(rows:List (List V)):Prop:=Z.box b=U [.sl tk 1 rows]/\Gr dJ Z tk rows.length/\dJ.box b=ah
def al9(n:Int){dJ:ab}{b:Nat}{tk:Tk}{l:List Int}(h:Bx dJ Z b tk (cg l))(hl:l.length<=100000):
 cF prog 269 [.int .i64 n,.ptr (.out b) 0] Z λv σ' => v = .bool aa/\∃fK,Bx dJ σ' b fK (cg (l++[n])):=by
 refine ahm.aP ?_;simp only[aO,am,aX,Nat.reduceAdd];obtain⟨h1,h2,h3⟩:=h;simp only[am,h1];refine Gr.app h2 (by simp[cg,aJ];omega) λfK σ' hG hB _=>?_
 simp only[am,show σ'.box b=U [.sl tk 1 (cg l)] by rw[hB,h1]];refine aN rfl (ab.bc _) ⟨rfl,fK,?_,?_,h3⟩
 .simp[ab.set,cg]
 .refine⟨⟨λc cs hc=>?_,hG.sub.2⟩,?_⟩
  .rw[ab.e9]
   .exact hG.sub.1 c cs hc
   .rintro rfl;rw[h3] at hc;simp at hc
  .simpa [cg,ab.set] using hG.tk
def NN(s:bu)(hg:TZ Z):aT 249 [.int .u64 (s.toNat:Nat)] Z (.sl .no 1 (cg ((fY s).map Int.ofNat))):=by
 refine ag2.aP ?_;simp only[aO,am,aX,Nat.reduceAdd];refine kx λb hb=>?_
 simp only[am];have hl:=Ik s;refine(acT _ _ rfl (λl σ' => ∃tk,Bx Z σ' b tk (cg (l.map Int.ofNat))) s ?_ ?_ ⟨.a9,?_⟩).mono ?_
 .rintro l σ' ⟨tk,h1,h2,h3⟩;exact h2.sub.2.2 _ _ hg
 .rintro pre k XQ σ' hs ⟨tk,h⟩
  have:pre.length<=64:=by rw[hs] at hl;simp at hl;omega
  have:=al9 k h (by simp;omega)
  simpa using this
 .exact⟨ke,⟨iS hb,.inl rfl⟩,hb⟩
 .rintro v σ' ⟨rfl,tk,h1,h2,h3⟩;simp only[am,h1];exact aN rfl h2.sub ⟨rfl,rfl⟩
def afB:aR prog 161 (sq [rg 2 [ox 1 65 0,oz 2],sq [rg 4 [ol 65 1,oC 212 [4],nn],cr 6 2 [oz 2]],sq [rg 7 [ol 65 1,oC 213 [7],oi 0],lp 8 0 (sq [rg 11 [om 9,o1 3],rg 12 [ol 65 1,om 3,oC 214 [12,13],om 3,n1 1,oC 215 [16],nb .neq 14],cr 18 2 [oz 2]]) 19],rg 2 [oq (.mv (.c (.bool aa)))],.ret]) [.tmp 2] 20:=aS func161
def afE:aR prog 164 (sq [rg 0 [ox 1 65 0,oR 2 kG],rg 7 [ol 65 1,oC 219 [7],oR 3 kG,o2 65 3],sq [rg 9 [fo 0 3,oi 0],lp 10 0 (sq [rg 13 [om 11,o1 4],rg 14 [om 4,om 4,of 1 3,oP 64 1 16 15,no,om 4,oC 220 [18,19],of 1 3,oP 64 1 21 14,os 1 22 20]]) 23],sq [rg 24 [fo 0 3,oi 0],lp 25 2 (sq [rg 28 [om 26,o1 5],rg 29 [fo 0 3,oi 0],lp 30 4 (sq [rg 33 [om 31,o1 6],rg 34 [om 6,of 1 3,oP 64 1 35 34,no,om 5,oC 221 [37,38]],ci 39 (dg 40 [om 6,of 1 3,oP 64 1 41 40,no,om 5,of 1 3,oP 64 1 45 44,no,nb .or 43,of 1 3,oP 64 1 49 40,os 1 50 48])]) 51]) 52],rg 53 [ol 65 3,o2 65 2],.ret]) [.cell 2 aa 65] 54:=aS func164
def agp:aR prog 212 (sq [rg 2 [ox 1 65 0,oz 2],dg 3 [ol 65 1,oC 219 [3],mM [0],ol 65 1,oC 164 [5],oq (.kn aq IS (.s 4) (.s 6)),o1 2],.ret]) [.tmp 2] 8:=aS func212
def agq:aR prog 213 (sq [rg 2 [ox 1 65 0,oi 0],rg 3 [fo 0 1,oq (.own .min [(.s 4),(.c (.int .i64 64))]),oq (.own .max [(.c (.int .i64 0)),(.s 5)]),o1 2],.ret]) [.tmp 2] 7:=aS func213
def agr:aR prog 214 (sq [rg 4 [ox 2 65 0,oz 4],rg 6 [om 1,n1 1,oC 215 [7],o1 5],dg 9 [ol 65 2,om 5,oC 247 [9,10],mM [0],ol 65 2,om 5,oC 248 [12,13],nb .and 11,o1 4],.ret]) [.tmp 4] 16:=aS func214
def agw:aR prog 219 (sq [rg 0 [ox 1 65 0,oR 2 kG],rg 5 [ol 65 1,oC 213 [5],oY kG [(0,1,.s 6)],oR 3 kG,o2 65 3],sq [rg 8 [fo 0 3,oi 0],lp 9 0 (sq [rg 12 [om 10,o1 4],rg 13 [om 4,ol 65 1,om 4,oC 252 [14,15],of 1 3,oP 64 1 17 13,os 1 18 16]]) 19],rg 20 [ol 65 3,o2 65 2],.ret]) [.cell 2 aa 65] 21:=aS func219
def agA:aR prog 222 (sq [rg 0 [oR 2 kG],rg 3 [om 0,oY kG [(0,1,.s 3)],oC 213 [4],oY kG [(0,1,.s 5)],o2 65 2],.ret]) [.cell 2 aa 65] 7:=aS func222
def ag0:aR prog 247 (sq [rg 4 [ox 2 65 0,oz 4],rg 5 [oz 4],sq [rg 8 [om 1,ol 65 2,oC 213 [9],oC 267 [10],nb .and 8,oC 249 [12],nL,oi 0],lp 14 0 (sq [rg 17 [oA 1 13 15,no,o1 7],rg 19 [om 5,ol 65 2,om 7,oC 252 [20,21],nb .or 19,o1 5]]) 24],rg 25 [om 5,o1 4],.ret]) [.tmp 4] 26:=aS func247
def ag1:aR prog 248 (sq [rg 4 [ox 2 65 0,oz 4],rg 5 [oz 4],sq [rg 7 [ol 65 2,oC 213 [7],oi 0],lp 8 0 (sq [rg 11 [om 9,o1 6],rg 12 [ol 65 2,om 6,oC 252 [12,13],om 1,nb .and 14,oq (.dV .neq (.s 16) (.c (.int .u64 0)))],ci 17 (rg 18 [om 5,om 6,oC 220 [18,19],o1 5])]) 21],rg 22 [om 5,o1 4],.ret]) [.tmp 4] 23:=aS func248
def ag6:aR prog 252 (sq [rg 4 [ox 2 65 0,oz 4],dg 5 [om 1,of 1 2,oP 64 1 6 5,mM [1,2],no,ol 65 2,oC 213 [9],oC 267 [10],nb .and 8,o1 4],.ret]) [.tmp 4] 13:=aS func252
def ag_:aR prog 256 (sq [rg 4 [ox 2 65 0,ox 3 65 1,oz 2],dg 5 [ol 65 2,oC 219 [5],mM [0],ol 65 3,oC 219 [7],oq (.kn aq IS (.s 6) (.s 8)),o1 4],.ret]) [.tmp 4] 10:=aS func256
def z5_:=af @am <| af @jj <| af @aX @Rl.ak
def BH(r:Rl)(Z:ab):aT 213 [.agg r.enc] Z (.int .i64 (bm r:Nat)):=by
 refine agq.aP ?_;simp only[aO,z5_,Nat.reduceAdd];refine amY ?_;simp only[am,jj];refine amU ?_;simp only[am];refine aC ?_;simp[V.erase];simp only[bm];split<;>split<;>omega
def r9:=af @am <| af @cG <| af @aX <| af @r5 @Rl.ak
def z7_:=af @am <| af @Rl.ak <| af @gK @qw
def OF(r:Rl)(i:Nat)(h:i<64)(Z:ab):aT 252 [.agg r.enc,.int .i64 (i:Nat)] Z (.int .u64 ((gU r i).toNat:Nat)):=by
 refine ag6.aP ?_;simp only[aO,r9,Nat.reduceAdd];refine i_ ?_;simp only[z7_,Rl.wZ h];refine bA.intro (BH r Z) ?_;simp only[am];refine bA.intro (FK _ Z) ?_;simp only[am,yr];refine⟨⟨Rl.wZ h,Rl.wZ h⟩,?_⟩;refine aC ?_;simp[V.erase,gU]
def yy:=af @am <| af @aK <| af @gK @qw
def IB(r:Rl)(Z:ab):aT 219 [.agg r.enc] Z (.agg (kB r).enc):=by
 refine agw.aP ?_;simp only[aO,am,aX,Nat.reduceAdd,Rl.ak];refine cl (BH r Z) ?_;simp only[am,Nat.reduceAdd,Rl.ak];have hp:=@jc r;refine ct (bm r) (λi (x:Unit)=>⟨[.agg r.enc,.ptr (.au 0) 0,.ptr (.au 1) 0,.ptr (.au 2) 0,.any,.any,.any,.any,.any,.int .i64 (bm r:Nat),.int .i64 (i:Nat)]++aj 10 .any,[r.enc,Rl.zero.enc,(Rl.of (bm r:Nat) λj=>if j<i then gU r j else 0#64).enc],Z⟩) (λi x=>(True)) λF hF JF aW=>⟨?_,?_,?_⟩
 .refine en aW (()) (trivial) ?_ ?_ ?_
  all_goals simp[hF,aj,am,bd,Rl.Jy,Rl.x8]
 .rintro i x hi -;simp only[hF,aj,am,ca hi,Rl.ak];refine cl (OF r i (by omega) Z) ?_;simp only[am,cG];refine i_ ?_;simp only[yy,Rl.wY (show i<64 by omega),Rl.w7 (show i<64 by omega),bF hi];refine nx aW (()) hi (trivial) ?_ ?_ ?_
  all_goals simp[hF,aj,am,bd,Rl.fill]
 .rintro x -;simp only[hF,aj,am,aK,cy,aK,Rl.ak];refine aC ?_;simp[V.erase,kB,Rl.dy]
def Vl(n:Int)(Z:ab):aT 222 [.int .i64 n] Z (.agg (Rl.of (min n.toNat 64:Nat) λ_=>0#64).enc):=by
 refine agA.aP ?_;simp only[aO,am,aX,Nat.reduceAdd,Rl.ak];refine cl (BH _ Z) ?_;simp only[am,Rl.ak];refine aC ?_;simp only[V.erase,Rl.dy,Rl.Jy];rfl
def Xh(r s:Rl)(Z:ab):aT 256 [.agg r.enc,.agg s.enc] Z (.bool (decide (kB r=kB s))):=by
 refine ag_.aP ?_;simp only[aO,am,aX,Nat.reduceAdd,Rl.ak];refine bA.intro (IB r Z) ?_;simp only[am,Rl.ak];refine bA.intro (IB s Z) ?_;simp only[am,Rl.ak];exact rt
def Jk(r:Rl)(w:bu)(hg:TZ Z):aT 247 [.agg r.enc,.int .u64 (w.toNat:Nat)] Z (.int .u64 ((vz r w).toNat:Nat)):=by
 refine ag0.aP ?_;simp only[aO,r9,Nat.reduceAdd];refine cl (BH r Z) ?_;simp only[am];refine cl (FK _ Z) ?_;simp only[am,yr];refine cl (NN _ hg) ?_;simp only[am,aD,tW];generalize hl:fY (w&&&iU ↑(bm r))=l;have an:∀k∈l,k<64:=λk hk=>al_ (hl▸hk)
 have hlen:l.length<=64:=hl▸Ik _;refine ct (l.length) (λi (x:Unit)=>⟨[.agg r.enc,.any,.ptr (.au 0) 0,.any,.any,.int .u64 (((l.take i).foldl (λo i=>o|||gU r i) 0#64).toNat:Nat),.any,.any,.any,.any,.any,.any,.any,.sl .no 1 (cg (l.map Int.ofNat)),.int .i64 (l.length:Nat),.int .i64 (i:Nat)]++aj 10 .any,[r.enc],Z⟩) (λi x=>(True)) λF hF JF aW=>⟨?_,?_,?_⟩
 .refine en aW (()) (trivial) ?_ ?_ ?_
  all_goals simp[hF,aj,am,bd]
 .rintro i x hi -;simp only[hF,aj,am,ca hi];refine ix (De (l:=l.map Int.ofNat) (by simpa using hi)) ?_;simp only[am,Rl.ak,Ca,B7];refine cl (OF r l[i] (an _ (dq hi)) Z) ?_;simp only[am,aK,BW,bF hi];refine nx aW (()) hi (trivial) ?_ ?_ ?_
  all_goals simp[hF,aj,am,bd,SE hi]
 .rintro x -;simp only[hF,aj,am,aK,cy,aK,df];refine aC ?_;simp[V.erase,vz,hl]
def KA(r:Rl)(w:bu)(Z:ab):aT 248 [.agg r.enc,.int .u64 (w.toNat:Nat)] Z (.int .u64 ((yT r w).toNat:Nat)):=by
 refine ag1.aP ?_;simp only[aO,r9,Nat.reduceAdd];refine cl (BH r Z) ?_;simp only[am];have hp:=@jc r;refine ct (bm r) (λi (x:Unit)=>⟨[.agg r.enc,.int .u64 (w.toNat:Nat),.ptr (.au 0) 0,.any,.any,.int .u64 (((bG i).foldl (λo i=>if gU r i&&&w=0#64 then o else j5 o (i:Nat)) 0#64).toNat:Nat),.any,.any,.int .i64 (bm r:Nat),.int .i64 (i:Nat)]++aj 13 .any,[r.enc],Z⟩) (λi x=>(True)) λF hF JF aW=>⟨?_,?_,?_⟩
 .exact en aW (()) (trivial)
 .rintro i x hi -;simp only[hF,aj,am,ca hi,Rl.ak];refine cl (OF r i (by omega) Z) ?_;simp only[am,yr,DX]
  by_cases h:gU r i&&&w=0#64
  .simp only[am,aK,aB h,bF hi];refine nx aW (()) hi (trivial) ?_ ?_ ?_
   all_goals simp[hF,aj,am,bd,y4,h]
  .simp only[am,az h];refine cl (FM _ _ Z) ?_;simp only[am,aK,bF hi];refine nx aW (()) hi (trivial) ?_ ?_ ?_
   all_goals simp[hF,aj,am,bd,y4,h]
 .rintro x -;simp only[hF,aj,am,aK,cy,aK];refine aC ?_;simp[V.erase,yT]
variable{i:Nat}
def abr{r:Rl}(hi:i<bm r):(Rl.of (bm r:Nat) λj=>if j<bm r then(if j<i then j5 (gU r j) (j:Nat) else gU r j) else 0#64).put i (j5 (gU r i) (i:Nat))=Rl.of (bm r:Nat) λj=>if j<bm r then(if j<i+1 then j5 (gU r j) (j:Nat) else gU r j) else 0#64:=by
 refine Rl.ext rfl λk hk=>?_
 rw[Rl.CN,Rl.nj hk,Rl.nj hk]
 by_cases h:i=k
 .subst h;simp[hk,hi]
 .rw[aw (by omega)]
  by_cases h2:k<i
  .simp[h2,show k<i+1 by omega]
  .simp[h2,show ¬k<i+1 by omega]
def abq{r:Rl}(hi:i<bm r):(Rl.of (bm r:Nat) λj=>if j<bm r then(if j<i then j5 (gU r j) (j:Nat) else gU r j) else 0#64).get i=gU r i:=by
 rw[Rl.nj (uw hi jc),aI hi,aw (Nat.lt_irrefl _)]
def abp{r:Rl}:(Rl.of (bm r:Nat) λj=>if j<bm r then(if j<bm r then j5 (gU r j) (j:Nat) else gU r j) else 0#64)=sn r:=by
 refine Rl.ext rfl λk hk=>?_
 rw[Rl.nj hk,sn,Rl.nj hk];split<;>rfl
variable{k n:Nat}
def Uh{o:Rl}:lE (n+1) k o=yj k (lE n k o) n:=y4
theorem akE{o:Rl}:lE 0 k o=o:=rfl
theorem aoT{r:Rl}:lk r 0=sn r:=rfl
theorem apt{r:Rl}:(kB r).n=(bm r:Nat):=rfl
def asF{o:Rl}(h:hasB (o.get i) (k:Nat)=aa):yj k o i=o.put i (o.get i|||o.get k):=by rw[yj,aI h]
def asE{o:Rl}(h:hasB (o.get i) (k:Nat)=aq):yj k o i=o:=by rw[yj,h];rfl
def z9_:=af @am <| af @cG <| af @gK @qw
def YB:=af @am <| af @cG <| af @BW <| af @gK @qw
def Rh(r:Rl)(Z:ab):aT 164 [.agg r.enc] Z (.agg (jQ r).enc):=by
 refine afE.aP ?_;simp only[aO,am,aX,Nat.reduceAdd,Rl.ak];refine cl (IB r Z) ?_;simp only[am,Nat.reduceAdd,Rl.ak,apt];have hp:=@jc r;refine ct (bm r) (λi (x:Unit)=>⟨[.any,.ptr (.au 0) 0,.ptr (.au 1) 0,.ptr (.au 2) 0,.any,.any,.any,.any,.any,.any,.int .i64 (bm r:Nat),.int .i64 (i:Nat)]++aj 42 .any,[r.enc,Rl.zero.enc,(Rl.of (bm r:Nat) λj=>if j<bm r then(if j<i then j5 (gU r j) (j:Nat) else gU r j) else 0#64).enc],Z⟩) (λi x=>(True)) λF hF JF aW=>⟨?_,?_,?_⟩
 .refine en aW (()) (trivial) ?_ ?_ ?_
  all_goals simp[hF,aj,am,bd,kB]
 .rintro i x hi -;simp only[hF,aj,am,cG,ca hi];have xB:i<64:=by omega
  refine i_ ?_;simp only[am,gK,qw,Rl.wZ xB,abq hi];refine cl (FM _ _ Z) ?_;simp only[am,cG];refine i_ ?_;simp only[yy,Rl.wY xB,Rl.w7 xB,bF hi];refine nx aW (()) hi (trivial) ?_ ?_ ?_
  all_goals simp[hF,aj,am,bd,abr hi]
 .rintro x -;simp only[hF,aj,am,aK,cy,aK,Rl.ak,Rl.x8];rw[abp];clear hF F;refine ct (bm r) (λk (x:Unit)=>⟨[.any,.ptr (.au 0) 0,.ptr (.au 1) 0,.ptr (.au 2) 0,.any,.any,.any,.any,.any,.any,.any,.any,.any,.any,.any,.any,.any,.any,.any,.any,.any,.any,.any,.any,.any,.int .i64 (bm r:Nat),.int .i64 (k:Nat)]++aj 27 .any,[r.enc,Rl.zero.enc,(lk r k).enc],Z⟩) (λk x=>(True)) λF hF JF aW=>⟨?_,?_,?_⟩
  .refine en aW (()) (trivial) ?_ ?_ ?_
   all_goals simp[hF,aj,am,bd,aoT]
  .rintro k x hi -;simp only[hF,aj,am,ca hi,Rl.ak,Ix];refine ct (bm r) (λi (x:Unit)=>⟨[.any,.ptr (.au 0) 0,.ptr (.au 1) 0,.ptr (.au 2) 0,.any,.int .i64 (k:Nat),.any,.any,.any,.any,.any,.any,.any,.any,.any,.any,.any,.any,.any,.any,.any,.any,.any,.any,.any,.int .i64 (bm r:Nat),.int .i64 (k:Nat),.any,.any,.any,.int .i64 (bm r:Nat),.int .i64 (i:Nat)]++aj 22 .any,[r.enc,Rl.zero.enc,(lE i k (lk r k)).enc],Z⟩) (λi x=>(True)) λF2 bT mE cX=>⟨?_,?_,?_⟩
   .refine en cX (()) (trivial) ?_ ?_ ?_
    all_goals simp[bT,aj,am,bd,akE]
   .rintro i x hj -;have HM:i<64:=by omega
    have aj_:k<64:=by omega
    simp only[bT,aj,am,cG,ca hj];refine i_ ?_;simp only[am,gK,qw,Rl.wZ HM];refine cl (amS _ _ Z) ?_;simp only[am];refine cO (λhb=>?_) (λhb=>?_)
    .simp only[am,cG];refine i_ ?_;simp only[z9_,Rl.wZ HM];refine i_ ?_;simp only[YB,Rl.wZ aj_];refine i_ ?_;simp only[yy,Rl.wY HM,Rl.w7 HM,bF hj];refine nx cX (()) hj (trivial) ?_ ?_ ?_
     all_goals simp[bT,aj,am,bd,Uh,asF hb]
    .simp only[am,aK,bF hj];refine nx cX (()) hj (trivial) ?_ ?_ ?_
     all_goals simp[bT,aj,am,bd,Uh,asE hb]
   .rintro x -;simp only[bT,aj,am,aK,cy,Nat.reduceEqDiff,aK,Rl.ak,bF hi];refine nx aW (()) hi (trivial) ?_ ?_ ?_
    all_goals simp[hF,aj,am,bd,Iy]
  .rintro x -;simp only[hF,aj,am,aK,cy,aK,Rl.ak];exact aN (v:=.agg (jQ r).enc) Rl.dL (ab.bc _) ⟨by simp only[V.erase,Rl.dy],rfl⟩
def Rb(r:Rl)(Z:ab):aT 212 [.agg r.enc] Z (.bool (tu r)):=by
 refine agp.aP ?_;simp only[aO,am,aX,Nat.reduceAdd,Rl.ak];refine bA.intro (IB r Z) ?_;simp only[am,Rl.ak];refine bA.intro (Rh r Z) ?_;simp only[am,Rl.ak];refine aC ?_;simp[V.erase,tu]
def am1(r:Rl)(i:Nat)(hg:TZ Z):aT 214 [.agg r.enc,.int .i64 (i:Nat)] Z (.int .u64 ((zD r i).toNat:Nat)):=by
 refine agr.aP ?_;simp only[aO,r9,Nat.reduceAdd];refine cF.cY (as' := [.sl .no 1 (cg [(i:Int)])]) ?_ ⟨dr.no,trivial⟩ br.rfl;refine cl (FL [(i:Int)] Z (by simp)) ?_;simp only[am,Rl.ak];refine bA.intro (Jk r _ hg) ?_;simp only[am,Rl.ak];refine bA.intro (KA r _ Z) ?_;simp only[am,yr,Rl.ak];refine aC ?_;simp[V.erase,zD]
def aoO(r:Rl)(hg:TZ Z):aT 161 [.agg r.enc] Z (.bool (vf r)):=by
 refine afB.aP ?_;simp only[aO,am,aX,Nat.reduceAdd,Rl.ak];refine cl (Rb r Z) ?_;simp only[am];refine cO (λhb=>?_) (λhb=>?_)
 .have hb:tu r=false:=by simpa using hb
  simp only[am];refine aC ?_;simp[V.erase,vf,hb]
 .have hb:tu r=true:=by simpa using hb
  simp only[am,Rl.ak];refine cl (BH r Z) ?_;simp only[am];have hp:=@jc r;refine ct (bm r) (λi (x:Unit)=>⟨[.any,.ptr (.au 0) 0,.any,.any,.any,.any,.any,.any,.int .i64 (bm r:Nat),.int .i64 (i:Nat)]++aj 10 .any,[r.enc],Z⟩) (λi x=>(∀k,k<i->zD r k=fC [(k:Int)])) λF hF JF aW=>⟨?_,?_,?_⟩
  .exact en aW (()) (by intro k h;omega)
  .rintro i x hi hJ;simp only[hF,aj,am,ca hi,Rl.ak];refine cl (am1 r i hg) ?_;simp only[am];refine cF.cY (as' := [.sl .no 1 (cg [(i:Int)])]) ?_ ⟨dr.no,trivial⟩ br.rfl;refine cl (FL [(i:Int)] _ (by simp)) ?_;simp only[am,DX]
   by_cases h:zD r i=fC [(i:Int)]
   .simp only[am,aK,aB h,bF hi];exact nx aW (()) hi (λk hk=>if e:k=i then e▸h else hJ k (by omega))
   .have hA:uA r=false:=by
     cases hq:uA r with
     | false=>rfl
     | true=>exact absurd ((QF hb).1 hq i hi) h
    simp only[am,aK,az h];refine aC ?_;simp[V.erase,vf,hA]
  .rintro x hJ;have hA:uA r=true:=(QF hb).2 hJ;simp only[hF,aj,am,aK,cy,aK];refine aC ?_;simp[V.erase,vf,hb,hA]
def ag':aR prog 257 (sq [rg 2 [ox 1 65 0,oz 2],rg 3 [fo 0 1,nB .geq 1,gA,fo 0 1,nB .leq 8,gZ,gA,ol 65 1,oC 212 [12],gZ,o1 2],.ret]) [.tmp 2] 15:=aS func257
def aha:aR prog 258 (sq [rg 6 [ox 3 65 0,od (U 4) (.gY 1 (.s 1)),oz 4],sq [rg 8 [ol 65 3,oo 4,oC 271 [8,9],nn],cr 11 6 [oz 4]],dA 12 [7] [fo 0 3,oC 267 [13],mM [0],ol 65 3,om 2,oC 247 [15,16],nb .andNot 14,oN,oX 7 1 18],.kK (dg 19 [mM [1],ol 65 3,ol 65 3,oq (.kb (.func 274) [] [(.s 4),(.s 7)]),oC 273 [20,21],oC 272 [19,22],o1 6]),.ret]) [.tmp 6] 24:=aS func258 ⟨[4],[4]⟩
def ahd:aR prog 260 (sq [rg 4 [oz 4,oz 2],sq [rg 6 [om 0,oC 275 [6],nn,gB,om 1,nB .lss 0,gZ,gB,om 1,om 0,nb .geq 14,gZ],cr 17 4 [oz 4,oz 2]],rg 18 [om 1,oC 267 [18],o1 4,oV 5 (.bool aa)],.ret]) [.tmp 4,.tmp 5] 20:=aS func260
def ahp:aR prog 271 (sq [rg 4 [ox 2 65 0,oz 2],rg 5 [ol 65 2,oC 257 [5],gA,om 1,nB .geq 0,gZ,gA,om 1,fo 0 2,nb .lss 12,gZ,o1 4],.ret]) [.tmp 4] 17:=aS func271
def ahq:aR prog 272 (sq [rg 4 [od (U 2) (.gY 65 (.s 0)),od (U 3) (.gY 1 (.s 1)),oz 4],sq [rg 5 [ol 65 2,oC 257 [5],nn],cr 7 4 [oz 4]],rg 8 [ol 65 2,oq (.kb (.func 280) [] [(.s 2),(.s 3)]),oC 273 [8,9],o1 4],.ret]) [.tmp 4] 11:=aS func272 ⟨[2,3],[]⟩
def ahr:aR prog 273 (sq [rg 4 [ox 2 65 0,oz 4],rg 5 [oz 4],sq [rg 7 [fo 0 2,oi 0],lp 8 0 (sq [rg 11 [om 9,o1 6],rg 12 [om 5,om 1,om 6,oq (.iV (.s 13) [(.s 14)]),om 6,oq (.dV .mul (.c (.int .i64 8)) (.s 16)),oq (.pG .u64 (.s 17)),nb .shl 15,nb .or 12,o1 5]]) 21],rg 22 [om 5,o1 4],.ret]) [.tmp 4] 23:=aS func273
def ahs:aR prog 274 (sq [rg 4 [oz 4],sq [rg 5 [om 0,oo 1,nb .eql 5],cr 7 8 [oo 2,o1 4]],rg 4 [oz 4],.ret]) [.tmp 4] 9:=aS func274
def aht:aR prog 275 (sq [rg 2 [oz 2],rg 3 [om 0,nB .geq 1,gA,om 0,nB .leq 64,gZ,o1 2],.ret]) [.tmp 2] 9:=aS func275
def ahz:aR prog 280 (sq [rg 4 [oz 4],rg 5 [oz 4],sq [dg 8 [mM [1],ol 65 1,om 0,n1 1,oC 215 [10],oC 247 [8,11],oC 249 [12],nL,oi 0],lp 14 0 (sq [rg 17 [oA 1 13 15,no,o1 7],dg 19 [om 5,mM [1],ol 65 1,ol 65 1,oo 2,om 7,oC 281 [21,22,23],oC 248 [20,24],nb .or 19,o1 5]]) 27],rg 28 [om 5,o1 4],.ret]) [.tmp 4] 29:=aS func280
def ahA:aR prog 281 (sq [rg 6 [ox 3 65 0,oz 4],rg 7 [om 1,om 2,oq (.dV .mul (.c (.int .i64 8)) (.s 8)),oq (.pG .u64 (.s 9)),nb .shr 7,fo 0 3,oC 267 [13],nb .and 11,o1 6],.ret]) [.tmp 6] 16:=aS func281
def abj(n:Int)(Z:ab):aT 275 [.int .i64 n] Z (.bool (decide (1<=n)&&decide (n<=64))):=by
 refine aht.aP ?_;simp only[aO,am,aX,Nat.reduceAdd]
 by_cases h:1<=n
 .simp only[am,aB h];refine aC ?_;simp[V.erase]
 .simp only[am,az h];refine aC ?_;simp[V.erase]
def DW(p:bu × Bool):V:=.bz [.int .u64 (p.1.toNat:Nat),.bool p.2]
def arS(n k:Int)(Z:ab):aT 260 [.int .i64 n,.int .i64 k] Z (DW (s5 n k)):=by
 refine ahd.aP ?_;simp only[aO,am,aX,Nat.reduceAdd,r5];refine cl (abj n Z) ?_
 by_cases h:1<=n/\n<=64
 .simp only[am,aB h.1,aB h.2]
  by_cases h2:k<0
  .simp only[am,aB h2];refine aC ?_;simp[V.erase,aZ,DW,s5,show ¬0<=k by omega]
  .simp only[am,az h2]
   by_cases h3:n<=k
   .simp only[am,aB h3];refine aC ?_;simp[V.erase,aZ,DW,s5,show ¬k<n by omega]
   .simp only[am,az h3];refine cl (FK k Z) ?_;simp only[am];refine aC ?_;simp[V.erase,aZ,DW,s5,h,show 0<=k by omega,show k<n by omega]
 .have e:(decide (1<=n)&&decide (n<=64))=false:=by simp only[B3,uH];omega
  have e2:s5 n k=(0#64,aq):=by simp only[s5];rw[aw (by omega)]
  simp only[am,e];refine aC ?_;simp[V.erase,aZ,DW,e2]
def La(r:Rl)(Z:ab):aT 257 [.agg r.enc] Z (.bool (jT r)):=by
 refine ag'.aP ?_;simp only[aO,am,aX,Nat.reduceAdd,Rl.ak]
 by_cases h:1<=r.n
 .simp only[am,Rl.ak,aB h]
  by_cases h2:r.n<=8
  .simp only[am,Rl.ak,aB h2];refine cl (Rb r Z) ?_;simp only[am];refine aC ?_;simp[V.erase,jT,h,h2]
  .simp only[am,az h2];refine aC ?_;simp[V.erase,jT,h2]
 .simp only[am,az h];refine aC ?_;simp[V.erase,jT,h]
def ajv(r:Rl)(w:bu)(o:Nat)(ho:o<64)(Z:ab):aT 281 [.agg r.enc,.int .u64 (w.toNat:Nat),.int .i64 (o:Nat)] Z (.int .u64 ((Dz r w o).toNat:Nat)):=by
 refine ahA.aP ?_;simp only[aO,r9,Nat.reduceAdd];rw[wrap_i64,wrap_u64 (by omega) (by omega),show(8:Int)*(o:Nat)=((8*o:Nat):Int) by omega];simp only[am,Jr,Rl.ak];refine cl (FK r.n Z) ?_;simp only[am,yr];refine aC ?_;simp[V.erase,Dz]
def auX:=af @am <| af @aK <| af @BW @Jq
def S5(r:Rl)(n:Nat)(hn:r.n=n)(h8:n<=8)(f:FuncId)(cap:List V)(hc:bS cap=aa)(g:Nat->bu)(Z:ab)
 (h:∀o,o<n->cF prog f (.int .i64 (o:Nat)::cap) Z λv σ' => v = .int .u64 ((g o).toNat:Nat)/\σ' = Z) :
 aT 273 [.agg r.enc,.fn (.func f) [] cap] Z (.int .u64 ((wQ n g).toNat:Nat)):=by
 refine ahr.aP ?_;simp only[aO,r9,Nat.reduceAdd];refine ct (n) (λi (x:Unit)=>⟨[.any,.fn (.func f) [] cap,.any,.any,.any,.int .u64 ((wQ i g).toNat:Nat),.any,.any,.int .i64 (n:Nat),.int .i64 (i:Nat)]++aj 13 .any,[r.enc],Z⟩) (λi x=>(True)) λF hF JF aW=>⟨?_,?_,?_⟩
 .refine en aW (()) (trivial) ?_ ?_ ?_
  all_goals simp[hF,aj,am,bd,hn,wQ]
 .rintro i x hi -;simp only[hF,aj,am,ca hi,hc];refine(h i hi).mono ?_;rintro v σ' ⟨rfl,rfl⟩;simp only[am];rw[wrap_i64 (x:=8*((i:Nat):Int)),wrap_u64 (x:=8*((i:Nat):Int)) (by omega) (by omega),show(8:Int)*(i:Nat)=((8*i:Nat):Int) by omega];simp only[auX,bF hi];refine nx aW (()) hi (trivial) ?_ ?_ ?_
  all_goals simp[hF,aj,am,bd,wQ,y4]
 .rintro x -;simp only[hF,aj,am,aK,cy,aK];exact rt
def auY:=af @am <| af @aK <| af @BW @Rl.ak
def ajf(r:Rl)(w:bu)(o b1 b2:Nat)(hg:TZ Z)(ho:o<bm r)(h8:bm r<=8)(h1:Z.box b1=U r.enc)(h2:Z.box b2=U [.int .u64 (w.toNat:Nat)]):
 aT 280 [.int .i64 (o:Nat),.ptr (.out b1) 0,.ptr (.out b2) 0] Z (.int .u64 ((Cr r w o).toNat:Nat)):=by
 refine ahz.aP ?_;simp only[aO,am,aX,Nat.reduceAdd,r5];simp only[am,Rl.ak,h1];refine bA.intro (cF.cY (as' := [.sl .no 1 (cg [(o:Int)])]) (FL [(o:Int)] Z (by simp)) ⟨dr.no,trivial⟩ br.rfl) ?_;simp only[am,Rl.ak];refine bA.intro (Jk r _ hg) ?_;simp only[am];refine bA.intro (NN _ hg) ?_;simp only[am,aD,Rl.ak,tW,h1];rw[show vz r (fC [(o:Int)])=xk r o from rfl];generalize hl:fY (xk r o)=l;have an:∀k∈l,k<bm r:=λk hk=>by
  rw[<-hl,NO,J5] at hk;exact(kX hk).2
 have hlen:l.length<=64:=hl▸Ik _;have hp:=@jc r;refine ct (l.length) (λi (x:Unit)=>⟨[.any,.ptr (.out b1) 0,.ptr (.out b2) 0,.any,.any,.int .u64 (((l.take i).foldl (λs p=>s|||yT r (Dz r w p)) 0#64).toNat:Nat),.any,.any,.any,.any,.any,.any,.any,.sl .no 1 (cg (l.map Int.ofNat)),.int .i64 (l.length:Nat),.int .i64 (i:Nat)]++aj 13 .any,[],Z⟩) (λi x=>(True)) λF hF JF aW=>⟨?_,?_,?_⟩
 .refine en aW (()) (trivial) ?_ ?_ ?_
  all_goals simp[hF,aj,am,bd]
 .rintro i x hi -;simp only[hF,aj,am,ca hi];refine ix (De (l:=l.map Int.ofNat) (by simpa using hi)) ?_;simp only[am,Rl.ak,Ca,B7,h1,h2]
  have:=an _ (dq hi)
  refine bA.intro (ajv r w l[i] (by omega) Z) ?_;simp only[am,Rl.ak];refine bA.intro (KA r _ Z) ?_;simp only[auY,h1,bF hi];refine nx aW (()) hi (trivial) ?_ ?_ ?_
  all_goals simp[hF,aj,am,bd,SE hi]
 .rintro x -;simp only[hF,aj,am,aK,cy,aK,df];refine aC ?_;simp[V.erase,Cr,hl]
def ajg(r:Rl)(w:bu)(hg:TZ Z):aT 272 [.agg r.enc,.int .u64 (w.toNat:Nat)] Z (.int .u64 ((uE r w).toNat:Nat)):=by
 refine ahq.aP ?_;simp only[aO,r9,Nat.reduceAdd];refine kx λb1 eE=>?_
 simp only[am];refine kx λb2 ep=>?_
 have bh:b1≠b2:=by rintro rfl;rw[ke] at ep;simp at ep
 have oD:=iS (cs:=r.enc) eE;have hs:=ab.DQ oD (iS (cs:=[.int .u64 (w.toNat:Nat)]) ep);have e1:((Z.set b1 r.enc).set b2 [.int .u64 (w.toNat:Nat)]).box b1=U r.enc:=by rw[vq bh,ke]
 generalize wD:(Z.set b1 r.enc).set b2 [V.int .u64 (w.toNat:Nat)]=bR at hs e1;have e2:bR.box b2=U [.int .u64 (w.toNat:Nat)]:=by rw[<-wD,ke]
 simp only[am,Rl.ak,e1];refine(La r bR).mono ?_;rintro v bR ⟨rfl,rfl⟩;simp only[am];cases zh:jT r with
 | false =>
  simp only[am];exact aN rfl hs ⟨by simp[uE,zh,V.erase],rfl⟩
 | true =>
  obtain⟨n,hn,hp,h1,h8⟩:=v_ zh;simp only[am,Rl.ak,e1];refine(S5 r n hn h8 _ _ rfl (Cr r w) bR λo ho=>ajf r w o b1 b2 (hs.2.2 _ _ hg) (by omega) (by omega) e1 e2).mono ?_;rintro v bR ⟨rfl,rfl⟩;simp only[am];exact aN rfl hs ⟨by simp[uE,zh,V.erase,hn],rfl⟩
def aoZ(r:Rl)(o:Nat)(Z:ab):aT 271 [.agg r.enc,.int .i64 (o:Nat)] Z (.bool (jT r&&decide ((o:Int)<r.n))):=by
 refine ahp.aP ?_;simp only[aO,am,aX,Nat.reduceAdd,Rl.ak];refine cl (La r Z) ?_;cases h:jT r with
 | false =>
  simp only[am];exact rt
 | true =>
  simp only[am,Rl.ak,show decide ((0:Int)<=(o:Nat))=aa from aB (by omega)];exact rt
def ajw(k o b:Nat)(w:bu)(b2:Nat)(h1:Z.box b=U [.int .i64 (o:Nat)])(h2:Z.box b2=U [.int .u64 (w.toNat:Nat)]):
 aT 274 [.int .i64 (k:Nat),.ptr (.out b) 0,.ptr (.out b2) 0] Z (.int .u64 ((if k=o then w else 0#64).toNat:Nat)):=by
 refine ahs.aP ?_;simp only[aO,am,aX,Nat.reduceAdd,r5];simp only[am,h1]
 by_cases h:k=o
 .simp only[am,aB (show(k:Int)=(o:Nat) by omega),h2];refine aC ?_;simp[V.erase,h]
 .simp only[am,az (show ¬(k:Int)=(o:Nat) by omega)];refine aC ?_;simp[V.erase,h]
def ajx(r:Rl)(o:Nat)(d:bu)(hg:TZ Z):aT 258 [.agg r.enc,.int .i64 (o:Nat),.int .u64 (d.toNat:Nat)] Z (.int .u64 ((s4 r o d).toNat:Nat)):=by
 refine aha.aP ?_;simp only[aO,r9,Nat.reduceAdd];refine kx λb1 eE=>?_
 simp only[am,Rl.ak];have hs:=iS (cs:=[V.int .i64 (o:Nat)]) eE;have e1:(Z.set b1 [V.int .i64 (o:Nat)]).box b1=U [V.int .i64 (o:Nat)]:=ke;generalize wD:Z.set b1 [V.int .i64 (o:Nat)]=bR at hs e1;refine(aoZ r o bR).mono ?_;rintro v bR ⟨rfl,rfl⟩;simp only[am];cases zh:jT r&&decide ((o:Int)<r.n) with
 | false =>
  simp only[am];exact aN rfl hs ⟨by simp[s4,zh,V.erase],rfl⟩
 | true =>
  have aj3 := zh;rw[b_,eb] at zh;obtain⟨n,hn,hp,h1,h8⟩:=v_ zh.1;simp only[am,Nat.reduceAdd,bL,Nat.reduceLT,Rl.ak];refine bA.intro (FK r.n bR) ?_;simp only[am,Rl.ak];refine bA.intro (Jk r d (hs.2.2 _ _ hg)) ?_;simp only[am,X9,Rl.ak];refine a7.apR (l:=[r.enc]) (cs:=[V.int .u64 ((iU r.n&&&~~~vz r d).toNat:Nat)]) rfl λb2 ep=>?_
  rw[show iU r.n&&&~~~vz r d=sQ r d from rfl];have Fb:=ab.DQ hs (iS (cs:=[V.int .u64 ((sQ r d).toNat:Nat)]) ep);have bh:b1≠b2:=by rintro rfl;rw[e1] at ep;simp at ep
  have e2:(bR.set b2 [V.int .u64 ((sQ r d).toNat:Nat)]).box b1=U [V.int .i64 (o:Nat)]:=by rw[vq bh,e1]
  have e3:(bR.set b2 [V.int .u64 ((sQ r d).toNat:Nat)]).box b2=U [V.int .u64 ((sQ r d).toNat:Nat)]:=ke;generalize bR.set b2 [V.int .u64 ((sQ r d).toNat:Nat)]=gX at Fb e2 e3;simp only[am,Nat.reduceLT,reduceCtorEq,Rl.ak,dz,eQ,Zh,Wf (n:=1) (l:=r.enc) Rl.bP Rl.dL];refine bA.intro (S5 r n hn h8 _ _ rfl (λk=>if k=o then sQ r d else 0#64) gX λk hk=>ajw k o b1 (sQ r d) b2 e2 e3) ?_;simp only[am,Rl.ak];refine bA.intro (ajg r _ (Fb.2.2 _ _ hg)) ?_;simp only[am,Rl.ak];exact aN rfl Fb ⟨by rw[s4,aj3,hn];rfl,rfl⟩
def aeP:aR prog 114 (sq [rg 2 [ox 1 65 0,oz 2],sq [rg 9 [fo 0 1,nB .lss 1,gB,fo 0 1,nB .gtr 64,gZ,gB,ol 65 1,oC 161 [18],nn,gZ],cr 21 2 [oz 2]],sq [rg 22 [fo 0 1,oi 0],lp 23 0 (sq [rg 26 [om 24,o1 3],rg 27 [om 3,oi 0],lp 27 2 (sq [rg 30 [om 28,o1 4],rg 32 [ol 65 1,om 3,om 4,oC 162 [32,33,34],o1 31,oe 31 0,oe 31 1,ot 5 36,o1 6],rg 39 [ol 65 1,om 3,om 4,oC 163 [39,40,41],o1 38,oe 38 0,oe 38 1,ot 7 43,o1 8],rg 45 [om 6,nn,gB,om 8,nn,gZ],cr 50 2 [oz 2]]) 51]) 52],rg 2 [oq (.mv (.c (.bool aa)))],.ret]) [.tmp 2] 53:=aS func114
def afC:aR prog 162 (sq [rg 6 [ox 3 65 0,oi 0,oz 2],rg 8 [ol 65 3,om 1,om 2,oc 216 [.s 8,.s 9,.s 10,.c (.fn (.func 217) [] [])],oe 11 0,oe 11 1,ot 6 12,o1 7],.ret]) [.tmp 6,.tmp 7] 14:=aS func162
def afD:aR prog 163 (sq [rg 6 [ox 3 65 0,oi 0,oz 2],rg 8 [ol 65 3,om 1,om 2,oc 216 [.s 8,.s 9,.s 10,.c (.fn (.func 218) [] [])],oe 11 0,oe 11 1,ot 6 12,o1 7],.ret]) [.tmp 6,.tmp 7] 14:=aS func163
def agt:aR prog 216 (sq [rg 8 [ox 4 65 0,oi 0,oz 2],dg 13 [om 3,ol 65 4,om 1,oq (.iV (.s 13) [(.s 14),(.s 15)]),om 3,mM [0],ol 65 4,om 2,oq (.iV (.s 17) [(.s 18),(.s 19)]),nb .and 16,o1 10],sq [rg 22 [om 10,oC 249 [22],nL,oi 0],lp 24 0 (sq [rg 27 [oA 1 23 25,no,o1 12],rg 29 [om 10,om 3,ol 65 4,om 12,oq (.iV (.s 30) [(.s 31),(.s 32)]),oC 250 [29,33]],cr 34 8 [ot 35 12,om 35,oq (.mv (.c (.bool aa)))]]) 36],rg 8 [oi 0,oz 2],.ret]) [.tmp 8,.tmp 9] 37:=aS func216
def agu:aR prog 217 (sq [rg 4 [ox 2 65 0,oz 4],dg 5 [mM [1],ol 65 2,om 1,n1 1,oC 215 [7],oC 247 [5,8],o1 4],.ret]) [.tmp 4] 10:=aS func217
def agv:aR prog 218 (sq [rg 4 [ox 2 65 0,oz 4],sq [rg 5 [ol 65 2,om 1,oC 251 [5,6],nn],cr 8 4 [oz 4]],dg 9 [mM [1],ol 65 2,om 1,n1 1,oC 215 [11],oC 248 [9,12],o1 4],.ret]) [.tmp 4] 14:=aS func218
def ag5:aR prog 251 (sq [rg 4 [ox 2 65 0,oz 2],rg 5 [om 1,nB .geq 0,gA,om 1,fo 0 2,oC 222 [10],ow 0 11,nb .lss 8,gZ,o1 4],.ret]) [.tmp 4] 15:=aS func251
def ahb:aR prog 259 (sq [rg 4 [ox 2 65 0,oz 4],rg 5 [ol 65 2,om 1,oC 218 [5,6],o1 4],.ret]) [.tmp 4] 8:=aS func259
def pb(o:Option Nat):V:=.bz [.int .i64 ((o.getD 0:Nat):Int),.bool o.isSome]
def Vi:decide ((0:Int)<=(i:Nat))=true:=aB (by omega)
def aj7(r:Rl)(i:Nat)(Z:ab):aT 251 [.agg r.enc,.int .i64 (i:Nat)] Z (.bool (decide (i<bm r))):=by
 refine ag5.aP ?_;simp only[aO,am,aX,Nat.reduceAdd,Rl.ak];simp only[am,Rl.ak,Vi];refine cl (Vl r.n Z) ?_;simp only[am,Rl.ak,Rl.x8];refine aC ?_;simp[V.erase,bm];rfl
def Za(r:Rl)(i:Nat)(hg:TZ Z):aT 217 [.agg r.enc,.int .i64 (i:Nat)] Z (.int .u64 ((xk r i).toNat:Nat)):=by
 refine agu.aP ?_;simp only[aO,r9,Nat.reduceAdd];refine bA.intro (cF.cY (as' := [.sl .no 1 (cg [(i:Int)])]) (FL [(i:Int)] Z (by simp)) ⟨dr.no,trivial⟩ br.rfl) ?_;simp only[am,Rl.ak];refine bA.intro (Jk r _ hg) ?_;simp only[am,Rl.ak];refine aC ?_;simp[V.erase,xk]
def QW(r:Rl)(i:Nat)(Z:ab):aT 218 [.agg r.enc,.int .i64 (i:Nat)] Z (.int .u64 ((rk r i).toNat:Nat)):=by
 refine agv.aP ?_;simp only[aO,r9,Nat.reduceAdd];refine cl (aj7 r i Z) ?_
 by_cases h:i<bm r
 .simp only[am,Rl.ak,aB h];refine bA.intro (cF.cY (as' := [.sl .no 1 (cg [(i:Int)])]) (FL [(i:Int)] Z (by simp)) ⟨dr.no,trivial⟩ br.rfl) ?_;simp only[am,Rl.ak];refine bA.intro (KA r _ Z) ?_;simp only[am,Rl.ak];refine aC ?_;simp[V.erase,rk,h]
 .simp only[am,az h];refine aC ?_;simp[V.erase,rk,h]
def Vk(r:Rl)(i j:Nat)(f:FuncId)(g:Nat->bu)(hg:TZ Z)(hf:∀k,aT f [.agg r.enc,.int .i64 (k:Nat)] Z (.int .u64 ((g k).toNat:Nat))):
 aT 216 [.agg r.enc,.int .i64 (i:Nat),.int .i64 (j:Nat),.fn (.func f) [] []] Z (pb (Du g i j)):=by
 refine agt.aP ?_;simp only[aO,am,aX,Nat.reduceAdd,Rl.ak];refine bA.intro (hf i) ?_;simp only[am,Rl.ak];refine bA.intro (hf j) ?_;simp only[am,yr,Rl.ak];refine cl (NN _ hg) ?_;simp only[am,aD,tW];rw[Du];generalize g i&&&g j=w;have hlen:=Ik w;refine ct ((fY w).length) (λm (x:Unit)=>⟨[.agg r.enc,.any,.any,.fn (.func f) [] [],.ptr (.au 0) 0,.any,.any,.any,.any,.any,.int .u64 (w.toNat:Nat),.any,.any,.any,.any,.any,.any,.any,.any,.any,.any,.any,.any,.sl .no 1 (cg ((fY w).map Int.ofNat)),.int .i64 ((fY w).length:Nat),.int .i64 (m:Nat)]++aj 11 .any,[r.enc],Z⟩) (λm x=>(∀u∈(fY w).take m,wT w (g u)=aq)) λF hF JF aW=>⟨?_,?_,?_⟩
 .refine en aW (()) (by simp) ?_ ?_ ?_
  all_goals simp[hF,aj,am,bd]
 .rintro m x hi hJ;simp only[hF,aj,am,ca hi];refine ix (De (l:=(fY w).map Int.ofNat) (by simpa using hi)) ?_;simp only[am,Rl.ak,Ca,B7];refine(hf _).mono ?_;rintro v Z ⟨rfl,rfl⟩;simp only[am];refine cl (amT _ _ Z) ?_;simp only[am];cases hb:wT w (g (fY w)[m]) with
  | false =>
   simp only[am,aK,bF hi];exact nx aW (()) hi (DS hJ hi hb)
  | true =>
   have e:(fY w).find? (λu=>wT w (g u))=U (fY w)[m]:=by
    rw[Gw];exact⟨hb,_,(fY w).drop (m+1),by rw[<-kM hi,pA],λa ha=>by rw[hJ a ha];rfl⟩
   simp only[am,aK];refine aC ?_;simp[V.erase,aZ,pb,e]
 .rintro x hJ;rw[df] at hJ;have e:(fY w).find? (λu=>wT w (g u))=none:=by
   rw[Gv];intro u hu;rw[hJ u hu];simp
  simp only[hF,aj,am,aK,cy,aK];refine aC ?_;simp[V.erase,aZ,pb,e]
def ak4(r:Rl)(i j:Nat)(hg:TZ Z):aT 162 [.agg r.enc,.int .i64 (i:Nat),.int .i64 (j:Nat)] Z (pb (pY r i j)):=by
 refine afC.aP ?_;simp only[aO,am,aX,Nat.reduceAdd,Rl.ak];refine cl (Vk r i j _ (xk r) hg λk=>Za r k hg) ?_;simp only[am,pb];refine aC ?_;simp[V.erase,aZ,pY]
def amX(r:Rl)(i j:Nat)(hg:TZ Z):aT 163 [.agg r.enc,.int .i64 (i:Nat),.int .i64 (j:Nat)] Z (pb (qQ r i j)):=by
 refine afD.aP ?_;simp only[aO,am,aX,Nat.reduceAdd,Rl.ak];refine cl (Vk r i j _ (rk r) hg λk=>QW r k Z) ?_;simp only[am,pb];refine aC ?_;simp[V.erase,aZ,qQ]
def akx(r:Rl)(i:Nat)(Z:ab):aT 259 [.agg r.enc,.int .i64 (i:Nat)] Z (.int .u64 ((rk r i).toNat:Nat)):=by
 refine ahb.aP ?_;simp only[aO,r9,Nat.reduceAdd];refine cl (QW r i Z) ?_;simp only[am];exact rt
variable{m:Nat}
def AL{p:Nat->Bool}(hm:m<n)(h:∀k,k<m->p k=aq)(hp:p m=aa):(bG n).find? p=U m:=by
 rw[Gw];refine⟨hp,bG m,List.range' (m+1) (n - (m+1)),?_,λa ha=>by rw[h a (by simpa using ha)];rfl⟩;rw[vH,vH,<-Eb]
 have:=Qi (s:=0) (m:=m) (n:=n - m) (step:=1)
 simp only[xd,j7] at this;rw[show n - (m+1)+1=n - m by omega,this];congr 1;omega
def AM{p:Nat->Bool}(h:∀k,k<n->p k=aq):(bG n).find? p=none:=by
 rw[Gv];intro u hu;rw[h u (by simpa using hu)];simp
def UI(r:Rl)(hg:TZ Z):aT 114 [.agg r.enc] Z (.bool (ky r)):=by
 refine aeP.aP ?_;simp only[aO,am,aX,Nat.reduceAdd,Rl.ak]
 by_cases h1:r.n<1
 .simp only[am,aB h1];refine aC ?_;simp[V.erase,ky];omega
 .simp only[am,Rl.ak,az h1]
  by_cases h2:64<r.n
  .simp only[am,aB h2];refine aC ?_;simp[V.erase,ky];omega
  .simp only[am,Rl.ak,az h2];refine cl (aoO r hg) ?_;obtain⟨n,hn⟩:∃n:Nat,r.n=n:=⟨r.n.toNat,by omega⟩;have hp:bm r=n:=by rw[bm,hn];omega
   cases ho:vf r with
   | false =>
    simp only[am];refine aC ?_;simp[V.erase,ky,ho]
   | true =>
    simp only[am,Rl.ak,hn];have mH:(∀i,i<n->∀j,j<i->((pY r i j).isSome&&(qQ r i j).isSome)=aa)->ky r=true:=λh=>by
     simp only[ky,ho,hn,gK,lO,lP,b_,eb,sa];exact⟨by omega,λi hi j hj=>by have:=h i hi j hj;simpa using this⟩
    have aQ:∀i j,i<n->j<i->((pY r i j).isSome&&(qQ r i j).isSome)=aq->ky r=false:=λi j hi hj h=>by
     cases hq:ky r with
     | false=>rfl
     | true =>
      simp only[ky,hn,gK,lO,lP,b_] at hq
      have:=hq.2 i hi j hj
      rw[this.1,this.2] at h;simp at h
    refine ct (n) (λi (x:Unit)=>⟨[.any,.ptr (.au 0) 0,.any,.any,.any,.any,.any,.any,.any,.any,.any,.any,.any,.any,.any,.any,.any,.any,.any,.any,.any,.any,.any,.int .i64 (n:Nat),.int .i64 (i:Nat)]++aj 28 .any,[r.enc],Z⟩) (λi x=>(∀a,a<i->∀b,b<a->((pY r a b).isSome&&(qQ r a b).isSome)=aa)) λF hF JF aW=>⟨?_,?_,?_⟩
    .exact en aW (()) (by intro k h;omega)
    .rintro i x hi hJ;simp only[hF,aj,am,ca hi];refine ct (i) (λj (x:Unit)=>⟨[.any,.ptr (.au 0) 0,.any,.int .i64 (i:Nat),.any,.any,.any,.any,.any,.any,.any,.any,.any,.any,.any,.any,.any,.any,.any,.any,.any,.any,.any,.int .i64 (n:Nat),.int .i64 (i:Nat),.any,.any,.int .i64 (i:Nat),.int .i64 (j:Nat)]++aj 24 .any,[r.enc],Z⟩) (λj x=>(∀b,b<j->((pY r i b).isSome&&(qQ r i b).isSome)=aa)) λF2 bT mE cX=>⟨?_,?_,?_⟩
     .refine en cX (()) (by intro k h;omega) ?_ ?_ ?_
      all_goals simp[bT,aj,am,bd]
     .rintro j x hj iW;simp only[bT,aj,am,ca hj,Rl.ak];refine cl (ak4 r i j hg) ?_;simp only[am,Rl.ak,pb];refine cl (amX r i j hg) ?_;simp only[am,pb];cases ha:(pY r i j).isSome with
      | false =>
       simp only[am,aK];refine aC ?_;simp[V.erase,aQ i j hi hj (by rw[ha];rfl)]
      | true =>
       simp only[am];cases hb:(qQ r i j).isSome with
       | false =>
        simp only[am,aK];refine aC ?_;simp[V.erase,aQ i j hi hj (by rw[ha,hb];rfl)]
       | true =>
        simp only[am,aK,bF hj];refine nx cX (()) hj (ji iW (by rw[ha,hb];rfl)) ?_ ?_ ?_
        all_goals simp[bT,aj,am,bd]
     .rintro x iW;simp only[bT,aj,am,aK,cy,Nat.reduceEqDiff,aK,reduceCtorEq,bF hi];exact nx aW (()) hi (ji hJ iW)
    .rintro x hJ;simp only[hF,aj,am,aK,cy,aK];refine aC ?_;simp[V.erase,mH hJ]
def af6:aR prog 193 (sq [rg 2 [oz 4],rg 3 [oz 4,oq (.mv (.c (.int .u64 1)))],sq [rg 5 [oi 0],bl 0 (sq [sq [rg 7 [om 5,nB .lss 64],cx 8 0],.block 1 (sq [sq [rg 6 [oi 0],bl 2 (sq [sq [rg 11 [om 6,om 0,nL,nb .lss 11],cx 14 2],.block 3 (sq [rg 17 [om 0,om 6,nA 1 17,no,om 5,nb .eql 20],ci 22 (sq [rg 23 [om 3,om 4,nb .add 23,o1 3],(.exit 2)])]),rg 15 [ic 6]])],rg 26 [om 4,oq (.dV .mul (.s 26) (.c (.int .u64 2))),o1 4]]),rg 9 [ic 5]])],rg 28 [om 3,o1 2],.ret]) [.tmp 2] 29:=aS func193
def ahi:aR prog 265 (sq [rg 2 [oz 4],rg 3 [oz 6],sq [rg 4 [oi 0],bl 0 (sq [sq [rg 5 [nm,om 0,nb .lss 5,gA,om 4,nB .lss 64,gZ],cx 11 0],.block 1 (rg 14 [om 3,om 4,n1 1,na 1 14,o1 3]),rg 12 [ic 4]])],rg 18 [om 3,oC 193 [18],o1 2],.ret]) [.tmp 2] 20:=aS func265
def ahu:aR prog 276 (sq [rg 4 [oz 2],sq [rg 6 [om 1,nB .lss 0,gB,om 1,nB .gtr 63,gZ],cr 11 4 [oz 2]],sq [rg 5 [oi 0],bl 0 (sq [sq [rg 12 [om 5,om 1,nb .lss 12],cx 14 0],.block 1 (rg 17 [om 0,oq (.dV .quo (.s 17) (.c (.int .u64 2))),o1 0]),rg 15 [ic 5]])],rg 19 [om 0,oq (.dV .rem (.s 19) (.c (.int .u64 2))),oq (.dV .eql (.s 20) (.c (.int .u64 1))),o1 4],.ret]) [.tmp 4] 22:=aS func276
def asn(s:bu)(i:Nat):(s>>>i)>>>1=s>>>(i+1):=by
 apply lZ;intro k hk;simp only[JA];congr 1;omega
def WA(s:bu)(n:Int)(Z:ab):aT 276 [.int .u64 (s.toNat:Nat),.int .i64 n] Z (.bool (hasB s n)):=by
 refine ahu.aP ?_;simp only[aO,am,aX,Nat.reduceAdd,Ge]
 by_cases h:n<0
 .simp only[am,aB h];refine aC ?_;simp[V.erase,hasB];omega
 .obtain⟨m,rfl⟩:∃m:Nat,n=m:=⟨n.toNat,by omega⟩;simp only[am,az h]
  by_cases h1:63<(m:Int)
  .simp only[am,aB h1];refine aC ?_;simp[V.erase,hasB];exact yz _ _ (by omega)
  .simp only[am,az h1];refine ct (m) (λi (x:bu)=>⟨[.int .u64 (x.toNat:Nat),.int .i64 (m:Nat),.any,.any,.bool aq,.int .i64 (i:Nat)]++aj 16 .any,[],Z⟩) (λi x=>(x=s>>>i)) λF hF JF aW=>⟨?_,?_,?_⟩
   .exact en aW (s) (by simp)
   .rintro i x hi rfl;simp only[hF,aj,am,aK,ca hi,aK,atQ,bF hi];refine nx aW (s>>>(i+1)) hi (rfl) ?_ ?_ ?_
    all_goals simp[hF,aj,am,bd,asn]
   .rintro x rfl;simp only[hF,aj,am,aK,cy,aK,Ya,X_];refine aC ?_;simp[V.erase,hasB]
def zN(l:List Int)(Z:ab)(hl:l.length<=100000):aT 193 [.sl .no 1 (cg l)] Z (.int .u64 ((fC l).toNat:Nat)):=by
 refine af6.aP ?_;simp only[aO,PH,Nat.reduceAdd];refine ct (64) (λi (x:bu)=>⟨[.sl .no 1 (cg l),.any,.int .u64 ((0#64:bu).toNat:Nat),.int .u64 (x.toNat:Nat),.int .u64 ((kl i).toNat:Nat),.int .i64 (i:Nat)]++aj 23 .any,[],Z⟩) (λi x=>(x=fC l&&&iU (i:Int))) λF hF JF aW=>⟨?_,?_,?_⟩
 .refine en aW (0#64) ((aoj l).symm) ?_ ?_ ?_
  all_goals simp[hF,aj,am,bd,kl]
 .rintro i x hi rfl;simp only[hF,aj,am,show decide ((i:Int)<64)=aa from ca hi];refine ct (l.length) (λj (y:Unit)=>⟨[.sl .no 1 (cg l),.any,.int .u64 ((0#64:bu).toNat:Nat),.int .u64 ((fC l&&&iU (i:Int)).toNat:Nat),.int .u64 ((kl i).toNat:Nat),.int .i64 (i:Nat),.int .i64 (j:Nat)]++aj 22 .any,[],Z⟩) (λj y=>((i:Int)∉l.take j)) λF2 bT mE cX=>⟨?_,?_,?_⟩
  .refine en cX (()) (by simp) ?_ ?_ ?_
   all_goals simp[bT,aj,am,bd]
  .rintro j y hj hm;simp only[bT,aj,am,ca hj,tW];refine ix (De hj) ?_;simp only[am]
   by_cases he:l[j]=(i:Int)
   .have kt:(i:Int)∈l:=he▸dq hj;simp only[am,Nat.reduceEqDiff,aK,reduceCtorEq,atO,X',aB he,bF hi,QX];exact nx aW ((fC l&&&iU (i:Int))+kl i) hi (by rw[Vv l i hi,aI kt])
   .simp only[am,aK,az he,bF hj];refine nx cX (()) hj (by rw[jg hj,jv];simp[hm,fL he]) ?_ ?_ ?_
    all_goals simp[bT,aj,am,bd]
  .rintro y hm;rw[df] at hm;simp only[bT,aj,am,aK,cy,Nat.reduceEqDiff,aK,reduceCtorEq,X',tW,bF hi,QX];exact nx aW (fC l&&&iU (i:Int)) hi (by rw[Vv l i hi,aw hm])
 .rintro x rfl;simp only[hF,aj,am,aK,aK,show decide (((64:Nat):Int)<64)=aq from rfl];rw[show((64:Nat):Int)=64 from rfl,aoi];exact rt
def aqL(n:Int)(Z:ab):aT 265 [.int .i64 n] Z (.int .u64 ((iU n).toNat:Nat)):=by
 refine ahi.aP ?_;simp only[aO,am,aX,Nat.reduceAdd,r5];have akd:∃m:Nat,m<=64/\(∀i:Nat,i<m->(i:Int)<n/\i<64)/\((m:Int)<n->m=64)/\(n<0->m=0):=⟨min n.toNat 64,by omega,by omega,by omega,by omega⟩;obtain⟨m,h1,h2,h3,h4⟩:=akd;refine ct (m) (λi (x:Tk × ab)=>⟨[.int .i64 n,.any,.int .u64 ((0#64:bu).toNat:Nat),.sl x.1 1 (cg ((bG i).map Int.ofNat)),.int .i64 (i:Nat)]++aj 15 .any,[],x.2⟩) (λi x=>(Gr Z x.2 x.1 (cg ((bG i).map Int.ofNat)).length)) λF hF JF aW=>⟨?_,?_,?_⟩
 .refine en aW ((.a9,Z)) (Gr.nil) ?_ ?_ ?_
  all_goals simp[hF,aj,am,bd,cg]
 .rintro i ⟨tk,bR⟩ hi hG;simp only at hG;simp only[hF,aj,am,aB (h2 i hi).1,aB (show(i:Int)<64 by omega)];refine Gr.app hG (by simp[cg,aJ];omega) λfK σ' jA _ _=>?_
  have e:cg ((bG (i+1)).map Int.ofNat)=cg ((bG i).map Int.ofNat)++[[.int .i64 (i:Nat)]]:=by
   rw[ga];simp[cg]
  simp only[am,aK,bF hi];refine nx aW ((fK,σ')) hi (by rw[e];exact jA) ?_ ?_ ?_
  all_goals simp[hF,aj,am,bd,e]
 .rintro⟨tk,bR⟩ hG;have he:fC ((bG m).map Int.ofNat)=iU n:=by
   apply lZ;intro k hk;rw[x7,xo];congr 1;apply rn.2;simp only[qv,lP,B7];constructor
   .rintro⟨a,ha,hb⟩;have:=h2 a ha;omega
   .intro h;refine⟨k,?_,rfl⟩
    by_cases h5:(m:Int)<n
    .have:=h3 h5;omega
    .omega
  have hx:decide ((m:Int)<n)=aq\/(decide ((m:Int)<n)=aa/\decide ((m:Int)<64)=aq):=by
   by_cases h5:(m:Int)<n
   .right;exact⟨aB h5,by rw[h3 h5];rfl⟩
   .left;exact az h5
  rcases hx with hx | ⟨hx,hy⟩
  .simp only[hF,aj,am,aK,aK,hx];refine cF.cY (as' := [.sl .no 1 (cg ((bG m).map Int.ofNat))]) ?_ ⟨dr.no,trivial⟩ br.rfl;refine(zN ((bG m).map Int.ofNat) bR (by simp;omega)).mono ?_;rintro v σ' ⟨rfl,rfl⟩;simp only[am,he];exact aN rfl hG.sub ⟨rfl,rfl⟩
  .simp only[hF,aj,am,aK,aK,hx,hy];refine cF.cY (as' := [.sl .no 1 (cg ((bG m).map Int.ofNat))]) ?_ ⟨dr.no,trivial⟩ br.rfl;refine(zN ((bG m).map Int.ofNat) bR (by simp;omega)).mono ?_;rintro v σ' ⟨rfl,rfl⟩;simp only[am,he];exact aN rfl hG.sub ⟨rfl,rfl⟩
def afd:aR prog 139 (sq [rg 2 [ox 1 65 0,oz 2],sq [rg 3 [oi 0],bl 0 (sq [sq [rg 5 [om 3,ol 65 1,oC 190 [6],nb .lss 5],cx 8 0],.block 1 (sq [rg 4 [oi 0],bl 2 (sq [sq [rg 11 [om 4,om 3,nb .lss 11],cx 13 2],.block 3 (sq [rg 16 [ol 65 1,om 3,om 4,oC 191 [16,17,18],gA,ol 65 1,om 4,om 3,oC 191 [21,22,23],gZ],cr 25 2 [oz 2]]),rg 14 [ic 4]])]),rg 9 [ic 3]])],rg 26 [ol 65 1,oC 192 [26],o1 2],.ret]) [.tmp 2] 28:=aS func139
def afh:aR prog 142 (sq [rg 0 [ox 1 65 0,oR 2 kG],rg 5 [ol 65 1,oC 190 [5],oY kG [(0,1,.s 6)],oR 3 kG,o2 65 3],sq [rg 4 [oi 0],bl 0 (sq [sq [rg 8 [om 4,fo 0 3,nb .lss 8],cx 11 0],.block 1 (rg 14 [om 4,ol 65 1,om 4,oC 194 [15,16],oC 193 [17],of 1 3,oP 64 1 19 14,os 1 20 18]),rg 12 [ic 4]])],rg 21 [ol 65 3,o2 65 2],.ret]) [.cell 2 aa 65] 22:=aS func142
def af3:aR prog 190 (sq [rg 2 [ox 1 65 0,oi 0],sq [rg 3 [fo 0 1,nB .lss 0],cr 5 2 [oi 0]],sq [rg 6 [fo 0 1,nB .gtr 64],cr 8 2 [oi 64]],rg 9 [fo 0 1,o1 2],.ret]) [.tmp 2] 11:=aS func190
def af4:aR prog 191 (sq [rg 6 [ox 3 65 0,oz 2],rg 8 [ol 65 3,oC 190 [8],o1 7],rg 10 [om 1,nB .geq 0,gA,om 2,nB .geq 0,gZ,gA,om 1,om 7,nb .lss 17,gZ,gA,om 2,om 7,nb .lss 22,gZ,gA,om 1,of 1 3,oP 64 1 28 27,no,om 2,oq (.pG .u64 (.s 31)),nb .shr 30,oq (.dV .rem (.s 33) (.c (.int .u64 2))),oq (.dV .eql (.s 34) (.c (.int .u64 1))),gZ,o1 6],.ret]) [.tmp 6] 37:=aS func191
def af5:aR prog 192 (sq [rg 2 [ox 1 65 0,oz 2],dg 3 [mM [1],ol 65 1,ol 65 1,oC 142 [4],oC 236 [3,5],o1 2],.ret]) [.tmp 2] 7:=aS func192
def af7:aR prog 194 (sq [rg 4 [ox 2 65 0,oz 6],sq [rg 8 [om 1,nB .lss 0,gB,om 1,ol 65 2,oC 190 [12],nb .geq 11,gZ],cr 15 4 [oz 6]],rg 16 [om 1,n1 1,o1 5],sq [rg 6 [oi 0],bl 0 (sq [sq [rg 18 [om 6,om 5,nL,nb .lss 18],cx 21 0],.block 1 (sq [rg 7 [oi 0],bl 2 (sq [sq [rg 24 [om 7,ol 65 2,oC 190 [25],nb .lss 24],cx 27 2],.block 3 (sq [dg 30 [ol 65 2,om 5,om 6,nA 1 31,no,om 7,oC 191 [30,34,35],gA,om 5,om 7,oC 237 [38,39],nn,gZ],ci 42 (rg 43 [om 5,om 7,n1 1,na 1 43,o1 5])]),rg 28 [ic 7]])]),rg 22 [ic 6]])],rg 47 [om 5,o1 4],.ret]) [.tmp 4] 48:=aS func194
def agP:aR prog 236 (sq [rg 4 [ox 2 65 0,ox 3 65 1,oz 2],dg 5 [ol 65 2,oC 261 [5],mM [0],ol 65 3,oC 261 [7],oq (.kn aq IS (.s 6) (.s 8)),o1 4],.ret]) [.tmp 4] 10:=aS func236
def agQ:aR prog 237 (sq [rg 4 [oz 2],sq [rg 5 [oi 0],bl 0 (sq [sq [rg 6 [nm,om 0,nL,nb .lss 6],cx 9 0],.block 1 (sq [rg 12 [om 0,om 5,nA 1 12,no,om 1,nb .eql 15],cr 17 4 [oq (.mv (.c (.bool aa)))]]),rg 10 [ic 5]])],rg 4 [oz 2],.ret]) [.tmp 4] 18:=aS func237
def ahe:aR prog 261 (sq [rg 0 [ox 1 65 0,oR 2 kG],rg 7 [ol 65 1,oC 190 [7],oY kG [(0,1,.s 8)],oR 3 kG,o2 65 3],sq [rg 4 [oi 0],bl 0 (sq [sq [rg 10 [om 4,fo 0 3,nb .lss 10],cx 13 0],.block 1 (sq [rg 5 [oz 6],sq [rg 6 [oi 0],bl 2 (sq [sq [rg 16 [om 6,fo 0 3,nb .lss 16],cx 19 2],.block 3 (sq [rg 22 [ol 65 1,om 4,om 6,oC 191 [22,23,24]],ci 25 (rg 26 [om 5,om 6,n1 1,na 1 26,o1 5])]),rg 20 [ic 6]])],rg 30 [om 4,om 5,oC 193 [31],of 1 3,oP 64 1 33 30,os 1 34 32]]),rg 14 [ic 4]])],rg 35 [ol 65 3,o2 65 2],.ret]) [.cell 2 aa 65] 36:=aS func261
def am':decide ((0:Int)<=(i:Nat))=true:=aB (by omega)
def mm(r:Rl)(Z:ab):aT 190 [.agg r.enc] Z (.int .i64 (bm r:Nat)):=by
 refine af3.aP ?_;simp only[aO,am,aX,Nat.reduceAdd,Rl.ak]
 by_cases h:r.n<0
 .simp only[am,aB h];refine aC ?_;simp[V.erase,bm];omega
 .simp only[am,Rl.ak,az h]
  by_cases h2:64<r.n
  .simp only[am,aB h2];refine aC ?_;simp[V.erase,bm];omega
  .simp only[am,Rl.ak,az h2];refine aC ?_;simp[V.erase,bm];omega
def auZ:=af @am <| af @aX <| af @Ge @Rl.ak
def au0:=af @am <| af @Jr <| af @gK @qw
def nK(r:Rl)(i j:Nat)(Z:ab):aT 191 [.agg r.enc,.int .i64 (i:Nat),.int .i64 (j:Nat)] Z (.bool (bx r i j)):=by
 refine af4.aP ?_;simp only[aO,auZ,Nat.reduceAdd];refine cl (mm r Z) ?_;simp only[am,am'];have hp:=@jc r
 by_cases h1:i<bm r
 .simp only[am,ca h1]
  by_cases h2:j<bm r
  .simp only[am,cG,ca h2];refine i_ ?_;simp only[au0,Ya,X_,Rl.wZ (show i<64 by omega),wrap_u64 (x:=((j:Nat):Int)) (by omega) (by omega),JA];refine aC ?_;simp[V.erase,Bc,h1,h2]
  .have e:decide ((j:Int)<(bm r:Nat))=false:=az (by omega);simp only[am,e];refine aC ?_;simp[V.erase,Bc,h2]
 .have e:decide ((i:Int)<(bm r:Nat))=false:=az (by omega);simp only[am,e];refine aC ?_;simp[V.erase,Bc,h1]
def WU(r:Rl)(Z:ab):aT 261 [.agg r.enc] Z (.agg (kB r).enc):=by
 refine ahe.aP ?_;simp only[aO,am,aX,Nat.reduceAdd,Rl.ak];refine cl (mm r Z) ?_;simp only[am,Nat.reduceAdd,Rl.ak];have hp:=@jc r;refine ct (bm r) (λi (x:Unit)=>⟨[.any,.ptr (.au 0) 0,.ptr (.au 1) 0,.ptr (.au 2) 0,.int .i64 (i:Nat)]++aj 31 .any,[r.enc,Rl.zero.enc,(Rl.of (bm r:Nat) λj=>if j<i then gU r j else 0#64).enc],Z⟩) (λi x=>(True)) λF hF JF aW=>⟨?_,?_,?_⟩
 .refine en aW (()) (trivial) ?_ ?_ ?_
  all_goals simp[hF,aj,am,bd,Rl.Jy]
 .rintro i x hi -;simp only[hF,aj,am,ca hi,Rl.ak,Rl.x8];refine ct (bm r) (λj (x:Tk × ab)=>⟨[.any,.ptr (.au 0) 0,.ptr (.au 1) 0,.ptr (.au 2) 0,.int .i64 (i:Nat),.sl x.1 1 (cg (((bG j).filter (bx r i)).map Int.ofNat)),.int .i64 (j:Nat)]++aj 29 .any,[r.enc,Rl.zero.enc,(Rl.of (bm r:Nat) λj=>if j<i then gU r j else 0#64).enc],x.2⟩) (λj x=>(Gr Z x.2 x.1 ((bG j).filter (bx r i)).length)) λF2 bT mE cX=>⟨?_,?_,?_⟩
  .refine en cX ((.a9,Z)) (Gr.nil) ?_ ?_ ?_
   all_goals simp[bT,aj,am,bd,cg]
  .rintro j ⟨tk,bR⟩ hj hG;simp only at hG;have hlen:((bG j).filter (bx r i)).length<=64:=by have:=Cb (bx r i) (bG j);simp at this;omega
   simp only[bT,aj,am,ca hj,Rl.ak,Rl.x8];refine(nK r i j bR).mono ?_;rintro v bR ⟨rfl,rfl⟩;simp only[am];refine cO (λhb=>?_) (λhb=>?_)
   .simp only[am];refine Gr.app (by simpa [cg] using hG) (by simp[cg,aJ];omega) λfK σ' jA _ _=>?_
    have e:cg (((bG (j+1)).filter (bx r i)).map Int.ofNat)=cg (((bG j).filter (bx r i)).map Int.ofNat)++[[.int .i64 (j:Nat)]]:=by
     rw[ga,B8,Ak,hb];simp[cg]
    simp only[am,aK,bF hj];refine nx cX ((fK,σ')) hj (by rw[<-e] at jA;simpa [cg] using jA) ?_ ?_ ?_
    all_goals simp[bT,aj,am,bd,e]
   .have e:cg (((bG (j+1)).filter (bx r i)).map Int.ofNat)=cg (((bG j).filter (bx r i)).map Int.ofNat):=by
     rw[ga,B8,Ak,hb];simp[cg]
    simp only[am,aK,bF hj];refine nx cX ((tk,bR)) hj (by simpa [ga,hb] using hG) ?_ ?_ ?_
    all_goals simp[bT,aj,am,bd,e]
  .rintro⟨tk,bR⟩ hG;simp only at hG;have hlen:((bG (bm r)).filter (bx r i)).length<=64:=by have:=Cb (bx r i) (bG (bm r));simp at this;omega
   simp only[bT,aj,am,aK,cy,Nat.reduceEqDiff,aK,reduceCtorEq,Rl.ak,Rl.x8];refine cF.cY (as' := [.sl .no 1 (cg (((bG (bm r)).filter (bx r i)).map Int.ofNat))]) ?_ ⟨dr.no,trivial⟩ br.rfl;refine cl (zN _ _ (by rw[aD];omega)) ?_;simp only[am,cG,aol hi];refine i_ ?_;simp only[yy,Rl.wY (show i<64 by omega),Rl.w7 (show i<64 by omega),bF hi];refine nx aW (()) hi (trivial) ?_ ?_ (by simp only[hF];exact(br.aom hG.sub))
   all_goals simp[hF,aj,am,bd,Rl.fill]
 .rintro x -;simp only[hF,aj,am,aK,cy,aK,Rl.ak,Rl.x8];refine aC ?_;simp[V.erase,kB,Rl.dy]
def aru(r s:Rl)(Z:ab):aT 236 [.agg r.enc,.agg s.enc] Z (.bool (decide (kB r=kB s))):=by
 refine agP.aP ?_;simp only[aO,am,aX,Nat.reduceAdd,Rl.ak];refine bA.intro (WU r Z) ?_;simp only[am,Rl.ak];refine bA.intro (WU s Z) ?_;simp only[am,Rl.ak];exact rt
def akC(l:List Int)(n:Int)(Z:ab)(hl:l.length<=100000):aT 237 [.sl .no 1 (cg l),.int .i64 n] Z (.bool (decide (n∈l))):=by
 refine agQ.aP ?_;simp only[aO,am,aX,Nat.reduceAdd];refine ct (l.length) (λi (x:Unit)=>⟨[.sl .no 1 (cg l),.int .i64 n,.any,.any,.bool aq,.int .i64 (i:Nat)]++aj 12 .any,[],Z⟩) (λi x=>(∀k∈l.take i,k≠n)) λF hF JF aW=>⟨?_,?_,?_⟩
 .exact en aW (()) (by simp)
 .rintro i x hi hJ;simp only[hF,aj,am,ca hi,tW];refine ix (De hi) ?_;simp only[am]
  by_cases h:l[i]=n
  .simp only[am,aK,aB h];have hm:n∈l:=h▸dq hi;refine aC ?_;simp[V.erase,hm]
  .simp only[am,aK,az h,bF hi];exact nx aW (()) hi (DS hJ hi h)
 .rintro x hJ;rw[df] at hJ;have hm:n∉l:=λhm=>hJ n hm rfl
  simp only[hF,aj,am,aK,cy,aK,tW];refine aC ?_;simp[V.erase,hm]
def U_{l:List Nat}:((j:Nat):Int)∈l.map Int.ofNat↔j∈l:=by
 simp only[qv,B7];constructor
 .rintro⟨a,h1,h2⟩;obtain rfl:a=j:=by omega
  exact h1
 .intro h;exact⟨j,h,rfl⟩
structure RI(r:Rl)(i0 m:Nat)(l:List Nat):Prop where
 nd:l.Nodup
 FY:∀k∈l,jw r i0 k
 fst:i0∈l
 O8:∀a v,a<m->l[a]?=U v->∀k,bx r v k=aa->k∈l
variable{i0:Nat}
def RI.len{r:Rl}{l:List Nat}(h:RI r i0 m l):l.length<=bm r:=NW h.nd λk hk=>(h.FY k hk).lt.2
def RI.all{r:Rl}{l:List Nat}(h:RI r i0 l.length l)(j:Nat):j∈l↔jw r i0 j:=by
 refine⟨h.FY j,λhr=>?_⟩;induction hr with
 | refl _=>exact h.fst
 | tail _ hs ih =>
  obtain⟨a,ha,hv⟩:=GB.1 ih;exact h.O8 a _ ha (by rw[bN ha,hv]) _ hs
def RI.add{r:Rl}{l:List Nat}{v:Nat}(h:RI r i0 m l)(hm:m<=l.length)(hv:v∈l)(hs:bx r v j=aa)(hj:j∉l):RI r i0 m (l++[j]):=by
 refine⟨?_,λk hk=>?_,by simp[h.fst],λa w ha hw k hk=>?_⟩
 .rw[List.nodup_append];exact⟨h.nd,by simp,λa ha b hb=>by simp only[nU] at hb;subst hb;rintro rfl;exact hj ha⟩
 .rcases jv.1 hk with hk | hk
  .exact h.FY k hk
  .rw[nU.1 hk];exact(h.FY v hv).tail hs
 .rw[sc (by omega)] at hw;exact jv.2 (.inl (h.O8 a w ha hw k hk))
def aky{l:List Nat}{v:Nat}(h:l[m]?=U v):(cg (l.map Int.ofNat))[((m:Nat):Int).toNat]?=U [.int .i64 (v:Nat)]:=by simp[cg,h]
def aqJ(r:Rl)(i0:Nat)(CZ:i0<bm r)(Z:ab):cF prog 194 [.agg r.enc,.int .i64 (i0:Nat)] Z λv σ' => (∃l:List Nat,v = .sl .no 1 (cg (l.map Int.ofNat))/\(∀j,j∈l↔jw r i0 j)/\l.length<=64)/\σ' = Z:=by
 refine af7.aP ?_;simp only[aO,am,aX,Nat.reduceAdd,Rl.ak];have hp:=@jc r;simp only[am,Rl.ak,az (show ¬(i0:Int)<0 by omega)];refine cl (mm r Z) ?_;simp only[am,az (show ¬((bm r:Nat):Int)<=(i0:Nat) by omega)];have fin:∀(l:List Nat) (tk:Tk) (bR:ab),RI r i0 l.length l->Gr Z bR tk l.length->∀t au,jx (λv σ' => (∃l:List Nat,v=V.sl .no 1 (cg (l.map Int.ofNat))/\(∀j,j∈l↔jw r i0 j)/\l.length<=64)/\σ' = Z) ⟨t,au,bR⟩ (.sl tk 1 (cg (l.map Int.ofNat))):=λl tk bR h1 h2 t au =>
  aN rfl h2.sub ⟨⟨l,rfl,h1.all,by have:=h1.len;omega⟩,rfl⟩
 refine ct (bm r) (λm (x:List Nat × Tk × ab)=>⟨[.agg r.enc,.any,.ptr (.au 0) 0,.any,.any,.sl x.2.1 1 (cg (x.1.map Int.ofNat)),.int .i64 (m:Nat)]++aj 41 .any,[r.enc],x.2.2⟩) (λm x=>(RI r i0 m x.1/\m<=x.1.length/\Gr Z x.2.2 x.2.1 x.1.length)) λF hF JF aW=>⟨?_,?_,?_⟩
 .refine en aW (([i0],.a9,Z)) (⟨⟨by simp,by simp[jw.refl CZ],by simp,λa v h=>by omega⟩,by simp,ab.bc _,.inl rfl⟩) ?_ ?_ ?_
  all_goals simp[hF,aj,am,bd,cg]
 .rintro m ⟨l,tk,bR⟩ hi ⟨h1,h2,h3⟩;simp only at h1 h2 h3;simp only[hF,aj,am,tW,aD]
  by_cases an:m<l.length
  .obtain⟨v,hv⟩:∃v,l[m]?=U v:=⟨_,bN an⟩;simp only[am,ca an];refine ct (bm r) (λj (x:List Nat × Tk × ab)=>⟨[.agg r.enc,.any,.ptr (.au 0) 0,.any,.any,.sl x.2.1 1 (cg (x.1.map Int.ofNat)),.int .i64 (m:Nat),.int .i64 (j:Nat)]++aj 40 .any,[r.enc],x.2.2⟩) (λj x=>((RI r i0 m x.1/\m<x.1.length/\Gr Z x.2.2 x.2.1 x.1.length)/\x.1[m]?=U v/\∀k,k<j->bx r v k=aa->k∈x.1)) λF2 bT mE cX=>⟨?_,?_,?_⟩
   .refine en cX ((l,tk,bR)) (⟨⟨h1,an,h3⟩,hv,λk hk=>by omega⟩) ?_ ?_ ?_
    all_goals simp[bT,aj,am,bd]
   .rintro j ⟨l,tk,bR⟩ hj ⟨⟨h1,h2,h3⟩,hv,h4⟩;simp only at h1 h2 h3 hv h4;have hlen:=h1.len;simp only[bT,aj,am,Rl.ak];refine(mm r bR).mono ?_;rintro v bR ⟨rfl,rfl⟩;simp only[am,Rl.ak,ca hj];refine ix (aky hv) ?_;simp only[am,Rl.ak];refine bA.intro (nK r v j bR) ?_;have kt:v∈l:=tq hv;cases hb:bx r v j with
    | false =>
     simp only[am,aK,bF hj];refine nx cX ((l,tk,bR)) hj (⟨⟨h1,h2,h3⟩,hv,ji h4 λhs=>by rw[hb] at hs;simp at hs⟩) ?_ ?_ ?_
     all_goals simp[bT,aj,am,bd]
    | true =>
     simp only[am];refine bA.intro (cF.cY (as' := [.sl .no 1 (cg (l.map Int.ofNat)),.int .i64 (j:Nat)]) (akC (l.map Int.ofNat) (j:Nat) bR (by rw[aD];omega)) ⟨dr.no,dr.rfl,trivial⟩ br.rfl) ?_
     by_cases hm:j∈l
     .simp only[am,aK,aB (U_.2 hm),bF hj];refine nx cX ((l,tk,bR)) hj (⟨⟨h1,h2,h3⟩,hv,ji h4 λ_=>hm⟩) ?_ ?_ ?_
      all_goals simp[bT,aj,am,bd]
     .simp only[am,az (λh=>hm (U_.1 h))];refine Gr.app (by simpa [cg] using h3) (by simp[cg,aJ];omega) λfK σ' jA _ _=>?_
      simp only[am,aK,bF hj];refine nx cX ((l++[j],fK,σ')) hj (⟨⟨h1.add (by omega) kt hb hm,by simp;omega,by simpa [cg] using jA⟩,by rw[sc h2];exact hv,ji (λk hk hs=>jv.2 (.inl (h4 k hk hs))) λ_=>by simp⟩) ?_ ?_ ?_
      all_goals simp[bT,aj,am,bd,Fk]
   .rintro⟨l,tk,bR⟩ ⟨⟨h1,h2,h3⟩,hv,h4⟩;simp only at h1 h2 h3 hv h4;simp only[bT,aj,am,Rl.ak];refine(mm r bR).mono ?_;rintro v bR ⟨rfl,rfl⟩;simp only[am,Nat.reduceEqDiff,aK,reduceCtorEq,cy,bF hi];have h5:∀a w,a<m+1->l[a]?=U w->∀k,bx r w k=aa->k∈l:=λa w ha hw k hk=>by
     rcases Qm.1 ha with h | h
     .exact h1.O8 a w h hw k hk
     .subst h;rw[hv] at hw;cases hw;exact h4 k (kX hk).2 hk
    exact nx aW ((l,tk,bR)) hi (⟨⟨h1.nd,h1.FY,h1.fst,h5⟩,h2,h3⟩)
  .obtain rfl:m=l.length:=by omega
   simp only[am,aK,cy];exact fin l tk bR h1 h3 _ _
 .rintro⟨l,tk,bR⟩ ⟨h1,h2,h3⟩;simp only at h1 h2 h3;have hlen:=h1.len;have e:bm r=l.length:=by omega
  rw[e] at h1;simp only[hF,aj,am,aK,aK,tW,aD,show decide (((bm r:Nat):Int)<(l.length:Nat))=aq from by rw[e];exact cy];exact fin l tk bR h1 h3 _ _
def Wv(r:Rl)(Z:ab):aT 142 [.agg r.enc] Z (.agg (jQ r).enc):=by
 refine afh.aP ?_;simp only[aO,am,aX,Nat.reduceAdd,Rl.ak];refine cl (mm r Z) ?_;simp only[am,Nat.reduceAdd,Rl.ak];have hp:=@jc r;refine ct (bm r) (λi (x:Unit)=>⟨[.any,.ptr (.au 0) 0,.ptr (.au 1) 0,.ptr (.au 2) 0,.int .i64 (i:Nat)]++aj 17 .any,[r.enc,Rl.zero.enc,(Rl.of (bm r:Nat) λj=>if j<i then(jQ r).get j else 0#64).enc],Z⟩) (λi x=>(True)) λF hF JF aW=>⟨?_,?_,?_⟩
 .refine en aW (()) (trivial) ?_ ?_ ?_
  all_goals simp[hF,aj,am,bd,Rl.Jy]
 .rintro i x hi -;simp only[hF,aj,am,ca hi,Rl.ak,Rl.x8];refine(aqJ r i hi Z).mono ?_;rintro v Z ⟨⟨l,rfl,hl,hlen⟩,rfl⟩;simp only[am];refine cl (zN _ Z (by rw[aD];omega)) ?_;simp only[am,cG,abv hi hl];refine i_ ?_;simp only[yy,Rl.wY (show i<64 by omega),Rl.w7 (show i<64 by omega),bF hi];refine nx aW (()) hi (trivial) ?_ ?_ ?_
  all_goals simp[hF,aj,am,bd,Rl.fill]
 .rintro x -;simp only[hF,aj,am,aK,cy,aK,Rl.ak,Rl.x8];rw[abu];exact aN (v:=.agg (jQ r).enc) Rl.dL (ab.bc _) ⟨by simp only[V.erase,Rl.dy],rfl⟩
def Wu(r:Rl)(Z:ab):aT 192 [.agg r.enc] Z (.bool (tu r)):=by
 refine af5.aP ?_;simp only[aO,am,aX,Nat.reduceAdd,Rl.ak];refine bA.intro (Wv r Z) ?_;simp only[am,Rl.ak];refine bA.intro (aru r (jQ r) Z) ?_;simp only[am,Rl.ak];refine aC ?_;simp[V.erase,tu,Ra]
def aq7(r:Rl)(Z:ab):aT 139 [.agg r.enc] Z (.bool (vf r)):=by
 refine afd.aP ?_;simp only[aO,am,aX,Nat.reduceAdd,Rl.ak];have hp:=@jc r;refine ct (bm r) (λi (x:Unit)=>⟨[.any,.ptr (.au 0) 0,.bool aq,.int .i64 (i:Nat)]++aj 24 .any,[r.enc],Z⟩) (λi x=>(∀a,a<i->∀b,b<a->(bx r a b&&bx r b a)=aq)) λF hF JF aW=>⟨?_,?_,?_⟩
 .exact en aW (()) (by intro k h;omega)
 .rintro i x hi hJ;simp only[hF,aj,am,Rl.ak];refine cl (mm r Z) ?_;simp only[am,ca hi];refine ct (i) (λj (x:Unit)=>⟨[.any,.ptr (.au 0) 0,.bool aq,.int .i64 (i:Nat),.int .i64 (j:Nat)]++aj 23 .any,[r.enc],Z⟩) (λj x=>(∀b,b<j->(bx r i b&&bx r b i)=aq)) λF2 bT mE cX=>⟨?_,?_,?_⟩
  .refine en cX (()) (by intro k h;omega) ?_ ?_ ?_
   all_goals simp[bT,aj,am,bd]
  .rintro j x hj iW;simp only[bT,aj,am,ca hj,Rl.ak];refine cl (nK r i j Z) ?_;have aQ:bx r i j=aa->bx r j i=aa->vf r=false:=λh1 h2=>by
    have:uA r=false:=by
     cases hq:uA r with
     | false=>rfl
     | true=>have:=QE.1 hq i j h1 h2;omega
    simp[vf,this]
   cases h1:bx r i j with
   | false =>
    simp only[am,aK,bF hj];refine nx cX (()) hj (ji iW (by rw[h1];rfl)) ?_ ?_ ?_
    all_goals simp[bT,aj,am,bd]
   | true =>
    simp only[am,Rl.ak];refine cl (nK r j i Z) ?_;cases h2:bx r j i with
    | false =>
     simp only[am,aK,bF hj];refine nx cX (()) hj (ji iW (by rw[h2,PY])) ?_ ?_ ?_
     all_goals simp[bT,aj,am,bd]
    | true =>
     simp only[am,aK];refine aC ?_;simp[V.erase,aQ h1 h2]
  .rintro x iW;simp only[bT,aj,am,aK,cy,Nat.reduceEqDiff,aK,reduceCtorEq,Rl.ak,bF hi];exact nx aW (()) hi (ji hJ iW)
 .rintro x hJ;have hA:uA r=true:=by
   simp only[uA,lO,lP,w8];exact hJ
  simp only[hF,aj,am,Rl.ak];refine cl (mm r Z) ?_;simp only[am,aK,Rl.ak,cy];refine cl (Wu r Z) ?_;simp only[am];refine aC ?_;simp[V.erase,vf,hA]
def agW:aR prog 242 (sq [rg 4 [oz 4,oz 2],sq [rg 6 [om 0,nB .lss 1,gB,om 0,nB .gtr 64,gZ,gB,om 1,nB .lss 0,gZ,gB,om 1,om 0,nb .geq 17,gZ],cr 20 4 [oz 4,oz 2]],rg 21 [om 1,oC 265 [21],o1 4,oV 5 (.bool aa)],.ret]) [.tmp 4,.tmp 5] 23:=aS func242
def ahg:aR prog 263 (sq [rg 2 [ox 1 65 0,oz 2],rg 3 [fo 0 1,nB .geq 1,gA,fo 0 1,nB .leq 8,gZ,gA,ol 65 1,oC 192 [12],gZ,o1 2],.ret]) [.tmp 2] 15:=aS func263
def ahh:aR prog 264 (sq [rg 6 [ox 3 65 0,oz 4],rg 7 [oz 6],sq [rg 11 [ol 65 3,oC 263 [11],nn,gB,om 1,nB .lss 0,gZ,gB,om 1,fo 0 3,nb .geq 19,gZ],cr 23 6 [oz 4]],sq [rg 8 [oi 0],bl 0 (sq [sq [rg 24 [om 8,fo 0 3,nb .lss 24],cx 27 0],.block 1 (sq [rg 9 [oz 2],sq [rg 10 [oi 0],bl 2 (sq [sq [rg 30 [om 10,fo 0 3,nb .lss 30],cx 33 2],.block 3 (sq [rg 36 [om 2,om 10,oC 276 [36,37],gA,ol 65 3,om 10,om 8,oC 191 [40,41,42],gZ],ci 44 (rg 9 [oq (.mv (.c (.bool aa)))])]),rg 34 [ic 10]])],rg 45 [om 9,nn],ci 46 (rg 47 [om 7,om 1,oq (.dV .mul (.c (.int .i64 8)) (.s 48)),om 8,nb .add 49,n1 1,na 1 47,o1 7])]),rg 28 [ic 8]])],dg 54 [mM [1],ol 65 3,om 7,oC 193 [55],oC 277 [54,56],o1 6],.ret]) [.tmp 6] 58:=aS func264
def ahv:aR prog 277 (sq [rg 4 [ox 2 65 0,oz 4],rg 5 [oz 6],sq [rg 8 [ol 65 2,oC 263 [8],nn],cr 10 4 [oz 4]],sq [rg 6 [oi 0],bl 0 (sq [sq [rg 11 [om 6,fo 0 2,nb .lss 11],cx 14 0],.block 1 (sq [rg 7 [oi 0],bl 2 (sq [sq [rg 17 [om 7,fo 0 2,nb .lss 17],cx 20 2],.block 3 (sq [rg 23 [ol 65 2,om 1,om 6,om 7,oC 282 [23,24,25,26]],ci 27 (rg 28 [om 5,om 6,oq (.dV .mul (.c (.int .i64 8)) (.s 29)),om 7,nb .add 30,n1 1,na 1 28,o1 5])]),rg 21 [ic 7]])]),rg 15 [ic 6]])],rg 35 [om 5,oC 193 [35],o1 4],.ret]) [.tmp 4] 37:=aS func277
def ahB:aR prog 282 (sq [rg 8 [ox 4 65 0,oz 2],sq [rg 9 [oi 0],bl 0 (sq [sq [rg 11 [om 9,fo 0 4,nb .lss 11],cx 14 0],.block 1 (sq [rg 10 [oi 0],bl 2 (sq [sq [rg 17 [om 10,fo 0 4,nb .lss 17],cx 20 2],.block 3 (sq [rg 23 [ol 65 4,om 1,om 9,om 10,oC 283 [23,24,25,26],gA,ol 65 4,om 2,om 9,oC 191 [29,30,31],gZ,gA,ol 65 4,om 3,om 10,oC 191 [35,36,37],gZ],cr 39 8 [oq (.mv (.c (.bool aa)))]]),rg 21 [ic 10]])]),rg 15 [ic 9]])],rg 8 [oz 2],.ret]) [.tmp 8] 40:=aS func282
def ahC:aR prog 283 (sq [rg 8 [ox 4 65 0,oz 2],rg 9 [om 2,nB .geq 0,gA,om 3,nB .geq 0,gZ,gA,om 2,fo 0 4,nb .lss 16,gZ,gA,om 3,fo 0 4,nb .lss 22,gZ,gA,om 1,om 2,oq (.dV .mul (.c (.int .i64 8)) (.s 29)),om 3,nb .add 30,oC 276 [28,32],gZ,o1 8],.ret]) [.tmp 8] 35:=aS func283
def BV(p:bu × Bool):V:=.bz [.int .u64 (p.1.toNat:Nat),.bool p.2]
def aqb(n k:Int)(Z:ab):aT 242 [.int .i64 n,.int .i64 k] Z (BV (s5 n k)):=by
 refine agW.aP ?_;simp only[aO,am,aX,Nat.reduceAdd,r5];have aQ:¬(1<=n/\n<=64/\0<=k/\k<n)->s5 n k=(0#64,aq):=λh=>by rw[s5,aw h]
 by_cases h1:n<1
 .simp only[am,aB h1];refine aC ?_;simp[V.erase,aZ,BV,aQ (by omega)]
 .simp only[am,az h1]
  by_cases h2:64<n
  .simp only[am,aB h2];refine aC ?_;simp[V.erase,aZ,BV,aQ (by omega)]
  .simp only[am,az h2]
   by_cases h3:k<0
   .simp only[am,aB h3];refine aC ?_;simp[V.erase,aZ,BV,aQ (by omega)]
   .simp only[am,az h3]
    by_cases h4:n<=k
    .simp only[am,aB h4];refine aC ?_;simp[V.erase,aZ,BV,aQ (by omega)]
    .simp only[am,az h4];refine cl (aqL k Z) ?_;have e:s5 n k=(iU k,aa):=by rw[s5,aI (by omega)]
     simp only[am];refine aC ?_;simp[V.erase,aZ,BV,e]
def Om(r:Rl)(Z:ab):aT 263 [.agg r.enc] Z (.bool (jT r)):=by
 refine ahg.aP ?_;simp only[aO,am,aX,Nat.reduceAdd,Rl.ak]
 by_cases h:1<=r.n
 .simp only[am,Rl.ak,aB h]
  by_cases h2:r.n<=8
  .simp only[am,Rl.ak,aB h2];refine cl (Wu r Z) ?_;simp only[am];refine aC ?_;simp[V.erase,jT,h,h2]
  .simp only[am,az h2];refine aC ?_;simp[V.erase,jT,h2]
 .simp only[am,az h];refine aC ?_;simp[V.erase,jT,h]
def aoQ(r:Rl)(n:Nat)(hn:r.n=n)(w:bu)(o x:Nat)(ho:o<64)(hx:x<64)(Z:ab):aT 283 [.agg r.enc,.int .u64 (w.toNat:Nat),.int .i64 (o:Nat),.int .i64 (x:Nat)] Z (.bool (decide (o<n)&&(decide (x<n)&&w.getLsbD (8*o+x)))):=by
 refine ahC.aP ?_;simp only[aO,am,aX,Nat.reduceAdd,Rl.ak];simp only[am,Rl.ak,Vi,hn]
 by_cases h1:o<n
 .simp only[am,Rl.ak,ca h1,hn]
  by_cases h2:x<n
  .simp only[am,ca h2];rw[wrap_i64 (x:=8*((o:Nat):Int)),wrap_i64 (x:=8*((o:Nat):Int)+(x:Nat)),show 8*((o:Nat):Int)+(x:Nat)=((8*o+x:Nat):Int) by omega];refine cl (WA w ((8*o+x:Nat):Int) Z) ?_;simp only[am,Hy];refine aC ?_;simp[V.erase,h1,h2]
  .simp only[am,az (show ¬(x:Int)<(n:Nat) by omega)];refine aC ?_;simp[V.erase,h2]
 .simp only[am,az (show ¬(o:Int)<(n:Nat) by omega)];refine aC ?_;simp[V.erase,h1]
def aiH(r:Rl)(hg:jT r=aa)(w:bu)(o x:Nat)(Z:ab):aT 282 [.agg r.enc,.int .u64 (w.toNat:Nat),.int .i64 (o:Nat),.int .i64 (x:Nat)] Z (.bool (uL r w o x)):=by
 refine ahB.aP ?_;simp only[aO,am,aX,Nat.reduceAdd,Rl.ak];obtain⟨n,hn,hp,h1,h8⟩:=v_ hg;have hf:uL r w o x=(bG n).any λp=>(bG n).any λy=>w.getLsbD (8*p+y)&&(bx r o p&&bx r x y):=by rw[uL,hn];rfl
 refine ct (n) (λp (z:Unit)=>⟨[.any,.int .u64 (w.toNat:Nat),.int .i64 (o:Nat),.int .i64 (x:Nat),.ptr (.au 0) 0,.any,.any,.any,.any,.int .i64 (p:Nat)]++aj 30 .any,[r.enc],Z⟩) (λp z=>(∀p',p' < p->∀y,y<n->(w.getLsbD (8*p' + y)&&(bx r o p' && bx r x y))=aq)) λF hF JF aW=>⟨?_,?_,?_⟩
 .exact en aW (()) (by intro k h;omega)
 .rintro p z hi hJ;simp only[hF,aj,am,ca hi,Rl.ak,hn];refine ct (n) (λy (z:Unit)=>⟨[.any,.int .u64 (w.toNat:Nat),.int .i64 (o:Nat),.int .i64 (x:Nat),.ptr (.au 0) 0,.any,.any,.any,.any,.int .i64 (p:Nat),.int .i64 (y:Nat)]++aj 29 .any,[r.enc],Z⟩) (λy z=>(∀y',y' < y->(w.getLsbD (8*p+y')&&(bx r o p&&bx r x y'))=aq)) λF2 bT mE cX=>⟨?_,?_,?_⟩
  .refine en cX (()) (by intro k h;omega) ?_ ?_ ?_
   all_goals simp[bT,aj,am,bd]
  .rintro y z hj iW;simp only[bT,aj,am,ca hj,Rl.ak,hn];refine cl (aoQ r n hn w p y (by omega) (by omega) Z) ?_;cases ha:w.getLsbD (8*p+y) with
   | false =>
    simp only[am,aK,aB hi,aB hj,bF hj];refine nx cX (()) hj (ji iW (by rw[ha];rfl)) ?_ ?_ ?_
    all_goals simp[bT,aj,am,bd]
   | true =>
    simp only[am,Rl.ak,aB hi,aB hj];refine cl (nK r o p Z) ?_;cases hb:bx r o p with
    | false =>
     simp only[am,aK,bF hj];refine nx cX (()) hj (ji iW (by rw[hb];simp)) ?_ ?_ ?_
     all_goals simp[bT,aj,am,bd]
    | true =>
     simp only[am,Rl.ak];refine cl (nK r x y Z) ?_;cases hc:bx r x y with
     | false =>
      simp only[am,aK,bF hj];refine nx cX (()) hj (ji iW (by rw[hc];simp)) ?_ ?_ ?_
      all_goals simp[bT,aj,am,bd]
     | true =>
      have:uL r w o x=true:=by
       rw[SF hg];exact⟨p,y,hb,hc,ha⟩
      simp only[am,aK];refine aC ?_;simp[V.erase,this]
  .rintro z iW;simp only[bT,aj,am,aK,cy,Nat.reduceEqDiff,aK,reduceCtorEq,Rl.ak,hn,bF hi];exact nx aW (()) hi (ji hJ iW)
 .rintro z hJ
  have:uL r w o x=false:=by
   rw[hf,D8];intro p hp;rw[JC,D8];intro y hy;rw[hJ p (by simpa using hp) y (by simpa using hy)];simp
  simp only[hF,aj,am,aK,cy,aK,Rl.ak,hn];refine aC ?_;simp[V.erase,this]
def aqc(r:Rl)(w:bu)(Z:ab):aT 277 [.agg r.enc,.int .u64 (w.toNat:Nat)] Z (.int .u64 ((uE r w).toNat:Nat)):=by
 refine ahv.aP ?_;simp only[aO,r9,Nat.reduceAdd];refine cl (Om r Z) ?_;cases hg:jT r with
 | false =>
  simp only[am];refine aC ?_;simp[V.erase,uE,hg]
 | true =>
  obtain⟨n,hn,hp,h1,h8⟩:=v_ hg;simp only[am];refine ct (n) (λo (z:Tk × ab)=>⟨[.any,.int .u64 (w.toNat:Nat),.ptr (.au 0) 0,.any,.any,.sl z.1 1 (cg (np r w o)),.int .i64 (o:Nat)]++aj 30 .any,[r.enc],z.2⟩) (λo z=>(Gr Z z.2 z.1 (np r w o).length)) λF hF JF aW=>⟨?_,?_,?_⟩
  .refine en aW ((.a9,Z)) (Gr.nil) ?_ ?_ ?_
   all_goals simp[hF,aj,am,bd,np,cg]
  .rintro o ⟨tk,bR⟩ hi hG;simp only at hG;have xH:=@S2 r w o;rw[hn,gK] at xH;have aj2:o*n<=8*8:=GF (by omega) h8;simp only[hF,aj,am,ca hi,Rl.ak,hn];refine ct (n) (λx (z:Tk × ab)=>⟨[.any,.int .u64 (w.toNat:Nat),.ptr (.au 0) 0,.any,.any,.sl z.1 1 (cg (np r w o++qY r w o x)),.int .i64 (o:Nat),.int .i64 (x:Nat)]++aj 29 .any,[r.enc],z.2⟩) (λx z=>(Gr Z z.2 z.1 (np r w o++qY r w o x).length)) λF2 bT mE cX=>⟨?_,?_,?_⟩
   .refine en cX ((tk,bR)) (by simpa [qY] using hG) ?_ ?_ ?_
    all_goals simp[bT,aj,am,bd,qY]
   .rintro x ⟨tk,bR⟩ hj hG;simp only at hG;have fH:=@WK r w o x;simp only[bT,aj,am,ca hj,Rl.ak,hn];refine(aiH r hg w o x bR).mono ?_;rintro v bR ⟨rfl,rfl⟩;cases hb:uL r w o x with
    | false =>
     simp only[am,aK,bF hj];refine nx cX ((tk,bR)) hj (by simpa [OC,hb] using hG) ?_ ?_ ?_
     all_goals simp[bT,aj,am,bd,OC,hb]
    | true =>
     simp only[am];rw[wrap_i64 (x:=8*((o:Nat):Int)),wrap_i64 (x:=8*((o:Nat):Int)+(x:Nat)),show 8*((o:Nat):Int)+(x:Nat)=((8*o+x:Nat):Int) by omega];refine Gr.app (by simpa [cg] using hG) (by simp[cg,aJ];omega) λfK σ' jA _ _=>?_
     have e:cg (np r w o++qY r w o (x+1))=cg (np r w o++qY r w o x)++[[.int .i64 ((8*o+x:Nat):Int)]]:=by
      rw[OC,hb,aI rfl,<-fP,Fk]
     simp only[am,aK,bF hj];refine nx cX ((fK,σ')) hj (by rw[<-tW,e];exact jA) ?_ ?_ ?_
     all_goals simp[bT,aj,am,bd,e]
   .rintro⟨tk,bR⟩ hG;simp only at hG;simp only[bT,aj,am,aK,cy,Nat.reduceEqDiff,aK,reduceCtorEq,Rl.ak,hn,bF hi];have e:np r w (o+1)=np r w o++qY r w o n:=by rw[S3,hn];rfl
    refine nx aW ((tk,bR)) hi (by rw[e];exact hG) ?_ ?_ ?_
    all_goals simp[hF,aj,am,bd,e]
  .rintro⟨tk,bR⟩ hG;simp only at hG;have xH:=@S2 r w n;rw[hn,gK] at xH;have aj2:n*n<=8*8:=GF h8 h8;simp only[hF,aj,am,aK,cy,aK,Rl.ak,hn];refine cF.cY (as' := [.sl .no 1 (cg (np r w n))]) ?_ ⟨dr.no,trivial⟩ br.rfl;refine(zN _ bR (by omega)).mono ?_;rintro v bR ⟨rfl,rfl⟩;have e:fC (np r w n)=uE r w:=by have:=aju (w:=w) hg;rwa [hn,gK] at this
   simp only[am,e];exact aN rfl hG.sub ⟨rfl,rfl⟩
def aqd(r:Rl)(o:Nat)(d:bu)(Z:ab):aT 264 [.agg r.enc,.int .i64 (o:Nat),.int .u64 (d.toNat:Nat)] Z (.int .u64 ((s4 r o d).toNat:Nat)):=by
 refine ahh.aP ?_;simp only[aO,r9,Nat.reduceAdd];refine cl (Om r Z) ?_;cases hg:jT r with
 | false =>
  simp only[am];refine aC ?_;simp[V.erase,s4,hg]
 | true =>
  obtain⟨n,hn,hp,h1,h8⟩:=v_ hg;simp only[am,Rl.ak,az (show ¬(o:Int)<0 by omega),hn]
  by_cases ho:n<=o
  .simp only[am,aB (show(n:Int)<=(o:Nat) by omega)];have e:s4 r o d=0#64:=by rw[s4,hg,hn,az (by omega)];rfl
   refine aC ?_;simp[V.erase,e]
  .simp only[am,az (show ¬(n:Int)<=(o:Nat) by omega)];refine ct (n) (λx (z:Tk × ab)=>⟨[.any,.int .i64 (o:Nat),.int .u64 (d.toNat:Nat),.ptr (.au 0) 0,.any,.any,.any,.sl z.1 1 (cg (qm r o d x)),.int .i64 (x:Nat)]++aj 49 .any,[r.enc],z.2⟩) (λx z=>(Gr Z z.2 z.1 (qm r o d x).length)) λF hF JF aW=>⟨?_,?_,?_⟩
   .refine en aW ((.a9,Z)) (Gr.nil) ?_ ?_ ?_
    all_goals simp[hF,aj,am,bd,qm,cg]
   .rintro x ⟨tk,bR⟩ hi hG;simp only at hG;have fH:=@W0 r o d x;simp only[hF,aj,am,ca hi,Rl.ak,hn];refine ct (n) (λy (z:Unit)=>⟨[.any,.int .i64 (o:Nat),.int .u64 (d.toNat:Nat),.ptr (.au 0) 0,.any,.any,.any,.sl tk 1 (cg (qm r o d x)),.int .i64 (x:Nat),.bool ((bG y).any λy=>d.getLsbD y&&bx r y x),.int .i64 (y:Nat)]++aj 47 .any,[r.enc],bR⟩) (λy z=>(True)) λF2 bT mE cX=>⟨?_,?_,?_⟩
    .refine en cX (()) (trivial) ?_ ?_ ?_
     all_goals simp[bT,aj,am,bd]
    .rintro y z hj -;simp only[bT,aj,am,ca hj,Rl.ak,hn];refine(WA d (y:Nat) bR).mono ?_;rintro v bR ⟨rfl,rfl⟩;cases ha:d.getLsbD y with
     | false =>
      simp only[am,aK,Hy,ha,bF hj];refine nx cX (()) hj (trivial) ?_ ?_ ?_
      all_goals simp[bT,aj,am,bd,ga,ha]
     | true =>
      simp only[am,Rl.ak,Hy,ha];refine(nK r y x bR).mono ?_;rintro v bR ⟨rfl,rfl⟩;cases hb:bx r y x with
      | false =>
       simp only[am,aK,bF hj];refine nx cX (()) hj (trivial) ?_ ?_ ?_
       all_goals simp[bT,aj,am,bd,ga,hb]
      | true =>
       simp only[am,aK,bF hj];refine nx cX (()) hj (trivial) ?_ ?_ ?_
       all_goals simp[bT,aj,am,bd,ga,ha,hb]
    .rintro z -;simp only[bT,aj,am,aK,cy,Nat.reduceEqDiff,aK,reduceCtorEq,Rl.ak,hn];cases hb:(bG n).any λy=>d.getLsbD y&&bx r y x with
     | true =>
      have hb:u_ r d x=true:=by rw[u_,hn];exact hb
      simp only[am,aK,bF hi];refine nx aW ((tk,bR)) hi (by simpa [OI,hb] using hG) ?_ ?_ ?_
      all_goals simp[hF,aj,am,bd,OI,hb]
     | false =>
      have hb:u_ r d x=false:=by rw[u_,hn];exact hb
      simp only[am];rw[wrap_i64 (x:=8*((o:Nat):Int)),wrap_i64 (x:=8*((o:Nat):Int)+(x:Nat)),show 8*((o:Nat):Int)+(x:Nat)=((8*o+x:Nat):Int) by omega];refine Gr.app (by simpa [cg] using hG) (by simp[cg,aJ];omega) λfK σ' jA _ _=>?_
      have e:cg (qm r o d (x+1))=cg (qm r o d x)++[[.int .i64 ((8*o+x:Nat):Int)]]:=by
       rw[OI,hb,<-Fk];rfl
      simp only[am,aK,bF hi];refine nx aW ((fK,σ')) hi (by rw[<-tW,e];exact jA) ?_ ?_ ?_
      all_goals simp[hF,aj,am,bd,e]
   .rintro⟨tk,bR⟩ hG;simp only at hG;have fH:=@W0 r o d n;have e:fC (qm r o d n)=wQ n λk=>if k=o then sQ r d else 0#64:=by
     have:=arA (d:=d) (o:=o) hg (by rw[hn,gK];omega);rwa [hn,gK] at this
    have e2:s4 r o d=uE r (fC (qm r o d n)):=by rw[e,s4,hg,hn,aB (show(o:Int)<(n:Nat) by omega)];rfl
    simp only[hF,aj,am,aK,cy,aK,Rl.ak,hn];refine bA.intro (cF.cY (as' := [.sl .no 1 (cg (qm r o d n))]) (zN _ bR (by omega)) ⟨dr.no,trivial⟩ br.rfl) ?_;simp only[am,Rl.ak];refine bA.intro (aqc r _ bR) ?_;simp only[am,Rl.ak];rw[<-e2];exact aN rfl hG.sub ⟨rfl,rfl⟩
def aij:aR prog 75 (sq [rg 2 [ox 1 65 0,oz 2],sq [rg 9 [fo 0 1,nB .lss 1,gB,fo 0 1,nB .gtr 64,gZ,gB,ol 65 1,oC 139 [18],nn,gZ],cr 21 2 [oz 2]],sq [rg 3 [oi 0],bl 0 (sq [sq [rg 22 [om 3,fo 0 1,nb .lss 22],cx 25 0],.block 1 (sq [rg 4 [oi 0],bl 2 (sq [sq [rg 28 [om 4,om 3,nb .lss 28],cx 30 2],.block 3 (sq [rg 34 [ol 65 1,om 3,om 4,oC 140 [34,35,36],o1 33,oe 33 0,oe 33 1,ot 5 38,o1 6],rg 41 [ol 65 1,om 3,om 4,oC 141 [41,42,43],o1 40,oe 40 0,oe 40 1,ot 7 45,o1 8],rg 47 [om 6,nn,gB,om 8,nn,gZ],cr 52 2 [oz 2]]),rg 31 [ic 4]])]),rg 26 [ic 3]])],rg 2 [oq (.mv (.c (.bool aa)))],.ret]) [.tmp 2] 53:=aS func75
def aff:aR prog 140 (sq [rg 6 [ox 3 65 0,oi 0,oz 2],sq [rg 8 [oi 0],bl 0 (sq [sq [rg 11 [om 8,ol 65 3,oC 190 [12],nb .lss 11],cx 14 0],.block 1 (sq [rg 17 [ol 65 3,om 1,om 8,oC 191 [17,18,19],gA,ol 65 3,om 2,om 8,oC 191 [22,23,24],gZ,o1 9],sq [rg 10 [oi 0],bl 2 (sq [sq [rg 27 [om 10,ol 65 3,oC 190 [28],nb .lss 27],cx 30 2],.block 3 (sq [rg 33 [ol 65 3,om 1,om 10,oC 191 [33,34,35],gA,ol 65 3,om 2,om 10,oC 191 [38,39,40],gZ,gA,ol 65 3,om 8,om 10,oC 191 [44,45,46],nn,gZ],ci 49 (rg 9 [oz 2])]),rg 31 [ic 10]])],rg 50 [om 9],cr 50 6 [ot 51 8,om 51,oq (.mv (.c (.bool aa)))]]),rg 15 [ic 8]])],rg 6 [oi 0,oz 2],.ret]) [.tmp 6,.tmp 7] 52:=aS func140
def afg:aR prog 141 (sq [rg 6 [ox 3 65 0,oi 0,oz 2],sq [rg 8 [oi 0],bl 0 (sq [sq [rg 11 [om 8,ol 65 3,oC 190 [12],nb .lss 11],cx 14 0],.block 1 (sq [rg 17 [ol 65 3,om 8,om 1,oC 191 [17,18,19],gA,ol 65 3,om 8,om 2,oC 191 [22,23,24],gZ,o1 9],sq [rg 10 [oi 0],bl 2 (sq [sq [rg 27 [om 10,ol 65 3,oC 190 [28],nb .lss 27],cx 30 2],.block 3 (sq [rg 33 [ol 65 3,om 10,om 1,oC 191 [33,34,35],gA,ol 65 3,om 10,om 2,oC 191 [38,39,40],gZ,gA,ol 65 3,om 10,om 8,oC 191 [44,45,46],nn,gZ],ci 49 (rg 9 [oz 2])]),rg 31 [ic 10]])],rg 50 [om 9],cr 50 6 [ot 51 8,om 51,oq (.mv (.c (.bool aa)))]]),rg 15 [ic 8]])],rg 6 [oi 0,oz 2],.ret]) [.tmp 6,.tmp 7] 52:=aS func141
def agV:aR prog 241 (sq [rg 4 [ox 2 65 0,oz 4],rg 5 [oz 6],sq [rg 6 [oi 0],bl 0 (sq [sq [rg 7 [nm,ol 65 2,oC 190 [8],nb .lss 7],cx 10 0],.block 1 (sq [rg 13 [ol 65 2,om 6,om 1,oC 191 [13,14,15]],ci 16 (rg 17 [om 5,om 6,n1 1,na 1 17,o1 5])]),rg 11 [ic 6]])],rg 21 [om 5,oC 193 [21],o1 4],.ret]) [.tmp 4] 23:=aS func241
def aqZ(r:Rl)(i j:Nat)(Z:ab):aT 140 [.agg r.enc,.int .i64 (i:Nat),.int .i64 (j:Nat)] Z (pb (pY r i j)):=by
 refine aff.aP ?_;simp only[aO,am,aX,Nat.reduceAdd,Rl.ak];rw[ak1];generalize hg:(λu=>(bx r i u&&bx r j u)&&(bG (bm r)).all λv=>!(bx r i v&&bx r j v&&!bx r u v))=g;have hg:∀u,((bx r i u&&bx r j u)&&(bG (bm r)).all λv=>!(bx r i v&&bx r j v&&!bx r u v))=g u:=λu=>by rw[<-hg]
 have hp:=@jc r;refine ct (bm r) (λu (x:Unit)=>⟨[.agg r.enc,.int .i64 (i:Nat),.int .i64 (j:Nat),.ptr (.au 0) 0,.any,.any,.any,.any,.int .i64 (u:Nat)]++aj 43 .any,[r.enc],Z⟩) (λu x=>(∀k,k<u->g k=aq)) λF hF JF aW=>⟨?_,?_,?_⟩
 .exact en aW (()) (by intro k h;omega)
 .rintro u x hi hJ;simp only[hF,aj,am,Rl.ak];refine cl (mm r Z) ?_;simp only[am,Rl.ak,ca hi];refine cl (nK r i u Z) ?_
  rcases YM (bx r i u) with hb | hb
  all_goals simp only[am,Rl.ak,hb]
  case' inl =>
   refine cl (nK r j u Z) ?_;simp only[am]
  all_goals
   refine ct (bm r) (λv (x:Unit)=>⟨[.agg r.enc,.int .i64 (i:Nat),.int .i64 (j:Nat),.ptr (.au 0) 0,.any,.any,.any,.any,.int .i64 (u:Nat),.bool ((bx r i u&&bx r j u)&&(bG v).all λv=>!(bx r i v&&bx r j v&&!bx r u v)),.int .i64 (v:Nat)]++aj 41 .any,[r.enc],Z⟩) (λv x=>(True)) λF2 bT mE cX=>⟨?_,?_,?_⟩
   .refine en cX (()) (trivial) ?_ ?_ ?_
    all_goals simp[bT,aj,am,bd,hb]
   .rintro v x hj -;simp only[bT,aj,am,Rl.ak];refine cl (mm r Z) ?_;simp only[am,Rl.ak,ca hj];refine cl (nK r i v Z) ?_;cases h1:bx r i v with
    | false =>
     simp only[am,aK,bF hj];refine nx cX (()) hj (trivial) ?_ ?_ ?_
     all_goals simp[bT,aj,am,bd,ga,h1]
    | true =>
     simp only[am,Rl.ak];refine cl (nK r j v Z) ?_;cases h2:bx r j v with
     | false =>
      simp only[am,aK,bF hj];refine nx cX (()) hj (trivial) ?_ ?_ ?_
      all_goals simp[bT,aj,am,bd,ga,h2]
     | true =>
      simp only[am,Rl.ak];refine cl (nK r u v Z) ?_;cases h3:bx r u v with
      | false =>
       simp only[am,aK,bF hj];refine nx cX (()) hj (trivial) ?_ ?_ ?_
       all_goals simp[bT,aj,am,bd,ga,h1,h2,h3]
      | true =>
       simp only[am,aK,bF hj];refine nx cX (()) hj (trivial) ?_ ?_ ?_
       all_goals simp[bT,aj,am,bd,ga,h1,h2,h3]
   .rintro x -;simp only[bT,aj,am,Rl.ak];refine cl (mm r Z) ?_;simp only[am,Nat.reduceEqDiff,aK,reduceCtorEq,cy,hg];cases h:g u with
    | true =>
     have e:(bG (bm r)).find? g=U u:=AL hi hJ h;simp only[am,aK];refine aC ?_;simp[V.erase,aZ,pb,e]
    | false =>
     simp only[am,aK,bF hi];exact nx aW (()) hi (ji hJ h)
 .rintro x hJ;have e:(bG (bm r)).find? g=none:=AM hJ;simp only[hF,aj,am,Rl.ak];refine cl (mm r Z) ?_;simp only[am,aK,cy];refine aC ?_;simp[V.erase,aZ,pb,e]
def aq2(r:Rl)(i j:Nat)(Z:ab):aT 141 [.agg r.enc,.int .i64 (i:Nat),.int .i64 (j:Nat)] Z (pb (qQ r i j)):=by
 refine afg.aP ?_;simp only[aO,am,aX,Nat.reduceAdd,Rl.ak];rw[amW];generalize hg:(λu=>(bx r u i&&bx r u j)&&(bG (bm r)).all λv=>!(bx r v i&&bx r v j&&!bx r v u))=g;have hg:∀u,((bx r u i&&bx r u j)&&(bG (bm r)).all λv=>!(bx r v i&&bx r v j&&!bx r v u))=g u:=λu=>by rw[<-hg]
 have hp:=@jc r;refine ct (bm r) (λu (x:Unit)=>⟨[.agg r.enc,.int .i64 (i:Nat),.int .i64 (j:Nat),.ptr (.au 0) 0,.any,.any,.any,.any,.int .i64 (u:Nat)]++aj 43 .any,[r.enc],Z⟩) (λu x=>(∀k,k<u->g k=aq)) λF hF JF aW=>⟨?_,?_,?_⟩
 .exact en aW (()) (by intro k h;omega)
 .rintro u x hi hJ;simp only[hF,aj,am,Rl.ak];refine cl (mm r Z) ?_;simp only[am,Rl.ak,ca hi];refine cl (nK r u i Z) ?_
  rcases YM (bx r u i) with hb | hb
  all_goals simp only[am,Rl.ak,hb]
  case' inl =>
   refine cl (nK r u j Z) ?_;simp only[am]
  all_goals
   refine ct (bm r) (λv (x:Unit)=>⟨[.agg r.enc,.int .i64 (i:Nat),.int .i64 (j:Nat),.ptr (.au 0) 0,.any,.any,.any,.any,.int .i64 (u:Nat),.bool ((bx r u i&&bx r u j)&&(bG v).all λv=>!(bx r v i&&bx r v j&&!bx r v u)),.int .i64 (v:Nat)]++aj 41 .any,[r.enc],Z⟩) (λv x=>(True)) λF2 bT mE cX=>⟨?_,?_,?_⟩
   .refine en cX (()) (trivial) ?_ ?_ ?_
    all_goals simp[bT,aj,am,bd,hb]
   .rintro v x hj -;simp only[bT,aj,am,Rl.ak];refine cl (mm r Z) ?_;simp only[am,Rl.ak,ca hj];refine cl (nK r v i Z) ?_;cases h1:bx r v i with
    | false =>
     simp only[am,aK,bF hj];refine nx cX (()) hj (trivial) ?_ ?_ ?_
     all_goals simp[bT,aj,am,bd,ga,h1]
    | true =>
     simp only[am,Rl.ak];refine cl (nK r v j Z) ?_;cases h2:bx r v j with
     | false =>
      simp only[am,aK,bF hj];refine nx cX (()) hj (trivial) ?_ ?_ ?_
      all_goals simp[bT,aj,am,bd,ga,h2]
     | true =>
      simp only[am,Rl.ak];refine cl (nK r v u Z) ?_;cases h3:bx r v u with
      | false =>
       simp only[am,aK,bF hj];refine nx cX (()) hj (trivial) ?_ ?_ ?_
       all_goals simp[bT,aj,am,bd,ga,h1,h2,h3]
      | true =>
       simp only[am,aK,bF hj];refine nx cX (()) hj (trivial) ?_ ?_ ?_
       all_goals simp[bT,aj,am,bd,ga,h1,h2,h3]
   .rintro x -;simp only[bT,aj,am,Rl.ak];refine cl (mm r Z) ?_;simp only[am,Nat.reduceEqDiff,aK,reduceCtorEq,cy,hg];cases h:g u with
    | true =>
     have e:(bG (bm r)).find? g=U u:=AL hi hJ h;simp only[am,aK];refine aC ?_;simp[V.erase,aZ,pb,e]
    | false =>
     simp only[am,aK,bF hi];exact nx aW (()) hi (ji hJ h)
 .rintro x hJ;have e:(bG (bm r)).find? g=none:=AM hJ;simp only[hF,aj,am,Rl.ak];refine cl (mm r Z) ?_;simp only[am,aK,cy];refine aC ?_;simp[V.erase,aZ,pb,e]
def auf{r:Rl}:fC (((bG (bm r)).filter λk=>bx r k i).map Int.ofNat)=rk r i:=by
 apply lZ;intro j hj;rw[qp,Vu hj,QV];simp only[D',lP];exact⟨λh=>h.2,λh=>⟨(kX h).1,h⟩⟩
def arR(r:Rl)(i:Nat)(Z:ab):aT 241 [.agg r.enc,.int .i64 (i:Nat)] Z (.int .u64 ((rk r i).toNat:Nat)):=by
 refine agV.aP ?_;simp only[aO,r9,Nat.reduceAdd];have hp:=@jc r;refine ct (bm r) (λk (x:Tk × ab)=>⟨[.agg r.enc,.int .i64 (i:Nat),.ptr (.au 0) 0,.any,.any,.sl x.1 1 (cg (((bG k).filter λk=>bx r k i).map Int.ofNat)),.int .i64 (k:Nat)]++aj 16 .any,[r.enc],x.2⟩) (λk x=>(Gr Z x.2 x.1 ((bG k).filter λk=>bx r k i).length)) λF hF JF aW=>⟨?_,?_,?_⟩
 .refine en aW ((.a9,Z)) (Gr.nil) ?_ ?_ ?_
  all_goals simp[hF,aj,am,bd,cg]
 .rintro k ⟨tk,bR⟩ hi hG;simp only at hG;have hlen:((bG k).filter λk=>bx r k i).length<=64:=by have:=Cb (λk=>bx r k i) (bG k);simp at this;omega
  simp only[hF,aj,am,Rl.ak];refine(mm r bR).mono ?_;rintro v bR ⟨rfl,rfl⟩;simp only[am,Rl.ak,ca hi];refine(nK r k i bR).mono ?_;rintro v bR ⟨rfl,rfl⟩;cases hb:bx r k i with
  | false =>
   simp only[am,aK,bF hi];refine nx aW ((tk,bR)) hi (by simpa [ga,hb] using hG) ?_ ?_ ?_
   all_goals simp[hF,aj,am,bd,ga,hb]
  | true =>
   simp only[am];refine Gr.app (by simpa [cg] using hG) (by simp[cg,aJ];omega) λfK σ' jA _ _=>?_
   simp only[am,aK,bF hi];refine nx aW ((fK,σ')) hi (by simpa [cg,ga,hb] using jA) ?_ ?_ ?_
   all_goals simp[hF,aj,am,bd,ga,hb,Fk]
 .rintro⟨tk,bR⟩ hG;simp only at hG;have hlen:((bG (bm r)).filter λk=>bx r k i).length<=64:=by have:=Cb (λk=>bx r k i) (bG (bm r));simp at this;omega
  simp only[hF,aj,am,Rl.ak];refine(mm r bR).mono ?_;rintro v bR ⟨rfl,rfl⟩;simp only[am,aK,cy];refine cF.cY (as' := [.sl .no 1 (cg (((bG (bm r)).filter λk=>bx r k i).map Int.ofNat))]) ?_ ⟨dr.no,trivial⟩ br.rfl;refine(zN _ bR (by rw[aD];omega)).mono ?_;rintro v bR ⟨rfl,rfl⟩;simp only[am,auf];exact aN rfl hG.sub ⟨rfl,rfl⟩
def WG(r:Rl)(Z:ab):aT 75 [.agg r.enc] Z (.bool (ky r)):=by
 refine aij.aP ?_;simp only[aO,am,aX,Nat.reduceAdd,Rl.ak]
 by_cases h1:r.n<1
 .simp only[am,aB h1];refine aC ?_;simp[V.erase,ky];omega
 .simp only[am,Rl.ak,az h1]
  by_cases h2:64<r.n
  .simp only[am,aB h2];refine aC ?_;simp[V.erase,ky];omega
  .simp only[am,Rl.ak,az h2];refine cl (aq7 r Z) ?_;obtain⟨n,hn⟩:∃n:Nat,r.n=n:=⟨r.n.toNat,by omega⟩;have hp:bm r=n:=by rw[bm,hn];omega
   cases ho:vf r with
   | false =>
    simp only[am];refine aC ?_;simp[V.erase,ky,ho]
   | true =>
    simp only[am];have mH:(∀i,i<n->∀j,j<i->((pY r i j).isSome&&(qQ r i j).isSome)=aa)->ky r=true:=λh=>by
     simp only[ky,ho,hn,gK,lO,lP,b_,eb,sa];exact⟨by omega,λi hi j hj=>by have:=h i hi j hj;simpa using this⟩
    have aQ:∀i j,i<n->j<i->((pY r i j).isSome&&(qQ r i j).isSome)=aq->ky r=false:=λi j hi hj h=>by
     cases hq:ky r with
     | false=>rfl
     | true =>
      simp only[ky,hn,gK,lO,lP,b_] at hq
      have:=hq.2 i hi j hj
      rw[this.1,this.2] at h;simp at h
    refine ct (n) (λi (x:Unit)=>⟨[.any,.ptr (.au 0) 0,.any,.int .i64 (i:Nat)]++aj 49 .any,[r.enc],Z⟩) (λi x=>(∀a,a<i->∀b,b<a->((pY r a b).isSome&&(qQ r a b).isSome)=aa)) λF hF JF aW=>⟨?_,?_,?_⟩
    .exact en aW (()) (by intro k h;omega)
    .rintro i x hi hJ;simp only[hF,aj,am,ca hi,Rl.ak,hn];refine ct (i) (λj (x:Unit)=>⟨[.any,.ptr (.au 0) 0,.any,.int .i64 (i:Nat),.int .i64 (j:Nat)]++aj 48 .any,[r.enc],Z⟩) (λj x=>(∀b,b<j->((pY r i b).isSome&&(qQ r i b).isSome)=aa)) λF2 bT mE cX=>⟨?_,?_,?_⟩
     .refine en cX (()) (by intro k h;omega) ?_ ?_ ?_
      all_goals simp[bT,aj,am,bd]
     .rintro j x hj iW;simp only[bT,aj,am,ca hj,Rl.ak];refine cl (aqZ r i j Z) ?_;simp only[am,Rl.ak,pb];refine cl (aq2 r i j Z) ?_;simp only[am,pb];cases ha:(pY r i j).isSome with
      | false =>
       simp only[am,aK];refine aC ?_;simp[V.erase,aQ i j hi hj (by rw[ha];rfl)]
      | true =>
       simp only[am];cases hb:(qQ r i j).isSome with
       | false =>
        simp only[am,aK];refine aC ?_;simp[V.erase,aQ i j hi hj (by rw[ha,hb];rfl)]
       | true =>
        simp only[am,aK,bF hj];refine nx cX (()) hj (ji iW (by rw[ha,hb];rfl)) ?_ ?_ ?_
        all_goals simp[bT,aj,am,bd]
     .rintro x iW;simp only[bT,aj,am,aK,cy,Nat.reduceEqDiff,aK,reduceCtorEq,bF hi];exact nx aW (()) hi (ji hJ iW)
    .rintro x hJ;simp only[hF,aj,am,aK,cy,aK,Rl.ak,hn];refine aC ?_;simp[V.erase,mH hJ]
def afw:aR prog 156 (sq [rg 2 [oz 2],rg 3 [mk 0,nf 3,nl 2,oW [0,0] [],oq (.kn aq [1,1] (.s 6) (.s 7)),o1 2],.ret]) [.tmp 2] 9:=aS func156
def agf:aR prog 204 (sq [rg 0 [oZ 2 [1,0]],rg 4 [om 0,oc 206 [.s 4,.c (.int .u8 97)],oZ 3 [3,1,0,10,0],o2 5 3],rg 6 [of 0 3,nF 1,of 0 3,nF 2,oW [1,0] [(0,1,8),(1,1,11)],o2 2 2],.ret]) [.cell 2 aa 2] 13:=aS func204
def agh:aR prog 205 (sq [rg 4 [oz 2],dg 5 [om 0,oC 156 [5],gA,mk 0,nF 1,nB .geq 0,gZ,gA,mk 0,nF 1,mk 0,nF 0,nL,nb .lss 18,gZ,gA,mk 0,nF 0,mk 0,nF 1,nA 5 30,nf 0,nF 0,om 1,nb .eql 38,gZ,o1 4],.ret]) [.tmp 4] 42:=aS func205
def agi:aR prog 206 (sq [rg 0 [oZ 4 [3,1,0,10,0]],sq [rg 5 [om 0,om 1,oC 205 [5,6],nn],ci 8 (sq [rg 9 [om 0,oC 243 [9]],rg 11 [oW [3,1,0,10,0] [],o2 5 4],.ret])],rg 12 [mk 0,nF 1,nB .add 1,ok 12,nf 1,os 1 18 16],dg 19 [mk 0,nF 0,mk 0,nF 1,nB .sub 1,nA 5 22,nl 5,o2 5 4],.ret]) [.cell 4 aa 5] 30:=aS func206
def agX:aR prog 243 (sq [sq [rg 2 [om 0,oC 156 [2],nn],ci 4 .ret],rg 5 [om 0,mk 0,nF 2,oG [0,0] [(0,1,.c (.int .i64 2)),(1,1,.s 9)],ok 5,nf 3,os 2 12 10],dg 13 [mk 0,nF 1,nB .geq 0,gA,mk 0,nF 1,mk 0,nF 0,nL,nb .lss 22,gZ],ci 29 (dg 30 [om 0,mk 0,nF 0,mk 0,nF 1,nA 5 34,nf 0,nF 2,ok 30,nf 3,nf 1,os 1 45 42])]) [] 46:=aS func243
variable{r:Nat}{rd:ag}
def x_(h:Z.box r=U rd.enc):aT 156 [.ptr (.out r) 0] Z (.bool rd.ok):=by
 refine afw.aP ?_;simp only[aO,aX,am,h,ag.enc];refine aN rfl (ab.bc _) ⟨?_,rfl⟩;cases hb:rd.aQ<;>simp[ag.ok,V.erase,hb,dn,fB]
def rV{k:Int}(h:Z.box r=U rd.enc):aT 205 [.ptr (.out r) 0,.int .u8 k] Z (.bool (rd.cD k)):=by
 refine agh.aP ?_;simp only[aO,aX,am];refine bA.intro (x_ h) ?_;simp only[am];cases cc:rd.ok
 .simp only[am];refine aN rfl (ab.bc _) ⟨?_,rfl⟩;simp[ag.cD,cc,V.erase]
 .simp only[am,h,ag.enc]
  by_cases h0:0<=rd.at_
  .simp only[am,h0,bL,h,ag.enc,dK]
   by_cases h1:rd.at_<rd.l.length
   .obtain⟨j,hj⟩:=vB h0;have gF : j<rd.l.length:=by omega
    simp only[am,h1,bL,h,ag.enc];refine mh h0 (c:=rd.l[j].enc) (by simp[nW,hj,gF]) ?_;simp only[am,cS];refine aN rfl (ab.bc _) ⟨?_,rfl⟩;simp[ag.cD,bf,V.erase,cc,hj,gF]
   .simp only[am,h1,c9];refine aN rfl (ab.bc _) ⟨?_,rfl⟩
    have:rd.l[rd.at_.toNat]?=none:=tm (by omega)
    simp[ag.cD,bf,V.erase,this]
  .simp only[am,h0,c9];refine aN rfl (ab.bc _) ⟨?_,rfl⟩;simp[ag.cD,bf,V.erase,h0]
def Sb(h:Z.box r=U rd.enc):d_ 243 [.ptr (.out r) 0] Z (.bz []) (Z.set r rd.fail.enc):=by
 refine agX.aP ?_;simp only[aO,aX,am];refine(x_ h).mono ?_;rintro v σ' ⟨rfl,rfl⟩;cases hb:rd.aQ with
 | some b =>
  simp only[am,ag.ok,hb,Option.isNone];refine aN rfl (ab.bc _) ⟨rfl,?_⟩;rw[ag.fail,hb];exact(ab.zS h).symm
 | none =>
  simp only[am,ag.ok,hb,Option.isNone,h,ag.enc,Nat.reduceAdd]
  by_cases h0:0<=rd.at_
  .simp only[am,h0,bL,dK]
   by_cases h1:rd.at_<rd.l.length
   .obtain⟨j,hj⟩:=vB h0;have gF : j<rd.l.length:=by omega
    simp only[am,h1,bL];refine mh h0 (c:=rd.l[j].enc) (by simp[nW,hj,gF]) ?_;simp only[am,cS,Nat.reduceAdd];refine aN rfl (ab.bc _) ⟨rfl,?_⟩;simp[ag.fail,ag.spot,hb,hj,gF,dn,fB]
   .simp only[am,h1,c9];refine aN rfl (ab.bc _) ⟨rfl,?_⟩
    have:rd.l[rd.at_.toNat]?=none:=tm (by omega)
    simp[ag.fail,ag.spot,hb,this,dn,fB]
  .simp only[am,h0,c9];refine aN rfl (ab.bc _) ⟨rfl,?_⟩;simp[ag.fail,ag.spot,hb,h0,dn,fB]
def ym{k:Int}(h:Z.box r=U rd.enc)(hb:rd.l.length<=aJ):d_ 206 [.ptr (.out r) 0,.int .u8 k] Z (.agg (rd.take k).1.enc) (Z.set r (rd.take k).2.enc):=by
 refine agi.aP ?_;simp only[aO,aX,am];refine(rV h).mono ?_;rintro v σ' ⟨rfl,rfl⟩;cases hs:rd.cD k
 .simp only[am];refine(Sb h).mono ?_;rintro v σ' ⟨rfl,rfl⟩;simp only[am];refine aN rfl (ab.bc _) ⟨?_,?_⟩
  .simp[ag.take,hs,V.erase,aZ,aA.zero,aA.enc,cm]
  .simp[ag.take,hs]
 .have dQ := hs;simp only[ag.cD,bf,b_,eb] at dQ;obtain⟨_,h0,hk⟩:=dQ;have h1:rd.at_.toNat<rd.l.length:=by
   cases hq:rd.l[rd.at_.toNat]? with
   | none=>rw[hq] at hk;simp at hk
   | some t=>exact(fw.1 hq).1
  simp only[aJ] at hb;simp only[am,h,ag.enc];rw[wrap_i64 (x:=rd.at_+1),wrap_i64 (x:=rd.at_+1 - 1)];refine ka (c:=rd.l[rd.at_.toNat].enc) (by rw[show(rd.at_+1 - 1).toNat=rd.at_.toNat by omega];simp[nW,h1]) ?_;simp only[am,cS];refine aN rfl (ab.bc _) ⟨?_,?_⟩
  .simp[ag.take,hs,V.erase,aZ,h1,gy]
  .simp[ag.take,hs]
def Ac(h:Z.box r=U rd.enc)(hb:rd.l.length<=aJ):d_ 204 [.ptr (.out r) 0] Z (.agg rd.word.1.enc) (Z.set r rd.word.2.enc):=by
 refine agf.aP ?_;simp only[aO,aX,am];refine(ym h hb).mono ?_;rintro v σ' ⟨rfl,rfl⟩;simp only[am,cS,Nat.reduceAdd];refine aN rfl (ab.bc _) ⟨?_,?_⟩
 .simp[ag.word,V.erase,aZ,aF.enc]
 .simp[ag.word]
def agd:aR prog 202 (sq [rg 4 [om 1,oq (.iV (.s 4) [])],bl 0 (sq [sq [rg 6 [om 0,oc 205 [.s 6,.c (.int .u8 44)]],cx 7 0],.block 1 (sq [rg 8 [om 0,oc 206 [.s 8,.c (.int .u8 44)]],rg 10 [om 1,oq (.iV (.s 10) [])]])])]) [] 12:=aS func202
structure Sys(Y:Type) where
 F:Y->ab
 rd:Y->ag
 set:Y->ag->Y
 step:Y->Y
def Sys.go{Y:Type}(S:Sys Y):Nat->Y->Y
 | 0,a=>a
 | n+1,a=>if (S.rd a).cD 44 then S.go n (S.step (S.set a ((S.rd a).take 44).2)) else a
def ar2{k:Int}(h:rd.cD k=aa):rd.aQ=ah/\0<=rd.at_/\rd.at_<rd.l.length:=by
 simp only[ag.cD,ag.ok,bf,b_,eb,Ed] at h;obtain⟨h1,h0,hk⟩:=h;refine⟨h1,h0,?_⟩;cases hq:rd.l[rd.at_.toNat]? with
 | none=>rw[hq] at hk;simp at hk
 | some t=>have:=(fw.1 hq).1;omega
variable{g:FuncId}
def O2{Y:Type}(S:Sys Y)(Inv:Y->Prop){cap:List V}(pS:bS cap=aa)
 (pN:∀a,Inv a->(S.F a).box r=U (S.rd a).enc) (hlen:∀a,Inv a->(S.rd a).l.length<=aJ)
 (nC:∀a,Inv a->(S.rd a).cD 44=aa->(S.F a).set r ((S.rd a).take 44).2.enc=S.F (S.set a ((S.rd a).take 44).2))
 (tS:∀a,Inv a->(S.rd a).cD 44=aa->cF prog g cap (S.F (S.set a ((S.rd a).take 44).2)) (λv σ' => v = .bz []/\σ' = S.F (S.step (S.set a ((S.rd a).take 44).2))) /\
   Inv (S.step (S.set a ((S.rd a).take 44).2))/\(S.rd (S.step (S.set a ((S.rd a).take 44).2))).l=(S.rd a).l/\(S.rd a).at_+1<=(S.rd (S.step (S.set a ((S.rd a).take 44).2))).at_)
 {a:Y} (h0:cF prog g cap (S.F a) (λv σ' => v = .bz []/\σ' = S.F (S.step a))) (hI:Inv (S.step a)) {n:Nat} (hn:(S.rd (S.step a)).l.length<=n) :
 d_ 202 [.ptr (.out r) 0,.fn (.func g) [] cap] (S.F a) (.bz []) (S.F (S.go n (S.step a))):=by
 refine agd.aP ?_;simp only[aO,aX,am,pS];refine h0.mono ?_;rintro v σ' ⟨rfl,rfl⟩;simp only[am]
 let I:{p:Y × Nat // Inv p.1/\((S.rd p.1).l.length:Int)<=max (S.rd p.1).at_ 0+p.2/\S.go p.2 p.1=S.go n (S.step a)}->St:=λp =>
  ⟨[.ptr (.out r) 0,.fn (.func g) [] cap]++aj 10 .any,[],S.F p.1.1⟩
 refine dP I (λp=>p.1.2) ?_ ?_
 .refine a7.enter ⟨(S.step a,n),hI,by simp only;omega,rfl⟩ ?_ bV.rfl br.rfl;simp[I,aj,am]
 .rintro⟨⟨b,m⟩,hb,hm,rE⟩;simp only[I,aj,am];simp only at hb hm rE;refine(rV (pN b hb)).mono ?_;rintro v σ' ⟨rfl,rfl⟩;cases hs:(S.rd b).cD 44
  .simp only[am];refine aN rfl (ab.bc _) ⟨rfl,?_⟩;rw[<-rE];cases m<;>simp[Sys.go,hs]
  .obtain⟨_,h1,h2⟩:=ar2 hs;simp only[am];refine(ym (pN b hb) (hlen b hb)).mono ?_;rintro v σ' ⟨rfl,rfl⟩;simp only[am,pS];obtain⟨k1,k2,k3,k4⟩:=tS b hb hs;rw[nC b hb hs];refine k1.mono ?_;rintro v σ' ⟨rfl,rfl⟩;simp only[am];cases m with
   | zero=>omega
   | succ m =>
    refine a7.again ⟨(S.step (S.set b ((S.rd b).take 44).2),m),k2,?_,?_⟩ (by simp) ?_ bV.rfl br.rfl
    .rw[k3];simp only;omega
    .rw[<-rE];simp[Sys.go,hs]
    .simp[am]
def agb:aR prog 200 (sq [rg 8 [oi 0],rg 11 [om 0,om 1,oC 206 [11,12],oZ 9 [3,1,0,10,0],o2 5 9],sq [rg 14 [om 0,oC 156 [14],nn],cr 16 8 [oi 0]],rg 17 [fo 3 9,fo 4 9,oW [10,0,0,0,0] [(0,1,18),(2,1,20)],oq (.gY 5 (.s 21)),o1 10],sq [rg 23 [om 2,nn,gB,fo 3 9,nL,nB .gtr 0,gZ],ci 30 (rg 31 [om 3,om 10,oq (.iV (.s 31) [(.s 32)])])],sq [dg 34 [om 10,oC 156 [34],gA,mk 10,nF 1,mk 10,nF 0,nL,nb .lss 40,gZ],ci 47 (rg 48 [om 10,oC 243 [48]])],sq [rg 50 [om 10,oC 156 [50],nn],ci 52 (rg 53 [om 0,mk 10,nf 3,nl 2,ok 53,nf 3,os 2 59 57])],rg 60 [of 0 9,nF 2,o1 8],.ret]) [.tmp 8] 63:=aS func200 ⟨[22],[]⟩
variable{empty:Bool}
def Py{kind:Int}{cap:List V}(pS:bS cap=aa)(h:Z.box r=U rd.enc)(hlen:rd.l.length<=aJ)(pR:(rd.take kind).1.ae.length<=aJ)
 (i1:ag) (th:ab) (xE:(rd.take kind).2.ok=aa->(empty=aq\/(rd.take kind).1.ae.length≠0)->∀q,Z.box q=ah ->
   cF prog g (.ptr (.out q) 0::cap) ((Z.set r (rd.take kind).2.enc).set q (rd.take kind).1.inner.enc) λv σ' => v = .bz []/\σ' = (th.set r (rd.take kind).2.enc).set q i1.enc)
 (eG:empty=aa->(rd.take kind).1.ae.length=0->i1=(rd.take kind).1.inner/\th=Z) (hq:∀q,Z.box q=ah->th.box q=ah) (hl:i1.l=(rd.take kind).1.ae) :
 cF prog 200 [.ptr (.out r) 0,.int .u8 kind,.bool empty,.fn (.func g) [] cap] Z λv σ' =>
  if (rd.take kind).2.ok=aa then v = .int .i64 (rd.take kind).1.tok.pos/\σ' = th.set r ((rd.take kind).2.under i1).enc else v = .int .i64 0/\σ' = Z.set r (rd.take kind).2.enc:=by
 refine agb.aP ?_;simp only[aO,aX,am];refine(ym h hlen).mono ?_;rintro v σ' ⟨rfl,rfl⟩;generalize ht:(rd.take kind).1=t at *;generalize hr1:(rd.take kind).2=vm at *;simp only[am,cS,Nat.reduceAdd];refine(x_ (ab.eY _ _ _)).mono ?_;rintro v σ' ⟨rfl,rfl⟩;cases cc:vm.ok
 .simp only[am];refine aN rfl (ab.bc _) ?_;simp[V.erase]
 .have bZ:vm.aQ=none:=by simpa [ag.ok] using cc
  simp only[am,Nat.reduceAdd];refine kx λq HV=>?_
  have kV:q≠r:=by rintro rfl;rw[ab.eY] at HV;simp at HV
  have TU : Z.box q=none:=by rw[ab.e9 _ _ kV] at HV;exact HV
  have eP:[V.sl .no 5 (cm t.ae),.int .i64 0,.int .i64 t.fin,.int .i64 0,.int .i64 0]=t.inner.enc:=rfl;simp only[am,eP];have gN:∀i:ag,i.l=t.ae->((th.set r vm.enc).set q i.enc).box q=U i.enc:=λi _=>ab.eY _ _ _
  have qL:∀(A B:List V),(th.set r A).sub ((th.set r A).set q B):=λA B=>by
   refine⟨λb cs hb=>?_,λ_ _ h=>h,λ_ _ h=>h⟩
   by_cases xD:b=q
   .subst xD;rw[ab.e9 _ _ kV,hq b TU] at hb;simp at hb
   .rw[ab.e9 _ _ xD];exact hb
  have hsw:∀(A B C:List V),((th.set r A).set q B).set r C=(th.set r C).set q B:=λA B C=>by rw[ab.set_comm kV,ab.set_set]
  have HC:((th.set r vm.enc).set q i1.enc).box q=U i1.enc:=ab.eY _ _ _
  by_cases hc:empty=aq\/t.ae.length≠0
  case' neg =>
   have hE:empty=true:=by cases empty<;>simp at hc ⊢
   have hk:t.ae.length=0:=by
    rcases JW t.ae.length with h | h
    .exact h
    .exact absurd (.inr (by omega)) hc
   obtain⟨e1,e2⟩:=eG hE hk;simp only[am,hE,dK,hk,mW,Int.lt_irrefl,c9];rw[<-e1,<-e2]
  case' pos =>
   have rE:=xE cc hc q TU;cases hE:empty
   case' true =>
    have hk:0<t.ae.length:=by
     rcases hc with h | h
     .rw[hE] at h;simp at h
     .omega
    simp only[am,dK,Int.natCast_pos,hk,bL]
   all_goals
    simp only[am,pS];refine rE.mono ?_;rintro v σ' ⟨rfl,rfl⟩;simp only[am]
  all_goals
   refine bA.intro (x_ HC) ?_;have Tv:∀(i:ag),((th.set r vm.enc).set q i.enc).box r=U vm.enc:=λi=>by rw[ab.e9 _ _ (fL kV),ab.eY]
   have fin:∀(i:ag) (x:List V),x=(vm.under i1).enc->(th.set r (vm.under i1).enc).sub (((th.set r vm.enc).set q i.enc).set r x):=λi x hx=>by
    rw[hx,hsw];exact qL _ _
   cases C1:i1.ok
   .have gN:i1.close=i1:=by simp[ag.close,C1]
    simp only[am];refine(x_ HC).mono ?_;rintro v σ' ⟨rfl,rfl⟩;simp only[am,C1,Tv,ag.ex,Nat.reduceAdd];exact aN rfl (fin i1 _ (by rw[ag.under,gN];rfl)) ⟨rfl,rfl⟩
   .simp only[am,ag.ex,hl,dK]
    by_cases an:i1.at_<t.ae.length
    .have gN:i1.close=i1.fail:=by simp[ag.close,C1,hl,an]
     simp only[am,an,bL];refine(Sb HC).mono ?_;rintro v σ' ⟨rfl,rfl⟩;simp only[am];refine(x_ (ab.eY _ _ _)).mono ?_;rintro v σ' ⟨rfl,rfl⟩;have hf:i1.fail.ok=false:=by
      have:i1.aQ=none:=by simpa [ag.ok] using C1
      simp[ag.fail,this,ag.ok]
     simp only[am,hf,Tv,ag.ex,Nat.reduceAdd];exact aN rfl (fin i1.fail _ (by rw[ag.under,gN];rfl)) ⟨rfl,rfl⟩
    .have gN:i1.close=i1:=by simp[ag.close,hl,an]
     have hu:vm.under i1=vm:=by
      have:i1.aQ=none:=by simpa [ag.ok] using C1
      rw[ag.under,gN,this,<-bZ]
     simp only[am,an,c9];refine(x_ HC).mono ?_;rintro v σ' ⟨rfl,rfl⟩;simp only[am,C1];refine aN rfl ?_ ⟨rfl,rfl⟩;rw[hu];exact qL _ _
def afv:aR prog 155 (sq [rg 4 [oz 7,oi 0],rg 0 [od (U 6) (.qy [(.sl .a9 2 [])])],.kK (rg 8 [om 0,om 1,oq (.kb (.func 201) [] [(.s 6)]),oc 200 [.s 8,.c (.int .u8 123),.s 9,.s 10],o1 7]),rg 12 [oo 6,om 7,ot 4 12,o1 5],.ret]) [.tmp 4,.tmp 5] 14:=aS func155 ⟨[6],[2]⟩
def agc:aR prog 201 (sq [rg 0 [od (U 2) (.gY 1 (.s 0))],rg 3 [no,oq (.kb (.func 203) [] [(.s 1),(.s 2)]),oC 202 [3,4]]]) [] 6:=aS func201 ⟨[2],[]⟩
def age:aR prog 203 (dg 2 [mM [1],oo 0,oo 1,oC 204 [3],n1 2,na 2 2,o2 1 0]) [] 7:=aS func203
variable{o p D:Nat}
def aui{rows:List (List V)}(ho:Z.box o=U [.sl (.tk D) 2 rows])(hp:Z.box p=U [.ptr (.out r) 0])(hr:Z.box r=U rd.enc)(jU:o≠r)
 (ht:Z.aY D=U rows.length) (hb:rows.length+1<=aJ) (hlen:rd.l.length<=aJ) :
 d_ 203 [.ptr (.out o) 0,.ptr (.out p) 0] Z (.bz []) (((Z.set r rd.word.2.enc).set o [.sl (.tk D) 2 (rows++[rd.word.1.enc])]).ba D (rows.length+1)):=by
 refine age.aP ?_;simp only[aO,aX,am,ho,hp];refine bA.intro (Ac hr hlen) ?_;simp only[am,aF.enc];refine vS (by simpa using hb) ht ?_;have h1:(Z.set r rd.word.2.enc).box o=U [.sl (.tk D) 2 rows]:=by rw[ab.e9 _ _ jU];exact ho
 simp only[am,h1];exact aN rfl (ab.bc _) ⟨rfl,rfl⟩
def fU(Z:ab)(q o D k:Nat)(rd:ag)(rows:List (List V)):ab:=((Z.set q rd.enc).set o [.sl (.tk D) k rows]).ba D rows.length
def Gd(Z:ab)(q o D:Nat):Sys (ag × List aF):=⟨λa=>fU Z q o D 2 a.1 (a.2.map aF.enc),λa=>a.1,λa r=>(r,a.2),gI⟩
def Hp{β:Type}(F:ag × List β->ab)(step:ag × List β->ag × List β):∀(n:Nat) (a:ag × List β),Sys.go ⟨F,λa=>a.1,λa r=>(r,a.2),step⟩ n a=ko step n a
 | 0,_=>rfl
 | n+1,a=>by simp only[Sys.go,ko,Hp F step n]
variable{q:Nat}
def CM{rows:List (List V)}(h:q≠o):(fU Z q o D k rd rows).box q=U rd.enc:=by
 simp[fU,ab.ba,ab.set,h]
def Hm{rows:List (List V)}:(fU Z q o D k rd rows).box o=U [.sl (.tk D) k rows]:=by
 simp[fU,ab.ba,ab.set]
def v9{rows:List (List V)}(h:p≠q)(h' : p≠o):(fU Z q o D k rd rows).box p=Z.box p:=by
 simp[fU,ab.ba,ab.set,h,h']
variable{cs:List V}
def Hn{rows:List (List V)}(h:p≠q)(h' : p≠o):(fU Z q o D k rd rows).set p cs=fU (Z.set p cs) q o D k rd rows:=by
 have:((Z.set q rd.enc).set o [.sl (.tk D) k rows]).set p cs=((Z.set p cs).set q rd.enc).set o [.sl (.tk D) k rows]:=by
  rw[ab.set_comm (fL h'),ab.set_comm (b:=q) (fL h)]
 show(((Z.set q rd.enc).set o [.sl (.tk D) k rows]).set p cs).ba D rows.length=_;rw[this];rfl
def iS(h:Z.box p=ah):Z.sub (Z.set p cs):=by
 refine⟨λb ds hb=>?_,λ_ _ h=>h,λ_ _ h=>h⟩
 have:b≠p:=by rintro rfl;rw[h] at hb;simp at hb
 rw[ab.e9 _ _ this];exact hb
def SO{rows:List (List V)}:(fU Z q o D k rd rows).aY D=U rows.length:=by
 simp[fU,ab.ba]
variable{kF:ag}
def K4{rows:List (List V)}(h:q≠o):(fU Z q o D k rd rows).set q kF.enc=fU Z q o D k kF rows:=by
 have:((Z.set q rd.enc).set o [.sl (.tk D) k rows]).set q kF.enc=(Z.set q kF.enc).set o [.sl (.tk D) k rows]:=by rw[ab.set_comm (fL h),ab.set_set]
 show(((Z.set q rd.enc).set o [.sl (.tk D) k rows]).set q kF.enc).ba D rows.length=_;rw[this];rfl
def SM{rows:List (List V)}{c:List V}(h:q≠o):(((fU Z q o D k rd rows).set q kF.enc).set o [.sl (.tk D) k (rows++[c])]).ba D (rows.length+1)=fU Z q o D k kF (rows++[c]):=by
 rw[K4 h];unfold fU;rw[bW,da,cZ];show((((Z.set q kF.enc).set o [.sl (.tk D) k rows]).set o [.sl (.tk D) k (rows++[c])]).ba D rows.length).ba D (rows.length+1)=_;rw[ab.set_set,eJ]
variable{β:Type}
def qx(l:List aA)(a:ag × List β):Prop:=a.1.l=l/\0<=a.1.at_/\a.1.at_<=l.length/\(a.1.aQ=ah->(a.2.length:Int)<=a.1.at_)
variable{l:List aA}
def VN{a:ag × List aF}(h:qx l a)(hb:a.1.aQ=ah):qx l (gI a)/\a.1.at_<=(gI a).1.at_:=by
 obtain⟨h1,h2,h3,h4⟩:=h;have h4:=h4 hb
 rcases a.1.vu 97 with ⟨_,k1,k2,k3,k4⟩ | ⟨_,k1,k2⟩
 .refine⟨⟨?_,?_,?_,λ_=>?_⟩,?_⟩<;>simp only[gI,ag.word,ag.gk,k1,bW,da,cZ]
  .exact h1
  .omega
  .rw[h1] at k4;omega
  .omega
  .omega
 .refine⟨⟨?_,?_,?_,λhq=>absurd hq k2⟩,?_⟩<;>simp only[gI,ag.word,ag.gk,k1]
  .exact h1
  .exact h2
  .exact h3
  .omega
def N'{a:ag × List β}(h:qx l a)(hs:a.1.cD 44=aa):qx l ((a.1.take 44).2,a.2)/\(a.1.take 44).2.aQ=ah/\(a.1.take 44).2.at_=a.1.at_+1:=by
 obtain⟨h1,h2,h3,h4⟩:=h
 rcases a.1.vu 44 with ⟨_,k1,k2,k3,k4⟩ | ⟨k0,_⟩
 .have hb:a.1.aQ=none:=by
   simp only[ag.cD,ag.ok,b_,Ed] at hs;exact hs.1
  have:=h4 hb
  rw[h1] at k4;exact⟨⟨by simp only[ag.gk];exact h1,by simp only[k1];omega,by simp only[k1];omega,λ_=>by simp only[k1];omega⟩,k2,k1⟩
 .rw[hs] at k0;simp at k0
def auj(eh:q≠o)(dp:rd.at_=0)(bZ:rd.aQ=ah)(hlen:rd.l.length+1<=aJ):
 d_ 201 [.ptr (.out q) 0,.ptr (.out o) 0] (fU Z q o D 2 rd []) (.bz []) (fU Z q o D 2 (eZ gI rd).1 ((eZ gI rd).2.map aF.enc)):=by
 refine agc.aP ?_;simp only[aO,aX,am];refine kx λp hp=>?_
 have kU:p≠q:=by rintro rfl;rw[CM eh] at hp;simp at hp
 have mf:p≠o:=by rintro rfl;rw[Hm] at hp;simp at hp
 rw[Hn kU mf];simp only[am,v9 kU mf];have tS:∀a:ag × List aF,qx rd.l a->a.1.aQ=ah->cF prog 203 [.ptr (.out o) 0,.ptr (.out p) 0] (fU (Z.set p [.ptr (.out q) 0]) q o D 2 a.1 (a.2.map aF.enc)) λv σ' =>
  v = .bz []/\σ' = fU (Z.set p [.ptr (.out q) 0]) q o D 2 (gI a).1 ((gI a).2.map aF.enc):=λa lC hb=>by
  have hl:=lC.2.2.2 hb;have gf:=lC.2.2.1;refine(aui Hm (by rw[v9 kU mf,ab.eY]) (CM eh) (fL eh) SO (by rw[aD];omega) (by rw[lC.1];omega)).mono ?_;rintro v σ' ⟨rfl,rfl⟩;refine⟨rfl,?_⟩;rw[SM eh];simp[gI]
 have h0:qx rd.l (rd,([]:List aF)):=⟨rfl,by simp[dp],by simp[dp],λ_=>by simp[dp]⟩;obtain⟨p1,_⟩:=VN h0 bZ;refine(O2 (Gd (Z.set p [.ptr (.out q) 0]) q o D) (qx rd.l) (a:=(rd,[])) (n:=rd.l.length) (by simp[am]) (λa h=>CM eh) (λa h=>?_) (λa h hs=>K4 eh) (λa h hs=>?_) (tS _ h0 bZ) p1 ?_).mono ?_
 .show a.1.l.length<=aJ;rw[h.1];omega
 .obtain⟨k1,k2,k3⟩:=N' h hs;obtain⟨k4,k5⟩:=VN k1 k2;refine⟨tS _ k1 k2,k4,?_,?_⟩
  .exact k4.1.trans h.1.symm
  .show a.1.at_+1<=_;simp only at k5;rw[k3] at k5;exact k5
 .show(gI (rd,[])).1.l.length<=rd.l.length;rw[p1.1];omega
 rintro v σ' ⟨rfl,rfl⟩;simp only[am];refine aN rfl (σ' := fU Z q o D 2 (eZ gI rd).1 ((eZ gI rd).2.map aF.enc)) ?_ ⟨rfl,rfl⟩;have e:(Gd (Z.set p [.ptr (.out q) 0]) q o D).F ((Gd (Z.set p [.ptr (.out q) 0]) q o D).go rd.l.length ((Gd (Z.set p [.ptr (.out q) 0]) q o D).step (rd,[])))=fU (Z.set p [.ptr (.out q) 0]) q o D 2 (eZ gI rd).1 ((eZ gI rd).2.map aF.enc):=by
  unfold Gd;rw[Hp];rfl
 rw[e,<-Hn kU mf];exact iS (by rw[v9 kU mf];rw[v9 kU mf] at hp;exact hp)
def K7{β:Type}{l:List aA}{step:ag × List β->ag × List β}(hs:∀a,a.1.l=l->(step a).1.l=l):∀(n:Nat) (a:ag × List β),a.1.l=l->(ko step n a).1.l=l
 | 0,_,h=>h
 | n + 1, a, h => by
  simp only[ko];split
  .exact K7 hs n _ (hs _ (by rw[ag.gk];exact h))
  .exact h
def Ui{step:ag × List β->ag × List β}(hs:∀l a,a.1.l=l->(step a).1.l=l)(empty:Bool)(t:aA):(ag.inside step empty t).1.l=t.ae:=by
 unfold ag.inside;split
 .rfl
 .exact K7 (hs _) _ _ (hs _ _ rfl)
def atN(l:List aA)(a:ag × List aF)(h:a.1.l=l):(gI a).1.l=l:=by simp[gI,ag.word,ag.gk,h]
def PG(h:Z.box r=U rd.enc)(hlen:rd.l.length<=aJ)(pR:(rd.take 123).1.ae.length+1<=aJ):
 d_ 155 [.ptr (.out r) 0,.bool empty] Z (.bz [.sl .no 2 ((rd.words empty).1.1.map aF.enc),.int .i64 (rd.words empty).1.2]) (Z.set r (rd.words empty).2.enc):=by
 refine afv.aP ?_;simp only[aO,aX,am];refine kx λo ho=>?_
 have jU:o≠r:=by rintro rfl;rw[h] at ho;simp at ho
 simp only[am];refine a7.tok 0 λD a_=>⟨_,_,_,fm.rfl,rfl,λi c hc=>⟨c,hc,fm.rfl⟩,se.set (cs:=[.sl .a9 2 []]) (cs' := [.sl (.tk D) 2 []]) (ab.eY _ _ _) ⟨jP.tok rfl,trivial⟩,?_⟩
 simp only[am];have h1:((Z.set o [.sl (.tk D) 2 []]).ba D 0).box r=U rd.enc:=by
  show(Z.set o _).box r=_;rw[ab.e9 _ _ (fL jU)];exact h
 have bh:∀q,((Z.set o [V.sl (.tk D) 2 []]).ba D 0).box q=ah->q≠o/\q≠r/\Z.box q=none:=λq hq=>by
  have eh:q≠o:=by rintro rfl;rw[show((Z.set q [V.sl (.tk D) 2 []]).ba D 0).box q=_ from ab.eY _ _ _] at hq;simp at hq
  have n_ : Z.box q=none:=by rw[<-ab.e9 Z [V.sl (.tk D) 2 []] eh];exact hq
  exact⟨eh,by rintro rfl;rw[h] at n_;simp at n_,n_⟩
 generalize eP:ag.inside gI empty (rd.take 123).1=ins;have EU:ins.1.l=(rd.take 123).1.ae:=by rw[<-eP];exact Ui atN _ _
 refine(Py (kind:=123) (by simp[am]) h1 hlen (by omega) ins.1 ((Z.set o [.sl (.tk D) 2 (ins.2.map aF.enc)]).ba D (ins.2.map aF.enc).length) ?_ ?_ ?_ EU).mono ?_
 .intro cc hc q hq;obtain⟨eh,kV,_⟩:=bh q hq;have e1:(((Z.set o [V.sl (.tk D) 2 []]).ba D 0).set r (rd.take 123).2.enc).set q (rd.take 123).1.inner.enc=fU (Z.set r (rd.take 123).2.enc) q o D 2 (rd.take 123).1.inner []:=by
   unfold fU;rw[ab.set_comm (b:=q) eh,ab.set_comm (b:=r) (fL jU)];rfl
  have e2:(((Z.set o [V.sl (.tk D) 2 (ins.2.map aF.enc)]).ba D (ins.2.map aF.enc).length).set r (rd.take 123).2.enc).set q ins.1.enc=fU (Z.set r (rd.take 123).2.enc) q o D 2 ins.1 (ins.2.map aF.enc):=by
   unfold fU;rw[ab.set_comm (b:=q) eh,ab.set_comm (b:=r) (fL jU)];rfl
  have e3:ins=eZ gI (rd.take 123).1.inner:=by
   rw[<-eP,ag.inside,aw];rintro⟨q1,q2⟩
   rcases hc with hc | hc
   .rw[q1] at hc;simp at hc
   .exact hc q2
  rw[e1,e2,e3];exact auj eh rfl rfl pR
 .intro q1 q2
  have:ins=((rd.take 123).1.inner,[]):=by rw[<-eP,ag.inside,aI ⟨q1,q2⟩]
  rw[this];exact⟨rfl,rfl⟩
 .intro q hq;obtain⟨eh,_,n_⟩:=bh q hq;show(Z.set o _).box q=ah;rw[ab.e9 _ _ eh];exact n_
 rintro v σ' hv;have zc:∀(A B:List V) (n:Nat),(Z.set r A).sub (((Z.set o B).ba D n).set r A):=λA B n=>by
  refine⟨λb cs hb=>?_,λO m hm=>?_,λ_ _ h=>h⟩
  .have EN:b≠o:=by rintro rfl;rw[ab.e9 _ _ jU,ho] at hb;simp at hb
   by_cases we:b=r
   .subst we;rw[ab.eY] at hb ⊢;exact hb
   .rw[ab.e9 _ _ we] at hb ⊢;show(Z.set o B).box b=_;rw[ab.e9 _ _ EN];exact hb
  .have qH : Z.aY O=U m:=hm;have A9 : O≠D:=by rintro rfl;rw[show(Z.set o [V.sl .a9 2 []]).aY O=Z.aY O from rfl] at a_;rw[a_] at qH;simp at qH
   show((Z.set o B).ba D n).aY O=U m;rw[zR A9];exact qH
 split at hv
 .rename_i cc;obtain⟨rfl,rfl⟩:=hv;have hb:(((Z.set o [V.sl (.tk D) 2 (ins.2.map aF.enc)]).ba D (ins.2.map aF.enc).length).set r ((rd.take 123).2.under ins.1).enc).box o=U [V.sl (.tk D) 2 (ins.2.map aF.enc)]:=by
   rw[ab.e9 _ _ jU];exact ab.eY _ _ _
  simp only[am,hb];refine aN rfl (zc _ _ _) ⟨?_,?_⟩
  .simp[ag.words,ag.bracket,cc,eP,V.erase,aZ]
  .simp[ag.words,ag.bracket,cc,eP]
 .rename_i cc;obtain⟨rfl,rfl⟩:=hv;have hb:(((Z.set o [V.sl (.tk D) 2 []]).ba D 0).set r (rd.take 123).2.enc).box o=U [V.sl (.tk D) 2 []]:=by
   rw[ab.e9 _ _ jU];exact ab.eY _ _ _
  simp only[am,hb];refine aN rfl (zc _ _ _) ⟨?_,?_⟩
  .simp[ag.words,ag.bracket,cc,V.erase,aZ]
  .simp[ag.words,ag.bracket,cc]
def agY:aR prog 244 (sq [rg 0 [od (U 3) (.gY 1 (.s 0))],rg 4 [no,oq (.kb (.func 245) [] [(.s 1),(.s 2),(.s 3)]),oC 202 [4,5]]]) [] 7:=aS func244 ⟨[3],[]⟩
def agZ:aR prog 245 (dH 3 ⟨5,(.s 3),(.s 8),(.s 7),(.s 6),(.s 0),ah,9,10,20⟩ [mM [1],oo 0,oo 1,oo 2,oq (.iV (.s 4) [(.s 5)]),oL 3,oq (.km 5 [(.c (.agg [(.int .i64 0),(.int .i64 0),(.aH []),(.sl .a9 2 []),(.sl .a9 5 [])]))]),oq (.mv (.c .any)),oq (.mv (.c .any)),oN,oN]) [] 11:=aS func245
def Nd.wd{n:Nd}:(V.agg n.enc).wd=U 5:=by rw[Nd.cS];rfl
def Nd.one{n:Nd}:c8 n.enc=true:=by rw[Nd.cS];rfl
def Nd.cM{n:Nd}:bS n.enc=true:=by rw[Nd.cS];rfl
def Nd.er{n:Nd}:aZ n.enc=n.enc:=by rw[Nd.cS];rfl
def alm{f:Nat}{rows:List (List V)}{n:Nd}(ho:Z.box o=U [.sl (.tk D) 5 rows])(hf:Z.box f=U [.fn (.func g) [] []])(hp:Z.box p=U [.ptr (.out q) 0])
 (Mf:o≠q) (ht:Z.aY D=U rows.length) (hb:rows.length+1<=aJ) (fG:d_ g [.ptr (.out q) 0] Z (.agg n.enc) (Z.set q kF.enc)) :
 d_ 245 [.ptr (.out o) 0,.ptr (.out f) 0,.ptr (.out p) 0] Z (.bz []) (((Z.set q kF.enc).set o [.sl (.tk D) 5 (rows++[n.enc])]).ba D (rows.length+1)):=by
 refine agZ.aP ?_;simp only[aO,aX,am,ho,hp,hf];refine bA.intro fG ?_;have h1:(Z.set q kF.enc).box o=U [.sl (.tk D) 5 rows]:=by rw[ab.e9 _ _ Mf];exact ho
 simp only[am,h1];refine TP (D:=D) (m:=rows) (cs:=n.enc) (p:=.ptr (.out o) 0) rfl rfl rfl hb ht ⟨Nd.wd,Nd.one,Nd.cM⟩ Nd.er (by simp) rfl (by simp only[am,h1];rfl) ?_;simp only[am];exact aN rfl (ab.bc _) ⟨rfl,rfl⟩
def IA{one:ag->β × ag}(ho:Reads one){a:ag × List β}(h:qx l a)(hb:a.1.aQ=ah):qx l (cV one a)/\a.1.at_<=(cV one a).1.at_:=by
 obtain⟨h1,h2,h3,h4⟩:=h;have h4:=h4 hb;obtain⟨k1,k2,k3⟩:=ho.go a.1 h2 (by rw[h1];exact h3);refine⟨⟨by simp only[cV,ho.l];exact h1,by simp only[cV];omega,by simp only[cV];rw[h1] at k2;exact k2,λhq=>?_⟩,k1⟩
 have:=k3 hq
 simp only[cV,bW,da,cZ];omega
def Fs(one:ag->Nd × ag)(Z:ab)(q o D:Nat):Sys (ag × List Nd):=⟨λa=>fU Z q o D 5 a.1 (a.2.map Nd.enc),λa=>a.1,λa r=>(r,a.2),cV one⟩
def aln{f:Nat}{one:ag->Nd × ag}(hr:Reads one)(eh:q≠o)(hfq:f≠q)(wj:f≠o)(hf:Z.box f=U [.fn (.func g) [] []])(dp:rd.at_=0)(bZ:rd.aQ=ah)(hlen:rd.l.length+1<=aJ)
 (fG:∀(r:ag) (Z:ab),r.l=rd.l->0<=r.at_->r.at_<=rd.l.length->Z.box q=U r.enc->d_ g [.ptr (.out q) 0] Z (.agg (one r).1.enc) (Z.set q (one r).2.enc)) :
 d_ 244 [.ptr (.out q) 0,.ptr (.out o) 0,.ptr (.out f) 0] (fU Z q o D 5 rd []) (.bz []) (fU Z q o D 5 (eZ (cV one) rd).1 ((eZ (cV one) rd).2.map Nd.enc)):=by
 refine agY.aP ?_;simp only[aO,aX,am];refine kx λp hp=>?_
 have kU:p≠q:=by rintro rfl;rw[CM eh] at hp;simp at hp
 have mf:p≠o:=by rintro rfl;rw[Hm] at hp;simp at hp
 have TQ:f≠p:=by rintro rfl;rw[v9 kU mf,hf] at hp;simp at hp
 rw[Hn kU mf];simp only[am,v9 kU mf];have tS:∀a:ag × List Nd,qx rd.l a->a.1.aQ=ah->cF prog 245 [.ptr (.out o) 0,.ptr (.out f) 0,.ptr (.out p) 0] (fU (Z.set p [.ptr (.out q) 0]) q o D 5 a.1 (a.2.map Nd.enc)) λv σ' =>
  v = .bz []/\σ' = fU (Z.set p [.ptr (.out q) 0]) q o D 5 (cV one a).1 ((cV one a).2.map Nd.enc):=λa lC hb=>by
  have hl:=lC.2.2.2 hb;have gf:=lC.2.2.1;refine(alm Hm (by rw[v9 hfq wj,ab.e9 _ _ TQ];exact hf) (by rw[v9 kU mf,ab.eY]) (fL eh) SO (by rw[aD];omega) (fG a.1 _ lC.1 lC.2.1 gf (CM eh))).mono ?_;rintro v σ' ⟨rfl,rfl⟩;refine⟨rfl,?_⟩;rw[SM eh];simp[cV]
 have h0:qx rd.l (rd,([]:List Nd)):=⟨rfl,by simp[dp],by simp[dp],λ_=>by simp[dp]⟩;obtain⟨p1,_⟩:=IA hr h0 bZ;refine(O2 (Fs one (Z.set p [.ptr (.out q) 0]) q o D) (qx rd.l) (a:=(rd,[])) (n:=rd.l.length) (by simp[am]) (λa h=>CM eh) (λa h=>?_) (λa h hs=>K4 eh) (λa h hs=>?_) (tS _ h0 bZ) p1 ?_).mono ?_
 .show a.1.l.length<=aJ;rw[h.1];omega
 .obtain⟨k1,k2,k3⟩:=N' h hs;obtain⟨k4,k5⟩:=IA hr k1 k2;refine⟨tS _ k1 k2,k4,?_,?_⟩
  .exact k4.1.trans h.1.symm
  .show a.1.at_+1<=_;simp only at k5;rw[k3] at k5;exact k5
 .show(cV one (rd,[])).1.l.length<=rd.l.length;rw[p1.1];omega
 rintro v σ' ⟨rfl,rfl⟩;simp only[am];refine aN rfl (σ' := fU Z q o D 5 (eZ (cV one) rd).1 ((eZ (cV one) rd).2.map Nd.enc)) ?_ ⟨rfl,rfl⟩;have e:(Fs one (Z.set p [.ptr (.out q) 0]) q o D).F ((Fs one (Z.set p [.ptr (.out q) 0]) q o D).go rd.l.length ((Fs one (Z.set p [.ptr (.out q) 0]) q o D).step (rd,[])))=fU (Z.set p [.ptr (.out q) 0]) q o D 5 (eZ (cV one) rd).1 ((eZ (cV one) rd).2.map Nd.enc):=by
  unfold Fs;rw[Hp];rfl
 rw[e,<-Hn kU mf];exact iS (by rw[v9 kU mf];rw[v9 kU mf] at hp;exact hp)
def agj:aR prog 207 (sq [rg 8 [od (U 7) (.gY 1 (.s 3)),oz 10,oi 0],rg 0 [od (U 10) (.qy [(.sl .a9 5 [])])],.kK (rg 12 [om 0,om 1,om 2,oq (.kb (.func 244) [] [(.s 10),(.s 7)]),oC 200 [12,13,14,15],o1 11]),rg 17 [oo 10,om 11,ot 8 17,o1 9],.ret]) [.tmp 8,.tmp 9] 19:=aS func207 ⟨[7,10],[2]⟩
def ab.asQ{a b c:ab}(h:a.sub b)(k:b.sub c):a.sub c:=⟨λx cs hx=>k.1 x cs (h.1 x cs hx),λx n hx=>k.2.1 x n (h.2.1 x n hx),λx n hx=>k.2.2 x n (h.2.2 x n hx)⟩
def asO{a b:ab}{A:List V}(h:a.sub b):(a.set r A).sub (b.set r A):=by
 refine⟨λx cs hx=>?_,h.2⟩
 by_cases hr:x=r
 .subst hr;rw[ab.eY] at hx ⊢;exact hx
 .rw[ab.e9 _ _ hr] at hx ⊢;exact h.1 x cs hx
def NX{one:ag->β × ag}(h:Reads one)(l:List aA)(a:ag × List β)(ha:a.1.l=l):(cV one a).1.l=l:=by simp[cV,h.l,ha]
def Ia{kind:Int}{one:ag->Nd × ag}(fG:Reads one)(h:Z.box r=U rd.enc)(hlen:rd.l.length<=aJ)(pR:(rd.take kind).1.ae.length+1<=aJ)
 (ajK:∀(q:Nat) (i:ag) (Z:ab),i.l=(rd.take kind).1.ae->0<=i.at_->i.at_<=i.l.length->Z.box q=U i.enc->d_ g [.ptr (.out q) 0] Z (.agg (one i).1.enc) (Z.set q (one i).2.enc)) :
 d_ 207 [.ptr (.out r) 0,.int .u8 kind,.bool empty,.fn (.func g) [] []] Z (.bz [.sl .no 5 ((rd.nodes one kind empty).1.1.map Nd.enc),.int .i64 (rd.nodes one kind empty).1.2]) (Z.set r (rd.nodes one kind empty).2.enc):=by
 refine agj.aP ?_;simp only[aO,aX,am];refine kx λf hf=>?_
 have bw:f≠r:=by rintro rfl;rw[h] at hf;simp at hf
 simp only[am];refine kx λo ho=>?_
 have wj:f≠o:=by rintro rfl;rw[ab.eY] at ho;simp at ho
 have jU:o≠r:=by rintro rfl;rw[ab.e9 _ _ (fL bw),h] at ho;simp at ho
 generalize wD:Z.set f [.fn (.func g) [] []]=jL at ho ⊢;have TC:jL.box f=U [.fn (.func g) [] []]:=by rw[<-wD];exact ab.eY _ _ _
 have aj0:Z.sub jL:=by rw[<-wD];exact iS hf
 have h:jL.box r=U rd.enc:=by rw[<-wD,ab.e9 _ _ (fL bw)];exact h
 simp only[am];refine a7.tok 0 λD a_=>⟨_,_,_,fm.rfl,rfl,λi c hc=>⟨c,hc,fm.rfl⟩,se.set (cs:=[.sl .a9 5 []]) (cs' := [.sl (.tk D) 5 []]) (ab.eY _ _ _) ⟨jP.tok rfl,trivial⟩,?_⟩
 simp only[am];have h1:((jL.set o [.sl (.tk D) 5 []]).ba D 0).box r=U rd.enc:=by
  show(jL.set o _).box r=_;rw[ab.e9 _ _ (fL jU)];exact h
 have bh:∀q,((jL.set o [V.sl (.tk D) 5 []]).ba D 0).box q=ah->q≠o/\q≠r/\jL.box q=none:=λq hq=>by
  have eh:q≠o:=by rintro rfl;rw[show((jL.set q [V.sl (.tk D) 5 []]).ba D 0).box q=_ from ab.eY _ _ _] at hq;simp at hq
  have n_ : jL.box q=none:=by rw[<-ab.e9 jL [V.sl (.tk D) 5 []] eh];exact hq
  exact⟨eh,by rintro rfl;rw[h] at n_;simp at n_,n_⟩
 generalize eP:ag.inside (cV one) empty (rd.take kind).1=ins;have EU:ins.1.l=(rd.take kind).1.ae:=by rw[<-eP];exact Ui (NX fG) _ _
 refine(Py (kind:=kind) (by simp[am]) h1 hlen (by omega) ins.1 ((jL.set o [.sl (.tk D) 5 (ins.2.map Nd.enc)]).ba D (ins.2.map Nd.enc).length) ?_ ?_ ?_ EU).mono ?_
 .intro cc hc q hq;obtain⟨eh,kV,_⟩:=bh q hq;have e1:(((jL.set o [V.sl (.tk D) 5 []]).ba D 0).set r (rd.take kind).2.enc).set q (rd.take kind).1.inner.enc=fU (jL.set r (rd.take kind).2.enc) q o D 5 (rd.take kind).1.inner []:=by
   unfold fU;rw[ab.set_comm (b:=q) eh,ab.set_comm (b:=r) (fL jU)];rfl
  have e2:(((jL.set o [V.sl (.tk D) 5 (ins.2.map Nd.enc)]).ba D (ins.2.map Nd.enc).length).set r (rd.take kind).2.enc).set q ins.1.enc=fU (jL.set r (rd.take kind).2.enc) q o D 5 ins.1 (ins.2.map Nd.enc):=by
   unfold fU;rw[ab.set_comm (b:=q) eh,ab.set_comm (b:=r) (fL jU)];rfl
  have e3:ins=eZ (cV one) (rd.take kind).1.inner:=by
   rw[<-eP,ag.inside,aw];rintro⟨q1,q2⟩
   rcases hc with hc | hc
   .rw[q1] at hc;simp at hc
   .exact hc q2
  rw[e1,e2,e3];refine aln fG eh ?_ wj (by rw[ab.e9 _ _ bw];exact TC) rfl rfl pR (λi σ' h1 h2 h3 h4=>ajK q i σ' h1 h2 (by rw[h1];exact h3) h4);rintro rfl;rw[show((jL.set o [V.sl (.tk D) 5 []]).ba D 0).box f=(jL.set o [V.sl (.tk D) 5 []]).box f from rfl,ab.e9 _ _ wj,TC] at hq;simp at hq
 .intro q1 q2
  have:ins=((rd.take kind).1.inner,[]):=by rw[<-eP,ag.inside,aI ⟨q1,q2⟩]
  rw[this];exact⟨rfl,rfl⟩
 .intro q hq;obtain⟨eh,_,n_⟩:=bh q hq;show(jL.set o _).box q=ah;rw[ab.e9 _ _ eh];exact n_
 rintro v σ' hv;have zc:∀(A B:List V) (n:Nat),(Z.set r A).sub (((jL.set o B).ba D n).set r A):=λA B n=>by
  refine ab.asQ (asO aj0) ?_;refine⟨λb cs hb=>?_,λO m hm=>?_,λ_ _ h=>h⟩
  .have EN:b≠o:=by rintro rfl;rw[ab.e9 _ _ jU,ho] at hb;simp at hb
   by_cases we:b=r
   .subst we;rw[ab.eY] at hb ⊢;exact hb
   .rw[ab.e9 _ _ we] at hb ⊢;show(jL.set o B).box b=_;rw[ab.e9 _ _ EN];exact hb
  .have qH : jL.aY O=U m:=hm;have A9 : O≠D:=by rintro rfl;rw[show(jL.set o [V.sl .a9 5 []]).aY O=jL.aY O from rfl] at a_;rw[a_] at qH;simp at qH
   show((jL.set o B).ba D n).aY O=U m;rw[zR A9];exact qH
 split at hv
 .rename_i cc;obtain⟨rfl,rfl⟩:=hv;have hb:(((jL.set o [V.sl (.tk D) 5 (ins.2.map Nd.enc)]).ba D (ins.2.map Nd.enc).length).set r ((rd.take kind).2.under ins.1).enc).box o=U [V.sl (.tk D) 5 (ins.2.map Nd.enc)]:=by
   rw[ab.e9 _ _ jU];exact ab.eY _ _ _
  simp only[am,hb];refine aN rfl (zc _ _ _) ⟨?_,?_⟩
  .simp[ag.nodes,ag.bracket,cc,eP,V.erase,aZ]
  .simp[ag.nodes,ag.bracket,cc,eP]
 .rename_i cc;obtain⟨rfl,rfl⟩:=hv;have hb:(((jL.set o [V.sl (.tk D) 5 []]).ba D 0).set r (rd.take kind).2.enc).box o=U [V.sl (.tk D) 5 []]:=by
   rw[ab.e9 _ _ jU];exact ab.eY _ _ _
  simp only[am,hb];refine aN rfl (zc _ _ _) ⟨?_,?_⟩
  .simp[ag.nodes,ag.bracket,cc,V.erase,aZ]
  .simp[ag.nodes,ag.bracket,cc]
def ahj:aR prog 266 (sq [rg 0 [oZ 2 [0,0,1,7,10]],rg 6 [om 0,oC 204 [6],oZ 3 [1,0],o2 2 3],rg 8 [om 0,oc 206 [.s 8,.c (.int .u8 58)]],rg 11 [om 0,oc 155 [.s 11,.c (.bool aa)],o1 10,oe 10 0,oe 10 1,ot 4 13,o1 5],rg 15 [fo 1 3,fo 0 3,om 4,oG [0,0,1,7,10] [(0,1,.c (.int .i64 6)),(1,1,.s 16),(2,1,.s 18),(3,1,.s 19)],o2 5 2],.ret]) [.cell 2 aa 5] 21:=aS func266
def arC(h:Z.box r=U rd.enc)(hlen:rd.l.length<=aJ)(hk:∀(x:ag) (k:Int),x.l=rd.l->(x.take k).1.ae.length+1<=aJ):
 d_ 266 [.ptr (.out r) 0] Z (.agg rd.sZ.1.enc) (Z.set r rd.sZ.2.enc):=by
 refine ahj.aP ?_;simp only[aO,aX,am];refine(Ac h hlen).mono ?_;rintro v σ' ⟨rfl,rfl⟩;simp only[am,aF.enc];refine(ym (ab.eY _ _ _) (by simp[ag.word,ag.gk,hlen])).mono ?_;rintro v σ' ⟨rfl,rfl⟩;simp only[am];refine(PG (ab.eY _ _ _) (by simp[ag.word,ag.gk,hlen]) (hk _ _ (by simp[ag.word,ag.gk]))).mono ?_;rintro v σ' ⟨rfl,rfl⟩;simp only[am,Nat.reduceAdd];refine aN rfl (ab.bc _) ⟨?_,rfl⟩;simp[ag.sZ,V.erase,aZ,Nd.enc,sT]
def SA:aR prog 246 (sq [rg 0 [oZ 2 [0,0,1,7,10]],rg 5 [oW [0,0,1,7,10] [],oZ 3 [0,0,1,7,10],o2 5 3],.block 0 (sq [rg 14 [om 0,oc 205 [.s 14,.c (.int .u8 123)],o1 13],cd 13 (sq [rg 16 [of 0 3,od ah (.store 1 (.s 16) (.c (.int .i64 3)))],rg 18 [om 0,oc 155 [.s 18,.c (.bool aa)],o1 17,oe 17 0,oe 17 1,of 3 3,os 1 22 20,of 1 3,os 1 23 21]]) (sq [rg 25 [om 0,oc 205 [.s 25,.c (.int .u8 40)],o1 24],cd 24 (sq [rg 27 [of 0 3,od ah (.store 1 (.s 27) (.c (.int .i64 4)))],rg 29 [om 0,oc 207 [.s 29,.c (.int .u8 40),.c (.bool aq),.c (.fn (.func 246) [] [])],o1 28,oe 28 0,oe 28 1,of 4 3,os 1 33 31,of 1 3,os 1 34 32]]) (sq [rg 36 [om 0,oc 205 [.s 36,.c (.int .u8 91)],o1 35],cd 35 (sq [rg 38 [of 0 3,od ah (.store 1 (.s 38) (.c (.int .i64 5)))],rg 40 [om 0,oc 207 [.s 40,.c (.int .u8 91),.c (.bool aa),.c (.fn (.func 266) [] [])],o1 39,oe 39 0,oe 39 1,of 4 3,os 1 44 42,of 1 3,os 1 45 43]]) (sq [rg 6 [om 0,oC 204 [6],oZ 4 [1,0],o2 2 4],rg 8 [fo 1 4,fo 0 4,oG [0,0,1,7,10] [(0,1,.c (.int .i64 2)),(1,1,.s 9),(2,1,.s 11)],o2 5 3]])])])]),rg 46 [ol 5 3,o2 5 2],.ret]) [.cell 2 aa 5] 47:=aS func246
def F5{r:ag}{k:Int}(h:bE r.l=0):r.cD k=false:=by
 have:r.l=[]:=sb (by have:=gj r.l;omega)
 simp[ag.cD,bf,this]
def Bn{x:ag}{k:Int}(hm:bE l+1<=aJ)(h:x.l=l):(x.take k).1.ae.length+1<=aJ:=by
 have h1:=(x.wU k).1;have h2:=gj (x.take k).1.ae;rw[h] at h1;omega
def abK:∀(n:Nat) {r:Nat} {rd:ag} {Z:ab} (_:Z.box r=U rd.enc) (_:bE rd.l<=n) (_:bE rd.l+1<=aJ),
 d_ 246 [.ptr (.out r) 0] Z (.agg (ag.constant n rd).1.enc) (Z.set r (ag.constant n rd).2.enc):=by
 intro n;induction n with
 | zero =>
  intro r rd Z h hn hm;have hlen:=gj rd.l;refine SA.aP ?_;simp only[aO,aX,am];refine(rV h).mono ?_;rintro v σ' ⟨rfl,rfl⟩;simp only[am,F5 (GD.1 hn)];refine(rV h).mono ?_;rintro v σ' ⟨rfl,rfl⟩;simp only[am,F5 (GD.1 hn)];refine(rV h).mono ?_;rintro v σ' ⟨rfl,rfl⟩;simp only[am,F5 (GD.1 hn)];refine(Ac h (by omega)).mono ?_;rintro v σ' ⟨rfl,rfl⟩;simp only[am,aF.enc,Nat.reduceAdd];refine aN rfl (ab.bc _) ⟨?_,rfl⟩;simp[ag.constant,ag.leaf,V.erase,aZ,Nd.enc,sT]
 | succ n ih =>
  intro r rd Z h hn hm;have hlen:=gj rd.l;refine SA.aP ?_;simp only[aO,aX,am];refine(rV h).mono ?_;rintro v σ' ⟨rfl,rfl⟩;cases h1:rd.cD 123
  case' true =>
   simp only[am,Nat.reduceAdd];refine(PG h (by omega) (Bn hm rfl)).mono ?_;rintro v σ' ⟨rfl,rfl⟩;simp only[am,Nat.reduceAdd];refine aN rfl (ab.bc _) ⟨?_,by simp[ag.constant,h1]⟩;simp[ag.constant,h1,V.erase,aZ,Nd.enc,sT]
  case' false =>
   simp only[am];refine(rV h).mono ?_;rintro v σ' ⟨rfl,rfl⟩;cases h2:rd.cD 40
  case' false.true =>
   have hk:bE (rd.take 40).1.ae+1<=bE rd.l:=(rd.wU 40).2 (by
    rcases rd.vu 40 with ⟨_,_,e,_,_⟩ | ⟨e,_,_⟩
    .exact e
    .rw[h2] at e;simp at e)
   simp only[am,Nat.reduceAdd];refine(Ia (DJ (SZ n)) h (by omega) (Bn hm rfl) (λq i σ' e1 _ _ e4=>ih e4 (by rw[e1];omega) (by rw[e1];omega))).mono ?_;rintro v σ' ⟨rfl,rfl⟩;simp only[am,Nat.reduceAdd];refine aN rfl (ab.bc _) ⟨?_,by simp[ag.constant,h1,h2]⟩;simp[ag.constant,h1,h2,V.erase,aZ,Nd.enc,Bz]
  case' false.false =>
   simp only[am];refine(rV h).mono ?_;rintro v σ' ⟨rfl,rfl⟩;cases h3:rd.cD 91
  case' false.false.true =>
   simp only[am,Nat.reduceAdd];refine(Ia (DJ ajs) h (by omega) (Bn hm rfl) (λq i σ' e1 _ _ e4=>arC e4 (by have g1:=gj i.l;have g2:=(rd.wU 91).1;rw[<-e1] at g2;omega) (λx k ex=>Bn (by have g2:=(rd.wU 91).1;rw[<-e1] at g2;omega) ex))).mono ?_;rintro v σ' ⟨rfl,rfl⟩;simp only[am,Nat.reduceAdd];refine aN rfl (ab.bc _) ⟨?_,by simp[ag.constant,h1,h2,h3]⟩;simp[ag.constant,h1,h2,h3,V.erase,aZ,Nd.enc,Bz]
  case' false.false.false =>
   simp only[am];refine(Ac h (by omega)).mono ?_;rintro v σ' ⟨rfl,rfl⟩;simp only[am,aF.enc,Nat.reduceAdd];refine aN rfl (ab.bc _) ⟨?_,by simp[ag.constant,ag.leaf,h1,h2,h3]⟩;simp[ag.constant,ag.leaf,h1,h2,h3,V.erase,aZ,Nd.enc,sT]
def agk:aR prog 208 (sq [rg 0 [oZ 2 [0,0,1,7,10]],sq [rg 5 [om 0,oc 205 [.s 5,.c (.int .u8 35)]],ci 6 (sq [rg 7 [om 0,oc 206 [.s 7,.c (.int .u8 35)],oZ 3 [3,1,0,10,0],o2 5 3],dg 9 [of 0 3,nf 2,mM [1],no,om 0,oC 246 [12],n1 5,oG [0,0,1,7,10] [(0,1,.c (.int .i64 7)),(1,1,.s 11),(4,1,.s 14)],o2 5 2],.ret])],rg 16 [om 0,oC 204 [16],oZ 4 [1,0],o2 2 4],rg 18 [fo 1 4,fo 0 4,oG [0,0,1,7,10] [(0,1,.c (.int .i64 1)),(1,1,.s 19),(2,1,.s 21)],o2 5 2],.ret]) [.cell 2 aa 5] 23:=aS func208
def ago:aR prog 211 (sq [rg 0 [oZ 2 [0,0,1,7,10]],rg 4 [om 0,oC 204 [4],oZ 3 [1,0],o2 2 3],rg 6 [om 0,oc 206 [.s 6,.c (.int .u8 61)]],dg 8 [of 1 3,mM [1],no,of 0 3,mM [1],no,om 0,oC 208 [12],n1 5,oG [0,0,1,7,10] [(0,1,.c (.int .i64 11)),(1,1,.s 9),(2,1,.s 11),(4,1,.s 14)],o2 5 2],.ret]) [.cell 2 aa 5] 16:=aS func211
def Nd.len{n:Nd}:n.enc.length=5:=by rw[Nd.cS];rfl
def QO(h:Z.box r=U rd.enc)(hn:bE rd.l<=n)(hm:bE rd.l+1<=aJ):
 d_ 208 [.ptr (.out r) 0] Z (.agg (rd.atom n).1.enc) (Z.set r (rd.atom n).2.enc):=by
 have hlen:=gj rd.l;refine agk.aP ?_;simp only[aO,aX,am];refine(rV h).mono ?_;rintro v σ' ⟨rfl,rfl⟩;cases h1:rd.cD 35
 case' true =>
  simp only[am];refine(ym h (by omega)).mono ?_;rintro v σ' ⟨rfl,rfl⟩;simp only[am,cS,Nat.reduceAdd];refine bA.intro (abK n (ab.eY _ _ _) (by rw[ag.gk];exact hn) (by rw[ag.gk];exact hm)) ?_;simp only[am,Nd.len,Nd.one,Nd.cM,Nd.er,Nat.reduceAdd];refine aN rfl (ab.bc _) ⟨?_,by simp[ag.atom,h1]⟩;simp[ag.atom,h1,V.erase,aZ,Nd.enc,sT]
 case' false =>
  simp only[am];refine(Ac h (by omega)).mono ?_;rintro v σ' ⟨rfl,rfl⟩;simp only[am,aF.enc,Nat.reduceAdd];refine aN rfl (ab.bc _) ⟨?_,by simp[ag.atom,ag.leaf,h1]⟩;simp[ag.atom,ag.leaf,h1,V.erase,aZ,Nd.enc,sT]
def aei(h:Z.box r=U rd.enc)(hn:bE rd.l<=n)(hm:bE rd.l+1<=aJ):
 d_ 211 [.ptr (.out r) 0] Z (.agg (rd.field n).1.enc) (Z.set r (rd.field n).2.enc):=by
 have hlen:=gj rd.l;refine ago.aP ?_;simp only[aO,aX,am];refine(Ac h (by omega)).mono ?_;rintro v σ' ⟨rfl,rfl⟩;simp only[am,aF.enc,Nat.reduceAdd];have e1:rd.word.2.l=rd.l:=by simp[ag.word,ag.gk]
 refine(ym (ab.eY _ _ _) (by rw[e1];omega)).mono ?_;rintro v σ' ⟨rfl,rfl⟩;simp only[am];refine bA.intro (QO (n:=n) (ab.eY _ _ _) (by rw[ag.gk,e1];exact hn) (by rw[ag.gk,e1];exact hm)) ?_;simp only[am,Nd.len,Nd.one,Nd.cM,Nd.er,Nat.reduceAdd];refine aN rfl (ab.bc _) ⟨?_,by simp[ag.field]⟩;simp[ag.field,V.erase,aZ,Nd.enc,sT]
def afy:aR prog 158 (sq [rg 0 [oZ 2 [0,0,1,7,10]],sq [rg 9 [oq (.km 1 [(.c (.int .u8 43)),(.c (.int .u8 38))]),nL,oi 0],lp 10 0 (sq [rg 13 [oA 1 9 11,no,o1 4],sq [rg 15 [om 0,om 4,oC 205 [15,16],nn],ci 18 (.exit 1)],rg 19 [om 0,om 4,oC 206 [19,20],oZ 5 [3,1,0,10,0],o2 5 5],rg 6 [oi 8],sq [rg 22 [om 4,nu .eql 38],ci 23 (rg 6 [oi 9])],rg 25 [om 0,oc 207 [.s 25,.c (.int .u8 40),.c (.bool aq),.c (.fn (.func 158) [] [])],o1 24,oe 24 0,oe 24 1,ot 7 27,o1 8],rg 29 [om 6,of 0 5,nF 2,om 7,oW [0,0,1,7,10] [(0,1,29),(1,1,32),(4,1,33)],o2 5 2],.ret]) 35],rg 36 [om 0,oC 208 [36],o2 5 2],.ret]) [.cell 2 aa 5] 38:=aS func158
def H7(r:Nat)(rd:ag)(Z:ab)(i:{i:Nat // i<=2/\(1<=i->rd.cD 43=aq)/\(2<=i->rd.cD 38=aq)}):St :=
 ⟨[.ptr (.out r) 0,.any,.ptr (.au 0) 0,.any,.any,.any,.any,.any,.any,.sl .a9 1 [[.int .u8 43],[.int .u8 38]],.int .i64 2,.int .i64 (i.1:Nat)]++aj 26 .any,
  [[.int .i64 0,.int .i64 0,.aH [],.sl .a9 2 [],.sl .a9 5 []]],Z⟩
def Nd.FQ{n:Nd}{a b c d e:V}:over [a,b,c,d,e] n.enc=n.enc:=by rw[Nd.cS];rfl
def Nd.tk{n:Nd}:takeN 5 n.enc=U n.enc:=by rw[Nd.cS];rfl
def asV(r:ag)(k:Int):bE (r.take k).1.ae+1<=bE r.l\/bE (r.take k).1.ae=0:=by
 rcases r.vu k with ⟨_,_,e,_,_⟩ | ⟨e,_,_⟩
 .exact .inl ((r.wU k).2 e)
 .right;simp[ag.take,e,aA.zero,aA.ae,bE]
def als(h1:rd.cD 43=aq)(h2:rd.cD 38=aq)(hn:bE rd.l<=n):ag.label n rd=rd.atom n:=by
 cases n with
 | zero=>simp[ag.label,ag.atom,F5 (GD.1 hn)]
 | succ n=>simp[ag.label,h1,h2]
def Uw(ih:∀m,n=m+1->∀{r:Nat} {rd:ag} {Z:ab} (_:Z.box r=U rd.enc) (_:bE rd.l<=m) (_:bE rd.l+1<=aJ),
 d_ 158 [.ptr (.out r) 0] Z (.agg (ag.label m rd).1.enc) (Z.set r (ag.label m rd).2.enc)) {r:Nat} {rd:ag} {Z:ab} (h:Z.box r=U rd.enc) (hn:bE rd.l<=n) (hm:bE rd.l+1<=aJ) :
 d_ 158 [.ptr (.out r) 0] Z (.agg (ag.label n rd).1.enc) (Z.set r (ag.label n rd).2.enc):=by
 have hlen:=gj rd.l;have gg:∀k,rd.cD k=aa->∃m,n=m+1:=λk hk=>by
  cases n with
  | zero=>rw[F5 (GD.1 hn)] at hk;simp at hk
  | succ m=>exact⟨m,rfl⟩
 have ae:∀(m:Nat) (k:Int),n=m+1->∀(q:Nat) (i:ag) (Z:ab),i.l=((rd.take k).2.take 40).1.ae->0<=i.at_->i.at_<=i.l.length->Z.box q=U i.enc->d_ 158 [.ptr (.out q) 0] Z (.agg (ag.label m i).1.enc) (Z.set q (ag.label m i).2.enc):=λm k e q i Z e1 _ _ e4=>by
  have g1:=((rd.take k).2.wU 40).1;have g2:=asV (rd.take k).2 40;rw[ag.gk,<-e1] at g1 g2;exact ih m e e4 (by omega) (by omega)
 refine afy.aP ?_;simp only[aO,aX,am];refine dP (λi=>H7 r rd Z i) (λi=>2 - i.1) ?_ ?_
 .refine a7.enter ⟨0,by omega,by omega,by omega⟩ ?_ ?_ br.rfl
  .simp[H7,aj,am]
  .simp[H7,am]
 .rintro⟨i,hi,sH,hi2⟩;simp only[H7,aj,am];have LH:i=0\/i=1\/i=2:=by omega
  rcases LH with rfl | rfl | rfl
  .simp only[am,show(((0:Nat):Int)<2)=True by simp,bL];refine ka (c:=[.int .u8 43]) rfl ?_;simp only[am];refine(rV h).mono ?_;rintro v σ' ⟨rfl,rfl⟩;cases h1:rd.cD 43
   .simp only[am];rw[wrap_i64];exact a7.again ⟨1,by omega,λ_=>rfl,by omega⟩ (by simp) (by simp[am]) bV.rfl br.rfl
   .have R6:decide ((43:Int)=38)=false:=by simp
    obtain⟨m,rfl⟩:=gg _ h1;simp only[am];refine(ym h (by omega)).mono ?_;rintro v σ' ⟨rfl,rfl⟩;simp only[am,cS,Nat.reduceAdd,R6];refine(Ia (DJ (K8 m)) (ab.eY _ _ _) (by rw[ag.gk];omega) (Bn hm (ag.gk _ _)) (ae m 43 rfl)).mono ?_;rintro v σ' ⟨rfl,rfl⟩;simp only[am,Nat.reduceAdd];refine aN rfl (ab.bc _) ⟨?_,by simp[ag.label,h1]⟩;simp[ag.label,h1,V.erase,aZ,Nd.enc,Bz]
  .have oD:=sH (by omega);simp only[am,show(((1:Nat):Int)<2)=True by simp,bL];refine ka (c:=[.int .u8 38]) rfl ?_;simp only[am];refine(rV h).mono ?_;rintro v σ' ⟨rfl,rfl⟩;cases h1:rd.cD 38
   .simp only[am];rw[wrap_i64];exact a7.again ⟨2,by omega,λ_=>oD,λ_=>rfl⟩ (by simp) (by simp[am]) bV.rfl br.rfl
   .have R6:decide ((38:Int)=38)=true:=by simp
    obtain⟨m,rfl⟩:=gg _ h1;simp only[am];refine(ym h (by omega)).mono ?_;rintro v σ' ⟨rfl,rfl⟩;simp only[am,cS,Nat.reduceAdd,bL];refine(Ia (DJ (K8 m)) (ab.eY _ _ _) (by rw[ag.gk];omega) (Bn hm (ag.gk _ _)) (ae m 38 rfl)).mono ?_;rintro v σ' ⟨rfl,rfl⟩;simp only[am,Nat.reduceAdd];refine aN rfl (ab.bc _) ⟨?_,by simp[ag.label,oD,h1]⟩;simp[ag.label,oD,h1,V.erase,aZ,Nd.enc,Bz]
  .have oD:=sH (by omega);have Fb:=hi2 (by omega);simp only[am,show(((2:Nat):Int)<2)=False by simp,c9];refine(QO h hn hm).mono ?_;rintro v σ' ⟨rfl,rfl⟩;simp only[am,Nd.len,Nd.one,Nd.FQ,Nd.tk];rw[als oD Fb hn];refine aN (by simp only[am,Nd.cM]) (ab.bc _) ⟨?_,rfl⟩;simp only[am,Nd.er]
def alr:∀(n:Nat) {r:Nat} {rd:ag} {Z:ab} (_:Z.box r=U rd.enc) (_:bE rd.l<=n) (_:bE rd.l+1<=aJ),
 d_ 158 [.ptr (.out r) 0] Z (.agg (ag.label n rd).1.enc) (Z.set r (ag.label n rd).2.enc):=by
 intro n;induction n with
 | zero=>exact λh hn hm=>Uw (λm e=>by omega) h hn hm
 | succ n ih=>exact λh hn hm=>Uw (λm e=>Nat.succ.inj e▸ih) h hn hm
def agn:aR prog 210 (dH 2 ⟨5,(.s 3),(.s 7),(.s 6),(.s 5),(.s 0),(U 4),8,9,10⟩ [of 4 0,mM [1],no,oo 1,oC 211 [4],oL 3,oq (.km 5 [(.c (.agg [(.int .i64 0),(.int .i64 0),(.aH []),(.sl .a9 2 []),(.sl .a9 5 [])]))]),oq (.mv (.c .any)),oq (.mv (.c .any)),oN,oq (.mv (.c .any)),oN]) [] 11:=aS func210
def iE(D:Nat)(al rows:List (List V)):List V:=[.int .i64 10,.int .i64 0,.aH [],.sl .a9 2 al,.sl (.tk D) 5 rows]
def aq8{al rows:List (List V)}(ho:Z.box o=U (iE D al rows))(hp:Z.box p=U [.ptr (.out q) 0])(hq:Z.box q=U rd.enc)
 (Mf:o≠q) (ht:Z.aY D=U rows.length) (hb:rows.length+1<=aJ) (hn:bE rd.l<=n) (hm:bE rd.l+1<=aJ) :
 d_ 210 [.ptr (.out o) 0,.ptr (.out p) 0] Z (.bz []) (((Z.set q (rd.field n).2.enc).set o (iE D al (rows++[(rd.field n).1.enc]))).ba D (rows.length+1)):=by
 unfold iE at ho ⊢;refine agn.aP ?_;simp only[aO,aX,am,ho,hp];refine bA.intro (aei (n:=n) hq hn hm) ?_;have h1:(Z.set q (rd.field n).2.enc).box o=U [.int .i64 10,.int .i64 0,.aH [],.sl .a9 2 al,.sl (.tk D) 5 rows]:=by rw[ab.e9 _ _ Mf];exact ho
 simp only[am,h1];refine TP (D:=D) (m:=rows) (cs:=(rd.field n).1.enc) (p:=.ptr (.out o) 4) rfl rfl rfl hb ht ⟨Nd.wd,Nd.one,Nd.cM⟩ Nd.er (by simp) rfl (by simp only[am,h1];rfl) ?_;simp only[am];exact aN rfl (ab.bc _) ⟨rfl,rfl⟩
def agl:aR prog 209 (sq [rg 0 [od (U 2) (.gY 1 (.s 0))],sq [rg 3 [no,oc 205 [.s 3,.c (.int .u8 124)],nn],ci 5 (rg 6 [oo 2,oq (.kb (.func 210) [] [(.s 1),(.s 2)]),oC 202 [6,7]])],rg 9 [oo 2,oc 205 [.s 9,.c (.int .u8 124)]],ci 10 (sq [rg 11 [oo 2,oc 206 [.s 11,.c (.int .u8 124)]],rg 13 [oo 2,oC 204 [13],n1 2,of 3 1,os 1 16 15]])]) [] 17:=aS func209 ⟨[2],[]⟩
def hZ(Z:ab)(q o D:Nat)(rd:ag)(al rows:List (List V)):ab:=((Z.set q rd.enc).set o (iE D al rows)).ba D rows.length
def AP{al rows:List (List V)}(h:q≠o):(hZ Z q o D rd al rows).box q=U rd.enc:=by
 simp[hZ,ab.ba,ab.set,h]
def K1{al rows:List (List V)}:(hZ Z q o D rd al rows).box o=U (iE D al rows):=by
 simp[hZ,ab.ba,ab.set]
def K3{al rows:List (List V)}(h:p≠q)(h' : p≠o):(hZ Z q o D rd al rows).box p=Z.box p:=by
 simp[hZ,ab.ba,ab.set,h,h']
def SL{al rows:List (List V)}(h:p≠q)(h' : p≠o):(hZ Z q o D rd al rows).set p cs=hZ (Z.set p cs) q o D rd al rows:=by
 have:((Z.set q rd.enc).set o (iE D al rows)).set p cs=((Z.set p cs).set q rd.enc).set o (iE D al rows):=by
  rw[ab.set_comm (fL h'),ab.set_comm (b:=q) (fL h)]
 show(((Z.set q rd.enc).set o (iE D al rows)).set p cs).ba D rows.length=_;rw[this];rfl
def ajb{al rows:List (List V)}:(hZ Z q o D rd al rows).aY D=U rows.length:=by
 simp[hZ,ab.ba]
def Hl{al rows:List (List V)}(h:q≠o):(hZ Z q o D rd al rows).set q kF.enc=hZ Z q o D kF al rows:=by
 have:((Z.set q rd.enc).set o (iE D al rows)).set q kF.enc=(Z.set q kF.enc).set o (iE D al rows):=by rw[ab.set_comm (fL h),ab.set_set]
 show(((Z.set q rd.enc).set o (iE D al rows)).set q kF.enc).ba D rows.length=_;rw[this];rfl
def ai'{al NR rows:List (List V)}:(hZ Z q o D rd al rows).set o (iE D NR rows)=hZ Z q o D rd NR rows:=by
 show(((Z.set q rd.enc).set o (iE D al rows)).set o (iE D NR rows)).ba D rows.length=_;rw[ab.set_set];rfl
def aja{al rows:List (List V)}{c:List V}(h:q≠o):(((hZ Z q o D rd al rows).set q kF.enc).set o (iE D al (rows++[c]))).ba D (rows.length+1)=hZ Z q o D kF al (rows++[c]):=by
 rw[Hl h];unfold hZ;rw[bW,da,cZ];show((((Z.set q kF.enc).set o (iE D al rows)).set o (iE D al (rows++[c]))).ba D rows.length).ba D (rows.length+1)=_;rw[ab.set_set,eJ]
def FW(one:ag->Nd × ag)(Z:ab)(q o D:Nat):Sys (ag × List Nd):=⟨λa=>hZ Z q o D a.1 [] (a.2.map Nd.enc),λa=>a.1,λa r=>(r,a.2),cV one⟩
def XC{one:ag->Nd × ag}(h:Reads one)(r:ag):(eZ (cV one) r).1.l=r.l:=K7 (NX h _) _ _ (NX h _ _ rfl)
def aq9(eh:q≠o)(dp:rd.at_=0)(bZ:rd.aQ=ah)(hn:bE rd.l<=n)(hm:bE rd.l+1<=aJ):
 d_ 209 [.ptr (.out q) 0,.ptr (.out o) 0] (hZ Z q o D rd [] []) (.bz []) (hZ Z q o D (rd.qi n).1.1 ((rd.qi n).2.map aF.enc) ((rd.qi n).1.2.map Nd.enc)):=by
 have hlen:=gj rd.l;have ES:Reads (ag.field n):=DJ (S0 n);refine agl.aP ?_;simp only[aO,aX,am];refine kx λp hp=>?_
 have kU:p≠q:=by rintro rfl;rw[AP eh] at hp;simp at hp
 have mf:p≠o:=by rintro rfl;rw[K1] at hp;simp at hp
 rw[K3 kU mf] at hp;rw[SL kU mf];have xQ:∀a b c,(hZ (Z.set p [.ptr (.out q) 0]) q o D a b c).box p=U [.ptr (.out q) 0]:=λa b c=>by rw[K3 kU mf,ab.eY]
 have rB:∀a b c,(hZ Z q o D a b c).sub (hZ (Z.set p [.ptr (.out q) 0]) q o D a b c):=λa b c=>by
  rw[<-SL kU mf];exact iS (by rw[K3 kU mf];exact hp)
 simp only[am,xQ];refine(rV (AP eh)).mono ?_;rintro v σ' ⟨rfl,rfl⟩;cases h1:rd.cD 124
 all_goals simp only[am,xQ]
 case' false =>
  have tS:∀a:ag × List Nd,qx rd.l a->a.1.aQ=ah->cF prog 210 [.ptr (.out o) 0,.ptr (.out p) 0] (hZ (Z.set p [.ptr (.out q) 0]) q o D a.1 [] (a.2.map Nd.enc)) λv σ' =>
   v = .bz []/\σ' = hZ (Z.set p [.ptr (.out q) 0]) q o D (cV (ag.field n) a).1 [] ((cV (ag.field n) a).2.map Nd.enc):=λa lC hb=>by
   have hl:=lC.2.2.2 hb;have gf:=lC.2.2.1;refine(aq8 (n:=n) K1 (xQ _ _ _) (AP eh) (fL eh) ajb (by rw[aD];omega) (by rw[lC.1];exact hn) (by rw[lC.1];exact hm)).mono ?_;rintro v σ' ⟨rfl,rfl⟩;refine⟨rfl,?_⟩;rw[aja eh];simp[cV]
  have h0:qx rd.l (rd,([]:List Nd)):=⟨rfl,by simp[dp],by simp[dp],λ_=>by simp[dp]⟩;obtain⟨p1,_⟩:=IA ES h0 bZ;refine(O2 (FW (ag.field n) (Z.set p [.ptr (.out q) 0]) q o D) (qx rd.l) (a:=(rd,[])) (n:=rd.l.length) (by simp[am]) (λa h=>AP eh) (λa h=>?_) (λa h hs=>Hl eh) (λa h hs=>?_) (tS _ h0 bZ) p1 ?_).mono ?_
  .show a.1.l.length<=aJ;rw[h.1];omega
  .obtain⟨k1,k2,k3⟩:=N' h hs;obtain⟨k4,k5⟩:=IA ES k1 k2;refine⟨tS _ k1 k2,k4,?_,?_⟩
   .exact k4.1.trans h.1.symm
   .show a.1.at_+1<=_;simp only at k5;rw[k3] at k5;exact k5
  .show(cV (ag.field n) (rd,[])).1.l.length<=rd.l.length;rw[p1.1];omega
  rintro v σ' ⟨rfl,rfl⟩;have e:(FW (ag.field n) (Z.set p [.ptr (.out q) 0]) q o D).F ((FW (ag.field n) (Z.set p [.ptr (.out q) 0]) q o D).go rd.l.length ((FW (ag.field n) (Z.set p [.ptr (.out q) 0]) q o D).step (rd,[])))=hZ (Z.set p [.ptr (.out q) 0]) q o D (eZ (cV (ag.field n)) rd).1 [] ((eZ (cV (ag.field n)) rd).2.map Nd.enc):=by
   unfold FW;rw[Hp];rfl
  rw[e];have hl:=XC ES rd;have bI:rd.qi n=if (eZ (cV (ag.field n)) rd).1.cD 124=aa then((((eZ (cV (ag.field n)) rd).1.take 124).2.word.2,(eZ (cV (ag.field n)) rd).2),[((eZ (cV (ag.field n)) rd).1.take 124).2.word.1]) else(eZ (cV (ag.field n)) rd,[]):=by
   simp only[ag.qi,h1,dm,ch]
  generalize eZ (cV (ag.field n)) rd=a at hl bI ⊢;simp only[am,xQ]
 case' true =>
  have bI:rd.qi n=if rd.cD 124=aa then(((rd.take 124).2.word.2,[]),[(rd.take 124).2.word.1]) else((rd,[]),[]):=by
   simp only[ag.qi,h1,cH]
  have hl:rd.l=rd.l:=rfl;rw[show hZ (Z.set p [.ptr (.out q) 0]) q o D rd [] []=hZ (Z.set p [.ptr (.out q) 0]) q o D (rd,([]:List Nd)).1 [] ((rd,([]:List Nd)).2.map Nd.enc) from rfl];have bI:rd.qi n=if (rd,([]:List Nd)).1.cD 124=aa then((((rd,([]:List Nd)).1.take 124).2.word.2,(rd,([]:List Nd)).2),[((rd,([]:List Nd)).1.take 124).2.word.1]) else((rd,([]:List Nd)),[]):=bI
  have hl:(rd,([]:List Nd)).1.l=rd.l:=rfl;generalize (rd,([]:List Nd))=a at hl bI ⊢
 all_goals
  refine(rV (AP eh)).mono ?_;rintro v σ' ⟨rfl,rfl⟩;cases h2:a.1.cD 124
  .simp only[am,bI,h2];exact aN rfl (rB _ _ _) ⟨rfl,rfl⟩
  .simp only[am,xQ];refine(ym (AP eh) (by rw[hl];omega)).mono ?_;rintro v σ' ⟨rfl,rfl⟩;rw[Hl eh];simp only[am,xQ];refine(Ac (AP eh) (by rw[ag.gk,hl];omega)).mono ?_;rintro v σ' ⟨rfl,rfl⟩;rw[Hl eh];simp only[am,aF.enc,K1,iE,Nat.reduceAdd];rw[show [V.int .i64 10,.int .i64 0,.aH [],.sl .a9 2 [[.aH (a.1.take 124).2.word.1.ar,.int .i64 (a.1.take 124).2.word.1.pos]],.sl (.tk D) 5 (a.2.map Nd.enc)]=iE D ([(a.1.take 124).2.word.1].map aF.enc) (a.2.map Nd.enc) from rfl,ai'];exact aN rfl (rB _ _ _) ⟨rfl,by rw[bI,aI h2]⟩
def afz:aR prog 159 (sq [rg 0 [oZ 2 [0,0,1,7,10]],sq [rg 5 [om 0,oc 205 [.s 5,.c (.int .u8 91)],nn],ci 7 (sq [rg 8 [om 0,oC 204 [8],oZ 3 [1,0],o2 2 3],rg 10 [fo 1 3,fo 0 3,oG [0,0,1,7,10] [(0,1,.c (.int .i64 1)),(1,1,.s 11),(2,1,.s 13)],o2 5 2],.ret])],rg 15 [oG [0,0,1,7,10] [(0,1,.c (.int .i64 10))],od (U 4) (.qy [(.int .i64 0),(.int .i64 0),(.aH []),(.sl .a9 2 []),(.sl .a9 5 [])]),o2 5 4],.kK (rg 16 [om 0,oq (.kb (.func 209) [] [(.s 4)]),oc 200 [.s 16,.c (.int .u8 91),.c (.bool aa),.s 17],of 1 4,os 1 19 18]),rg 20 [ol 5 4,o2 5 2],.ret]) [.cell 2 aa 5] 21:=aS func159 ⟨[4],[5]⟩
def asP{a b:ab}{C:List V}(h:a.sub b)(k:a.box o=ah):a.sub (b.set o C):=by
 refine⟨λx cs hx=>?_,h.2⟩
 have:x≠o:=by rintro rfl;rw[k] at hx;simp at hx
 rw[ab.e9 _ _ this];exact h.1 x cs hx
def aq'(i:ag):(i.qi n).1.1.l=i.l:=by
 have ES:Reads (ag.field n):=DJ (S0 n);cases h1:i.cD 124
 .cases h2:(eZ (cV (ag.field n)) i).1.cD 124<;>simp[ag.qi,h1,h2,ag.word,ag.gk,XC ES]
 .simp[ag.qi,h1,ag.word,ag.gk]
def arc(t:aA):(ag.rowOf n t).1.1.l=t.ae:=by
 unfold ag.rowOf;split
 .rfl
 .rw[aq'];rfl
def auU(h:Z.box r=U rd.enc)(hn:bE rd.l<=n)(hm:bE rd.l+1<=aJ):
 d_ 159 [.ptr (.out r) 0] Z (.agg (rd.row n).1.enc) (Z.set r (rd.row n).2.enc):=by
 have hlen:=gj rd.l;refine afz.aP ?_;simp only[aO,aX,am];refine(rV h).mono ?_;rintro v Z ⟨rfl,rfl⟩;cases h1:rd.cD 91
 .simp only[am];refine(Ac h (by omega)).mono ?_;rintro v σ' ⟨rfl,rfl⟩;simp only[am,aF.enc,Nat.reduceAdd];refine aN rfl (ab.bc _) ⟨?_,by simp[ag.row,ag.leaf,h1]⟩;simp[ag.row,ag.leaf,h1,V.erase,aZ,Nd.enc,sT]
 .simp only[am];refine kx λo ho=>?_
  have jU:o≠r:=by rintro rfl;rw[h] at ho;simp at ho
  simp only[am];refine a7.tok 0 λD a_=>⟨_,_,_,fm.rfl,rfl,λi c hc=>⟨c,hc,fm.rfl⟩,se.set (cs:=[.int .i64 10,.int .i64 0,.aH [],.sl .a9 2 [],.sl .a9 5 []]) (cs' := iE D [] []) (ab.eY _ _ _) ⟨jP.same,jP.same,jP.same,jP.same,jP.tok rfl,trivial⟩,?_⟩
  simp only[am];have rq : ((Z.set o (iE D [] [])).ba D 0).box r=U rd.enc:=by
   show(Z.set o _).box r=_;rw[ab.e9 _ _ (fL jU)];exact h
  have bh:∀q,((Z.set o (iE D [] [])).ba D 0).box q=ah->q≠o/\q≠r/\Z.box q=none:=λq hq=>by
   have eh:q≠o:=by rintro rfl;rw[show((Z.set q (iE D [] [])).ba D 0).box q=_ from ab.eY _ _ _] at hq;simp at hq
   have n_ : Z.box q=none:=by rw[<-ab.e9 Z (iE D [] []) eh];exact hq
   exact⟨eh,by rintro rfl;rw[h] at n_;simp at n_,n_⟩
  have pR:bE (rd.take 91).1.ae<=bE rd.l:=(rd.wU 91).1;have avk:=gj (rd.take 91).1.ae;generalize eP:ag.rowOf n (rd.take 91).1=ins;have EU:ins.1.1.l=(rd.take 91).1.ae:=by rw[<-eP];exact arc _
  refine(Py (kind:=91) (by simp[am]) rq (by omega) (by omega) ins.1.1 ((Z.set o (iE D (ins.2.map aF.enc) (ins.1.2.map Nd.enc))).ba D (ins.1.2.map Nd.enc).length) ?_ ?_ ?_ EU).mono ?_
  .intro cc hc q hq;obtain⟨eh,kV,_⟩:=bh q hq;have e1:(((Z.set o (iE D [] [])).ba D 0).set r (rd.take 91).2.enc).set q (rd.take 91).1.inner.enc=hZ (Z.set r (rd.take 91).2.enc) q o D (rd.take 91).1.inner [] []:=by
    unfold hZ;rw[ab.set_comm (b:=q) eh,ab.set_comm (b:=r) (fL jU)];rfl
   have e2:(((Z.set o (iE D (ins.2.map aF.enc) (ins.1.2.map Nd.enc))).ba D (ins.1.2.map Nd.enc).length).set r (rd.take 91).2.enc).set q ins.1.1.enc=hZ (Z.set r (rd.take 91).2.enc) q o D ins.1.1 (ins.2.map aF.enc) (ins.1.2.map Nd.enc):=by
    unfold hZ;rw[ab.set_comm (b:=q) eh,ab.set_comm (b:=r) (fL jU)];rfl
   have e3:ins=(rd.take 91).1.inner.qi n:=by
    rw[<-eP,ag.rowOf,aw]
    rcases hc with hc | hc
    .simp at hc
    .exact hc
   rw[e1,e2,e3];exact aq9 eh rfl rfl (by show bE (rd.take 91).1.ae<=n;omega) (by show bE (rd.take 91).1.ae+1<=aJ;omega)
  .intro q1 q2
   have:ins=(((rd.take 91).1.inner,[]),[]):=by rw[<-eP,ag.rowOf,aI q2]
   rw[this];exact⟨rfl,rfl⟩
  .intro q hq;obtain⟨eh,_,n_⟩:=bh q hq;show(Z.set o _).box q=ah;rw[ab.e9 _ _ eh];exact n_
  rintro v σ' hv;have zc:∀(A B:List V) (n:Nat),(Z.set r A).sub (((Z.set o B).ba D n).set r A):=λA B n=>by
   refine⟨λb cs hb=>?_,λO m hm=>?_,λ_ _ h=>h⟩
   .have EN:b≠o:=by rintro rfl;rw[ab.e9 _ _ jU,ho] at hb;simp at hb
    by_cases we:b=r
    .subst we;rw[ab.eY] at hb ⊢;exact hb
    .rw[ab.e9 _ _ we] at hb ⊢;show(Z.set o B).box b=_;rw[ab.e9 _ _ EN];exact hb
   .have qH : Z.aY O=U m:=hm;have A9 : O≠D:=by rintro rfl;rw[show(Z.set o [V.int .i64 10,.int .i64 0,.aH [],.sl .a9 2 [],.sl .a9 5 []]).aY O=Z.aY O from rfl] at a_;rw[a_] at qH;simp at qH
    show((Z.set o B).ba D n).aY O=U m;rw[zR A9];exact qH
  have cc:(rd.take 91).2.ok=true:=by
   rcases rd.vu 91 with ⟨_,_,e,_,_⟩ | ⟨e,_,_⟩
   .simp[ag.ok,e]
   .rw[h1] at e;simp at e
  rw[aI cc] at hv;obtain⟨rfl,rfl⟩:=hv;have hb:(((Z.set o (iE D (ins.2.map aF.enc) (ins.1.2.map Nd.enc))).ba D (ins.1.2.map Nd.enc).length).set r ((rd.take 91).2.under ins.1.1).enc).box o=U (iE D (ins.2.map aF.enc) (ins.1.2.map Nd.enc)):=by
   rw[ab.e9 _ _ jU];exact ab.eY _ _ _
  simp only[iE] at hb zc ⊢;simp only[am,hb,Nat.reduceAdd];refine aN rfl (asP (zc _ _ _) (by rw[ab.e9 _ _ jU];exact ho)) ⟨?_,by simp[ag.row,h1,eP]⟩;simp[ag.row,h1,eP,V.erase,aZ,Nd.enc,Bz]
def aeE:aR prog 104 (sq [rg 6 [oz 7,oM [0,0]],rg 11 [om 0,om 1,om 2,oW [10,0,0,0,0] [(0,1,11),(1,1,12),(2,1,13)],oq (.gY 5 (.s 14)),o1 8],rg 17 [om 8,oc 155 [.s 17,.c (.bool aq)],o1 16,oe 16 0,oe 16 1,ot 9 19,o1 10],sq [rg 21 [om 8,oC 156 [21],nn],ci 23 (sq [dg 24 [mk 8,nf 3,nl 2,oU 6 7,o2 2 7],.ret])],rg 28 [om 9,oW [0,0] [],ot 6 28,o2 2 7],.ret]) [.tmp 6,.cell 7 aa 2] 30:=aS func104 ⟨[15],[]⟩
def aeH:aR prog 107 (sq [rg 7 [oZ 6 [0,0,1,7,10],oi 0,oM [0,0]],rg 9 [om 0,om 1,om 2,oc 157 [.s 9,.s 10,.s 11,.c (.fn (.func 158) [] [])],oe 12 0,oe 12 1,oe 12 2,os 5 6 13,ot 7 14,o2 2 8],.ret]) [.cell 6 aa 5,.tmp 7,.cell 8 aa 2] 16:=aS func107
def aeI:aR prog 108 (sq [rg 7 [oZ 6 [0,0,1,7,10],oi 0,oM [0,0]],rg 9 [om 0,om 1,om 2,oc 157 [.s 9,.s 10,.s 11,.c (.fn (.func 159) [] [])],oe 12 0,oe 12 1,oe 12 2,os 5 6 13,ot 7 14,o2 2 8],.ret]) [.cell 6 aa 5,.tmp 7,.cell 8 aa 2] 16:=aS func108
def afx:aR prog 157 (sq [rg 9 [oZ 8 [0,0,1,7,10],oi 0,oM [0,0]],rg 13 [om 0,om 1,om 2,oW [10,0,0,0,0] [(0,1,13),(1,1,14),(2,1,15)],oq (.gY 5 (.s 16)),o1 11],rg 18 [om 3,om 11,oq (.iV (.s 18) [(.s 19)]),oZ 12 [0,0,1,7,10],o2 5 12],sq [rg 21 [om 11,oC 156 [21],nn],ci 23 (sq [dg 24 [oW [0,0,1,7,10] [],mk 11,nf 3,mM [1],nl 2,os 5 8 24,oj 9 0,o2 2 10],.ret])],dg 29 [ol 5 12,mk 11,nf 1,mM [1],no,oW [0,0] [],os 5 8 29,ot 9 33,o2 2 10],.ret]) [.cell 8 aa 5,.tmp 9,.cell 10 aa 2] 35:=aS func157 ⟨[17],[]⟩
def jm(b:Option Int):V:=.agg [.int .i64 (dn b),.int .i64 (fB b)]
def Yw{one:ag->Nd × ag}{at_ fin:Int}
 (fG:∀q (Z:ab),Z.box q=U (⟨l,at_,fin,ah⟩:ag).enc->d_ g [.ptr (.out q) 0] Z (.agg (one ⟨l,at_,fin,ah⟩).1.enc) (Z.set q (one ⟨l,at_,fin,ah⟩).2.enc)) :
 aT 157 [.sl .no 5 (cm l),.int .i64 at_,.int .i64 fin,.fn (.func g) [] []] Z (.bz [.agg (iR one l at_ fin).1.enc,.int .i64 (iR one l at_ fin).2.1,jm (iR one l at_ fin).2.2]):=by
 refine afx.aP ?_;simp only[aO,aX,am];refine kx λq hq=>?_
 rw[show [V.sl .no 5 (cm l),.int .i64 at_,.int .i64 fin,.int .i64 0,.int .i64 0]=(⟨l,at_,fin,ah⟩:ag).enc from rfl];simp only[am];refine(fG q _ (ab.eY _ _ _)).mono ?_;rintro v σ' ⟨rfl,rfl⟩;have hb:=ab.eY Z q (one ⟨l,at_,fin,ah⟩).2.enc;have bI:iR one l at_ fin=match (one ⟨l,at_,fin,ah⟩).2.aQ with | some b=>(.zero,0,U b) | none=>((one ⟨l,at_,fin,ah⟩).1,(one ⟨l,at_,fin,ah⟩).2.at_,ah):=rfl
 generalize one ⟨l,at_,fin,ah⟩=o at hb bI ⊢;simp only[am,Nd.len,Nd.one,Nd.FQ];refine(x_ (ab.eY _ _ _)).mono ?_;rintro v σ' ⟨rfl,rfl⟩;cases h:o.2.aQ with
 | some b =>
  simp only[am,ag.ok,h,Option.isNone,ag.ex,Nat.reduceAdd];rw[h] at bI;refine aN rfl (iS hq) ⟨?_,rfl⟩;simp[bI,V.erase,aZ,Nd.zero,Nd.enc,sT,jm]
 | none =>
  simp only[am,ag.ok,h,Option.isNone,ag.ex,Nat.reduceAdd,Nd.len,Nd.one,Nd.FQ,Nd.tk];rw[h] at bI;refine aN (by simp only[am,Nd.cM]) (iS hq) ⟨?_,rfl⟩;simp[bI,V.erase,aZ,jm,Nd.er,dn,fB]
def YP{at_ fin:Int}(hn:bE l<=n)(hm:bE l+1<=aJ):
 aT 107 [.sl .no 5 (cm l),.int .i64 at_,.int .i64 fin] Z (.bz [.agg (iR (ag.label n) l at_ fin).1.enc,.int .i64 (iR (ag.label n) l at_ fin).2.1,jm (iR (ag.label n) l at_ fin).2.2]):=by
 refine aeH.aP ?_;simp only[aO,aX,am];refine(Yw (one:=ag.label n) (λq Z h=>alr n h hn hm)).mono ?_;rintro v Z ⟨rfl,rfl⟩;generalize iR (ag.label n) l at_ fin=o;simp only[am,jm,Nd.len,Nd.FQ,Nd.tk,Nd.one];refine aN (by simp only[am,Nd.cM]) (ab.bc _) ⟨?_,rfl⟩;simp[V.erase,aZ,Nd.er]
def Y7{at_ fin:Int}(hn:bE l<=n)(hm:bE l+1<=aJ):
 aT 108 [.sl .no 5 (cm l),.int .i64 at_,.int .i64 fin] Z (.bz [.agg (iR (ag.row n) l at_ fin).1.enc,.int .i64 (iR (ag.row n) l at_ fin).2.1,jm (iR (ag.row n) l at_ fin).2.2]):=by
 refine aeI.aP ?_;simp only[aO,aX,am];refine(Yw (one:=ag.row n) (λq Z h=>auU (n:=n) h hn hm)).mono ?_;rintro v Z ⟨rfl,rfl⟩;generalize iR (ag.row n) l at_ fin=o;simp only[am,jm,Nd.len,Nd.FQ,Nd.tk,Nd.one];refine aN (by simp only[am,Nd.cM]) (ab.bc _) ⟨?_,rfl⟩;simp[V.erase,aZ,Nd.er]
def Y_{at_ fin:Int}(hm:bE l+1<=aJ):
 aT 104 [.sl .no 5 (cm l),.int .i64 at_,.int .i64 fin] Z (.bz [.sl .no 2 ((pw l at_ fin).1.map aF.enc),jm (pw l at_ fin).2]):=by
 have hlen:=gj l;refine aeE.aP ?_;simp only[aO,aX,am];refine kx λq hq=>?_
 rw[show [V.sl .no 5 (cm l),.int .i64 at_,.int .i64 fin,.int .i64 0,.int .i64 0]=(⟨l,at_,fin,ah⟩:ag).enc from rfl];simp only[am];refine(PG (ab.eY _ _ _) (by simp only;omega) (Bn hm rfl)).mono ?_;rintro v σ' ⟨rfl,rfl⟩;have hb:=ab.eY Z q ((⟨l,at_,fin,ah⟩:ag).words aq).2.enc;have bI:pw l at_ fin=match ((⟨l,at_,fin,ah⟩:ag).words aq).2.aQ with | some b=>([],U b) | none=>(((⟨l,at_,fin,ah⟩:ag).words aq).1.1,ah):=rfl
 generalize (⟨l,at_,fin,ah⟩:ag).words aq=o at hb bI ⊢;simp only[am];refine(x_ (ab.eY _ _ _)).mono ?_;rintro v σ' ⟨rfl,rfl⟩;cases h:o.2.aQ with
 | some b =>
  simp only[am,ag.ok,h,Option.isNone,ag.ex,Nat.reduceAdd];rw[h] at bI;refine aN rfl (iS hq) ⟨?_,rfl⟩;simp[bI,V.erase,aZ,jm]
 | none =>
  simp only[am,ag.ok,h,Option.isNone];rw[h] at bI;refine aN rfl (iS hq) ⟨?_,rfl⟩;simp[bI,V.erase,aZ,jm,dn,fB]
def afZ:aR prog 183 (sq [rg 6 [oz 2],rg 7 [om 1,nB .geq 0,gA,om 1,om 0,nL,nb .lss 10,gZ,gA,om 0,om 1,nA 5 16,nf 0,nF 0,om 2,nb .eql 21,gZ,o1 6],.ret]) [.tmp 6] 25:=aS func183
def af0:aR prog 184 (sq [rg 0 [oZ 6 [0,0,1,7,10,0,2,0]],sq [rg 7 [om 1,nB .geq 0,gA,om 1,om 0,nL,nb .lss 10,gZ],cr 14 15 [om 0,om 1,nA 5 15,nf 0,nF 2,oG [0,0,1,7,10,0,2,0] [(6,1,.c (.bool aa)),(7,1,.s 20)],o2 8 6]],rg 22 [om 2,oG [0,0,1,7,10,0,2,0] [(6,1,.c (.bool aa)),(7,1,.s 22)],o2 8 6],.ret]) [.cell 6 aa 8] 24:=aS func184
def Sz:aR prog 188 (sq [rg 8 [oz 10,oM [0,0,1,7,10,0,2,0]],rg 10 [oz 10],bl 0 (.block 1 (sq [rg 12 [om 0,om 1,om 2,om 3,oC 189 [12,13,14,15],oZ 11 [0,0,1,7,10,0,2,0],o2 8 11],sq [rg 17 [fo 6 11],ci 18 (sq [dg 19 [ol 8 11,oU 8 10,o2 8 9],.ret])],rg 20 [om 10,of 0 11,nl 5,n1 5,na 5 20,o1 10],sq [rg 25 [om 1,fo 5 11,oc 183 [.s 25,.s 27,.c (.int .u8 44)],nn],ci 29 (sq [dg 30 [om 10,ol 8 11,ot 8 30,o2 8 9],.ret])],rg 32 [fo 5 11,nB .add 1,o1 2]]))]) [.tmp 8,.cell 9 aa 8] 35:=aS func188
def CK:aR prog 189 (sq [rg 0 [oZ 8 [0,0,1,7,10,0,2,0]],sq [rg 9 [om 0],.block 0 (sq [rg 11 [oB .eql 9 1,o1 10],cd 10 (sq [rg 12 [om 1,om 2,om 3,oC 187 [12,13,14],o2 8 8],.ret]) (sq [rg 17 [oB .eql 9 2,o1 16],cd 16 (sq [rg 18 [om 1,om 2,om 3,oC 234 [18,19,20],o2 8 8],.ret]) (sq [rg 23 [oB .eql 9 3,o1 22],cd 22 (sq [rg 24 [om 1,om 2,om 3,oC 135 [24,25,26],o2 8 8],.ret]) (sq [rg 29 [oB .eql 9 4,o1 28],cd 28 (sq [rg 30 [om 1,om 2,om 3,oC 235 [30,31,32],o2 8 8],.ret]) (sq [rg 35 [oB .eql 9 5,o1 34],ci 34 (sq [sq [rg 36 [om 1,om 2,oc 183 [.s 36,.s 37,.c (.int .u8 43)],gB,om 1,om 2,oc 183 [.s 40,.s 41,.c (.int .u8 38)],gZ],cr 43 44 [om 1,om 2,om 3,oC 184 [44,45,46],o2 8 8]],rg 48 [om 1,om 2,om 3,oC 135 [48,49,50],o2 8 8],.ret])])])])])])],sq [rg 52 [om 1,om 2,oc 183 [.s 52,.s 53,.c (.int .u8 97)],nn],cr 55 56 [om 1,om 2,om 3,oC 184 [56,57,58],o2 8 8]],dg 60 [om 1,om 2,nA 5 60,nf 0,nF 2,om 1,om 2,nA 5 66,nf 0,nF 1,oW [0,0,1,7,10] [(1,1,65),(2,1,71)],om 2,nB .add 1,oW [0,0,1,7,10,0,2,0] [(0,5,72),(5,1,74)],o2 8 8],.ret]) [.cell 8 aa 8] 76:=aS func189
def gP(l:List aA)(i:Int)(k:Int)(Z:ab):aT 183 [.sl .no 5 (cm l),.int .i64 i,.int .u8 k] Z (.bool (bf l i k)):=by
 refine afZ.go ?_
 by_cases h0:0<=i
 .simp only[am,h0,bL,dK]
  by_cases h1:i<l.length
  .obtain⟨j,rfl⟩:=vB h0;have hj:j<l.length:=by omega
   simp only[am,bL,h1,bL];refine mh h0 (c:=l[j].enc) (by simp[nW,hj]) ?_;simp only[am,cS];refine aC ?_;simp[V.erase,bf,hj]
  .simp only[am,c9,h1,c9]
   have:l[i.toNat]?=none:=tm (by omega)
   refine aC ?_;simp[V.erase,bf,this]
 .simp only[am,c9,h0,c9];refine aC ?_;simp[V.erase,bf,h0]
def lM(l:List aA)(i fin:Int)(Z:ab):aT 184 [.sl .no 5 (cm l),.int .i64 i,.int .i64 fin] Z (.agg (dG l i fin).enc):=by
 refine af0.go ?_
 by_cases h0:0<=i
 .simp only[am,h0,bL,dK]
  by_cases h1:i<l.length
  .obtain⟨j,rfl⟩:=vB h0;have hj:j<l.length:=by omega
   simp only[am,bL,h1,bL];refine mh h0 (c:=l[j].enc) (by simp[nW,hj]) ?_;simp only[am,Nat.reduceAdd,cS,Nat.reduceAdd];refine aC ?_;simp[V.erase,aZ,dG,jI,bD.enc,Nd.zero,Nd.kind,Nd.pos,Nd.ar,Nd.al,Nd.ae,hj]
  .simp only[am,Nat.reduceAdd,c9,h1,c9]
   have:l[i.toNat]?=none:=tm (by omega)
   refine aC ?_;simp[V.erase,aZ,dG,jI,bD.enc,Nd.zero,Nd.kind,Nd.pos,Nd.ar,Nd.al,Nd.ae,this]
 .simp only[am,Nat.reduceAdd,c9,h0,c9];refine aC ?_;simp[V.erase,aZ,dG,jI,bD.enc,Nd.zero,Nd.kind,Nd.pos,Nd.ar,Nd.al,Nd.ae,h0]
def Ir(l:List aA)(i fin:Int)(Z:ab)(hb:l.length<=aJ):aT 189 [.int .i64 6,.sl .no 5 (cm l),.int .i64 i,.int .i64 fin] Z (.agg (nameAt l i fin).enc):=by
 refine CK.go ?_;simp only[am,show decide ((6:Int)=1)=aq from rfl,show decide ((6:Int)=2)=aq from rfl,show decide ((6:Int)=3)=aq from rfl,show decide ((6:Int)=4)=aq from rfl,show decide ((6:Int)=5)=aq from rfl];refine cl (gP l i 97 Z) ?_;cases h:bf l i 97
 .simp only[am];refine cl (lM l i fin Z) ?_;simp only[am,Nat.reduceAdd,bD.enc];refine aC ?_;simp[V.erase,aZ,nameAt,h]
 .obtain⟨j,t,rfl,hj,hk,hl⟩:=iB h;simp only[aJ] at hb;simp only[am];refine ix (gC hj) ?_;simp only[am,cS];refine ix (gC hj) ?_;simp only[am,Nat.reduceAdd,cS,Nat.reduceAdd];rw[wrap_i64];refine aC ?_;simp[V.erase,aZ,nameAt,h,bD.enc,fD,hj,Nd.kind,Nd.pos,Nd.ar,Nd.al,Nd.ae]
def am3{at_:Nat}{fin:Int}{g:bD}(h:nameAt l at_ fin=g)(hb:g.aQ=aq):g.next=(at_:Int)+1/\at_<l.length:=by
 unfold nameAt at h;split at h
 .rename_i hk;obtain⟨j,t,e,_,_,hl⟩:=iB hk;subst h;exact⟨rfl,by omega⟩
 .subst h;simp[dG] at hb
def Dw:List V:=[.int .i64 0,.int .i64 0,.aH [],.sl .a9 2 [],.sl .a9 5 [],.int .i64 0,.bool aq,.int .i64 0]
def M3(l:List aA)(fin:Int)(Z:ab)(at_ D:Nat)(out:List Nd):St :=
 ⟨[.int .i64 6,.sl .no 5 (cm l),.int .i64 (at_:Nat),.int .i64 fin]++aj 4 .any++[.any,.ptr (.au 0) 0,.sl (.tk D) 5 (out.map Nd.enc)]++aj 24 .any,[Dw],Z.ba D out.length⟩
def asw(l:List aA)(fin:Int)(Z:ab)(hb:l.length+1<=aJ):aT 188 [.int .i64 6,.sl .no 5 (cm l),.int .i64 0,.int .i64 fin] Z (.bz [.sl .no 5 ((dE (λi=>nameAt l i fin) l (l.length+1) 0 []).1.map Nd.enc),.agg (dE (λi=>nameAt l i fin) l (l.length+1) 0 []).2.enc]):=by
 generalize hR:dE (λi=>nameAt l i fin) l (l.length+1) 0 []=R;refine Sz.go ?_
 let I:{p:Nat × Nat × Nat × List Nd // Z.aY p.2.2.1=ah/\dE (λi=>nameAt l i fin) l p.1 (p.2.1:Nat) p.2.2.2=R/\p.2.2.2.length<=p.2.1/\p.2.1<=l.length/\l.length+1<=p.2.1+p.1}->St:=λp=>M3 l fin Z p.1.2.1 p.1.2.2.1 p.1.2.2.2
 refine dP I (λp=>p.1.1) ?_ ?_
 .refine a7.s_ 0 λD a_=>⟨⟨(l.length+1,0,D,[]),a_,hR,by simp,by simp,by simp⟩,?_,rfl,rfl⟩
  simp[I,M3,aj,jG]
 .rintro⟨⟨m,at_,D,out⟩,a_,hR,h1,h2,h3⟩;simp only at a_ hR h1 h2 h3;have hm:∃k,m=k+1:=⟨m - 1,by omega⟩;obtain⟨m,rfl⟩:=hm;simp only[I,M3,aj,am,Dw];refine(Ir l at_ fin _ (by omega)).mono ?_;rintro v σ' ⟨rfl,rfl⟩;simp only[dE] at hR;generalize hg:nameAt l at_ fin=g at *;simp only[am,Nat.reduceAdd,bD.enc,Nat.reduceAdd];cases bZ:g.aQ
  .rw[bZ] at hR;simp only[am,Nat.reduceAdd];have hK:=am3 hg bZ;refine fe (by simp;omega) (by simp[eR]) ?_;simp only[am,aD,eJ];refine(gP l g.next 44 _).mono ?_;rintro v σ' ⟨rfl,rfl⟩;cases l6:bf l g.next 44
   .simp only[am,Nat.reduceAdd];refine aN rfl (gV a_) ⟨?_,rfl⟩;rw[l6] at hR;simp only[dm,ch] at hR;simp[V.erase,aZ,<-hR,bZ,Nd.cS]
   .obtain⟨j,t,hj,hjt,hk,sJ⟩:=iB l6;simp only[aJ] at hb;simp only[am];rw[wrap_i64];rw[l6] at hR;simp only[dm,ch,cH] at hR;refine a7.lT ⟨(m,at_+2,D,out++[g.node]),a_,?_,by simp;omega,by simp only;omega,by simp only;omega⟩ (by simp) ?_ ?_ ?_ rfl rfl
    .rw[<-hR];congr 1;simp only;omega
    .simp[am,Nd.cS];omega
    .simp[am]
    .simp[br.rfl]
  .rw[bZ] at hR;simp only[am,Nat.reduceAdd];refine aN rfl (gV a_) ⟨?_,rfl⟩;simp[V.erase,aZ,<-hR,bZ]
def ae_:aR prog 133 (sq [rg 6 [oz 7,oM [0,0,1,7,10,0,2,0]],sq [rg 10 [om 0,om 1,oc 183 [.s 10,.s 11,.c (.int .u8 123)],nn],cr 13 14 [om 0,om 1,om 2,oC 184 [14,15,16],oU 6 7,o2 8 7]],rg 19 [om 0,om 1,nA 5 19,nl 5,oc 185 [.c (.int .i64 6),.s 22,.c (.bool aq)],o1 18,oe 18 0,oe 18 1,oZ 9 [0,0,1,7,10,0,2,0],ot 8 24,o2 8 9],dg 26 [om 8,oC 186 [26],mM [0],ol 8 9,ot 6 27,o2 8 7],.ret]) [.tmp 6,.cell 7 aa 8] 29:=aS func133
def Sx:aR prog 185 (sq [rg 6 [ox 4 5 1,oz 10,oM [0,0,1,7,10,0,2,0]],sq [rg 10 [om 2,gA,fo 3 4,nL,nB .eql 0,gZ],cr 16 17 [oW [0,0,1,7,10,0,2,0] [],oU 6 10,o2 8 7]],rg 19 [om 0,fo 3 4,fo 4 4,oc 188 [.s 19,.s 21,.c (.int .i64 0),.s 23],o1 18,oe 18 0,oe 18 1,oZ 9 [0,0,1,7,10,0,2,0],ot 8 25,o2 8 9],sq [rg 27 [fo 6 9,nn,gA,fo 5 9,fo 3 4,nL,nb .lss 32,gZ],cr 37 38 [fo 3 4,fo 5 9,fo 4 4,oC 184 [39,41,43],oU 6 10,o2 8 7]],dg 45 [om 8,ol 8 9,ot 6 45,o2 8 7],.ret]) [.tmp 6,.cell 7 aa 8] 47:=aS func185
def af1:aR prog 186 (sq [rg 2 [oz 7],rg 3 [oz 7],sq [rg 4 [oi 0],bl 0 (sq [sq [rg 5 [nm,om 0,nL,nb .lss 5],cx 8 0],.block 1 (dg 11 [om 3,om 0,om 4,nA 5 12,nF 2,om 0,om 4,nA 5 17,nF 1,oW [1,0] [(0,1,16),(1,1,21)],n1 2,na 2 11,o1 3]),rg 9 [ic 4]])],rg 25 [om 3,o1 2],.ret]) [.tmp 2] 26:=aS func186
def MS(l:List Nd)(Z:ab)(i D:Nat):St :=
 ⟨[.sl .no 5 (l.map Nd.enc),.any,.any,.sl (.tk D) 2 ((jK (l.take i)).map aF.enc),.int .i64 (i:Nat)]++aj 21 .any,[],Z.ba D i⟩
def Dt(l:List Nd)(Z:ab)(hb:l.length<=aJ):aT 186 [.sl .no 5 (l.map Nd.enc)] Z (.sl .no 2 ((jK l).map aF.enc)):=by
 refine af1.aP ?_;simp only[aO,am,aX,Nat.reduceAdd];refine dP (λp:{p:Nat × Nat // Z.aY p.2=ah/\p.1<=l.length}=>MS l Z p.1.1 p.1.2) (λp=>l.length - p.1.1) ?_ ?_
 .refine a7.s_ 0 λD a_=>⟨⟨(0,D),a_,by simp⟩,?_,rfl,rfl⟩
  simp[MS,aj,jG,jK]
 .rintro⟨⟨i,D⟩,a_,hi⟩;simp only at a_ hi;simp only[MS,aj,am,aD];refine cO ?_ ?_
  .intro an;have an:i<l.length:=by simpa using an
   have hn:l[i]?=U l[i]:=by simp[an]
   have jW:(jK (l.take i)).length=i:=by simp[jK];omega
   simp only[aJ] at hb;simp only[am];refine ix (fN hn) ?_;simp only[am,Nd.cS];refine ix (fN hn) ?_;simp only[am,Nat.reduceAdd,Nd.cS,Nat.reduceAdd];refine vS (by rw[aD,jW];simp[aJ];omega) (by rw[aD,eR,jW]) ?_;simp only[am,aD,eJ];rw[wrap_i64];refine a7.again ⟨(i+1,D),a_,an⟩ (by simp;omega) ?_ bV.rfl (by rw[jW];exact br.rfl);have e:(jK (l.take (i+1))).map aF.enc=(jK (l.take i)).map aF.enc++[[.aH l[i].ar,.int .i64 l[i].pos]]:=by rw[Aa hn];simp only[jK,jf,dz,eQ,aF.enc]
   simp only[am,e];simp
  .intro an;have an:i=l.length:=by simp at an;omega
   subst an;simp only[am];refine aN rfl (gV a_) ⟨?_,rfl⟩;simp[V.erase]
def Pw(t:aA)(empty:Bool)(Z:ab)(hb:t.ae.length+1<=aJ):aT 185 [.int .i64 6,.agg t.enc,.bool empty] Z (.bz [.sl .no 5 ((wholeAt nameAt t empty).1.map Nd.enc),.agg (wholeAt nameAt t empty).2.enc]):=by
 refine Sx.aP ?_;simp only[aO,am,aX,cS,Nat.reduceAdd];have main:∀(bh:¬(empty=aa/\t.ae.length=0)),wholeAt nameAt t empty=if (dE (λi=>nameAt t.ae i t.fin) t.ae (t.ae.length+1) 0 []).2.aQ=aq/\(dE (λi=>nameAt t.ae i t.fin) t.ae (t.ae.length+1) 0 []).2.next<t.ae.length then([],dG t.ae (dE (λi=>nameAt t.ae i t.fin) t.ae (t.ae.length+1) 0 []).2.next t.fin) else(dE (λi=>nameAt t.ae i t.fin) t.ae (t.ae.length+1) 0 []):=λbh=>by
  unfold wholeAt;rw[aw bh]
 by_cases hc:empty=aa/\t.ae.length=0
 .obtain⟨rfl,hk⟩:=hc;simp only[am,Nat.reduceAdd,dK,bL,dK,hk,mW,bL];refine aN rfl (ab.bc _) ⟨?_,rfl⟩;simp[V.erase,aZ,wholeAt,hk,bD.enc,Nd.zero,Nd.kind,Nd.pos,Nd.ar,Nd.al,Nd.ae]
 .have main:=main hc;cases empty
  case' true =>
   have hk:¬((t.ae.length:Int)=0):=by simp at hc ⊢;exact hc
   simp only[am,dK,c9,dK,hk,c9]
  case' false =>
   simp only[am]
  all_goals
   refine cl (asw t.ae t.fin Z hb) ?_;generalize (dE (λi=>nameAt t.ae i t.fin) t.ae (t.ae.length+1) 0 [])=R at main ⊢;simp only[am,Nat.reduceAdd,bD.enc,Nat.reduceAdd];cases bZ:R.2.aQ
   .simp only[am,dK]
    by_cases hn:R.2.next<t.ae.length
    .simp only[am,bL,hn,bL];refine cl (lM t.ae R.2.next t.fin Z) ?_;simp only[am,Nat.reduceAdd,bD.enc];refine aC ?_;simp[V.erase,aZ,main,bZ,hn]
    .simp only[am,Nat.reduceAdd,c9,hn,c9];refine aC ?_;simp[V.erase,aZ,main,bZ,hn]
   .simp only[am,Nat.reduceAdd];refine aC ?_;simp[V.erase,aZ,main,bZ]
def Y'(l:List aA)(i fin:Int)(Z:ab)(hm:bE l+1<=aJ):aT 133 [.sl .no 5 (cm l),.int .i64 i,.int .i64 fin] Z (.bz [.sl .no 2 ((lK l i fin).1.map aF.enc),.agg (lK l i fin).2.enc]):=by
 refine ae_.aP ?_;simp only[aO,am,aX,Nat.reduceAdd];refine cl (gP l i 123 Z) ?_;cases h:bf l i 123
 .simp only[am];refine cl (lM l i fin Z) ?_;simp only[am,Nat.reduceAdd,bD.enc];refine aC ?_;simp[V.erase,aZ,lK,h]
 .obtain⟨j,t,rfl,hj,hk,hl⟩:=iB h;have ht:bU l (j:Nat)=t:=by simp[bU,hj]
  have hmk:t.ae.length+1<=bE l:=by
   have h1:=NM hl;have h2:=gj t.ae;have h3:l[j]=t:=by rw[bN hl] at hj;simpa using hj
   rw[h3] at h1;omega
  simp only[am];refine ix (gC hj) ?_;simp only[am,aA.ak];refine cl (Pw t aq Z (by omega)) ?_;have bI:lK l (j:Nat) fin=(jK (wholeAt nameAt t aq).1,(wholeAt nameAt t aq).2):=by simp[lK,h,ht]
  have hlen:(wholeAt nameAt t aq).1.length<=t.ae.length+1:=Px t aq;generalize wholeAt nameAt t aq=R at bI hlen ⊢;simp only[am,Nat.reduceAdd,bD.enc];refine bA.intro (Dt R.1 Z (by omega)) ?_;simp only[am,Nat.reduceAdd];refine aC ?_;simp[V.erase,aZ,bI]
def aiG:aR prog 99 (sq [rg 2 [oz 2],sq [rg 4 [om 0,oq (.kQ .eql (.s 4) (.c (.aH []))),gB,om 0,nT,nB .gtr 16,gZ,gB,om 0,oq (.tY (.s 12) (.c (.int .i64 0))),oC 153 [13],nn,gZ],cr 16 2 [oz 2]],sq [rg 17 [om 0,nT,oi 0],lp 18 0 (sq [rg 21 [om 19,o1 3],rg 22 [om 0,om 3,nS 22,oC 154 [24],nn],cr 26 2 [oz 2]]) 27],rg 2 [oq (.mv (.c (.bool aa)))],.ret]) [.tmp 2] 28:=aS func99
def ae3:aR prog 127 (sq [rg 2 [oz 2],sq [rg 4 [om 0,nT,nB .lss 1,gB,om 0,nT,nB .gtr 16,gZ,gB,om 0,oq (.tY (.s 13) (.c (.int .i64 0))),oC 179 [14],nn,gZ],cr 17 2 [oz 2]],sq [rg 3 [oi 1],bl 0 (sq [sq [rg 18 [om 3,om 0,nT,nb .lss 18],cx 21 0],.block 1 (sq [rg 24 [om 0,om 3,nS 24,oC 179 [26],nn,nm,og 29 (om 0),og 29 (om 3),og 29 (nS 30),og 29 (nu .lss 48),og 29 (nm),oh 34 (om 0),oh 34 (om 3),oh 34 (nS 35),oh 34 (nu .gtr 57),og 29 (oq (.pick (.s 34) (.c (.bool aa)) (.s 38))),oy 29 39,gA,om 0,om 3,nS 42,nu .neq 95,gZ],cr 46 2 [oz 2]]),rg 22 [ic 3]])],rg 2 [oq (.mv (.c (.bool aa)))],.ret]) [.tmp 2] 47:=aS func127
def aft:aR prog 153 (sq [rg 2 [oz 2],rg 3 [om 0,nu .geq 97,gA,om 0,nu .leq 122,gZ,o1 2],.ret]) [.tmp 2] 9:=aS func153
def afu:aR prog 154 (sq [rg 2 [oz 2],rg 3 [om 0,oC 153 [3],nm,oh 5 (om 0),oh 5 (nu .geq 48),oh 5 (nm),og 8 (om 0),og 8 (nu .leq 57),oh 5 (oy 8 10),oq (.pick (.s 5) (.c (.bool aa)) (.s 11)),gB,om 0,nu .eql 95,gZ,o1 2],.ret]) [.tmp 2] 17:=aS func154
def afT:aR prog 178 (sq [rg 2 [oz 2],rg 3 [om 0,nu .geq 97,gA,om 0,nu .leq 122,gZ,nm,oh 9 (om 0),oh 9 (nu .geq 48),oh 9 (nm),og 12 (om 0),og 12 (nu .leq 57),oh 9 (oy 12 14),oq (.pick (.s 9) (.c (.bool aa)) (.s 15)),gB,om 0,nu .eql 95,gZ,o1 2],.ret]) [.tmp 2] 21:=aS func178
def afU:aR prog 179 (sq [rg 2 [oz 2],rg 3 [om 0,nu .geq 97,gA,om 0,nu .leq 122,gZ,o1 2],.ret]) [.tmp 2] 9:=aS func179
def afW:aR prog 180 (sq [rg 2 [oz 3],sq [rg 3 [om 0,nu .eql 40],cr 4 2 [oq (.mv (.c (.int .u8 41)))]],sq [rg 5 [om 0,nu .eql 123,gB,om 0,nu .eql 91,gZ],cr 10 11 [om 0,nu .add 2,o1 2]],rg 2 [oz 3],.ret]) [.tmp 2] 13:=aS func180
def afX:aR prog 181 (sq [rg 2 [oz 2],rg 3 [om 0,nu .eql 41,gB,om 0,nu .eql 125,gZ,gB,om 0,nu .eql 93,gZ,o1 2],.ret]) [.tmp 2] 13:=aS func181
def mT:=af @am <| af @jj <| af @cG <| af @dK <| af @bL <| af @c9 <| af @aA.ak <| af @Nd.ak <| af @aF.ak @bD.ak
def UT(c:Int)(Z:ab):aT 153 [.int .u8 c] Z (.bool (t_ c)):=by
 refine aft.aP ?_;simp only[aO,am,aX,Nat.reduceAdd]
 repeat' (first
  | (refine fR (λh=>?_) (λh=>?_)<;>simp only[am,h])
  | (refine cO (λh=>?_) (λh=>?_)<;>simp only[mT,h,Nat.reduceAdd,Nat.reduceEqDiff,aD])
  | (refine fT (λh=>?_) (λh=>?_)<;>simp only[mT,h,Nat.reduceAdd,Nat.reduceEqDiff,aD])
 )
 all_goals refine aC ?_
 all_goals simp_all [V.erase,t_]
 all_goals (try omega)
def US(c:Int)(Z:ab):aT 179 [.int .u8 c] Z (.bool (t_ c)):=by
 refine afU.aP ?_;simp only[aO,am,aX,Nat.reduceAdd]
 repeat' (first
  | (refine fR (λh=>?_) (λh=>?_)<;>simp only[am,h])
  | (refine cO (λh=>?_) (λh=>?_)<;>simp only[mT,h,Nat.reduceAdd,Nat.reduceEqDiff,aD])
  | (refine fT (λh=>?_) (λh=>?_)<;>simp only[mT,h,Nat.reduceAdd,Nat.reduceEqDiff,aD])
 )
 all_goals refine aC ?_
 all_goals simp_all [V.erase,t_]
 all_goals (try omega)
def ajq(c:Int)(Z:ab):aT 154 [.int .u8 c] Z (.bool (sA c)):=by
 refine afu.aP ?_;simp only[aO,am,aX,Nat.reduceAdd];refine cl (UT c Z) ?_;simp only[am]
 repeat' (first
  | (refine fR (λh=>?_) (λh=>?_)<;>simp only[am,h])
  | (refine cO (λh=>?_) (λh=>?_)<;>simp only[mT,h,Nat.reduceAdd,Nat.reduceEqDiff,aD])
  | (refine fT (λh=>?_) (λh=>?_)<;>simp only[mT,h,Nat.reduceAdd,Nat.reduceEqDiff,aD])
 )
 all_goals refine aC ?_
 all_goals simp_all [V.erase,sA]
 all_goals (try omega)
def ajo(c:Int)(Z:ab):aT 178 [.int .u8 c] Z (.bool (sA c)):=by
 refine afT.aP ?_;simp only[aO,am,aX,Nat.reduceAdd]
 repeat' (first
  | (refine fR (λh=>?_) (λh=>?_)<;>simp only[am,h])
  | (refine cO (λh=>?_) (λh=>?_)<;>simp only[mT,h,Nat.reduceAdd,Nat.reduceEqDiff,aD])
  | (refine fT (λh=>?_) (λh=>?_)<;>simp only[mT,h,Nat.reduceAdd,Nat.reduceEqDiff,aD])
 )
 all_goals refine aC ?_
 all_goals simp_all [V.erase,sA,t_]
 all_goals (try omega)
def G3(c:Int)(Z:ab):aT 180 [.int .u8 c] Z (.int .u8 (closing c)):=by
 refine afW.aP ?_;simp only[aO,am,aX,Nat.reduceAdd]
 repeat' (first
  | (refine fR (λh=>?_) (λh=>?_)<;>simp only[am,h])
  | (refine cO (λh=>?_) (λh=>?_)<;>simp only[am,h])
  | (refine fT (λh=>?_) (λh=>?_)<;>simp only[mT,h,Nat.reduceAdd,Nat.reduceEqDiff,aD])
 )
 all_goals refine aC ?_
 all_goals simp_all [V.erase,closing,show IntKind.u8.wrap 125=125 from rfl,show IntKind.u8.wrap 93=93 from rfl]
 all_goals (try omega)
def Re(c:Int)(Z:ab):aT 181 [.int .u8 c] Z (.bool (lv c)):=by
 refine afX.aP ?_;simp only[aO,am,aX,Nat.reduceAdd]
 repeat' (first
  | (refine fR (λh=>?_) (λh=>?_)<;>simp only[am,h])
  | (refine cO (λh=>?_) (λh=>?_)<;>simp only[mT,h,Nat.reduceAdd,Nat.reduceEqDiff,aD])
  | (refine fT (λh=>?_) (λh=>?_)<;>simp only[mT,h,Nat.reduceAdd,Nat.reduceEqDiff,aD])
 )
 all_goals refine aC ?_
 all_goals simp_all [V.erase,lv]
 all_goals (try omega)
variable{s:List UInt8}
def s7(h:i<s.length):s[((i:Nat):Int).toNat]?=U s[i]:=by simp[h]
def M4(s:List UInt8)(Z:ab)(i:Nat):St :=
 ⟨[.aH s]++aj 17 .any++[.int .i64 s.length,.int .i64 (i:Nat)]++aj 8 .any,[],Z⟩
def Ei{f:UInt8->Bool}(h:i<s.length):(s.take (i+1)).all f=((s.take i).all f&&f s[i]):=by
 rw[Aa (bN h),JJ];simp only[D7,P5,sa]
def Vh(h:s.length<=16)(h1:0<s.length):dO s=(wI s[0]&&s.all iy):=by
 cases s with
 | nil=>simp at h1
 | cons c r =>
  simp only[dO,h,bL,gJ,List.getElem_cons_zero,D7];cases hc:wI c
  .simp
  .have:iy c=true:=by simp only[wI] at hc;simp[iy,sA,hc]
   simp[this]
def vb(s:List UInt8)(Z:ab):aT 99 [.aH s] Z (.bool (dO s)):=by
 refine aiG.aP ?_;simp only[aO,am,aX,Nat.reduceAdd]
 by_cases h0:s=[]
 .subst h0;simp only[am,bL];refine aC ?_;simp[V.erase,dO]
 .have gg:0<s.length:=by cases s with | nil=>exact absurd rfl h0 | cons _ _=>simp
  simp only[am,c9,h0]
  by_cases uO:s.length<=16
  .have e:decide ((16:Int)<s.length)=false:=by simp;omega
   simp only[am,e];refine pX (c:=s[0]) (by simp[gg]) ?_;simp only[am];refine cl (UT s[0].toNat Z) ?_;have hl:dO s=(wI s[0]&&s.all iy):=Vh uO gg;cases hb:t_ (s[0].toNat:Nat)
   .have cn : wI s[0]=false:=hb;simp only[am];refine aC ?_;simp[V.erase,hl,cn]
   .have cn : wI s[0]=true:=hb;simp only[am];refine dP (λp:{i:Nat // i<=s.length/\(s.take i).all iy=aa}=>M4 s Z p.1) (λp=>s.length - p.1) ?_ ?_
    .refine a7.enter ⟨0,by simp,by simp⟩ ?_ bV.rfl br.rfl;simp[M4,aj,am]
    .rintro⟨i,hi,ha⟩;simp only[M4,aj,am];refine cO ?_ ?_
     .intro an;have an:i<s.length:=by simpa using an
      simp only[am];refine pX (s7 an) ?_;simp only[am];refine cl (ajq s[i].toNat Z) ?_;cases hg:sA (s[i].toNat:Nat)
      .have tI : iy s[i]=false:=hg;simp only[am];refine aN rfl (ab.bc _) ⟨?_,rfl⟩
       have:s.all iy=false:=by
        rw[Gt];exact⟨s[i],dq an,by simp[tI]⟩
       simp[V.erase,hl,this]
      .simp only[am];rw[wrap_i64];refine a7.again ⟨i+1,by omega,?_⟩ (by simp;omega) (by simp[am]) bV.rfl br.rfl;rw[Ei an,ha];exact hg
     .intro an;have an:i=s.length:=by simp at an;omega
      subst an;rw[df] at ha;simp only[am];refine aC ?_;simp[V.erase,hl,cn,ha]
  .have e:decide ((16:Int)<s.length)=true:=by simp;omega
   simp only[am,e];refine aC ?_;simp[V.erase,dO,uO]
def MY(s:List UInt8)(Z:ab)(i:Nat):St :=
 ⟨[.aH s,.any,.any,.int .i64 (i:Nat)]++aj 43 .any,[],Z⟩
def wP(s:List UInt8)(Z:ab):aT 127 [.aH s] Z (.bool (dO s)):=by
 refine ae3.aP ?_;simp only[aO,am,aX,Nat.reduceAdd]
 by_cases h0:s=[]
 .subst h0;simp only[am,show decide ((([]:List UInt8).length:Int)<1)=aa from rfl];refine aC ?_;simp[V.erase,dO]
 .have gg:0<s.length:=by cases s with | nil=>exact absurd rfl h0 | cons _ _=>simp
  have e1:decide ((s.length:Int)<1)=false:=by simp;omega
  simp only[am,e1]
  by_cases uO:s.length<=16
  .have e:decide ((16:Int)<s.length)=false:=by simp;omega
   simp only[am,e];refine pX (c:=s[0]) (by simp[gg]) ?_;simp only[am];refine cl (US s[0].toNat Z) ?_;have hl:dO s=(wI s[0]&&s.all iy):=Vh uO gg;cases hb:t_ (s[0].toNat:Nat)
   .have cn : wI s[0]=false:=hb;simp only[am];refine aC ?_;simp[V.erase,hl,cn]
   .have cn : wI s[0]=true:=hb;simp only[am];refine dP (λp:{i:Nat // 1<=i/\i<=s.length/\(s.take i).all iy=aa}=>MY s Z p.1) (λp=>s.length - p.1) ?_ ?_
    .refine a7.enter ⟨1,by simp,by omega,?_⟩ ?_ bV.rfl br.rfl
     .rw[Ei gg];simp[iy,sA,hb]
     .simp[MY,aj,am]
    .rintro⟨i,sH,hi,ha⟩;simp only[MY,aj,am];refine cO ?_ ?_
     .intro an;have an:i<s.length:=by simpa using an
      simp only[am];refine pX (s7 an) ?_;simp only[am];refine cl (US s[i].toNat Z) ?_;have eG:iy s[i]=aq->s.all iy=false:=λhg=>by
       rw[Gt];exact⟨s[i],dq an,by simp[hg]⟩
      have fin:iy s[i]=aa->(s.take (i+1)).all iy=true:=λhg=>by rw[Ei an,ha,hg];rfl
      have mJ:iy s[i]=(t_ (s[i].toNat:Nat)||(decide (48<=(s[i].toNat:Int))&&decide ((s[i].toNat:Int)<=57))||decide ((s[i].toNat:Int)=95)):=rfl;cases hg:t_ (s[i].toNat:Nat)
      all_goals rw[hg] at mJ
      all_goals simp only[am]
      repeat' (first
       | (refine fR (λh=>?_) (λh=>?_)<;>simp only[am,h])
       | (refine cO (λh=>?_) (λh=>?_)<;>simp only[am,h])
       | (refine fT (λh=>?_) (λh=>?_)<;>simp only[mT,h,Nat.reduceAdd,Nat.reduceEqDiff,aD])
       | (refine pX (s7 an) ?_;simp only[am])
      )
      all_goals first
       | (have rE:iy s[i]=true:=by rw[mJ];simp_all<;>omega
          rw[wrap_i64];exact a7.again ⟨i+1,by omega,by omega,fin rE⟩ (by simp;omega) (by simp[am]) bV.rfl br.rfl)
       | (have rE:iy s[i]=false:=by rw[mJ];simp_all<;>omega
          refine aN rfl (ab.bc _) ⟨?_,rfl⟩;simp[V.erase,hl,eG rE])
     .intro an;have an:i=s.length:=by simp at an;omega
      subst an;rw[df] at ha;simp only[am];refine aC ?_;simp[V.erase,hl,cn,ha]
  .have e:decide ((16:Int)<s.length)=true:=by simp;omega
   simp only[am,e];refine aC ?_;simp[V.erase,dO,uO]
def aiB:aR prog 93 (sq [rg 6 [oi 0],sq [rg 8 [om 0,o1 7],bl 0 (sq [sq [rg 9 [om 7,om 1,nb .lss 9],cx 11 0],.block 1 (sq [rg 14 [om 2,om 7,oq (.iV (.s 14) [(.s 15)])],cr 16 17 [om 7,o1 6]]),rg 12 [ic 7]])],rg 6 [oi (-1)],.ret]) [.tmp 6] 18:=aS func93
def aeN:aR prog 112 (sq [rg 4 [od (U 2) (.gY 1 (.s 0)),od (U 3) (.gY 1 (.s 1)),oi 0],rg 5 [oo 2,nL,oq (.kb (.func 160) [] [(.s 2),(.s 3)]),oc 93 [.c (.int .i64 0),.s 6,.s 7],o1 4],.ret]) [.tmp 4] 9:=aS func112 ⟨[2,3],[]⟩
def afc:aR prog 138 (sq [rg 4 [oi 0],sq [rg 5 [oi 0],bl 0 (sq [sq [rg 6 [nm,om 0,nL,nb .lss 6],cx 9 0],.block 1 (sq [rg 12 [om 0,om 5,nA 1 12,no,om 1,nE .eql 15],cr 17 18 [om 5,o1 4]]),rg 10 [ic 5]])],rg 4 [oi (-1)],.ret]) [.tmp 4] 19:=aS func138
def afA:aR prog 160 (sq [rg 4 [oz 2],dg 5 [oo 1,om 0,nA 1 5,no,oo 2,nE .eql 8,o1 4],.ret]) [.tmp 4] 11:=aS func160
def ag9:aR prog 255 (sq [rg 2 [oz 2],sq [rg 5 [om 0,nL,nB .lss 1,gB,om 0,nL,nB .gtr 64,gZ,gB,om 0,oC 270 [14],nB .geq 0,gZ],cr 17 2 [oz 2]],sq [rg 18 [om 0,nL,oi 0],lp 19 0 (sq [rg 22 [oA 1 18 20,no,o1 4],rg 24 [om 4,oC 99 [24],nn],cr 26 2 [oz 2]]) 27],rg 2 [oq (.mv (.c (.bool aa)))],.ret]) [.tmp 2] 28:=aS func255
def ahf:aR prog 262 (sq [rg 2 [oi 0],sq [rg 3 [oi 0],bl 0 (sq [sq [rg 4 [nm,om 0,nL,nb .lss 4],cx 7 0],.block 1 (sq [rg 10 [om 0,om 0,om 3,nA 1 11,no,oC 138 [10,14],om 3,nb .lss 15],cr 17 18 [om 3,o1 2]]),rg 8 [ic 3]])],rg 2 [oi (-1)],.ret]) [.tmp 2] 19:=aS func262
def aho:aR prog 270 (sq [rg 2 [od (U 1) (.gY 1 (.s 0)),oi 0],rg 3 [oo 1,nL,oq (.kb (.func 279) [] [(.s 1)]),oc 93 [.c (.int .i64 0),.s 4,.s 5],o1 2],.ret]) [.tmp 2] 7:=aS func270 ⟨[1],[]⟩
def ahx:aR prog 279 (sq [rg 3 [oz 2],dg 4 [oo 1,om 0,oq (.mu 1 (.s 4) ah (U (.s 5)) ah),oo 1,om 0,nA 1 7,no,oC 112 [6,10],nB .geq 0,o1 3],.ret]) [.tmp 3] 13:=aS func279
def V2(n:Nat)(hn:n<=100000)(f:FuncId)(cap:List V)(hc:bS cap=aa)(p:Nat->Bool)(Z:ab)(h:∀i,i<n->cF prog f (.int .i64 (i:Nat)::cap) Z λv σ' => v = .bool (p i)/\σ' = Z) :
 aT 93 [.int .i64 0,.int .i64 (n:Nat),.fn (.func f) [] cap] Z (.int .i64 (bY ((bG n).find? p))):=by
 refine aiB.aP ?_;simp only[aO,am,aX,Nat.reduceAdd];refine ct (n) (λi (x:Unit)=>⟨[.any,.int .i64 (n:Nat),.fn (.func f) [] cap,.any,.any,.any,.any,.int .i64 (i:Nat)]++aj 10 .any,[],Z⟩) (λi x=>(∀k,k<i->p k=aq)) λF hF JF aW=>⟨?_,?_,?_⟩
 .exact en aW (()) (by intro k h;omega)
 .rintro i x hi hJ;simp only[hF,aj,am,ca hi,hc];refine(h i hi).mono ?_;rintro v σ' ⟨rfl,rfl⟩;cases hb:p i with
  | false =>
   simp only[am,aK,bF hi];exact nx aW (()) hi (ji hJ hb)
  | true =>
   have e:=AL hi hJ hb;simp only[am,aK];refine aC ?_;simp[V.erase,e,bY]
 .rintro x hJ;have e:=AM hJ;simp only[hF,aj,am,aK,cy,aK];refine aC ?_;simp[V.erase,e,bY]
def aeo(l:List (List UInt8))(s:List UInt8)(i b1 b2:Nat)(hi:i<l.length)(h1:Z.box b1=U [.sl .no 1 (dh l)])(h2:Z.box b2=U [.aH s]):
 aT 160 [.int .i64 (i:Nat),.ptr (.out b1) 0,.ptr (.out b2) 0] Z (.bool (decide (l.getD i []=s))):=by
 refine afA.aP ?_;simp only[aO,am,aX,Nat.reduceAdd];simp only[am,h1];refine ix (BN hi) ?_;simp only[am,h2];exact rt
def xw(l:List (List UInt8))(s:List UInt8)(Z:ab)(hl:l.length<=100000):aT 112 [.sl .no 1 (dh l),.aH s] Z (.int .i64 (bY (dt l s))):=by
 refine aeN.aP ?_;simp only[aO,am,aX,Nat.reduceAdd];refine kx λb1 eE=>?_
 simp only[am];refine kx λb2 ep=>?_
 have bh:b1≠b2:=by rintro rfl;rw[ke] at ep;simp at ep
 have hs:=ab.DQ (iS (cs:=[.sl .no 1 (dh l)]) eE) (iS (cs:=[.aH s]) ep);have e1:((Z.set b1 [.sl .no 1 (dh l)]).set b2 [.aH s]).box b1=U [.sl .no 1 (dh l)]:=by rw[vq bh,ke]
 generalize wD:(Z.set b1 [V.sl .no 1 (dh l)]).set b2 [V.aH s]=bR at hs e1;have e2:bR.box b2=U [.aH s]:=by rw[<-wD,ke]
 simp only[am,iH,e1];refine(V2 l.length hl _ _ rfl (λi=>decide (l.getD i []=s)) bR λi hi=>aeo l s i b1 b2 hi e1 e2).mono ?_;rintro v bR ⟨rfl,rfl⟩;simp only[am];exact aN rfl hs ⟨rfl,rfl⟩
def atf(l:List (List UInt8))(i b1:Nat)(hl:l.length<=100000)(hi:i<l.length)(h1:Z.box b1=U [.sl .no 1 (dh l)]):
 aT 279 [.int .i64 (i:Nat),.ptr (.out b1) 0] Z (.bool (dt (l.take i) (l.getD i [])).isSome):=by
 refine ahx.aP ?_;simp only[aO,am,aX,Nat.reduceAdd];simp only[am,cG,h1];refine Xz (b:=i) (by rw[iH];omega) ?_;simp only[am,h1];refine ix (BN hi) ?_;rw[Xe];simp only[am];refine bA.intro (xw (l.take i) (l.getD i []) Z (by rw[iu];omega)) ?_;simp only[am,Iv];exact rt
def atg(l:List (List UInt8))(Z:ab)(hl:l.length<=100000):aT 270 [.sl .no 1 (dh l)] Z (.int .i64 (bY (Ab l))):=by
 refine aho.aP ?_;simp only[aO,am,aX,Nat.reduceAdd];refine kx λb1 eE=>?_
 simp only[am,iH];refine(V2 l.length hl _ _ rfl (λi=>(dt (l.take i) (l.getD i [])).isSome) _ λi hi=>atf l i b1 hl hi ke).mono ?_;rintro v bR ⟨rfl,rfl⟩;simp only[am];exact aN rfl (iS eE) ⟨rfl,rfl⟩
def yd(l:List (List UInt8))(s:List UInt8)(Z:ab)(hl:l.length<=100000):aT 138 [.sl .no 1 (dh l),.aH s] Z (.int .i64 (bY (dt l s))):=by
 refine afc.aP ?_;simp only[aO,am,aX,Nat.reduceAdd];refine ct (l.length) (λi (x:Unit)=>⟨[.sl .no 1 (dh l),.aH s,.any,.any,.any,.int .i64 (i:Nat)]++aj 13 .any,[],Z⟩) (λi x=>(∀k,k<i->decide (l.getD k []=s)=aq)) λF hF JF aW=>⟨?_,?_,?_⟩
 .exact en aW (()) (by intro k h;omega)
 .rintro i x hi hJ;simp only[hF,aj,am,ca hi,iH];refine ix (BN hi) ?_;simp only[am]
  by_cases h:l.getD i []=s
  .have e:dt l s=U i:=AL hi hJ (aB h);simp only[am,aK,aB h];refine aC ?_;simp[V.erase,e,bY]
  .simp only[am,aK,az h,bF hi];exact nx aW (()) hi (ji hJ (az h))
 .rintro x hJ;have e:dt l s=none:=AM hJ;simp only[hF,aj,am,aK,cy,aK,iH];refine aC ?_;simp[V.erase,e,bY]
def arz(l:List (List UInt8))(Z:ab)(hl:l.length<=100000):aT 262 [.sl .no 1 (dh l)] Z (.int .i64 (bY (Ab l))):=by
 refine ahf.aP ?_;simp only[aO,am,aX,Nat.reduceAdd];refine ct (l.length) (λi (x:Unit)=>⟨[.sl .no 1 (dh l),.any,.any,.int .i64 (i:Nat)]++aj 15 .any,[],Z⟩) (λi x=>(∀k,k<i->(dt (l.take k) (l.getD k [])).isSome=aq)) λF hF JF aW=>⟨?_,?_,?_⟩
 .exact en aW (()) (by intro k h;omega)
 .rintro i x hi hJ;simp only[hF,aj,am,ca hi,iH];refine ix (BN hi) ?_;simp only[am];refine cl (yd l (l.getD i []) Z hl) ?_;have e:=Sj hi;simp only[am,<-e];cases hb:(dt (l.take i) (l.getD i [])).isSome with
  | false =>
   simp only[am,aK,bF hi];exact nx aW (()) hi (ji hJ hb)
  | true =>
   have e:Ab l=U i:=AL hi hJ hb;simp only[am,aK];refine aC ?_;simp[V.erase,e,bY]
 .rintro x hJ;have e:Ab l=none:=AM hJ;simp only[hF,aj,am,aK,cy,aK,iH];refine aC ?_;simp[V.erase,e,bY]
def am7(l:List (List UInt8))(Z:ab)(hl:l.length<=100000):aT 255 [.sl .no 1 (dh l)] Z (.bool (lH l)):=by
 refine ag9.aP ?_;simp only[aO,am,aX,Nat.reduceAdd,iH]
 by_cases h1:l.length<1
 .simp only[am,aB (show(l.length:Int)<1 by omega)];refine aC ?_;simp[V.erase,lH];omega
 .simp only[am,iH,az (show ¬(l.length:Int)<1 by omega)]
  by_cases h2:64<l.length
  .simp only[am,aB (show(64:Int)<l.length by omega)];refine aC ?_;simp[V.erase,lH];omega
  .simp only[am,az (show ¬(64:Int)<l.length by omega)];refine cl (atg l Z hl) ?_;simp only[am,Iv];cases ht:Ab l with
   | some k =>
    simp only[am,xh];refine aC ?_;simp[V.erase,lH,ht]
   | none =>
    simp only[am,iH,vL];refine ct (l.length) (λi (x:Unit)=>⟨[.any,.any,.any,.any,.any,.any,.any,.any,.any,.any,.any,.any,.any,.any,.any,.any,.any,.any,.sl .no 1 (dh l),.int .i64 (l.length:Nat),.int .i64 (i:Nat)]++aj 7 .any,[],Z⟩) (λi x=>(∀k,k<i->dO (l.getD k [])=aa)) λF hF JF aW=>⟨?_,?_,?_⟩
    .exact en aW (()) (by intro k h;omega)
    .rintro i x hi hJ;simp only[hF,aj,am,ca hi];refine ix (BN hi) ?_;simp only[am];refine cl (vb _ Z) ?_;simp only[am];cases hb:dO (l.getD i []) with
     | false =>
      have e:lH l=false:=by
       cases hq:lH l with
       | false=>rfl
       | true =>
        simp only[lH,b_,lO] at hq;have hm:l.getD i []∈l:=by rw[jS hi];exact dq hi
        rw[hq.2 _ hm] at hb;simp at hb
      simp only[am,aK];refine aC ?_;simp[V.erase,e]
     | true =>
      simp only[am,aK,bF hi];exact nx aW (()) hi (ji hJ hb)
    .rintro x hJ;have e:lH l=true:=by
      simp only[lH,ht,b_,lO,eb,uy,gM];refine⟨by omega,λs hs=>?_⟩;obtain⟨k,hk,rfl⟩:=GB.1 hs
      have:=hJ k hk
      rwa [jS hk] at this
     simp only[hF,aj,am,aK,cy,aK];refine aC ?_;simp[V.erase,e]
def afR:aR prog 176 (sq [rg 2 [ox 1 2 0,oz 2],rg 6 [fo 1 1,nL,o1 3],sq [rg 9 [om 3,nB .lss 1,gB,om 3,nB .gtr 8,gZ,nm,oh 15 (of 0 1),oh 15 (no),oh 15 (nn),oh 15 (nm),og 19 (om 3),og 19 (nB .neq 1),oh 15 (oy 19 21),oq (.pick (.s 15) (.c (.bool aa)) (.s 22))],cr 23 2 [oz 2]],sq [rg 24 [fo 1 1,nL,oi 0],lp 26 0 (sq [rg 29 [oA 67 25 27,nl 67,oR 5 rp,o2 67 5],rg 31 [ol 67 5,oC 228 [31],nn],cr 33 2 [oz 2]]) 34],rg 2 [oq (.mv (.c (.bool aa)))],.ret]) [.tmp 2] 35:=aS func176
def agG:aR prog 228 (sq [rg 2 [ox 1 67 0,oz 2],sq [rg 3 [fo 1 1,oC 255 [4],nn],cr 6 2 [oz 2]],sq [rg 7 [fo 0 1],.block 0 (sq [sq [rg 10 [oB .eql 8 1,o1 9],cd 9 .skip (rg 11 [oB .eql 8 2,o1 9])],cd 9 (sq [rg 12 [of 2 1,nl 65,oY kG [],oC 256 [13,14],o1 2],.ret]) (sq [rg 17 [oB .eql 8 3,o1 16],cd 16 (sq [rg 18 [of 2 1,nF 0,fo 1 1,nL,nb .eql 20,gA,of 2 1,nl 65,oC 257 [27],gZ,o1 2],.ret]) (sq [rg 31 [oB .eql 8 4,o1 30],cr 30 32 [of 2 1,nF 0,fo 1 1,nL,nb .eql 34,gA,of 2 1,nl 65,oC 114 [41],gZ,o1 2]])])])],rg 2 [oz 2],.ret]) [.tmp 2] 44:=aS func228
def au1:=af @am <| af @aX <| af @Rl.ak @bn.ak
def ad3(f:bn)(hg:TZ Z)(hl:f.al.length<=100000):aT 228 [.agg f.enc] Z (.bool (jy f)):=by
 refine agG.aP ?_;simp only[aO,au1,Nat.reduceAdd];refine cl (am7 f.al Z hl) ?_;cases hn:lH f.al with
 | false =>
  simp only[am];refine aC ?_;simp[V.erase,jy,hn]
 | true =>
  simp only[am,bn.ak]
  by_cases h1:f.kind=1
  .simp only[am,Rl.ak,bn.ak,aB h1];refine cl (Xh f.rel Rl.zero Z) ?_;simp only[am,V5];refine aC ?_;simp[V.erase,jy,hn,h1]
  .simp only[am,az h1]
   by_cases h2:f.kind=2
   .simp only[am,Rl.ak,bn.ak,aB h2];refine cl (Xh f.rel Rl.zero Z) ?_;simp only[am,V5];refine aC ?_;simp[V.erase,jy,hn,h2]
   .simp only[am,az h2]
    by_cases h3:f.kind=3
    .simp only[am,bn.ak,iH,aB h3]
     by_cases h4:f.rel.n=f.al.length
     .simp only[am,Rl.ak,bn.ak,aB h4];refine cl (La f.rel Z) ?_;simp only[am];refine aC ?_;simp[V.erase,jy,hn,h3,h4]
     .simp only[am,az h4];refine aC ?_;simp[V.erase,jy,hn,h3,h4]
    .simp only[am,az h3]
     by_cases h5:f.kind=4
     .simp only[am,bn.ak,iH,aB h5]
      by_cases h4:f.rel.n=f.al.length
      .simp only[am,Rl.ak,bn.ak,aB h4];refine cl (UI f.rel hg) ?_;simp only[am];refine aC ?_;simp[V.erase,jy,hn,h5,h4]
      .simp only[am,az h4];refine aC ?_;simp[V.erase,jy,hn,h5,h4]
     .simp only[am,az h5];refine aC ?_;simp[V.erase,jy,hn,h1,h2,h3,h5]
def Ew{l:List bn}(h:j<l.length):(l.map bn.enc)[((j:Nat):Int).toNat]?=U l[j].enc:=by simp[h]
def Xv{s:bJ}(hi:i<s.bB.length)(h:jy s.bB[i]=aq):kJ s=false:=by
 cases hq:kJ s with
 | false=>rfl
 | true =>
  simp only[kJ,b_,lO] at hq;rw[hq.2 _ (dq hi)] at h;simp at h
def Xw{s:bJ}(h1:1<=s.bB.length)(h2:s.bB.length<=8)(h3:s.tuple=aa\/s.bB.length=1)(h:∀k (hk:k<s.bB.length),jy s.bB[k]=aa):kJ s=true:=by
 simp only[kJ,b_,lO,eb,mU];refine⟨⟨⟨h1,h2⟩,h3⟩,λf hf=>?_⟩;obtain⟨k,hk,rfl⟩:=GB.1 hf;exact h k hk
def aso(s:bJ)(hg:TZ Z)(cc:s.ok):aT 176 [.agg s.enc] Z (.bool (kJ s)):=by
 refine afR.aP ?_;simp only[aO,am,aX,Nat.reduceAdd,bJ.ak,aD]
 by_cases h1:s.bB.length<1
 .simp only[am,aB (show(s.bB.length:Int)<1 by omega)];refine aC ?_;simp[V.erase,kJ];omega
 .simp only[am,az (show ¬(s.bB.length:Int)<1 by omega)]
  by_cases h2:8<s.bB.length
  .simp only[am,aB (show(8:Int)<s.bB.length by omega)];refine aC ?_;simp[V.erase,kJ];omega
  .simp only[am,bJ.ak,az (show ¬(8:Int)<s.bB.length by omega)];have h3:(∃t,s.tuple=t/\(t=aa\/s.bB.length=1))\/(s.tuple=aq/\s.bB.length≠1):=by
    cases ht:s.tuple with
    | true=>exact .inl ⟨aa,rfl,.inl rfl⟩
    | false =>
     by_cases hl:s.bB.length=1
     .exact .inl ⟨aq,rfl,.inr hl⟩
     .exact .inr ⟨rfl,hl⟩
   rcases h3 with ⟨t,ht,h3⟩ | ⟨ht,h3⟩
   .cases t
    case' false =>
     have h3:s.bB.length=1:=by simpa using h3
     simp only[am,aD,bJ.ak,aD,ht,aB (show(s.bB.length:Int)=1 by omega)]
    case' true=>simp only[am,aD,bJ.ak,aD,ht]
    all_goals
     refine ct (s.bB.length) (λi (x:Unit)=>⟨[.any,.ptr (.au 0) 0,.bool aq,.any,.any,.any,.any,.any,.any,.any,.any,.any,.any,.any,.any,.any,.any,.any,.any,.any,.any,.any,.any,.any,.any,.sl .no 67 (s.bB.map bn.enc),.int .i64 (s.bB.length:Nat),.int .i64 (i:Nat)]++aj 7 .any,[s.enc],Z⟩) (λi x=>(∀k,k<i->∀hk:k<s.bB.length,jy s.bB[k]=aa)) λF hF JF aW=>⟨?_,?_,?_⟩
     .exact en aW (()) (by intro k h;omega)
     .rintro i x hi hJ;simp only[hF,aj,am,ca hi];refine ix (Ew hi) ?_;simp only[am,bn.ak];refine cl (ad3 s.bB[i] hg (cc.2 _ (dq hi))) ?_;cases hb:jy s.bB[i] with
      | false =>
       simp only[am,aK];refine aC ?_;simp[V.erase,Xv hi hb]
      | true =>
       simp only[am,aK,bF hi];refine db (()) hi ?_ ?_ ?_ ?_ ?_ ?_
       .exact cI (aW _ _) (ji hJ (λ_=>hb))
       all_goals simp[hF,aj,am,bd,bK,cp,V.lo,bJ.bP]
     .rintro x hJ;have e:=Xw (s:=s) (by omega) (by omega) (by first | exact .inr h3 | exact .inl ht) λk hk=>hJ k hk hk
      simp only[hF,aj,am,aK,cy,aK];refine aC ?_;simp[V.erase,e]
   .have e:kJ s=false:=by simp[kJ,ht,h3]
    simp only[am,ht,az (show ¬(s.bB.length:Int)=1 by omega)];refine aC ?_;simp[V.erase,e]
def af8:aR prog 195 (sq [rg 2 [ox 1 2 0,oz 2],sq [rg 4 [fo 1 1,nL,nB .lss 1,gB,fo 1 1,nL,nB .gtr 8,gZ,nm,oh 14 (of 0 1),oh 14 (no),oh 14 (nn),oh 14 (nm),og 18 (of 1 1),og 18 (no),og 18 (nL),og 18 (nB .neq 1),oh 14 (oy 18 22),oq (.pick (.s 14) (.c (.bool aa)) (.s 23))],cr 24 2 [oz 2]],sq [rg 3 [oi 0],bl 0 (sq [sq [rg 25 [om 3,fo 1 1,nL,nb .lss 25],cx 29 0],.block 1 (sq [rg 32 [fo 1 1,om 3,nA 67 33,nl 67,oC 238 [36],nn],cr 38 2 [oz 2]]),rg 30 [ic 3]])],rg 2 [oq (.mv (.c (.bool aa)))],.ret]) [.tmp 2] 39:=aS func195
def agR:aR prog 238 (sq [rg 2 [ox 1 67 0,oz 2],rg 5 [fo 1 1,nL,o1 3],sq [rg 8 [om 3,nB .lss 1,gB,om 3,nB .gtr 64,gZ,gB,fo 1 1,oC 262 [16],nB .geq 0,gZ],cr 19 2 [oz 2]],sq [rg 4 [oi 0],bl 0 (sq [sq [rg 20 [om 4,om 3,nb .lss 20],cx 22 0],.block 1 (sq [rg 25 [fo 1 1,om 4,nA 1 26,no,oC 127 [29],nn],cr 31 2 [oz 2]]),rg 23 [ic 4]])],sq [rg 32 [fo 0 1,nB .eql 1,gB,fo 0 1,nB .eql 2,gZ],cr 39 40 [of 2 1,nl 65,oC 190 [41],nB .eql 0,o1 2]],sq [rg 44 [fo 0 1,nB .eql 3],cr 46 47 [of 2 1,nF 0,om 3,nb .eql 49,gA,of 2 1,nl 65,oC 263 [54],gZ,o1 2]],rg 57 [fo 0 1,nB .eql 4,gA,of 2 1,nF 0,om 3,nb .eql 63,gZ,gA,of 2 1,nl 65,oC 75 [69],gZ,o1 2],.ret]) [.tmp 2] 72:=aS func238
def am8{l:List (List UInt8)}(h1:1<=l.length)(h2:l.length<=64)(ht:Ab l=ah)(hJ:∀k,k<l.length->dO (l.getD k [])=aa):lH l=true:=by
 simp only[lH,ht,b_,lO,eb,uy,gM];refine⟨⟨h1,h2⟩,λs hs=>?_⟩;obtain⟨k,hk,rfl⟩:=GB.1 hs
 have:=hJ k hk
 rwa [jS hk] at this
def am6{l:List (List UInt8)}(hi:i<l.length)(hb:dO (l.getD i [])=aq):lH l=false:=by
 cases hq:lH l with
 | false=>rfl
 | true =>
  simp only[lH,b_,lO] at hq;have hm:l.getD i []∈l:=by rw[jS hi];exact dq hi
  rw[hq.2 _ hm] at hb;simp at hb
def au2:=af @am <| af @aX <| af @bn.ak @iH
def aqU(f:bn)(Z:ab)(hl:f.al.length<=100000):aT 238 [.agg f.enc] Z (.bool (jy f)):=by
 refine agR.aP ?_;simp only[aO,au2,Nat.reduceAdd];have aQ:lH f.al=aq->jy f=false:=λh=>by rw[jy,h];rfl
 by_cases h1:f.al.length<1
 .simp only[am,aB (show(f.al.length:Int)<1 by omega)];refine aC ?_;simp[V.erase,aQ (by simp[lH];omega)]
 .simp only[am,az (show ¬(f.al.length:Int)<1 by omega)]
  by_cases h2:64<f.al.length
  .simp only[am,aB (show(64:Int)<f.al.length by omega)];refine aC ?_;simp[V.erase,aQ (by simp[lH];omega)]
  .simp only[am,bn.ak,az (show ¬(64:Int)<f.al.length by omega)];refine cl (arz f.al Z hl) ?_;simp only[am,Iv];cases ht:Ab f.al with
   | some k =>
    simp only[am,xh];refine aC ?_;simp[V.erase,aQ (by simp[lH,ht])]
   | none =>
    simp only[am,vL];refine ct (f.al.length) (λi (x:Unit)=>⟨[.any,.ptr (.au 0) 0,.any,.int .i64 (f.al.length:Nat),.int .i64 (i:Nat)]++aj 67 .any,[f.enc],Z⟩) (λi x=>(∀k,k<i->dO (f.al.getD k [])=aa)) λF hF JF aW=>⟨?_,?_,?_⟩
    .exact en aW (()) (by intro k h;omega)
    .rintro i x hi hJ;simp only[hF,aj,am,ca hi,bn.ak];refine ix (BN hi) ?_;simp only[am];refine cl (wP _ Z) ?_;simp only[am];cases hb:dO (f.al.getD i []) with
     | false =>
      simp only[am,aK];refine aC ?_;simp[V.erase,aQ (am6 hi hb)]
     | true =>
      simp only[am,aK,bF hi];exact nx aW (()) hi (ji hJ hb)
    .rintro x hJ;have hn:lH f.al=true:=am8 (by omega) (by omega) ht hJ;simp only[hF,aj,am,aK,cy,aK,bn.ak]
     by_cases h1:f.kind=1
     .simp only[am,Rl.ak,bn.ak,aB h1];refine cl (mm f.rel Z) ?_;simp only[am];refine aC ?_;simp[V.erase,jy,hn,h1]
     .simp only[am,bn.ak,az h1]
      by_cases h2:f.kind=2
      .simp only[am,Rl.ak,bn.ak,aB h2];refine cl (mm f.rel Z) ?_;simp only[am];refine aC ?_;simp[V.erase,jy,hn,h2]
      .simp only[am,bn.ak,az h2]
       by_cases h3:f.kind=3
       .simp only[am,bn.ak,aB h3]
        by_cases h4:f.rel.n=f.al.length
        .simp only[am,Rl.ak,bn.ak,aB h4];refine cl (Om f.rel Z) ?_;simp only[am];refine aC ?_;simp[V.erase,jy,hn,h3,h4]
        .simp only[am,az h4];refine aC ?_;simp[V.erase,jy,hn,h3,h4]
       .simp only[am,bn.ak,az h3]
        by_cases h5:f.kind=4
        .simp only[am,bn.ak,aB h5]
         by_cases h4:f.rel.n=f.al.length
         .simp only[am,Rl.ak,bn.ak,aB h4];refine cl (WG f.rel Z) ?_;simp only[am];refine aC ?_;simp[V.erase,jy,hn,h5,h4]
         .simp only[am,az h4];refine aC ?_;simp[V.erase,jy,hn,h5,h4]
        .simp only[am,az h5];refine aC ?_;simp[V.erase,jy,hn,h1,h2,h3,h5]
def arx(s:bJ)(Z:ab)(cc:s.ok):aT 195 [.agg s.enc] Z (.bool (kJ s)):=by
 refine af8.aP ?_;simp only[aO,am,aX,Nat.reduceAdd,bJ.ak,aD]
 by_cases h1:s.bB.length<1
 .simp only[am,aB (show(s.bB.length:Int)<1 by omega)];refine aC ?_;simp[V.erase,kJ];omega
 .simp only[am,aD,bJ.ak,aD,az (show ¬(s.bB.length:Int)<1 by omega)]
  by_cases h2:8<s.bB.length
  .simp only[am,aB (show(8:Int)<s.bB.length by omega)];refine aC ?_;simp[V.erase,kJ];omega
  .simp only[am,bJ.ak,az (show ¬(8:Int)<s.bB.length by omega)];have h3:(∃t,s.tuple=t/\(t=aa\/s.bB.length=1))\/(s.tuple=aq/\s.bB.length≠1):=by
    cases ht:s.tuple with
    | true=>exact .inl ⟨aa,rfl,.inl rfl⟩
    | false =>
     by_cases hl:s.bB.length=1
     .exact .inl ⟨aq,rfl,.inr hl⟩
     .exact .inr ⟨rfl,hl⟩
   rcases h3 with ⟨t,ht,h3⟩ | ⟨ht,h3⟩
   .cases t
    case' false =>
     have h3:s.bB.length=1:=by simpa using h3
     simp only[am,aD,bJ.ak,aD,ht,aB (show(s.bB.length:Int)=1 by omega)]
    case' true=>simp only[am,ht]
    all_goals
     refine ct (s.bB.length) (λi (x:Unit)=>⟨[.any,.ptr (.au 0) 0,.bool aq,.int .i64 (i:Nat)]++aj 35 .any,[s.enc],Z⟩) (λi x=>(∀k,k<i->∀hk:k<s.bB.length,jy s.bB[k]=aa)) λF hF JF aW=>⟨?_,?_,?_⟩
     .exact en aW (()) (by intro k h;omega)
     .rintro i x hi hJ;simp only[hF,aj,am,ca hi,bJ.ak,aD];refine ix (Ew hi) ?_;simp only[am,bn.ak];refine cl (aqU s.bB[i] Z (cc.2 _ (dq hi))) ?_;cases hb:jy s.bB[i] with
      | false =>
       simp only[am,aK];refine aC ?_;simp[V.erase,Xv hi hb]
      | true =>
       simp only[am,aK,bF hi];exact nx aW (()) hi (ji hJ (λ_=>hb))
     .rintro x hJ;have e:=Xw (s:=s) (by omega) (by omega) (by simp[ht,h3]) λk hk=>hJ k hk hk
      simp only[hF,aj,am,aK,cy,aK,bJ.ak,aD];refine aC ?_;simp[V.erase,e]
   .have e:kJ s=false:=by simp[kJ,ht,h3]
    simp only[am,aD,bJ.ak,aD,ht,az (show ¬(s.bB.length:Int)=1 by omega)];refine aC ?_;simp[V.erase,e]
end Go.Proofs.Tryz
