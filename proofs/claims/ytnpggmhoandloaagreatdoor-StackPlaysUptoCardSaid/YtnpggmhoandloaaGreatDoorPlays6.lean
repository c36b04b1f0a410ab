/-
  Part 6 of the proof of StackPlaysUptoCardSaid: a logic over the model, the forms of the functions that the law reaches, and what they compute.
-/
import Derived.Test.YtnpggmhoandloaaGreatDoorProg
import Derived.Test.YtnpggmhoandloaaGreatDoorPlays5
set_option linter.unusedVariables false
set_option linter.unusedSimpArgs false
set_option linter.defProp false
set_option linter.unusedSectionVars false
set_option maxRecDepth 4000
set_option maxHeartbeats 4000000
open Option renaming some->U,none->ah
open Bool renaming true->aa,false->aq
open List renaming replicate->aj,range->bH,zipWith->ng
open Eq renaming mpr->fF
open Ne renaming symm->gM
namespace Go.Proofs.Tryz
open Go.Am
variable{R':V->ab->Prop}{args:List V}{Z:ab}
def fnQ{f:FuncId}{fn:Func}(h1:prog.funcs[f]?=U fn){x:AC}{rs:List RV}{n:Nat}(hv:vc prog x (Ce rs R') ⟨aP n args,[],Z⟩)(h:Hint)(e:E5 ⟨progTables,#[]⟩ fn h=U (x,rs,n))(h2:(fn.name == "runtime.NumGoroutine")=false)(hx:E5 prog fn h=E5 ⟨progTables,#[]⟩ fn h):cy prog f args Z R':=by
 rw[e,E5] at hx;split at hx
 . rename_i hy hz;cases hx;exact fm.fK ⟨⟨fn,h,h1,h2,hy,hz,rfl⟩⟩ hv
 cases hx
def fq{f:FuncId}{fn:Func}(h1:prog.funcs[f]?=U fn){x:AC}{rs:List RV}{n:Nat}(hv:vc prog x (Ce rs R') ⟨aP n args,[],Z⟩)(h:Hint:={})
 (e:E5 ⟨progTables,#[]⟩ fn h=U (x,rs,n):=by conv=>lhs;cbv) (h2:(fn.name == "runtime.NumGoroutine")=false:=by kernel_rfl) (hx:E5 prog fn h=E5 ⟨progTables,#[]⟩ fn h:=by kernel_rfl):cy prog f args Z R' :=
 fnQ h1 hv h e h2 hx
def z0_:=ag @am <| ag @jo <| ag @cK <| ag @bu @cX
def Jo{f:FuncId}{fn:Func}(h1:prog.funcs[f]?=U fn){x:AC}{rs:List RV}{n:Nat}{q:Prop}(g:q)(h:Hint:={})
 (e:E5 ⟨progTables,#[]⟩ fn h=U (x,rs,n):=by conv=>lhs;cbv) (h2:(fn.name == "runtime.NumGoroutine")=false:=by kernel_rfl) (hx:E5 prog fn h=E5 ⟨progTables,#[]⟩ fn h:=by kernel_rfl)
 (k:q->vc prog x (Ce rs R') ⟨aP n args,[],Z⟩:=by intro z;simp only[aP,z0_,Nat.reduceAdd,Nat.reduceEqDiff];exact z):cy prog f args Z R' :=
 fnQ h1 (k g) h e h2 hx
def cC(l:List Int):List (List V):=l.map λn=>[.int .i64 n]
def vO(l:List Int):(cC l).length=l.length:=by simp[cC]
variable{j:Nat}
def EN{l:List Int}(h:j<l.length):(cC l)[((j:Nat):Int).toNat]?=U [.int .i64 l[j]]:=by simp[cC,h]
def G_{l:List Int}{n:Int}:cC (l++[n])=cC l++[[.int .i64 n]]:=by simp[cC]
abbrev aR(f:FuncId)(es:List V)(Z:ab)(x:V):Prop:=cy prog f es Z λv σ' => v=x/\σ' = Z
abbrev eT(f:FuncId)(es:List V)(Z:ab)(x:V)(gl:ab):Prop:=cy prog f es Z λv σ' => v=x/\σ' = gl
def Y1(n:Int)(Z:ab):aR 285 [.int .i64 n] Z (.bool (decide (0<=n)&&decide (n<64))):=by
 refine fq func285 ?_;simp only[aP,am,aT,Nat.reduceAdd]
 by_cases h:0<=n
 .simp only[am,aG h];refine aI ?_;rfl
 .simp only[am,aD h];refine aI ?_;rfl
def SS:=ag @am <| ag @aT <| ag @tR @Ii
theorem Hz(s:bz)(n:Int)(Z:ab):aR 247 [.int .u64 (s.toNat:Nat),.int .i64 n] Z (.int .u64 ((la s n).toNat:Nat)):=by
 refine fq func247 ?_;simp only[aP,SS,Nat.reduceAdd];refine cl (Y1 n _) ?_;simp only[am]
 by_cases h:0<=n/\n<64
 .obtain⟨m,rfl⟩:∃m:Nat,n=m:=⟨n.toNat,by omega⟩;simp only[am,DH,LJ,aG h.1,aG h.2,wrap_u64 h.1 (by omega:(m:Int)<18446744073709551616)];refine aI ?_;simp[V.erase,la,h,lL]
 .have:(decide (0<=n)&&decide (n<64))=false:=by grind
  simp only[am,this];refine aI ?_;simp[V.erase,la,h]
def Hy(l:List Int)(Z:ab)(hl:l.length<=100000):aR 269 [.sl .no 1 (cC l)] Z (.int .u64 ((gq l).toNat:Nat)):=by
 refine fq func269 ?_;simp only[aP,am,aT,Nat.reduceAdd,tR];refine ch (l.length) (λi (x:bz)=>⟨[.sl .no 1 (cC l),.any,.int .u64 ((0#64:bz).toNat:Nat),.int .u64 (x.toNat:Nat),.any,.any,.sl .no 1 (cC l),.int .i64 (l.length:Nat),.int .i64 (i:Nat)]++aj 8 .any,[],Z⟩) (λi x=>(x=gq (l.take i))) λF hF JF aZ=>⟨?_,?_,?_⟩
 .refine en aZ (0#64) (rfl) ?_ ?_ ?_
  all_goals simp[hF,aj,am,ba,vO]
 .rintro i x hi rfl;simp only[hF,aj,am,cf hi];refine ix (EN hi) ?_;simp only[am];refine cl (Hz _ _ _) ?_;simp only[am,aK,bt hi];exact nx aZ (la (gq (l.take i)) l[i]) hi (by rw[iB hi];simp only[gq,B8,AA,Td])
 .rintro x rfl;simp only[hF,aj,am,aK,ck,aK,du];exact rt
theorem auJ(s:bz)(m:Nat):decide (s>>>m&&&1#64=1#64)=s.getLsbD m:=by
 have:(s>>>m&&&1#64=1#64)↔s.getLsbD m=true:=by
  constructor
  .intro h
   have:=mf (λx:bz=>x.getLsbD 0) h
   simpa using this
  .grind
 grind
def z2_:=ag @am <| ag @Ao <| ag @LK @FH
theorem aoU(s:bz)(n:Int)(Z:ab):aR 248 [.int .u64 (s.toNat:Nat),.int .i64 n] Z (.bool (hasB s n)):=by
 refine fq func248 ?_;simp only[aP,am,aT,Nat.reduceAdd,Ii];refine cl (Y1 n _) ?_;simp only[am]
 by_cases h:0<=n/\n<64
 .obtain⟨m,rfl⟩:∃m:Nat,n=m:=⟨n.toNat,by omega⟩;simp only[z2_,aG h.1,aG h.2,wrap_u64 h.1 (by omega:(m:Int)<18446744073709551616),auJ];refine aI ?_;rfl
 .have:(decide (0<=n)&&decide (n<64))=false:=by grind
  simp only[am,this];refine aI ?_;simp[V.erase,hasB]
  grind
def z3_:=ag @am <| ag @aT <| ag @tR <| ag @acy @FH
def aoV(a b:bz)(Z:ab):aR 294 [.int .u64 (a.toNat:Nat),.int .u64 (b.toNat:Nat)] Z (.bool (yz a b)):=by
 refine fq func294 ?_;simp only[aP,z3_,Nat.reduceAdd];refine aI ?_;simp[V.erase,yz]
def z4_:=ag @am <| ag @aT <| ag @tR <| ag @Ii @aww
def Hx(n:Int)(Z:ab):aR 303 [.int .i64 n] Z (.int .u64 ((jT n).toNat:Nat)):=by
 refine fq func303 ?_;simp only[aP,z4_,Nat.reduceAdd]
 by_cases h:n<=0
 .simp only[am,aG h];refine aI ?_;simp[V.erase,jT,h]
 .simp only[am,aD h]
  by_cases h1:64<=n
  .simp only[am,aG h1];refine aI ?_;simp[V.erase,jT,h,h1]
  .obtain⟨m,rfl⟩:∃m:Nat,n=m:=⟨n.toNat,by omega⟩;simp only[am,LJ,Sw,aD h1,wrap_u64 (by omega:0<=(m:Int)) (by omega:(m:Int)<18446744073709551616)];have e:jT (m:Int)=lL m - 1#64:=by simp only[jT,h,h1,cz,iM]
   refine aI ?_;simp[V.erase,e,lL]
abbrev TZ(Z:ab):Prop:=Z.cI 1=U Ak
def avU(s:bz)(h:s≠0#64)(hg:TZ Z):aR 313 [.int .u64 (s.toNat:Nat)] Z (.int .i64 (vS s:Nat)):=by
 refine fq func313 ?_;simp only[aP,z3_,Nat.reduceAdd];obtain⟨h1,h2⟩:=avT (vS s) (Ht h).1;simp only[am,Ao,Sw,aD h,show V.int .u64 285870213051353865 = .int .u64 ((285870213051353865#64:bz).toNat:Nat) from rfl,awu];rw[BitVec.zero_sub,apg h];generalize hj:((lL (vS s)*285870213051353865#64)>>>58).toNat=j at h1 h2;have e58:∀a:bz,jv .u64 (a.toNat:Nat) 58 .shr=U (.int .u64 ((a>>>58).toNat:Nat)):=λa=>LK (m:=58)
 simp only[am,cK,e58,hj];refine jX ?_;have hd:bP aq 1 (Ak.drop j)=U (.int .u8 (vS s:Nat)):=by
  obtain⟨h3,h4⟩:=kG.1 h2;have h5:j<Ak.length:=by simpa [Ak] using h3
  rw[mb h5];simp[bP,Ak,h4]
 rw[show(((j:Nat):Int).toNat)*1=j by omega];simp only[am,show Z.cI 1=U Ak from hg,hd,wrap_i64 (x:=((vS s:Nat):Int)) (by omega) (by have:=(Ht h).1;omega)];exact rt
def z5_:=ag @am <| ag @aK <| ag @Ao @Sw
def ahI(f:FuncId)(cap:List V)(hn:bK cap=aa)(J:List Nat->ab->Prop)(s:bz)(hg:∀l Z,J l Z->TZ Z)
 (h:∀pre k suf Z,iu s=pre++k::suf->J pre Z->cy prog f (.int .i64 (k:Nat)::cap) Z λv σ' => v = .bool aa/\J (pre++[k]) σ')
 {Z:ab} (h0:J [] Z):cy prog 305 [.int .u64 (s.toNat:Nat),.fn (.func f) [] cap] Z λv σ' => v = .bw []/\J (iu s) σ' := by
 refine fq func305 ?_;simp only[aP,SS,Nat.reduceAdd];refine ch ((iu s).length) (λi (x:bz × ab)=>⟨[.int .u64 (x.1.toNat:Nat),.fn (.func f) [] cap]++aj 13 .any,[],x.2⟩) (λi x=>(iu x.1=(iu s).drop i/\J ((iu s).take i) x.2)) λF hF JF aZ=>⟨?_,?_,?_⟩
 .exact en aZ ((s,Z)) (⟨rfl,h0⟩)
 .rintro i ⟨x,Z⟩ hi ⟨h1,h2⟩;simp only at h1 h2;have hx:x≠0#64:=an_ (by rw[h1];simp;omega);rw[mb hi] at h1;have hl:=YJ hx;rw[h1,mZ] at hl;obtain⟨zw,iW⟩:=hl;simp only[hF,aj,am,FH,aD hx];refine cl (avU x hx (hg _ _ h2)) ?_;simp only[am];simp only[am,hn];rw[<-zw];refine(h _ _ ((iu s).drop (i+1)) Z (by rw[<-mb hi,u_]) h2).mono ?_;rintro v σ' ⟨rfl,h3⟩;simp only[z5_];exact nx aZ ((x&&&(x - 1#64),σ')) hi (⟨iW.symm,by rw[iB hi];exact h3⟩)
 .rintro⟨x,Z⟩ ⟨h1,h2⟩;simp only[Az,du] at h1 h2;have hx:=aoa h1;subst hx;simp only[hF,aj,am,aK,bu,aK];exact aN rfl (ab.a8 _) ⟨rfl,h2⟩
def Bx(dx Z:ab)(b:Nat)(tk:Tk)(rows:List (List V)):Prop:=Z.box b=U [.sl tk 1 rows]/\Gr dx Z tk rows.length/\dx.box b=ah
theorem an8(n:Int){dx:ab}{b:Nat}{tk:Tk}{l:List Int}(h:Bx dx Z b tk (cC l))(hl:l.length<=100000):
 cy prog 306 [.int .i64 n,.ptr (.out b) 0] Z λv σ' => v = .bool aa/\∃gz,Bx dx σ' b gz (cC (l++[n])):=by
 refine fq func306 ?_;simp only[aP,am,aT,Nat.reduceAdd];obtain⟨h1,h2,h3⟩:=h;simp only[am,h1];refine Gr.app h2 (by simp[cC,aJ];omega) λgz σ' hG hB _=>?_
 simp only[am,show σ'.box b=U [.sl tk 1 (cC l)] by rw[hB,h1]];refine aN rfl (ab.a8 _) ⟨rfl,gz,?_,?_,h3⟩
 .simp[ab.set,cC]
 .refine⟨⟨λc cs hc=>?_,hG.sub.2⟩,?_⟩
  .rw[ab.fQ]
   .exact hG.sub.1 c cs hc
   .grind
  .simpa [cC,ab.set] using hG.tk
theorem Qw(s:bz)(hg:TZ Z):aR 293 [.int .u64 (s.toNat:Nat)] Z (.sl .no 1 (cC ((iu s).map Int.ofNat))):=by
 refine fq func293 ?_ ⟨[3],[]⟩;simp only[aP,am,aT,Nat.reduceAdd];refine lT λb hb=>?_
 simp only[am];have hl:=KG s;refine(ahI _ _ rfl (λl σ' => ∃tk,Bx Z σ' b tk (cC (l.map Int.ofNat))) s ?_ ?_ ⟨.aY,?_⟩).mono ?_
 .rintro l σ' ⟨tk,h1,h2,h3⟩;exact h2.sub.2.2 _ _ hg
 .rintro pre k suf σ' hs ⟨tk,h⟩
  have:pre.length<=64:=by grind
  have:=an8 k h (by simp;omega)
  grind
 .exact⟨j6,⟨jF hb,.inl rfl⟩,hb⟩
 .rintro v σ' ⟨rfl,tk,h1,h2,h3⟩;simp only[am,h1];exact aN rfl h2.sub ⟨rfl,rfl⟩
def ajM:fm prog 199 (sq [rg 0 [ox 1 65 0,oR 2 l8],rg 7 [ol 65 1,oC 246 [7],oR 3 l8,o2 65 3],sq [rg 9 [fo 0 3,oi 0],lp 10 0 (sq [rg 13 [om 11,o1 4],rg 14 [om 4,om 4,of 1 3,oP 64 1 16 15,no,om 4,oC 247 [18,19],of 1 3,oP 64 1 21 14,os 1 22 20]]) 23],sq [rg 24 [fo 0 3,oi 0],lp 25 2 (sq [rg 28 [om 26,o1 5],rg 29 [fo 0 3,oi 0],lp 30 4 (sq [rg 33 [om 31,o1 6],rg 34 [om 6,of 1 3,oP 64 1 35 34,no,om 5,oC 248 [37,38]],ci 39 (dg 40 [om 6,of 1 3,oP 64 1 41 40,no,om 5,of 1 3,oP 64 1 45 44,no,nb .or 43,of 1 3,oP 64 1 49 40,os 1 50 48])]) 51]) 52],rg 53 [ol 65 3,o2 65 2],.ret]) [.cell 2 aa 65] 54:=fU func199
def ajT:fm prog 246 (sq [rg 0 [ox 1 65 0,oR 2 l8],rg 5 [ol 65 1,oC 267 [5],oY l8 [(0,1,.s 6)],oR 3 l8,o2 65 3],sq [rg 8 [fo 0 3,oi 0],lp 9 0 (sq [rg 12 [om 10,o1 4],rg 13 [om 4,ol 65 1,om 4,oC 284 [14,15],of 1 3,oP 64 1 17 13,os 1 18 16]]) 19],rg 20 [ol 65 3,o2 65 2],.ret]) [.cell 2 aa 65] 21:=fU func246
def ajU:fm prog 249 (sq [rg 0 [oR 2 l8],rg 3 [om 0,oY l8 [(0,1,.s 3)],oC 267 [4],oY l8 [(0,1,.s 5)],o2 65 2],.ret]) [.cell 2 aa 65] 7:=fU func249
def ajV:fm prog 266 (sq [rg 2 [ox 1 65 0,oz 2],dg 3 [ol 65 1,oC 246 [3],mM [0],ol 65 1,oC 199 [5],oq (.lr aq K7 (.s 4) (.s 6)),o1 2],.ret]) [.tmp 2] 8:=fU func266
def ajY:fm prog 298 (sq [rg 4 [ox 2 65 0,ox 3 65 1,oz 2],dg 5 [ol 65 2,oC 246 [5],mM [0],ol 65 3,oC 246 [7],oq (.lr aq K7 (.s 6) (.s 8)),o1 4],.ret]) [.tmp 4] 10:=fU func298
def z6_:=ag @am <| ag @jo <| ag @aT @Rl.al
def Du(r:Rl)(Z:ab):aR 267 [.agg r.enc] Z (.int .i64 (bm r:Nat)):=by
 refine fq func267 ?_;simp only[aP,z6_,Nat.reduceAdd];refine ao0 ?_;simp only[am,jo];refine aoW ?_;simp only[am];refine aI ?_;simp[V.erase];simp only[bm];split<;>split<;>omega
def tU:=ag @am <| ag @cK <| ag @aT <| ag @tR @Rl.al
def z8_:=ag @am <| ag @Rl.al <| ag @iM @rh
def RC(r:Rl)(i:Nat)(h:i<64)(Z:ab):aR 284 [.agg r.enc,.int .i64 (i:Nat)] Z (.int .u64 ((jm r i).toNat:Nat)):=by
 refine fq func284 ?_;simp only[aP,tU,Nat.reduceAdd];refine jX ?_;simp only[z8_,Rl.yG h];refine bn.intro (Du r Z) ?_;simp only[am];refine bn.intro (Hx _ Z) ?_;simp only[am,Ao];refine⟨⟨Rl.yG h,Rl.yG h⟩,?_⟩;refine aI ?_;rfl
def Av:=ag @am <| ag @aK <| ag @iM @rh
def KY(r:Rl)(Z:ab):aR 246 [.agg r.enc] Z (.agg (mO r).enc):=by
 refine ajT.fK ?_;simp only[aP,am,aT,Nat.reduceAdd,Rl.al];refine cl (Du r Z) ?_;simp only[am,Nat.reduceAdd,Rl.al];have hp:=@j1 r;refine ch (bm r) (λi (x:Unit)=>⟨[.agg r.enc,.ptr (.au 0) 0,.ptr (.au 1) 0,.ptr (.au 2) 0,.any,.any,.any,.any,.any,.int .i64 (bm r:Nat),.int .i64 (i:Nat)]++aj 10 .any,[r.enc,Rl.zero.enc,(Rl.of (bm r:Nat) λj=>if j<i then jm r j else 0#64).enc],Z⟩) (λi x=>(True)) λF hF JF aZ=>⟨?_,?_,?_⟩
 .refine en aZ (()) (trivial) ?_ ?_ ?_
  all_goals simp[hF,aj,am,ba,Rl.SU,Rl.zS]
 .rintro i x hi -;simp only[hF,aj,am,cf hi,Rl.al];refine cl (RC r i (by omega) Z) ?_;simp only[am,cK];refine jX ?_;simp only[Av,Rl.yF (show i<64 by omega),Rl.yH (show i<64 by omega),bt hi];refine nx aZ (()) hi (trivial) ?_ ?_ ?_
  all_goals simp[hF,aj,am,ba,Rl.fill]
 .rintro x -;simp only[hF,aj,am,aK,ck,aK,Rl.al];refine aI ?_;rfl
def Ze(n:Int)(Z:ab):aR 249 [.int .i64 n] Z (.agg (Rl.of (min n.toNat 64:Nat) λ_=>0#64).enc):=by
 refine ajU.fK ?_;simp only[aP,am,aT,Nat.reduceAdd,Rl.al];refine cl (Du _ Z) ?_;simp only[am,Rl.al];refine aI ?_;rfl
def abv(r s:Rl)(Z:ab):aR 298 [.agg r.enc,.agg s.enc] Z (.bool (decide (mO r=mO s))):=by
 refine ajY.fK ?_;simp only[aP,am,aT,Nat.reduceAdd,Rl.al];refine bn.intro (KY r Z) ?_;simp only[am,Rl.al];refine bn.intro (KY s Z) ?_;simp only[am,Rl.al];exact rt
def LD(r:Rl)(w:bz)(hg:TZ Z):aR 291 [.agg r.enc,.int .u64 (w.toNat:Nat)] Z (.int .u64 ((xm r w).toNat:Nat)):=by
 refine fq func291 ?_;simp only[aP,tU,Nat.reduceAdd];refine cl (Du r Z) ?_;simp only[am];refine cl (Hx _ Z) ?_;simp only[am,Ao];refine cl (Qw _ hg) ?_;simp only[am,aF,vO];generalize hl:iu (w&&&jT ↑(bm r))=l;have az:∀k∈l,k<64:=λk hk=>an9 (hl▸hk)
 have hlen:l.length<=64:=hl▸KG _;refine ch (l.length) (λi (x:Unit)=>⟨[.agg r.enc,.any,.ptr (.au 0) 0,.any,.any,.int .u64 (((l.take i).foldl (λo i=>o|||jm r i) 0#64).toNat:Nat),.any,.any,.any,.any,.any,.any,.any,.sl .no 1 (cC (l.map Int.ofNat)),.int .i64 (l.length:Nat),.int .i64 (i:Nat)]++aj 10 .any,[r.enc],Z⟩) (λi x=>(True)) λF hF JF aZ=>⟨?_,?_,?_⟩
 .refine en aZ (()) (trivial) ?_ ?_ ?_
  all_goals simp[hF,aj,am,ba]
 .rintro i x hi -;simp only[hF,aj,am,cf hi];refine ix (EN (l:=l.map Int.ofNat) (by simpa using hi)) ?_;simp only[am,Rl.al,B_,Iv];refine cl (RC r l[i] (az _ (dQ hi)) Z) ?_;simp only[am,aK,DH,bt hi];refine nx aZ (()) hi (trivial) ?_ ?_ ?_
  all_goals simp[hF,aj,am,ba,V4 hi]
 .rintro x -;simp only[hF,aj,am,aK,ck,aK,du];refine aI ?_;simp[V.erase,xm,hl]
def M4(r:Rl)(w:bz)(Z:ab):aR 292 [.agg r.enc,.int .u64 (w.toNat:Nat)] Z (.int .u64 ((AU r w).toNat:Nat)):=by
 refine fq func292 ?_;simp only[aP,tU,Nat.reduceAdd];refine cl (Du r Z) ?_;simp only[am];have hp:=@j1 r;refine ch (bm r) (λi (x:Unit)=>⟨[.agg r.enc,.int .u64 (w.toNat:Nat),.ptr (.au 0) 0,.any,.any,.int .u64 (((bH i).foldl (λo i=>if jm r i&&&w=0#64 then o else la o (i:Nat)) 0#64).toNat:Nat),.any,.any,.int .i64 (bm r:Nat),.int .i64 (i:Nat)]++aj 13 .any,[r.enc],Z⟩) (λi x=>(True)) λF hF JF aZ=>⟨?_,?_,?_⟩
 .exact en aZ (()) (trivial)
 .rintro i x hi -;simp only[hF,aj,am,cf hi,Rl.al];refine cl (RC r i (by omega) Z) ?_;simp only[am,Ao,FH]
  by_cases h:jm r i&&&w=0#64
  .simp only[am,aK,aG h,bt hi];refine nx aZ (()) hi (trivial) ?_ ?_ ?_
   all_goals simp[hF,aj,am,ba,A2,h]
  .simp only[am,aD h];refine cl (Hz _ _ Z) ?_;simp only[am,aK,bt hi];refine nx aZ (()) hi (trivial) ?_ ?_ ?_
   all_goals simp[hF,aj,am,ba,A2,h]
 .rintro x -;simp only[hF,aj,am,aK,ck,aK];refine aI ?_;simp[V.erase,AU]
variable{i:Nat}
theorem af_{r:Rl}(hi:i<bm r):(Rl.of (bm r:Nat) λj=>if j<bm r then(if j<i then la (jm r j) (j:Nat) else jm r j) else 0#64).put i (la (jm r i) (i:Nat))=Rl.of (bm r:Nat) λj=>if j<bm r then(if j<i+1 then la (jm r j) (j:Nat) else jm r j) else 0#64:=by
 refine Rl.ext rfl λk hk=>?_
 rw[Rl.Eo,Rl.rz hk,Rl.rz hk]
 grind
def af9{r:Rl}(hi:i<bm r):(Rl.of (bm r:Nat) λj=>if j<bm r then(if j<i then la (jm r j) (j:Nat) else jm r j) else 0#64).get i=jm r i:=by rw[Rl.rz (wa hi j1),aL hi,aB (Nat.lt_irrefl _)]
theorem af8{r:Rl}:(Rl.of (bm r:Nat) λj=>if j<bm r then(if j<bm r then la (jm r j) (j:Nat) else jm r j) else 0#64)=ud r:=by
 refine Rl.ext rfl λk hk=>?_
 rw[Rl.rz hk,ud,Rl.rz hk]
 grind
variable{k:Nat}
def XQ{n:Nat}{o:Rl}:mH (n+1) k o=Ac k (mH n k o) n:=A2
theorem amC{o:Rl}:mH 0 k o=o:=rfl
theorem aq3{r:Rl}:nZ r 0=ud r:=rfl
theorem arJ{r:Rl}:(mO r).n=(bm r:Nat):=rfl
def ave{o:Rl}(h:hasB (o.get i) (k:Nat)=aa):Ac k o i=o.put i (o.get i|||o.get k):=by rw[Ac,aL h]
def avd{o:Rl}(h:hasB (o.get i) (k:Nat)=aq):Ac k o i=o:=by rw[Ac,h];rfl
def axv:=ag @am <| ag @cK <| ag @iM @rh
def ac4:=ag @am <| ag @cK <| ag @DH <| ag @iM @rh
def UL(r:Rl)(Z:ab):aR 199 [.agg r.enc] Z (.agg (kN r).enc):=by
 refine ajM.fK ?_;simp only[aP,am,aT,Nat.reduceAdd,Rl.al];refine cl (KY r Z) ?_;simp only[am,Nat.reduceAdd,Rl.al,arJ];have hp:=@j1 r;refine ch (bm r) (λi (x:Unit)=>⟨[.any,.ptr (.au 0) 0,.ptr (.au 1) 0,.ptr (.au 2) 0,.any,.any,.any,.any,.any,.any,.int .i64 (bm r:Nat),.int .i64 (i:Nat)]++aj 42 .any,[r.enc,Rl.zero.enc,(Rl.of (bm r:Nat) λj=>if j<bm r then(if j<i then la (jm r j) (j:Nat) else jm r j) else 0#64).enc],Z⟩) (λi x=>(True)) λF hF JF aZ=>⟨?_,?_,?_⟩
 .refine en aZ (()) (trivial) ?_ ?_ ?_
  all_goals simp[hF,aj,am,ba,mO]
 .rintro i x hi -;simp only[hF,aj,am,cK,cf hi];have zk:i<64:=by omega
  refine jX ?_;simp only[am,iM,rh,Rl.yG zk,af9 hi];refine cl (Hz _ _ Z) ?_;simp only[am,cK];refine jX ?_;simp only[Av,Rl.yF zk,Rl.yH zk,bt hi];refine nx aZ (()) hi (trivial) ?_ ?_ ?_
  all_goals simp[hF,aj,am,ba,af_ hi]
 .rintro x -;simp only[hF,aj,am,aK,ck,aK,Rl.al,Rl.zS];rw[af8];clear hF F;refine ch (bm r) (λk (x:Unit)=>⟨[.any,.ptr (.au 0) 0,.ptr (.au 1) 0,.ptr (.au 2) 0,.any,.any,.any,.any,.any,.any,.any,.any,.any,.any,.any,.any,.any,.any,.any,.any,.any,.any,.any,.any,.any,.int .i64 (bm r:Nat),.int .i64 (k:Nat)]++aj 27 .any,[r.enc,Rl.zero.enc,(nZ r k).enc],Z⟩) (λk x=>(True)) λF hF JF aZ=>⟨?_,?_,?_⟩
  .refine en aZ (()) (trivial) ?_ ?_ ?_
   all_goals simp[hF,aj,am,ba,aq3]
  .rintro k x hi -;simp only[hF,aj,am,cf hi,Rl.al,KS];refine ch (bm r) (λi (x:Unit)=>⟨[.any,.ptr (.au 0) 0,.ptr (.au 1) 0,.ptr (.au 2) 0,.any,.int .i64 (k:Nat),.any,.any,.any,.any,.any,.any,.any,.any,.any,.any,.any,.any,.any,.any,.any,.any,.any,.any,.any,.int .i64 (bm r:Nat),.int .i64 (k:Nat),.any,.any,.any,.int .i64 (bm r:Nat),.int .i64 (i:Nat)]++aj 22 .any,[r.enc,Rl.zero.enc,(mH i k (nZ r k)).enc],Z⟩) (λi x=>(True)) λF2 bV pI dr=>⟨?_,?_,?_⟩
   .refine en dr (()) (trivial) ?_ ?_ ?_
    all_goals simp[bV,aj,am,ba,amC]
   .rintro i x hj -;have JY:i<64:=by omega
    have alZ:k<64:=by omega
    simp only[bV,aj,am,cK,cf hj];refine jX ?_;simp only[am,iM,rh,Rl.yG JY];refine cl (aoU _ _ Z) ?_;simp only[am];refine dc (λhb=>?_) (λhb=>?_)
    .simp only[am,cK];refine jX ?_;simp only[axv,Rl.yG JY];refine jX ?_;simp only[ac4,Rl.yG alZ];refine jX ?_;simp only[Av,Rl.yF JY,Rl.yH JY,bt hj];refine nx dr (()) hj (trivial) ?_ ?_ ?_
     all_goals simp[bV,aj,am,ba,XQ,ave hb]
    .simp only[am,aK,bt hj];refine nx dr (()) hj (trivial) ?_ ?_ ?_
     all_goals simp[bV,aj,am,ba,XQ,avd hb]
   .rintro x -;simp only[bV,aj,am,aK,ck,Nat.reduceEqDiff,aK,Rl.al,bt hi];refine nx aZ (()) hi (trivial) ?_ ?_ ?_
    all_goals simp[hF,aj,am,ba,KT]
  .rintro x -;simp only[hF,aj,am,aK,ck,aK,Rl.al];exact aN (v:=.agg (kN r).enc) Rl.dT (ab.a8 _) ⟨by simp only[V.erase,Rl.dW],rfl⟩
def UG(r:Rl)(Z:ab):aR 266 [.agg r.enc] Z (.bool (wm r)):=by
 refine ajV.fK ?_;simp only[aP,am,aT,Nat.reduceAdd,Rl.al];refine bn.intro (KY r Z) ?_;simp only[am,Rl.al];refine bn.intro (UL r Z) ?_;simp only[am,Rl.al];refine aI ?_;rfl
def ao3(r:Rl)(i:Nat)(hg:TZ Z):aR 268 [.agg r.enc,.int .i64 (i:Nat)] Z (.int .u64 ((Dl r i).toNat:Nat)):=by
 refine fq func268 ?_;simp only[aP,tU,Nat.reduceAdd];refine cy.df (as' := [.sl .no 1 (cC [(i:Int)])]) ?_ ⟨dv.no,trivial⟩ bp.rfl;refine cl (Hy [(i:Int)] Z (by simp)) ?_;simp only[am,Rl.al];refine bn.intro (LD r _ hg) ?_;simp only[am,Rl.al];refine bn.intro (M4 r _ Z) ?_;simp only[am,Ao,Rl.al];refine aI ?_;rfl
theorem aqY(r:Rl)(hg:TZ Z):aR 220 [.agg r.enc] Z (.bool (wY r)):=by
 refine fq func220 ?_;simp only[aP,am,aT,Nat.reduceAdd,Rl.al];refine cl (UG r Z) ?_;simp only[am];refine dc (λhb=>?_) (λhb=>?_)
 .have hb:wm r=false:=by grind
  simp only[am];refine aI ?_;simp[V.erase,wY,hb]
 .have hb:wm r=true:=by grind
  simp only[am,Rl.al];refine cl (Du r Z) ?_;simp only[am];have hp:=@j1 r;refine ch (bm r) (λi (x:Unit)=>⟨[.any,.ptr (.au 0) 0,.any,.any,.any,.any,.any,.any,.int .i64 (bm r:Nat),.int .i64 (i:Nat)]++aj 10 .any,[r.enc],Z⟩) (λi x=>(∀k,k<i->Dl r k=gq [(k:Int)])) λF hF JF aZ=>⟨?_,?_,?_⟩
  .exact en aZ (()) (by intro k h;omega)
  .rintro i x hi hJ;simp only[hF,aj,am,cf hi,Rl.al];refine cl (ao3 r i hg) ?_;simp only[am];refine cy.df (as' := [.sl .no 1 (cC [(i:Int)])]) ?_ ⟨dv.no,trivial⟩ bp.rfl;refine cl (Hy [(i:Int)] _ (by simp)) ?_;simp only[am,FH]
   by_cases h:Dl r i=gq [(i:Int)]
   .simp only[am,aK,aG h,bt hi];exact nx aZ (()) hi (λk hk=>if e:k=i then e▸h else hJ k (by omega))
   .have hA:wc r=false:=by
     cases hq:wc r with
     | false=>rfl
     | true=>exact absurd ((TP hb).1 hq i hi) h
    simp only[am,aK,aD h];refine aI ?_;simp[V.erase,wY,hA]
  .rintro x hJ;have hA:wc r=true:=(TP hb).2 hJ;simp only[hF,aj,am,aK,ck,aK];refine aI ?_;simp[V.erase,wY,hb,hA]
def af3(n:Int)(Z:ab):aR 312 [.int .i64 n] Z (.bool (decide (1<=n)&&decide (n<=64))):=by
 refine fq func312 ?_;simp only[aP,am,aT,Nat.reduceAdd]
 by_cases h:1<=n
 .simp only[am,aG h];refine aI ?_;rfl
 .simp only[am,aD h];refine aI ?_;rfl
def FG(p:bz × Bool):V:=.bw [.int .u64 (p.1.toNat:Nat),.bool p.2]
theorem at6(n k:Int)(Z:ab):aR 302 [.int .i64 n,.int .i64 k] Z (FG (uN n k)):=by
 refine fq func302 ?_;simp only[aP,am,aT,Nat.reduceAdd,tR];refine cl (af3 n Z) ?_
 by_cases h:1<=n/\n<=64
 .simp only[am,aG h.1,aG h.2]
  by_cases h2:k<0
  .simp only[am,aG h2];refine aI ?_;simp[V.erase,a9,FG,uN,show ¬0<=k by omega]
  .simp only[am,aD h2]
   by_cases h3:n<=k
   .simp only[am,aG h3];refine aI ?_;simp[V.erase,a9,FG,uN,show ¬k<n by omega]
   .simp only[am,aD h3];refine cl (Hx k Z) ?_;simp only[am];refine aI ?_;simp[V.erase,a9,FG,uN,h,show 0<=k by omega,show k<n by omega]
 .have e:(decide (1<=n)&&decide (n<=64))=false:=by grind
  have e2:uN n k=(0#64,aq):=by simp only[uN];rw[aB (by omega)]
  simp only[am,e];refine aI ?_;simp[V.erase,a9,FG,e2]
def NM(r:Rl)(Z:ab):aR 299 [.agg r.enc] Z (.bool (kT r)):=by
 refine fq func299 ?_;simp only[aP,am,aT,Nat.reduceAdd,Rl.al]
 by_cases h:1<=r.n
 .simp only[am,Rl.al,aG h]
  by_cases h2:r.n<=8
  .simp only[am,Rl.al,aG h2];refine cl (UG r Z) ?_;simp only[am];refine aI ?_;simp[V.erase,kT,h,h2]
  .simp only[am,aD h2];refine aI ?_;simp[V.erase,kT,h2]
 .simp only[am,aD h];refine aI ?_;simp[V.erase,kT,h]
def ald(r:Rl)(w:bz)(o:Nat)(ho:o<64)(Z:ab):aR 316 [.agg r.enc,.int .u64 (w.toNat:Nat),.int .i64 (o:Nat)] Z (.int .u64 ((HG r w o).toNat:Nat)):=by
 refine fq func316 ?_;simp only[aP,tU,Nat.reduceAdd];rw[wrap_i64,wrap_u64 (by omega) (by omega),show(8:Int)*(o:Nat)=((8*o:Nat):Int) by omega];simp only[am,LK,Rl.al];refine cl (Hx r.n Z) ?_;simp only[am,Ao];refine aI ?_;rfl
def axw:=ag @am <| ag @aK <| ag @DH @LJ
def WC(r:Rl)(n:Nat)(hn:r.n=n)(h8:n<=8)(f:FuncId)(cap:List V)(hc:bK cap=aa)(g:Nat->bz)(Z:ab)
 (h:∀o,o<n->cy prog f (.int .i64 (o:Nat)::cap) Z λv σ' => v = .int .u64 ((g o).toNat:Nat)/\σ' = Z) :
 aR 310 [.agg r.enc,.fn (.func f) [] cap] Z (.int .u64 ((yt n g).toNat:Nat)):=by
 refine fq func310 ?_;simp only[aP,tU,Nat.reduceAdd];refine ch (n) (λi (x:Unit)=>⟨[.any,.fn (.func f) [] cap,.any,.any,.any,.int .u64 ((yt i g).toNat:Nat),.any,.any,.int .i64 (n:Nat),.int .i64 (i:Nat)]++aj 13 .any,[r.enc],Z⟩) (λi x=>(True)) λF hF JF aZ=>⟨?_,?_,?_⟩
 .refine en aZ (()) (trivial) ?_ ?_ ?_
  all_goals simp[hF,aj,am,ba,hn,yt]
 .rintro i x hi -;simp only[hF,aj,am,cf hi,hc];refine(h i hi).mono ?_;rintro v σ' ⟨rfl,rfl⟩;simp only[am];rw[wrap_i64 (x:=8*((i:Nat):Int)),wrap_u64 (x:=8*((i:Nat):Int)) (by omega) (by omega),show(8:Int)*(i:Nat)=((8*i:Nat):Int) by omega];simp only[axw,bt hi];refine nx aZ (()) hi (trivial) ?_ ?_ ?_
  all_goals simp[hF,aj,am,ba,yt,A2]
 .rintro x -;simp only[hF,aj,am,aK,ck,aK];exact rt
def axx:=ag @am <| ag @aK <| ag @DH @Rl.al
def akN(r:Rl)(w:bz)(o b1 b2:Nat)(hg:TZ Z)(ho:o<bm r)(h8:bm r<=8)(h1:Z.box b1=U r.enc)(h2:Z.box b2=U [.int .u64 (w.toNat:Nat)]):
 aR 315 [.int .i64 (o:Nat),.ptr (.out b1) 0,.ptr (.out b2) 0] Z (.int .u64 ((D9 r w o).toNat:Nat)):=by
 refine fq func315 ?_;simp only[aP,am,aT,Nat.reduceAdd,tR];simp only[am,Rl.al,h1];refine bn.intro (cy.df (as' := [.sl .no 1 (cC [(o:Int)])]) (Hy [(o:Int)] Z (by simp)) ⟨dv.no,trivial⟩ bp.rfl) ?_;simp only[am,Rl.al];refine bn.intro (LD r _ hg) ?_;simp only[am];refine bn.intro (Qw _ hg) ?_;simp only[am,aF,Rl.al,vO,h1];rw[show xm r (gq [(o:Int)])=AM r o from rfl];generalize hl:iu (AM r o)=l;have az:∀k∈l,k<bm r:=λk hk=>by
  rw[<-hl,Qx,Mq] at hk;exact(mo hk).2
 have hlen:l.length<=64:=hl▸KG _;have hp:=@j1 r;refine ch (l.length) (λi (x:Unit)=>⟨[.any,.ptr (.out b1) 0,.ptr (.out b2) 0,.any,.any,.int .u64 (((l.take i).foldl (λs p=>s|||AU r (HG r w p)) 0#64).toNat:Nat),.any,.any,.any,.any,.any,.any,.any,.sl .no 1 (cC (l.map Int.ofNat)),.int .i64 (l.length:Nat),.int .i64 (i:Nat)]++aj 13 .any,[],Z⟩) (λi x=>(True)) λF hF JF aZ=>⟨?_,?_,?_⟩
 .refine en aZ (()) (trivial) ?_ ?_ ?_
  all_goals simp[hF,aj,am,ba]
 .rintro i x hi -;simp only[hF,aj,am,cf hi];refine ix (EN (l:=l.map Int.ofNat) (by simpa using hi)) ?_;simp only[am,Rl.al,B_,Iv,h1,h2]
  have:=az _ (dQ hi)
  refine bn.intro (ald r w l[i] (by omega) Z) ?_;simp only[am,Rl.al];refine bn.intro (M4 r _ Z) ?_;simp only[axx,h1,bt hi];refine nx aZ (()) hi (trivial) ?_ ?_ ?_
  all_goals simp[hF,aj,am,ba,V4 hi]
 .rintro x -;simp only[hF,aj,am,aK,ck,aK,du];refine aI ?_;simp[V.erase,D9,hl]
def akO(r:Rl)(w:bz)(hg:TZ Z):aR 309 [.agg r.enc,.int .u64 (w.toNat:Nat)] Z (.int .u64 ((wj r w).toNat:Nat)):=by
 refine fq func309 ?_ ⟨[2,3],[]⟩;simp only[aP,tU,Nat.reduceAdd];refine lT λb1 dX=>?_
 simp only[am];refine lT λb2 fv=>?_
 have bf:b1≠b2:=by rintro rfl;rw[j6] at fv;simp at fv
 have qJ:=jF (cs:=r.enc) dX;have hs:=ab.FB qJ (jF (cs:=[.int .u64 (w.toNat:Nat)]) fv);have e1:((Z.set b1 r.enc).set b2 [.int .u64 (w.toNat:Nat)]).box b1=U r.enc:=by rw[sL bf,j6]
 generalize yd:(Z.set b1 r.enc).set b2 [V.int .u64 (w.toNat:Nat)]=bx at hs e1;have e2:bx.box b2=U [.int .u64 (w.toNat:Nat)]:=by rw[<-yd,j6]
 simp only[am,Rl.al,e1];refine(NM r bx).mono ?_;rintro v bx ⟨rfl,rfl⟩;simp only[am];cases x9:kT r with
 | false =>
  simp only[am];exact aN rfl hs ⟨by simp[wj,x9,V.erase],rfl⟩
 | true =>
  obtain⟨n,hn,hp,h1,h8⟩:=xW x9;simp only[am,Rl.al,e1];refine(WC r n hn h8 _ _ rfl (D9 r w) bx λo ho=>akN r w o b1 b2 (hs.2.2 _ _ hg) (by omega) (by omega) e1 e2).mono ?_;rintro v bx ⟨rfl,rfl⟩;simp only[am];exact aN rfl hs ⟨by simp[wj,x9,V.erase,hn],rfl⟩
def aq9(r:Rl)(o:Nat)(Z:ab):aR 308 [.agg r.enc,.int .i64 (o:Nat)] Z (.bool (kT r&&decide ((o:Int)<r.n))):=by
 refine fq func308 ?_;simp only[aP,am,aT,Nat.reduceAdd,Rl.al];refine cl (NM r Z) ?_;cases h:kT r with
 | false =>
  simp only[am];exact rt
 | true =>
  simp only[am,Rl.al,show decide ((0:Int)<=(o:Nat))=aa from aG (by omega)];exact rt
def ale(k o b:Nat)(w:bz)(b2:Nat)(h1:Z.box b=U [.int .i64 (o:Nat)])(h2:Z.box b2=U [.int .u64 (w.toNat:Nat)]):
 aR 311 [.int .i64 (k:Nat),.ptr (.out b) 0,.ptr (.out b2) 0] Z (.int .u64 ((if k=o then w else 0#64).toNat:Nat)):=by
 refine fq func311 ?_;simp only[aP,am,aT,Nat.reduceAdd,tR];simp only[am,h1]
 by_cases h:k=o
 .simp only[am,aG (show(k:Int)=(o:Nat) by omega),h2];refine aI ?_;simp[V.erase,h]
 .simp only[am,aD (show ¬(k:Int)=(o:Nat) by omega)];refine aI ?_;simp[V.erase,h]
theorem alf(r:Rl)(o:Nat)(d:bz)(hg:TZ Z):aR 300 [.agg r.enc,.int .i64 (o:Nat),.int .u64 (d.toNat:Nat)] Z (.int .u64 ((uM r o d).toNat:Nat)):=by
 refine fq func300 ?_ ⟨[4],[4]⟩;simp only[aP,tU,Nat.reduceAdd];refine lT λb1 dX=>?_
 simp only[am,Rl.al];have hs:=jF (cs:=[V.int .i64 (o:Nat)]) dX;have e1:(Z.set b1 [V.int .i64 (o:Nat)]).box b1=U [V.int .i64 (o:Nat)]:=j6;generalize yd:Z.set b1 [V.int .i64 (o:Nat)]=bx at hs e1;refine(aq9 r o bx).mono ?_;rintro v bx ⟨rfl,rfl⟩;simp only[am];cases x9:kT r&&decide ((o:Int)<r.n) with
 | false =>
  simp only[am];exact aN rfl hs ⟨by simp[uM,x9,V.erase],rfl⟩
 | true =>
  have alR := x9;rw[bO,cU] at x9;obtain⟨n,hn,hp,h1,h8⟩:=xW x9.1;simp only[am,Nat.reduceAdd,bu,Nat.reduceLT,Rl.al];refine bn.intro (Hx r.n bx) ?_;simp only[am,Rl.al];refine bn.intro (LD r d (hs.2.2 _ _ hg)) ?_;simp only[am,acy,Rl.al];refine a7.ar_ (l:=[r.enc]) (cs:=[V.int .u64 ((jT r.n&&&~~~xm r d).toNat:Nat)]) rfl λb2 fv=>?_
  rw[show jT r.n&&&~~~xm r d=uG r d from rfl];have G3:=ab.FB hs (jF (cs:=[V.int .u64 ((uG r d).toNat:Nat)]) fv);have bf:b1≠b2:=by grind
  have e2:(bx.set b2 [V.int .u64 ((uG r d).toNat:Nat)]).box b1=U [V.int .i64 (o:Nat)]:=by rw[sL bf,e1]
  have e3:(bx.set b2 [V.int .u64 ((uG r d).toNat:Nat)]).box b2=U [V.int .u64 ((uG r d).toNat:Nat)]:=j6;generalize bx.set b2 [V.int .u64 ((uG r d).toNat:Nat)]=gl at G3 e2 e3;simp only[am,Nat.reduceLT,reduceCtorEq,Rl.al,cQ,fp,amp,aae (n:=1) (l:=r.enc) Rl.bR Rl.dT];refine bn.intro (WC r n hn h8 _ _ rfl (λk=>if k=o then uG r d else 0#64) gl λk hk=>ale k o b1 (uG r d) b2 e2 e3) ?_;simp only[am,Rl.al];refine bn.intro (akO r _ (G3.2.2 _ _ hg)) ?_;simp only[am,Rl.al];exact aN rfl G3 ⟨by rw[uM,alR,hn];rfl,rfl⟩
def qU(o:Option Nat):V:=.bw [.int .i64 ((o.getD 0:Nat):Int),.bool o.isSome]
def Zb:decide ((0:Int)<=(i:Nat))=true:=aG (by omega)
def alW(r:Rl)(i:Nat)(Z:ab):aR 295 [.agg r.enc,.int .i64 (i:Nat)] Z (.bool (decide (i<bm r))):=by
 refine fq func295 ?_;simp only[aP,am,aT,Nat.reduceAdd,Rl.al];simp only[am,Rl.al,Zb];refine cl (Ze r.n Z) ?_;simp only[am,Rl.al,Rl.zS];refine aI ?_;simp[V.erase,bm];rfl
def adF(r:Rl)(i:Nat)(hg:TZ Z):aR 271 [.agg r.enc,.int .i64 (i:Nat)] Z (.int .u64 ((AM r i).toNat:Nat)):=by
 refine fq func271 ?_;simp only[aP,tU,Nat.reduceAdd];refine bn.intro (cy.df (as' := [.sl .no 1 (cC [(i:Int)])]) (Hy [(i:Int)] Z (by simp)) ⟨dv.no,trivial⟩ bp.rfl) ?_;simp only[am,Rl.al];refine bn.intro (LD r _ hg) ?_;simp only[am,Rl.al];refine aI ?_;rfl
def Um(r:Rl)(i:Nat)(Z:ab):aR 272 [.agg r.enc,.int .i64 (i:Nat)] Z (.int .u64 ((sU r i).toNat:Nat)):=by
 refine fq func272 ?_;simp only[aP,tU,Nat.reduceAdd];refine cl (alW r i Z) ?_
 by_cases h:i<bm r
 .simp only[am,Rl.al,aG h];refine bn.intro (cy.df (as' := [.sl .no 1 (cC [(i:Int)])]) (Hy [(i:Int)] Z (by simp)) ⟨dv.no,trivial⟩ bp.rfl) ?_;simp only[am,Rl.al];refine bn.intro (M4 r _ Z) ?_;simp only[am,Rl.al];refine aI ?_;simp[V.erase,sU,h]
 .simp only[am,aD h];refine aI ?_;simp[V.erase,sU,h]
theorem Zd(r:Rl)(i j:Nat)(f:FuncId)(g:Nat->bz)(hg:TZ Z)(hf:∀k,aR f [.agg r.enc,.int .i64 (k:Nat)] Z (.int .u64 ((g k).toNat:Nat))):
 aR 270 [.agg r.enc,.int .i64 (i:Nat),.int .i64 (j:Nat),.fn (.func f) [] []] Z (qU (Fa g i j)):=by
 refine fq func270 ?_;simp only[aP,am,aT,Nat.reduceAdd,Rl.al];refine bn.intro (hf i) ?_;simp only[am,Rl.al];refine bn.intro (hf j) ?_;simp only[am,Ao,Rl.al];refine cl (Qw _ hg) ?_;simp only[am,aF,vO];rw[Fa];generalize g i&&&g j=w;have hlen:=KG w;refine ch ((iu w).length) (λm (x:Unit)=>⟨[.agg r.enc,.any,.any,.fn (.func f) [] [],.ptr (.au 0) 0,.any,.any,.any,.any,.any,.int .u64 (w.toNat:Nat),.any,.any,.any,.any,.any,.any,.any,.any,.any,.any,.any,.any,.sl .no 1 (cC ((iu w).map Int.ofNat)),.int .i64 ((iu w).length:Nat),.int .i64 (m:Nat)]++aj 11 .any,[r.enc],Z⟩) (λm x=>(∀u∈(iu w).take m,yz w (g u)=aq)) λF hF JF aZ=>⟨?_,?_,?_⟩
 .refine en aZ (()) (by simp) ?_ ?_ ?_
  all_goals simp[hF,aj,am,ba]
 .rintro m x hi hJ;simp only[hF,aj,am,cf hi];refine ix (EN (l:=(iu w).map Int.ofNat) (by simpa using hi)) ?_;simp only[am,Rl.al,B_,Iv];refine(hf _).mono ?_;rintro v Z ⟨rfl,rfl⟩;simp only[am];refine cl (aoV _ _ Z) ?_;simp only[am];cases hb:yz w (g (iu w)[m]) with
  | false =>
   simp only[am,aK,bt hi];exact nx aZ (()) hi (acg hJ hi hb)
  | true =>
   have e:(iu w).find? (λu=>yz w (g u))=U (iu w)[m]:=by
    rw[List.find?_eq_some_iff_append];exact⟨hb,_,(iu w).drop (m+1),by rw[<-mb hi,u_],λa ha=>by rw[hJ a ha];rfl⟩
   simp only[am,aK];refine aI ?_;simp[V.erase,a9,qU,e]
 .rintro x hJ;rw[du] at hJ;have e:(iu w).find? (λu=>yz w (g u))=none:=by grind
  simp only[hF,aj,am,aK,ck,aK];refine aI ?_;simp[V.erase,a9,qU,e]
def am5(r:Rl)(i j:Nat)(hg:TZ Z):aR 221 [.agg r.enc,.int .i64 (i:Nat),.int .i64 (j:Nat)] Z (qU (sA r i j)):=by
 refine fq func221 ?_;simp only[aP,am,aT,Nat.reduceAdd,Rl.al];refine cl (Zd r i j _ (AM r) hg λk=>adF r k hg) ?_;simp only[am,qU];refine aI ?_;rfl
def aoZ(r:Rl)(i j:Nat)(hg:TZ Z):aR 222 [.agg r.enc,.int .i64 (i:Nat),.int .i64 (j:Nat)] Z (qU (tD r i j)):=by
 refine fq func222 ?_;simp only[aP,am,aT,Nat.reduceAdd,Rl.al];refine cl (Zd r i j _ (sU r) hg λk=>Um r k Z) ?_;simp only[am,qU];refine aI ?_;rfl
def amv(r:Rl)(i:Nat)(Z:ab):aR 301 [.agg r.enc,.int .i64 (i:Nat)] Z (.int .u64 ((sU r i).toNat:Nat)):=by
 refine fq func301 ?_;simp only[aP,tU,Nat.reduceAdd];refine cl (Um r i Z) ?_;simp only[am];exact rt
variable{m:Nat}
theorem Cq{p:Nat->Bool}{n:Nat}(hm:m<n)(h:∀k,k<m->p k=aq)(hp:p m=aa):(bH n).find? p=U m:=by simp_all
theorem Cr{p:Nat->Bool}{n:Nat}(h:∀k,k<n->p k=aq):(bH n).find? p=none:=by grind
theorem Yg(r:Rl)(hg:TZ Z):aR 175 [.agg r.enc] Z (.bool (lU r)):=by
 refine fq func175 ?_;simp only[aP,am,aT,Nat.reduceAdd,Rl.al]
 by_cases h1:r.n<1
 .simp only[am,aG h1];refine aI ?_;simp[V.erase,lU];omega
 .simp only[am,Rl.al,aD h1]
  by_cases h2:64<r.n
  .simp only[am,aG h2];refine aI ?_;simp[V.erase,lU];omega
  .simp only[am,Rl.al,aD h2];refine cl (aqY r hg) ?_;obtain⟨n,hn⟩:∃n:Nat,r.n=n:=⟨r.n.toNat,by omega⟩;have hp:bm r=n:=by rw[bm,hn];omega
   cases ho:wY r with
   | false =>
    simp only[am];refine aI ?_;simp[V.erase,lU,ho]
   | true =>
    simp only[am,Rl.al,hn];have lu:(∀i,i<n->∀j,j<i->((sA r i j).isSome&&(tD r i j).isSome)=aa)->lU r=true:=λh=>by
     simp only[lU,ho,hn,iM,ma,qy,bO,cU,uZ]
     grind
    have aO:∀i j,i<n->j<i->((sA r i j).isSome&&(tD r i j).isSome)=aq->lU r=false:=λi j hi hj h=>by
     cases hq:lU r with
     | false=>rfl
     | true =>
      simp only[lU,hn,iM,ma,qy,bO] at hq
      grind
    refine ch (n) (λi (x:Unit)=>⟨[.any,.ptr (.au 0) 0,.any,.any,.any,.any,.any,.any,.any,.any,.any,.any,.any,.any,.any,.any,.any,.any,.any,.any,.any,.any,.any,.int .i64 (n:Nat),.int .i64 (i:Nat)]++aj 28 .any,[r.enc],Z⟩) (λi x=>(∀a,a<i->∀b,b<a->((sA r a b).isSome&&(tD r a b).isSome)=aa)) λF hF JF aZ=>⟨?_,?_,?_⟩
    .exact en aZ (()) (by intro k h;omega)
    .rintro i x hi hJ;simp only[hF,aj,am,cf hi];refine ch (i) (λj (x:Unit)=>⟨[.any,.ptr (.au 0) 0,.any,.int .i64 (i:Nat),.any,.any,.any,.any,.any,.any,.any,.any,.any,.any,.any,.any,.any,.any,.any,.any,.any,.any,.any,.int .i64 (n:Nat),.int .i64 (i:Nat),.any,.any,.int .i64 (i:Nat),.int .i64 (j:Nat)]++aj 24 .any,[r.enc],Z⟩) (λj x=>(∀b,b<j->((sA r i b).isSome&&(tD r i b).isSome)=aa)) λF2 bV pI dr=>⟨?_,?_,?_⟩
     .refine en dr (()) (by intro k h;omega) ?_ ?_ ?_
      all_goals simp[bV,aj,am,ba]
     .rintro j x hj pU;simp only[bV,aj,am,cf hj,Rl.al];refine cl (am5 r i j hg) ?_;simp only[am,Rl.al,qU];refine cl (aoZ r i j hg) ?_;simp only[am,qU];cases ha:(sA r i j).isSome with
      | false =>
       simp only[am,aK];refine aI ?_;simp[V.erase,aO i j hi hj (by rw[ha];rfl)]
      | true =>
       simp only[am];cases hb:(tD r i j).isSome with
       | false =>
        simp only[am,aK];refine aI ?_;simp[V.erase,aO i j hi hj (by rw[ha,hb];rfl)]
       | true =>
        simp only[am,aK,bt hj];refine nx dr (()) hj (kn pU (by rw[ha,hb];rfl)) ?_ ?_ ?_
        all_goals simp[bV,aj,am,ba]
     .rintro x pU;simp only[bV,aj,am,aK,ck,Nat.reduceEqDiff,aK,reduceCtorEq,bt hi];exact nx aZ (()) hi (kn hJ pU)
    .rintro x hJ;simp only[hF,aj,am,aK,ck,aK];refine aI ?_;simp[V.erase,lu hJ]
theorem auK(s:bz)(i:Nat):(s>>>i)>>>1=s>>>(i+1):=by rfl
theorem aay(s:bz)(n:Int)(Z:ab):aR 252 [.int .u64 (s.toNat:Nat),.int .i64 n] Z (.bool (hasB s n)):=by
 refine fq func252 ?_;simp only[aP,am,aT,Nat.reduceAdd,Ii]
 by_cases h:n<0
 .simp only[am,aG h];refine aI ?_;simp[V.erase,hasB];omega
 .obtain⟨m,rfl⟩:∃m:Nat,n=m:=⟨n.toNat,by omega⟩;simp only[am,aD h]
  by_cases h1:63<(m:Int)
  .simp only[am,aG h1];refine aI ?_;simp[V.erase,hasB]
   grind
  .simp only[am,aD h1];refine ch (m) (λi (x:bz)=>⟨[.int .u64 (x.toNat:Nat),.int .i64 (m:Nat),.any,.any,.bool aq,.int .i64 (i:Nat)]++aj 16 .any,[],Z⟩) (λi x=>(x=s>>>i)) λF hF JF aZ=>⟨?_,?_,?_⟩
   .exact en aZ (s) (by simp)
   .rintro i x hi rfl;simp only[hF,aj,am,aK,cf hi,aK,aws,bt hi];refine nx aZ (s>>>(i+1)) hi (rfl) ?_ ?_ ?_
    all_goals simp[hF,aj,am,ba,auK]
   .rintro x rfl;simp only[hF,aj,am,aK,ck,aK,acB,acz];refine aI ?_;rfl
def BI(l:List Int)(Z:ab)(hl:l.length<=100000):aR 240 [.sl .no 1 (cC l)] Z (.int .u64 ((gq l).toNat:Nat)):=by
 refine fq func240 ?_;simp only[aP,SS,Nat.reduceAdd];refine ch (64) (λi (x:bz)=>⟨[.sl .no 1 (cC l),.any,.int .u64 ((0#64:bz).toNat:Nat),.int .u64 (x.toNat:Nat),.int .u64 ((lL i).toNat:Nat),.int .i64 (i:Nat)]++aj 23 .any,[],Z⟩) (λi x=>(x=gq l&&&jT (i:Int))) λF hF JF aZ=>⟨?_,?_,?_⟩
 .refine en aZ (0#64) ((aqs l).symm) ?_ ?_ ?_
  all_goals simp[hF,aj,am,ba,lL]
 .rintro i x hi rfl;simp only[hF,aj,am,show decide ((i:Int)<64)=aa from cf hi];refine ch (l.length) (λj (y:Unit)=>⟨[.sl .no 1 (cC l),.any,.int .u64 ((0#64:bz).toNat:Nat),.int .u64 ((gq l&&&jT (i:Int)).toNat:Nat),.int .u64 ((lL i).toNat:Nat),.int .i64 (i:Nat),.int .i64 (j:Nat)]++aj 22 .any,[],Z⟩) (λj y=>((i:Int)∉l.take j)) λF2 bV pI dr=>⟨?_,?_,?_⟩
  .refine en dr (()) (by simp) ?_ ?_ ?_
   all_goals simp[bV,aj,am,ba]
  .rintro j y hj hm;simp only[bV,aj,am,cf hj,vO];refine ix (EN hj) ?_;simp only[am]
   by_cases he:l[j]=(i:Int)
   .have mj:(i:Int)∈l:=he▸dQ hj;simp only[am,Nat.reduceEqDiff,aK,reduceCtorEq,awq,acA,aG he,bt hi,Un];exact nx aZ ((gq l&&&jT (i:Int))+lL i) hi (by rw[Zq l i hi,aL mj])
   .simp only[am,aK,aD he,bt hj];refine nx dr (()) hj (by rw[iB hj,lk];simp[hm,gM he]) ?_ ?_ ?_
    all_goals simp[bV,aj,am,ba]
  .rintro y hm;rw[du] at hm;simp only[bV,aj,am,aK,ck,Nat.reduceEqDiff,aK,reduceCtorEq,acA,vO,bt hi,Un];exact nx aZ (gq l&&&jT (i:Int)) hi (by rw[Zq l i hi,aB hm])
 .rintro x rfl;simp only[hF,aj,am,aK,aK,show decide (((64:Nat):Int)<64)=aq from rfl];rw[show((64:Nat):Int)=64 from rfl,aqr];exact rt
def asT(n:Int)(Z:ab):aR 206 [.int .i64 n] Z (.int .u64 ((jT n).toNat:Nat)):=by
 refine fq func206 ?_;simp only[aP,am,aT,Nat.reduceAdd,tR];have al4:∃m:Nat,m<=64/\(∀i:Nat,i<m->(i:Int)<n/\i<64)/\((m:Int)<n->m=64)/\(n<0->m=0):=⟨min n.toNat 64,by omega,by omega,by omega,by omega⟩;obtain⟨m,h1,h2,h3,h4⟩:=al4;refine ch (m) (λi (x:Tk × ab)=>⟨[.int .i64 n,.any,.int .u64 ((0#64:bz).toNat:Nat),.sl x.1 1 (cC ((bH i).map Int.ofNat)),.int .i64 (i:Nat)]++aj 15 .any,[],x.2⟩) (λi x=>(Gr Z x.2 x.1 (cC ((bH i).map Int.ofNat)).length)) λF hF JF aZ=>⟨?_,?_,?_⟩
 .refine en aZ ((.aY,Z)) (Gr.nil) ?_ ?_ ?_
  all_goals simp[hF,aj,am,ba,cC]
 .rintro i ⟨tk,bx⟩ hi hG;simp only at hG;simp only[hF,aj,am,aG (h2 i hi).1,aG (show(i:Int)<64 by omega)];refine Gr.app hG (by simp[cC,aJ];omega) λgz σ' kr _ _=>?_
  have e:cC ((bH (i+1)).map Int.ofNat)=cC ((bH i).map Int.ofNat)++[[.int .i64 (i:Nat)]]:=by rw[il];simp[cC]
  simp only[am,aK,bt hi];refine nx aZ ((gz,σ')) hi (by rw[e];exact kr) ?_ ?_ ?_
  all_goals simp[hF,aj,am,ba,e]
 .rintro⟨tk,bx⟩ hG;have he:gq ((bH m).map Int.ofNat)=jT n:=by
   apply pO;intro k hk;rw[zR,y7];congr 1;apply xM.2;simp only[AE,qy,Iv];constructor
   .rintro⟨a,ha,hb⟩;have:=h2 a ha;omega
   .intro h;refine⟨k,?_,rfl⟩
    by_cases h5:(m:Int)<n
    .have:=h3 h5;omega
    .omega
  have hx:decide ((m:Int)<n)=aq\/(decide ((m:Int)<n)=aa/\decide ((m:Int)<64)=aq):=by
   by_cases h5:(m:Int)<n
   .right;exact⟨aG h5,by rw[h3 h5];rfl⟩
   .left;exact aD h5
  rcases hx with hx | ⟨hx,hy⟩
  .simp only[hF,aj,am,aK,aK,hx];refine cy.df (as' := [.sl .no 1 (cC ((bH m).map Int.ofNat))]) ?_ ⟨dv.no,trivial⟩ bp.rfl;refine(BI ((bH m).map Int.ofNat) bx (by simp;omega)).mono ?_;rintro v σ' ⟨rfl,rfl⟩;simp only[am,he];exact aN rfl hG.sub ⟨rfl,rfl⟩
  .simp only[hF,aj,am,aK,aK,hx,hy];refine cy.df (as' := [.sl .no 1 (cC ((bH m).map Int.ofNat))]) ?_ ⟨dv.no,trivial⟩ bp.rfl;refine(BI ((bH m).map Int.ofNat) bx (by simp;omega)).mono ?_;rintro v σ' ⟨rfl,rfl⟩;simp only[am,he];exact aN rfl hG.sub ⟨rfl,rfl⟩
def ajC:fm prog 136 (sq [rg 4 [ox 2 65 0,ox 3 65 1,oz 2],dg 5 [ol 65 2,oC 197 [5],mM [0],ol 65 3,oC 197 [7],oq (.lr aq K7 (.s 6) (.s 8)),o1 4],.ret]) [.tmp 4] 10:=fU func136
def ajJ:fm prog 192 (sq [rg 0 [ox 1 65 0,oR 2 l8],rg 5 [ol 65 1,oC 202 [5],oY l8 [(0,1,.s 6)],oR 3 l8,o2 65 3],sq [rg 4 [oi 0],bl 0 (sq [sq [rg 8 [om 4,fo 0 3,nb .lss 8],cx 11 0],.block 1 (rg 14 [om 4,ol 65 1,om 4,oC 241 [15,16],oC 240 [17],of 1 3,oP 64 1 19 14,os 1 20 18]),rg 12 [ic 4]])],rg 21 [ol 65 3,o2 65 2],.ret]) [.cell 2 aa 65] 22:=fU func192
def ajK:fm prog 197 (sq [rg 0 [ox 1 65 0,oR 2 l8],rg 7 [ol 65 1,oC 202 [7],oY l8 [(0,1,.s 8)],oR 3 l8,o2 65 3],sq [rg 4 [oi 0],bl 0 (sq [sq [rg 10 [om 4,fo 0 3,nb .lss 10],cx 13 0],.block 1 (sq [rg 5 [oz 6],sq [rg 6 [oi 0],bl 2 (sq [sq [rg 16 [om 6,fo 0 3,nb .lss 16],cx 19 2],.block 3 (sq [rg 22 [ol 65 1,om 4,om 6,oC 238 [22,23,24]],ci 25 (rg 26 [om 5,om 6,n1 1,na 1 26,o1 5])]),rg 20 [ic 6]])],rg 30 [om 4,om 5,oC 240 [31],of 1 3,oP 64 1 33 30,os 1 34 32]]),rg 14 [ic 4]])],rg 35 [ol 65 3,o2 65 2],.ret]) [.cell 2 aa 65] 36:=fU func197
def apd:decide ((0:Int)<=(i:Nat))=true:=aG (by omega)
def n6(r:Rl)(Z:ab):aR 202 [.agg r.enc] Z (.int .i64 (bm r:Nat)):=by
 refine fq func202 ?_;simp only[aP,am,aT,Nat.reduceAdd,Rl.al]
 by_cases h:r.n<0
 .simp only[am,aG h];refine aI ?_;simp[V.erase,bm];omega
 .simp only[am,Rl.al,aD h]
  by_cases h2:64<r.n
  .simp only[am,aG h2];refine aI ?_;simp[V.erase,bm];omega
  .simp only[am,Rl.al,aD h2];refine aI ?_;simp[V.erase,bm];omega
def axy:=ag @am <| ag @aT <| ag @Ii @Rl.al
def axz:=ag @am <| ag @LK <| ag @iM @rh
def qh(r:Rl)(i j:Nat)(Z:ab):aR 238 [.agg r.enc,.int .i64 (i:Nat),.int .i64 (j:Nat)] Z (.bool (bD r i j)):=by
 refine fq func238 ?_;simp only[aP,axy,Nat.reduceAdd];refine cl (n6 r Z) ?_;simp only[am,apd];have hp:=@j1 r
 by_cases h1:i<bm r
 .simp only[am,cf h1]
  by_cases h2:j<bm r
  .simp only[am,cK,cf h2];refine jX ?_;simp only[axz,acB,acz,Rl.yG (show i<64 by omega),wrap_u64 (x:=((j:Nat):Int)) (by omega) (by omega),adf];refine aI ?_;simp[V.erase,CV,h1,h2]
  .have e:decide ((j:Int)<(bm r:Nat))=false:=aD (by omega);simp only[am,e];refine aI ?_;simp[V.erase,CV,h2]
 .have e:decide ((i:Int)<(bm r:Nat))=false:=aD (by omega);simp only[am,e];refine aI ?_;simp[V.erase,CV,h1]
theorem aaV(r:Rl)(Z:ab):aR 197 [.agg r.enc] Z (.agg (mO r).enc):=by
 refine ajK.fK ?_;simp only[aP,am,aT,Nat.reduceAdd,Rl.al];refine cl (n6 r Z) ?_;simp only[am,Nat.reduceAdd,Rl.al];have hp:=@j1 r;refine ch (bm r) (λi (x:Unit)=>⟨[.any,.ptr (.au 0) 0,.ptr (.au 1) 0,.ptr (.au 2) 0,.int .i64 (i:Nat)]++aj 31 .any,[r.enc,Rl.zero.enc,(Rl.of (bm r:Nat) λj=>if j<i then jm r j else 0#64).enc],Z⟩) (λi x=>(True)) λF hF JF aZ=>⟨?_,?_,?_⟩
 .refine en aZ (()) (trivial) ?_ ?_ ?_
  all_goals simp[hF,aj,am,ba,Rl.SU]
 .rintro i x hi -;simp only[hF,aj,am,cf hi,Rl.al,Rl.zS];refine ch (bm r) (λj (x:Tk × ab)=>⟨[.any,.ptr (.au 0) 0,.ptr (.au 1) 0,.ptr (.au 2) 0,.int .i64 (i:Nat),.sl x.1 1 (cC (((bH j).filter (bD r i)).map Int.ofNat)),.int .i64 (j:Nat)]++aj 29 .any,[r.enc,Rl.zero.enc,(Rl.of (bm r:Nat) λj=>if j<i then jm r j else 0#64).enc],x.2⟩) (λj x=>(Gr Z x.2 x.1 ((bH j).filter (bD r i)).length)) λF2 bV pI dr=>⟨?_,?_,?_⟩
  .refine en dr ((.aY,Z)) (Gr.nil) ?_ ?_ ?_
   all_goals simp[bV,aj,am,ba,cC]
  .rintro j ⟨tk,bx⟩ hj hG;simp only at hG;have hlen:((bH j).filter (bD r i)).length<=64:=by grind
   simp only[bV,aj,am,cf hj,Rl.al,Rl.zS];refine(qh r i j bx).mono ?_;rintro v bx ⟨rfl,rfl⟩;simp only[am];refine dc (λhb=>?_) (λhb=>?_)
   .simp only[am];refine Gr.app (by simpa [cC] using hG) (by simp[cC,aJ];omega) λgz σ' kr _ _=>?_
    have e:cC (((bH (j+1)).filter (bD r i)).map Int.ofNat)=cC (((bH j).filter (bD r i)).map Int.ofNat)++[[.int .i64 (j:Nat)]]:=by rw[il,DT,DU,hb];simp[cC]
    simp only[am,aK,bt hj];refine nx dr ((gz,σ')) hj (by rw[<-e] at kr;simpa [cC] using kr) ?_ ?_ ?_
    all_goals simp[bV,aj,am,ba,e]
   .have e:cC (((bH (j+1)).filter (bD r i)).map Int.ofNat)=cC (((bH j).filter (bD r i)).map Int.ofNat):=by rw[il,DT,DU,hb];simp[cC]
    simp only[am,aK,bt hj];refine nx dr ((tk,bx)) hj (by simpa [il,hb] using hG) ?_ ?_ ?_
    all_goals simp[bV,aj,am,ba,e]
  .rintro⟨tk,bx⟩ hG;simp only at hG;have hlen:((bH (bm r)).filter (bD r i)).length<=64:=by grind
   simp only[bV,aj,am,aK,ck,Nat.reduceEqDiff,aK,reduceCtorEq,Rl.al,Rl.zS];refine cy.df (as' := [.sl .no 1 (cC (((bH (bm r)).filter (bD r i)).map Int.ofNat))]) ?_ ⟨dv.no,trivial⟩ bp.rfl;refine cl (BI _ _ (by rw[aF];omega)) ?_;simp only[am,cK,aqu hi];refine jX ?_;simp only[Av,Rl.yF (show i<64 by omega),Rl.yH (show i<64 by omega),bt hi];refine nx aZ (()) hi (trivial) ?_ ?_ (by simp only[hF];exact(bp.aqv hG.sub))
   all_goals simp[hF,aj,am,ba,Rl.fill]
 .rintro x -;simp only[hF,aj,am,aK,ck,aK,Rl.al,Rl.zS];refine aI ?_;rfl
def aaZ(r s:Rl)(Z:ab):aR 136 [.agg r.enc,.agg s.enc] Z (.bool (decide (mO r=mO s))):=by
 refine ajC.fK ?_;simp only[aP,am,aT,Nat.reduceAdd,Rl.al];refine bn.intro (aaV r Z) ?_;simp only[am,Rl.al];refine bn.intro (aaV s Z) ?_;simp only[am,Rl.al];exact rt
def amA(l:List Int)(n:Int)(Z:ab)(hl:l.length<=100000):aR 282 [.sl .no 1 (cC l),.int .i64 n] Z (.bool (decide (n∈l))):=by
 refine fq func282 ?_;simp only[aP,am,aT,Nat.reduceAdd];refine ch (l.length) (λi (x:Unit)=>⟨[.sl .no 1 (cC l),.int .i64 n,.any,.any,.bool aq,.int .i64 (i:Nat)]++aj 12 .any,[],Z⟩) (λi x=>(∀k∈l.take i,k≠n)) λF hF JF aZ=>⟨?_,?_,?_⟩
 .exact en aZ (()) (by simp)
 .rintro i x hi hJ;simp only[hF,aj,am,cf hi,vO];refine ix (EN hi) ?_;simp only[am]
  by_cases h:l[i]=n
  .simp only[am,aK,aG h];have hm:n∈l:=h▸dQ hi;refine aI ?_;simp[V.erase,hm]
  .simp only[am,aK,aD h,bt hi];exact nx aZ (()) hi (acg hJ hi h)
 .rintro x hJ;rw[du] at hJ;have hm:n∉l:=λhm=>hJ n hm rfl
  simp only[hF,aj,am,aK,ck,aK,vO];refine aI ?_;simp[V.erase,hm]
theorem Y2{l:List Nat}:((j:Nat):Int)∈l.map Int.ofNat↔j∈l:=by grind
structure RI(r:Rl)(i0 m:Nat)(l:List Nat):Prop where
 nd:l.Nodup
 HT:∀k∈l,kl r i0 k
 fst:i0∈l
 Sd:∀a v,a<m->l[a]?=U v->∀k,bD r v k=aa->k∈l
variable{i0:Nat}
def RI.len{r:Rl}{l:List Nat}(h:RI r i0 m l):l.length<=bm r:=QH h.nd λk hk=>(h.HT k hk).lt.2
def RI.all{r:Rl}{l:List Nat}(h:RI r i0 l.length l)(j:Nat):j∈l↔kl r i0 j:=by
 refine⟨h.HT j,λhr=>?_⟩;induction hr with
 | refl _=>exact h.fst
 | tail _ hs ih =>
  obtain⟨a,ha,hv⟩:=Md.1 ih;exact h.Sd a _ ha (by rw[bY ha,hv]) _ hs
def RI.add{r:Rl}{l:List Nat}{v:Nat}(h:RI r i0 m l)(hm:m<=l.length)(hv:v∈l)(hs:bD r v j=aa)(hj:j∉l):RI r i0 m (l++[j]):=by
 refine⟨?_,λk hk=>?_,by simp[h.fst],λa w ha hw k hk=>?_⟩
 .rw[List.nodup_append];exact⟨h.nd,by simp,λa ha b hb=>by simp only[u7] at hb;subst hb;rintro rfl;exact hj ha⟩
 .rcases lk.1 hk with hk | hk
  .exact h.HT k hk
  .rw[u7.1 hk];exact(h.HT v hv).tail hs
 .rw[B9 (by omega)] at hw;exact lk.2 (.inl (h.Sd a w ha hw k hk))
def amw{l:List Nat}{v:Nat}(h:l[m]?=U v):(cC (l.map Int.ofNat))[((m:Nat):Int).toNat]?=U [.int .i64 (v:Nat)]:=by simp[cC,h]
theorem asR(r:Rl)(i0:Nat)(Ez:i0<bm r)(Z:ab):cy prog 241 [.agg r.enc,.int .i64 (i0:Nat)] Z λv σ' => (∃l:List Nat,v = .sl .no 1 (cC (l.map Int.ofNat))/\(∀j,j∈l↔kl r i0 j)/\l.length<=64)/\σ' = Z:=by
 refine fq func241 ?_;simp only[aP,am,aT,Nat.reduceAdd,Rl.al];have hp:=@j1 r;simp only[am,Rl.al,aD (show ¬(i0:Int)<0 by omega)];refine cl (n6 r Z) ?_;simp only[am,aD (show ¬((bm r:Nat):Int)<=(i0:Nat) by omega)];have fin:∀(l:List Nat) (tk:Tk) (bx:ab),RI r i0 l.length l->Gr Z bx tk l.length->∀t au,jS (λv σ' => (∃l:List Nat,v=V.sl .no 1 (cC (l.map Int.ofNat))/\(∀j,j∈l↔kl r i0 j)/\l.length<=64)/\σ' = Z) ⟨t,au,bx⟩ (.sl tk 1 (cC (l.map Int.ofNat))):=λl tk bx h1 h2 t au =>
  aN rfl h2.sub ⟨⟨l,rfl,h1.all,by have:=h1.len;omega⟩,rfl⟩
 refine ch (bm r) (λm (x:List Nat × Tk × ab)=>⟨[.agg r.enc,.any,.ptr (.au 0) 0,.any,.any,.sl x.2.1 1 (cC (x.1.map Int.ofNat)),.int .i64 (m:Nat)]++aj 41 .any,[r.enc],x.2.2⟩) (λm x=>(RI r i0 m x.1/\m<=x.1.length/\Gr Z x.2.2 x.2.1 x.1.length)) λF hF JF aZ=>⟨?_,?_,?_⟩
 .refine en aZ (([i0],.aY,Z)) (⟨⟨by simp,by simp[kl.refl Ez],by simp,λa v h=>by omega⟩,by simp,ab.a8 _,.inl rfl⟩) ?_ ?_ ?_
  all_goals simp[hF,aj,am,ba,cC]
 .rintro m ⟨l,tk,bx⟩ hi ⟨h1,h2,h3⟩;simp only at h1 h2 h3;simp only[hF,aj,am,vO,aF]
  by_cases az:m<l.length
  .obtain⟨v,hv⟩:∃v,l[m]?=U v:=⟨_,bY az⟩;simp only[am,cf az];refine ch (bm r) (λj (x:List Nat × Tk × ab)=>⟨[.agg r.enc,.any,.ptr (.au 0) 0,.any,.any,.sl x.2.1 1 (cC (x.1.map Int.ofNat)),.int .i64 (m:Nat),.int .i64 (j:Nat)]++aj 40 .any,[r.enc],x.2.2⟩) (λj x=>((RI r i0 m x.1/\m<x.1.length/\Gr Z x.2.2 x.2.1 x.1.length)/\x.1[m]?=U v/\∀k,k<j->bD r v k=aa->k∈x.1)) λF2 bV pI dr=>⟨?_,?_,?_⟩
   .refine en dr ((l,tk,bx)) (⟨⟨h1,az,h3⟩,hv,λk hk=>by omega⟩) ?_ ?_ ?_
    all_goals simp[bV,aj,am,ba]
   .rintro j ⟨l,tk,bx⟩ hj ⟨⟨h1,h2,h3⟩,hv,h4⟩;simp only at h1 h2 h3 hv h4;have hlen:=h1.len;simp only[bV,aj,am,Rl.al];refine(n6 r bx).mono ?_;rintro v bx ⟨rfl,rfl⟩;simp only[am,Rl.al,cf hj];refine ix (amw hv) ?_;simp only[am,Rl.al];refine bn.intro (qh r v j bx) ?_;have mj:v∈l:=yP hv;cases hb:bD r v j with
    | false =>
     simp only[am,aK,bt hj];refine nx dr ((l,tk,bx)) hj (⟨⟨h1,h2,h3⟩,hv,kn h4 λhs=>by rw[hb] at hs;simp at hs⟩) ?_ ?_ ?_
     all_goals simp[bV,aj,am,ba]
    | true =>
     simp only[am];refine bn.intro (cy.df (as' := [.sl .no 1 (cC (l.map Int.ofNat)),.int .i64 (j:Nat)]) (amA (l.map Int.ofNat) (j:Nat) bx (by rw[aF];omega)) ⟨dv.no,dv.rfl,trivial⟩ bp.rfl) ?_
     by_cases hm:j∈l
     .simp only[am,aK,aG (Y2.2 hm),bt hj];refine nx dr ((l,tk,bx)) hj (⟨⟨h1,h2,h3⟩,hv,kn h4 λ_=>hm⟩) ?_ ?_ ?_
      all_goals simp[bV,aj,am,ba]
     .simp only[am,aD (λh=>hm (Y2.1 h))];refine Gr.app (by simpa [cC] using h3) (by simp[cC,aJ];omega) λgz σ' kr _ _=>?_
      simp only[am,aK,bt hj];refine nx dr ((l++[j],gz,σ')) hj (⟨⟨h1.add (by omega) mj hb hm,by simp;omega,by simpa [cC] using kr⟩,by rw[B9 h2];exact hv,kn (λk hk hs=>lk.2 (.inl (h4 k hk hs))) λ_=>by simp⟩) ?_ ?_ ?_
      all_goals simp[bV,aj,am,ba,G_]
   .rintro⟨l,tk,bx⟩ ⟨⟨h1,h2,h3⟩,hv,h4⟩;simp only at h1 h2 h3 hv h4;simp only[bV,aj,am,Rl.al];refine(n6 r bx).mono ?_;rintro v bx ⟨rfl,rfl⟩;simp only[am,Nat.reduceEqDiff,aK,reduceCtorEq,ck,bt hi];have h5:∀a w,a<m+1->l[a]?=U w->∀k,bD r w k=aa->k∈l:=λa w ha hw k hk=>by
     rcases adt.1 ha with h | h
     .exact h1.Sd a w h hw k hk
     .subst h;rw[hv] at hw;cases hw;exact h4 k (mo hk).2 hk
    exact nx aZ ((l,tk,bx)) hi (⟨⟨h1.nd,h1.HT,h1.fst,h5⟩,h2,h3⟩)
  .obtain rfl:m=l.length:=by omega
   simp only[am,aK,ck]
   grind
 .rintro⟨l,tk,bx⟩ ⟨h1,h2,h3⟩;simp only at h1 h2 h3;have hlen:=h1.len;have e:bm r=l.length:=by omega
  rw[e] at h1;simp only[hF,aj,am,aK,aK,vO,aF,show decide (((bm r:Nat):Int)<(l.length:Nat))=aq from by rw[e];exact ck]
  grind
def aat(r:Rl)(Z:ab):aR 192 [.agg r.enc] Z (.agg (kN r).enc):=by
 refine ajJ.fK ?_;simp only[aP,am,aT,Nat.reduceAdd,Rl.al];refine cl (n6 r Z) ?_;simp only[am,Nat.reduceAdd,Rl.al];have hp:=@j1 r;refine ch (bm r) (λi (x:Unit)=>⟨[.any,.ptr (.au 0) 0,.ptr (.au 1) 0,.ptr (.au 2) 0,.int .i64 (i:Nat)]++aj 17 .any,[r.enc,Rl.zero.enc,(Rl.of (bm r:Nat) λj=>if j<i then(kN r).get j else 0#64).enc],Z⟩) (λi x=>(True)) λF hF JF aZ=>⟨?_,?_,?_⟩
 .refine en aZ (()) (trivial) ?_ ?_ ?_
  all_goals simp[hF,aj,am,ba,Rl.SU]
 .rintro i x hi -;simp only[hF,aj,am,cf hi,Rl.al,Rl.zS];refine(asR r i hi Z).mono ?_;rintro v Z ⟨⟨l,rfl,hl,hlen⟩,rfl⟩;simp only[am];refine cl (BI _ Z (by rw[aF];omega)) ?_;simp only[am,cK,agb hi hl];refine jX ?_;simp only[Av,Rl.yF (show i<64 by omega),Rl.yH (show i<64 by omega),bt hi];refine nx aZ (()) hi (trivial) ?_ ?_ ?_
  all_goals simp[hF,aj,am,ba,Rl.fill]
 .rintro x -;simp only[hF,aj,am,aK,ck,aK,Rl.al,Rl.zS];rw[aga];exact aN (v:=.agg (kN r).enc) Rl.dT (ab.a8 _) ⟨by simp only[V.erase,Rl.dW],rfl⟩
def aas(r:Rl)(Z:ab):aR 239 [.agg r.enc] Z (.bool (wm r)):=by
 refine fq func239 ?_;simp only[aP,am,aT,Nat.reduceAdd,Rl.al];refine bn.intro (aat r Z) ?_;simp only[am,Rl.al];refine bn.intro (aaZ r (kN r) Z) ?_;simp only[am,Rl.al];refine aI ?_;simp[V.erase,wm,UF]
def ate(r:Rl)(Z:ab):aR 189 [.agg r.enc] Z (.bool (wY r)):=by
 refine fq func189 ?_;simp only[aP,am,aT,Nat.reduceAdd,Rl.al];have hp:=@j1 r;refine ch (bm r) (λi (x:Unit)=>⟨[.any,.ptr (.au 0) 0,.bool aq,.int .i64 (i:Nat)]++aj 24 .any,[r.enc],Z⟩) (λi x=>(∀a,a<i->∀b,b<a->(bD r a b&&bD r b a)=aq)) λF hF JF aZ=>⟨?_,?_,?_⟩
 .exact en aZ (()) (by intro k h;omega)
 .rintro i x hi hJ;simp only[hF,aj,am,Rl.al];refine cl (n6 r Z) ?_;simp only[am,cf hi];refine ch (i) (λj (x:Unit)=>⟨[.any,.ptr (.au 0) 0,.bool aq,.int .i64 (i:Nat),.int .i64 (j:Nat)]++aj 23 .any,[r.enc],Z⟩) (λj x=>(∀b,b<j->(bD r i b&&bD r b i)=aq)) λF2 bV pI dr=>⟨?_,?_,?_⟩
  .refine en dr (()) (by intro k h;omega) ?_ ?_ ?_
   all_goals simp[bV,aj,am,ba]
  .rintro j x hj pU;simp only[bV,aj,am,cf hj,Rl.al];refine cl (qh r i j Z) ?_;have aO:bD r i j=aa->bD r j i=aa->wY r=false:=λh1 h2=>by
    have:wc r=false:=by
     cases hq:wc r with
     | false=>rfl
     | true=>have:=TO.1 hq i j h1 h2;omega
    simp[wY,this]
   cases h1:bD r i j with
   | false =>
    simp only[am,aK,bt hj];refine nx dr (()) hj (kn pU (by rw[h1];rfl)) ?_ ?_ ?_
    all_goals simp[bV,aj,am,ba]
   | true =>
    simp only[am,Rl.al];refine cl (qh r j i Z) ?_;cases h2:bD r j i with
    | false =>
     simp only[am,aK,bt hj];refine nx dr (()) hj (kn pU (by rw[h2,SZ])) ?_ ?_ ?_
     all_goals simp[bV,aj,am,ba]
    | true =>
     simp only[am,aK];refine aI ?_;simp[V.erase,aO h1 h2]
  .rintro x pU;simp only[bV,aj,am,aK,ck,Nat.reduceEqDiff,aK,reduceCtorEq,Rl.al,bt hi];exact nx aZ (()) hi (kn hJ pU)
 .rintro x hJ;have hA:wc r=true:=by
   simp only[wc,ma,qy,v_];exact hJ
  simp only[hF,aj,am,Rl.al];refine cl (n6 r Z) ?_;simp only[am,aK,Rl.al,ck];refine cl (aas r Z) ?_;simp only[am];refine aI ?_;simp[V.erase,wY,hA]
def DG(p:bz × Bool):V:=.bw [.int .u64 (p.1.toNat:Nat),.bool p.2]
def asv(n k:Int)(Z:ab):aR 245 [.int .i64 n,.int .i64 k] Z (DG (uN n k)):=by
 refine fq func245 ?_;simp only[aP,am,aT,Nat.reduceAdd,tR];have aO:¬(1<=n/\n<=64/\0<=k/\k<n)->uN n k=(0#64,aq):=λh=>by rw[uN,aB h]
 by_cases h1:n<1
 .simp only[am,aG h1];refine aI ?_;simp[V.erase,a9,DG,aO (by omega)]
 .simp only[am,aD h1]
  by_cases h2:64<n
  .simp only[am,aG h2];refine aI ?_;simp[V.erase,a9,DG,aO (by omega)]
  .simp only[am,aD h2]
   by_cases h3:k<0
   .simp only[am,aG h3];refine aI ?_;simp[V.erase,a9,DG,aO (by omega)]
   .simp only[am,aD h3]
    by_cases h4:n<=k
    .simp only[am,aG h4];refine aI ?_;simp[V.erase,a9,DG,aO (by omega)]
    .simp only[am,aD h4];refine cl (asT k Z) ?_;have e:uN n k=(jT k,aa):=by rw[uN,aL (by omega)]
     simp only[am];refine aI ?_;simp[V.erase,a9,DG,e]
def Re(r:Rl)(Z:ab):aR 203 [.agg r.enc] Z (.bool (kT r)):=by
 refine fq func203 ?_;simp only[aP,am,aT,Nat.reduceAdd,Rl.al]
 by_cases h:1<=r.n
 .simp only[am,Rl.al,aG h]
  by_cases h2:r.n<=8
  .simp only[am,Rl.al,aG h2];refine cl (aas r Z) ?_;simp only[am];refine aI ?_;simp[V.erase,kT,h,h2]
  .simp only[am,aD h2];refine aI ?_;simp[V.erase,kT,h2]
 .simp only[am,aD h];refine aI ?_;simp[V.erase,kT,h]
def aq0(r:Rl)(n:Nat)(hn:r.n=n)(w:bz)(o x:Nat)(ho:o<64)(hx:x<64)(Z:ab):aR 286 [.agg r.enc,.int .u64 (w.toNat:Nat),.int .i64 (o:Nat),.int .i64 (x:Nat)] Z (.bool (decide (o<n)&&(decide (x<n)&&w.getLsbD (8*o+x)))):=by
 refine fq func286 ?_;simp only[aP,am,aT,Nat.reduceAdd,Rl.al];simp only[am,Rl.al,Zb,hn]
 by_cases h1:o<n
 .simp only[am,Rl.al,cf h1,hn]
  by_cases h2:x<n
  .simp only[am,cf h2];rw[wrap_i64 (x:=8*((o:Nat):Int)),wrap_i64 (x:=8*((o:Nat):Int)+(x:Nat)),show 8*((o:Nat):Int)+(x:Nat)=((8*o+x:Nat):Int) by omega];refine cl (aay w ((8*o+x:Nat):Int) Z) ?_;simp only[am,JH];refine aI ?_;simp[V.erase,h1,h2]
  .simp only[am,aD (show ¬(x:Int)<(n:Nat) by omega)];refine aI ?_;simp[V.erase,h2]
 .simp only[am,aD (show ¬(o:Int)<(n:Nat) by omega)];refine aI ?_;simp[V.erase,h1]
theorem aka(r:Rl)(hg:kT r=aa)(w:bz)(o x:Nat)(Z:ab):aR 253 [.agg r.enc,.int .u64 (w.toNat:Nat),.int .i64 (o:Nat),.int .i64 (x:Nat)] Z (.bool (wA r w o x)):=by
 refine fq func253 ?_;simp only[aP,am,aT,Nat.reduceAdd,Rl.al];obtain⟨n,hn,hp,h1,h8⟩:=xW hg;have hf:wA r w o x=(bH n).any λp=>(bH n).any λy=>w.getLsbD (8*p+y)&&(bD r o p&&bD r x y):=by rw[wA,hn];rfl
 refine ch (n) (λp (z:Unit)=>⟨[.any,.int .u64 (w.toNat:Nat),.int .i64 (o:Nat),.int .i64 (x:Nat),.ptr (.au 0) 0,.any,.any,.any,.any,.int .i64 (p:Nat)]++aj 30 .any,[r.enc],Z⟩) (λp z=>(∀p',p' < p->∀y,y<n->(w.getLsbD (8*p' + y)&&(bD r o p' && bD r x y))=aq)) λF hF JF aZ=>⟨?_,?_,?_⟩
 .exact en aZ (()) (by intro k h;omega)
 .rintro p z hi hJ;simp only[hF,aj,am,cf hi,Rl.al,hn];refine ch (n) (λy (z:Unit)=>⟨[.any,.int .u64 (w.toNat:Nat),.int .i64 (o:Nat),.int .i64 (x:Nat),.ptr (.au 0) 0,.any,.any,.any,.any,.int .i64 (p:Nat),.int .i64 (y:Nat)]++aj 29 .any,[r.enc],Z⟩) (λy z=>(∀y',y' < y->(w.getLsbD (8*p+y')&&(bD r o p&&bD r x y'))=aq)) λF2 bV pI dr=>⟨?_,?_,?_⟩
  .refine en dr (()) (by intro k h;omega) ?_ ?_ ?_
   all_goals simp[bV,aj,am,ba]
  .rintro y z hj pU;simp only[bV,aj,am,cf hj,Rl.al,hn];refine cl (aq0 r n hn w p y (by omega) (by omega) Z) ?_;cases ha:w.getLsbD (8*p+y) with
   | false =>
    simp only[am,aK,aG hi,aG hj,bt hj];refine nx dr (()) hj (kn pU (by rw[ha];rfl)) ?_ ?_ ?_
    all_goals simp[bV,aj,am,ba]
   | true =>
    simp only[am,Rl.al,aG hi,aG hj];refine cl (qh r o p Z) ?_;cases hb:bD r o p with
    | false =>
     simp only[am,aK,bt hj];refine nx dr (()) hj (kn pU (by rw[hb];simp)) ?_ ?_ ?_
     all_goals simp[bV,aj,am,ba]
    | true =>
     simp only[am,Rl.al];refine cl (qh r x y Z) ?_;cases hc:bD r x y with
     | false =>
      simp only[am,aK,bt hj];refine nx dr (()) hj (kn pU (by rw[hc];simp)) ?_ ?_ ?_
      all_goals simp[bV,aj,am,ba]
     | true =>
      have:wA r w o x=true:=by rw[V6 hg];exact⟨p,y,hb,hc,ha⟩
      simp only[am,aK];refine aI ?_;simp[V.erase,this]
  .rintro z pU;simp only[bV,aj,am,aK,ck,Nat.reduceEqDiff,aK,reduceCtorEq,Rl.al,hn,bt hi];exact nx aZ (()) hi (kn hJ pU)
 .rintro z hJ
  have:wA r w o x=false:=by grind
  simp only[hF,aj,am,aK,ck,aK,Rl.al,hn];refine aI ?_;simp[V.erase,this]
def asw(r:Rl)(w:bz)(Z:ab):aR 207 [.agg r.enc,.int .u64 (w.toNat:Nat)] Z (.int .u64 ((wj r w).toNat:Nat)):=by
 refine fq func207 ?_;simp only[aP,tU,Nat.reduceAdd];refine cl (Re r Z) ?_;cases hg:kT r with
 | false =>
  simp only[am];refine aI ?_;simp[V.erase,wj,hg]
 | true =>
  obtain⟨n,hn,hp,h1,h8⟩:=xW hg;simp only[am];refine ch (n) (λo (z:Tk × ab)=>⟨[.any,.int .u64 (w.toNat:Nat),.ptr (.au 0) 0,.any,.any,.sl z.1 1 (cC (pQ r w o)),.int .i64 (o:Nat)]++aj 30 .any,[r.enc],z.2⟩) (λo z=>(Gr Z z.2 z.1 (pQ r w o).length)) λF hF JF aZ=>⟨?_,?_,?_⟩
  .refine en aZ ((.aY,Z)) (Gr.nil) ?_ ?_ ?_
   all_goals simp[hF,aj,am,ba,pQ,cC]
  .rintro o ⟨tk,bx⟩ hi hG;simp only at hG;have zu:=@Wz r w o;rw[hn,iM] at zu;have alQ:o*n<=8*8:=IA (by omega) h8;simp only[hF,aj,am,cf hi,Rl.al,hn];refine ch (n) (λx (z:Tk × ab)=>⟨[.any,.int .u64 (w.toNat:Nat),.ptr (.au 0) 0,.any,.any,.sl z.1 1 (cC (pQ r w o++sJ r w o x)),.int .i64 (o:Nat),.int .i64 (x:Nat)]++aj 29 .any,[r.enc],z.2⟩) (λx z=>(Gr Z z.2 z.1 (pQ r w o++sJ r w o x).length)) λF2 bV pI dr=>⟨?_,?_,?_⟩
   .refine en dr ((tk,bx)) (by simpa [sJ] using hG) ?_ ?_ ?_
    all_goals simp[bV,aj,am,ba,sJ]
   .rintro x ⟨tk,bx⟩ hj hG;simp only at hG;have rC:=@aaK r w o x;simp only[bV,aj,am,cf hj,Rl.al,hn];refine(aka r hg w o x bx).mono ?_;rintro v bx ⟨rfl,rfl⟩;cases hb:wA r w o x with
    | false =>
     simp only[am,aK,bt hj];refine nx dr ((tk,bx)) hj (by simpa [Rz,hb] using hG) ?_ ?_ ?_
     all_goals simp[bV,aj,am,ba,Rz,hb]
    | true =>
     simp only[am];rw[wrap_i64 (x:=8*((o:Nat):Int)),wrap_i64 (x:=8*((o:Nat):Int)+(x:Nat)),show 8*((o:Nat):Int)+(x:Nat)=((8*o+x:Nat):Int) by omega];refine Gr.app (by simpa [cC] using hG) (by simp[cC,aJ];omega) λgz σ' kr _ _=>?_
     have e:cC (pQ r w o++sJ r w o (x+1))=cC (pQ r w o++sJ r w o x)++[[.int .i64 ((8*o+x:Nat):Int)]]:=by rw[Rz,hb,aL rfl,<-eY,G_]
     simp only[am,aK,bt hj];refine nx dr ((gz,σ')) hj (by rw[<-vO,e];exact kr) ?_ ?_ ?_
     all_goals simp[bV,aj,am,ba,e]
   .rintro⟨tk,bx⟩ hG;simp only at hG;simp only[bV,aj,am,aK,ck,Nat.reduceEqDiff,aK,reduceCtorEq,Rl.al,hn,bt hi];have e:pQ r w (o+1)=pQ r w o++sJ r w o n:=by rw[WA,hn];rfl
    refine nx aZ ((tk,bx)) hi (by rw[e];exact hG) ?_ ?_ ?_
    all_goals simp[hF,aj,am,ba,e]
  .rintro⟨tk,bx⟩ hG;simp only at hG;have zu:=@Wz r w n;rw[hn,iM] at zu;have alQ:n*n<=8*8:=IA h8 h8;simp only[hF,aj,am,aK,ck,aK,Rl.al,hn];refine cy.df (as' := [.sl .no 1 (cC (pQ r w n))]) ?_ ⟨dv.no,trivial⟩ bp.rfl;refine(BI _ bx (by omega)).mono ?_;rintro v bx ⟨rfl,rfl⟩;have e:gq (pQ r w n)=wj r w:=by have:=alc (w:=w) hg;rwa [hn,iM] at this
   simp only[am,e];exact aN rfl hG.sub ⟨rfl,rfl⟩
def asx(r:Rl)(o:Nat)(d:bz)(Z:ab):aR 283 [.agg r.enc,.int .i64 (o:Nat),.int .u64 (d.toNat:Nat)] Z (.int .u64 ((uM r o d).toNat:Nat)):=by
 refine fq func283 ?_;simp only[aP,tU,Nat.reduceAdd];refine cl (Re r Z) ?_;cases hg:kT r with
 | false =>
  simp only[am];refine aI ?_;simp[V.erase,uM,hg]
 | true =>
  obtain⟨n,hn,hp,h1,h8⟩:=xW hg;simp only[am,Rl.al,aD (show ¬(o:Int)<0 by omega),hn]
  by_cases ho:n<=o
  .simp only[am,aG (show(n:Int)<=(o:Nat) by omega)];have e:uM r o d=0#64:=by rw[uM,hg,hn,aD (by omega)];rfl
   refine aI ?_;simp[V.erase,e]
  .simp only[am,aD (show ¬(n:Int)<=(o:Nat) by omega)];refine ch (n) (λx (z:Tk × ab)=>⟨[.any,.int .i64 (o:Nat),.int .u64 (d.toNat:Nat),.ptr (.au 0) 0,.any,.any,.any,.sl z.1 1 (cC (rR r o d x)),.int .i64 (x:Nat)]++aj 49 .any,[r.enc],z.2⟩) (λx z=>(Gr Z z.2 z.1 (rR r o d x).length)) λF hF JF aZ=>⟨?_,?_,?_⟩
   .refine en aZ ((.aY,Z)) (Gr.nil) ?_ ?_ ?_
    all_goals simp[hF,aj,am,ba,rR,cC]
   .rintro x ⟨tk,bx⟩ hi hG;simp only at hG;have rC:=@aa8 r o d x;simp only[hF,aj,am,cf hi,Rl.al,hn];refine ch (n) (λy (z:Unit)=>⟨[.any,.int .i64 (o:Nat),.int .u64 (d.toNat:Nat),.ptr (.au 0) 0,.any,.any,.any,.sl tk 1 (cC (rR r o d x)),.int .i64 (x:Nat),.bool ((bH y).any λy=>d.getLsbD y&&bD r y x),.int .i64 (y:Nat)]++aj 47 .any,[r.enc],bx⟩) (λy z=>(True)) λF2 bV pI dr=>⟨?_,?_,?_⟩
    .refine en dr (()) (trivial) ?_ ?_ ?_
     all_goals simp[bV,aj,am,ba]
    .rintro y z hj -;simp only[bV,aj,am,cf hj,Rl.al,hn];refine(aay d (y:Nat) bx).mono ?_;rintro v bx ⟨rfl,rfl⟩;cases ha:d.getLsbD y with
     | false =>
      simp only[am,aK,JH,ha,bt hj];refine nx dr (()) hj (trivial) ?_ ?_ ?_
      all_goals simp[bV,aj,am,ba,il,ha]
     | true =>
      simp only[am,Rl.al,JH,ha];refine(qh r y x bx).mono ?_;rintro v bx ⟨rfl,rfl⟩;cases hb:bD r y x with
      | false =>
       simp only[am,aK,bt hj];refine nx dr (()) hj (trivial) ?_ ?_ ?_
       all_goals simp[bV,aj,am,ba,il,hb]
      | true =>
       simp only[am,aK,bt hj];refine nx dr (()) hj (trivial) ?_ ?_ ?_
       all_goals simp[bV,aj,am,ba,il,ha,hb]
    .rintro z -;simp only[bV,aj,am,aK,ck,Nat.reduceEqDiff,aK,reduceCtorEq,Rl.al,hn];cases hb:(bH n).any λy=>d.getLsbD y&&bD r y x with
     | true =>
      have hb:wT r d x=true:=by rw[wT,hn];exact hb
      simp only[am,aK,bt hi];refine nx aZ ((tk,bx)) hi (by simpa [RF,hb] using hG) ?_ ?_ ?_
      all_goals simp[hF,aj,am,ba,RF,hb]
     | false =>
      have hb:wT r d x=false:=by rw[wT,hn];exact hb
      simp only[am];rw[wrap_i64 (x:=8*((o:Nat):Int)),wrap_i64 (x:=8*((o:Nat):Int)+(x:Nat)),show 8*((o:Nat):Int)+(x:Nat)=((8*o+x:Nat):Int) by omega];refine Gr.app (by simpa [cC] using hG) (by simp[cC,aJ];omega) λgz σ' kr _ _=>?_
      have e:cC (rR r o d (x+1))=cC (rR r o d x)++[[.int .i64 ((8*o+x:Nat):Int)]]:=by rw[RF,hb,<-G_];rfl
      simp only[am,aK,bt hi];refine nx aZ ((gz,σ')) hi (by rw[<-vO,e];exact kr) ?_ ?_ ?_
      all_goals simp[hF,aj,am,ba,e]
   .rintro⟨tk,bx⟩ hG;simp only at hG;have rC:=@aa8 r o d n;have e:gq (rR r o d n)=yt n λk=>if k=o then uG r d else 0#64:=by have:=atF (d:=d) (o:=o) hg (by rw[hn,iM];omega);rwa [hn,iM] at this
    have e2:uM r o d=wj r (gq (rR r o d n)):=by rw[e,uM,hg,hn,aG (show(o:Int)<(n:Nat) by omega)];rfl
    simp only[hF,aj,am,aK,ck,aK,Rl.al,hn];refine bn.intro (cy.df (as' := [.sl .no 1 (cC (rR r o d n))]) (BI _ bx (by omega)) ⟨dv.no,trivial⟩ bp.rfl) ?_;simp only[am,Rl.al];refine bn.intro (asw r _ bx) ?_;simp only[am,Rl.al];rw[<-e2];exact aN rfl hG.sub ⟨rfl,rfl⟩
def as6(r:Rl)(i j:Nat)(Z:ab):aR 190 [.agg r.enc,.int .i64 (i:Nat),.int .i64 (j:Nat)] Z (qU (sA r i j)):=by
 refine fq func190 ?_;simp only[aP,am,aT,Nat.reduceAdd,Rl.al];rw[am2];generalize hg:(λu=>(bD r i u&&bD r j u)&&(bH (bm r)).all λv=>!(bD r i v&&bD r j v&&!bD r u v))=g;have hg:∀u,((bD r i u&&bD r j u)&&(bH (bm r)).all λv=>!(bD r i v&&bD r j v&&!bD r u v))=g u:=λu=>by rw[<-hg]
 have hp:=@j1 r;refine ch (bm r) (λu (x:Unit)=>⟨[.agg r.enc,.int .i64 (i:Nat),.int .i64 (j:Nat),.ptr (.au 0) 0,.any,.any,.any,.any,.int .i64 (u:Nat)]++aj 43 .any,[r.enc],Z⟩) (λu x=>(∀k,k<u->g k=aq)) λF hF JF aZ=>⟨?_,?_,?_⟩
 .exact en aZ (()) (by intro k h;omega)
 .rintro u x hi hJ;simp only[hF,aj,am,Rl.al];refine cl (n6 r Z) ?_;simp only[am,Rl.al,cf hi];refine cl (qh r i u Z) ?_
  rcases adh (bD r i u) with hb | hb
  all_goals simp only[am,Rl.al,hb]
  case' inl =>
   refine cl (qh r j u Z) ?_;simp only[am]
  all_goals
   refine ch (bm r) (λv (x:Unit)=>⟨[.agg r.enc,.int .i64 (i:Nat),.int .i64 (j:Nat),.ptr (.au 0) 0,.any,.any,.any,.any,.int .i64 (u:Nat),.bool ((bD r i u&&bD r j u)&&(bH v).all λv=>!(bD r i v&&bD r j v&&!bD r u v)),.int .i64 (v:Nat)]++aj 41 .any,[r.enc],Z⟩) (λv x=>(True)) λF2 bV pI dr=>⟨?_,?_,?_⟩
   .refine en dr (()) (trivial) ?_ ?_ ?_
    all_goals simp[bV,aj,am,ba,hb]
   .rintro v x hj -;simp only[bV,aj,am,Rl.al];refine cl (n6 r Z) ?_;simp only[am,Rl.al,cf hj];refine cl (qh r i v Z) ?_;cases h1:bD r i v with
    | false =>
     simp only[am,aK,bt hj];refine nx dr (()) hj (trivial) ?_ ?_ ?_
     all_goals simp[bV,aj,am,ba,il,h1]
    | true =>
     simp only[am,Rl.al];refine cl (qh r j v Z) ?_;cases h2:bD r j v with
     | false =>
      simp only[am,aK,bt hj];refine nx dr (()) hj (trivial) ?_ ?_ ?_
      all_goals simp[bV,aj,am,ba,il,h2]
     | true =>
      simp only[am,Rl.al];refine cl (qh r u v Z) ?_;cases h3:bD r u v with
      | false =>
       simp only[am,aK,bt hj];refine nx dr (()) hj (trivial) ?_ ?_ ?_
       all_goals simp[bV,aj,am,ba,il,h1,h2,h3]
      | true =>
       simp only[am,aK,bt hj];refine nx dr (()) hj (trivial) ?_ ?_ ?_
       all_goals simp[bV,aj,am,ba,il,h1,h2,h3]
   .rintro x -;simp only[bV,aj,am,Rl.al];refine cl (n6 r Z) ?_;simp only[am,Nat.reduceEqDiff,aK,reduceCtorEq,ck,hg];cases h:g u with
    | true =>
     have e:(bH (bm r)).find? g=U u:=Cq hi hJ h;simp only[am,aK];refine aI ?_;simp[V.erase,a9,qU,e]
    | false =>
     simp only[am,aK,bt hi];exact nx aZ (()) hi (kn hJ h)
 .rintro x hJ;have e:(bH (bm r)).find? g=none:=Cr hJ;simp only[hF,aj,am,Rl.al];refine cl (n6 r Z) ?_;simp only[am,aK,ck];refine aI ?_;simp[V.erase,a9,qU,e]
def as9(r:Rl)(i j:Nat)(Z:ab):aR 191 [.agg r.enc,.int .i64 (i:Nat),.int .i64 (j:Nat)] Z (qU (tD r i j)):=by
 refine fq func191 ?_;simp only[aP,am,aT,Nat.reduceAdd,Rl.al];rw[aoY];generalize hg:(λu=>(bD r u i&&bD r u j)&&(bH (bm r)).all λv=>!(bD r v i&&bD r v j&&!bD r v u))=g;have hg:∀u,((bD r u i&&bD r u j)&&(bH (bm r)).all λv=>!(bD r v i&&bD r v j&&!bD r v u))=g u:=λu=>by rw[<-hg]
 have hp:=@j1 r;refine ch (bm r) (λu (x:Unit)=>⟨[.agg r.enc,.int .i64 (i:Nat),.int .i64 (j:Nat),.ptr (.au 0) 0,.any,.any,.any,.any,.int .i64 (u:Nat)]++aj 43 .any,[r.enc],Z⟩) (λu x=>(∀k,k<u->g k=aq)) λF hF JF aZ=>⟨?_,?_,?_⟩
 .exact en aZ (()) (by intro k h;omega)
 .rintro u x hi hJ;simp only[hF,aj,am,Rl.al];refine cl (n6 r Z) ?_;simp only[am,Rl.al,cf hi];refine cl (qh r u i Z) ?_
  rcases adh (bD r u i) with hb | hb
  all_goals simp only[am,Rl.al,hb]
  case' inl =>
   refine cl (qh r u j Z) ?_;simp only[am]
  all_goals
   refine ch (bm r) (λv (x:Unit)=>⟨[.agg r.enc,.int .i64 (i:Nat),.int .i64 (j:Nat),.ptr (.au 0) 0,.any,.any,.any,.any,.int .i64 (u:Nat),.bool ((bD r u i&&bD r u j)&&(bH v).all λv=>!(bD r v i&&bD r v j&&!bD r v u)),.int .i64 (v:Nat)]++aj 41 .any,[r.enc],Z⟩) (λv x=>(True)) λF2 bV pI dr=>⟨?_,?_,?_⟩
   .refine en dr (()) (trivial) ?_ ?_ ?_
    all_goals simp[bV,aj,am,ba,hb]
   .rintro v x hj -;simp only[bV,aj,am,Rl.al];refine cl (n6 r Z) ?_;simp only[am,Rl.al,cf hj];refine cl (qh r v i Z) ?_;cases h1:bD r v i with
    | false =>
     simp only[am,aK,bt hj];refine nx dr (()) hj (trivial) ?_ ?_ ?_
     all_goals simp[bV,aj,am,ba,il,h1]
    | true =>
     simp only[am,Rl.al];refine cl (qh r v j Z) ?_;cases h2:bD r v j with
     | false =>
      simp only[am,aK,bt hj];refine nx dr (()) hj (trivial) ?_ ?_ ?_
      all_goals simp[bV,aj,am,ba,il,h2]
     | true =>
      simp only[am,Rl.al];refine cl (qh r v u Z) ?_;cases h3:bD r v u with
      | false =>
       simp only[am,aK,bt hj];refine nx dr (()) hj (trivial) ?_ ?_ ?_
       all_goals simp[bV,aj,am,ba,il,h1,h2,h3]
      | true =>
       simp only[am,aK,bt hj];refine nx dr (()) hj (trivial) ?_ ?_ ?_
       all_goals simp[bV,aj,am,ba,il,h1,h2,h3]
   .rintro x -;simp only[bV,aj,am,Rl.al];refine cl (n6 r Z) ?_;simp only[am,Nat.reduceEqDiff,aK,reduceCtorEq,ck,hg];cases h:g u with
    | true =>
     have e:(bH (bm r)).find? g=U u:=Cq hi hJ h;simp only[am,aK];refine aI ?_;simp[V.erase,a9,qU,e]
    | false =>
     simp only[am,aK,bt hi];exact nx aZ (()) hi (kn hJ h)
 .rintro x hJ;have e:(bH (bm r)).find? g=none:=Cr hJ;simp only[hF,aj,am,Rl.al];refine cl (n6 r Z) ?_;simp only[am,aK,ck];refine aI ?_;simp[V.erase,a9,qU,e]
def awO{r:Rl}:gq (((bH (bm r)).filter λk=>bD r k i).map Int.ofNat)=sU r i:=by
 apply pO;intro j hj;rw[tW,Zp hj,Ul];simp only[FW,qy];exact⟨λh=>h.2,λh=>⟨(mo h).1,h⟩⟩
theorem at5(r:Rl)(i:Nat)(Z:ab):aR 244 [.agg r.enc,.int .i64 (i:Nat)] Z (.int .u64 ((sU r i).toNat:Nat)):=by
 refine fq func244 ?_;simp only[aP,tU,Nat.reduceAdd];have hp:=@j1 r;refine ch (bm r) (λk (x:Tk × ab)=>⟨[.agg r.enc,.int .i64 (i:Nat),.ptr (.au 0) 0,.any,.any,.sl x.1 1 (cC (((bH k).filter λk=>bD r k i).map Int.ofNat)),.int .i64 (k:Nat)]++aj 16 .any,[r.enc],x.2⟩) (λk x=>(Gr Z x.2 x.1 ((bH k).filter λk=>bD r k i).length)) λF hF JF aZ=>⟨?_,?_,?_⟩
 .refine en aZ ((.aY,Z)) (Gr.nil) ?_ ?_ ?_
  all_goals simp[hF,aj,am,ba,cC]
 .rintro k ⟨tk,bx⟩ hi hG;simp only at hG;have hlen:((bH k).filter λk=>bD r k i).length<=64:=by grind
  simp only[hF,aj,am,Rl.al];refine(n6 r bx).mono ?_;rintro v bx ⟨rfl,rfl⟩;simp only[am,Rl.al,cf hi];refine(qh r k i bx).mono ?_;rintro v bx ⟨rfl,rfl⟩;cases hb:bD r k i with
  | false =>
   simp only[am,aK,bt hi];refine nx aZ ((tk,bx)) hi (by simpa [il,hb] using hG) ?_ ?_ ?_
   all_goals simp[hF,aj,am,ba,il,hb]
  | true =>
   simp only[am];refine Gr.app (by simpa [cC] using hG) (by simp[cC,aJ];omega) λgz σ' kr _ _=>?_
   simp only[am,aK,bt hi];refine nx aZ ((gz,σ')) hi (by simpa [cC,il,hb] using kr) ?_ ?_ ?_
   all_goals simp[hF,aj,am,ba,il,hb,G_]
 .rintro⟨tk,bx⟩ hG;simp only at hG;have hlen:((bH (bm r)).filter λk=>bD r k i).length<=64:=by grind
  simp only[hF,aj,am,Rl.al];refine(n6 r bx).mono ?_;rintro v bx ⟨rfl,rfl⟩;simp only[am,aK,ck];refine cy.df (as' := [.sl .no 1 (cC (((bH (bm r)).filter λk=>bD r k i).map Int.ofNat))]) ?_ ⟨dv.no,trivial⟩ bp.rfl;refine(BI _ bx (by rw[aF];omega)).mono ?_;rintro v bx ⟨rfl,rfl⟩;simp only[am,awO];exact aN rfl hG.sub ⟨rfl,rfl⟩
theorem aaF(r:Rl)(Z:ab):aR 124 [.agg r.enc] Z (.bool (lU r)):=by
 refine fq func124 ?_;simp only[aP,am,aT,Nat.reduceAdd,Rl.al]
 by_cases h1:r.n<1
 .simp only[am,aG h1];refine aI ?_;simp[V.erase,lU];omega
 .simp only[am,Rl.al,aD h1]
  by_cases h2:64<r.n
  .simp only[am,aG h2];refine aI ?_;simp[V.erase,lU];omega
  .simp only[am,Rl.al,aD h2];refine cl (ate r Z) ?_;obtain⟨n,hn⟩:∃n:Nat,r.n=n:=⟨r.n.toNat,by omega⟩;have hp:bm r=n:=by rw[bm,hn];omega
   cases ho:wY r with
   | false =>
    simp only[am];refine aI ?_;simp[V.erase,lU,ho]
   | true =>
    simp only[am];have lu:(∀i,i<n->∀j,j<i->((sA r i j).isSome&&(tD r i j).isSome)=aa)->lU r=true:=λh=>by
     simp only[lU,ho,hn,iM,ma,qy,bO,cU,uZ]
     grind
    have aO:∀i j,i<n->j<i->((sA r i j).isSome&&(tD r i j).isSome)=aq->lU r=false:=λi j hi hj h=>by
     cases hq:lU r with
     | false=>rfl
     | true =>
      simp only[lU,hn,iM,ma,qy,bO] at hq
      grind
    refine ch (n) (λi (x:Unit)=>⟨[.any,.ptr (.au 0) 0,.any,.int .i64 (i:Nat)]++aj 49 .any,[r.enc],Z⟩) (λi x=>(∀a,a<i->∀b,b<a->((sA r a b).isSome&&(tD r a b).isSome)=aa)) λF hF JF aZ=>⟨?_,?_,?_⟩
    .exact en aZ (()) (by intro k h;omega)
    .rintro i x hi hJ;simp only[hF,aj,am,cf hi,Rl.al,hn];refine ch (i) (λj (x:Unit)=>⟨[.any,.ptr (.au 0) 0,.any,.int .i64 (i:Nat),.int .i64 (j:Nat)]++aj 48 .any,[r.enc],Z⟩) (λj x=>(∀b,b<j->((sA r i b).isSome&&(tD r i b).isSome)=aa)) λF2 bV pI dr=>⟨?_,?_,?_⟩
     .refine en dr (()) (by intro k h;omega) ?_ ?_ ?_
      all_goals simp[bV,aj,am,ba]
     .rintro j x hj pU;simp only[bV,aj,am,cf hj,Rl.al];refine cl (as6 r i j Z) ?_;simp only[am,Rl.al,qU];refine cl (as9 r i j Z) ?_;simp only[am,qU];cases ha:(sA r i j).isSome with
      | false =>
       simp only[am,aK];refine aI ?_;simp[V.erase,aO i j hi hj (by rw[ha];rfl)]
      | true =>
       simp only[am];cases hb:(tD r i j).isSome with
       | false =>
        simp only[am,aK];refine aI ?_;simp[V.erase,aO i j hi hj (by rw[ha,hb];rfl)]
       | true =>
        simp only[am,aK,bt hj];refine nx dr (()) hj (kn pU (by rw[ha,hb];rfl)) ?_ ?_ ?_
        all_goals simp[bV,aj,am,ba]
     .rintro x pU;simp only[bV,aj,am,aK,ck,Nat.reduceEqDiff,aK,reduceCtorEq,bt hi];exact nx aZ (()) hi (kn hJ pU)
    .rintro x hJ;simp only[hF,aj,am,aK,ck,aK,Rl.al,hn];refine aI ?_;simp[V.erase,lu hJ]
def ajP:fm prog 214 (sq [rg 2 [oz 2],rg 3 [mk 0,nf 3,nl 2,oW [0,0] [],oq (.lr aq [1,1] (.s 6) (.s 7)),o1 2],.ret]) [.tmp 2] 9:=fU func214
variable{r:Nat}{rd:af}
def zT(h:Z.box r=U rd.enc):aR 214 [.ptr (.out r) 0] Z (.bool rd.ok):=by
 refine ajP.fK ?_;simp only[aP,aT,am,h,af.enc];refine aN rfl (ab.a8 _) ⟨?_,rfl⟩;cases hb:rd.aO<;>simp[af.ok,V.erase,hb,dS,gx]
def tM{k:Int}(h:Z.box r=U rd.enc):aR 259 [.ptr (.out r) 0,.int .u8 k] Z (.bool (rd.cH k)):=by
 refine fq func259 ?_;simp only[aP,aT,am];refine bn.intro (zT h) ?_;simp only[am];cases cw:rd.ok
 .simp only[am];refine aN rfl (ab.a8 _) ⟨?_,rfl⟩;simp[af.cH,cw,V.erase]
 .simp only[am,h,af.enc]
  by_cases h0:0<=rd.at_
  .simp only[am,h0,bu,h,af.enc,eE]
   by_cases h1:rd.at_<rd.l.length
   .obtain⟨j,hj⟩:=yN h0;have nJ : j<rd.l.length:=by omega
    simp only[am,h1,bu,h,af.enc];refine mG h0 (c:=rd.l[j].enc) (by simp[qD,hj,nJ]) ?_;simp only[am,dk];refine aN rfl (ab.a8 _) ⟨?_,rfl⟩;simp[af.cH,bd,V.erase,cw,hj,nJ]
   .simp only[am,h1,cX];refine aN rfl (ab.a8 _) ⟨?_,rfl⟩
    have:rd.l[rd.at_.toNat]?=none:=AB (by omega)
    simp[af.cH,bd,V.erase,this]
  .simp only[am,h0,cX];refine aN rfl (ab.a8 _) ⟨?_,rfl⟩;simp[af.cH,bd,V.erase,h0]
def VH(h:Z.box r=U rd.enc):eT 287 [.ptr (.out r) 0] Z (.bw []) (Z.set r rd.fail.enc):=by
 refine fq func287 ?_;simp only[aP,aT,am];refine(zT h).mono ?_;rintro v σ' ⟨rfl,rfl⟩;cases hb:rd.aO with
 | some b =>
  simp only[am,af.ok,hb,Option.isNone];refine aN rfl (ab.a8 _) ⟨rfl,?_⟩;rw[af.fail,hb];exact(ab.BN h).symm
 | none =>
  simp only[am,af.ok,hb,Option.isNone,h,af.enc,Nat.reduceAdd]
  by_cases h0:0<=rd.at_
  .simp only[am,h0,bu,eE]
   by_cases h1:rd.at_<rd.l.length
   .obtain⟨j,hj⟩:=yN h0;have nJ : j<rd.l.length:=by omega
    simp only[am,h1,bu];refine mG h0 (c:=rd.l[j].enc) (by simp[qD,hj,nJ]) ?_;simp only[am,dk,Nat.reduceAdd];refine aN rfl (ab.a8 _) ⟨rfl,?_⟩;simp[af.fail,af.spot,hb,hj,nJ,dS,gx]
   .simp only[am,h1,cX];refine aN rfl (ab.a8 _) ⟨rfl,?_⟩
    have:rd.l[rd.at_.toNat]?=none:=AB (by omega)
    simp[af.fail,af.spot,hb,this,dS,gx]
  .simp only[am,h0,cX];refine aN rfl (ab.a8 _) ⟨rfl,?_⟩;simp[af.fail,af.spot,hb,h0,dS,gx]
def Af{k:Int}(h:Z.box r=U rd.enc)(hb:rd.l.length<=aJ):eT 260 [.ptr (.out r) 0,.int .u8 k] Z (.agg (rd.take k).1.enc) (Z.set r (rd.take k).2.enc):=by
 refine fq func260 ?_;simp only[aP,aT,am];refine(tM h).mono ?_;rintro v σ' ⟨rfl,rfl⟩;cases hs:rd.cH k
 .simp only[am];refine(VH h).mono ?_;rintro v σ' ⟨rfl,rfl⟩;simp only[am];refine aN rfl (ab.a8 _) ⟨?_,?_⟩
  .simp[af.take,hs,V.erase,a9,aA.zero,aA.enc,cE]
  .simp[af.take,hs]
 .have eG := hs;simp only[af.cH,bd,bO,cU] at eG;obtain⟨_,h0,hk⟩:=eG;have h1:rd.at_.toNat<rd.l.length:=by
   cases hq:rd.l[rd.at_.toNat]? with
   | none=>rw[hq] at hk;simp at hk
   | some t=>exact(kG.1 hq).1
  simp only[aJ] at hb;simp only[am,h,af.enc];rw[wrap_i64 (x:=rd.at_+1),wrap_i64 (x:=rd.at_+1 - 1)];refine lz (c:=rd.l[rd.at_.toNat].enc) (by rw[show(rd.at_+1 - 1).toNat=rd.at_.toNat by omega];simp[qD,h1]) ?_;simp only[am,dk];refine aN rfl (ab.a8 _) ⟨?_,?_⟩
  .simp[af.take,hs,V.erase,a9,h1,List.getD]
  .simp[af.take,hs]
def BZ(h:Z.box r=U rd.enc)(hb:rd.l.length<=aJ):eT 258 [.ptr (.out r) 0] Z (.agg rd.word.1.enc) (Z.set r rd.word.2.enc):=by
 refine fq func258 ?_;simp only[aP,aT,am];refine(Af h hb).mono ?_;rintro v σ' ⟨rfl,rfl⟩;simp only[am,dk,Nat.reduceAdd];refine aN rfl (ab.a8 _) ⟨?_,?_⟩
 .rfl
 .rfl
structure Sys(G:Type) where
 F:G->ab
 rd:G->af
 set:G->af->G
 step:G->G
variable{G:Type}
def Sys.go(S:Sys G):Nat->G->G
 | 0,a=>a
 | n+1,a=>if (S.rd a).cH 44 then S.go n (S.step (S.set a ((S.rd a).take 44).2)) else a
theorem aun{k:Int}(h:rd.cH k=aa):rd.aO=ah/\0<=rd.at_/\rd.at_<rd.l.length:=by
 simp only[af.cH,af.ok,bd,bO,cU,F6] at h
 grind
variable{cap:List V}{g:FuncId}
def R6(S:Sys G)(Inv:G->Prop)(so:bK cap=aa)
 (vA:∀a,Inv a->(S.F a).box r=U (S.rd a).enc) (hlen:∀a,Inv a->(S.rd a).l.length<=aJ)
 (qK:∀a,Inv a->(S.rd a).cH 44=aa->(S.F a).set r ((S.rd a).take 44).2.enc=S.F (S.set a ((S.rd a).take 44).2))
 (vK:∀a,Inv a->(S.rd a).cH 44=aa->cy prog g cap (S.F (S.set a ((S.rd a).take 44).2)) (λv σ' => v = .bw []/\σ' = S.F (S.step (S.set a ((S.rd a).take 44).2))) /\
   Inv (S.step (S.set a ((S.rd a).take 44).2))/\(S.rd (S.step (S.set a ((S.rd a).take 44).2))).l=(S.rd a).l/\(S.rd a).at_+1<=(S.rd (S.step (S.set a ((S.rd a).take 44).2))).at_)
 {a:G} (h0:cy prog g cap (S.F a) (λv σ' => v = .bw []/\σ' = S.F (S.step a))) (hI:Inv (S.step a)) {n:Nat} (hn:(S.rd (S.step a)).l.length<=n) :
 eT 256 [.ptr (.out r) 0,.fn (.func g) [] cap] (S.F a) (.bw []) (S.F (S.go n (S.step a))):=by
 refine fq func256 ?_;simp only[aP,aT,am,so];refine h0.mono ?_;rintro v σ' ⟨rfl,rfl⟩;simp only[am]
 let I:{p:G × Nat // Inv p.1/\((S.rd p.1).l.length:Int)<=max (S.rd p.1).at_ 0+p.2/\S.go p.2 p.1=S.go n (S.step a)}->St:=λp =>
  ⟨[.ptr (.out r) 0,.fn (.func g) [] cap]++aj 10 .any,[],S.F p.1.1⟩
 refine ep I (λp=>p.1.2) ?_ ?_
 .refine a7.enter ⟨(S.step a,n),hI,by simp only;omega,rfl⟩ ?_ bX.rfl bp.rfl;simp[I,aj,am]
 .rintro⟨⟨b,m⟩,hb,hm,tg⟩;simp only[I,aj,am];simp only at hb hm tg;refine(tM (vA b hb)).mono ?_;rintro v σ' ⟨rfl,rfl⟩;cases hs:(S.rd b).cH 44
  .simp only[am];refine aN rfl (ab.a8 _) ⟨rfl,?_⟩;rw[<-tg];cases m<;>simp[Sys.go,hs]
  .obtain⟨_,h1,h2⟩:=aun hs;simp only[am];refine(Af (vA b hb) (hlen b hb)).mono ?_;rintro v σ' ⟨rfl,rfl⟩;simp only[am,so];obtain⟨k1,k2,k3,k4⟩:=vK b hb hs;rw[qK b hb hs];refine k1.mono ?_;rintro v σ' ⟨rfl,rfl⟩;simp only[am];cases m with
   | zero=>omega
   | succ m =>
    refine a7.again ⟨(S.step (S.set b ((S.rd b).take 44).2),m),k2,?_,?_⟩ (by simp) ?_ bX.rfl bp.rfl
    .rw[k3];simp only;omega
    .rw[<-tg];simp[Sys.go,hs]
    .simp[am]
variable{empty:Bool}
def SE{kind:Int}(so:bK cap=aa)(h:Z.box r=U rd.enc)(hlen:rd.l.length<=aJ)(mD:(rd.take kind).1.ae.length<=aJ)
 (i1:af) (uU:ab) (rA:(rd.take kind).2.ok=aa->(empty=aq\/(rd.take kind).1.ae.length≠0)->∀q,Z.box q=ah ->
   cy prog g (.ptr (.out q) 0::cap) ((Z.set r (rd.take kind).2.enc).set q (rd.take kind).1.inner.enc) λv σ' => v = .bw []/\σ' = (uU.set r (rd.take kind).2.enc).set q i1.enc)
 (fj:empty=aa->(rd.take kind).1.ae.length=0->i1=(rd.take kind).1.inner/\uU=Z) (hq:∀q,Z.box q=ah->uU.box q=ah) (hl:i1.l=(rd.take kind).1.ae) :
 cy prog 254 [.ptr (.out r) 0,.int .u8 kind,.bool empty,.fn (.func g) [] cap] Z λv σ' =>
  if (rd.take kind).2.ok=aa then v = .int .i64 (rd.take kind).1.tok.pos/\σ' = uU.set r ((rd.take kind).2.under i1).enc else v = .int .i64 0/\σ' = Z.set r (rd.take kind).2.enc:=by
 refine fq func254 ?_ ⟨[22],[]⟩;simp only[aP,aT,am];refine(Af h hlen).mono ?_;rintro v σ' ⟨rfl,rfl⟩;generalize ht:(rd.take kind).1=t at *;generalize hr1:(rd.take kind).2=w_ at *;simp only[am,dk,Nat.reduceAdd];refine(zT (ab.fE _ _ _)).mono ?_;rintro v σ' ⟨rfl,rfl⟩;cases cw:w_.ok
 .simp only[am];refine aN rfl (ab.a8 _) ?_;simp[V.erase]
 .have cg:w_.aO=none:=by simpa [af.ok] using cw
  simp only[am,Nat.reduceAdd];refine lT λq J8=>?_
  have mm:q≠r:=by rintro rfl;rw[ab.fE] at J8;simp at J8
  have Xq : Z.box q=none:=by rw[ab.fQ _ _ mm] at J8;exact J8
  have eM:[V.sl .no 5 (cE t.ae),.int .i64 0,.int .i64 t.fin,.int .i64 0,.int .i64 0]=t.inner.enc:=rfl;simp only[am,eM];have jh:∀i:af,i.l=t.ae->((uU.set r w_.enc).set q i.enc).box q=U i.enc:=λi _=>ab.fE _ _ _
  have sv:∀(A B:List V),(uU.set r A).sub ((uU.set r A).set q B):=λA B=>by
   refine⟨λb cs hb=>?_,λ_ _ h=>h,λ_ _ h=>h⟩
   by_cases zo:b=q
   .subst zo;rw[ab.fQ _ _ mm,hq b Xq] at hb;simp at hb
   .rw[ab.fQ _ _ zo];exact hb
  have hsw:∀(A B C:List V),((uU.set r A).set q B).set r C=(uU.set r C).set q B:=λA B C=>by rw[ab.set_comm mm,ab.set_set]
  have JN:((uU.set r w_.enc).set q i1.enc).box q=U i1.enc:=ab.fE _ _ _
  by_cases hc:empty=aq\/t.ae.length≠0
  case' neg =>
   have hE:empty=true:=by cases empty<;>simp at hc ⊢
   have hk:t.ae.length=0:=by
    rcases Mh t.ae.length with h | h
    .exact h
    .exact absurd (.inr (by omega)) hc
   obtain⟨e1,e2⟩:=fj hE hk;simp only[am,hE,eE,hk,pH,Int.lt_irrefl,cX];rw[<-e1,<-e2]
  case' pos =>
   have tg:=rA cw hc q Xq;cases hE:empty
   case' true =>
    have hk:0<t.ae.length:=by
     rcases hc with h | h
     .rw[hE] at h;simp at h
     .omega
    simp only[am,eE,Int.natCast_pos,hk,bu]
   all_goals
    simp only[am,so];refine tg.mono ?_;rintro v σ' ⟨rfl,rfl⟩;simp only[am]
  all_goals
   refine bn.intro (zT JN) ?_;have W4:∀(i:af),((uU.set r w_.enc).set q i.enc).box r=U w_.enc:=λi=>by rw[ab.fQ _ _ (gM mm),ab.fE]
   have fin:∀(i:af) (x:List V),x=(w_.under i1).enc->(uU.set r (w_.under i1).enc).sub (((uU.set r w_.enc).set q i.enc).set r x):=λi x hx=>by
    rw[hx,hsw];exact sv _ _
   cases EB:i1.ok
   .have jh:i1.close=i1:=by simp[af.close,EB]
    simp only[am];refine(zT JN).mono ?_;rintro v σ' ⟨rfl,rfl⟩;simp only[am,EB,W4,af.ex,Nat.reduceAdd];exact aN rfl (fin i1 _ (by rw[af.under,jh];rfl)) ⟨rfl,rfl⟩
   .simp only[am,af.ex,hl,eE]
    by_cases az:i1.at_<t.ae.length
    .have jh:i1.close=i1.fail:=by simp[af.close,EB,hl,az]
     simp only[am,az,bu];refine(VH JN).mono ?_;rintro v σ' ⟨rfl,rfl⟩;simp only[am];refine(zT (ab.fE _ _ _)).mono ?_;rintro v σ' ⟨rfl,rfl⟩;have hf:i1.fail.ok=false:=by
      have:i1.aO=none:=by simpa [af.ok] using EB
      simp[af.fail,this,af.ok]
     simp only[am,hf,W4,af.ex,Nat.reduceAdd];exact aN rfl (fin i1.fail _ (by rw[af.under,jh];rfl)) ⟨rfl,rfl⟩
    .have jh:i1.close=i1:=by simp[af.close,hl,az]
     have hu:w_.under i1=w_:=by
      have:i1.aO=none:=by simpa [af.ok] using EB
      rw[af.under,jh,this,<-cg]
     simp only[am,az,cX];refine(zT JN).mono ?_;rintro v σ' ⟨rfl,rfl⟩;simp only[am,EB];refine aN rfl ?_ ⟨rfl,rfl⟩;rw[hu];exact sv _ _
variable{o p D:Nat}
def awR{rows:List (List V)}(ho:Z.box o=U [.sl (.tk D) 2 rows])(hp:Z.box p=U [.ptr (.out r) 0])(hr:Z.box r=U rd.enc)(kU:o≠r)
 (ht:Z.aS D=U rows.length) (hb:rows.length+1<=aJ) (hlen:rd.l.length<=aJ) :
 eT 257 [.ptr (.out o) 0,.ptr (.out p) 0] Z (.bw []) (((Z.set r rd.word.2.enc).set o [.sl (.tk D) 2 (rows++[rd.word.1.enc])]).aU D (rows.length+1)):=by
 refine fq func257 ?_;simp only[aP,aT,am,ho,hp];refine bn.intro (BZ hr hlen) ?_;simp only[am,aC.enc];refine qz (by simpa using hb) ht ?_;have h1:(Z.set r rd.word.2.enc).box o=U [.sl (.tk D) 2 rows]:=by rw[ab.fQ _ _ kU];exact ho
 simp only[am,h1];exact aN rfl (ab.a8 _) ⟨rfl,rfl⟩
def h_(Z:ab)(q o D k:Nat)(rd:af)(rows:List (List V)):ab:=((Z.set q rd.enc).set o [.sl (.tk D) k rows]).aU D rows.length
def Ih(Z:ab)(q o D:Nat):Sys (af × List aC):=⟨λa=>h_ Z q o D 2 a.1 (a.2.map aC.enc),λa=>a.1,λa r=>(r,a.2),iU⟩
def Jv{β:Type}(F:af × List β->ab)(step:af × List β->af × List β):∀(n:Nat) (a:af × List β),Sys.go ⟨F,λa=>a.1,λa r=>(r,a.2),step⟩ n a=j9 step n a
 | 0,_=>rfl
 | n+1,a=>by simp only[Sys.go,j9,Jv F step n]
variable{q:Nat}
def En{rows:List (List V)}(h:q≠o):(h_ Z q o D k rd rows).box q=U rd.enc:=by simp[h_,ab.aU,ab.set,h]
def Jt{rows:List (List V)}:(h_ Z q o D k rd rows).box o=U [.sl (.tk D) k rows]:=by simp[h_,ab.aU,ab.set]
def xV{rows:List (List V)}(h:p≠q)(h' : p≠o):(h_ Z q o D k rd rows).box p=Z.box p:=by simp[h_,ab.aU,ab.set,h,h']
variable{cs:List V}
def Ju{rows:List (List V)}(h:p≠q)(h' : p≠o):(h_ Z q o D k rd rows).set p cs=h_ (Z.set p cs) q o D k rd rows:=by
 have:((Z.set q rd.enc).set o [.sl (.tk D) k rows]).set p cs=((Z.set p cs).set q rd.enc).set o [.sl (.tk D) k rows]:=by rw[ab.set_comm (gM h'),ab.set_comm (b:=q) (gM h)]
 show(((Z.set q rd.enc).set o [.sl (.tk D) k rows]).set p cs).aU D rows.length=_;rw[this];rfl
theorem jF(h:Z.box p=ah):Z.sub (Z.set p cs):=by
 refine⟨λb ds hb=>?_,λ_ _ h=>h,λ_ _ h=>h⟩
 have:b≠p:=by grind
 rw[ab.fQ _ _ this];exact hb
def Wf{rows:List (List V)}:(h_ Z q o D k rd rows).aS D=U rows.length:=by simp[h_,ab.aU]
variable{l7:af}
def NC{rows:List (List V)}(h:q≠o):(h_ Z q o D k rd rows).set q l7.enc=h_ Z q o D k l7 rows:=by
 have:((Z.set q rd.enc).set o [.sl (.tk D) k rows]).set q l7.enc=(Z.set q l7.enc).set o [.sl (.tk D) k rows]:=by rw[ab.set_comm (gM h),ab.set_set]
 show(((Z.set q rd.enc).set o [.sl (.tk D) k rows]).set q l7.enc).aU D rows.length=_;rw[this];rfl
def We{rows:List (List V)}{c:List V}(h:q≠o):(((h_ Z q o D k rd rows).set q l7.enc).set o [.sl (.tk D) k (rows++[c])]).aU D (rows.length+1)=h_ Z q o D k l7 (rows++[c]):=by
 rw[NC h];unfold h_;rw[bL,da,cZ];show((((Z.set q l7.enc).set o [.sl (.tk D) k rows]).set o [.sl (.tk D) k (rows++[c])]).aU D rows.length).aU D (rows.length+1)=_;rw[ab.set_set,dU]
variable{β:Type}
def rZ(l:List aA)(a:af × List β):Prop:=a.1.l=l/\0<=a.1.at_/\a.1.at_<=l.length/\(a.1.aO=ah->(a.2.length:Int)<=a.1.at_)
variable{l:List aA}
theorem ZF{a:af × List aC}(h:rZ l a)(hb:a.1.aO=ah):rZ l (iU a)/\a.1.at_<=(iU a).1.at_:=by
 obtain⟨h1,h2,h3,h4⟩:=h;have h4:=h4 hb
 rcases a.1.xi 97 with ⟨_,k1,k2,k3,k4⟩ | ⟨_,k1,k2⟩
 .refine⟨⟨?_,?_,?_,λ_=>?_⟩,?_⟩<;>simp only[iU,af.word,af.gW,k1,bL,da,cZ]
  .exact h1
  .omega
  .grind
  .omega
  .omega
 .refine⟨⟨?_,?_,?_,λhq=>absurd hq k2⟩,?_⟩<;>simp only[iU,af.word,af.gW,k1]
  .exact h1
  .exact h2
  .exact h3
  .omega
theorem QX{a:af × List β}(h:rZ l a)(hs:a.1.cH 44=aa):rZ l ((a.1.take 44).2,a.2)/\(a.1.take 44).2.aO=ah/\(a.1.take 44).2.at_=a.1.at_+1:=by
 obtain⟨h1,h2,h3,h4⟩:=h
 rcases a.1.xi 44 with ⟨_,k1,k2,k3,k4⟩ | ⟨k0,_⟩
 .have hb:a.1.aO=none:=by
   simp only[af.cH,af.ok,bO,F6] at hs
   grind
  have:=h4 hb
  rw[h1] at k4;exact⟨⟨by simp only[af.gW];exact h1,by simp only[k1];omega,by simp only[k1];omega,λ_=>by simp only[k1];omega⟩,k2,k1⟩
 .grind
def awS(fx:q≠o)(dz:rd.at_=0)(cg:rd.aO=ah)(hlen:rd.l.length+1<=aJ):
 eT 255 [.ptr (.out q) 0,.ptr (.out o) 0] (h_ Z q o D 2 rd []) (.bw []) (h_ Z q o D 2 (fy iU rd).1 ((fy iU rd).2.map aC.enc)):=by
 refine fq func255 ?_ ⟨[2],[]⟩;simp only[aP,aT,am];refine lT λp hp=>?_
 have ml:p≠q:=by rintro rfl;rw[En fx] at hp;simp at hp
 have nP:p≠o:=by rintro rfl;rw[Jt] at hp;simp at hp
 rw[Ju ml nP];simp only[am,xV ml nP];have vK:∀a:af × List aC,rZ rd.l a->a.1.aO=ah->cy prog 257 [.ptr (.out o) 0,.ptr (.out p) 0] (h_ (Z.set p [.ptr (.out q) 0]) q o D 2 a.1 (a.2.map aC.enc)) λv σ' =>
  v = .bw []/\σ' = h_ (Z.set p [.ptr (.out q) 0]) q o D 2 (iU a).1 ((iU a).2.map aC.enc):=λa mE hb=>by
  have hl:=mE.2.2.2 hb;have iW:=mE.2.2.1;refine(awR Jt (by rw[xV ml nP,ab.fE]) (En fx) (gM fx) Wf (by rw[aF];omega) (by rw[mE.1];omega)).mono ?_;rintro v σ' ⟨rfl,rfl⟩;refine⟨rfl,?_⟩;rw[We fx];simp[iU]
 have h0:rZ rd.l (rd,([]:List aC)):=⟨rfl,by simp[dz],by simp[dz],λ_=>by simp[dz]⟩;obtain⟨p1,_⟩:=ZF h0 cg;refine(R6 (Ih (Z.set p [.ptr (.out q) 0]) q o D) (rZ rd.l) (a:=(rd,[])) (n:=rd.l.length) (by simp[am]) (λa h=>En fx) (λa h=>?_) (λa h hs=>NC fx) (λa h hs=>?_) (vK _ h0 cg) p1 ?_).mono ?_
 .show a.1.l.length<=aJ;rw[h.1];omega
 .obtain⟨k1,k2,k3⟩:=QX h hs;obtain⟨k4,k5⟩:=ZF k1 k2;refine⟨vK _ k1 k2,k4,?_,?_⟩
  .exact k4.1.trans h.1.symm
  .show a.1.at_+1<=_;simp only at k5;rw[k3] at k5;exact k5
 .show(iU (rd,[])).1.l.length<=rd.l.length;rw[p1.1];omega
 rintro v σ' ⟨rfl,rfl⟩;simp only[am];refine aN rfl (σ' := h_ Z q o D 2 (fy iU rd).1 ((fy iU rd).2.map aC.enc)) ?_ ⟨rfl,rfl⟩;have e:(Ih (Z.set p [.ptr (.out q) 0]) q o D).F ((Ih (Z.set p [.ptr (.out q) 0]) q o D).go rd.l.length ((Ih (Z.set p [.ptr (.out q) 0]) q o D).step (rd,[])))=h_ (Z.set p [.ptr (.out q) 0]) q o D 2 (fy iU rd).1 ((fy iU rd).2.map aC.enc):=by
  unfold Ih;rw[Jv];rfl
 rw[e,<-Ju ml nP];exact jF (by rw[xV ml nP];rw[xV ml nP] at hp;exact hp)
def NG{β:Type}{l:List aA}{step:af × List β->af × List β}(hs:∀a,a.1.l=l->(step a).1.l=l):∀(n:Nat) (a:af × List β),a.1.l=l->(j9 step n a).1.l=l
 | 0,_,h=>h
 | n + 1, a, h => by
  simp only[j9];split
  .exact NG hs n _ (hs _ (by rw[af.gW];exact h))
  .exact h
def XR{step:af × List β->af × List β}(hs:∀l a,a.1.l=l->(step a).1.l=l)(empty:Bool)(t:aA):(af.inside step empty t).1.l=t.ae:=by
 unfold af.inside;split
 .rfl
 .exact NG (hs _) _ _ (hs _ _ rfl)
def awp(l:List aA)(a:af × List aC)(h:a.1.l=l):(iU a).1.l=l:=by simp[iU,af.word,af.gW,h]
theorem SJ(h:Z.box r=U rd.enc)(hlen:rd.l.length<=aJ)(mD:(rd.take 123).1.ae.length+1<=aJ):
 eT 213 [.ptr (.out r) 0,.bool empty] Z (.bw [.sl .no 2 ((rd.words empty).1.1.map aC.enc),.int .i64 (rd.words empty).1.2]) (Z.set r (rd.words empty).2.enc):=by
 refine fq func213 ?_ ⟨[6],[2]⟩;simp only[aP,aT,am];refine lT λo ho=>?_
 have kU:o≠r:=by grind
 simp only[am];refine a7.tok 0 λD aW=>⟨_,_,_,fG.rfl,rfl,λi c hc=>⟨c,hc,fG.rfl⟩,rY.set (cs:=[.sl .aY 2 []]) (cs' := [.sl (.tk D) 2 []]) (ab.fE _ _ _) ⟨km.tok rfl,trivial⟩,?_⟩
 simp only[am];have h1:((Z.set o [.sl (.tk D) 2 []]).aU D 0).box r=U rd.enc:=by
  show(Z.set o _).box r=_;rw[ab.fQ _ _ (gM kU)];exact h
 have bf:∀q,((Z.set o [V.sl (.tk D) 2 []]).aU D 0).box q=ah->q≠o/\q≠r/\Z.box q=none:=λq hq=>by
  have fx:q≠o:=by rintro rfl;rw[show((Z.set q [V.sl (.tk D) 2 []]).aU D 0).box q=_ from ab.fE _ _ _] at hq;simp at hq
  have Bk : Z.box q=none:=by rw[<-ab.fQ Z [V.sl (.tk D) 2 []] fx];exact hq
  grind
 generalize eM:af.inside iU empty (rd.take 123).1=ins;have GQ:ins.1.l=(rd.take 123).1.ae:=by rw[<-eM];exact XR awp _ _
 refine(SE (kind:=123) (by simp[am]) h1 hlen (by omega) ins.1 ((Z.set o [.sl (.tk D) 2 (ins.2.map aC.enc)]).aU D (ins.2.map aC.enc).length) ?_ ?_ ?_ GQ).mono ?_
 .intro cw hc q hq;obtain⟨fx,mm,_⟩:=bf q hq;have e1:(((Z.set o [V.sl (.tk D) 2 []]).aU D 0).set r (rd.take 123).2.enc).set q (rd.take 123).1.inner.enc=h_ (Z.set r (rd.take 123).2.enc) q o D 2 (rd.take 123).1.inner []:=by
   unfold h_;rw[ab.set_comm (b:=q) fx,ab.set_comm (b:=r) (gM kU)];rfl
  have e2:(((Z.set o [V.sl (.tk D) 2 (ins.2.map aC.enc)]).aU D (ins.2.map aC.enc).length).set r (rd.take 123).2.enc).set q ins.1.enc=h_ (Z.set r (rd.take 123).2.enc) q o D 2 ins.1 (ins.2.map aC.enc):=by
   unfold h_;rw[ab.set_comm (b:=q) fx,ab.set_comm (b:=r) (gM kU)];rfl
  have e3:ins=fy iU (rd.take 123).1.inner:=by
   rw[<-eM,af.inside,aB]
   grind
  rw[e1,e2,e3];exact awS fx rfl rfl mD
 .intro q1 q2
  have:ins=((rd.take 123).1.inner,[]):=by rw[<-eM,af.inside,aL ⟨q1,q2⟩]
  grind
 .intro q hq;obtain⟨fx,_,Bk⟩:=bf q hq;show(Z.set o _).box q=ah;rw[ab.fQ _ _ fx];exact Bk
 rintro v σ' hv;have Bb:∀(A B:List V) (n:Nat),(Z.set r A).sub (((Z.set o B).aU D n).set r A):=λA B n=>by
  refine⟨λb cs hb=>?_,λO m hm=>?_,λ_ _ h=>h⟩
  .have GI:b≠o:=by rintro rfl;rw[ab.fQ _ _ kU,ho] at hb;simp at hb
   by_cases xY:b=r
   .subst xY;rw[ab.fE] at hb ⊢;exact hb
   .rw[ab.fQ _ _ xY] at hb ⊢;show(Z.set o B).box b=_;rw[ab.fQ _ _ GI];exact hb
  .have uu : Z.aS O=U m:=hm;have CQ : O≠D:=by rintro rfl;rw[show(Z.set o [V.sl .aY 2 []]).aS O=Z.aS O from rfl] at aW;rw[aW] at uu;simp at uu
   show((Z.set o B).aU D n).aS O=U m;rw[n_ CQ];exact uu
 split at hv
 .rename_i cw;obtain⟨rfl,rfl⟩:=hv;have hb:(((Z.set o [V.sl (.tk D) 2 (ins.2.map aC.enc)]).aU D (ins.2.map aC.enc).length).set r ((rd.take 123).2.under ins.1).enc).box o=U [V.sl (.tk D) 2 (ins.2.map aC.enc)]:=by rw[ab.fQ _ _ kU];exact ab.fE _ _ _
  simp only[am,hb];refine aN rfl (Bb _ _ _) ⟨?_,?_⟩
  .simp[af.words,af.bracket,cw,eM,V.erase,a9]
  .simp[af.words,af.bracket,cw,eM]
 .rename_i cw;obtain⟨rfl,rfl⟩:=hv;have hb:(((Z.set o [V.sl (.tk D) 2 []]).aU D 0).set r (rd.take 123).2.enc).box o=U [V.sl (.tk D) 2 []]:=by rw[ab.fQ _ _ kU];exact ab.fE _ _ _
  simp only[am,hb];refine aN rfl (Bb _ _ _) ⟨?_,?_⟩
  .simp[af.words,af.bracket,cw,V.erase,a9]
  .simp[af.words,af.bracket,cw]
def Nd.wd{n:Nd}:(V.agg n.enc).wd=U 5:=by rw[Nd.dk];rfl
def Nd.one{n:Nd}:c8 n.enc=true:=by rw[Nd.dk];rfl
def Nd.cS{n:Nd}:bK n.enc=true:=by rw[Nd.dk];rfl
def Nd.er{n:Nd}:a9 n.enc=n.enc:=by rw[Nd.dk];rfl
def ang{f:Nat}{rows:List (List V)}{n:Nd}(ho:Z.box o=U [.sl (.tk D) 5 rows])(hf:Z.box f=U [.fn (.func g) [] []])(hp:Z.box p=U [.ptr (.out q) 0])
 (OR:o≠q) (ht:Z.aS D=U rows.length) (hb:rows.length+1<=aJ) (iq:eT g [.ptr (.out q) 0] Z (.agg n.enc) (Z.set q l7.enc)) :
 eT 289 [.ptr (.out o) 0,.ptr (.out f) 0,.ptr (.out p) 0] Z (.bw []) (((Z.set q l7.enc).set o [.sl (.tk D) 5 (rows++[n.enc])]).aU D (rows.length+1)):=by
 refine fq func289 ?_;simp only[aP,aT,am,ho,hp,hf];refine bn.intro iq ?_;have h1:(Z.set q l7.enc).box o=U [.sl (.tk D) 5 rows]:=by rw[ab.fQ _ _ OR];exact ho
 simp only[am,h1];refine Xj (D:=D) (m:=rows) (cs:=n.enc) (p:=.ptr (.out o) 0) rfl rfl rfl hb ht ⟨Nd.wd,Nd.one,Nd.cS⟩ Nd.er (by simp) rfl (by simp only[am,h1];rfl) ?_;simp only[am];exact aN rfl (ab.a8 _) ⟨rfl,rfl⟩
def KW{one:af->β × af}(ho:Reads one){a:af × List β}(h:rZ l a)(hb:a.1.aO=ah):rZ l (cV one a)/\a.1.at_<=(cV one a).1.at_:=by
 obtain⟨h1,h2,h3,h4⟩:=h;have h4:=h4 hb;obtain⟨k1,k2,k3⟩:=ho.go a.1 h2 (by rw[h1];exact h3);refine⟨⟨by simp only[cV,ho.l];exact h1,by simp only[cV];omega,by simp only[cV];rw[h1] at k2;exact k2,λhq=>?_⟩,k1⟩
 have:=k3 hq
 simp only[cV,bL,da,cZ];omega
def He(one:af->Nd × af)(Z:ab)(q o D:Nat):Sys (af × List Nd):=⟨λa=>h_ Z q o D 5 a.1 (a.2.map Nd.enc),λa=>a.1,λa r=>(r,a.2),cV one⟩
def anh{f:Nat}{one:af->Nd × af}(hr:Reads one)(fx:q≠o)(hfq:f≠q)(zr:f≠o)(hf:Z.box f=U [.fn (.func g) [] []])(dz:rd.at_=0)(cg:rd.aO=ah)(hlen:rd.l.length+1<=aJ)
 (iq:∀(r:af) (Z:ab),r.l=rd.l->0<=r.at_->r.at_<=rd.l.length->Z.box q=U r.enc->eT g [.ptr (.out q) 0] Z (.agg (one r).1.enc) (Z.set q (one r).2.enc)) :
 eT 288 [.ptr (.out q) 0,.ptr (.out o) 0,.ptr (.out f) 0] (h_ Z q o D 5 rd []) (.bw []) (h_ Z q o D 5 (fy (cV one) rd).1 ((fy (cV one) rd).2.map Nd.enc)):=by
 refine fq func288 ?_ ⟨[3],[]⟩;simp only[aP,aT,am];refine lT λp hp=>?_
 have ml:p≠q:=by rintro rfl;rw[En fx] at hp;simp at hp
 have nP:p≠o:=by rintro rfl;rw[Jt] at hp;simp at hp
 have Xm:f≠p:=by rintro rfl;rw[xV ml nP,hf] at hp;simp at hp
 rw[Ju ml nP];simp only[am,xV ml nP];have vK:∀a:af × List Nd,rZ rd.l a->a.1.aO=ah->cy prog 289 [.ptr (.out o) 0,.ptr (.out f) 0,.ptr (.out p) 0] (h_ (Z.set p [.ptr (.out q) 0]) q o D 5 a.1 (a.2.map Nd.enc)) λv σ' =>
  v = .bw []/\σ' = h_ (Z.set p [.ptr (.out q) 0]) q o D 5 (cV one a).1 ((cV one a).2.map Nd.enc):=λa mE hb=>by
  have hl:=mE.2.2.2 hb;have iW:=mE.2.2.1;refine(ang Jt (by rw[xV hfq zr,ab.fQ _ _ Xm];exact hf) (by rw[xV ml nP,ab.fE]) (gM fx) Wf (by rw[aF];omega) (iq a.1 _ mE.1 mE.2.1 iW (En fx))).mono ?_;rintro v σ' ⟨rfl,rfl⟩;refine⟨rfl,?_⟩;rw[We fx];simp[cV]
 have h0:rZ rd.l (rd,([]:List Nd)):=⟨rfl,by simp[dz],by simp[dz],λ_=>by simp[dz]⟩;obtain⟨p1,_⟩:=KW hr h0 cg;refine(R6 (He one (Z.set p [.ptr (.out q) 0]) q o D) (rZ rd.l) (a:=(rd,[])) (n:=rd.l.length) (by simp[am]) (λa h=>En fx) (λa h=>?_) (λa h hs=>NC fx) (λa h hs=>?_) (vK _ h0 cg) p1 ?_).mono ?_
 .show a.1.l.length<=aJ;rw[h.1];omega
 .obtain⟨k1,k2,k3⟩:=QX h hs;obtain⟨k4,k5⟩:=KW hr k1 k2;refine⟨vK _ k1 k2,k4,?_,?_⟩
  .exact k4.1.trans h.1.symm
  .show a.1.at_+1<=_;simp only at k5;rw[k3] at k5;exact k5
 .show(cV one (rd,[])).1.l.length<=rd.l.length;rw[p1.1];omega
 rintro v σ' ⟨rfl,rfl⟩;simp only[am];refine aN rfl (σ' := h_ Z q o D 5 (fy (cV one) rd).1 ((fy (cV one) rd).2.map Nd.enc)) ?_ ⟨rfl,rfl⟩;have e:(He one (Z.set p [.ptr (.out q) 0]) q o D).F ((He one (Z.set p [.ptr (.out q) 0]) q o D).go rd.l.length ((He one (Z.set p [.ptr (.out q) 0]) q o D).step (rd,[])))=h_ (Z.set p [.ptr (.out q) 0]) q o D 5 (fy (cV one) rd).1 ((fy (cV one) rd).2.map Nd.enc):=by
  unfold He;rw[Jv];rfl
 rw[e,<-Ju ml nP];exact jF (by rw[xV ml nP];rw[xV ml nP] at hp;exact hp)
def ab.avr{a b c:ab}(h:a.sub b)(k:b.sub c):a.sub c:=⟨λx cs hx=>k.1 x cs (h.1 x cs hx),λx n hx=>k.2.1 x n (h.2.1 x n hx),λx n hx=>k.2.2 x n (h.2.2 x n hx)⟩
def avp{a b:ab}{A:List V}(h:a.sub b):(a.set r A).sub (b.set r A):=by
 refine⟨λx cs hx=>?_,h.2⟩
 by_cases hr:x=r
 .subst hr;rw[ab.fE] at hx ⊢;exact hx
 .rw[ab.fQ _ _ hr] at hx ⊢;exact h.1 x cs hx
def QJ{one:af->β × af}(h:Reads one)(l:List aA)(a:af × List β)(ha:a.1.l=l):(cV one a).1.l=l:=by simp[cV,h.l,ha]
theorem Kr{kind:Int}{one:af->Nd × af}(iq:Reads one)(h:Z.box r=U rd.enc)(hlen:rd.l.length<=aJ)(mD:(rd.take kind).1.ae.length+1<=aJ)
 (alw:∀(q:Nat) (i:af) (Z:ab),i.l=(rd.take kind).1.ae->0<=i.at_->i.at_<=i.l.length->Z.box q=U i.enc->eT g [.ptr (.out q) 0] Z (.agg (one i).1.enc) (Z.set q (one i).2.enc)) :
 eT 261 [.ptr (.out r) 0,.int .u8 kind,.bool empty,.fn (.func g) [] []] Z (.bw [.sl .no 5 ((rd.nodes one kind empty).1.1.map Nd.enc),.int .i64 (rd.nodes one kind empty).1.2]) (Z.set r (rd.nodes one kind empty).2.enc):=by
 refine fq func261 ?_ ⟨[7,10],[2]⟩;simp only[aP,aT,am];refine lT λf hf=>?_
 have bC:f≠r:=by grind
 simp only[am];refine lT λo ho=>?_
 have zr:f≠o:=by rintro rfl;rw[ab.fE] at ho;simp at ho
 have kU:o≠r:=by rintro rfl;rw[ab.fQ _ _ (gM bC),h] at ho;simp at ho
 generalize yd:Z.set f [.fn (.func g) [] []]=lF at ho ⊢;have hff:lF.box f=U [.fn (.func g) [] []]:=by rw[<-yd];exact ab.fE _ _ _
 have alO:Z.sub lF:=by rw[<-yd];exact jF hf
 have h:lF.box r=U rd.enc:=by rw[<-yd,ab.fQ _ _ (gM bC)];exact h
 simp only[am];refine a7.tok 0 λD aW=>⟨_,_,_,fG.rfl,rfl,λi c hc=>⟨c,hc,fG.rfl⟩,rY.set (cs:=[.sl .aY 5 []]) (cs' := [.sl (.tk D) 5 []]) (ab.fE _ _ _) ⟨km.tok rfl,trivial⟩,?_⟩
 simp only[am];have h1:((lF.set o [.sl (.tk D) 5 []]).aU D 0).box r=U rd.enc:=by
  show(lF.set o _).box r=_;rw[ab.fQ _ _ (gM kU)];exact h
 have bf:∀q,((lF.set o [V.sl (.tk D) 5 []]).aU D 0).box q=ah->q≠o/\q≠r/\lF.box q=none:=λq hq=>by
  have fx:q≠o:=by rintro rfl;rw[show((lF.set q [V.sl (.tk D) 5 []]).aU D 0).box q=_ from ab.fE _ _ _] at hq;simp at hq
  have Bk : lF.box q=none:=by rw[<-ab.fQ lF [V.sl (.tk D) 5 []] fx];exact hq
  grind
 generalize eM:af.inside (cV one) empty (rd.take kind).1=ins;have GQ:ins.1.l=(rd.take kind).1.ae:=by rw[<-eM];exact XR (QJ iq) _ _
 refine(SE (kind:=kind) (by simp[am]) h1 hlen (by omega) ins.1 ((lF.set o [.sl (.tk D) 5 (ins.2.map Nd.enc)]).aU D (ins.2.map Nd.enc).length) ?_ ?_ ?_ GQ).mono ?_
 .intro cw hc q hq;obtain⟨fx,mm,_⟩:=bf q hq;have e1:(((lF.set o [V.sl (.tk D) 5 []]).aU D 0).set r (rd.take kind).2.enc).set q (rd.take kind).1.inner.enc=h_ (lF.set r (rd.take kind).2.enc) q o D 5 (rd.take kind).1.inner []:=by
   unfold h_;rw[ab.set_comm (b:=q) fx,ab.set_comm (b:=r) (gM kU)];rfl
  have e2:(((lF.set o [V.sl (.tk D) 5 (ins.2.map Nd.enc)]).aU D (ins.2.map Nd.enc).length).set r (rd.take kind).2.enc).set q ins.1.enc=h_ (lF.set r (rd.take kind).2.enc) q o D 5 ins.1 (ins.2.map Nd.enc):=by
   unfold h_;rw[ab.set_comm (b:=q) fx,ab.set_comm (b:=r) (gM kU)];rfl
  have e3:ins=fy (cV one) (rd.take kind).1.inner:=by
   rw[<-eM,af.inside,aB]
   grind
  rw[e1,e2,e3];refine anh iq fx ?_ zr (by rw[ab.fQ _ _ bC];exact hff) rfl rfl mD (λi σ' h1 h2 h3 h4=>alw q i σ' h1 h2 (by rw[h1];exact h3) h4)
  grind
 .intro q1 q2
  have:ins=((rd.take kind).1.inner,[]):=by rw[<-eM,af.inside,aL ⟨q1,q2⟩]
  grind
 .intro q hq;obtain⟨fx,_,Bk⟩:=bf q hq;show(lF.set o _).box q=ah;rw[ab.fQ _ _ fx];exact Bk
 rintro v σ' hv;have Bb:∀(A B:List V) (n:Nat),(Z.set r A).sub (((lF.set o B).aU D n).set r A):=λA B n=>by
  refine ab.avr (avp alO) ?_;refine⟨λb cs hb=>?_,λO m hm=>?_,λ_ _ h=>h⟩
  .have GI:b≠o:=by rintro rfl;rw[ab.fQ _ _ kU,ho] at hb;simp at hb
   by_cases xY:b=r
   .subst xY;rw[ab.fE] at hb ⊢;exact hb
   .rw[ab.fQ _ _ xY] at hb ⊢;show(lF.set o B).box b=_;rw[ab.fQ _ _ GI];exact hb
  .have uu : lF.aS O=U m:=hm;have CQ : O≠D:=by rintro rfl;rw[show(lF.set o [V.sl .aY 5 []]).aS O=lF.aS O from rfl] at aW;rw[aW] at uu;simp at uu
   show((lF.set o B).aU D n).aS O=U m;rw[n_ CQ];exact uu
 split at hv
 .rename_i cw;obtain⟨rfl,rfl⟩:=hv;have hb:(((lF.set o [V.sl (.tk D) 5 (ins.2.map Nd.enc)]).aU D (ins.2.map Nd.enc).length).set r ((rd.take kind).2.under ins.1).enc).box o=U [V.sl (.tk D) 5 (ins.2.map Nd.enc)]:=by rw[ab.fQ _ _ kU];exact ab.fE _ _ _
  simp only[am,hb];refine aN rfl (Bb _ _ _) ⟨?_,?_⟩
  .simp[af.nodes,af.bracket,cw,eM,V.erase,a9]
  .simp[af.nodes,af.bracket,cw,eM]
 .rename_i cw;obtain⟨rfl,rfl⟩:=hv;have hb:(((lF.set o [V.sl (.tk D) 5 []]).aU D 0).set r (rd.take kind).2.enc).box o=U [V.sl (.tk D) 5 []]:=by rw[ab.fQ _ _ kU];exact ab.fE _ _ _
  simp only[am,hb];refine aN rfl (Bb _ _ _) ⟨?_,?_⟩
  .simp[af.nodes,af.bracket,cw,V.erase,a9]
  .simp[af.nodes,af.bracket,cw]
def atK(h:Z.box r=U rd.enc)(hlen:rd.l.length<=aJ)(hk:∀(x:af) (k:Int),x.l=rd.l->(x.take k).1.ae.length+1<=aJ):
 eT 304 [.ptr (.out r) 0] Z (.agg rd.rP.1.enc) (Z.set r rd.rP.2.enc):=by
 refine fq func304 ?_;simp only[aP,aT,am];refine(BZ h hlen).mono ?_;rintro v σ' ⟨rfl,rfl⟩;simp only[am,aC.enc];refine(Af (ab.fE _ _ _) (by simp[af.word,af.gW,hlen])).mono ?_;rintro v σ' ⟨rfl,rfl⟩;simp only[am];refine(SJ (ab.fE _ _ _) (by simp[af.word,af.gW,hlen]) (hk _ _ (by simp[af.word,af.gW]))).mono ?_;rintro v σ' ⟨rfl,rfl⟩;simp only[am,Nat.reduceAdd];refine aN rfl (ab.a8 _) ⟨?_,rfl⟩;rfl
def H0{r:af}{k:Int}(h:bj r.l=0):r.cH k=false:=by
 have:r.l=[]:=xx (by have:=iv r.l;omega)
 simp[af.cH,bd,this]
theorem C9{x:af}{k:Int}(hm:bj l+1<=aJ)(h:x.l=l):(x.take k).1.ae.length+1<=aJ:=by
 have h1:=(x.yA k).1;have h2:=iv (x.take k).1.ae
 grind
def agB:∀(n:Nat) {r:Nat} {rd:af} {Z:ab} (_:Z.box r=U rd.enc) (_:bj rd.l<=n) (_:bj rd.l+1<=aJ),
 eT 290 [.ptr (.out r) 0] Z (.agg (af.constant n rd).1.enc) (Z.set r (af.constant n rd).2.enc):=by
 intro n;induction n with
 | zero =>
  intro r rd Z h hn hm;have hlen:=iv rd.l;refine fq func290 ?_;simp only[aP,aT,am];refine(tM h).mono ?_;rintro v σ' ⟨rfl,rfl⟩;simp only[am,H0 (Iy.1 hn)];refine(tM h).mono ?_;rintro v σ' ⟨rfl,rfl⟩;simp only[am,H0 (Iy.1 hn)];refine(tM h).mono ?_;rintro v σ' ⟨rfl,rfl⟩;simp only[am,H0 (Iy.1 hn)];refine(BZ h (by omega)).mono ?_;rintro v σ' ⟨rfl,rfl⟩;simp only[am,aC.enc,Nat.reduceAdd];refine aN rfl (ab.a8 _) ⟨?_,rfl⟩;simp[af.constant,af.leaf,V.erase,a9,Nd.enc,wV]
 | succ n ih =>
  intro r rd Z h hn hm;have hlen:=iv rd.l;refine fq func290 ?_;simp only[aP,aT,am];refine(tM h).mono ?_;rintro v σ' ⟨rfl,rfl⟩;cases h1:rd.cH 123
  case' true =>
   simp only[am,Nat.reduceAdd];refine(SJ h (by omega) (C9 hm rfl)).mono ?_;rintro v σ' ⟨rfl,rfl⟩;simp only[am,Nat.reduceAdd];refine aN rfl (ab.a8 _) ⟨?_,by simp[af.constant,h1]⟩;simp[af.constant,h1,V.erase,a9,Nd.enc,wV]
  case' false =>
   simp only[am];refine(tM h).mono ?_;rintro v σ' ⟨rfl,rfl⟩;cases h2:rd.cH 40
  case' false.true =>
   have hk:bj (rd.take 40).1.ae+1<=bj rd.l:=(rd.yA 40).2 (by
    rcases rd.xi 40 with ⟨_,_,e,_,_⟩ | ⟨e,_,_⟩
    .exact e
    .rw[h2] at e;simp at e)
   simp only[am,Nat.reduceAdd];refine(Kr (Fo (Wt n)) h (by omega) (C9 hm rfl) (λq i σ' e1 _ _ e4=>ih e4 (by rw[e1];omega) (by rw[e1];omega))).mono ?_;rintro v σ' ⟨rfl,rfl⟩;simp only[am,Nat.reduceAdd];refine aN rfl (ab.a8 _) ⟨?_,by simp[af.constant,h1,h2]⟩;simp[af.constant,h1,h2,V.erase,a9,Nd.enc,Dm]
  case' false.false =>
   simp only[am];refine(tM h).mono ?_;rintro v σ' ⟨rfl,rfl⟩;cases h3:rd.cH 91
  case' false.false.true =>
   simp only[am,Nat.reduceAdd];refine(Kr (Fo ak8) h (by omega) (C9 hm rfl) (λq i σ' e1 _ _ e4=>atK e4 (by have g1:=iv i.l;have g2:=(rd.yA 91).1;rw[<-e1] at g2;omega) (λx k ex=>C9 (by have g2:=(rd.yA 91).1;rw[<-e1] at g2;omega) ex))).mono ?_;rintro v σ' ⟨rfl,rfl⟩;simp only[am,Nat.reduceAdd];refine aN rfl (ab.a8 _) ⟨?_,by simp[af.constant,h1,h2,h3]⟩;simp[af.constant,h1,h2,h3,V.erase,a9,Nd.enc,Dm]
  case' false.false.false =>
   simp only[am];refine(BZ h (by omega)).mono ?_;rintro v σ' ⟨rfl,rfl⟩;simp only[am,aC.enc,Nat.reduceAdd];refine aN rfl (ab.a8 _) ⟨?_,by simp[af.constant,af.leaf,h1,h2,h3]⟩;simp[af.constant,af.leaf,h1,h2,h3,V.erase,a9,Nd.enc,wV]
def Nd.len{n:Nd}:n.enc.length=5:=by rw[Nd.dk];rfl
def Ub{n:Nat}(h:Z.box r=U rd.enc)(hn:bj rd.l<=n)(hm:bj rd.l+1<=aJ):
 eT 262 [.ptr (.out r) 0] Z (.agg (rd.atom n).1.enc) (Z.set r (rd.atom n).2.enc):=by
 have hlen:=iv rd.l;refine fq func262 ?_;simp only[aP,aT,am];refine(tM h).mono ?_;rintro v σ' ⟨rfl,rfl⟩;cases h1:rd.cH 35
 case' true =>
  simp only[am];refine(Af h (by omega)).mono ?_;rintro v σ' ⟨rfl,rfl⟩;simp only[am,dk,Nat.reduceAdd];refine bn.intro (agB n (ab.fE _ _ _) (by rw[af.gW];exact hn) (by rw[af.gW];exact hm)) ?_;simp only[am,Nd.len,Nd.one,Nd.cS,Nd.er,Nat.reduceAdd];refine aN rfl (ab.a8 _) ⟨?_,by simp[af.atom,h1]⟩;simp[af.atom,h1,V.erase,a9,Nd.enc,wV]
 case' false =>
  simp only[am];refine(BZ h (by omega)).mono ?_;rintro v σ' ⟨rfl,rfl⟩;simp only[am,aC.enc,Nat.reduceAdd];refine aN rfl (ab.a8 _) ⟨?_,by simp[af.atom,af.leaf,h1]⟩;simp[af.atom,af.leaf,h1,V.erase,a9,Nd.enc,wV]
def ajf{n:Nat}(h:Z.box r=U rd.enc)(hn:bj rd.l<=n)(hm:bj rd.l+1<=aJ):
 eT 265 [.ptr (.out r) 0] Z (.agg (rd.field n).1.enc) (Z.set r (rd.field n).2.enc):=by
 have hlen:=iv rd.l;refine fq func265 ?_;simp only[aP,aT,am];refine(BZ h (by omega)).mono ?_;rintro v σ' ⟨rfl,rfl⟩;simp only[am,aC.enc,Nat.reduceAdd];have e1:rd.word.2.l=rd.l:=by simp[af.word,af.gW]
 refine(Af (ab.fE _ _ _) (by rw[e1];omega)).mono ?_;rintro v σ' ⟨rfl,rfl⟩;simp only[am];refine bn.intro (Ub (n:=n) (ab.fE _ _ _) (by rw[af.gW,e1];exact hn) (by rw[af.gW,e1];exact hm)) ?_;simp only[am,Nd.len,Nd.one,Nd.cS,Nd.er,Nat.reduceAdd];refine aN rfl (ab.a8 _) ⟨?_,by simp[af.field]⟩;rfl
def Kk(r:Nat)(rd:af)(Z:ab)(i:{i:Nat // i<=2/\(1<=i->rd.cH 43=aq)/\(2<=i->rd.cH 38=aq)}):St :=
 ⟨[.ptr (.out r) 0,.any,.ptr (.au 0) 0,.any,.any,.any,.any,.any,.any,.sl .aY 1 [[.int .u8 43],[.int .u8 38]],.int .i64 2,.int .i64 (i.1:Nat)]++aj 26 .any,
  [[.int .i64 0,.int .i64 0,.aQ [],.sl .aY 2 [],.sl .aY 5 []]],Z⟩
def Nd.HJ{n:Nd}{a b c d e:V}:over [a,b,c,d,e] n.enc=n.enc:=by rw[Nd.dk];rfl
def Nd.tk{n:Nd}:takeN 5 n.enc=U n.enc:=by rw[Nd.dk];rfl
def avw(r:af)(k:Int):bj (r.take k).1.ae+1<=bj r.l\/bj (r.take k).1.ae=0:=by
 rcases r.xi k with ⟨_,_,e,_,_⟩ | ⟨e,_,_⟩
 .exact .inl ((r.yA k).2 e)
 .right;simp[af.take,e,aA.zero,aA.ae,bj]
def anp{n:Nat}(h1:rd.cH 43=aq)(h2:rd.cH 38=aq)(hn:bj rd.l<=n):af.label n rd=rd.atom n:=by
 cases n with
 | zero=>simp[af.label,af.atom,H0 (Iy.1 hn)]
 | succ n=>simp[af.label,h1,h2]
def X7{n:Nat}(ih:∀m,n=m+1->∀{r:Nat} {rd:af} {Z:ab} (_:Z.box r=U rd.enc) (_:bj rd.l<=m) (_:bj rd.l+1<=aJ),
 eT 216 [.ptr (.out r) 0] Z (.agg (af.label m rd).1.enc) (Z.set r (af.label m rd).2.enc)) {r:Nat} {rd:af} {Z:ab} (h:Z.box r=U rd.enc) (hn:bj rd.l<=n) (hm:bj rd.l+1<=aJ) :
 eT 216 [.ptr (.out r) 0] Z (.agg (af.label n rd).1.enc) (Z.set r (af.label n rd).2.enc):=by
 have hlen:=iv rd.l;have iH:∀k,rd.cH k=aa->∃m,n=m+1:=λk hk=>by
  cases n with
  | zero=>rw[H0 (Iy.1 hn)] at hk;simp at hk
  | succ m=>exact⟨m,rfl⟩
 have ae:∀(m:Nat) (k:Int),n=m+1->∀(q:Nat) (i:af) (Z:ab),i.l=((rd.take k).2.take 40).1.ae->0<=i.at_->i.at_<=i.l.length->Z.box q=U i.enc->eT 216 [.ptr (.out q) 0] Z (.agg (af.label m i).1.enc) (Z.set q (af.label m i).2.enc):=λm k e q i Z e1 _ _ e4=>by
  have g1:=((rd.take k).2.yA 40).1;have g2:=avw (rd.take k).2 40;rw[af.gW,<-e1] at g1 g2;exact ih m e e4 (by omega) (by omega)
 refine fq func216 ?_;simp only[aP,aT,am];refine ep (λi=>Kk r rd Z i) (λi=>2 - i.1) ?_ ?_
 .refine a7.enter ⟨0,by omega,by omega,by omega⟩ ?_ ?_ bp.rfl
  .simp[Kk,aj,am]
  .simp[Kk,am]
 .rintro⟨i,hi,CE,W_⟩;simp only[Kk,aj,am];have Oh:i=0\/i=1\/i=2:=by omega
  rcases Oh with rfl | rfl | rfl
  .simp only[am,show(((0:Nat):Int)<2)=True by simp,bu];refine lz (c:=[.int .u8 43]) rfl ?_;simp only[am];refine(tM h).mono ?_;rintro v σ' ⟨rfl,rfl⟩;cases h1:rd.cH 43
   .simp only[am];rw[wrap_i64];exact a7.again ⟨1,by omega,λ_=>rfl,by omega⟩ (by simp) (by simp[am]) bX.rfl bp.rfl
   .have Vy:decide ((43:Int)=38)=false:=by simp
    obtain⟨m,rfl⟩:=iH _ h1;simp only[am];refine(Af h (by omega)).mono ?_;rintro v σ' ⟨rfl,rfl⟩;simp only[am,dk,Nat.reduceAdd,Vy];refine(Kr (Fo (NI m)) (ab.fE _ _ _) (by rw[af.gW];omega) (C9 hm (af.gW _ _)) (ae m 43 rfl)).mono ?_;rintro v σ' ⟨rfl,rfl⟩;simp only[am,Nat.reduceAdd];refine aN rfl (ab.a8 _) ⟨?_,by simp[af.label,h1]⟩;simp[af.label,h1,V.erase,a9,Nd.enc,Dm]
  .have qJ:=CE (by omega);simp only[am,show(((1:Nat):Int)<2)=True by simp,bu];refine lz (c:=[.int .u8 38]) rfl ?_;simp only[am];refine(tM h).mono ?_;rintro v σ' ⟨rfl,rfl⟩;cases h1:rd.cH 38
   .simp only[am];rw[wrap_i64];exact a7.again ⟨2,by omega,λ_=>qJ,λ_=>rfl⟩ (by simp) (by simp[am]) bX.rfl bp.rfl
   .have Vy:decide ((38:Int)=38)=true:=by simp
    obtain⟨m,rfl⟩:=iH _ h1;simp only[am];refine(Af h (by omega)).mono ?_;rintro v σ' ⟨rfl,rfl⟩;simp only[am,dk,Nat.reduceAdd,bu];refine(Kr (Fo (NI m)) (ab.fE _ _ _) (by rw[af.gW];omega) (C9 hm (af.gW _ _)) (ae m 38 rfl)).mono ?_;rintro v σ' ⟨rfl,rfl⟩;simp only[am,Nat.reduceAdd];refine aN rfl (ab.a8 _) ⟨?_,by simp[af.label,qJ,h1]⟩;simp[af.label,qJ,h1,V.erase,a9,Nd.enc,Dm]
  .have qJ:=CE (by omega);have G3:=W_ (by omega);simp only[am,show(((2:Nat):Int)<2)=False by simp,cX];refine(Ub h hn hm).mono ?_;rintro v σ' ⟨rfl,rfl⟩;simp only[am,Nd.len,Nd.one,Nd.HJ,Nd.tk];rw[anp qJ G3 hn];refine aN (by simp only[am,Nd.cS]) (ab.a8 _) ⟨?_,rfl⟩;simp only[am,Nd.er]
def ano:∀(n:Nat) {r:Nat} {rd:af} {Z:ab} (_:Z.box r=U rd.enc) (_:bj rd.l<=n) (_:bj rd.l+1<=aJ),
 eT 216 [.ptr (.out r) 0] Z (.agg (af.label n rd).1.enc) (Z.set r (af.label n rd).2.enc):=by
 intro n;induction n with
 | zero=>exact λh hn hm=>X7 (λm e=>by omega) h hn hm
 | succ n ih=>exact λh hn hm=>X7 (λm e=>Nat.succ.inj e▸ih) h hn hm
def jD(D:Nat)(ak rows:List (List V)):List V:=[.int .i64 10,.int .i64 0,.aQ [],.sl .aY 2 ak,.sl (.tk D) 5 rows]
def atf{n:Nat}{ak rows:List (List V)}(ho:Z.box o=U (jD D ak rows))(hp:Z.box p=U [.ptr (.out q) 0])(hq:Z.box q=U rd.enc)
 (OR:o≠q) (ht:Z.aS D=U rows.length) (hb:rows.length+1<=aJ) (hn:bj rd.l<=n) (hm:bj rd.l+1<=aJ) :
 eT 264 [.ptr (.out o) 0,.ptr (.out p) 0] Z (.bw []) (((Z.set q (rd.field n).2.enc).set o (jD D ak (rows++[(rd.field n).1.enc]))).aU D (rows.length+1)):=by
 unfold jD at ho ⊢;refine fq func264 ?_;simp only[aP,aT,am,ho,hp];refine bn.intro (ajf (n:=n) hq hn hm) ?_;have h1:(Z.set q (rd.field n).2.enc).box o=U [.int .i64 10,.int .i64 0,.aQ [],.sl .aY 2 ak,.sl (.tk D) 5 rows]:=by rw[ab.fQ _ _ OR];exact ho
 simp only[am,h1];refine Xj (D:=D) (m:=rows) (cs:=(rd.field n).1.enc) (p:=.ptr (.out o) 4) rfl rfl rfl hb ht ⟨Nd.wd,Nd.one,Nd.cS⟩ Nd.er (by simp) rfl (by simp only[am,h1];rfl) ?_;simp only[am];exact aN rfl (ab.a8 _) ⟨rfl,rfl⟩
def jg(Z:ab)(q o D:Nat)(rd:af)(ak rows:List (List V)):ab:=((Z.set q rd.enc).set o (jD D ak rows)).aU D rows.length
def Ct{ak rows:List (List V)}(h:q≠o):(jg Z q o D rd ak rows).box q=U rd.enc:=by
 simp[jg,ab.aU,ab.set,h]
def NA{ak rows:List (List V)}:(jg Z q o D rd ak rows).box o=U (jD D ak rows):=by
 simp[jg,ab.aU,ab.set]
def NB{ak rows:List (List V)}(h:p≠q)(h' : p≠o):(jg Z q o D rd ak rows).box p=Z.box p:=by
 simp[jg,ab.aU,ab.set,h,h']
def Wd{ak rows:List (List V)}(h:p≠q)(h' : p≠o):(jg Z q o D rd ak rows).set p cs=jg (Z.set p cs) q o D rd ak rows:=by
 have:((Z.set q rd.enc).set o (jD D ak rows)).set p cs=((Z.set p cs).set q rd.enc).set o (jD D ak rows):=by
  rw[ab.set_comm (gM h'),ab.set_comm (b:=q) (gM h)]
 show(((Z.set q rd.enc).set o (jD D ak rows)).set p cs).aU D rows.length=_;rw[this];rfl
def akJ{ak rows:List (List V)}:(jg Z q o D rd ak rows).aS D=U rows.length:=by
 simp[jg,ab.aU]
def Js{ak rows:List (List V)}(h:q≠o):(jg Z q o D rd ak rows).set q l7.enc=jg Z q o D l7 ak rows:=by
 have:((Z.set q rd.enc).set o (jD D ak rows)).set q l7.enc=(Z.set q l7.enc).set o (jD D ak rows):=by rw[ab.set_comm (gM h),ab.set_set]
 show(((Z.set q rd.enc).set o (jD D ak rows)).set q l7.enc).aU D rows.length=_;rw[this];rfl
def akH{ak QB rows:List (List V)}:(jg Z q o D rd ak rows).set o (jD D QB rows)=jg Z q o D rd QB rows:=by
 show(((Z.set q rd.enc).set o (jD D ak rows)).set o (jD D QB rows)).aU D rows.length=_;rw[ab.set_set];rfl
def akI{ak rows:List (List V)}{c:List V}(h:q≠o):(((jg Z q o D rd ak rows).set q l7.enc).set o (jD D ak (rows++[c]))).aU D (rows.length+1)=jg Z q o D l7 ak (rows++[c]):=by
 rw[Js h];unfold jg;rw[bL,da,cZ];show((((Z.set q l7.enc).set o (jD D ak rows)).set o (jD D ak (rows++[c]))).aU D rows.length).aU D (rows.length+1)=_;rw[ab.set_set,dU]
def HQ(one:af->Nd × af)(Z:ab)(q o D:Nat):Sys (af × List Nd):=⟨λa=>jg Z q o D a.1 [] (a.2.map Nd.enc),λa=>a.1,λa r=>(r,a.2),cV one⟩
def ab2{one:af->Nd × af}(h:Reads one)(r:af):(fy (cV one) r).1.l=r.l:=NG (QJ h _) _ _ (QJ h _ _ rfl)
def atg{n:Nat}(fx:q≠o)(dz:rd.at_=0)(cg:rd.aO=ah)(hn:bj rd.l<=n)(hm:bj rd.l+1<=aJ):
 eT 263 [.ptr (.out q) 0,.ptr (.out o) 0] (jg Z q o D rd [] []) (.bw []) (jg Z q o D (rd.qj n).1.1 ((rd.qj n).2.map aC.enc) ((rd.qj n).1.2.map Nd.enc)):=by
 have hlen:=iv rd.l;have GN:Reads (af.field n):=Fo (Wu n);refine fq func263 ?_ ⟨[2],[]⟩;simp only[aP,aT,am];refine lT λp hp=>?_
 have ml:p≠q:=by rintro rfl;rw[Ct fx] at hp;simp at hp
 have nP:p≠o:=by rintro rfl;rw[NA] at hp;simp at hp
 rw[NB ml nP] at hp;rw[Wd ml nP];have zG:∀a b c,(jg (Z.set p [.ptr (.out q) 0]) q o D a b c).box p=U [.ptr (.out q) 0]:=λa b c=>by rw[NB ml nP,ab.fE]
 have s9:∀a b c,(jg Z q o D a b c).sub (jg (Z.set p [.ptr (.out q) 0]) q o D a b c):=λa b c=>by
  rw[<-Wd ml nP];exact jF (by rw[NB ml nP];exact hp)
 simp only[am,zG];refine(tM (Ct fx)).mono ?_;rintro v σ' ⟨rfl,rfl⟩;cases h1:rd.cH 124
 all_goals simp only[am,zG]
 case' false =>
  have vK:∀a:af × List Nd,rZ rd.l a->a.1.aO=ah->cy prog 264 [.ptr (.out o) 0,.ptr (.out p) 0] (jg (Z.set p [.ptr (.out q) 0]) q o D a.1 [] (a.2.map Nd.enc)) λv σ' =>
   v = .bw []/\σ' = jg (Z.set p [.ptr (.out q) 0]) q o D (cV (af.field n) a).1 [] ((cV (af.field n) a).2.map Nd.enc):=λa mE hb=>by
   have hl:=mE.2.2.2 hb;have iW:=mE.2.2.1;refine(atf (n:=n) NA (zG _ _ _) (Ct fx) (gM fx) akJ (by rw[aF];omega) (by rw[mE.1];exact hn) (by rw[mE.1];exact hm)).mono ?_;rintro v σ' ⟨rfl,rfl⟩;refine⟨rfl,?_⟩;rw[akI fx];simp[cV]
  have h0:rZ rd.l (rd,([]:List Nd)):=⟨rfl,by simp[dz],by simp[dz],λ_=>by simp[dz]⟩;obtain⟨p1,_⟩:=KW GN h0 cg;refine(R6 (HQ (af.field n) (Z.set p [.ptr (.out q) 0]) q o D) (rZ rd.l) (a:=(rd,[])) (n:=rd.l.length) (by simp[am]) (λa h=>Ct fx) (λa h=>?_) (λa h hs=>Js fx) (λa h hs=>?_) (vK _ h0 cg) p1 ?_).mono ?_
  .show a.1.l.length<=aJ;rw[h.1];omega
  .obtain⟨k1,k2,k3⟩:=QX h hs;obtain⟨k4,k5⟩:=KW GN k1 k2;refine⟨vK _ k1 k2,k4,?_,?_⟩
   .exact k4.1.trans h.1.symm
   .show a.1.at_+1<=_;simp only at k5;rw[k3] at k5;exact k5
  .show(cV (af.field n) (rd,[])).1.l.length<=rd.l.length;rw[p1.1];omega
  rintro v σ' ⟨rfl,rfl⟩;have e:(HQ (af.field n) (Z.set p [.ptr (.out q) 0]) q o D).F ((HQ (af.field n) (Z.set p [.ptr (.out q) 0]) q o D).go rd.l.length ((HQ (af.field n) (Z.set p [.ptr (.out q) 0]) q o D).step (rd,[])))=jg (Z.set p [.ptr (.out q) 0]) q o D (fy (cV (af.field n)) rd).1 [] ((fy (cV (af.field n)) rd).2.map Nd.enc):=by
   unfold HQ;rw[Jv];rfl
  rw[e];have hl:=ab2 GN rd;have b8:rd.qj n=if (fy (cV (af.field n)) rd).1.cH 124=aa then((((fy (cV (af.field n)) rd).1.take 124).2.word.2,(fy (cV (af.field n)) rd).2),[((fy (cV (af.field n)) rd).1.take 124).2.word.1]) else(fy (cV (af.field n)) rd,[]):=by
   simp only[af.qj,h1,dK,cz]
  generalize fy (cV (af.field n)) rd=a at hl b8 ⊢;simp only[am,zG]
 case' true =>
  have b8:rd.qj n=if rd.cH 124=aa then(((rd.take 124).2.word.2,[]),[(rd.take 124).2.word.1]) else((rd,[]),[]):=by
   simp only[af.qj,h1,db]
  have hl:rd.l=rd.l:=rfl;rw[show jg (Z.set p [.ptr (.out q) 0]) q o D rd [] []=jg (Z.set p [.ptr (.out q) 0]) q o D (rd,([]:List Nd)).1 [] ((rd,([]:List Nd)).2.map Nd.enc) from rfl];have b8:rd.qj n=if (rd,([]:List Nd)).1.cH 124=aa then((((rd,([]:List Nd)).1.take 124).2.word.2,(rd,([]:List Nd)).2),[((rd,([]:List Nd)).1.take 124).2.word.1]) else((rd,([]:List Nd)),[]):=b8
  have hl:(rd,([]:List Nd)).1.l=rd.l:=rfl;generalize (rd,([]:List Nd))=a at hl b8 ⊢
 all_goals
  refine(tM (Ct fx)).mono ?_;rintro v σ' ⟨rfl,rfl⟩;cases h2:a.1.cH 124
  .simp only[am,b8,h2];exact aN rfl (s9 _ _ _) ⟨rfl,rfl⟩
  .simp only[am,zG];refine(Af (Ct fx) (by rw[hl];omega)).mono ?_;rintro v σ' ⟨rfl,rfl⟩;rw[Js fx];simp only[am,zG];refine(BZ (Ct fx) (by rw[af.gW,hl];omega)).mono ?_;rintro v σ' ⟨rfl,rfl⟩;rw[Js fx];simp only[am,aC.enc,NA,jD,Nat.reduceAdd];rw[show [V.int .i64 10,.int .i64 0,.aQ [],.sl .aY 2 [[.aQ (a.1.take 124).2.word.1.an,.int .i64 (a.1.take 124).2.word.1.pos]],.sl (.tk D) 5 (a.2.map Nd.enc)]=jD D ([(a.1.take 124).2.word.1].map aC.enc) (a.2.map Nd.enc) from rfl,akH];exact aN rfl (s9 _ _ _) ⟨rfl,by rw[b8,aL h2]⟩
theorem avq{a b:ab}{C:List V}(h:a.sub b)(k:a.box o=ah):a.sub (b.set o C):=by
 refine⟨λx cs hx=>?_,h.2⟩
 have:x≠o:=by grind
 rw[ab.fQ _ _ this];exact h.1 x cs hx
def atj{n:Nat}(i:af):(i.qj n).1.1.l=i.l:=by
 have GN:Reads (af.field n):=Fo (Wu n);cases h1:i.cH 124
 .cases h2:(fy (cV (af.field n)) i).1.cH 124<;>simp[af.qj,h1,h2,af.word,af.gW,ab2 GN]
 .simp[af.qj,h1,af.word,af.gW]
def atn{n:Nat}(t:aA):(af.rowOf n t).1.1.l=t.ae:=by
 unfold af.rowOf;split
 .rfl
 .rw[atj];rfl
theorem axs{n:Nat}(h:Z.box r=U rd.enc)(hn:bj rd.l<=n)(hm:bj rd.l+1<=aJ):
 eT 217 [.ptr (.out r) 0] Z (.agg (rd.row n).1.enc) (Z.set r (rd.row n).2.enc):=by
 have hlen:=iv rd.l;refine fq func217 ?_ ⟨[4],[5]⟩;simp only[aP,aT,am];refine(tM h).mono ?_;rintro v Z ⟨rfl,rfl⟩;cases h1:rd.cH 91
 .simp only[am];refine(BZ h (by omega)).mono ?_;rintro v σ' ⟨rfl,rfl⟩;simp only[am,aC.enc,Nat.reduceAdd];refine aN rfl (ab.a8 _) ⟨?_,by simp[af.row,af.leaf,h1]⟩;simp[af.row,af.leaf,h1,V.erase,a9,Nd.enc,wV]
 .simp only[am];refine lT λo ho=>?_
  have kU:o≠r:=by grind
  simp only[am];refine a7.tok 0 λD aW=>⟨_,_,_,fG.rfl,rfl,λi c hc=>⟨c,hc,fG.rfl⟩,rY.set (cs:=[.int .i64 10,.int .i64 0,.aQ [],.sl .aY 2 [],.sl .aY 5 []]) (cs' := jD D [] []) (ab.fE _ _ _) ⟨km.same,km.same,km.same,km.same,km.tok rfl,trivial⟩,?_⟩
  simp only[am];have xX : ((Z.set o (jD D [] [])).aU D 0).box r=U rd.enc:=by
   show(Z.set o _).box r=_;rw[ab.fQ _ _ (gM kU)];exact h
  have bf:∀q,((Z.set o (jD D [] [])).aU D 0).box q=ah->q≠o/\q≠r/\Z.box q=none:=λq hq=>by
   have fx:q≠o:=by rintro rfl;rw[show((Z.set q (jD D [] [])).aU D 0).box q=_ from ab.fE _ _ _] at hq;simp at hq
   have Bk : Z.box q=none:=by rw[<-ab.fQ Z (jD D [] []) fx];exact hq
   grind
  have mD:bj (rd.take 91).1.ae<=bj rd.l:=(rd.yA 91).1;have ax0:=iv (rd.take 91).1.ae;generalize eM:af.rowOf n (rd.take 91).1=ins;have GQ:ins.1.1.l=(rd.take 91).1.ae:=by rw[<-eM];exact atn _
  refine(SE (kind:=91) (by simp[am]) xX (by omega) (by omega) ins.1.1 ((Z.set o (jD D (ins.2.map aC.enc) (ins.1.2.map Nd.enc))).aU D (ins.1.2.map Nd.enc).length) ?_ ?_ ?_ GQ).mono ?_
  .intro cw hc q hq;obtain⟨fx,mm,_⟩:=bf q hq;have e1:(((Z.set o (jD D [] [])).aU D 0).set r (rd.take 91).2.enc).set q (rd.take 91).1.inner.enc=jg (Z.set r (rd.take 91).2.enc) q o D (rd.take 91).1.inner [] []:=by
    unfold jg;rw[ab.set_comm (b:=q) fx,ab.set_comm (b:=r) (gM kU)];rfl
   have e2:(((Z.set o (jD D (ins.2.map aC.enc) (ins.1.2.map Nd.enc))).aU D (ins.1.2.map Nd.enc).length).set r (rd.take 91).2.enc).set q ins.1.1.enc=jg (Z.set r (rd.take 91).2.enc) q o D ins.1.1 (ins.2.map aC.enc) (ins.1.2.map Nd.enc):=by
    unfold jg;rw[ab.set_comm (b:=q) fx,ab.set_comm (b:=r) (gM kU)];rfl
   have e3:ins=(rd.take 91).1.inner.qj n:=by
    rw[<-eM,af.rowOf,aB]
    grind
   rw[e1,e2,e3];exact atg fx rfl rfl (by show bj (rd.take 91).1.ae<=n;omega) (by show bj (rd.take 91).1.ae+1<=aJ;omega)
  .intro q1 q2
   have:ins=(((rd.take 91).1.inner,[]),[]):=by rw[<-eM,af.rowOf,aL q2]
   grind
  .intro q hq;obtain⟨fx,_,Bk⟩:=bf q hq;show(Z.set o _).box q=ah;rw[ab.fQ _ _ fx];exact Bk
  rintro v σ' hv;have Bb:∀(A B:List V) (n:Nat),(Z.set r A).sub (((Z.set o B).aU D n).set r A):=λA B n=>by
   refine⟨λb cs hb=>?_,λO m hm=>?_,λ_ _ h=>h⟩
   .have GI:b≠o:=by rintro rfl;rw[ab.fQ _ _ kU,ho] at hb;simp at hb
    by_cases xY:b=r
    .subst xY;rw[ab.fE] at hb ⊢;exact hb
    .rw[ab.fQ _ _ xY] at hb ⊢;show(Z.set o B).box b=_;rw[ab.fQ _ _ GI];exact hb
   .have uu : Z.aS O=U m:=hm;have CQ : O≠D:=by rintro rfl;rw[show(Z.set o [V.int .i64 10,.int .i64 0,.aQ [],.sl .aY 2 [],.sl .aY 5 []]).aS O=Z.aS O from rfl] at aW;rw[aW] at uu;simp at uu
    show((Z.set o B).aU D n).aS O=U m;rw[n_ CQ];exact uu
  have cw:(rd.take 91).2.ok=true:=by
   rcases rd.xi 91 with ⟨_,_,e,_,_⟩ | ⟨e,_,_⟩
   .simp[af.ok,e]
   .grind
  rw[aL cw] at hv;obtain⟨rfl,rfl⟩:=hv;have hb:(((Z.set o (jD D (ins.2.map aC.enc) (ins.1.2.map Nd.enc))).aU D (ins.1.2.map Nd.enc).length).set r ((rd.take 91).2.under ins.1.1).enc).box o=U (jD D (ins.2.map aC.enc) (ins.1.2.map Nd.enc)):=by rw[ab.fQ _ _ kU];exact ab.fE _ _ _
  simp only[jD] at hb Bb ⊢;simp only[am,hb,Nat.reduceAdd];refine aN rfl (avq (Bb _ _ _) (by rw[ab.fQ _ _ kU];exact ho)) ⟨?_,by simp[af.row,h1,eM]⟩;simp[af.row,h1,eM,V.erase,a9,Nd.enc,Dm]
def kq(b:Option Int):V:=.agg [.int .i64 (dS b),.int .i64 (gx b)]
def ac0{one:af->Nd × af}{at_ fin:Int}
 (iq:∀q (Z:ab),Z.box q=U (⟨l,at_,fin,ah⟩:af).enc->eT g [.ptr (.out q) 0] Z (.agg (one ⟨l,at_,fin,ah⟩).1.enc) (Z.set q (one ⟨l,at_,fin,ah⟩).2.enc)) :
 aR 215 [.sl .no 5 (cE l),.int .i64 at_,.int .i64 fin,.fn (.func g) [] []] Z (.bw [.agg (gJ one l at_ fin).1.enc,.int .i64 (gJ one l at_ fin).2.1,kq (gJ one l at_ fin).2.2]):=by
 refine fq func215 ?_ ⟨[17],[]⟩;simp only[aP,aT,am];refine lT λq hq=>?_
 rw[show [V.sl .no 5 (cE l),.int .i64 at_,.int .i64 fin,.int .i64 0,.int .i64 0]=(⟨l,at_,fin,ah⟩:af).enc from rfl];simp only[am];refine(iq q _ (ab.fE _ _ _)).mono ?_;rintro v σ' ⟨rfl,rfl⟩;have hb:=ab.fE Z q (one ⟨l,at_,fin,ah⟩).2.enc;have b8:gJ one l at_ fin=match (one ⟨l,at_,fin,ah⟩).2.aO with | some b=>(.zero,0,U b) | none=>((one ⟨l,at_,fin,ah⟩).1,(one ⟨l,at_,fin,ah⟩).2.at_,ah):=rfl
 generalize one ⟨l,at_,fin,ah⟩=o at hb b8 ⊢;simp only[am,Nd.len,Nd.one,Nd.HJ];refine(zT (ab.fE _ _ _)).mono ?_;rintro v σ' ⟨rfl,rfl⟩;cases h:o.2.aO with
 | some b =>
  simp only[am,af.ok,h,Option.isNone,af.ex,Nat.reduceAdd];rw[h] at b8;refine aN rfl (jF hq) ⟨?_,rfl⟩;simp[b8,V.erase,a9,Nd.zero,Nd.enc,wV,kq]
 | none =>
  simp only[am,af.ok,h,Option.isNone,af.ex,Nat.reduceAdd,Nd.len,Nd.one,Nd.HJ,Nd.tk];rw[h] at b8;refine aN (by simp only[am,Nd.cS]) (jF hq) ⟨?_,rfl⟩;simp[b8,V.erase,a9,kq,Nd.er,dS,gx]
def adj{n:Nat}{at_ fin:Int}(hn:bj l<=n)(hm:bj l+1<=aJ):
 aR 169 [.sl .no 5 (cE l),.int .i64 at_,.int .i64 fin] Z (.bw [.agg (gJ (af.label n) l at_ fin).1.enc,.int .i64 (gJ (af.label n) l at_ fin).2.1,kq (gJ (af.label n) l at_ fin).2.2]):=by
 refine fq func169 ?_;simp only[aP,aT,am];refine(ac0 (one:=af.label n) (λq Z h=>ano n h hn hm)).mono ?_;rintro v Z ⟨rfl,rfl⟩;generalize gJ (af.label n) l at_ fin=o;simp only[am,kq,Nd.len,Nd.HJ,Nd.tk,Nd.one];refine aN (by simp only[am,Nd.cS]) (ab.a8 _) ⟨?_,rfl⟩;simp[V.erase,a9,Nd.er]
def adz{n:Nat}{at_ fin:Int}(hn:bj l<=n)(hm:bj l+1<=aJ):
 aR 170 [.sl .no 5 (cE l),.int .i64 at_,.int .i64 fin] Z (.bw [.agg (gJ (af.row n) l at_ fin).1.enc,.int .i64 (gJ (af.row n) l at_ fin).2.1,kq (gJ (af.row n) l at_ fin).2.2]):=by
 refine fq func170 ?_;simp only[aP,aT,am];refine(ac0 (one:=af.row n) (λq Z h=>axs (n:=n) h hn hm)).mono ?_;rintro v Z ⟨rfl,rfl⟩;generalize gJ (af.row n) l at_ fin=o;simp only[am,kq,Nd.len,Nd.HJ,Nd.tk,Nd.one];refine aN (by simp only[am,Nd.cS]) (ab.a8 _) ⟨?_,rfl⟩;simp[V.erase,a9,Nd.er]
def adD{at_ fin:Int}(hm:bj l+1<=aJ):
 aR 166 [.sl .no 5 (cE l),.int .i64 at_,.int .i64 fin] Z (.bw [.sl .no 2 ((kE l at_ fin).1.map aC.enc),kq (kE l at_ fin).2]):=by
 have hlen:=iv l;refine fq func166 ?_ ⟨[15],[]⟩;simp only[aP,aT,am];refine lT λq hq=>?_
 rw[show [V.sl .no 5 (cE l),.int .i64 at_,.int .i64 fin,.int .i64 0,.int .i64 0]=(⟨l,at_,fin,ah⟩:af).enc from rfl];simp only[am];refine(SJ (ab.fE _ _ _) (by simp only;omega) (C9 hm rfl)).mono ?_;rintro v σ' ⟨rfl,rfl⟩;have hb:=ab.fE Z q ((⟨l,at_,fin,ah⟩:af).words aq).2.enc;have b8:kE l at_ fin=match ((⟨l,at_,fin,ah⟩:af).words aq).2.aO with | some b=>([],U b) | none=>(((⟨l,at_,fin,ah⟩:af).words aq).1.1,ah):=rfl
 generalize (⟨l,at_,fin,ah⟩:af).words aq=o at hb b8 ⊢;simp only[am];refine(zT (ab.fE _ _ _)).mono ?_;rintro v σ' ⟨rfl,rfl⟩;cases h:o.2.aO with
 | some b =>
  simp only[am,af.ok,h,Option.isNone,af.ex,Nat.reduceAdd];rw[h] at b8;refine aN rfl (jF hq) ⟨?_,rfl⟩;simp[b8,V.erase,a9,kq]
 | none =>
  simp only[am,af.ok,h,Option.isNone];rw[h] at b8;refine aN rfl (jF hq) ⟨?_,rfl⟩;simp[b8,V.erase,a9,kq,dS,gx]
def iY(l:List aA)(i:Int)(k:Int)(Z:ab):aR 150 [.sl .no 5 (cE l),.int .i64 i,.int .u8 k] Z (.bool (bd l i k)):=by
 refine Jo func150 ?_
 by_cases h0:0<=i
 .simp only[am,h0,bu,eE]
  by_cases h1:i<l.length
  .obtain⟨j,rfl⟩:=yN h0;have hj:j<l.length:=by omega
   simp only[am,bu,h1,bu];refine mG h0 (c:=l[j].enc) (by simp[qD,hj]) ?_;simp only[am,dk];refine aI ?_;simp[V.erase,bd,hj]
  .simp only[am,cX,h1,cX]
   have:l[i.toNat]?=none:=AB (by omega)
   refine aI ?_;simp[V.erase,bd,this]
 .simp only[am,cX,h0,cX];refine aI ?_;simp[V.erase,bd,h0]
def qw(l:List aA)(i fin:Int)(Z:ab):aR 151 [.sl .no 5 (cE l),.int .i64 i,.int .i64 fin] Z (.agg (eB l i fin).enc):=by
 refine Jo func151 ?_
 by_cases h0:0<=i
 .simp only[am,h0,bu,eE]
  by_cases h1:i<l.length
  .obtain⟨j,rfl⟩:=yN h0;have hj:j<l.length:=by omega
   simp only[am,bu,h1,bu];refine mG h0 (c:=l[j].enc) (by simp[qD,hj]) ?_;simp only[am,Nat.reduceAdd,dk,Nat.reduceAdd];refine aI ?_;simp[V.erase,a9,eB,kA,bJ.enc,Nd.zero,Nd.kind,Nd.pos,Nd.an,Nd.ak,Nd.ae,hj]
  .simp only[am,Nat.reduceAdd,cX,h1,cX]
   have:l[i.toNat]?=none:=AB (by omega)
   refine aI ?_;simp[V.erase,a9,eB,kA,bJ.enc,Nd.zero,Nd.kind,Nd.pos,Nd.an,Nd.ak,Nd.ae,this]
 .simp only[am,Nat.reduceAdd,cX,h0,cX];refine aI ?_;simp[V.erase,a9,eB,kA,bJ.enc,Nd.zero,Nd.kind,Nd.pos,Nd.an,Nd.ak,Nd.ae,h0]
def QA(l:List aA)(i fin:Int)(Z:ab)(hb:l.length<=aJ):aR 156 [.int .i64 6,.sl .no 5 (cE l),.int .i64 i,.int .i64 fin] Z (.agg (nameAt l i fin).enc):=by
 refine Jo func156 ?_;simp only[am,show decide ((6:Int)=1)=aq from rfl,show decide ((6:Int)=2)=aq from rfl,show decide ((6:Int)=3)=aq from rfl,show decide ((6:Int)=4)=aq from rfl,show decide ((6:Int)=5)=aq from rfl];refine cl (iY l i 97 Z) ?_;cases h:bd l i 97
 .simp only[am];refine cl (qw l i fin Z) ?_;simp only[am,Nat.reduceAdd,bJ.enc];refine aI ?_;simp[V.erase,a9,nameAt,h]
 .obtain⟨j,t,rfl,hj,hk,hl⟩:=jC h;simp only[aJ] at hb;simp only[am];refine ix (iN hj) ?_;simp only[am,dk];refine ix (iN hj) ?_;simp only[am,Nat.reduceAdd,dk,Nat.reduceAdd];rw[wrap_i64];refine aI ?_;simp[V.erase,a9,nameAt,h,bJ.enc,gv,hj,Nd.kind,Nd.pos,Nd.an,Nd.ak,Nd.ae]
theorem ao5{at_:Nat}{fin:Int}{g:bJ}(h:nameAt l at_ fin=g)(hb:g.aO=aq):g.next=(at_:Int)+1/\at_<l.length:=by
 unfold nameAt at h;split at h
 .rename_i hk;obtain⟨j,t,e,_,_,hl⟩:=jC hk
  grind
 .subst h;simp[eB] at hb
def Fc:List V:=[.int .i64 0,.int .i64 0,.aQ [],.sl .aY 2 [],.sl .aY 5 [],.int .i64 0,.bool aq,.int .i64 0]
def PG(l:List aA)(fin:Int)(Z:ab)(at_ D:Nat)(out:List Nd):St :=
 ⟨[.int .i64 6,.sl .no 5 (cE l),.int .i64 (at_:Nat),.int .i64 fin]++aj 4 .any++[.any,.ptr (.au 0) 0,.sl (.tk D) 5 (out.map Nd.enc)]++aj 24 .any,[Fc],Z.aU D out.length⟩
theorem auU(l:List aA)(fin:Int)(Z:ab)(hb:l.length+1<=aJ):aR 155 [.int .i64 6,.sl .no 5 (cE l),.int .i64 0,.int .i64 fin] Z (.bw [.sl .no 5 ((d_ (λi=>nameAt l i fin) l (l.length+1) 0 []).1.map Nd.enc),.agg (d_ (λi=>nameAt l i fin) l (l.length+1) 0 []).2.enc]):=by
 generalize hR:d_ (λi=>nameAt l i fin) l (l.length+1) 0 []=R;refine Jo func155 ?_
 let I:{p:Nat × Nat × Nat × List Nd // Z.aS p.2.2.1=ah/\d_ (λi=>nameAt l i fin) l p.1 (p.2.1:Nat) p.2.2.2=R/\p.2.2.2.length<=p.2.1/\p.2.1<=l.length/\l.length+1<=p.2.1+p.1}->St:=λp=>PG l fin Z p.1.2.1 p.1.2.2.1 p.1.2.2.2
 refine ep I (λp=>p.1.1) ?_ ?_
 .refine a7.uQ 0 λD aW=>⟨⟨(l.length+1,0,D,[]),aW,hR,by simp,by simp,by simp⟩,?_,rfl,rfl⟩
  simp[I,PG,aj,ji]
 .rintro⟨⟨m,at_,D,out⟩,aW,hR,h1,h2,h3⟩;simp only at aW hR h1 h2 h3;have hm:∃k,m=k+1:=⟨m - 1,by omega⟩;obtain⟨m,rfl⟩:=hm;simp only[I,PG,aj,am,Fc];refine(QA l at_ fin _ (by omega)).mono ?_;rintro v σ' ⟨rfl,rfl⟩;simp only[d_] at hR;generalize hg:nameAt l at_ fin=g at *;simp only[am,Nat.reduceAdd,bJ.enc,Nat.reduceAdd];cases cg:g.aO
  .rw[cg] at hR;simp only[am,Nat.reduceAdd];have hK:=ao5 hg cg;refine fg (by simp;omega) (by simp[dD]) ?_;simp only[am,aF,dU];refine(iY l g.next 44 _).mono ?_;rintro v σ' ⟨rfl,rfl⟩;cases nr:bd l g.next 44
   .simp only[am,Nat.reduceAdd];refine aN rfl (gV aW) ⟨?_,rfl⟩;rw[nr] at hR;simp only[dK,cz] at hR;simp[V.erase,a9,<-hR,cg,Nd.dk]
   .obtain⟨j,t,hj,hjt,hk,uq⟩:=jC nr;simp only[aJ] at hb;simp only[am];rw[wrap_i64];rw[nr] at hR;simp only[dK,cz,db] at hR;refine a7.nh ⟨(m,at_+2,D,out++[g.node]),aW,?_,by simp;omega,by simp only;omega,by simp only;omega⟩ (by simp) ?_ ?_ ?_ rfl rfl
    .grind
    .simp[am,Nd.dk];omega
    .simp[am]
    .simp[bp.rfl]
  .rw[cg] at hR;simp only[am,Nat.reduceAdd];refine aN rfl (gV aW) ⟨?_,rfl⟩;simp[V.erase,a9,<-hR,cg]
def Pu(l:List Nd)(Z:ab)(i D:Nat):St :=
 ⟨[.sl .no 5 (l.map Nd.enc),.any,.any,.sl (.tk D) 2 ((lb (l.take i)).map aC.enc),.int .i64 (i:Nat)]++aj 21 .any,[],Z.aU D i⟩
theorem HA(l:List Nd)(Z:ab)(hb:l.length<=aJ):aR 153 [.sl .no 5 (l.map Nd.enc)] Z (.sl .no 2 ((lb l).map aC.enc)):=by
 refine fq func153 ?_;simp only[aP,am,aT,Nat.reduceAdd];refine ep (λp:{p:Nat × Nat // Z.aS p.2=ah/\p.1<=l.length}=>Pu l Z p.1.1 p.1.2) (λp=>l.length - p.1.1) ?_ ?_
 .refine a7.uQ 0 λD aW=>⟨⟨(0,D),aW,by simp⟩,?_,rfl,rfl⟩
  simp[Pu,aj,ji,lb]
 .rintro⟨⟨i,D⟩,aW,hi⟩;simp only at aW hi;simp only[Pu,aj,am,aF];refine dc ?_ ?_
  .intro az;have az:i<l.length:=by grind
   have hn:l[i]?=U l[i]:=by simp
   have jO:(lb (l.take i)).length=i:=by simp[lb];omega
   simp only[aJ] at hb;simp only[am];refine ix (gH hn) ?_;simp only[am,Nd.dk];refine ix (gH hn) ?_;simp only[am,Nat.reduceAdd,Nd.dk,Nat.reduceAdd];refine qz (by rw[aF,jO];simp[aJ];omega) (by rw[aF,dD,jO]) ?_;simp only[am,aF,dU];rw[wrap_i64];refine a7.again ⟨(i+1,D),aW,az⟩ (by simp;omega) ?_ bX.rfl (by rw[jO];exact bp.rfl);have e:(lb (l.take (i+1))).map aC.enc=(lb (l.take i)).map aC.enc++[[.aQ l[i].an,.int .i64 l[i].pos]]:=by rw[BX hn];simp only[lb,gm,cQ,fp,aC.enc]
   simp only[am,e];simp
  .intro az;have az:i=l.length:=by grind
   subst az;simp only[am];refine aN rfl (gV aW) ⟨?_,rfl⟩;simp[V.erase]
theorem SC(t:aA)(empty:Bool)(Z:ab)(hb:t.ae.length+1<=aJ):aR 152 [.int .i64 6,.agg t.enc,.bool empty] Z (.bw [.sl .no 5 ((wholeAt nameAt t empty).1.map Nd.enc),.agg (wholeAt nameAt t empty).2.enc]):=by
 refine fq func152 ?_;simp only[aP,am,aT,dk,Nat.reduceAdd];have main:∀(bf:¬(empty=aa/\t.ae.length=0)),wholeAt nameAt t empty=if (d_ (λi=>nameAt t.ae i t.fin) t.ae (t.ae.length+1) 0 []).2.aO=aq/\(d_ (λi=>nameAt t.ae i t.fin) t.ae (t.ae.length+1) 0 []).2.next<t.ae.length then([],eB t.ae (d_ (λi=>nameAt t.ae i t.fin) t.ae (t.ae.length+1) 0 []).2.next t.fin) else(d_ (λi=>nameAt t.ae i t.fin) t.ae (t.ae.length+1) 0 []):=λbf=>by
  unfold wholeAt
  grind
 by_cases hc:empty=aa/\t.ae.length=0
 .obtain⟨rfl,hk⟩:=hc;simp only[am,Nat.reduceAdd,eE,bu,eE,hk,pH,bu];refine aN rfl (ab.a8 _) ⟨?_,rfl⟩;simp[V.erase,a9,wholeAt,hk,bJ.enc,Nd.zero,Nd.kind,Nd.pos,Nd.an,Nd.ak,Nd.ae]
 .have main:=main hc;cases empty
  case' true =>
   have hk:¬((t.ae.length:Int)=0):=by grind
   simp only[am,eE,cX,eE,hk,cX]
  case' false =>
   simp only[am]
  all_goals
   refine cl (auU t.ae t.fin Z hb) ?_;generalize (d_ (λi=>nameAt t.ae i t.fin) t.ae (t.ae.length+1) 0 [])=R at main ⊢;simp only[am,Nat.reduceAdd,bJ.enc,Nat.reduceAdd];cases cg:R.2.aO
   .simp only[am,eE]
    by_cases hn:R.2.next<t.ae.length
    .simp only[am,bu,hn,bu];refine cl (qw t.ae R.2.next t.fin Z) ?_;simp only[am,Nat.reduceAdd,bJ.enc];refine aI ?_;simp[V.erase,a9,main,cg,hn]
    .simp only[am,Nat.reduceAdd,cX,hn,cX];refine aI ?_;simp[V.erase,a9,main,cg,hn]
   .simp only[am,Nat.reduceAdd];refine aI ?_;simp[V.erase,a9,main,cg]
theorem adE(l:List aA)(i fin:Int)(Z:ab)(hm:bj l+1<=aJ):aR 92 [.sl .no 5 (cE l),.int .i64 i,.int .i64 fin] Z (.bw [.sl .no 2 ((mP l i fin).1.map aC.enc),.agg (mP l i fin).2.enc]):=by
 refine fq func92 ?_;simp only[aP,am,aT,Nat.reduceAdd];refine cl (iY l i 123 Z) ?_;cases h:bd l i 123
 .simp only[am];refine cl (qw l i fin Z) ?_;simp only[am,Nat.reduceAdd,bJ.enc];refine aI ?_;simp[V.erase,a9,mP,h]
 .obtain⟨j,t,rfl,hj,hk,hl⟩:=jC h;have ht:bT l (j:Nat)=t:=by simp[bT,hj]
  have hmk:t.ae.length+1<=bj l:=by
   have h1:=Qv hl;have h2:=iv t.ae
   grind
  simp only[am];refine ix (iN hj) ?_;simp only[am,aA.al];refine cl (SC t aq Z (by omega)) ?_;have b8:mP l (j:Nat) fin=(lb (wholeAt nameAt t aq).1,(wholeAt nameAt t aq).2):=by simp[mP,h,ht]
  have hlen:(wholeAt nameAt t aq).1.length<=t.ae.length+1:=SD t aq;generalize wholeAt nameAt t aq=R at b8 hlen ⊢;simp only[am,Nat.reduceAdd,bJ.enc];refine bn.intro (HA R.1 Z (by omega)) ?_;simp only[am,Nat.reduceAdd];refine aI ?_;simp[V.erase,a9,b8]
def pD:=ag @am <| ag @jo <| ag @cK <| ag @eE <| ag @bu <| ag @cX <| ag @aA.al <| ag @Nd.al <| ag @aC.al @bJ.al
theorem Yu(c:Int)(Z:ab):aR 211 [.int .u8 c] Z (.bool (tC c)):=by
 refine fq func211 ?_;simp only[aP,am,aT,Nat.reduceAdd]
 repeat' (first
  | (refine gO (λh=>?_) (λh=>?_)<;>simp only[am,h])
  | (refine dc (λh=>?_) (λh=>?_)<;>simp only[pD,h,Nat.reduceAdd,Nat.reduceEqDiff,aF])
  | (refine gS (λh=>?_) (λh=>?_)<;>simp only[pD,h,Nat.reduceAdd,Nat.reduceEqDiff,aF])
 )
 all_goals refine aI ?_
 all_goals simp_all [V.erase,tC]
 omega
theorem Yt(c:Int)(Z:ab):aR 143 [.int .u8 c] Z (.bool (tC c)):=by
 refine fq func143 ?_;simp only[aP,am,aT,Nat.reduceAdd]
 repeat' (first
  | (refine gO (λh=>?_) (λh=>?_)<;>simp only[am,h])
  | (refine dc (λh=>?_) (λh=>?_)<;>simp only[pD,h,Nat.reduceAdd,Nat.reduceEqDiff,aF])
  | (refine gS (λh=>?_) (λh=>?_)<;>simp only[pD,h,Nat.reduceAdd,Nat.reduceEqDiff,aF])
 )
 all_goals refine aI ?_
 all_goals simp_all [V.erase,tC]
 omega
theorem ak6(c:Int)(Z:ab):aR 212 [.int .u8 c] Z (.bool (sZ c)):=by
 refine fq func212 ?_;simp only[aP,am,aT,Nat.reduceAdd];refine cl (Yu c Z) ?_;simp only[am]
 repeat' (first
  | (refine gO (λh=>?_) (λh=>?_)<;>simp only[am,h])
  | (refine dc (λh=>?_) (λh=>?_)<;>simp only[pD,h,Nat.reduceAdd,Nat.reduceEqDiff,aF])
  | (refine gS (λh=>?_) (λh=>?_)<;>simp only[pD,h,Nat.reduceAdd,Nat.reduceEqDiff,aF])
 )
 all_goals refine aI ?_
 all_goals simp_all [V.erase,sZ]
 all_goals (try omega)
theorem ak4(c:Int)(Z:ab):aR 146 [.int .u8 c] Z (.bool (sZ c)):=by
 refine fq func146 ?_;simp only[aP,am,aT,Nat.reduceAdd]
 repeat' (first
  | (refine gO (λh=>?_) (λh=>?_)<;>simp only[am,h])
  | (refine dc (λh=>?_) (λh=>?_)<;>simp only[pD,h,Nat.reduceAdd,Nat.reduceEqDiff,aF])
  | (refine gS (λh=>?_) (λh=>?_)<;>simp only[pD,h,Nat.reduceAdd,Nat.reduceEqDiff,aF])
 )
 all_goals refine aI ?_
 all_goals simp_all [V.erase,sZ,tC]
 all_goals (try omega)
theorem I3(c:Int)(Z:ab):aR 147 [.int .u8 c] Z (.int .u8 (closing c)):=by
 refine fq func147 ?_;simp only[aP,am,aT,Nat.reduceAdd]
 repeat' (first
  | (refine gO (λh=>?_) (λh=>?_)<;>simp only[am,h])
  | (refine dc (λh=>?_) (λh=>?_)<;>simp only[am,h])
  | (refine gS (λh=>?_) (λh=>?_)<;>simp only[pD,h,Nat.reduceAdd,Nat.reduceEqDiff,aF])
 )
 all_goals refine aI ?_
 all_goals simp_all [V.erase,closing,show IntKind.u8.wrap 125=125 from rfl,show IntKind.u8.wrap 93=93 from rfl]
 all_goals (try omega)
theorem UI(c:Int)(Z:ab):aR 148 [.int .u8 c] Z (.bool (lM c)):=by
 refine fq func148 ?_;simp only[aP,am,aT,Nat.reduceAdd]
 repeat' (first
  | (refine gO (λh=>?_) (λh=>?_)<;>simp only[am,h])
  | (refine dc (λh=>?_) (λh=>?_)<;>simp only[pD,h,Nat.reduceAdd,Nat.reduceEqDiff,aF])
  | (refine gS (λh=>?_) (λh=>?_)<;>simp only[pD,h,Nat.reduceAdd,Nat.reduceEqDiff,aF])
 )
 all_goals refine aI ?_
 all_goals simp_all [V.erase,lM]
 all_goals (try omega)
variable{s:List UInt8}
def uO(h:i<s.length):s[((i:Nat):Int).toNat]?=U s[i]:=by simp[h]
def PH(s:List UInt8)(Z:ab)(i:Nat):St :=
 ⟨[.aQ s]++aj 17 .any++[.int .i64 s.length,.int .i64 (i:Nat)]++aj 8 .any,[],Z⟩
def F'{f:UInt8->Bool}(h:i<s.length):(s.take (i+1)).all f=((s.take i).all f&&f s[i]):=by rw[BX (bY h),L6];simp only[yO,S7,uZ]
theorem Y'(h:s.length<=16)(h1:0<s.length):dp s=(uJ s[0]&&s.all gh):=by
 cases s with
 | nil=>simp at h1
 | cons c r =>
  simp only[dp,h,bu,lh,List.getElem_cons_zero,yO];cases hc:uJ c
  .simp
  .have:gh c=true:=by simp only[uJ] at hc;simp[gh,sZ,hc]
   grind
theorem wW(s:List UInt8)(Z:ab):aR 161 [.aQ s] Z (.bool (dp s)):=by
 refine fq func161 ?_;simp only[aP,am,aT,Nat.reduceAdd]
 by_cases h0:s=[]
 .subst h0;simp only[am,bu];refine aI ?_;rfl
 .have iH:0<s.length:=by cases s with | nil=>exact absurd rfl h0 | cons _ _=>simp
  simp only[am,cX,h0]
  by_cases wD:s.length<=16
  .have e:decide ((16:Int)<s.length)=false:=by grind
   simp only[am,e];refine rF (c:=s[0]) (by simp[iH]) ?_;simp only[am];refine cl (Yu s[0].toNat Z) ?_;have hl:dp s=(uJ s[0]&&s.all gh):=Y' wD iH;cases hb:tC (s[0].toNat:Nat)
   .have cF : uJ s[0]=false:=hb;simp only[am];refine aI ?_;simp[V.erase,hl,cF]
   .have cF : uJ s[0]=true:=hb;simp only[am];refine ep (λp:{i:Nat // i<=s.length/\(s.take i).all gh=aa}=>PH s Z p.1) (λp=>s.length - p.1) ?_ ?_
    .refine a7.enter ⟨0,by simp,by simp⟩ ?_ bX.rfl bp.rfl;simp[PH,aj,am]
    .rintro⟨i,hi,ha⟩;simp only[PH,aj,am];refine dc ?_ ?_
     .intro az;have az:i<s.length:=by grind
      simp only[am];refine rF (uO az) ?_;simp only[am];refine cl (ak6 s[i].toNat Z) ?_;cases hg:sZ (s[i].toNat:Nat)
      .have um : gh s[i]=false:=hg;simp only[am];refine aN rfl (ab.a8 _) ⟨?_,rfl⟩
       have:s.all gh=false:=by grind
       simp[V.erase,hl,this]
      .simp only[am];rw[wrap_i64];refine a7.again ⟨i+1,by omega,?_⟩ (by simp;omega) (by simp[am]) bX.rfl bp.rfl;rw[F' az,ha];exact hg
     .intro az;have az:i=s.length:=by grind
      subst az;rw[du] at ha;simp only[am];refine aI ?_;simp[V.erase,hl,cF,ha]
  .have e:decide ((16:Int)<s.length)=true:=by grind
   simp only[am,e];refine aI ?_;simp[V.erase,dp,wD]
def PB(s:List UInt8)(Z:ab)(i:Nat):St :=
 ⟨[.aQ s,.any,.any,.int .i64 (i:Nat)]++aj 43 .any,[],Z⟩
theorem yr(s:List UInt8)(Z:ab):aR 79 [.aQ s] Z (.bool (dp s)):=by
 refine fq func79 ?_;simp only[aP,am,aT,Nat.reduceAdd]
 by_cases h0:s=[]
 .subst h0;simp only[am,show decide ((([]:List UInt8).length:Int)<1)=aa from rfl];refine aI ?_;rfl
 .have iH:0<s.length:=by cases s with | nil=>exact absurd rfl h0 | cons _ _=>simp
  have e1:decide ((s.length:Int)<1)=false:=by grind
  simp only[am,e1]
  by_cases wD:s.length<=16
  .have e:decide ((16:Int)<s.length)=false:=by grind
   simp only[am,e];refine rF (c:=s[0]) (by simp[iH]) ?_;simp only[am];refine cl (Yt s[0].toNat Z) ?_;have hl:dp s=(uJ s[0]&&s.all gh):=Y' wD iH;cases hb:tC (s[0].toNat:Nat)
   .have cF : uJ s[0]=false:=hb;simp only[am];refine aI ?_;simp[V.erase,hl,cF]
   .have cF : uJ s[0]=true:=hb;simp only[am];refine ep (λp:{i:Nat // 1<=i/\i<=s.length/\(s.take i).all gh=aa}=>PB s Z p.1) (λp=>s.length - p.1) ?_ ?_
    .refine a7.enter ⟨1,by simp,by omega,?_⟩ ?_ bX.rfl bp.rfl
     .rw[F' iH];simp[gh,sZ,hb]
     .simp[PB,aj,am]
    .rintro⟨i,CE,hi,ha⟩;simp only[PB,aj,am];refine dc ?_ ?_
     .intro az;have az:i<s.length:=by grind
      simp only[am];refine rF (uO az) ?_;simp only[am];refine cl (Yt s[i].toNat Z) ?_;have fj:gh s[i]=aq->s.all gh=false:=λhg=>by
       grind
      have fin:gh s[i]=aa->(s.take (i+1)).all gh=true:=λhg=>by rw[F' az,ha,hg];rfl
      have lv:gh s[i]=(tC (s[i].toNat:Nat)||(decide (48<=(s[i].toNat:Int))&&decide ((s[i].toNat:Int)<=57))||decide ((s[i].toNat:Int)=95)):=rfl;cases hg:tC (s[i].toNat:Nat)
      all_goals rw[hg] at lv
      all_goals simp only[am]
      repeat' (first
       | (refine gO (λh=>?_) (λh=>?_)<;>simp only[am,h])
       | (refine dc (λh=>?_) (λh=>?_)<;>simp only[am,h])
       | (refine gS (λh=>?_) (λh=>?_)<;>simp only[pD,h,Nat.reduceAdd,Nat.reduceEqDiff,aF])
       | (refine rF (uO az) ?_;simp only[am])
      )
      all_goals first
       | (have tg:gh s[i]=true:=by rw[lv];simp_all<;>omega
          rw[wrap_i64];exact a7.again ⟨i+1,by omega,by omega,fin tg⟩ (by simp;omega) (by simp[am]) bX.rfl bp.rfl)
       | (have tg:gh s[i]=false:=by rw[lv];simp_all<;>omega
          refine aN rfl (ab.a8 _) ⟨?_,rfl⟩;simp[V.erase,hl,fj tg])
     .intro az;have az:i=s.length:=by grind
      subst az;rw[du] at ha;simp only[am];refine aI ?_;simp[V.erase,hl,cF,ha]
  .have e:decide ((16:Int)<s.length)=true:=by grind
   simp only[am,e];refine aI ?_;simp[V.erase,dp,wD]
def ZZ(n:Nat)(hn:n<=100000)(f:FuncId)(cap:List V)(hc:bK cap=aa)(p:Nat->Bool)(Z:ab)(h:∀i,i<n->cy prog f (.int .i64 (i:Nat)::cap) Z λv σ' => v = .bool (p i)/\σ' = Z) :
 aR 218 [.int .i64 0,.int .i64 (n:Nat),.fn (.func f) [] cap] Z (.int .i64 (bW ((bH n).find? p))):=by
 refine fq func218 ?_;simp only[aP,am,aT,Nat.reduceAdd];refine ch (n) (λi (x:Unit)=>⟨[.any,.int .i64 (n:Nat),.fn (.func f) [] cap,.any,.any,.any,.any,.int .i64 (i:Nat)]++aj 10 .any,[],Z⟩) (λi x=>(∀k,k<i->p k=aq)) λF hF JF aZ=>⟨?_,?_,?_⟩
 .exact en aZ (()) (by intro k h;omega)
 .rintro i x hi hJ;simp only[hF,aj,am,cf hi,hc];refine(h i hi).mono ?_;rintro v σ' ⟨rfl,rfl⟩;cases hb:p i with
  | false =>
   simp only[am,aK,bt hi];exact nx aZ (()) hi (kn hJ hb)
  | true =>
   have e:=Cq hi hJ hb;simp only[am,aK];refine aI ?_;simp[V.erase,e,bW]
 .rintro x hJ;have e:=Cr hJ;simp only[hF,aj,am,aK,ck,aK];refine aI ?_;simp[V.erase,e,bW]
def ajl(l:List (List UInt8))(s:List UInt8)(i b1 b2:Nat)(hi:i<l.length)(h1:Z.box b1=U [.sl .no 1 (cu l)])(h2:Z.box b2=U [.aQ s]):
 aR 219 [.int .i64 (i:Nat),.ptr (.out b1) 0,.ptr (.out b2) 0] Z (.bool (decide (l.getD i []=s))):=by
 refine fq func219 ?_;simp only[aP,am,aT,Nat.reduceAdd];simp only[am,h1];refine ix (Ft hi) ?_;simp only[am,h2];exact rt
def zg(l:List (List UInt8))(s:List UInt8)(Z:ab)(hl:l.length<=100000):aR 173 [.sl .no 1 (cu l),.aQ s] Z (.int .i64 (bW (dL l s))):=by
 refine fq func173 ?_ ⟨[2,3],[]⟩;simp only[aP,am,aT,Nat.reduceAdd];refine lT λb1 dX=>?_
 simp only[am];refine lT λb2 fv=>?_
 have bf:b1≠b2:=by rintro rfl;rw[j6] at fv;simp at fv
 have hs:=ab.FB (jF (cs:=[.sl .no 1 (cu l)]) dX) (jF (cs:=[.aQ s]) fv);have e1:((Z.set b1 [.sl .no 1 (cu l)]).set b2 [.aQ s]).box b1=U [.sl .no 1 (cu l)]:=by rw[sL bf,j6]
 generalize yd:(Z.set b1 [V.sl .no 1 (cu l)]).set b2 [V.aQ s]=bx at hs e1;have e2:bx.box b2=U [.aQ s]:=by rw[<-yd,j6]
 simp only[am,gk,e1];refine(ZZ l.length hl _ _ rfl (λi=>decide (l.getD i []=s)) bx λi hi=>ajl l s i b1 b2 hi e1 e2).mono ?_;rintro v bx ⟨rfl,rfl⟩;simp only[am];exact aN rfl hs ⟨rfl,rfl⟩
def avR(l:List (List UInt8))(i b1:Nat)(hl:l.length<=100000)(hi:i<l.length)(h1:Z.box b1=U [.sl .no 1 (cu l)]):
 aR 314 [.int .i64 (i:Nat),.ptr (.out b1) 0] Z (.bool (dL (l.take i) (l.getD i [])).isSome):=by
 refine fq func314 ?_;simp only[aP,am,aT,Nat.reduceAdd];simp only[am,cK,h1];refine abZ (b:=i) (by rw[gk];omega) ?_;simp only[am,h1];refine ix (Ft hi) ?_;rw[abl];simp only[am];refine bn.intro (zg (l.take i) (l.getD i []) Z (by rw[o8];omega)) ?_;simp only[am,KQ];exact rt
def avS(l:List (List UInt8))(Z:ab)(hl:l.length<=100000):aR 307 [.sl .no 1 (cu l)] Z (.int .i64 (bW (BY l))):=by
 refine fq func307 ?_ ⟨[1],[]⟩;simp only[aP,am,aT,Nat.reduceAdd];refine lT λb1 dX=>?_
 simp only[am,gk];refine(ZZ l.length hl _ _ rfl (λi=>(dL (l.take i) (l.getD i [])).isSome) _ λi hi=>avR l i b1 hl hi j6).mono ?_;rintro v bx ⟨rfl,rfl⟩;simp only[am];exact aN rfl (jF dX) ⟨rfl,rfl⟩
def zZ(l:List (List UInt8))(s:List UInt8)(Z:ab)(hl:l.length<=100000):aR 144 [.sl .no 1 (cu l),.aQ s] Z (.int .i64 (bW (dL l s))):=by
 refine fq func144 ?_;simp only[aP,am,aT,Nat.reduceAdd];refine ch (l.length) (λi (x:Unit)=>⟨[.sl .no 1 (cu l),.aQ s,.any,.any,.any,.int .i64 (i:Nat)]++aj 13 .any,[],Z⟩) (λi x=>(∀k,k<i->decide (l.getD k []=s)=aq)) λF hF JF aZ=>⟨?_,?_,?_⟩
 .exact en aZ (()) (by intro k h;omega)
 .rintro i x hi hJ;simp only[hF,aj,am,cf hi,gk];refine ix (Ft hi) ?_;simp only[am]
  by_cases h:l.getD i []=s
  .have e:dL l s=U i:=Cq hi hJ (aG h);simp only[am,aK,aG h];refine aI ?_;simp[V.erase,e,bW]
  .simp only[am,aK,aD h,bt hi];exact nx aZ (()) hi (kn hJ (aD h))
 .rintro x hJ;have e:dL l s=none:=Cr hJ;simp only[hF,aj,am,aK,ck,aK,gk];refine aI ?_;simp[V.erase,e,bW]
def atE(l:List (List UInt8))(Z:ab)(hl:l.length<=100000):aR 80 [.sl .no 1 (cu l)] Z (.int .i64 (bW (BY l))):=by
 refine fq func80 ?_;simp only[aP,am,aT,Nat.reduceAdd];refine ch (l.length) (λi (x:Unit)=>⟨[.sl .no 1 (cu l),.any,.any,.int .i64 (i:Nat)]++aj 15 .any,[],Z⟩) (λi x=>(∀k,k<i->(dL (l.take k) (l.getD k [])).isSome=aq)) λF hF JF aZ=>⟨?_,?_,?_⟩
 .exact en aZ (()) (by intro k h;omega)
 .rintro i x hi hJ;simp only[hF,aj,am,cf hi,gk];refine ix (Ft hi) ?_;simp only[am];refine cl (zZ l (l.getD i []) Z hl) ?_;have e:=VP hi;simp only[am,<-e];cases hb:(dL (l.take i) (l.getD i [])).isSome with
  | false =>
   simp only[am,aK,bt hi];exact nx aZ (()) hi (kn hJ hb)
  | true =>
   have e:BY l=U i:=Cq hi hJ hb;simp only[am,aK];refine aI ?_;simp[V.erase,e,bW]
 .rintro x hJ;have e:BY l=none:=Cr hJ;simp only[hF,aj,am,aK,ck,aK,gk];refine aI ?_;simp[V.erase,e,bW]
theorem ao_(l:List (List UInt8))(Z:ab)(hl:l.length<=100000):aR 297 [.sl .no 1 (cu l)] Z (.bool (mK l)):=by
 refine fq func297 ?_;simp only[aP,am,aT,Nat.reduceAdd,gk]
 by_cases h1:l.length<1
 .simp only[am,aG (show(l.length:Int)<1 by omega)];refine aI ?_;simp[V.erase,mK];omega
 .simp only[am,gk,aD (show ¬(l.length:Int)<1 by omega)]
  by_cases h2:64<l.length
  .simp only[am,aG (show(64:Int)<l.length by omega)];refine aI ?_;simp[V.erase,mK];omega
  .simp only[am,aD (show ¬(64:Int)<l.length by omega)];refine cl (avS l Z hl) ?_;simp only[am,KQ];cases ht:BY l with
   | some k =>
    simp only[am,yW];refine aI ?_;simp[V.erase,mK,ht]
   | none =>
    simp only[am,gk,xy];refine ch (l.length) (λi (x:Unit)=>⟨[.any,.any,.any,.any,.any,.any,.any,.any,.any,.any,.any,.any,.any,.any,.any,.any,.any,.any,.sl .no 1 (cu l),.int .i64 (l.length:Nat),.int .i64 (i:Nat)]++aj 7 .any,[],Z⟩) (λi x=>(∀k,k<i->dp (l.getD k [])=aa)) λF hF JF aZ=>⟨?_,?_,?_⟩
    .exact en aZ (()) (by intro k h;omega)
    .rintro i x hi hJ;simp only[hF,aj,am,cf hi];refine ix (Ft hi) ?_;simp only[am];refine cl (wW _ Z) ?_;simp only[am];cases hb:dp (l.getD i []) with
     | false =>
      have e:mK l=false:=by
       cases hq:mK l with
       | false=>rfl
       | true =>
        simp only[mK,bO,ma] at hq
        grind
      simp only[am,aK];refine aI ?_;simp[V.erase,e]
     | true =>
      simp only[am,aK,bt hi];exact nx aZ (()) hi (kn hJ hb)
    .rintro x hJ;have e:mK l=true:=by
      simp only[mK,ht,bO,ma,cU,wb,ln];refine⟨by omega,λs hs=>?_⟩;obtain⟨k,hk,rfl⟩:=Md.1 hs
      grind
     simp only[hF,aj,am,aK,ck,aK];refine aI ?_;simp[V.erase,e]
def ajR:fm prog 233 (sq [rg 2 [ox 1 2 0,oz 2],rg 6 [fo 1 1,nL,o1 3],sq [rg 9 [om 3,nB .lss 1,gB,om 3,nB .gtr 8,gZ,nm,oh 15 (of 0 1),oh 15 (no),oh 15 (nn),oh 15 (nm),og 19 (om 3),og 19 (nB .neq 1),oh 15 (oy 19 21),oq (.pick (.s 15) (.c (.bool aa)) (.s 22))],cr 23 2 [oz 2]],sq [rg 24 [fo 1 1,nL,oi 0],lp 26 0 (sq [rg 29 [oA 67 25 27,nl 67,oR 5 uh,o2 67 5],rg 31 [ol 67 5,oC 276 [31],nn],cr 33 2 [oz 2]]) 34],rg 2 [oq (.mv (.c (.bool aa)))],.ret]) [.tmp 2] 35:=fU func233
def ajW:fm prog 276 (sq [rg 2 [ox 1 67 0,oz 2],sq [rg 3 [fo 1 1,oC 297 [4],nn],cr 6 2 [oz 2]],sq [rg 7 [fo 0 1],.block 0 (sq [sq [rg 10 [oB .eql 8 1,o1 9],cd 9 .skip (rg 11 [oB .eql 8 2,o1 9])],cd 9 (sq [rg 12 [of 2 1,nl 65,oY l8 [],oC 298 [13,14],o1 2],.ret]) (sq [rg 17 [oB .eql 8 3,o1 16],cd 16 (sq [rg 18 [of 2 1,nF 0,fo 1 1,nL,nb .eql 20,gA,of 2 1,nl 65,oC 299 [27],gZ,o1 2],.ret]) (sq [rg 31 [oB .eql 8 4,o1 30],cr 30 32 [of 2 1,nF 0,fo 1 1,nL,nb .eql 34,gA,of 2 1,nl 65,oC 175 [41],gZ,o1 2]])])])],rg 2 [oz 2],.ret]) [.tmp 2] 44:=fU func276
def axA:=ag @am <| ag @aT <| ag @Rl.al @bh.al
def aiY(f:bh)(hg:TZ Z)(hl:f.ak.length<=100000):aR 276 [.agg f.enc] Z (.bool (kp f)):=by
 refine ajW.fK ?_;simp only[aP,axA,Nat.reduceAdd];refine cl (ao_ f.ak Z hl) ?_;cases hn:mK f.ak with
 | false =>
  simp only[am];refine aI ?_;simp[V.erase,kp,hn]
 | true =>
  simp only[am,bh.al]
  by_cases h1:f.kind=1
  .simp only[am,Rl.al,bh.al,aG h1];refine cl (abv f.rel Rl.zero Z) ?_;simp only[am,Z2];refine aI ?_;simp[V.erase,kp,hn,h1]
  .simp only[am,aD h1]
   by_cases h2:f.kind=2
   .simp only[am,Rl.al,bh.al,aG h2];refine cl (abv f.rel Rl.zero Z) ?_;simp only[am,Z2];refine aI ?_;simp[V.erase,kp,hn,h2]
   .simp only[am,aD h2]
    by_cases h3:f.kind=3
    .simp only[am,bh.al,gk,aG h3]
     by_cases h4:f.rel.n=f.ak.length
     .simp only[am,Rl.al,bh.al,aG h4];refine cl (NM f.rel Z) ?_;simp only[am];refine aI ?_;simp[V.erase,kp,hn,h3,h4]
     .simp only[am,aD h4];refine aI ?_;simp[V.erase,kp,hn,h3,h4]
    .simp only[am,aD h3]
     by_cases h5:f.kind=4
     .simp only[am,bh.al,gk,aG h5]
      by_cases h4:f.rel.n=f.ak.length
      .simp only[am,Rl.al,bh.al,aG h4];refine cl (Yg f.rel hg) ?_;simp only[am];refine aI ?_;simp[V.erase,kp,hn,h5,h4]
      .simp only[am,aD h4];refine aI ?_;simp[V.erase,kp,hn,h5,h4]
     .simp only[am,aD h5];refine aI ?_;simp[V.erase,kp,hn,h1,h2,h3,h5]
def Jg{l:List bh}(h:j<l.length):(l.map bh.enc)[((j:Nat):Int).toNat]?=U l[j].enc:=by simp[h]
theorem abU{s:bA}(hi:i<s.bI.length)(h:kp s.bI[i]=aq):lC s=false:=by
 cases hq:lC s with
 | false=>rfl
 | true =>
  simp only[lC,bO,ma] at hq
  grind
theorem abV{s:bA}(h1:1<=s.bI.length)(h2:s.bI.length<=8)(h3:s.tuple=aa\/s.bI.length=1)(h:∀k (hk:k<s.bI.length),kp s.bI[k]=aa):lC s=true:=by
 simp only[lC,bO,ma,cU,qx];refine⟨⟨⟨h1,h2⟩,h3⟩,λf hf=>?_⟩;obtain⟨k,hk,rfl⟩:=Md.1 hf
 grind
theorem auL(s:bA)(hg:TZ Z)(cw:s.ok):aR 233 [.agg s.enc] Z (.bool (lC s)):=by
 refine ajR.fK ?_;simp only[aP,am,aT,Nat.reduceAdd,bA.al,aF]
 by_cases h1:s.bI.length<1
 .simp only[am,aG (show(s.bI.length:Int)<1 by omega)];refine aI ?_;simp[V.erase,lC];omega
 .simp only[am,aD (show ¬(s.bI.length:Int)<1 by omega)]
  by_cases h2:8<s.bI.length
  .simp only[am,aG (show(8:Int)<s.bI.length by omega)];refine aI ?_;simp[V.erase,lC];omega
  .simp only[am,bA.al,aD (show ¬(8:Int)<s.bI.length by omega)];have h3:(∃t,s.tuple=t/\(t=aa\/s.bI.length=1))\/(s.tuple=aq/\s.bI.length≠1):=by
    cases ht:s.tuple with
    | true=>exact .inl ⟨aa,rfl,.inl rfl⟩
    | false =>
     grind
   rcases h3 with ⟨t,ht,h3⟩ | ⟨ht,h3⟩
   .cases t
    case' false =>
     have h3:s.bI.length=1:=by grind
     simp only[am,aF,bA.al,aF,ht,aG (show(s.bI.length:Int)=1 by omega)]
    case' true=>simp only[am,aF,bA.al,aF,ht]
    all_goals
     refine ch (s.bI.length) (λi (x:Unit)=>⟨[.any,.ptr (.au 0) 0,.bool aq,.any,.any,.any,.any,.any,.any,.any,.any,.any,.any,.any,.any,.any,.any,.any,.any,.any,.any,.any,.any,.any,.any,.sl .no 67 (s.bI.map bh.enc),.int .i64 (s.bI.length:Nat),.int .i64 (i:Nat)]++aj 7 .any,[s.enc],Z⟩) (λi x=>(∀k,k<i->∀hk:k<s.bI.length,kp s.bI[k]=aa)) λF hF JF aZ=>⟨?_,?_,?_⟩
     .exact en aZ (()) (by intro k h;omega)
     .rintro i x hi hJ;simp only[hF,aj,am,cf hi];refine ix (Jg hi) ?_;simp only[am,bh.al];refine cl (aiY s.bI[i] hg (cw.2 _ (dQ hi))) ?_;cases hb:kp s.bI[i] with
      | false =>
       simp only[am,aK];refine aI ?_;simp[V.erase,abU hi hb]
      | true =>
       simp only[am,aK,bt hi];refine c7 (()) hi ?_ ?_ ?_ ?_ ?_ ?_
       .grind
       all_goals simp[hF,aj,am,ba,bE,cn,V.lo,bA.bR]
     .rintro x hJ;have e:=abV (s:=s) (by omega) (by omega) (by first | exact .inr h3 | exact .inl ht) λk hk=>hJ k hk hk
      simp only[hF,aj,am,aK,ck,aK];refine aI ?_;simp[V.erase,e]
   .have e:lC s=false:=by simp[lC,ht,h3]
    simp only[am,ht,aD (show ¬(s.bI.length:Int)=1 by omega)];refine aI ?_;simp[V.erase,e]
theorem ao'{l:List (List UInt8)}(h1:1<=l.length)(h2:l.length<=64)(ht:BY l=ah)(hJ:∀k,k<l.length->dp (l.getD k [])=aa):mK l=true:=by
 simp only[mK,ht,bO,ma,cU,wb,ln];refine⟨⟨h1,h2⟩,λs hs=>?_⟩;obtain⟨k,hk,rfl⟩:=Md.1 hs
 grind
theorem ao9{l:List (List UInt8)}(hi:i<l.length)(hb:dp (l.getD i [])=aq):mK l=false:=by
 cases hq:mK l with
 | false=>rfl
 | true =>
  simp only[mK,bO,ma] at hq
  grind
def axB:=ag @am <| ag @aT <| ag @bh.al @gk
def as1(f:bh)(Z:ab)(hl:f.ak.length<=100000):aR 142 [.agg f.enc] Z (.bool (kp f)):=by
 refine fq func142 ?_;simp only[aP,axB,Nat.reduceAdd];have aO:mK f.ak=aq->kp f=false:=λh=>by rw[kp,h];rfl
 by_cases h1:f.ak.length<1
 .simp only[am,aG (show(f.ak.length:Int)<1 by omega)];refine aI ?_;simp[V.erase,aO (by simp[mK];omega)]
 .simp only[am,aD (show ¬(f.ak.length:Int)<1 by omega)]
  by_cases h2:64<f.ak.length
  .simp only[am,aG (show(64:Int)<f.ak.length by omega)];refine aI ?_;simp[V.erase,aO (by simp[mK];omega)]
  .simp only[am,bh.al,aD (show ¬(64:Int)<f.ak.length by omega)];refine cl (atE f.ak Z hl) ?_;simp only[am,KQ];cases ht:BY f.ak with
   | some k =>
    simp only[am,yW];refine aI ?_;simp[V.erase,aO (by simp[mK,ht])]
   | none =>
    simp only[am,xy];refine ch (f.ak.length) (λi (x:Unit)=>⟨[.any,.ptr (.au 0) 0,.any,.int .i64 (f.ak.length:Nat),.int .i64 (i:Nat)]++aj 67 .any,[f.enc],Z⟩) (λi x=>(∀k,k<i->dp (f.ak.getD k [])=aa)) λF hF JF aZ=>⟨?_,?_,?_⟩
    .exact en aZ (()) (by intro k h;omega)
    .rintro i x hi hJ;simp only[hF,aj,am,cf hi,bh.al];refine ix (Ft hi) ?_;simp only[am];refine cl (yr _ Z) ?_;simp only[am];cases hb:dp (f.ak.getD i []) with
     | false =>
      simp only[am,aK];refine aI ?_;simp[V.erase,aO (ao9 hi hb)]
     | true =>
      simp only[am,aK,bt hi];exact nx aZ (()) hi (kn hJ hb)
    .rintro x hJ;have hn:mK f.ak=true:=ao' (by omega) (by omega) ht hJ;simp only[hF,aj,am,aK,ck,aK,bh.al]
     by_cases h1:f.kind=1
     .simp only[am,Rl.al,bh.al,aG h1];refine cl (n6 f.rel Z) ?_;simp only[am];refine aI ?_;simp[V.erase,kp,hn,h1]
     .simp only[am,bh.al,aD h1]
      by_cases h2:f.kind=2
      .simp only[am,Rl.al,bh.al,aG h2];refine cl (n6 f.rel Z) ?_;simp only[am];refine aI ?_;simp[V.erase,kp,hn,h2]
      .simp only[am,bh.al,aD h2]
       by_cases h3:f.kind=3
       .simp only[am,bh.al,aG h3]
        by_cases h4:f.rel.n=f.ak.length
        .simp only[am,Rl.al,bh.al,aG h4];refine cl (Re f.rel Z) ?_;simp only[am];refine aI ?_;simp[V.erase,kp,hn,h3,h4]
        .simp only[am,aD h4];refine aI ?_;simp[V.erase,kp,hn,h3,h4]
       .simp only[am,bh.al,aD h3]
        by_cases h5:f.kind=4
        .simp only[am,bh.al,aG h5]
         by_cases h4:f.rel.n=f.ak.length
         .simp only[am,Rl.al,bh.al,aG h4];refine cl (aaF f.rel Z) ?_;simp only[am];refine aI ?_;simp[V.erase,kp,hn,h5,h4]
         .simp only[am,aD h4];refine aI ?_;simp[V.erase,kp,hn,h5,h4]
        .simp only[am,aD h5];refine aI ?_;simp[V.erase,kp,hn,h1,h2,h3,h5]
theorem atD(s:bA)(Z:ab)(cw:s.ok):aR 78 [.agg s.enc] Z (.bool (lC s)):=by
 refine fq func78 ?_;simp only[aP,am,aT,Nat.reduceAdd,bA.al,aF]
 by_cases h1:s.bI.length<1
 .simp only[am,aG (show(s.bI.length:Int)<1 by omega)];refine aI ?_;simp[V.erase,lC];omega
 .simp only[am,aF,bA.al,aF,aD (show ¬(s.bI.length:Int)<1 by omega)]
  by_cases h2:8<s.bI.length
  .simp only[am,aG (show(8:Int)<s.bI.length by omega)];refine aI ?_;simp[V.erase,lC];omega
  .simp only[am,bA.al,aD (show ¬(8:Int)<s.bI.length by omega)];have h3:(∃t,s.tuple=t/\(t=aa\/s.bI.length=1))\/(s.tuple=aq/\s.bI.length≠1):=by
    cases ht:s.tuple with
    | true=>exact .inl ⟨aa,rfl,.inl rfl⟩
    | false =>
     grind
   rcases h3 with ⟨t,ht,h3⟩ | ⟨ht,h3⟩
   .cases t
    case' false =>
     have h3:s.bI.length=1:=by grind
     simp only[am,aF,bA.al,aF,ht,aG (show(s.bI.length:Int)=1 by omega)]
    case' true=>simp only[am,ht]
    all_goals
     refine ch (s.bI.length) (λi (x:Unit)=>⟨[.any,.ptr (.au 0) 0,.bool aq,.int .i64 (i:Nat)]++aj 35 .any,[s.enc],Z⟩) (λi x=>(∀k,k<i->∀hk:k<s.bI.length,kp s.bI[k]=aa)) λF hF JF aZ=>⟨?_,?_,?_⟩
     .exact en aZ (()) (by intro k h;omega)
     .rintro i x hi hJ;simp only[hF,aj,am,cf hi,bA.al,aF];refine ix (Jg hi) ?_;simp only[am,bh.al];refine cl (as1 s.bI[i] Z (cw.2 _ (dQ hi))) ?_;cases hb:kp s.bI[i] with
      | false =>
       simp only[am,aK];refine aI ?_;simp[V.erase,abU hi hb]
      | true =>
       simp only[am,aK,bt hi];exact nx aZ (()) hi (kn hJ (λ_=>hb))
     .rintro x hJ;have e:=abV (s:=s) (by omega) (by omega) (by simp[ht,h3]) λk hk=>hJ k hk hk
      simp only[hF,aj,am,aK,ck,aK,bA.al,aF];refine aI ?_;simp[V.erase,e]
   .have e:lC s=false:=by simp[lC,ht,h3]
    simp only[am,aF,bA.al,aF,ht,aD (show ¬(s.bI.length:Int)=1 by omega)];refine aI ?_;simp[V.erase,e]
def Lh:List (List V):=xg.map λs=>[.int .u8 s]
def PE(c:Int)(Z:ab)(i:Nat):St :=
 ⟨[.int .u8 c,.any,.any,.sl .aY 1 Lh,.int .i64 (i:Nat)]++aj 13 .any,[],Z⟩
theorem auN(c:Int)(Z:ab):aR 87 [.int .u8 c] Z (.bool (lD c)):=by
 refine fq func87 ?_;simp only[aP,am,aT,Nat.reduceAdd];rw[show [[V.int .u8 35],[V.int .u8 43],[V.int .u8 38],[V.int .u8 40],[V.int .u8 41],[V.int .u8 123],[V.int .u8 125],[V.int .u8 91],[V.int .u8 93],[V.int .u8 44],[V.int .u8 58],[V.int .u8 61],[V.int .u8 124],[V.int .u8 60]]=Lh from rfl];refine ep (λp:{i:Nat // i<=14/\(xg.take i).any (λs=>decide (s=c))=aq}=>PE c Z p.1) (λp=>14 - p.1) ?_ ?_
 .refine a7.enter ⟨0,by simp,by simp⟩ ?_ bX.rfl bp.rfl;simp[PE,aj,am]
 .rintro⟨i,hi,ha⟩;simp only[PE,aj,am];rw[show Lh.length=14 from rfl];refine dc ?_ ?_
  .intro az;have az:i<14:=by grind
   have hs:i<xg.length:=az;simp only[am];refine lz (c:=[.int .u8 xg[i]]) (by simp[Lh,hs]) ?_;simp only[am];refine dc ?_ ?_
   .intro h;have h:xg[i]=c:=by grind
    simp only[am];refine aN rfl (ab.a8 _) ⟨?_,rfl⟩
    have:lD c=true:=by simp only[lD,xu];exact⟨xg[i],dQ hs,by simp[h]⟩
    simp[V.erase,this]
   .intro h;have h:¬xg[i]=c:=by grind
    simp only[am];rw[wrap_i64];refine a7.again ⟨i+1,by omega,?_⟩ (by simp;omega) (by simp[am]) bX.rfl bp.rfl;rw[BX (bY hs),S8,ha];simp[h]
  .intro az;have az:i=14:=by grind
   subst az;simp only[am];refine aI ?_;simp[V.erase,lD,show xg.any (λs=>decide (s=c))=aq from ha]
theorem Lc{a n:Nat}(h:((s.drop a).take n).all gh=aa)(hn:a+n<=s.length)(he:∀hl:a+n<s.length,gh s[a+n]=aq):(eR (s.drop a)).length=n:=by
 have key:∀(r:List UInt8) (n:Nat),(r.take n).all gh=aa->n<=r.length->(∀hl:n<r.length,gh r[n]=aq)->(eR r).length=n:=by
  intro r;induction r with
  | nil=>intro n _ h2 _;simp at h2;subst h2;rfl
  | cons c r ih =>
   intro n h1 h2 h3;cases n with
   | zero=>have:=h3 (by simp);simp at this;simp[eR,this]
   | succ n =>
    simp only[yR,yO,bO] at h1
    have:=ih n h1.2 (by simpa using h2) (λhl=>h3 (Nat.succ_lt_succ hl))
    simp only[eR] at this;simp[eR,h1.1,this]
 grind
def PD(s:List UInt8)(Z:ab)(a n:Nat):St :=
 ⟨[.aQ s,.int .i64 (a:Nat),.any,.any,.any,.int .i64 (n:Nat)]++aj 17 .any,[],Z⟩
theorem atQ(s:List UInt8)(a:Nat)(Z:ab)(ha:a<=s.length)(hb:s.length<=aJ):aR 86 [.aQ s,.int .i64 (a:Nat)] Z (.int .i64 (eR (s.drop a)).length):=by
 simp only[aJ] at hb;refine fq func86 ?_;simp only[aP,am,aT,Nat.reduceAdd];refine ep (λp:{n:Nat // a+n<=s.length/\((s.drop a).take n).all gh=aa}=>PD s Z a p.1) (λp=>s.length - p.1) ?_ ?_
 .refine a7.enter ⟨0,by simpa using ha,by simp⟩ ?_ bX.rfl bp.rfl;simp[PD,aj,am]
 .rintro⟨n,hn,dd⟩;simp only[PD,aj,am];rw[wrap_i64]
  by_cases az:a+n<s.length
  .have e:decide ((a:Int)+(n:Int)<s.length)=true:=by grind
   simp only[am,e];rw[show(a:Int)+(n:Int)=((a+n:Nat):Int) by simp];rw[wrap_i64];refine rF (uO az) ?_;simp only[am];refine cl (ak4 s[a+n].toNat Z) ?_;cases hg:sZ (s[a+n].toNat:Nat)
   .simp only[am];refine aN rfl (ab.a8 _) ⟨?_,rfl⟩;simp[V.erase,Lc dd hn (λ_=>hg)]
   .simp only[am];rw[wrap_i64];refine a7.again ⟨n+1,by omega,?_⟩ (by simp;omega) (by simp[am]) bX.rfl bp.rfl;have hd:n<(s.drop a).length:=by grind
    rw[F' hd,dd];simp only[lh,List.getElem_drop];exact hg
  .have e:decide ((a:Int)+(n:Int)<s.length)=false:=by grind
   simp only[am,e];refine aN rfl (ab.a8 _) ⟨?_,rfl⟩;simp[V.erase,Lc dd hn (λh=>absurd h az)]
def Hb(s:List UInt8)(Z:ab)(a D:Nat)(acc:List Tok):St :=
 ⟨[.aQ s,.any,.any,.ptr (.au 0) 0,.sl (.tk D) 3 (acc.map Tok.enc),.int .i64 (a:Nat)]++aj 82 .any,[[.int .i64 0,.int .i64 0]],Z.aU D acc.length⟩
def drop_cons{a:Nat}(h:a<s.length):s.drop a=s[a]::s.drop (a+1):=mb h
theorem anX(s:List UInt8)(Z:ab)(hb:s.length+1<=aJ):aR 50 [.aQ s] Z (.bw [.sl .no 3 ((eH s).1.map Tok.enc),xE (eH s).2]):=by
 simp only[aJ] at hb;generalize hR:eH s=R;refine fq func50 ?_;simp only[aP,am,aT,Nat.reduceAdd];refine ep (λp:{p:Nat × Nat × Nat × List Tok // Z.aS p.2.2.1=ah/\fO p.1 p.2.1 (s.drop p.2.1) p.2.2.2=R/\p.2.2.2.length<=p.2.1/\p.2.1<=s.length/\s.length<=p.2.1+p.1}=>Hb s Z p.1.2.1 p.1.2.2.1 p.1.2.2.2) (λp=>s.length - p.1.2.1) ?_ ?_
 .refine a7.uQ 0 λD aW=>⟨⟨(s.length,0,D,[]),aW,hR,by simp,by simp,by simp⟩,?_,rfl,rfl⟩
  simp[Hb,aj,ji]
 .rintro⟨⟨n,a,D,acc⟩,aW,hR,h1,h2,h3⟩;simp only at aW hR h1 h2 h3;simp only[Hb,aj,am];refine dc ?_ ?_
  .intro az;have az:a<s.length:=by simpa using az
   obtain⟨m,rfl⟩:∃m,n=m+1:=⟨n - 1,by omega⟩;rw[drop_cons az] at hR;simp only[fO,<-drop_cons az] at hR;have e9:=aa_ (s:=s) (a:=a);have hh:(s.drop (a+1)).head?.map UInt8.toNat=if h:a+1<s.length then U s[a+1].toNat else none:=by
    by_cases h:a+1<s.length
    .rw[Ed h,drop_cons h];rfl
    .rw[dif_neg h,S_ (by omega)];rfl
   simp only[am];refine rF (uO az) ?_;simp only[am];refine(atQ s a _ (by omega) (by simp only[aJ];omega)).mono ?_;rintro v σ' ⟨rfl,rfl⟩
   -- a step on,with or without a piece
   have again:∀(b:Nat) (ri : List Tok) (t:List V) (l:List (List V)),fO m b (s.drop b) ri = R->ri.length<=b->a<b->b<=s.length ->
    c_ t ([.aQ s,.any,.any,.ptr (.au 0) 0,.sl (.tk D) 3 (ri.map Tok.enc),.int .i64 (b:Nat)]++aj 82 .any)->l=[[.int .i64 0,.int .i64 0]] ->
    a7 ⟨t,l,Z.aU D ri.length⟩ λaV => ∃j:{p:Nat × Nat × Nat × List Tok // Z.aS p.2.2.1=ah/\fO p.1 p.2.1 (s.drop p.2.1) p.2.2.2=R/\p.2.2.2.length<=p.2.1/\p.2.1<=s.length/\s.length<=p.2.1+p.1},aV = Hb s Z j.1.2.1 j.1.2.2.1 j.1.2.2.2/\s.length - j.1.2.1<s.length - a:=λb ri t l e1 e2 e3 e4 e5 e6=>by
    refine a7.again (μ:=λp:{p:Nat × Nat × Nat × List Tok // Z.aS p.2.2.1=ah/\fO p.1 p.2.1 (s.drop p.2.1) p.2.2.2=R/\p.2.2.2.length<=p.2.1/\p.2.1<=s.length/\s.length<=p.2.1+p.1}=>s.length - p.1.2.1) (I:=λp=>Hb s Z p.1.2.1 p.1.2.2.1 p.1.2.2.2) ⟨(m,b,D,ri),aW,e1,e2,e4,by simp only;omega⟩ (by simp;omega) e5 (by rw[e6];exact bX.rfl) bp.rfl
   have M8:s[a].toNat=45->decide (((s[a].toNat:Nat):Int)=45)=true:=λh=>by simp[h]
   have ahH:¬s[a].toNat=45->decide (((s[a].toNat:Nat):Int)=45)=false:=λh=>aD (by omega)
   have w1:IntKind.i64.wrap ((a:Int)+1)=((a+1:Nat):Int):=by rw[wrap_i64];simp
   have wN:IntKind.i64.wrap ((a:Int)+((eR (s.drop a)).length:Nat))=((a+(eR (s.drop a)).length:Nat):Int):=by
    rw[show(a:Int)+((eR (s.drop a)).length:Nat)=((a+(eR (s.drop a)).length:Nat):Int) by simp];exact wrap_i64 (by omega) (by omega)
   have el:a+1<s.length->decide (((a+1:Nat):Int)<s.length)=true:=λh=>aG (by omega)
   have elf:¬a+1<s.length->decide (((a+1:Nat):Int)<s.length)=false:=λh=>aD (by omega)
   have eN:0<(eR (s.drop a)).length->decide ((0:Int)<((eR (s.drop a)).length:Nat))=true:=λh=>aG (by omega)
   have eNf:¬0<(eR (s.drop a)).length->decide ((0:Int)<((eR (s.drop a)).length:Nat))=false:=λh=>aD (by omega)
   have Ol:(s.take (a+(eR (s.drop a)).length)).drop a=eR (s.drop a):=MY
   by_cases s7:s[a].toNat=45/\(s.drop (a+1)).head?.map UInt8.toNat=U 45
   .obtain⟨vq,vC⟩:=s7;rw[aL ⟨vq,vC⟩] at hR;rw[hh] at vC;have hl:a+1<s.length:=by
     by_cases h:a+1<s.length
     .exact h
     .rw[dif_neg h] at vC;simp at vC
    rw[Ed hl] at vC;have e2:decide (((s[a+1].toNat:Nat):Int)=45)=true:=by simp at vC;simp[vC]
    simp only[am,M8 vq,w1,el hl];refine rF (uO hl) ?_;simp only[am,Nat.reduceAdd,e2];refine aN rfl (gV aW) ⟨?_,rfl⟩;simp[V.erase,a9,<-hR,xE,gx]
   .rw[aB s7] at hR
    by_cases vq:s[a].toNat=45
    case' neg =>
     simp only[am,ahH vq]
    case' pos =>
     by_cases hl:a+1<s.length
     case' pos =>
      have e2:decide (((s[a+1].toNat:Nat):Int)=45)=false:=by
       rw[hh,Ed hl] at s7;simp at s7 ⊢;intro h;exact s7 vq (by omega)
      simp only[am,M8 vq,w1,el hl];refine rF (uO hl) ?_;simp only[am,e2]
     case' neg =>
      simp only[am,M8 vq,w1,elf hl]
    all_goals
     by_cases hN:0<(eR (s.drop a)).length
     case' neg =>
      simp only[am,eNf hN]
     case' pos =>
      simp only[am,cK,eN hN,wN];refine Fw (by omega) (by omega) ?_;rw[Ol];simp only[am];refine(yr (eR (s.drop a)) _).mono ?_;rintro v σ' ⟨rfl,rfl⟩;cases EE:dp (eR (s.drop a))
      case' true =>
       rw[aL ⟨hN,EE⟩] at hR;simp only[am,cK,wN];refine Fw (by omega) (by omega) ?_;rw[Ol];simp only[am,Nat.reduceAdd];refine fg (by simp[aJ];omega) (by rw[aF,dD]) ?_;simp only[am,aF,dU,wN];have e:acc.length+1=(acc++[(⟨97,eR (s.drop a),a⟩:Tok)]).length:=by simp
       rw[e];rw[xw] at hR;exact again (a+(eR (s.drop a)).length) _ _ _ hR (by simp;omega) (by omega) (by omega) (by simp[aj,am,Tok.enc]) rfl
      case' false =>
       simp only[am]
     all_goals
      rw[aB (by simp_all)] at hR;refine(auN (s[a].toNat:Nat) _).mono ?_;rintro v σ' ⟨rfl,rfl⟩;cases G5:lD (s[a].toNat:Nat)
      .rw[aB (by simp[G5])] at hR;simp only[am]
       by_cases pW:s[a].toNat=32\/s[a].toNat=9
       .rw[aL pW] at hR
        by_cases h32:s[a].toNat=32
        case' pos =>
         simp only[am,aG (show((s[a].toNat:Nat):Int)=32 by omega),w1]
        case' neg =>
         simp only[am,aD (show ¬((s[a].toNat:Nat):Int)=32 by omega),aG (show((s[a].toNat:Nat):Int)=9 by omega),w1]
        all_goals exact again (a+1) acc _ _ hR (by omega) (by omega) (by omega) (by simp[aj,am]) rfl
       .rw[aB pW] at hR;simp only[am,Nat.reduceAdd,aD (show ¬((s[a].toNat:Nat):Int)=32 by omega),aD (show ¬((s[a].toNat:Nat):Int)=9 by omega)];refine aN rfl (gV aW) ⟨?_,rfl⟩;simp[V.erase,a9,<-hR,xE,gx]
      .rw[aL G5] at hR;simp only[am,cK,w1];refine Fw (by omega) (by omega) ?_;rw[U_ az];simp only[am,Nat.reduceAdd];refine fg (by simp[aJ];omega) (by rw[aF,dD]) ?_;simp only[am,aF,dU,w1];have e:acc.length+1=(acc++[(⟨(s[a].toNat:Nat),[s[a]],a⟩:Tok)]).length:=by simp
       rw[e];exact again (a+1) _ _ _ hR (by simp;omega) (by omega) (by omega) (by simp[aj,am,Tok.enc]) rfl
  .intro az;have az:a=s.length:=by simp at az;omega
   subst az;rw[Az] at hR;have qG : (acc,ah)=R:=by cases n<;>simpa [fO] using hR
   simp only[am,Nat.reduceAdd];refine aN rfl (gV aW) ⟨?_,rfl⟩;simp[V.erase,a9,<-qG,xE,gx]
def yC{l:List Tok}(h:j<l.length):(l.map Tok.enc)[((j:Nat):Int).toNat]?=U (jG l j).enc:=by simp[jG,h]
def C_{l:List Tok}(h:j<l.length):eP l j=(jG l j).kind:=by simp[eP,jG,h]
def HN{l:List Tok}(h:j<l.length):rL l j=(jG l j).pos:=by simp[rL,jG,h]
def vV(o:List Nat):List (List V):=o.map λ(j:Nat)=>[.int .i64 (j:Nat)]
def BD(o:List Nat):(vV o).length=o.length:=by simp[vV]
def ER(l:List Tok)(i:Nat)(v:V)(Z:ab):St :=
 ⟨[.sl .no 3 (l.map Tok.enc),.any,.any,v,.int .i64 (i:Nat)]++aj 58 .any,[],Z⟩
structure It(l:List Tok)(Z:ab)(R:Int) where
 n:Nat
 i:Nat
 o:List Nat
 v:V
 s:ab
 own:fI s 1 v (vV o)
 sub:sT Z s v
 res:kS l n i o=R
 sum:i+n=l.length
 le:o.length<=i
 mem:∀j∈o,j<l.length
theorem Ya{o:List Nat}(h:o≠[]):∃j,o.getLast?=U j/\(vV o)[((o.length:Int) - 1).toNat]?=U [.int .i64 (j:Nat)]/\j∈o:=by
 have hp:0<o.length:=Tm.2 h;refine⟨o[o.length - 1],?_,?_,dQ _⟩
 .grind
 .rw[show((o.length:Int) - 1).toNat=o.length - 1 by omega];simp[vV,bY (show o.length - 1<o.length by omega)]
theorem an0(l:List Tok)(Z:ab)(hb:l.length+1<=aJ):aR 88 [.sl .no 3 (l.map Tok.enc)] Z (.int .i64 (kS l l.length 0 [])):=by
 simp only[aJ] at hb;generalize hR:kS l l.length 0 []=R;refine fq func88 ?_ ⟨[3,21,27,31,37,39,51,53,55,59,61],[]⟩;simp only[aP,am,aT,jo];refine ep (λp:It l Z R=>ER l p.i p.v p.s) (λp=>p.n) ?_ ?_
 .refine a7.enter ⟨l.length,0,[],_,Z,fI.none,sT.start,hR,by simp,by simp,by simp⟩ ?_ bX.rfl bp.rfl;simp[ER,aj,am]
 .rintro⟨n,i,o,v2,gl,hO,hS,hR,Xz,hle,mj⟩;simp only[ER,aj,am,aF];refine dc ?_ ?_
  .intro az;have az:i<l.length:=by grind
   obtain⟨m,rfl⟩:∃m,n=m+1:=⟨n - 1,by omega⟩;simp only[kS] at hR;simp only[am,Nat.reduceAdd];refine ix (yC az) ?_;simp only[am,Tok.enc];rw[<-C_ az];refine(I3 (eP l i) _).mono ?_;rintro v gl ⟨rfl,rfl⟩;simp only[am];have again:∀(o:List Nat) (v:V) (s:ab) (t:List V),fI s 1 v (vV o)->sT Z s v->kS l m (i+1) o=R->o.length<=i+1->(∀j∈o,j<l.length) ->
    c_ t ([.sl .no 3 (l.map Tok.enc),.any,.any,v,.int .i64 ((i:Int)+1)]++aj 58 .any)->a7 ⟨t,[],s⟩ λaV => ∃j:It l Z R,aV = ER l j.i j.v j.s/\j.n<m+1:=λo v s t e1 e2 e3 e4 e5 e6 =>
    a7.again (I:=λp:It l Z R=>ER l p.i p.v p.s) (μ:=λp:It l Z R=>p.n) ⟨m,i+1,o,v,s,e1,e2,e3,by omega,e4,e5⟩ (by simp) (by simpa [ER] using e6) bX.rfl bp.rfl
   by_cases hc:closing (eP l i)=0
   case' neg =>
    simp only[am,jo,aD hc];refine fI.len hO ?_;simp only[am,BD]
    by_cases vp:24<=o.length
    .simp only[tE,hc,Fb,qq,vp,db] at hR;simp only[am,aG (show(24:Int)<=o.length by omega)];refine aN rfl hS.sub ⟨?_,rfl⟩;simp[V.erase,<-hR]
    simp only[tE,hc,Fb,qq,vp,cz,db] at hR;simp only[am,jo,aD (show ¬(24:Int)<=o.length by omega)];refine fI.app hO (by simp) rfl (by simp[BD,aJ];omega) ?_;intro v2' axR WQ hF;have hS:=hS.step hF;have e:vV o++[[.int .i64 (i:Nat)]]=vV (o++[i]):=by simp[vV]
    rw[e] at WQ;have hO:=WQ;have hle:(o++[i]).length<=i+1:=by grind
    have mj:∀j∈o++[i],j<l.length:=λj hj=>by
     grind
    generalize hq:o++[i]=o2 at hO hle mj hR;generalize hv:v2' = v3 at hO hS;generalize hs:axR = xq at hO hS;simp only[am]
   case' pos =>
    simp only[tE,hc,Dp,Ej,cz] at hR;have hle:o.length<=i+1:=by omega
    generalize hq:o=o2 at hO hle mj hR;generalize hv:v2=v3 at hO hS;generalize hs:gl=xq at hO hS;simp only[am,aG hc]
   all_goals
    refine(UI (eP l i) _).mono ?_;rintro v xq ⟨rfl,rfl⟩;cases jh:lM (eP l i)
    .rw[jh] at hR;simp only[am];rw[wrap_i64];exact again o2 v3 xq _ hO hS hR hle mj (by simp[aj,am])
    .rw[jh,aL rfl] at hR;simp only[am,jo];refine fI.len hO ?_;simp only[am,BD]
     by_cases ho:o2=[]
     .rw[ho] at hR;simp only[Mb] at hR;simp only[am,bu,ho,cZ,pH];refine aN rfl hS.sub ⟨?_,rfl⟩;simp[V.erase,<-hR]
     .have iH:0<o2.length:=Tm.2 ho;obtain⟨j,Oz,CK,EC⟩:=Ya ho;rw[Oz] at hR;simp only at hR;have uq:=mj j EC;simp only[am,jo,aD (show ¬(o2.length:Int)=0 by omega)];refine fI.len hO ?_;simp only[am,jo,BD];rw[wrap_i64];refine fI.idx hO (by omega) CK ?_;intro b cs rest _ dX fv;simp only[am,dX,fv];refine ix (yC uq) ?_;simp only[am,Tok.enc];rw[<-C_ uq];refine(I3 (eP l j) _).mono ?_;rintro v xq ⟨rfl,rfl⟩;simp only[am]
      by_cases xZ:closing (eP l j)=eP l i
      .rw[aL xZ] at hR;simp only[am,jo,aG xZ];refine fI.len hO ?_;simp only[am,jo,BD];rw[wrap_i64];refine fI.take hO (by omega) (m:=o2.length - 1) (by omega) (by simp[BD]) ?_;intro v4 hO4 hB;simp only[am];rw[wrap_i64];refine again o2.dropLast v4 xq _ ?_ ⟨hS.sub,λb hb=>hS.new b (by rw[<-hB];exact hb)⟩ hR (by simp;omega) (λj hj=>mj j (S9 _ hj)) (by simp[aj,am])
       have:(vV o2).take (o2.length - 1)=vV o2.dropLast:=by simp[vV,adk,Mc]
       rw[<-this];exact hO4
      .rw[aB xZ] at hR;simp only[am,aD xZ];refine aN rfl hS.sub ⟨?_,rfl⟩;simp[V.erase,<-hR]
  .intro az;have az:i=l.length:=by grind
   have hn:n=0:=by omega
   subst hn;simp only[kS] at hR;simp only[am,jo,Nat.reduceAdd];refine fI.len hO ?_;simp only[am,BD]
   by_cases ho:o=[]
   .rw[ho] at hR;simp only[Mb] at hR;simp only[am,ho,cZ,pH,show decide ((0:Int)<0)=aq from rfl];refine aN rfl hS.sub ⟨?_,rfl⟩;simp[V.erase,<-hR]
   .have iH:0<o.length:=Tm.2 ho;obtain⟨j,Oz,CK,EC⟩:=Ya ho;rw[Oz] at hR;simp only at hR;simp only[am,jo,aG (show(0:Int)<o.length by omega)];refine fI.len hO ?_;simp only[am,jo,BD];rw[wrap_i64];refine fI.idx hO (by omega) CK ?_;intro b cs rest _ dX fv;simp only[am,dX,fv];refine aN rfl hS.sub ⟨?_,rfl⟩;simp[V.erase,<-hR]
def ET(l:List Tok)(a i:Nat)(d:Int)(Z:ab):St :=
 ⟨[.sl .no 3 (l.map Tok.enc),.int .i64 (a:Nat),.any,.any,.any,.int .i64 d,.int .i64 (i:Nat)]++aj 28 .any,[],Z⟩
theorem art(l:List Tok)(a:Nat)(Z:ab)(ha:a<l.length)(hb:l.length+1<=aJ):aR 149 [.sl .no 3 (l.map Tok.enc),.int .i64 (a:Nat)] Z (.int .i64 (partner l a:Nat)):=by
 simp only[aJ] at hb;generalize hR:partner l a=R;unfold partner at hR;refine fq func149 ?_;simp only[aP,am,aT,Nat.reduceAdd];refine ep (λp:{p:Nat × Nat × Int // jy l a p.1 p.2.1 p.2.2=R/\p.2.1+p.1=l.length/\p.2.2<=p.2.1/\-(p.2.1:Int)<=p.2.2}=>ET l a p.1.2.1 p.1.2.2 Z) (λp=>p.1.1) ?_ ?_
 .refine a7.enter ⟨(l.length - a,a,0),hR,by simp only;omega,by simp,by simp⟩ ?_ bX.rfl bp.rfl;simp[ET,aj,am]
 .rintro⟨⟨n,i,d⟩,hR,Xz,GL,Cz⟩;simp only at hR Xz GL Cz;simp only[ET,aj,am,aF];refine dc ?_ ?_
  .intro az;have az:i<l.length:=by grind
   obtain⟨m,rfl⟩:∃m,n=m+1:=⟨n - 1,by omega⟩;simp only[jy] at hR;simp only[am];refine ix (yC az) ?_;simp only[am,Tok.enc];rw[<-C_ az];refine cl (I3 (eP l i) _) ?_;simp only[am];have again:∀(d' : Int) (t:List V),(if d' = 0 then i else jy l a m (i+1) d')=R->¬d' = 0->d' <= (i:Int)+1->-((i:Int)+1)<=d' ->
    c_ t ([.sl .no 3 (l.map Tok.enc),.int .i64 (a:Nat),.any,.any,.any,.int .i64 d',.int .i64 ((i:Int)+1)]++aj 28 .any) ->
    a7 ⟨t,[],Z⟩ λaV => ∃j:{p:Nat × Nat × Int // jy l a p.1 p.2.1 p.2.2=R/\p.2.1+p.1=l.length/\p.2.2<=p.2.1/\-(p.2.1:Int)<=p.2.2},aV = ET l a j.1.2.1 j.1.2.2 Z/\j.1.1<m+1:=λd' t e1 e2 e3 e4 e5 =>
    a7.again (I:=λp:{p:Nat × Nat × Int // jy l a p.1 p.2.1 p.2.2=R/\p.2.1+p.1=l.length/\p.2.2<=p.2.1/\-(p.2.1:Int)<=p.2.2}=>ET l a p.1.2.1 p.1.2.2 Z) (μ:=λp=>p.1.1)
     ⟨(m,i+1,d'),by rw[aB e2] at e1;exact e1,by simp only;omega,by simp only;omega,by simp only;omega⟩ (by simp) (by simpa [ET] using e5) bX.rfl bp.rfl
   have w1:IntKind.i64.wrap (d+1)=d+1:=wrap_i64 (by omega) (by omega);have w2:IntKind.i64.wrap (d - 1)=d - 1:=wrap_i64 (by omega) (by omega);have w3:IntKind.i64.wrap (d+1 - 1)=d+1 - 1:=wrap_i64 (by omega) (by omega);have wi:IntKind.i64.wrap ((i:Int)+1)=(i:Int)+1:=wrap_i64 (by omega) (by omega)
   by_cases hc:closing (eP l i)=0
   case' neg =>
    simp only[tE,hc,Fb,db] at hR;simp only[am,aD hc,w1]
   case' pos =>
    simp only[tE,hc,Dp,cz,Int.add_zero] at hR;simp only[am,aG hc]
   all_goals
    refine ix (yC az) ?_;simp only[am,Tok.enc];rw[<-C_ az];refine cl (UI (eP l i) _) ?_;cases jh:lM (eP l i)
    all_goals rw[jh] at hR
    all_goals simp only[dK,cz,db,Int.sub_zero] at hR
    all_goals simp only[am,w2,w3]
    all_goals refine dc (λh0=>?_) (λh0=>?_)
    all_goals simp only[cU,Gh] at h0
    all_goals simp only[am,wi]
    all_goals first
     | (rw[aL h0] at hR
        refine aN rfl (ab.a8 _) ⟨?_,rfl⟩;simp[V.erase,hR])
     | exact again d _ hR h0 (by omega) (by omega) (by simp[aj,am])
     | exact again (d+1) _ hR h0 (by omega) (by omega) (by simp[aj,am])
     | exact again (d - 1) _ hR h0 (by omega) (by omega) (by simp[aj,am])
     | exact again (d+1 - 1) _ hR h0 (by omega) (by omega) (by simp[aj,am])
  .intro az;have az:i=l.length:=by grind
   have hn:n=0:=by omega
   subst hn;simp only[jy] at hR;simp only[am];refine aI ?_;simp[V.erase,hR]
def ES(l:List Tok)(a:Nat)(to:Nat)(i D:Nat)(out:List aA)(Z:ab):St :=
 ⟨[.sl .no 3 (l.map Tok.enc),.int .i64 (a:Nat),.int .i64 (to:Nat),.any,.any,.any,.any,.sl (.tk D) 5 (cE out),.int .i64 (i:Nat)]++aj 46 .any,[],Z.aU D out.length⟩
def Vw(a:List aA)(t:aA):cE (a++[t])=cE a++[t.enc]:=by simp[qD]
theorem aA.Vv{t:Tok}{ks:List aA}{e:Int}:(aA.mk t ks e).enc=[.int .u8 t.kind,.aQ t.an,.int .i64 t.pos,.sl .no 5 (cE ks),.int .i64 e]:=by rfl
theorem avO(l:List Tok)(hb:l.length+1<=aJ):∀(n from_ to:Nat) (Z:ab),l.length<=n+from_->from_<=l.length->to<=l.length ->
 aR 89 [.sl .no 3 (l.map Tok.enc),.int .i64 (from_:Nat),.int .i64 (to:Nat)] Z (.sl .no 5 (cE (kB l n from_ to))):=by
 have cF := hb;simp only[aJ] at cF;intro n;induction n using Nat.strongRecOn with
 | ind n ih =>
 intro a to Z hn ha hto;generalize hR:kB l n a to=R;refine fq func89 ?_;simp only[aP,am,aT,Nat.reduceAdd];refine ep (λp:{p:Nat × Nat × Nat × List aA // Z.aS p.2.2.1=ah/\p.2.2.2++kB l p.1 p.2.1 to=R/\p.1<=n/\l.length<=p.1+p.2.1/\p.2.1<=l.length/\p.2.2.2.length<=p.2.1}=>ES l a to p.1.2.1 p.1.2.2.1 p.1.2.2.2 Z) (λp=>l.length - p.1.2.1) ?_ ?_
 .refine a7.uQ 0 λD aW=>⟨⟨(n,a,D,[]),aW,hR,by simp,hn,ha,by simp⟩,?_,rfl,rfl⟩
  simp[ES,aj,ji,cE]
 .rintro⟨⟨m,i,D,out⟩,aW,hR,ya,hmi,hi,Bj⟩;simp only at aW hR ya hmi hi Bj;simp only[ES,aj,am];refine dc ?_ ?_
  .intro az;have az:i<to:=by grind
   have uo:i<l.length:=by omega
   obtain⟨m,rfl⟩:∃k,m=k+1:=⟨m - 1,by omega⟩;simp only[kB,az,db] at hR;obtain⟨GY,EF⟩:=HL uo;have wi:∀j:Nat,j<l.length->IntKind.i64.wrap ((j:Int)+1)=((j+1:Nat):Int):=λj hj=>by rw[wrap_i64];simp
   simp only[am];refine ix (yC uo) ?_;simp only[am,Tok.enc];refine ix (yC uo) ?_;simp only[am,Nat.reduceAdd,Tok.enc];refine ix (yC uo) ?_;simp only[am,Tok.enc];rw[<-C_ uo,<-HN uo];refine(I3 (eP l i) _).mono ?_;rintro v gl ⟨rfl,rfl⟩;have again:∀(b:Nat) (t:aA) (st:List V) (ls:List (List V)),out++(t::kB l m b to)=R->i<b->b<=l.length ->
    c_ st ([.sl .no 3 (l.map Tok.enc),.int .i64 (a:Nat),.int .i64 (to:Nat),.any,.any,.any,.any,.sl (.tk D) 5 (cE (out++[t])),.int .i64 (b:Nat)]++aj 46 .any) ->
    a7 ⟨st,ls,Z.aU D (out.length+1)⟩ λaV => ∃j:{p:Nat × Nat × Nat × List aA // Z.aS p.2.2.1=ah/\p.2.2.2++kB l p.1 p.2.1 to=R/\p.1<=n/\l.length<=p.1+p.2.1/\p.2.1<=l.length/\p.2.2.2.length<=p.2.1},aV = ES l a to j.1.2.1 j.1.2.2.1 j.1.2.2.2 Z/\l.length - j.1.2.1<l.length - i:=λb t st ls e1 e2 e3 e4=>by
    have e:out.length+1=(out++[t]).length:=by simp
    rw[e];exact a7.nh (I:=λp:{p:Nat × Nat × Nat × List aA // Z.aS p.2.2.1=ah/\p.2.2.2++kB l p.1 p.2.1 to=R/\p.1<=n/\l.length<=p.1+p.2.1/\p.2.1<=l.length/\p.2.2.2.length<=p.2.1}=>ES l a to p.1.2.1 p.1.2.2.1 p.1.2.2.2 Z) (μ:=λp=>l.length - p.1.2.1)
     ⟨(m,b,D,out++[t]),aW,by simpa using e1,by simp only;omega,by simp only;omega,e3,by simp;omega⟩ (by simp;omega) e4 (by simp[ES,am]) bp.rfl rfl rfl
   by_cases hc:closing (eP l i)=0
   .simp only[tE,hc,Dp,cz] at hR;simp only[am,Nat.reduceAdd,aG hc];refine fg (by simp[eE,aJ];omega) (by rw[eE,dD]) ?_;simp only[am,eE,dU,wi i uo];exact again (i+1) _ _ _ hR (by omega) (by omega) (by simp[aj,am,Vw,aA.Vv,cE,C_ uo,HN uo])
   .simp only[tE,hc,Fb,db] at hR;simp only[am,aD hc];refine(art l i _ uo hb).mono ?_;rintro v gl ⟨rfl,rfl⟩;simp only[am,wi i uo];refine(ih m (by omega) (i+1) (partner l i) _ (by omega) (by omega) (by omega)).mono ?_;rintro v gl ⟨rfl,rfl⟩;simp only[am];refine ix (yC EF) ?_;simp only[am,Nat.reduceAdd,Tok.enc];rw[<-HN EF];refine fg (by simp[eE,aJ];omega) (by rw[eE,dD]) ?_;simp only[am,eE,dU,wi _ EF];exact again (partner l i+1) _ _ _ hR (by omega) (by omega) (by simp[aj,am,Vw,aA.Vv,C_ uo,HN uo])
  .intro az;have az:¬i<to:=by grind
   have hE:kB l m i to=[]:=by cases m<;>simp[kB,az]
   rw[hE,eC] at hR;simp only[am];refine aN rfl (gV aW) ⟨?_,rfl⟩;simp[V.erase,<-hR]
def avL(l:List Tok)(Z:ab)(hb:l.length+1<=aJ):aR 51 [.sl .no 3 (l.map Tok.enc)] Z (.bw [.sl .no 5 (cE (iy l).1),kq (iy l).2]):=by
 refine fq func51 ?_;simp only[aP,am,aT,Nat.reduceAdd];refine cl (an0 l Z hb) ?_;have hf:=Nj l l.length 0 [] (by omega) (by simp);generalize hg:kS l l.length 0 []=f at hf ⊢
 by_cases h0:0<=f
 .obtain⟨j,rfl⟩:=yN h0;have hj:j<l.length:=by omega
  simp only[am,aG h0];refine ix (yC hj) ?_;simp only[am,Nat.reduceAdd,Tok.enc];rw[<-HN hj];refine aI ?_;simp[V.erase,a9,iy,hg,kq,dS,gx,cE]
 .simp only[am,aF,aD h0];refine cl (avO l hb l.length 0 l.length Z (by omega) (by omega) (by omega)) ?_;simp only[am,Nat.reduceAdd];refine aI ?_;simp[V.erase,a9,iy,hg,h0,kq,dS,gx]
def PI(n:Nat)(g:FuncId)(cap:List V)(f:Nat->List UInt8)(Z:ab)(i D:Nat):St :=
 ⟨[.int .i64 (n:Nat),.fn (.func g) [] cap,.any,.any,.any,.sl (.tk D) 1 (fS (b_ ((bH i).map f))),.any,.int .i64 (n:Nat),.int .i64 (i:Nat)]++aj 15 .any,[],Z.aU D (b_ ((bH i).map f)).length⟩
def aao(f:Nat->List UInt8)(i:Nat):b_ ((bH (i+1)).map f)=b_ ((bH i).map f)++(if 0<i then [44] else [])++f i:=by rw[il,gm,DW,PQ];simp
theorem asM(f:Nat->List UInt8){n:Nat}(h:i<=n):(b_ ((bH i).map f)).length<=(b_ ((bH n).map f)).length:=by
 induction n with
 | zero =>
  grind
 | succ n ih =>
  by_cases hi:i=n+1
  .grind
  .have:=ih (by omega)
   rw[aao];simp only[bL];omega
theorem UU{n:Nat}{f:Nat->List UInt8}(so:bK cap=aa)(hn:n<=aJ)(hb:(b_ ((bH n).map f)).length<=aJ)
 (h:∀i,i<n->∀bx:ab,bx.box=Z.box->cy prog g (.int .i64 (i:Nat)::cap) bx λv σ' => v = .aQ (f i)/\σ' = bx) :
 aR 235 [.int .i64 (n:Nat),.fn (.func g) [] cap] Z (.aQ (b_ ((bH n).map f))):=by
 refine fq func235 ?_;simp only[aP,am,aT,Nat.reduceAdd];refine ep (λp:{p:Nat × Nat // Z.aS p.2=ah/\p.1<=n}=>PI n g cap f Z p.1.1 p.1.2) (λp=>n - p.1.1) ?_ ?_
 .refine a7.uQ 0 λD aW=>⟨⟨(0,D),aW,by simp⟩,?_,rfl,rfl⟩
  simp[PI,aj,ji,b_,fS]
 .rintro⟨⟨i,D⟩,aW,hi⟩;simp only at aW hi;simp only[PI,aj,am];refine dc ?_ ?_
  .intro az;have az:i<n:=by grind
   have hs:=aao f i;have hm:=asM f (i:=i+1) (n:=n) (by omega);simp only[aJ] at hn hb;rw[hs] at hm;simp only[bL] at hm;have wi:IntKind.i64.wrap ((i:Int)+1)=(i:Int)+1:=wrap_i64 (by omega) (by omega);simp only[am]
   by_cases h0:0<i
   case' pos =>
    rw[aL h0] at hs hm;simp only[am,aG (show(0:Int)<i by omega)];refine fg (by simp[ko,aJ];simp at hm;omega) (by rw[ko,dD]) ?_;simp only[am,dU];rw[show fS (b_ ((bH i).map f))++[[.int .u8 44]]=fS (b_ ((bH i).map f)++[44]) by simp[fS],show(fS (b_ ((bH i).map f))).length+1=(b_ ((bH i).map f)++[44]).length by simp[fS]]
   case' neg =>
    rw[aB h0,eC] at hs;rw[aB h0] at hm;simp only[am,aD (show ¬(0:Int)<i by omega)]
   all_goals
    refine⟨so,?_⟩;refine(h i az (Z.aU D _) rfl).mono ?_;rintro v σ' ⟨rfl,rfl⟩;simp only[am,cK];refine⟨_,rfl,?_⟩;refine fg (by simp[ko,aJ];simp at hm;omega) (by rw[ko,dD]) ?_;simp only[am,dU,wi];rw[<-Gj,ko,ko,<-bL,<-hs];exact a7.again ⟨(i+1,D),aW,az⟩ (by simp;omega) (by simp[am]) bX.rfl bp.rfl
  .intro az;have az:i=n:=by grind
   subst az;simp only[am,cK];refine⟨_,_,rfl,?_⟩;refine aN rfl (gV aW) ⟨?_,rfl⟩;rfl
def apb{n:Nd}(hi:i<n.ak.length)(hq:Z.box q=U n.enc):aR 236 [.int .i64 (i:Nat),.ptr (.out q) 0] Z (.aQ (n.ak[i].an)):=by
 refine fq func236 ?_;simp only[aP,am,aT,Nat.reduceAdd];simp only[am,hq,Nd.fl];refine ix (o5 (show n.ak[i]?=U n.ak[i] by simp[hi])) ?_;simp only[am,aC.enc];exact rt
def ani{n:Nd}(hi:i<n.ae.length)(hq:Z.box q=U n.enc)(ih:∀m∈n.ae,∀Z,aR 121 [.agg m.enc] Z (.aQ m.dn)):
 aR 237 [.int .i64 (i:Nat),.ptr (.out q) 0] Z (.aQ (n.ae[i].dn)):=by
 refine fq func237 ?_;simp only[aP,am,aT,Nat.reduceAdd];simp only[am,hq,Nd.fl];refine ix (gH (show n.ae[i]?=U n.ae[i] by simp[hi])) ?_;simp only[am,Nd.al];refine cl (ih n.ae[i] (dQ hi) Z) ?_;simp only[am];exact rt
theorem aan(l:List G)(f:G->List UInt8)(d:List UInt8):(bH l.length).map (λi=>if h:i<l.length then f l[i] else d)=l.map f:=by
 apply List.ext_getElem?
 grind
def QC{n:Nd}(hw:n.wt<=aJ):aR 185 [.agg n.enc] Z (.aQ (gX n.ak)):=by
 have h1:=FK n.ak;have h2:n.ak.length<=fk n.ak:=by
  unfold fk;generalize n.ak=l;induction l with
  | nil=>simp
  | cons w ws ih=>simp only[cQ,pJ,da];omega
 have h3:fk n.ak<=n.wt:=by cases n;simp only[Nd.wt,Nd.ak];omega
 have e:b_ ((bH n.ak.length).map (λi=>if h:i<n.ak.length then n.ak[i].an else []))=gX n.ak:=by rw[aan n.ak (λw=>w.an) []];rfl
 refine fq func185 ?_ ⟨[1],[]⟩;simp only[aP,am,aT,Nat.reduceAdd,Nd.al];refine lT λq hq=>?_
 simp only[am,aF,Nd.fl];refine(UU (f:=λi=>if h:i<n.ak.length then n.ak[i].an else []) rfl (by omega) (by rw[e];omega) (λi hi bx h1=>?_)).mono ?_
 .rw[Ed hi];exact apb hi (by rw[h1];exact ab.fE _ _ _)
 rintro v σ' ⟨rfl,rfl⟩;simp only[am];refine aN rfl (jF hq) ⟨?_,rfl⟩;rw[e];simp[V.erase]
def Hf{n:Nd}(hw:n.wt<=aJ)(ih:∀m∈n.ae,∀Z,aR 121 [.agg m.enc] Z (.aQ m.dn)):aR 186 [.agg n.enc] Z (.aQ (b_ (dV n.ae))):=by
 have h1:=Hh n.ae (xl n.ae);have h2:n.ae.length<=gd n.ae:=by
  rw[Ip];generalize n.ae=l;induction l with
  | nil=>simp
  | cons w ws ih=>simp only[cQ,pJ,da];omega
 have h3:gd n.ae<=n.wt:=by cases n;simp only[Nd.wt,Nd.ae];omega
 have e:b_ ((bH n.ae.length).map (λi=>if h:i<n.ae.length then n.ae[i].dn else []))=b_ (dV n.ae):=by rw[aan n.ae (λw=>w.dn) [],Aj]
 refine fq func186 ?_ ⟨[1],[]⟩;simp only[aP,am,aT,Nat.reduceAdd,Nd.al];refine lT λq hq=>?_
 simp only[am,aF,Nd.fl];refine(UU (f:=λi=>if h:i<n.ae.length then n.ae[i].dn else []) rfl (by omega) (by rw[e];omega) (λi hi bx h1=>?_)).mono ?_
 .rw[Ed hi];exact ani hi (by rw[h1];exact ab.fE _ _ _) ih
 rintro v σ' ⟨rfl,rfl⟩;simp only[am];refine aN rfl (jF hq) ⟨?_,rfl⟩;rw[e];simp[V.erase]
def VR{n:Nd}(ih:∀m∈n.ae,∀Z,aR 121 [.agg m.enc] Z (.aQ m.dn)):aR 187 [.agg n.enc] Z (.aQ (pX (dV n.ae))):=by
 refine fq func187 ?_;simp only[aP,am,aT,Nat.reduceAdd,Nd.al];simp only[am,aF,Nd.fl];cases hk:n.ae with
 | nil =>
  simp only[am,bu,fp,cZ,pH];refine aI ?_;rfl
 | cons m ms =>
  simp only[am,aD (show ¬(((m::ms).length:Nat):Int)=0 by simp;omega),Nd.fl,hk];refine lz (c:=m.enc) (by simp) ?_;simp only[am,Nd.al];refine cl (ih m (by rw[hk];simp) Z) ?_;simp only[am];refine aI ?_;rfl
def ats{n:Nd}(hw:n.wt<=aJ)(ih:∀m∈n.ae,∀Z,aR 121 [.agg m.enc] Z (.aQ m.dn)):
 aR 188 [.agg n.enc] Z (.aQ (([91]++b_ (dV n.ae))++(if 0<n.ak.length then [124]++gX n.ak else [])++[93])):=by
 have h1:=Hh n.ae (xl n.ae);have h2:=FK n.ak;have h3:gd n.ae+fk n.ak+4<=n.wt:=by cases n;simp only[Nd.wt,Nd.ae,Nd.ak];omega
 refine fq func188 ?_;simp only[aP,am,aT,Nat.reduceAdd,Nd.al];refine cl (Hf hw ih) ?_;simp only[am];refine⟨by simp;omega,?_⟩;simp only[am,aF,Nd.fl]
 by_cases h0:0<n.ak.length
 .simp only[am,Nd.al,aG (show(0:Int)<n.ak.length by omega)];refine cl (QC hw) ?_;simp only[am];refine⟨by simp;omega,by simp;omega,by simp;omega,?_⟩;refine aI ?_;simp[V.erase,h0]
 .simp only[am,aD (show ¬(0:Int)<n.ak.length by omega)];refine⟨by simp;omega,?_⟩;refine aI ?_;simp[V.erase,h0]
theorem avB:∀(k:Nat) (n:Nd) (Z:ab),n.wt<=k->n.wt<=aJ->aR 121 [.agg n.enc] Z (.aQ n.dn):=by
 intro k;induction k with
 | zero=>intro n Z h _;cases n;simp only[Nd.wt] at h;omega
 | succ k sy =>
  intro n Z hk hw;have ih:∀m∈n.ae,∀Z,aR 121 [.agg m.enc] Z (.aQ m.dn):=λm hm Z=>by
   have h1:=DM hm;have h2:gd n.ae+4<=n.wt:=by cases n;simp only[Nd.wt,Nd.ae];omega
   grind
  have h1:=Hh n.ae (xl n.ae);have h2:=FK n.ak;have h3:n.an.length+gd n.ae+fk n.ak+4<=n.wt:=by cases n;simp only[Nd.wt,Nd.ae,Nd.ak,Nd.an];omega
  have h4:=Oq n.ae (xl n.ae);have e:n.dn=if n.kind=1\/n.kind=2 then n.an else if n.kind=3 then [123]++gX n.ak++[125] else if n.kind=4 then [40]++b_ (dV n.ae)++[41] else if n.kind=5 then [91]++b_ (dV n.ae)++[93]
   else if n.kind=6 then n.an++[58,123]++gX n.ak++[125] else if n.kind=7 then [35]++pX (dV n.ae) else if n.kind=8 then [43,40]++b_ (dV n.ae)++[41] else if n.kind=9 then [38,40]++b_ (dV n.ae)++[41]
   else if n.kind=10 then([91]++b_ (dV n.ae))++(if 0<n.ak.length then [124]++gX n.ak else [])++[93] else if n.kind=11 then n.an++[61]++pX (dV n.ae) else []:=by cases n;rw[Nd.dn];rfl
  rw[e];refine fq func121 ?_;simp only[aP,am,aT,Nat.reduceAdd,Nd.al];simp only[am,Nd.fl]
  by_cases k1:n.kind=1
  .simp only[am,aG k1,Nd.fl];refine aI ?_;simp[V.erase,k1]
  simp only[am,aD k1]
  by_cases k2:n.kind=2
  .simp only[am,aG k2,Nd.fl];refine aI ?_;simp[V.erase,k2]
  simp only[am,aD k2]
  by_cases k3:n.kind=3
  .simp only[am,Nd.al,aG k3];refine cl (QC hw) ?_;simp only[am];refine⟨by simp;omega,by simp;omega,?_⟩;refine aI ?_;simp[V.erase,k3]
  simp only[am,aD k3]
  by_cases k4:n.kind=4
  .simp only[am,Nd.al,aG k4];refine cl (Hf hw ih) ?_;simp only[am];refine⟨by simp;omega,by simp;omega,?_⟩;refine aI ?_;simp[V.erase,k4]
  simp only[am,aD k4]
  by_cases k5:n.kind=5
  .simp only[am,Nd.al,aG k5];refine cl (Hf hw ih) ?_;simp only[am];refine⟨by simp;omega,by simp;omega,?_⟩;refine aI ?_;simp[V.erase,k5]
  simp only[am,aD k5]
  by_cases k6:n.kind=6
  .simp only[am,Nd.al,aG k6,Nd.fl];refine⟨by simp;omega,?_⟩;refine bn.intro (QC hw) ?_;simp only[am,Nd.fl];refine⟨by simp;omega,by simp;omega,?_⟩;refine aI ?_;simp[V.erase,k6]
  simp only[am,aD k6]
  by_cases k7:n.kind=7
  .simp only[am,Nd.al,aG k7];refine cl (VR ih) ?_;simp only[am];refine⟨by simp;omega,?_⟩;refine aI ?_;simp[V.erase,k7]
  simp only[am,aD k7]
  by_cases k8:n.kind=8
  .simp only[am,Nd.al,aG k8];refine cl (Hf hw ih) ?_;simp only[am];refine⟨by simp;omega,by simp;omega,?_⟩;refine aI ?_;simp[V.erase,k8]
  simp only[am,aD k8]
  by_cases k9:n.kind=9
  .simp only[am,Nd.al,aG k9];refine cl (Hf hw ih) ?_;simp only[am];refine⟨by simp;omega,by simp;omega,?_⟩;refine aI ?_;simp[V.erase,k9]
  simp only[am,aD k9]
  by_cases rG:n.kind=10
  .simp only[am,Nd.al,aG rG];refine cl (ats hw ih) ?_;simp only[am];refine aI ?_;simp[V.erase,rG]
  simp only[am,aD rG]
  by_cases yh:n.kind=11
  .simp only[am,Nd.al,aG yh,Nd.fl];refine⟨by simp;omega,?_⟩;refine bn.intro (VR ih) ?_;simp only[am,Nd.fl];refine⟨by simp;omega,?_⟩;refine aI ?_;simp[V.erase,yh]
  simp only[am,aD yh];refine aI ?_;simp[V.erase,k1,k2,k3,k4,k5,k6,k7,k8,k9,rG,yh]
end Go.Proofs.Tryz
