/-
  Part 6 of the proof of JudgeLineUptoCardSaid: a logic over the model, the forms of the functions that the law reaches, and what they compute.
-/
import Derived.Test.YtkeidlpchmepkaaGreatDoorProg
import Derived.Test.YtkeidlpchmepkaaGreatDoorLine5
set_option linter.unusedVariables false
set_option linter.unusedSimpArgs false
set_option linter.defProp false
set_option linter.unusedSectionVars false
set_option maxRecDepth 4000
set_option maxHeartbeats 4000000
open Option renaming some->U,none->ah
open Bool renaming true->aa,false->aq
open List renaming replicate->aj,range->bG,getD->gy,zipWith->lQ
open Eq renaming mpr->cI
open Ne renaming symm->fL
namespace Go.Proofs.Tryz
open Go.Am
def ae2:aR prog 126 (sq [rg 4 [oi 0],rg 5 [oi 0],bl 0 (sq [sq [rg 6 [om 1,om 5,nb .add 6,om 0,nT,nb .lss 8,gA,om 0,om 1,om 5,nb .add 14,nS 13,oC 178 [17],gZ],cx 19 0],.block 1 (rg 20 [ic 5])]),rg 22 [om 5,o1 4],.ret]) [.tmp 4] 23:=aS func126
def ae4:aR prog 128 (sq [rg 2 [oz 2],rg 5 [oq (.km 1 [(.c (.int .u8 35)),(.c (.int .u8 43)),(.c (.int .u8 38)),(.c (.int .u8 40)),(.c (.int .u8 41)),(.c (.int .u8 123)),(.c (.int .u8 125)),(.c (.int .u8 91)),(.c (.int .u8 93)),(.c (.int .u8 44)),(.c (.int .u8 58)),(.c (.int .u8 61)),(.c (.int .u8 124)),(.c (.int .u8 60))]),o1 3],sq [rg 4 [oi 0],bl 0 (sq [sq [rg 6 [om 4,om 3,nL,nb .lss 6],cx 9 0],.block 1 (sq [rg 12 [om 3,om 4,nA 1 12,no,om 0,nb .eql 15],cr 17 2 [oq (.mv (.c (.bool aa)))]]),rg 10 [ic 4]])],rg 2 [oz 2],.ret]) [.tmp 2] 18:=aS func128
def I5:List (List V):=vr.map λs=>[.int .u8 s]
def M1(c:Int)(Z:ab)(i:Nat):St :=
 ⟨[.int .u8 c,.any,.any,.sl .a9 1 I5,.int .i64 (i:Nat)]++aj 13 .any,[],Z⟩
def asq(c:Int)(Z:ab):aT 128 [.int .u8 c] Z (.bool (rW c)):=by
 refine ae4.aP ?_;simp only[aO,am,aX,Nat.reduceAdd];rw[show [[V.int .u8 35],[V.int .u8 43],[V.int .u8 38],[V.int .u8 40],[V.int .u8 41],[V.int .u8 123],[V.int .u8 125],[V.int .u8 91],[V.int .u8 93],[V.int .u8 44],[V.int .u8 58],[V.int .u8 61],[V.int .u8 124],[V.int .u8 60]]=I5 from rfl];refine dP (λp:{i:Nat // i<=14/\(vr.take i).any (λs=>decide (s=c))=aq}=>M1 c Z p.1) (λp=>14 - p.1) ?_ ?_
 .refine a7.enter ⟨0,by simp,by simp⟩ ?_ bV.rfl br.rfl;simp[M1,aj,am]
 .rintro⟨i,hi,ha⟩;simp only[M1,aj,am];rw[show I5.length=14 from rfl];refine cO ?_ ?_
  .intro an;have an:i<14:=by simp at an;omega
   have hs:i<vr.length:=an;simp only[am];refine ka (c:=[.int .u8 vr[i]]) (by simp[I5,hs]) ?_;simp only[am];refine cO ?_ ?_
   .intro h;have h:vr[i]=c:=by simpa using h
    simp only[am];refine aN rfl (ab.bc _) ⟨?_,rfl⟩
    have:rW c=true:=by
     simp only[rW,uu];exact⟨vr[i],dq hs,by simp[h]⟩
    simp[V.erase,this]
   .intro h;have h:¬vr[i]=c:=by simpa using h
    simp only[am];rw[wrap_i64];refine a7.again ⟨i+1,by omega,?_⟩ (by simp;omega) (by simp[am]) bV.rfl br.rfl;rw[Aa (bN hs),List.any_append,ha];simp[h]
  .intro an;have an:i=14:=by simp at an;omega
   subst an;simp only[am];refine aC ?_;simp[V.erase,rW,show vr.any (λs=>decide (s=c))=aq from ha]
def I0{s:List UInt8}{a n:Nat}(h:((s.drop a).take n).all iy=aa)(hn:a+n<=s.length)(he:∀hl:a+n<s.length,iy s[a+n]=aq):(eH (s.drop a)).length=n:=by
 have key:∀(r:List UInt8) (n:Nat),(r.take n).all iy=aa->n<=r.length->(∀hl:n<r.length,iy r[n]=aq)->(eH r).length=n:=by
  intro r;induction r with
  | nil=>intro n _ h2 _;simp at h2;subst h2;rfl
  | cons c r ih =>
   intro n h1 h2 h3;cases n with
   | zero=>have:=h3 (by simp);simp at this;simp[eH,this]
   | succ n =>
    simp only[vI,D7,b_] at h1
    have:=ih n h1.2 (by simpa using h2) (λhl=>h3 (Nat.succ_lt_succ hl))
    simp only[eH] at this;simp[eH,h1.1,this]
 refine key _ _ h (by simp;omega) λhl=>?_
 have im : a+n<s.length:=by simp at hl;omega
 have:=he im
 simpa using this
def M0(s:List UInt8)(Z:ab)(a n:Nat):St :=
 ⟨[.aH s,.int .i64 (a:Nat),.any,.any,.any,.int .i64 (n:Nat)]++aj 17 .any,[],Z⟩
def arJ(s:List UInt8)(a:Nat)(Z:ab)(ha:a<=s.length)(hb:s.length<=aJ):aT 126 [.aH s,.int .i64 (a:Nat)] Z (.int .i64 (eH (s.drop a)).length):=by
 simp only[aJ] at hb;refine ae2.aP ?_;simp only[aO,am,aX,Nat.reduceAdd];refine dP (λp:{n:Nat // a+n<=s.length/\((s.drop a).take n).all iy=aa}=>M0 s Z a p.1) (λp=>s.length - p.1) ?_ ?_
 .refine a7.enter ⟨0,by simpa using ha,by simp⟩ ?_ bV.rfl br.rfl;simp[M0,aj,am]
 .rintro⟨n,hn,cT⟩;simp only[M0,aj,am];rw[wrap_i64]
  by_cases an:a+n<s.length
  .have e:decide ((a:Int)+(n:Int)<s.length)=true:=by simp;omega
   simp only[am,e];rw[show(a:Int)+(n:Int)=((a+n:Nat):Int) by simp];rw[wrap_i64];refine pX (s7 an) ?_;simp only[am];refine cl (ajo s[a+n].toNat Z) ?_;cases hg:sA (s[a+n].toNat:Nat)
   .simp only[am];refine aN rfl (ab.bc _) ⟨?_,rfl⟩;simp[V.erase,I0 cT hn (λ_=>hg)]
   .simp only[am];rw[wrap_i64];refine a7.again ⟨n+1,by omega,?_⟩ (by simp;omega) (by simp[am]) bV.rfl br.rfl;have hd:n<(s.drop a).length:=by simp;omega
    rw[Ei hd,cT];simp only[gJ,List.getElem_drop];exact hg
  .have e:decide ((a:Int)+(n:Int)<s.length)=false:=by simp;omega
   simp only[am,e];refine aN rfl (ab.bc _) ⟨?_,rfl⟩;simp[V.erase,I0 cT hn (λh=>absurd h an)]
def aia:aR prog 67 (sq [rg 2 [oz 8,oM [0,0]],rg 4 [oz 8],rg 5 [oi 0],bl 0 (sq [sq [rg 8 [om 5,om 0,nT,nb .lss 8],cx 11 0],.block 1 (sq [rg 12 [om 0,om 5,nS 12,o1 6],rg 15 [om 0,om 5,oC 126 [15,16],o1 7],sq [rg 18 [om 6,nu .eql 45,gA,om 5,nB .add 1,om 0,nT,nb .lss 22,gZ,gA,om 0,om 5,nB .add 1,nS 28,nu .eql 45,gZ],cr 33 34 [om 4,oW [0,0] [],ot 2 34,o2 2 3]],rg 36 [om 7,nB .gtr 0,gA,om 0,om 5,om 5,om 7,nb .add 41,oK 39 40 43,oC 127 [44],gZ],cd 46 (sq [rg 47 [om 4,om 0,om 5,om 5,om 7,nb .add 50,oK 48 49 52,om 5,oG [3,1,0] [(0,1,.c (.int .u8 97)),(1,1,.s 53),(2,1,.s 54)],n1 3,na 3 47,o1 4],rg 58 [om 5,om 7,nb .add 58,o1 5]]) (sq [rg 61 [om 6,oC 128 [61]],cd 62 (sq [rg 63 [om 4,om 6,om 0,om 5,om 5,nB .add 1,oK 65 66 68,om 5,oW [3,1,0] [(0,1,64),(1,1,69),(2,1,70)],n1 3,na 3 63,o1 4],rg 74 [ic 5]]) (sq [rg 76 [om 6,nu .eql 32,gB,om 6,nu .eql 9,gZ],cd 81 (rg 82 [ic 5]) (sq [rg 84 [om 5,oG [0,0] [(0,1,.c (.int .i64 1)),(1,1,.s 84)],oU 2 8,o2 2 3],.ret])])])])]),rg 86 [om 4,oW [0,0] [],ot 2 86,o2 2 3],.ret]) [.tmp 2,.cell 3 aa 2] 88:=aS func67
def Fo(s:List UInt8)(Z:ab)(a D:Nat)(acc:List Tok):St :=
 ⟨[.aH s,.any,.any,.ptr (.au 0) 0,.sl (.tk D) 3 (acc.map Tok.enc),.int .i64 (a:Nat)]++aj 82 .any,[[.int .i64 0,.int .i64 0]],Z.ba D acc.length⟩
def drop_cons{s:List UInt8}{a:Nat}(h:a<s.length):s.drop a=s[a]::s.drop (a+1):=kM h
def al0(s:List UInt8)(Z:ab)(hb:s.length+1<=aJ):aT 67 [.aH s] Z (.bz [.sl .no 3 ((fI s).1.map Tok.enc),vU (fI s).2]):=by
 simp only[aJ] at hb;generalize hR:fI s=R;refine aia.aP ?_;simp only[aO,am,aX,Nat.reduceAdd];refine dP (λp:{p:Nat × Nat × Nat × List Tok // Z.aY p.2.2.1=ah/\gQ p.1 p.2.1 (s.drop p.2.1) p.2.2.2=R/\p.2.2.2.length<=p.2.1/\p.2.1<=s.length/\s.length<=p.2.1+p.1}=>Fo s Z p.1.2.1 p.1.2.2.1 p.1.2.2.2) (λp=>s.length - p.1.2.1) ?_ ?_
 .refine a7.s_ 0 λD a_=>⟨⟨(s.length,0,D,[]),a_,hR,by simp,by simp,by simp⟩,?_,rfl,rfl⟩
  simp[Fo,aj,jG]
 .rintro⟨⟨n,a,D,acc⟩,a_,hR,h1,h2,h3⟩;simp only at a_ hR h1 h2 h3;simp only[Fo,aj,am];refine cO ?_ ?_
  .intro an;have an:a<s.length:=by simpa using an
   obtain⟨m,rfl⟩:∃m,n=m+1:=⟨n - 1,by omega⟩;rw[drop_cons an] at hR;simp only[gQ,<-drop_cons an] at hR;have dx:=W1 (s:=s) (a:=a);have hh:(s.drop (a+1)).head?.map UInt8.toNat=if h:a+1<s.length then U s[a+1].toNat else none:=by
    by_cases h:a+1<s.length
    .rw[yS h,drop_cons h];rfl
    .rw[dif_neg h,JL (by omega)];rfl
   simp only[am];refine pX (s7 an) ?_;simp only[am];refine(arJ s a _ (by omega) (by simp only[aJ];omega)).mono ?_;rintro v σ' ⟨rfl,rfl⟩
   -- a step on,with or without a piece
   have again:∀(b:Nat) (pC : List Tok) (t:List V) (l:List (List V)),gQ m b (s.drop b) pC = R->pC.length<=b->a<b->b<=s.length ->
    c_ t ([.aH s,.any,.any,.ptr (.au 0) 0,.sl (.tk D) 3 (pC.map Tok.enc),.int .i64 (b:Nat)]++aj 82 .any)->l=[[.int .i64 0,.int .i64 0]] ->
    a7 ⟨t,l,Z.ba D pC.length⟩ λaU => ∃j:{p:Nat × Nat × Nat × List Tok // Z.aY p.2.2.1=ah/\gQ p.1 p.2.1 (s.drop p.2.1) p.2.2.2=R/\p.2.2.2.length<=p.2.1/\p.2.1<=s.length/\s.length<=p.2.1+p.1},aU = Fo s Z j.1.2.1 j.1.2.2.1 j.1.2.2.2/\s.length - j.1.2.1<s.length - a:=λb pC t l e1 e2 e3 e4 e5 e6=>by
    refine a7.again (μ:=λp:{p:Nat × Nat × Nat × List Tok // Z.aY p.2.2.1=ah/\gQ p.1 p.2.1 (s.drop p.2.1) p.2.2.2=R/\p.2.2.2.length<=p.2.1/\p.2.1<=s.length/\s.length<=p.2.1+p.1}=>s.length - p.1.2.1) (I:=λp=>Fo s Z p.1.2.1 p.1.2.2.1 p.1.2.2.2) ⟨(m,b,D,pC),a_,e1,e2,e4,by simp only;omega⟩ (by simp;omega) e5 (by rw[e6];exact bV.rfl) br.rfl
   have KE:s[a].toNat=45->decide (((s[a].toNat:Nat):Int)=45)=true:=λh=>by simp[h]
   have acS:¬s[a].toNat=45->decide (((s[a].toNat:Nat):Int)=45)=false:=λh=>az (by omega)
   have w1:IntKind.i64.wrap ((a:Int)+1)=((a+1:Nat):Int):=by rw[wrap_i64];simp
   have wN:IntKind.i64.wrap ((a:Int)+((eH (s.drop a)).length:Nat))=((a+(eH (s.drop a)).length:Nat):Int):=by
    rw[show(a:Int)+((eH (s.drop a)).length:Nat)=((a+(eH (s.drop a)).length:Nat):Int) by simp];exact wrap_i64 (by omega) (by omega)
   have el:a+1<s.length->decide (((a+1:Nat):Int)<s.length)=true:=λh=>aB (by omega)
   have elf:¬a+1<s.length->decide (((a+1:Nat):Int)<s.length)=false:=λh=>az (by omega)
   have eN:0<(eH (s.drop a)).length->decide ((0:Int)<((eH (s.drop a)).length:Nat))=true:=λh=>aB (by omega)
   have eNf:¬0<(eH (s.drop a)).length->decide ((0:Int)<((eH (s.drop a)).length:Nat))=false:=λh=>az (by omega)
   have CV:(s.take (a+(eH (s.drop a)).length)).drop a=eH (s.drop a):=Kx
   by_cases rz:s[a].toNat=45/\(s.drop (a+1)).head?.map UInt8.toNat=U 45
   .obtain⟨wa,tK⟩:=rz;rw[aI ⟨wa,tK⟩] at hR;rw[hh] at tK;have hl:a+1<s.length:=by
     by_cases h:a+1<s.length
     .exact h
     .rw[dif_neg h] at tK;simp at tK
    rw[yS hl] at tK;have e2:decide (((s[a+1].toNat:Nat):Int)=45)=true:=by simp at tK;simp[tK]
    simp only[am,KE wa,w1,el hl];refine pX (s7 hl) ?_;simp only[am,Nat.reduceAdd,e2];refine aN rfl (gV a_) ⟨?_,rfl⟩;simp[V.erase,aZ,<-hR,vU,fB]
   .rw[aw rz] at hR
    by_cases wa:s[a].toNat=45
    case' neg =>
     simp only[am,acS wa]
    case' pos =>
     by_cases hl:a+1<s.length
     case' pos =>
      have e2:decide (((s[a+1].toNat:Nat):Int)=45)=false:=by
       rw[hh,yS hl] at rz;simp at rz ⊢;intro h;exact rz wa (by omega)
      simp only[am,KE wa,w1,el hl];refine pX (s7 hl) ?_;simp only[am,e2]
     case' neg =>
      simp only[am,KE wa,w1,elf hl]
    all_goals
     by_cases hN:0<(eH (s.drop a)).length
     case' neg =>
      simp only[am,eNf hN]
     case' pos =>
      simp only[am,cG,eN hN,wN];refine DM (by omega) (by omega) ?_;rw[CV];simp only[am];refine(wP (eH (s.drop a)) _).mono ?_;rintro v σ' ⟨rfl,rfl⟩;cases C5:dO (eH (s.drop a))
      case' true =>
       rw[aI ⟨hN,C5⟩] at hR;simp only[am,cG,wN];refine DM (by omega) (by omega) ?_;rw[CV];simp only[am,Nat.reduceAdd];refine fe (by simp[aJ];omega) (by rw[aD,eR]) ?_;simp only[am,aD,eJ,wN];have e:acc.length+1=(acc++[(⟨97,eH (s.drop a),a⟩:Tok)]).length:=by simp
       rw[e];rw[w_] at hR;exact again (a+(eH (s.drop a)).length) _ _ _ hR (by simp;omega) (by omega) (by omega) (by simp[aj,am,Tok.enc]) rfl
      case' false =>
       simp only[am]
     all_goals
      rw[aw (by simp_all)] at hR;refine(asq (s[a].toNat:Nat) _).mono ?_;rintro v σ' ⟨rfl,rfl⟩;cases Fe:rW (s[a].toNat:Nat)
      .rw[aw (by simp[Fe])] at hR;simp only[am]
       by_cases nw:s[a].toNat=32\/s[a].toNat=9
       .rw[aI nw] at hR
        by_cases h32:s[a].toNat=32
        case' pos =>
         simp only[am,aB (show((s[a].toNat:Nat):Int)=32 by omega),w1]
        case' neg =>
         simp only[am,az (show ¬((s[a].toNat:Nat):Int)=32 by omega),aB (show((s[a].toNat:Nat):Int)=9 by omega),w1]
        all_goals exact again (a+1) acc _ _ hR (by omega) (by omega) (by omega) (by simp[aj,am]) rfl
       .rw[aw nw] at hR;simp only[am,Nat.reduceAdd,az (show ¬((s[a].toNat:Nat):Int)=32 by omega),az (show ¬((s[a].toNat:Nat):Int)=9 by omega)];refine aN rfl (gV a_) ⟨?_,rfl⟩;simp[V.erase,aZ,<-hR,vU,fB]
      .rw[aI Fe] at hR;simp only[am,cG,w1];refine DM (by omega) (by omega) ?_;rw[RC an];simp only[am,Nat.reduceAdd];refine fe (by simp[aJ];omega) (by rw[aD,eR]) ?_;simp only[am,aD,eJ,w1];have e:acc.length+1=(acc++[(⟨(s[a].toNat:Nat),[s[a]],a⟩:Tok)]).length:=by simp
       rw[e];exact again (a+1) _ _ _ hR (by simp;omega) (by omega) (by omega) (by simp[aj,am,Tok.enc]) rfl
  .intro an;have an:a=s.length:=by simp at an;omega
   subst an;rw[yE] at hR;have n5 : (acc,ah)=R:=by cases n<;>simpa [gQ] using hR
   simp only[am,Nat.reduceAdd];refine aN rfl (gV a_) ⟨?_,rfl⟩;simp[V.erase,aZ,<-n5,vU,fB]
def ae5:aR prog 129 (sq [rg 2 [oi 0],rg 3 [oO .nil []],sq [rg 4 [oi 0],bl 0 (sq [sq [rg 6 [om 4,om 0,nL,nb .lss 6],cx 9 0],.block 1 (sq [rg 12 [om 0,om 4,nA 3 12,nF 0,o1 5],sq [rg 17 [om 5,oC 180 [17],nu .neq 0],ci 19 (sq [sq [rg 20 [om 3,nO .len,nB .geq 24],cr 22 23 [om 4,o1 2]],rg 24 [om 3,om 4,n1 1,oO (.app 1) [24,26],o1 3]])],rg 28 [om 5,oC 181 [28]],ci 29 (sq [sq [rg 30 [om 3,nO .len,nB .eql 0,gB,om 0,om 3,om 3,nO .len,nB .sub 1,oO (.idx 1) [35,38],no,nA 3 34,nF 0,oC 180 [43],om 5,nb .neq 44,gZ],cr 47 48 [om 4,o1 2]],rg 49 [om 3,om 3,nO .len,nB .sub 1,oO (.mu 1 aq aa aq) [49,52],o1 3]])]),rg 10 [ic 4]])],sq [rg 54 [om 3,nO .len,nB .gtr 0],cr 56 57 [om 3,om 3,nO .len,nB .sub 1,oO (.idx 1) [57,60],no,o1 2]],rg 2 [oi (-1)],.ret]) [.tmp 2] 63:=aS func129 ⟨[3,21,27,31,37,39,51,53,55,59,61],[]⟩
variable{j:Nat}
def wV{l:List Tok}(h:j<l.length):(l.map Tok.enc)[((j:Nat):Int).toNat]?=U (iI l j).enc:=by simp[iI,h]
def Bo{l:List Tok}(h:j<l.length):ei l j=(iI l j).kind:=by simp[ei,iI,h]
def FU{l:List Tok}(h:j<l.length):qb l j=(iI l j).pos:=by simp[qb,iI,h]
def uc(o:List Nat):List (List V):=o.map λ(j:Nat)=>[.int .i64 (j:Nat)]
def zF(o:List Nat):(uc o).length=o.length:=by simp[uc]
def Dh(l:List Tok)(i:Nat)(v:V)(Z:ab):St :=
 ⟨[.sl .no 3 (l.map Tok.enc),.any,.any,v,.int .i64 (i:Nat)]++aj 58 .any,[],Z⟩
structure Gp(l:List Tok)(Z:ab)(R:Int) where
 n:Nat
 i:Nat
 o:List Nat
 v:V
 s:ab
 own:fQ s 1 v (uc o)
 sub:vN Z s v
 res:lz l n i o=R
 sum:i+n=l.length
 le:o.length<=i
 mem:∀j∈o,j<l.length
def UB{o:List Nat}(h:o≠[]):∃j,o.getLast?=U j/\(uc o)[((o.length:Int) - 1).toNat]?=U [.int .i64 (j:Nat)]/\j∈o:=by
 have hp:0<o.length:=Qe.2 h;refine⟨o[o.length - 1],?_,?_,dq _⟩
 .rw[List.getLast?_eq_getElem?,bN]
 .rw[show((o.length:Int) - 1).toNat=o.length - 1 by omega];simp[uc,bN (show o.length - 1<o.length by omega)]
def al1(l:List Tok)(Z:ab)(hb:l.length+1<=aJ):aT 129 [.sl .no 3 (l.map Tok.enc)] Z (.int .i64 (lz l l.length 0 [])):=by
 simp only[aJ] at hb;generalize hR:lz l l.length 0 []=R;refine ae5.aP ?_;simp only[aO,am,aX,jj];refine dP (λp:Gp l Z R=>Dh l p.i p.v p.s) (λp=>p.n) ?_ ?_
 .refine a7.enter ⟨l.length,0,[],_,Z,fQ.none,vN.start,hR,by simp,by simp,by simp⟩ ?_ bV.rfl br.rfl;simp[Dh,aj,am]
 .rintro⟨n,i,o,v2,gX,hO,hS,hR,T4,hle,kt⟩;simp only[Dh,aj,am,aD];refine cO ?_ ?_
  .intro an;have an:i<l.length:=by simpa using an
   obtain⟨m,rfl⟩:∃m,n=m+1:=⟨n - 1,by omega⟩;simp only[lz] at hR;simp only[am,Nat.reduceAdd];refine ix (wV an) ?_;simp only[am,Tok.enc];rw[<-Bo an];refine(G3 (ei l i) _).mono ?_;rintro v gX ⟨rfl,rfl⟩;simp only[am];have again:∀(o:List Nat) (v:V) (s:ab) (t:List V),fQ s 1 v (uc o)->vN Z s v->lz l m (i+1) o=R->o.length<=i+1->(∀j∈o,j<l.length) ->
    c_ t ([.sl .no 3 (l.map Tok.enc),.any,.any,v,.int .i64 ((i:Int)+1)]++aj 58 .any)->a7 ⟨t,[],s⟩ λaU => ∃j:Gp l Z R,aU = Dh l j.i j.v j.s/\j.n<m+1:=λo v s t e1 e2 e3 e4 e5 e6 =>
    a7.again (I:=λp:Gp l Z R=>Dh l p.i p.v p.s) (μ:=λp:Gp l Z R=>p.n) ⟨m,i+1,o,v,s,e1,e2,e3,by omega,e4,e5⟩ (by simp) (by simpa [Dh] using e6) bV.rfl br.rfl
   by_cases hc:closing (ei l i)=0
   case' neg =>
    simp only[am,jj,az hc];refine fQ.len hO ?_;simp only[am,zF]
    by_cases rr:24<=o.length
    .simp only[rN,hc,Dv,mA,rr,cH] at hR;simp only[am,aB (show(24:Int)<=o.length by omega)];refine aN rfl hS.sub ⟨?_,rfl⟩;simp[V.erase,<-hR]
    simp only[rN,hc,Dv,mA,rr,ch,cH] at hR;simp only[am,jj,az (show ¬(24:Int)<=o.length by omega)];refine fQ.app hO (by simp) rfl (by simp[zF,aJ];omega) ?_;intro v2' avd Tg hF;have hS:=hS.step hF;have e:uc o++[[.int .i64 (i:Nat)]]=uc (o++[i]):=by simp[uc]
    rw[e] at Tg;have hO:=Tg;have hle:(o++[i]).length<=i+1:=by simp;omega
    have kt:∀j∈o++[i],j<l.length:=λj hj=>by
     rcases jv.1 hj with h | h
     .exact kt j h
     .simp at h;omega
    generalize hq:o++[i]=o2 at hO hle kt hR;generalize hv:v2' = v3 at hO hS;generalize hs:avd = Ae at hO hS;simp only[am]
   case' pos =>
    simp only[rN,hc,BE,Ex,ch] at hR;have hle:o.length<=i+1:=by omega
    generalize hq:o=o2 at hO hle kt hR;generalize hv:v2=v3 at hO hS;generalize hs:gX=Ae at hO hS;simp only[am,aB hc]
   all_goals
    refine(Re (ei l i) _).mono ?_;rintro v Ae ⟨rfl,rfl⟩;cases gN:lv (ei l i)
    .rw[gN] at hR;simp only[am];rw[wrap_i64];exact again o2 v3 Ae _ hO hS hR hle kt (by simp[aj,am])
    .rw[gN,aI rfl] at hR;simp only[am,jj];refine fQ.len hO ?_;simp only[am,zF]
     by_cases ho:o2=[]
     .rw[ho] at hR;simp only[JT] at hR;simp only[am,bL,ho,cZ,mW];refine aN rfl hS.sub ⟨?_,rfl⟩;simp[V.erase,<-hR]
     .have gg:0<o2.length:=Qe.2 ho;obtain⟨j,LX,A4,C3⟩:=UB ho;rw[LX] at hR;simp only at hR;have sJ:=kt j C3;simp only[am,jj,az (show ¬(o2.length:Int)=0 by omega)];refine fQ.len hO ?_;simp only[am,jj,zF];rw[wrap_i64];refine fQ.idx hO (by omega) A4 ?_;intro b cs rest _ eE ep;simp only[am,eE,ep];refine ix (wV sJ) ?_;simp only[am,Tok.enc];rw[<-Bo sJ];refine(G3 (ei l j) _).mono ?_;rintro v Ae ⟨rfl,rfl⟩;simp only[am]
      by_cases wh:closing (ei l j)=ei l i
      .rw[aI wh] at hR;simp only[am,jj,aB wh];refine fQ.len hO ?_;simp only[am,jj,zF];rw[wrap_i64];refine fQ.take hO (by omega) (m:=o2.length - 1) (by omega) (by simp[zF]) ?_;intro v4 hO4 hB;simp only[am];rw[wrap_i64];refine again o2.dropLast v4 Ae _ ?_ ⟨hS.sub,λb hb=>hS.new b (by rw[<-hB];exact hb)⟩ hR (by simp;omega) (λj hj=>kt j (List.dropLast_subset _ hj)) (by simp[aj,am])
       have:(uc o2).take (o2.length - 1)=uc o2.dropLast:=by simp[uc,List.dropLast_eq_take,List.map_take]
       rw[<-this];exact hO4
      .rw[aw wh] at hR;simp only[am,az wh];refine aN rfl hS.sub ⟨?_,rfl⟩;simp[V.erase,<-hR]
  .intro an;have an:i=l.length:=by simp at an;omega
   have hn:n=0:=by omega
   subst hn;simp only[lz] at hR;simp only[am,jj,Nat.reduceAdd];refine fQ.len hO ?_;simp only[am,zF]
   by_cases ho:o=[]
   .rw[ho] at hR;simp only[JT] at hR;simp only[am,ho,cZ,mW,show decide ((0:Int)<0)=aq from rfl];refine aN rfl hS.sub ⟨?_,rfl⟩;simp[V.erase,<-hR]
   .have gg:0<o.length:=Qe.2 ho;obtain⟨j,LX,A4,C3⟩:=UB ho;rw[LX] at hR;simp only at hR;simp only[am,jj,aB (show(0:Int)<o.length by omega)];refine fQ.len hO ?_;simp only[am,jj,zF];rw[wrap_i64];refine fQ.idx hO (by omega) A4 ?_;intro b cs rest _ eE ep;simp only[am,eE,ep];refine aN rfl hS.sub ⟨?_,rfl⟩;simp[V.erase,<-hR]
def aib:aR prog 68 (sq [rg 2 [oz 10,oM [0,0]],rg 5 [om 0,oC 129 [5],o1 4],sq [rg 7 [om 4,nB .geq 0],ci 8 (sq [dg 9 [om 0,om 4,nA 3 9,nF 2,oG [0,0] [(0,1,.c (.int .i64 2)),(1,1,.s 13)],oU 2 10,o2 2 3],.ret])],rg 15 [om 0,om 0,nL,oc 130 [.s 15,.c (.int .i64 0),.s 17],oW [0,0] [],ot 2 18,o2 2 3],.ret]) [.tmp 2,.cell 3 aa 2] 20:=aS func68
def ae7:aR prog 130 (sq [rg 6 [oz 10],rg 7 [oz 10],sq [rg 11 [om 1,o1 8],bl 0 (sq [sq [rg 12 [om 8,om 2,nb .lss 12],cx 14 0],.block 1 (sq [dg 17 [om 0,om 8,nA 3 17,mM [1],nl 3,om 0,om 8,nA 3 21,nf 2,mM [1],no,oW [3,1,0,10,0] [(0,3,20),(4,1,25)],oZ 9 [3,1,0,10,0],o2 5 9],sq [rg 27 [om 0,om 8,nA 3 27,nF 0,oC 180 [31],nu .neq 0],ci 33 (sq [rg 34 [om 0,om 8,oC 182 [34,35],o1 10],rg 37 [om 0,om 8,nB .add 1,om 10,oC 130 [37,39,40],of 3 9,os 1 42 41],rg 43 [om 0,om 10,nA 3 43,nF 2,of 4 9,os 1 48 47],rg 49 [om 10,o1 8]])],rg 50 [om 7,ol 5 9,n1 5,na 5 50,o1 7]]),rg 15 [ic 8]])],rg 54 [om 7,o1 6],.ret]) [.tmp 6] 55:=aS func130
def afY:aR prog 182 (sq [rg 4 [oi 0],rg 5 [oi 0],sq [rg 7 [om 1,o1 6],bl 0 (sq [sq [rg 8 [om 6,om 0,nL,nb .lss 8],cx 11 0],.block 1 (sq [sq [rg 14 [om 0,om 6,nA 3 14,nF 0,oC 180 [18],nu .neq 0],ci 20 (rg 21 [ic 5])],sq [rg 23 [om 0,om 6,nA 3 23,nF 0,oC 181 [27]],ci 28 (rg 29 [om 5,nB .sub 1,o1 5])],rg 31 [om 5,nB .eql 0],cr 32 33 [om 6,o1 4]]),rg 12 [ic 6]])],rg 34 [om 1,o1 4],.ret]) [.tmp 4] 35:=aS func182
def Dj(l:List Tok)(a i:Nat)(d:Int)(Z:ab):St :=
 ⟨[.sl .no 3 (l.map Tok.enc),.int .i64 (a:Nat),.any,.any,.any,.int .i64 d,.int .i64 (i:Nat)]++aj 28 .any,[],Z⟩
def apc(l:List Tok)(a:Nat)(Z:ab)(ha:a<l.length)(hb:l.length+1<=aJ):aT 182 [.sl .no 3 (l.map Tok.enc),.int .i64 (a:Nat)] Z (.int .i64 (partner l a:Nat)):=by
 simp only[aJ] at hb;generalize hR:partner l a=R;unfold partner at hR;refine afY.aP ?_;simp only[aO,am,aX,Nat.reduceAdd];refine dP (λp:{p:Nat × Nat × Int // ir l a p.1 p.2.1 p.2.2=R/\p.2.1+p.1=l.length/\p.2.2<=p.2.1/\-(p.2.1:Int)<=p.2.2}=>Dj l a p.1.2.1 p.1.2.2 Z) (λp=>p.1.1) ?_ ?_
 .refine a7.enter ⟨(l.length - a,a,0),hR,by simp only;omega,by simp,by simp⟩ ?_ bV.rfl br.rfl;simp[Dj,aj,am]
 .rintro⟨⟨n,i,d⟩,hR,T4,EP,AW⟩;simp only at hR T4 EP AW;simp only[Dj,aj,am,aD];refine cO ?_ ?_
  .intro an;have an:i<l.length:=by simpa using an
   obtain⟨m,rfl⟩:∃m,n=m+1:=⟨n - 1,by omega⟩;simp only[ir] at hR;simp only[am];refine ix (wV an) ?_;simp only[am,Tok.enc];rw[<-Bo an];refine cl (G3 (ei l i) _) ?_;simp only[am];have again:∀(d' : Int) (t:List V),(if d' = 0 then i else ir l a m (i+1) d')=R->¬d' = 0->d' <= (i:Int)+1->-((i:Int)+1)<=d' ->
    c_ t ([.sl .no 3 (l.map Tok.enc),.int .i64 (a:Nat),.any,.any,.any,.int .i64 d',.int .i64 ((i:Int)+1)]++aj 28 .any) ->
    a7 ⟨t,[],Z⟩ λaU => ∃j:{p:Nat × Nat × Int // ir l a p.1 p.2.1 p.2.2=R/\p.2.1+p.1=l.length/\p.2.2<=p.2.1/\-(p.2.1:Int)<=p.2.2},aU = Dj l a j.1.2.1 j.1.2.2 Z/\j.1.1<m+1:=λd' t e1 e2 e3 e4 e5 =>
    a7.again (I:=λp:{p:Nat × Nat × Int // ir l a p.1 p.2.1 p.2.2=R/\p.2.1+p.1=l.length/\p.2.2<=p.2.1/\-(p.2.1:Int)<=p.2.2}=>Dj l a p.1.2.1 p.1.2.2 Z) (μ:=λp=>p.1.1)
     ⟨(m,i+1,d'),by rw[aw e2] at e1;exact e1,by simp only;omega,by simp only;omega,by simp only;omega⟩ (by simp) (by simpa [Dj] using e5) bV.rfl br.rfl
   have w1:IntKind.i64.wrap (d+1)=d+1:=wrap_i64 (by omega) (by omega);have w2:IntKind.i64.wrap (d - 1)=d - 1:=wrap_i64 (by omega) (by omega);have w3:IntKind.i64.wrap (d+1 - 1)=d+1 - 1:=wrap_i64 (by omega) (by omega);have wi:IntKind.i64.wrap ((i:Int)+1)=(i:Int)+1:=wrap_i64 (by omega) (by omega)
   by_cases hc:closing (ei l i)=0
   case' neg =>
    simp only[rN,hc,Dv,cH] at hR;simp only[am,az hc,w1]
   case' pos =>
    simp only[rN,hc,BE,ch,Int.add_zero] at hR;simp only[am,aB hc]
   all_goals
    refine ix (wV an) ?_;simp only[am,Tok.enc];rw[<-Bo an];refine cl (Re (ei l i) _) ?_;cases gN:lv (ei l i)
    all_goals rw[gN] at hR
    all_goals simp only[dm,ch,cH,Int.sub_zero] at hR
    all_goals simp only[am,w2,w3]
    all_goals refine cO (λh0=>?_) (λh0=>?_)
    all_goals simp only[eb,uH] at h0
    all_goals simp only[am,wi]
    all_goals first
     | (rw[aI h0] at hR
        refine aN rfl (ab.bc _) ⟨?_,rfl⟩;simp[V.erase,hR])
     | exact again d _ hR h0 (by omega) (by omega) (by simp[aj,am])
     | exact again (d+1) _ hR h0 (by omega) (by omega) (by simp[aj,am])
     | exact again (d - 1) _ hR h0 (by omega) (by omega) (by simp[aj,am])
     | exact again (d+1 - 1) _ hR h0 (by omega) (by omega) (by simp[aj,am])
  .intro an;have an:i=l.length:=by simp at an;omega
   have hn:n=0:=by omega
   subst hn;simp only[ir] at hR;simp only[am];refine aC ?_;simp[V.erase,hR]
def Di(l:List Tok)(a:Nat)(to:Nat)(i D:Nat)(out:List aA)(Z:ab):St :=
 ⟨[.sl .no 3 (l.map Tok.enc),.int .i64 (a:Nat),.int .i64 (to:Nat),.any,.any,.any,.any,.sl (.tk D) 5 (cm out),.int .i64 (i:Nat)]++aj 46 .any,[],Z.ba D out.length⟩
def R2(a:List aA)(t:aA):cm (a++[t])=cm a++[t.enc]:=by simp[nW]
def aA.R1{t:Tok}{ks:List aA}{e:Int}:(aA.mk t ks e).enc=[.int .u8 t.kind,.aH t.ar,.int .i64 t.pos,.sl .no 5 (cm ks),.int .i64 e]:=by simp[aA.enc]
def atc(l:List Tok)(hb:l.length+1<=aJ):∀(n from_ to:Nat) (Z:ab),l.length<=n+from_->from_<=l.length->to<=l.length ->
 aT 130 [.sl .no 3 (l.map Tok.enc),.int .i64 (from_:Nat),.int .i64 (to:Nat)] Z (.sl .no 5 (cm (jJ l n from_ to))):=by
 have cn := hb;simp only[aJ] at cn;intro n;induction n using Nat.strongRecOn with
 | ind n ih =>
 intro a to Z hn ha hto;generalize hR:jJ l n a to=R;refine ae7.aP ?_;simp only[aO,am,aX,Nat.reduceAdd];refine dP (λp:{p:Nat × Nat × Nat × List aA // Z.aY p.2.2.1=ah/\p.2.2.2++jJ l p.1 p.2.1 to=R/\p.1<=n/\l.length<=p.1+p.2.1/\p.2.1<=l.length/\p.2.2.2.length<=p.2.1}=>Di l a to p.1.2.1 p.1.2.2.1 p.1.2.2.2 Z) (λp=>l.length - p.1.2.1) ?_ ?_
 .refine a7.s_ 0 λD a_=>⟨⟨(n,a,D,[]),a_,hR,by simp,hn,ha,by simp⟩,?_,rfl,rfl⟩
  simp[Di,aj,jG,cm]
 .rintro⟨⟨m,i,D,out⟩,a_,hR,sL,hmi,hi,Mc⟩;simp only at a_ hR sL hmi hi Mc;simp only[Di,aj,am];refine cO ?_ ?_
  .intro an;have an:i<to:=by simpa using an
   have sI:i<l.length:=by omega
   obtain⟨m,rfl⟩:∃k,m=k+1:=⟨m - 1,by omega⟩;simp only[jJ,an,cH] at hR;obtain⟨E6,C7⟩:=FR sI;have wi:∀j:Nat,j<l.length->IntKind.i64.wrap ((j:Int)+1)=((j+1:Nat):Int):=λj hj=>by rw[wrap_i64];simp
   simp only[am];refine ix (wV sI) ?_;simp only[am,Tok.enc];refine ix (wV sI) ?_;simp only[am,Nat.reduceAdd,Tok.enc];refine ix (wV sI) ?_;simp only[am,Tok.enc];rw[<-Bo sI,<-FU sI];refine(G3 (ei l i) _).mono ?_;rintro v gX ⟨rfl,rfl⟩;have again:∀(b:Nat) (t:aA) (st:List V) (ls:List (List V)),out++(t::jJ l m b to)=R->i<b->b<=l.length ->
    c_ st ([.sl .no 3 (l.map Tok.enc),.int .i64 (a:Nat),.int .i64 (to:Nat),.any,.any,.any,.any,.sl (.tk D) 5 (cm (out++[t])),.int .i64 (b:Nat)]++aj 46 .any) ->
    a7 ⟨st,ls,Z.ba D (out.length+1)⟩ λaU => ∃j:{p:Nat × Nat × Nat × List aA // Z.aY p.2.2.1=ah/\p.2.2.2++jJ l p.1 p.2.1 to=R/\p.1<=n/\l.length<=p.1+p.2.1/\p.2.1<=l.length/\p.2.2.2.length<=p.2.1},aU = Di l a to j.1.2.1 j.1.2.2.1 j.1.2.2.2 Z/\l.length - j.1.2.1<l.length - i:=λb t st ls e1 e2 e3 e4=>by
    have e:out.length+1=(out++[t]).length:=by simp
    rw[e];exact a7.lT (I:=λp:{p:Nat × Nat × Nat × List aA // Z.aY p.2.2.1=ah/\p.2.2.2++jJ l p.1 p.2.1 to=R/\p.1<=n/\l.length<=p.1+p.2.1/\p.2.1<=l.length/\p.2.2.2.length<=p.2.1}=>Di l a to p.1.2.1 p.1.2.2.1 p.1.2.2.2 Z) (μ:=λp=>l.length - p.1.2.1)
     ⟨(m,b,D,out++[t]),a_,by simpa using e1,by simp only;omega,by simp only;omega,e3,by simp;omega⟩ (by simp;omega) e4 (by simp[Di,am]) br.rfl rfl rfl
   by_cases hc:closing (ei l i)=0
   .simp only[rN,hc,BE,ch] at hR;simp only[am,Nat.reduceAdd,aB hc];refine fe (by simp[dK,aJ];omega) (by rw[dK,eR]) ?_;simp only[am,dK,eJ,wi i sI];exact again (i+1) _ _ _ hR (by omega) (by omega) (by simp[aj,am,R2,aA.R1,cm,Bo sI,FU sI])
   .simp only[rN,hc,Dv,cH] at hR;simp only[am,az hc];refine(apc l i _ sI hb).mono ?_;rintro v gX ⟨rfl,rfl⟩;simp only[am,wi i sI];refine(ih m (by omega) (i+1) (partner l i) _ (by omega) (by omega) (by omega)).mono ?_;rintro v gX ⟨rfl,rfl⟩;simp only[am];refine ix (wV C7) ?_;simp only[am,Nat.reduceAdd,Tok.enc];rw[<-FU C7];refine fe (by simp[dK,aJ];omega) (by rw[dK,eR]) ?_;simp only[am,dK,eJ,wi _ C7];exact again (partner l i+1) _ _ _ hR (by omega) (by omega) (by simp[aj,am,R2,aA.R1,Bo sI,FU sI])
  .intro an;have an:¬i<to:=by simp at an;omega
   have hE:jJ l m i to=[]:=by cases m<;>simp[jJ,an]
   rw[hE,eM] at hR;simp only[am];refine aN rfl (gV a_) ⟨?_,rfl⟩;simp[V.erase,<-hR]
def ata(l:List Tok)(Z:ab)(hb:l.length+1<=aJ):aT 68 [.sl .no 3 (l.map Tok.enc)] Z (.bz [.sl .no 5 (cm (jt l).1),jm (jt l).2]):=by
 refine aib.aP ?_;simp only[aO,am,aX,Nat.reduceAdd];refine cl (al1 l Z hb) ?_;have hf:=KN l l.length 0 [] (by omega) (by simp);generalize hg:lz l l.length 0 []=f at hf ⊢
 by_cases h0:0<=f
 .obtain⟨j,rfl⟩:=vB h0;have hj:j<l.length:=by omega
  simp only[am,aB h0];refine ix (wV hj) ?_;simp only[am,Nat.reduceAdd,Tok.enc];rw[<-FU hj];refine aC ?_;simp[V.erase,aZ,jt,hg,jm,dn,fB,cm]
 .simp only[am,aD,az h0];refine cl (atc l hb l.length 0 l.length Z (by omega) (by omega) (by omega)) ?_;simp only[am,Nat.reduceAdd];refine aC ?_;simp[V.erase,aZ,jt,hg,h0,jm,dn,fB]
def ahO:aR prog 40 (sq [rg 2 [ox 1 5 0,oz 1],sq [rg 3 [fo 0 1],.block 0 (sq [sq [rg 6 [oB .eql 4 1,o1 5],cd 5 .skip (rg 7 [oB .eql 4 2,o1 5])],cd 5 (sq [rg 8 [fo 2 1,o1 2],.ret]) (sq [rg 11 [oB .eql 4 3,o1 10],cd 10 (sq [rg 12 [ol 5 1,oC 89 [12],oq (.cat (.c (.aH [123])) (.s 13)),oq (.cat (.s 14) (.c (.aH [125]))),o1 2],.ret]) (sq [rg 17 [oB .eql 4 4,o1 16],cd 16 (sq [rg 18 [ol 5 1,oC 90 [18],oq (.cat (.c (.aH [40])) (.s 19)),oq (.cat (.s 20) (.c (.aH [41]))),o1 2],.ret]) (sq [rg 23 [oB .eql 4 5,o1 22],cd 22 (sq [rg 24 [ol 5 1,oC 90 [24],oq (.cat (.c (.aH [91])) (.s 25)),oq (.cat (.s 26) (.c (.aH [93]))),o1 2],.ret]) (sq [rg 29 [oB .eql 4 6,o1 28],cd 28 (sq [dg 30 [of 2 1,mM [1],no,oq (.cat (.s 31) (.c (.aH [58,123]))),ol 5 1,oC 89 [33],oq (.cat (.s 32) (.s 34)),oq (.cat (.s 35) (.c (.aH [125]))),o1 2],.ret]) (sq [rg 38 [oB .eql 4 7,o1 37],cd 37 (sq [rg 39 [ol 5 1,oC 91 [39],oq (.cat (.c (.aH [35])) (.s 40)),o1 2],.ret]) (sq [rg 43 [oB .eql 4 8,o1 42],cd 42 (sq [rg 44 [ol 5 1,oC 90 [44],oq (.cat (.c (.aH [43,40])) (.s 45)),oq (.cat (.s 46) (.c (.aH [41]))),o1 2],.ret]) (sq [rg 49 [oB .eql 4 9,o1 48],cd 48 (sq [rg 50 [ol 5 1,oC 90 [50],oq (.cat (.c (.aH [38,40])) (.s 51)),oq (.cat (.s 52) (.c (.aH [41]))),o1 2],.ret]) (sq [rg 55 [oB .eql 4 10,o1 54],cd 54 (sq [rg 56 [ol 5 1,oC 92 [56],o1 2],.ret]) (sq [rg 59 [oB .eql 4 11,o1 58],ci 58 (sq [dg 60 [of 2 1,mM [1],no,oq (.cat (.s 61) (.c (.aH [61]))),ol 5 1,oC 91 [63],oq (.cat (.s 62) (.s 64)),o1 2],.ret])])])])])])])])])])])],rg 2 [oz 1],.ret]) [.tmp 2] 66:=aS func40
def aix:aR prog 89 (sq [rg 2 [od (U 1) (.gY 5 (.s 0)),oz 1],rg 3 [fo 3 1,nL,oq (.kb (.func 151) [] [(.s 1)]),oC 150 [5,6],o1 2],.ret]) [.tmp 2] 8:=aS func89 ⟨[1],[]⟩
def aiy:aR prog 90 (sq [rg 2 [od (U 1) (.gY 5 (.s 0)),oz 1],rg 3 [fo 4 1,nL,oq (.kb (.func 152) [] [(.s 1)]),oC 150 [5,6],o1 2],.ret]) [.tmp 2] 8:=aS func90 ⟨[1],[]⟩
def aiz:aR prog 91 (sq [rg 2 [ox 1 5 0,oz 1],sq [rg 3 [fo 4 1,nL,nB .eql 0],cr 6 2 [oz 1]],rg 7 [fo 4 1,nI 5 0,nl 5,oC 40 [10],o1 2],.ret]) [.tmp 2] 12:=aS func91
def aiA:aR prog 92 (sq [rg 2 [ox 1 5 0,oz 1],rg 4 [ol 5 1,oC 90 [4],oq (.cat (.c (.aH [91])) (.s 5)),o1 3],sq [rg 7 [fo 3 1,nL,nB .gtr 0],ci 10 (rg 11 [om 3,ol 5 1,oC 89 [12],oq (.cat (.c (.aH [124])) (.s 13)),oq (.cat (.s 11) (.s 14)),o1 3])],rg 16 [om 3,oq (.cat (.s 16) (.c (.aH [93]))),o1 2],.ret]) [.tmp 2] 18:=aS func92
def afq:aR prog 150 (sq [rg 4 [oz 1],rg 5 [oz 6],sq [rg 7 [om 0,oi 0],lp 7 0 (sq [rg 10 [om 8,o1 6],sq [rg 11 [om 6,nB .gtr 0],ci 12 (rg 13 [om 5,oq (.km 1 [(.c (.int .u8 44))]),na 1 13,o1 5])],rg 16 [om 5,om 1,om 6,oq (.iV (.s 17) [(.s 18)]),oq (.nV (.s 16) (.s 19)),o1 5]]) 21],rg 22 [om 5,oq (.vY (.s 22)),o1 4],.ret]) [.tmp 4] 24:=aS func150
def afr:aR prog 151 (sq [rg 3 [oz 1],rg 4 [fo 3 1,om 0,nA 2 5,nF 0,o1 3],.ret]) [.tmp 3] 10:=aS func151
def afs:aR prog 152 (sq [rg 3 [oz 1],rg 4 [fo 4 1,om 0,nA 5 5,nl 5,oC 40 [8],o1 3],.ret]) [.tmp 3] 10:=aS func152
def M5(n:Nat)(g:FuncId)(cap:List V)(f:Nat->List UInt8)(Z:ab)(i D:Nat):St :=
 ⟨[.int .i64 (n:Nat),.fn (.func g) [] cap,.any,.any,.any,.sl (.tk D) 1 (dW (cC ((bG i).map f))),.any,.int .i64 (n:Nat),.int .i64 (i:Nat)]++aj 15 .any,[],Z.ba D (cC ((bG i).map f)).length⟩
def Wr(f:Nat->List UInt8)(i:Nat):cC ((bG (i+1)).map f)=cC ((bG i).map f)++(if 0<i then [44] else [])++f i:=by
 rw[ga,jf,Cc,Nb];simp
variable{i:Nat}
def aqB(f:Nat->List UInt8){n:Nat}(h:i<=n):(cC ((bG i).map f)).length<=(cC ((bG n).map f)).length:=by
 induction n with
 | zero =>
  have:i=0:=by omega
  rw[this];exact b7 _
 | succ n ih =>
  by_cases hi:i=n+1
  .rw[hi];exact b7 _
  .have:=ih (by omega)
   rw[Wr];simp only[bW];omega
variable{Z:ab}
def Rs{n:Nat}{g:FuncId}{cap:List V}{f:Nat->List UInt8}(pS:bS cap=aa)(hn:n<=aJ)(hb:(cC ((bG n).map f)).length<=aJ)
 (h:∀i,i<n->∀bR:ab,bR.box=Z.box->cF prog g (.int .i64 (i:Nat)::cap) bR λv σ' => v = .aH (f i)/\σ' = bR) :
 aT 150 [.int .i64 (n:Nat),.fn (.func g) [] cap] Z (.aH (cC ((bG n).map f))):=by
 refine afq.aP ?_;simp only[aO,am,aX,Nat.reduceAdd];refine dP (λp:{p:Nat × Nat // Z.aY p.2=ah/\p.1<=n}=>M5 n g cap f Z p.1.1 p.1.2) (λp=>n - p.1.1) ?_ ?_
 .refine a7.s_ 0 λD a_=>⟨⟨(0,D),a_,by simp⟩,?_,rfl,rfl⟩
  simp[M5,aj,jG,cC,dW]
 .rintro⟨⟨i,D⟩,a_,hi⟩;simp only at a_ hi;simp only[M5,aj,am];refine cO ?_ ?_
  .intro an;have an:i<n:=by simpa using an
   have hs:=Wr f i;have hm:=aqB f (i:=i+1) (n:=n) (by omega);simp only[aJ] at hn hb;rw[hs] at hm;simp only[bW] at hm;have wi:IntKind.i64.wrap ((i:Int)+1)=(i:Int)+1:=wrap_i64 (by omega) (by omega);simp only[am]
   by_cases h0:0<i
   case' pos =>
    rw[aI h0] at hs hm;simp only[am,aB (show(0:Int)<i by omega)];refine fe (by simp[pH,aJ];simp at hm;omega) (by rw[pH,eR]) ?_;simp only[am,eJ];rw[show dW (cC ((bG i).map f))++[[.int .u8 44]]=dW (cC ((bG i).map f)++[44]) by simp[dW],show(dW (cC ((bG i).map f))).length+1=(cC ((bG i).map f)++[44]).length by simp[dW]]
   case' neg =>
    rw[aw h0,eM] at hs;rw[aw h0] at hm;simp only[am,az (show ¬(0:Int)<i by omega)]
   all_goals
    refine⟨pS,?_⟩;refine(h i an (Z.ba D _) rfl).mono ?_;rintro v σ' ⟨rfl,rfl⟩;simp only[am,cG];refine⟨_,rfl,?_⟩;refine fe (by simp[pH,aJ];simp at hm;omega) (by rw[pH,eR]) ?_;simp only[am,eJ,wi];rw[<-KG,pH,pH,<-bW,<-hs];exact a7.again ⟨(i+1,D),a_,an⟩ (by simp;omega) (by simp[am]) bV.rfl br.rfl
  .intro an;have an:i=n:=by simp at an;omega
   subst an;simp only[am,cG];refine⟨_,_,rfl,?_⟩;refine aN rfl (gV a_) ⟨?_,rfl⟩;simp[V.erase]
variable{n:Nd}
def am9{q:Nat}(hi:i<n.al.length)(hq:Z.box q=U n.enc):aT 151 [.int .i64 (i:Nat),.ptr (.out q) 0] Z (.aH (n.al[i].ar)):=by
 refine afr.aP ?_;simp only[aO,am,aX,Nat.reduceAdd];simp only[am,hq,Nd.fl];refine ix (mB (show n.al[i]?=U n.al[i] by simp[hi])) ?_;simp only[am,aF.enc];exact rt
def alo{q:Nat}(hi:i<n.ae.length)(hq:Z.box q=U n.enc)(ih:∀m∈n.ae,∀Z,aT 40 [.agg m.enc] Z (.aH m.dS)):
 aT 152 [.int .i64 (i:Nat),.ptr (.out q) 0] Z (.aH (n.ae[i].dS)):=by
 refine afs.aP ?_;simp only[aO,am,aX,Nat.reduceAdd];simp only[am,hq,Nd.fl];refine ix (fN (show n.ae[i]?=U n.ae[i] by simp[hi])) ?_;simp only[am,Nd.ak];refine cl (ih n.ae[i] (dq hi) Z) ?_;simp only[am];exact rt
variable{Y:Type}
def Wq(l:List Y)(f:Y->List UInt8)(d:List UInt8):(bG l.length).map (λi=>if h:i<l.length then f l[i] else d)=l.map f:=by
 apply P9;intro i
 by_cases h:i<l.length<;>simp[h]
def NS(hw:n.wt<=aJ):aT 89 [.agg n.enc] Z (.aH (kg n.al)):=by
 have h1:=D1 n.al;have h2:n.al.length<=eK n.al:=by
  unfold eK;generalize n.al=l;induction l with
  | nil=>simp
  | cons w ws ih=>simp only[dz,rh,da];omega
 have h3:eK n.al<=n.wt:=by cases n;simp only[Nd.wt,Nd.al];omega
 have e:cC ((bG n.al.length).map (λi=>if h:i<n.al.length then n.al[i].ar else []))=kg n.al:=by
  rw[Wq n.al (λw=>w.ar) []];rfl
 refine aix.aP ?_;simp only[aO,am,aX,Nat.reduceAdd,Nd.ak];refine kx λq hq=>?_
 simp only[am,aD,Nd.fl];refine(Rs (f:=λi=>if h:i<n.al.length then n.al[i].ar else []) rfl (by omega) (by rw[e];omega) (λi hi bR h1=>?_)).mono ?_
 .rw[yS hi];exact am9 hi (by rw[h1];exact ab.eY _ _ _)
 rintro v σ' ⟨rfl,rfl⟩;simp only[am];refine aN rfl (iS hq) ⟨?_,rfl⟩;rw[e];simp[V.erase]
def Ft(hw:n.wt<=aJ)(ih:∀m∈n.ae,∀Z,aT 40 [.agg m.enc] Z (.aH m.dS)):aT 90 [.agg n.enc] Z (.aH (cC (fg n.ae))):=by
 have h1:=Fu n.ae (vw n.ae);have h2:n.ae.length<=fq n.ae:=by
  rw[Gl];generalize n.ae=l;induction l with
  | nil=>simp
  | cons w ws ih=>simp only[dz,rh,da];omega
 have h3:fq n.ae<=n.wt:=by cases n;simp only[Nd.wt,Nd.ae];omega
 have e:cC ((bG n.ae.length).map (λi=>if h:i<n.ae.length then n.ae[i].dS else []))=cC (fg n.ae):=by
  rw[Wq n.ae (λw=>w.dS) [],BU]
 refine aiy.aP ?_;simp only[aO,am,aX,Nat.reduceAdd,Nd.ak];refine kx λq hq=>?_
 simp only[am,aD,Nd.fl];refine(Rs (f:=λi=>if h:i<n.ae.length then n.ae[i].dS else []) rfl (by omega) (by rw[e];omega) (λi hi bR h1=>?_)).mono ?_
 .rw[yS hi];exact alo hi (by rw[h1];exact ab.eY _ _ _) ih
 rintro v σ' ⟨rfl,rfl⟩;simp only[am];refine aN rfl (iS hq) ⟨?_,rfl⟩;rw[e];simp[V.erase]
def Sl(ih:∀m∈n.ae,∀Z,aT 40 [.agg m.enc] Z (.aH m.dS)):aT 91 [.agg n.enc] Z (.aH (mI (fg n.ae))):=by
 refine aiz.aP ?_;simp only[aO,am,aX,Nat.reduceAdd,Nd.ak];simp only[am,aD,Nd.fl];cases hk:n.ae with
 | nil =>
  simp only[am,bL,eQ,cZ,mW];refine aC ?_;simp[V.erase,mI,fg]
 | cons m ms =>
  simp only[am,az (show ¬(((m::ms).length:Nat):Int)=0 by simp;omega),Nd.fl,hk];refine ka (c:=m.enc) (by simp) ?_;simp only[am,Nd.ak];refine cl (ih m (by rw[hk];simp) Z) ?_;simp only[am];refine aC ?_;simp[V.erase,mI,fg]
def ari(hw:n.wt<=aJ)(ih:∀m∈n.ae,∀Z,aT 40 [.agg m.enc] Z (.aH m.dS)):
 aT 92 [.agg n.enc] Z (.aH (([91]++cC (fg n.ae))++(if 0<n.al.length then [124]++kg n.al else [])++[93])):=by
 have h1:=Fu n.ae (vw n.ae);have h2:=D1 n.al;have h3:fq n.ae+eK n.al+4<=n.wt:=by cases n;simp only[Nd.wt,Nd.ae,Nd.al];omega
 refine aiA.aP ?_;simp only[aO,am,aX,Nat.reduceAdd,Nd.ak];refine cl (Ft hw ih) ?_;simp only[am];refine⟨by simp;omega,?_⟩;simp only[am,aD,Nd.fl]
 by_cases h0:0<n.al.length
 .simp only[am,Nd.ak,aB (show(0:Int)<n.al.length by omega)];refine cl (NS hw) ?_;simp only[am];refine⟨by simp;omega,by simp;omega,by simp;omega,?_⟩;refine aC ?_;simp[V.erase,h0]
 .simp only[am,az (show ¬(0:Int)<n.al.length by omega)];refine⟨by simp;omega,?_⟩;refine aC ?_;simp[V.erase,h0]
def asY:∀(k:Nat) (n:Nd) (Z:ab),n.wt<=k->n.wt<=aJ->aT 40 [.agg n.enc] Z (.aH n.dS):=by
 intro k;induction k with
 | zero=>intro n Z h _;cases n;simp only[Nd.wt] at h;omega
 | succ k oJ =>
  intro n Z hk hw;have ih:∀m∈n.ae,∀Z,aT 40 [.agg m.enc] Z (.aH m.dS):=λm hm Z=>by
   have h1:=D0 hm;have h2:fq n.ae+4<=n.wt:=by cases n;simp only[Nd.wt,Nd.ae];omega
   exact oJ m Z (by omega) (by omega)
  have h1:=Fu n.ae (vw n.ae);have h2:=D1 n.al;have h3:n.ar.length+fq n.ae+eK n.al+4<=n.wt:=by cases n;simp only[Nd.wt,Nd.ae,Nd.al,Nd.ar];omega
  have h4:=LN n.ae (vw n.ae);have e:n.dS=if n.kind=1\/n.kind=2 then n.ar else if n.kind=3 then [123]++kg n.al++[125] else if n.kind=4 then [40]++cC (fg n.ae)++[41] else if n.kind=5 then [91]++cC (fg n.ae)++[93]
   else if n.kind=6 then n.ar++[58,123]++kg n.al++[125] else if n.kind=7 then [35]++mI (fg n.ae) else if n.kind=8 then [43,40]++cC (fg n.ae)++[41] else if n.kind=9 then [38,40]++cC (fg n.ae)++[41]
   else if n.kind=10 then([91]++cC (fg n.ae))++(if 0<n.al.length then [124]++kg n.al else [])++[93] else if n.kind=11 then n.ar++[61]++mI (fg n.ae) else []:=by cases n;rw[Nd.dS];rfl
  rw[e];refine ahO.aP ?_;simp only[aO,am,aX,Nat.reduceAdd,Nd.ak];simp only[am,Nd.fl]
  by_cases k1:n.kind=1
  .simp only[am,aB k1,Nd.fl];refine aC ?_;simp[V.erase,k1]
  simp only[am,az k1]
  by_cases k2:n.kind=2
  .simp only[am,aB k2,Nd.fl];refine aC ?_;simp[V.erase,k2]
  simp only[am,az k2]
  by_cases k3:n.kind=3
  .simp only[am,Nd.ak,aB k3];refine cl (NS hw) ?_;simp only[am];refine⟨by simp;omega,by simp;omega,?_⟩;refine aC ?_;simp[V.erase,k3]
  simp only[am,az k3]
  by_cases k4:n.kind=4
  .simp only[am,Nd.ak,aB k4];refine cl (Ft hw ih) ?_;simp only[am];refine⟨by simp;omega,by simp;omega,?_⟩;refine aC ?_;simp[V.erase,k4]
  simp only[am,az k4]
  by_cases k5:n.kind=5
  .simp only[am,Nd.ak,aB k5];refine cl (Ft hw ih) ?_;simp only[am];refine⟨by simp;omega,by simp;omega,?_⟩;refine aC ?_;simp[V.erase,k5]
  simp only[am,az k5]
  by_cases k6:n.kind=6
  .simp only[am,Nd.ak,aB k6,Nd.fl];refine⟨by simp;omega,?_⟩;refine bA.intro (NS hw) ?_;simp only[am,Nd.fl];refine⟨by simp;omega,by simp;omega,?_⟩;refine aC ?_;simp[V.erase,k6]
  simp only[am,az k6]
  by_cases k7:n.kind=7
  .simp only[am,Nd.ak,aB k7];refine cl (Sl ih) ?_;simp only[am];refine⟨by simp;omega,?_⟩;refine aC ?_;simp[V.erase,k7]
  simp only[am,az k7]
  by_cases k8:n.kind=8
  .simp only[am,Nd.ak,aB k8];refine cl (Ft hw ih) ?_;simp only[am];refine⟨by simp;omega,by simp;omega,?_⟩;refine aC ?_;simp[V.erase,k8]
  simp only[am,az k8]
  by_cases k9:n.kind=9
  .simp only[am,Nd.ak,aB k9];refine cl (Ft hw ih) ?_;simp only[am];refine⟨by simp;omega,by simp;omega,?_⟩;refine aC ?_;simp[V.erase,k9]
  simp only[am,az k9]
  by_cases pZ:n.kind=10
  .simp only[am,Nd.ak,aB pZ];refine cl (ari hw ih) ?_;simp only[am];refine aC ?_;simp[V.erase,pZ]
  simp only[am,az pZ]
  by_cases wF:n.kind=11
  .simp only[am,Nd.ak,aB wF,Nd.fl];refine⟨by simp;omega,?_⟩;refine bA.intro (Sl ih) ?_;simp only[am,Nd.fl];refine⟨by simp;omega,?_⟩;refine aC ?_;simp[V.erase,wF]
  simp only[am,az wF];refine aC ?_;simp[V.erase,k1,k2,k3,k4,k5,k6,k7,k8,k9,pZ,wF]
def aeZ:aR prog 123 (sq [rg 2 [ox 1 5 0,oz 2],sq [rg 3 [fo 0 1],.block 0 (sq [rg 6 [oB .eql 4 1,o1 5],cd 5 (sq [rg 7 [ol 5 1,oC 170 [7],o1 2],.ret]) (sq [rg 10 [oB .eql 4 7,o1 9],cd 9 (sq [rg 11 [ol 5 1,oC 171 [11],gA,fo 4 1,nL,nB .eql 1,gZ,gA,fo 4 1,nI 5 0,nl 5,oC 172 [23],gZ,o1 2],.ret]) (sq [sq [rg 27 [oB .eql 4 8,o1 26],cd 26 .skip (rg 28 [oB .eql 4 9,o1 26])],cr 26 29 [ol 5 1,oC 171 [29],gA,fo 4 1,nL,nB .gtr 0,gZ,gA,fo 4 1,oc 173 [.s 39,.c (.fn (.func 123) [] [])],gZ,o1 2]])])])],rg 2 [oz 2],.ret]) [.tmp 2] 42:=aS func123
def afJ:aR prog 169 (sq [rg 2 [ox 1 5 0,oz 2],sq [rg 3 [fo 0 1,nB .eql 10],cr 5 6 [fo 2 1,oq (.kQ .eql (.s 7) (.c (.aH []))),gA,fo 3 1,nL,nB .leq 1,gZ,gA,fo 3 1,oC 225 [17],gZ,gA,fo 4 1,oc 173 [.s 22,.c (.fn (.func 226) [] [])],gZ,o1 2]],rg 25 [fo 0 1,nB .eql 1,gA,ol 5 1,oC 123 [29],gZ,o1 2],.ret]) [.tmp 2] 32:=aS func169
def afL:aR prog 170 (sq [rg 2 [ox 1 5 0,oz 2],rg 3 [fo 2 1,oC 99 [4],gA,fo 3 1,nL,fo 4 1,nL,nb .add 9,nB .eql 0,gZ,o1 2],.ret]) [.tmp 2] 16:=aS func170
def afM:aR prog 171 (sq [rg 2 [ox 1 5 0,oz 2],rg 3 [fo 2 1,oq (.kQ .eql (.s 4) (.c (.aH []))),gA,fo 3 1,nL,nB .eql 0,gZ,o1 2],.ret]) [.tmp 2] 12:=aS func171
def afN:aR prog 172 (sq [rg 2 [ox 1 5 0,oz 2],sq [rg 3 [fo 0 1],.block 0 (sq [rg 6 [oB .eql 4 2,o1 5],cd 5 (sq [rg 7 [ol 5 1,oC 170 [7],o1 2],.ret]) (sq [rg 10 [oB .eql 4 3,o1 9],cd 9 (sq [rg 11 [fo 2 1,oq (.kQ .eql (.s 12) (.c (.aH []))),gA,fo 3 1,oC 225 [16],gZ,gA,fo 4 1,nL,nB .eql 0,gZ,o1 2],.ret]) (sq [rg 26 [oB .eql 4 4,o1 25],cd 25 (sq [rg 27 [ol 5 1,oC 171 [27],gA,fo 4 1,nL,nB .gtr 0,gZ,gA,fo 4 1,oc 173 [.s 37,.c (.fn (.func 172) [] [])],gZ,o1 2],.ret]) (sq [rg 41 [oB .eql 4 5,o1 40],cr 40 42 [ol 5 1,oC 171 [42],gA,fo 4 1,oc 173 [.s 46,.c (.fn (.func 227) [] [])],gZ,o1 2]])])])])],rg 2 [oz 2],.ret]) [.tmp 2] 49:=aS func172
def afO:aR prog 173 (sq [rg 4 [oz 2],sq [rg 7 [om 0,nL,oi 0],lp 8 0 (sq [rg 11 [oA 5 7 9,nl 5,oZ 6 [0,0,1,7,10],o2 5 6],rg 13 [om 1,ol 5 6,oq (.iV (.s 13) [(.s 14)]),nn],cr 16 4 [oz 2]]) 17],rg 4 [oq (.mv (.c (.bool aa)))],.ret]) [.tmp 4] 18:=aS func173
def agD:aR prog 225 (sq [rg 2 [oz 2],sq [rg 5 [om 0,nL,oi 0],lp 6 0 (sq [rg 9 [oA 2 5 7,nl 2,oZ 4 [1,0],o2 2 4],rg 11 [fo 0 4,oC 99 [12],nn],cr 14 2 [oz 2]]) 15],rg 2 [oq (.mv (.c (.bool aa)))],.ret]) [.tmp 2] 16:=aS func225
def agE:aR prog 226 (sq [rg 2 [ox 1 5 0,oz 2],rg 3 [fo 0 1,nB .eql 11,gA,fo 2 1,oC 99 [8],gZ,gA,fo 3 1,nL,nB .eql 0,gZ,gA,fo 4 1,nL,nB .eql 1,gZ,gA,fo 4 1,nI 5 0,nl 5,oC 254 [27],gZ,o1 2],.ret]) [.tmp 2] 30:=aS func226
def agF:aR prog 227 (sq [rg 2 [ox 1 5 0,oz 2],rg 3 [fo 0 1,nB .eql 6,gA,fo 2 1,oC 99 [8],gZ,gA,fo 3 1,oC 225 [13],gZ,gA,fo 4 1,nL,nB .eql 0,gZ,o1 2],.ret]) [.tmp 2] 22:=aS func227
def ag8:aR prog 254 (sq [rg 2 [ox 1 5 0,oz 2],rg 3 [fo 0 1,nB .eql 1,gB,fo 0 1,nB .eql 7,gZ,gA,ol 5 1,oC 123 [12],gZ,o1 2],.ret]) [.tmp 2] 15:=aS func254
def yv{l:List Y}{f:Y->Bool}(h:i<l.length):(l.take (i+1)).all f=((l.take i).all f&&f l[i]):=by
 rw[Aa (bN h),JJ];simp only[D7,P5,sa]
def xl{l:List Y}{f:Y->Bool}(h:i<l.length)(hf:f l[i]=aq):l.all f=false:=by
 rw[Gt];exact⟨l[i],dq h,by simp[hf]⟩
def MT(l:List aF)(Z:ab)(i:Nat):St :=
 ⟨[.sl .no 2 (l.map aF.enc)]++aj 4 .any++[.sl .no 2 (l.map aF.enc),.int .i64 l.length,.int .i64 (i:Nat)]++aj 8 .any,[],Z⟩
def OA(l:List aF)(Z:ab)(hb:l.length<=aJ):aT 225 [.sl .no 2 (l.map aF.enc)] Z (.bool (je l)):=by
 simp only[aJ] at hb;refine agD.aP ?_;simp only[aO,am,aX,Nat.reduceAdd];refine dP (λp:{i:Nat // i<=l.length/\(l.take i).all (λw=>dO w.ar)=aa}=>MT l Z p.1) (λp=>l.length - p.1) ?_ ?_
 .refine a7.enter ⟨0,by simp,by simp⟩ ?_ bV.rfl br.rfl;simp[MT,aj,am]
 .rintro⟨i,hi,ha⟩;simp only[MT,aj,am];refine cO ?_ ?_
  .intro an;have an:i<l.length:=by simpa using an
   simp only[am];refine ix (mB (bN an)) ?_;simp only[am,Nat.reduceAdd,aF.enc];refine cl (vb l[i].ar Z) ?_;cases hg:dO l[i].ar
   .simp only[am];refine aN rfl (ab.bc _) ⟨?_,rfl⟩;rw[show je l=aq from xl (f:=λ(w:aF)=>dO w.ar) an hg];rfl
   .simp only[am];rw[wrap_i64];exact a7.lT ⟨i+1,an,by rw[yv an,ha,hg];rfl⟩ (by simp;omega) (by simp[am]) (by simp[am]) br.rfl rfl rfl
  .intro an;have an:i=l.length:=by simp at an;omega
   subst an;rw[df] at ha;simp only[am];refine aC ?_;simp[V.erase,je,ha]
def MU(g:FuncId)(l:List Nd)(Z:ab)(i:Nat):St :=
 ⟨[.sl .no 5 (l.map Nd.enc),.fn (.func g) [] []]++aj 5 .any++[.sl .no 5 (l.map Nd.enc),.int .i64 l.length,.int .i64 (i:Nat)]++aj 8 .any,[],Z⟩
def GQ{g:FuncId}{f:Nd->Bool}(l:List Nd)(Z:ab)(hb:l.length<=aJ)(h:∀n∈l,aT g [.agg n.enc] Z (.bool (f n))):aT 173 [.sl .no 5 (l.map Nd.enc),.fn (.func g) [] []] Z (.bool (l.all f)):=by
 simp only[aJ] at hb;refine afO.aP ?_;simp only[aO,am,aX,Nat.reduceAdd];refine dP (λp:{i:Nat // i<=l.length/\(l.take i).all f=aa}=>MU g l Z p.1) (λp=>l.length - p.1) ?_ ?_
 .refine a7.enter ⟨0,by simp,by simp⟩ ?_ bV.rfl br.rfl;simp[MU,aj,am]
 .rintro⟨i,hi,ha⟩;simp only[MU,aj,am];refine cO ?_ ?_
  .intro an;have an:i<l.length:=by simpa using an
   simp only[am];refine ix (fN (bN an)) ?_;simp only[am,Nd.ak];refine cl (h l[i] (dq an)) ?_;cases hg:f l[i]
   .simp only[am];refine aC ?_;simp[V.erase,xl an hg]
   .simp only[am];rw[wrap_i64];exact a7.lT ⟨i+1,an,by rw[yv an,ha,hg];rfl⟩ (by simp;omega) (by simp[am]) (by simp[am]) br.rfl rfl rfl
  .intro an;have an:i=l.length:=by simp at an;omega
   subst an;rw[df] at ha;simp only[am];refine aC ?_;simp[V.erase,ha]
def qo:=af @am <| af @aX <| af @Nd.ak @Nd.fl
def eB:=af @am <| af @jj <| af @cG <| af @dK <| af @bL <| af @c9 <| af @aA.ak <| af @Nd.ak <| af @aF.ak <| af @bD.ak @Nd.fl
def UP(n:Nd)(Z:ab)(hb:n.al.length+n.ae.length<=aJ):aT 170 [.agg n.enc] Z (.bool n.rM):=by
 simp only[aJ] at hb;refine afL.aP ?_;simp only[aO,qo,Nat.reduceAdd];refine cl (vb n.ar Z) ?_;simp only[am]
 repeat' (first
  | (refine fR (λh=>?_) (λh=>?_)<;>simp only[am,h,aD,Nd.fl,wrap_i64 (x:=(n.al.length:Int)+n.ae.length) (by omega) (by omega)])
  | (refine cO (λh=>?_) (λh=>?_)<;>simp only[eB,h,Nat.reduceAdd,Nat.reduceEqDiff,aD,wrap_i64 (x:=(n.al.length:Int)+n.ae.length) (by omega) (by omega)])
  | (refine fT (λh=>?_) (λh=>?_)<;>simp only[eB,h,Nat.reduceAdd,Nat.reduceEqDiff,aD,wrap_i64 (x:=(n.al.length:Int)+n.ae.length) (by omega) (by omega)])
 )
 all_goals refine aC ?_
 all_goals simp_all [V.erase,Nd.rM]
 all_goals (try omega)
def GZ(n:Nd)(Z:ab):aT 171 [.agg n.enc] Z (.bool n.nh):=by
 refine afM.aP ?_;simp only[aO,qo,Nat.reduceAdd]
 repeat' (first
  | (refine fR (λh=>?_) (λh=>?_)<;>simp only[am,h,aD,Nd.fl])
  | (refine cO (λh=>?_) (λh=>?_)<;>simp only[eB,h,Nat.reduceAdd,Nat.reduceEqDiff,aD])
  | (refine fT (λh=>?_) (λh=>?_)<;>simp only[eB,h,Nat.reduceAdd,Nat.reduceEqDiff,aD])
 )
 all_goals refine aC ?_
 all_goals simp_all [V.erase,Nd.nh]
 all_goals (try omega)
def uo(n:Nd):n.al.length+n.ae.length+4<=n.wt:=by
 have h2:n.al.length<=eK n.al:=by
  unfold eK;generalize n.al=l;induction l with
  | nil=>simp
  | cons w ws ih=>simp only[dz,rh,da];omega
 have h3:n.ae.length<=fq n.ae:=by
  rw[Gl];generalize n.ae=l;induction l with
  | nil=>simp
  | cons w ws ih=>simp only[dz,rh,da];omega
 have h1:fq n.ae+eK n.al+4<=n.wt:=by cases n;simp only[Nd.wt,Nd.ae,Nd.al];omega
 omega
def arE(n:Nd)(Z:ab)(hw:n.wt<=aJ):aT 227 [.agg n.enc] Z (.bool n.pj):=by
 have hn:=uo n;refine agF.aP ?_;simp only[aO,qo,Nat.reduceAdd]
 repeat' (first
  | (refine fR (λh=>?_) (λh=>?_)<;>simp only[am,h,aD,Nd.fl])
  | (refine cO (λh=>?_) (λh=>?_)<;>simp only[eB,h,Nat.reduceAdd,Nat.reduceEqDiff,aD])
  | (refine fT (λh=>?_) (λh=>?_)<;>simp only[eB,h,Nat.reduceAdd,Nat.reduceEqDiff,aD])
  | (refine(vb n.ar Z).mono ?_;rintro v _ ⟨rfl,rfl⟩;simp only[am])
  | (refine(OA n.al _ (by omega)).mono ?_;rintro v _ ⟨rfl,rfl⟩;simp only[am])
 )
 all_goals refine aC ?_
 all_goals simp_all [V.erase,Nd.pj]
 all_goals (try omega)
def Rz:∀(k:Nat) (n:Nd) (Z:ab),n.wt<=k->n.wt<=aJ->aT 172 [.agg n.enc] Z (.bool n.gp):=by
 intro k;induction k with
 | zero=>intro n Z h _;cases n;simp only[Nd.wt] at h;omega
 | succ k oJ =>
  intro n Z hk hw;have hn:=uo n;have LY:∀m∈n.ae,m.wt+5<=n.wt:=λm hm=>by
   have h1:=D0 hm;have h2:fq n.ae+4<=n.wt:=by cases n;simp only[Nd.wt,Nd.ae];omega
   omega
  have cT:aT 173 [.sl .no 5 (n.ae.map Nd.enc),.fn (.func 172) [] []] Z (.bool (n.ae.all Nd.gp)) :=
   GQ n.ae Z (by omega) λm hm=>oJ m Z (by have:=LY m hm;omega) (by have:=LY m hm;omega)
  have Ml:aT 173 [.sl .no 5 (n.ae.map Nd.enc),.fn (.func 227) [] []] Z (.bool (n.ae.all Nd.pj)) :=
   GQ n.ae Z (by omega) λm hm=>arE m Z (by have:=LY m hm;omega)
  rw[Nd.Cx];refine afN.aP ?_;simp only[aO,qo,Nat.reduceAdd]
  by_cases k2:n.kind=2
  .simp only[am,Nd.ak,aB k2];refine cl (UP n Z (by omega)) ?_;simp only[am];refine aC ?_;simp[V.erase,k2]
  simp only[am,az k2]
  by_cases k3:n.kind=3
  .simp only[am,Nd.fl,aB k3]
   repeat' (first
    | (refine fR (λh=>?_) (λh=>?_)<;>simp only[am,h,aD,Nd.fl])
    | (refine cO (λh=>?_) (λh=>?_)<;>simp only[eB,h,Nat.reduceAdd,Nat.reduceEqDiff,aD])
    | (refine fT (λh=>?_) (λh=>?_)<;>simp only[eB,h,Nat.reduceAdd,Nat.reduceEqDiff,aD])
    | (refine(OA n.al _ (by omega)).mono ?_;rintro v _ ⟨rfl,rfl⟩;simp only[am])
   )
   all_goals refine aC ?_
   all_goals simp_all [V.erase]
   all_goals (try omega)
  simp only[am,az k3]
  by_cases k4:n.kind=4
  .simp only[am,Nd.ak,aB k4];refine cl (GZ n Z) ?_;simp only[am]
   repeat' (first
    | (refine fR (λh=>?_) (λh=>?_)<;>simp only[am,h,aD,Nd.fl])
    | (refine cO (λh=>?_) (λh=>?_)<;>simp only[eB,h,Nat.reduceAdd,Nat.reduceEqDiff,aD])
    | (refine fT (λh=>?_) (λh=>?_)<;>simp only[eB,h,Nat.reduceAdd,Nat.reduceEqDiff,aD])
    | (refine cT.mono ?_;rintro v _ ⟨rfl,rfl⟩;simp only[am])
   )
   all_goals refine aC ?_
   all_goals simp_all [V.erase]
   all_goals (try omega)
  simp only[am,az k4]
  by_cases k5:n.kind=5
  .simp only[am,Nd.ak,aB k5];refine cl (GZ n Z) ?_;simp only[am]
   repeat' (first
    | (refine fR (λh=>?_) (λh=>?_)<;>simp only[am,h,Nd.fl])
    | (refine cO (λh=>?_) (λh=>?_)<;>simp only[eB,h,Nat.reduceAdd,Nat.reduceEqDiff,aD])
    | (refine fT (λh=>?_) (λh=>?_)<;>simp only[eB,h,Nat.reduceAdd,Nat.reduceEqDiff,aD])
    | (refine Ml.mono ?_;rintro v _ ⟨rfl,rfl⟩;simp only[am])
   )
   all_goals refine aC ?_
   all_goals simp_all [V.erase]
   all_goals (try omega)
  simp only[am,az k5];refine aC ?_;simp[V.erase,k2,k3,k4,k5]
def gw{m:Nd}(hm:m∈n.ae):m.wt+5<=n.wt:=by
 have h1:=D0 hm;have h2:fq n.ae+4<=n.wt:=by cases n;simp only[Nd.wt,Nd.ae];omega
 omega
def Fy:∀(k:Nat) (n:Nd) (Z:ab),n.wt<=k->n.wt<=aJ->aT 123 [.agg n.enc] Z (.bool n.ff):=by
 intro k;induction k with
 | zero=>intro n Z h _;cases n;simp only[Nd.wt] at h;omega
 | succ k oJ =>
  intro n Z hk hw;have hn:=uo n;have cT:aT 173 [.sl .no 5 (n.ae.map Nd.enc),.fn (.func 123) [] []] Z (.bool (n.ae.all Nd.ff)) :=
   GQ n.ae Z (by omega) λm hm=>oJ m Z (by have:=gw hm;omega) (by have:=gw hm;omega)
  rw[Nd.u4];refine aeZ.aP ?_;simp only[aO,qo,Nat.reduceAdd]
  by_cases k1:n.kind=1
  .simp only[am,Nd.ak,aB k1];refine cl (UP n Z (by omega)) ?_;simp only[am];refine aC ?_;simp[V.erase,k1]
  simp only[am,az k1]
  by_cases k7:n.kind=7
  .simp only[am,Nd.ak,aB k7];refine cl (GZ n Z) ?_;simp only[am];cases fp:n.ae with
   | nil =>
    simp only[am,cZ,mW,show decide ((0:Int)=1)=aq from rfl]
    repeat' (first
     | (refine fR (λh=>?_) (λh=>?_)<;>simp only[am,h,Nd.fl,fp,eQ,cZ,mW,show decide ((0:Int)=1)=aq from rfl])
     | (refine cO (λh=>?_) (λh=>?_)<;>simp only[eB,h,Nat.reduceAdd,Nat.reduceEqDiff,aD,fp,eQ,cZ,mW,show decide ((0:Int)=1)=aq from rfl])
     | (refine fT (λh=>?_) (λh=>?_)<;>simp only[eB,h,Nat.reduceAdd,Nat.reduceEqDiff,aD,fp,eQ,cZ,mW,show decide ((0:Int)=1)=aq from rfl])
    )
    all_goals refine aC ?_
    all_goals simp_all [V.erase]
    all_goals (try omega)
   | cons m ms =>
    have hc:aT 172 [.agg m.enc] Z (.bool m.gp):=Rz _ m Z (b7 _) (by have:=gw (n:=n) (m:=m) (by rw[fp];simp);omega)
    repeat' (first
     | (refine fR (λh=>?_) (λh=>?_)<;>simp only[am,h,aD,Nd.fl,fp])
     | (refine cO (λh=>?_) (λh=>?_)<;>simp only[eB,h,Nat.reduceAdd,Nat.reduceEqDiff,aD,fp])
     | (refine fT (λh=>?_) (λh=>?_)<;>simp only[eB,h,Nat.reduceAdd,Nat.reduceEqDiff,aD,fp])
     | (refine ka (c:=m.enc) (by simp) ?_;simp only[am,Nd.ak])
     | (refine hc.mono ?_;rintro v _ ⟨rfl,rfl⟩;simp only[am])
    )
    all_goals refine aC ?_
    all_goals simp_all [V.erase,sG]
    all_goals (try omega)
  simp only[am,az k7]
  by_cases k8:n.kind=8
  case' pos =>
   simp only[am,Nd.ak,aB k8]
  case' neg =>
   simp only[am,az k8]
   by_cases k9:n.kind=9
   case' pos =>
    simp only[am,Nd.ak,aB k9]
   case' neg =>
    simp only[am,az k9];refine aC ?_;simp[V.erase,k1,k7,k8,k9]
  all_goals
   refine cl (GZ n Z) ?_;simp only[am]
   repeat' (first
    | (refine fR (λh=>?_) (λh=>?_)<;>simp only[am,h,aD,Nd.fl])
    | (refine cO (λh=>?_) (λh=>?_)<;>simp only[eB,h,Nat.reduceAdd,Nat.reduceEqDiff,aD])
    | (refine fT (λh=>?_) (λh=>?_)<;>simp only[eB,h,Nat.reduceAdd,Nat.reduceEqDiff,aD])
    | (refine cT.mono ?_;rintro v _ ⟨rfl,rfl⟩;simp only[am])
   )
   all_goals refine aC ?_
   all_goals simp_all [V.erase]
   all_goals (try omega)
def ZY(n:Nd)(Z:ab)(hw:n.wt<=aJ):aT 254 [.agg n.enc] Z (.bool n.sk):=by
 refine ag8.aP ?_;simp only[aO,qo,Nat.reduceAdd]
 repeat' (first
  | (refine fR (λh=>?_) (λh=>?_)<;>simp only[am,h,Nd.ak,Nd.fl])
  | (refine cO (λh=>?_) (λh=>?_)<;>simp only[eB,h,Nat.reduceAdd,Nat.reduceEqDiff,aD])
  | (refine fT (λh=>?_) (λh=>?_)<;>simp only[eB,h,Nat.reduceAdd,Nat.reduceEqDiff,aD])
  | (refine(Fy _ n _ (b7 _) hw).mono ?_;rintro v _ ⟨rfl,rfl⟩;simp only[am])
 )
 all_goals refine aC ?_
 all_goals simp_all [V.erase,Nd.sk]
 all_goals (try omega)
def aek(n:Nd)(Z:ab)(hw:n.wt<=aJ):aT 226 [.agg n.enc] Z (.bool n.j8):=by
 refine agE.aP ?_;simp only[aO,qo,Nat.reduceAdd];cases fp:n.ae with
 | nil =>
  repeat' (first
   | (refine fR (λh=>?_) (λh=>?_)<;>simp only[am,h,aD,Nd.fl,fp,eQ,cZ,mW,show decide ((0:Int)=1)=aq from rfl])
   | (refine cO (λh=>?_) (λh=>?_)<;>simp only[eB,h,Nat.reduceAdd,Nat.reduceEqDiff,aD,fp,eQ,cZ,mW,show decide ((0:Int)=1)=aq from rfl])
   | (refine fT (λh=>?_) (λh=>?_)<;>simp only[eB,h,Nat.reduceAdd,Nat.reduceEqDiff,aD,fp,eQ,cZ,mW,show decide ((0:Int)=1)=aq from rfl])
   | (refine(vb n.ar _).mono ?_;rintro v _ ⟨rfl,rfl⟩;simp only[am])
  )
  all_goals refine aC ?_
  all_goals simp_all [V.erase,Nd.j8,sG]
  all_goals (try omega)
 | cons m ms =>
  have hc:aT 254 [.agg m.enc] Z (.bool m.sk):=ZY m Z (by have:=gw (n:=n) (m:=m) (by rw[fp];simp);omega)
  repeat' (first
   | (refine fR (λh=>?_) (λh=>?_)<;>simp only[am,h,aD,Nd.fl,fp])
   | (refine cO (λh=>?_) (λh=>?_)<;>simp only[eB,h,Nat.reduceAdd,Nat.reduceEqDiff,aD,fp])
   | (refine fT (λh=>?_) (λh=>?_)<;>simp only[eB,h,Nat.reduceAdd,Nat.reduceEqDiff,aD,fp])
   | (refine(vb n.ar _).mono ?_;rintro v _ ⟨rfl,rfl⟩;simp only[am])
   | (refine ka (c:=m.enc) (by simp) ?_;simp only[am,Nd.ak])
   | (refine hc.mono ?_;rintro v _ ⟨rfl,rfl⟩;simp only[am])
  )
  all_goals refine aC ?_
  all_goals simp_all [V.erase,Nd.j8,sG]
  all_goals (try omega)
def WN(n:Nd)(Z:ab)(hw:n.wt<=aJ):aT 169 [.agg n.enc] Z (.bool n.kH):=by
 have hn:=uo n;have cT:aT 173 [.sl .no 5 (n.ae.map Nd.enc),.fn (.func 226) [] []] Z (.bool (n.ae.all Nd.j8)) :=
  GQ n.ae Z (by omega) λm hm=>aek m Z (by have:=gw hm;omega)
 refine afJ.aP ?_;simp only[aO,qo,Nat.reduceAdd]
 by_cases pZ:n.kind=10
 .simp only[am,Nd.fl,aB pZ]
  repeat' (first
   | (refine fR (λh=>?_) (λh=>?_)<;>simp only[am,h,aD,Nd.fl])
   | (refine cO (λh=>?_) (λh=>?_)<;>simp only[eB,h,Nat.reduceAdd,Nat.reduceEqDiff,aD])
   | (refine fT (λh=>?_) (λh=>?_)<;>simp only[eB,h,Nat.reduceAdd,Nat.reduceEqDiff,aD])
   | (refine(OA n.al _ (by omega)).mono ?_;rintro v _ ⟨rfl,rfl⟩;simp only[am])
   | (refine cT.mono ?_;rintro v _ ⟨rfl,rfl⟩;simp only[am])
  )
  all_goals refine aC ?_
  all_goals simp_all [V.erase,Nd.kH]
  all_goals (try omega)
 .simp only[am,Nd.fl,az pZ]
  repeat' (first
   | (refine fR (λh=>?_) (λh=>?_)<;>simp only[am,h,Nd.ak])
   | (refine cO (λh=>?_) (λh=>?_)<;>simp only[eB,h,Nat.reduceAdd,Nat.reduceEqDiff,aD])
   | (refine fT (λh=>?_) (λh=>?_)<;>simp only[eB,h,Nat.reduceAdd,Nat.reduceEqDiff,aD])
   | (refine(Fy _ n _ (b7 _) hw).mono ?_;rintro v _ ⟨rfl,rfl⟩;simp only[am])
  )
  all_goals refine aC ?_
  all_goals simp_all [V.erase,Nd.kH]
  all_goals (try omega)
def ae1:aR prog 125 (sq [rg 0 [ox 2 2 0,ox 3 5 1,oR 4 xr,oZ 5 [0,0]],rg 0 [oR 6 xr],rg 13 [ol 2 2,ol 5 3,oC 175 [13,14],o1 12,oe 12 0,oe 12 1,ot 7 16,o1 8],sq [rg 18 [om 8,nn,gB,ol 2 2,oC 176 [21],nn,gZ,gB,ol 5 3,oC 172 [26],nn,gZ],ci 29 (sq [dg 30 [ol 8 6,of 1 3,mM [1],no,oG [0,0] [(0,1,.c (.int .i64 4)),(1,1,.s 32)],os 8 4 30,o2 2 5],.ret])],rg 34 [oW [2,0] [],oq (.gY 2 (.s 34)),o1 9],sq [rg 36 [fo 1 2,nL,oi 0],lp 38 0 (sq [rg 41 [om 39,oA 67 37 39,nl 67,oR 11 rp,ot 10 41,o2 67 11],dg 44 [om 10,om 9,ol 67 11,om 7,om 10,nA 5 47,nl 5,oC 177 [45,46,50],oP 8 1 6 44,os 1 52 51]]) 53],sq [rg 54 [mk 9,nF 0],ci 57 (sq [dg 58 [oY xr [],mk 9,nf 1,mM [1],no,oG [0,0] [(0,1,.c (.int .i64 4)),(1,1,.s 62)],os 8 4 58,o2 2 5],.ret])],rg 64 [ol 8 6,oW [0,0] [],os 8 4 64,o2 2 5],.ret]) [.cell 4 aa 8,.cell 5 aa 2] 66:=aS func125 ⟨[35],[]⟩
def afQ:aR prog 175 (sq [rg 4 [ox 2 2 0,ox 3 5 1,oz 10,oz 2],sq [rg 6 [fo 0 2,nn],cr 8 9 [ol 5 3,n1 5,o1 4,oV 5 (.bool aa)]],dg 11 [fo 4 3,fo 0 3,nB .eql 4,gA,fo 4 3,nL,fo 1 2,nL,nb .eql 19,gZ,ot 4 12,o1 5],.ret]) [.tmp 4,.tmp 5] 25:=aS func175
def afS:aR prog 177 (sq [rg 6 [ox 4 67 1,ox 5 5 2,oz 4],sq [dg 7 [of 0 5,mM [1],no,ol 67 4,oC 229 [9],nb .neq 8],cr 11 12 [om 0,fo 1 5,oC 230 [12,14],o1 6]],sq [rg 16 [fo 0 4],.block 0 (sq [rg 19 [oB .eql 17 2,o1 18],cd 18 (sq [rg 20 [om 0,fo 1 4,fo 3 5,oC 231 [20,22,24],o1 6],.ret]) (sq [rg 27 [oB .eql 17 3,o1 26],cr 26 28 [om 0,ol 67 4,ol 5 5,oC 232 [28,29,30],o1 6]])])],rg 32 [om 0,ol 67 4,ol 5 5,oC 233 [32,33,34],o1 6],.ret]) [.tmp 6] 36:=aS func177
def agH:aR prog 229 (sq [rg 2 [ox 1 67 0,oi 0],sq [rg 3 [fo 0 1],.block 0 (sq [rg 6 [oB .eql 4 2,o1 5],cd 5 (sq [rg 2 [oi 3],.ret]) (sq [rg 8 [oB .eql 4 3,o1 7],cr 7 2 [oi 5]])])],rg 2 [oi 2],.ret]) [.tmp 2] 9:=aS func229
def agJ:aR prog 230 (sq [rg 4 [oz 4],sq [rg 5 [mk 0,nF 0,nn],ci 9 (rg 10 [om 0,om 0,om 1,ok 10,nf 0,od ah (.store 1 (.s 14) (.c (.bool aa))),ok 11,nf 1,os 1 16 12])],rg 4 [oz 4],.ret]) [.tmp 4] 17:=aS func230
def agK:aR prog 231 (sq [rg 6 [oz 4],rg 7 [oz 4],sq [rg 11 [om 2,nL,oi 0],lp 12 0 (sq [rg 15 [oA 2 11 13,nl 2,oZ 9 [1,0],o2 2 9],rg 17 [om 1,fo 0 9,oC 112 [17,19],o1 10],sq [rg 21 [om 10,nB .lss 0],cr 22 23 [om 0,fo 1 9,oC 230 [23,25],o1 6]],rg 27 [om 7,om 10,oC 220 [27,28],o1 7]]) 30],rg 31 [om 7,o1 6],.ret]) [.tmp 6] 32:=aS func231
def agL:aR prog 232 (sq [rg 6 [ox 4 67 1,ox 5 5 2,oz 4],rg 7 [oz 4],sq [rg 11 [fo 4 5,nL,oi 0],lp 13 0 (sq [rg 16 [oA 5 12 14,nl 5,oZ 9 [0,0,1,7,10],o2 5 9],rg 18 [fo 1 4,fo 2 9,oC 112 [19,21],o1 10],sq [rg 23 [om 10,nB .lss 0],cr 24 25 [om 0,fo 1 9,oC 230 [25,27],o1 6]],dg 29 [om 7,of 2 4,mM [1],nl 65,om 10,om 0,fo 1 4,fo 3 9,oC 231 [33,35,37],oC 258 [31,32,38],nb .or 29,o1 7]]) 41],rg 42 [om 7,o1 6],.ret]) [.tmp 6] 43:=aS func232
def agM:aR prog 233 (sq [rg 6 [ox 4 67 1,ox 5 5 2,oz 4],rg 10 [fo 1 4,fo 2 5,oC 112 [11,13],o1 7],sq [rg 15 [om 7,nB .lss 0],cr 16 17 [om 0,fo 1 5,oC 230 [17,19],o1 6]],sq [rg 21 [fo 0 4,nB .eql 4],cr 23 24 [of 2 4,nl 65,om 7,oC 259 [25,26],o1 6]],rg 29 [fo 1 4,nL,om 7,oC 260 [31,32],o1 28,oe 28 0,oe 28 1,ot 8 34,o1 9],rg 36 [om 8,o1 6],.ret]) [.tmp 6] 37:=aS func233
abbrev BB(Z:ab)(b:Nat)(o:Option Int):Prop:=Z.box b=U (qz o)
def atj{b:Nat}{o:Option Int}{c:List V}(hg:TZ Z)(h:BB Z b o):TZ (Z.set b c):=hg
def I8(b:Nat)(o:Option Int)(p:Int)(h:BB Z b o):d_ 230 [.ptr (.out b) 0,.int .i64 p] Z (.int .u64 ((0#64:bu).toNat:Nat)) (Z.set b (qz (o.or (U p)))):=by
 refine agJ.aP ?_;simp only[aO,am,aX,Nat.reduceAdd,r5];cases o with
 | none =>
  simp only[am,show Z.box b=U [.bool aq,.int .i64 0] from h];exact aN rfl (ab.bc _) ⟨rfl,rfl⟩
 | some q =>
  have e:Z.set b (qz ((U q).or (U p)))=Z:=ab.zS h;simp only[am,show Z.box b=U [.bool aa,.int .i64 q] from h];rw[e];exact aN rfl (ab.bc _) ⟨rfl,rfl⟩
variable{k:Nat}{l:List (List UInt8)}
def V9{w:aF}{ws:List aF}{s:bu}(h:dt l w.ar=U k):gG l s (w::ws)=gG l (j5 s (k:Nat)) ws:=by simp only[gG,h]
def V8{w:aF}{ws:List aF}{s:bu}(h:dt l w.ar=ah):gG l s (w::ws)=(0#64,U w.pos):=by simp only[gG,h]
def XF(b:Nat)(o:Option Int)(l:List (List UInt8))(ws:List aF)(h:BB Z b o)(hl:l.length<=100000)(hw:ws.length<=1000000000):
 d_ 231 [.ptr (.out b) 0,.sl .no 1 (dh l),.sl .no 2 (ws.map aF.enc)] Z (.int .u64 ((gG l 0#64 ws).1.toNat:Nat)) (Z.set b (qz (o.or (gG l 0#64 ws).2))):=by
 refine agK.aP ?_;simp only[aO,am,aX,Nat.reduceAdd,r5,aD];refine ct (ws.length) (λi (x:bu)=>⟨[.ptr (.out b) 0,.sl .no 1 (dh l),.any,.any,.any,.any,.any,.int .u64 (x.toNat:Nat),.any,.any,.any,.sl .no 2 (ws.map aF.enc),.int .i64 (ws.length:Nat),.int .i64 (i:Nat)]++aj 18 .any,[],Z⟩) (λi x=>(gG l 0#64 ws=gG l x (ws.drop i))) λF hF JF aW=>⟨?_,?_,?_⟩
 .exact en aW (0#64) (rfl)
 .rintro i x hi hJ;rw[kM hi] at hJ;simp only[hF,aj,am,ca hi];refine ix (mB (bN hi)) ?_;simp only[am,Nat.reduceAdd,aF.enc];refine cl (xw l ws[i].ar Z hl) ?_;simp only[am,wK];cases hf:dt l ws[i].ar with
  | none =>
   rw[V8 hf] at hJ;simp only[am,uy];refine(I8 b o ws[i].pos h).mono ?_;rintro v σ' ⟨rfl,rfl⟩;simp only[am,aK];exact aN rfl (ab.bc _) ⟨by rw[hJ];rfl,by rw[hJ]⟩
  | some k =>
   rw[V9 hf] at hJ;simp only[am,xg,bY];refine cl (FM x (k:Nat) Z) ?_;simp only[am,aK,bF hi];refine db (j5 x (k:Nat)) hi ?_ ?_ ?_ ?_ ?_ ?_
   .exact cI (aW _ _) (hJ)
   all_goals simp[hF,aj,am,bd,bK,cp,V.lo]
 .rintro x hJ;rw[yE] at hJ;have e:Z.set b (qz (o.or (gG l 0#64 ws).2))=Z:=by rw[hJ];simp only[gG,Option.or_none];exact ab.zS h
  simp only[hF,aj,am,aK,cy,aK];rw[e,hJ];refine aC ?_;simp[V.erase,gG]
def BY:=af @am <| af @aX <| af @r5 <| af @bn.ak <| af @Nd.ak @Nd.fl
def au3:=af @am <| af @aK <| af @BW @bn.ak
def arH(b:Nat)(o:Option Int)(f:bn)(n:Nd)(h:BB Z b o)(hg:TZ Z)(hl:f.al.length<=100000)(hk:n.ae.length<=1000000000)(hw:∀k∈n.ae,k.al.length<=1000000000):
 d_ 232 [.ptr (.out b) 0,.agg f.enc,.agg n.enc] Z (.int .u64 ((qZ f 0#64 o n.ae).1.toNat:Nat)) (Z.set b (qz (qZ f 0#64 o n.ae).2)):=by
 refine agL.aP ?_;simp only[aO,BY,Nat.reduceAdd,aD];have mK:Z.set b (qz o)=Z:=ab.zS h;refine ct (n.ae.length) (λi (x:bu × Option Int)=>⟨[.ptr (.out b) 0,.any,.any,.any,.ptr (.au 0) 0,.ptr (.au 1) 0,.any,.int .u64 (x.1.toNat:Nat),.any,.any,.any,.any,.sl .no 5 (n.ae.map Nd.enc),.int .i64 (n.ae.length:Nat),.int .i64 (i:Nat)]++aj 28 .any,[f.enc,n.enc],Z.set b (qz x.2)⟩) (λi x=>(qZ f 0#64 o n.ae=qZ f x.1 x.2 (n.ae.drop i))) λF hF JF aW=>⟨?_,?_,?_⟩
 .refine en aW ((0#64,o)) (rfl) ?_ ?_ ?_
  all_goals simp[hF,aj,am,bd,mK]
 .rintro i ⟨x,o'⟩ hi hJ;rw[kM hi] at hJ;simp only at hJ;have h1:BB (Z.set b (qz o')) b o' := ke;simp only[hF,aj,am,ca hi];refine ix (fN (bN hi)) ?_;simp only[BY,Nat.reduceAdd];refine(xw f.al n.ae[i].ar _ hl).mono ?_;rintro v bR ⟨rfl,rfl⟩;simp only[am,wK];cases hf:dt f.al n.ae[i].ar with
  | none =>
   simp only[qZ,hf] at hJ;simp only[am,Nd.fl,uy];refine(I8 b o' n.ae[i].pos h1).mono ?_;rintro v σ' ⟨rfl,rfl⟩;simp only[am,aK];exact aN rfl (ab.bc _) ⟨by rw[hJ];rfl,by rw[hJ]⟩
  | some k =>
   simp only[qZ,hf] at hJ;simp only[am,bn.ak,Nd.fl,xg,bY];refine bA.intro (XF b o' f.al n.ae[i].al h1 hl (hw _ (dq hi))) ?_;simp only[am,Rl.ak];refine bA.intro (ajx f.rel k (gG f.al 0#64 n.ae[i].al).1 (atj hg h)) ?_;simp only[au3,bF hi];refine db ((x|||s4 f.rel k (gG f.al 0#64 n.ae[i].al).1,o'.or (gG f.al 0#64 n.ae[i].al).2)) hi ?_ ?_ ?_ ?_ ?_ ?_
   .exact cI (aW _ _) (hJ)
   all_goals simp[hF,aj,am,bd,bK,cp,V.lo,bn.bP,Nd.bP]
 .rintro⟨x,o'⟩ hJ;rw[yE] at hJ;simp only[hF,aj,am,aK,cy,aK];rw[hJ];refine aC ?_;simp[V.erase,qZ]
def apw(b:Nat)(o:Option Int)(f:bn)(n:Nd)(h:BB Z b o)(hl:f.al.length<=100000):
 d_ 233 [.ptr (.out b) 0,.agg f.enc,.agg n.enc] Z (.int .u64 ((pf f n).1.toNat:Nat)) (Z.set b (qz (o.or (pf f n).2))):=by
 refine agM.aP ?_;simp only[aO,BY,Nat.reduceAdd];refine cl (xw f.al n.ar _ hl) ?_;simp only[am,wK];cases hf:dt f.al n.ar with
 | none =>
  simp only[am,Nd.fl,uy];refine(I8 b o n.pos h).mono ?_;rintro v σ' ⟨rfl,rfl⟩;simp only[am];exact aN rfl (ab.bc _) ⟨by simp only[pf,hf];rfl,by simp only[pf,hf]⟩
 | some k =>
  have e:Z.set b (qz (o.or (pf f n).2))=Z:=by simp only[pf,hf,Option.or_none];exact ab.zS h
  rw[e];simp only[am,bn.ak,xg,bY]
  by_cases h4:f.kind=4
  .simp only[am,Rl.ak,bn.ak,aB h4];refine cl (akx f.rel k Z) ?_;simp only[am];refine aC ?_;simp[V.erase,pf,hf,h4]
  .simp only[am,bn.ak,iH,az h4];refine cl (arS f.al.length k Z) ?_;simp only[am,DW];refine aC ?_;simp[V.erase,pf,hf,h4]
def alp(f:bn)(Z:ab):aT 229 [.agg f.enc] Z (.int .i64 (sR f)):=by
 refine agH.aP ?_;simp only[aO,am,aX,Nat.reduceAdd,bn.ak]
 by_cases h2:f.kind=2
 .simp only[am,aB h2];refine aC ?_;simp[V.erase,sR,h2]
 .simp only[am,az h2]
  by_cases h3:f.kind=3
  .simp only[am,aB h3];refine aC ?_;simp[V.erase,sR,h3]
  .simp only[am,az h3];refine aC ?_;simp[V.erase,sR,h2,h3]
def aug(b:Nat)(o:Option Int)(f:bn)(n:Nd)(h:BB Z b o)(hg:TZ Z)(hl:f.al.length<=100000)(hk:n.al.length<=1000000000/\n.ae.length<=1000000000)(hw:∀k∈n.ae,k.al.length<=1000000000):
 d_ 177 [.ptr (.out b) 0,.agg f.enc,.agg n.enc] Z (.int .u64 ((mS f n o).1.toNat:Nat)) (Z.set b (qz (mS f n o).2)):=by
 refine afS.aP ?_;simp only[aO,BY,Nat.reduceAdd];refine bA.intro (alp f Z) ?_;simp only[am,Nd.fl]
 by_cases hq:n.kind=sR f
 .simp only[am,bn.ak,aB hq]
  by_cases h2:f.kind=2
  .have e:mS f n o=((gG f.al 0#64 n.al).1,o.or (gG f.al 0#64 n.al).2):=by rw[mS,aI hq,aI h2]
   simp only[am,bn.ak,Nd.fl,aB h2];refine(XF b o f.al n.al h hl hk.1).mono ?_;rintro v σ' ⟨rfl,rfl⟩;simp only[am];exact aN rfl (ab.bc _) ⟨by rw[e];rfl,by rw[e]⟩
  .simp only[am,az h2]
   by_cases h3:f.kind=3
   .have e:mS f n o=qZ f 0#64 o n.ae:=by rw[mS,aI hq,aw h2,aI h3]
    simp only[am,bn.ak,Nd.ak,aB h3];refine(arH b o f n h hg hl hk.2 hw).mono ?_;rintro v σ' ⟨rfl,rfl⟩;simp only[am];exact aN rfl (ab.bc _) ⟨by rw[e];rfl,by rw[e]⟩
   .have e:mS f n o=((pf f n).1,o.or (pf f n).2):=by rw[mS,aI hq,aw h2,aw h3]
    simp only[am,bn.ak,Nd.ak,az h3];refine(apw b o f n h hl).mono ?_;rintro v σ' ⟨rfl,rfl⟩;simp only[am];exact aN rfl (ab.bc _) ⟨by rw[e];rfl,by rw[e]⟩
 .have e:mS f n o=(0#64,o.or (U n.pos)):=by rw[mS,aw hq]
  simp only[am,Nd.fl,az hq];refine(I8 b o n.pos h).mono ?_;rintro v σ' ⟨rfl,rfl⟩;simp only[am];exact aN rfl (ab.bc _) ⟨by rw[e];rfl,by rw[e]⟩
def au4:=af @am <| af @aX <| af @bJ.ak @Nd.ak
def ape(s:bJ)(n:Nd)(Z:ab):aT 175 [.agg s.enc,.agg n.enc] Z (.bz [.sl .no 5 ((iQ s n).map Nd.enc),.bool (pd s n)]):=by
 refine afQ.aP ?_;simp only[aO,au4,Nat.reduceAdd];cases ht:s.tuple with
 | false =>
  simp only[am,Nd.ak];refine aC ?_;simp[V.erase,aZ,iQ,pd,ht]
 | true =>
  simp only[am,Nd.fl]
  by_cases h4:n.kind=4
  .simp only[am,aD,bJ.ak,Nd.fl,aD,aB h4]
   by_cases hl:n.ae.length=s.bB.length
   .simp only[aB (show(n.ae.length:Int)=s.bB.length by omega)];refine aC ?_;simp[V.erase,aZ,iQ,pd,ht,h4,hl]
   .simp only[az (show ¬(n.ae.length:Int)=s.bB.length by omega)];refine aC ?_;simp[V.erase,aZ,iQ,pd,ht,h4,hl]
  .simp only[am,az h4];refine aC ?_;simp[V.erase,aZ,iQ,pd,ht,h4]
def Nd.ok(n:Nd):Prop:=n.al.length<=1000000000/\n.ae.length<=1000000000/\∀k∈n.ae,k.al.length<=1000000000
variable{s:bJ}
def CC(h:(pd s n&&kJ s&&n.gp)=aq):gz s n=(.zero,U n.pos):=by rw[gz,h];rfl
def RP(h1:pd s n=aa)(h2:kJ s=aa)(h3:n.gp=aa):gz s n=AD s (iQ s n):=by rw[gz,h1,h2,h3];rfl
def OZ(h:kJ s=aa):1<=s.bB.length/\s.bB.length<=8/\(s.tuple=aq->s.bB.length=1):=by
 simp only[kJ,b_,eb,mU] at h;refine⟨h.1.1.1,h.1.1.2,λht=>?_⟩
 rcases h.1.2 with h | h
 .rw[ht] at h;simp at h
 .exact h
def V1(h1:pd s n=aa)(h2:kJ s=aa):(iQ s n).length=s.bB.length:=by
 have hl:=(OZ h2).2.2;unfold iQ;unfold pd at h1;cases ht:s.tuple with
 | false=>simp[hl ht]
 | true=>rw[ht] at h1;simpa using And.right (by simpa using h1)
def YC:=af @am <| af @aX <| af @bJ.ak <| af @bp.ak @Nd.ak
def KF(s:bJ)(n:Nd)(hg:TZ Z)(cc:s.ok)(hn:∀k∈iQ s n,Nd.ok k)(MB:n.wt<=aJ):
 aT 125 [.agg s.enc,.agg n.enc] Z (.bz [.agg (gz s n).1.enc,.agg (mG (gz s n).2)]):=by
 refine ae1.aP ?_;simp only[aO,YC,Nat.reduceAdd];refine cl (ape s n Z) ?_;simp only[am];have done:∀(e:bp × Option Int) (t:List V) (l:List (List V)) (bR:ab),e=gz s n->Z.sub bR->jx (λv σ' => v=V.bz [.agg (gz s n).1.enc,.agg (mG (gz s n).2)]/\σ' = Z) ⟨t,l,bR⟩ (.bz [.agg e.1.enc,.agg (mG e.2)]):=λe t l bR he hs=>by
  subst he;exact aN (by simp[V.cM,bS,bp.dL,mG]) hs ⟨by simp[V.erase,aZ,bp.dy,mG],rfl⟩
 cases hp:pd s n with
 | false =>
  simp only[am,Nat.reduceAdd,bp.ak,Nd.fl];exact done (.zero,U n.pos) _ _ _ (CC (by rw[hp];rfl)).symm (ab.bc _)
 | true =>
  simp only[am,bJ.ak];refine cl (aso s hg cc) ?_;cases hr:kJ s with
  | false =>
   simp only[am,Nat.reduceAdd,bp.ak,Nd.fl];exact done (.zero,U n.pos) _ _ _ (CC (by rw[hp,hr];rfl)).symm (ab.bc _)
  | true =>
   simp only[am,Nd.ak];refine cl (Rz _ n Z (b7 _) MB) ?_;cases hc:n.gp with
   | false =>
    simp only[am,Nat.reduceAdd,bp.ak,Nd.fl];exact done (.zero,U n.pos) _ _ _ (CC (by rw[hp,hr,hc];rfl)).symm (ab.bc _)
   | true =>
    have rE:=RP hp hr hc;obtain⟨xJ,hl8,_⟩:=OZ hr;have me:=V1 hp hr;simp only[am,Nat.reduceAdd];refine kx λb hb=>?_
    have hs:∀c,Z.sub (Z.set b c):=λc=>iS hb
    have hgb:∀c,TZ (Z.set b c):=λc=>(hs c).2.2 _ _ hg
    simp only[am,aD,bJ.ak,aD];refine ct (s.bB.length) (λi (x:bp × Option Int)=>⟨[.any,.any,.any,.any,.ptr (.au 2) 0,.ptr (.au 3) 0,.ptr (.au 4) 0,.sl .no 5 ((iQ s n).map Nd.enc),.any,.ptr (.out b) 0,.any,.any,.any,.any,.any,.any,.any,.any,.any,.any,.any,.any,.any,.any,.any,.any,.any,.any,.any,.any,.any,.any,.any,.any,.any,.any,.any,.sl .no 67 (s.bB.map bn.enc),.int .i64 (s.bB.length:Nat),.int .i64 (i:Nat)]++aj 26 .any,[s.enc,n.enc,bp.zero.enc,[.int .i64 0,.int .i64 0],x.1.enc],Z.set b (qz x.2)⟩) (λi x=>(EG s (iQ s n) i x)) λF hF JF aW=>⟨?_,?_,?_⟩
    .refine en aW ((.zero,ah)) (ajn) ?_ ?_ ?_
     all_goals simp[hF,aj,am,bd,qz]
    .rintro i ⟨e,o⟩ hi hJ;have A3:i<(iQ s n).length:=by omega
     have h8:i<8:=by omega
     have fv:=ajm hJ;rw[jS hi,jS A3] at fv;have xN:=hn _ (dq A3);simp only[hF,aj,am,ca hi];refine ix (Ew hi) ?_;simp only[am,Nat.reduceAdd,bn.ak];refine ix (fN (bN A3)) ?_;simp only[am,bn.ak,Nd.ak];refine bA.intro (aug b o s.bB[i] (iQ s n)[i] ke (hgb _) (cc.2 _ (dq hi)) ⟨xN.1,xN.2.1⟩ xN.2.2) ?_;simp only[am,cG];refine i_ ?_;simp only[yy,bp.wY h8,bp.w7 h8,bF hi];refine db ((e.put i (mS s.bB[i] (iQ s n)[i] o).1,(mS s.bB[i] (iQ s n)[i] o).2)) hi ?_ ?_ ?_ ?_ ?_ ?_
     .exact cI (aW _ _) (fv)
     all_goals simp[hF,aj,am,bd,bK,cp,V.lo,Nd.bP,bJ.bP,bp.bP]
    .rintro⟨e,o⟩ hJ;have dD:=K6 hJ;rw[<-rE] at dD;simp only[hF,aj,am,aK,cy,aK,qz];cases o with
     | some p =>
      simp only[am,Nat.reduceAdd,bp.ak,xh,xf];exact done (.zero,U p) _ _ _ (by rw[dD];rfl) (hs _)
     | none =>
      simp only[am,Nat.reduceAdd,bp.ak,vL];exact done (e,ah) _ _ _ (by rw[dD];rfl) (hs _)
def ahP:aR prog 43 (sq [rg 4 [ox 2 5 0,ox 3 5 1,oz 2],sq [rg 7 [fo 0 2,fo 0 3,nb .neq 8,gB,fo 2 2,fo 2 3,nE .neq 14,gZ,gB,fo 3 2,nL,fo 3 3,nL,nb .neq 22,gZ,gB,fo 4 2,nL,fo 4 3,nL,nb .neq 31,gZ],cr 36 4 [oz 2]],sq [rg 37 [fo 3 2,nL,oi 0],lp 39 0 (sq [rg 42 [om 40,o1 5],dg 43 [fo 3 2,om 5,nA 2 44,nF 0,fo 3 3,om 5,nA 2 50,nF 0,nE .neq 48],cr 55 4 [oz 2]]) 56],sq [rg 57 [fo 4 2,nL,oi 0],lp 59 2 (sq [rg 62 [om 60,o1 6],dg 63 [fo 4 2,om 6,nA 5 64,nl 5,fo 4 3,om 6,nA 5 69,nl 5,oC 43 [67,72],nn],cr 74 4 [oz 2]]) 75],rg 4 [oq (.mv (.c (.bool aa)))],.ret]) [.tmp 4] 76:=aS func43
def aiw:aR prog 88 (sq [rg 4 [ox 2 5 0,ox 3 5 1,oz 2],sq [rg 7 [fo 0 2,fo 0 3,nb .neq 8,gB,fo 2 2,fo 2 3,nE .neq 14,gZ,gB,fo 3 2,nL,fo 3 3,nL,nb .neq 22,gZ,gB,fo 4 2,nL,fo 4 3,nL,nb .neq 31,gZ],cr 36 4 [oz 2]],sq [rg 5 [oi 0],bl 0 (sq [sq [rg 37 [om 5,fo 3 2,nL,nb .lss 37],cx 41 0],.block 1 (sq [dg 44 [fo 3 2,om 5,nA 2 45,nF 0,fo 3 3,om 5,nA 2 51,nF 0,nE .neq 49],cr 56 4 [oz 2]]),rg 42 [ic 5]])],sq [rg 6 [oi 0],bl 2 (sq [sq [rg 57 [om 6,fo 4 2,nL,nb .lss 57],cx 61 2],.block 3 (sq [dg 64 [fo 4 2,om 6,nA 5 65,nl 5,fo 4 3,om 6,nA 5 70,nl 5,oC 88 [68,73],nn],cr 75 4 [oz 2]]),rg 62 [ic 6]])],rg 4 [oq (.mv (.c (.bool aa)))],.ret]) [.tmp 4] 76:=aS func88
def MK(n m:Nd)(Z:ab)(i:Nat):St :=
 ⟨[.any,.any,.ptr (.au 0) 0,.ptr (.au 1) 0]++aj 35 .any++[.int .i64 n.al.length,.int .i64 (i:Nat)]++aj 35 .any,[n.enc,m.enc],Z⟩
def MJ(n m:Nd)(Z:ab)(i:Nat):St :=
 ⟨[.any,.any,.ptr (.au 0) 0,.ptr (.au 1) 0]++aj 55 .any++[.int .i64 n.ae.length,.int .i64 (i:Nat)]++aj 15 .any,[n.enc,m.enc],Z⟩
def arW:∀(k:Nat) (n m:Nd) (Z:ab),n.wt<=k->n.wt<=aJ->aT 43 [.agg n.enc,.agg m.enc] Z (.bool (n.mo m)):=by
 intro k;induction k with
 | zero=>intro n m Z h _;cases n;simp only[Nd.wt] at h;omega
 | succ k oJ =>
  intro n m Z hk hw;have hn:=uo n;have iP:n.wt<2^62:=by simp only[aJ] at hw;omega
  rw[Nd.Xf];refine ahP.aP ?_;simp only[aO,qo,Nat.reduceAdd]
  by_cases k1:n.kind=m.kind
  case' neg =>
   simp only[am,az k1];refine aC ?_;simp[V.erase]
  simp only[am,bL,Nd.fl,k1]
  by_cases k2:n.ar=m.ar
  case' neg =>
   simp only[am,az k2];refine aC ?_;simp[V.erase]
  simp only[am,aD,bL,Nd.fl,k2]
  by_cases k3:n.al.length=m.al.length
  case' neg =>
   have Nf : ¬(n.al.length:Int)=m.al.length:=by omega
   simp only[am,az Nf]
   have:ln n.al m.al=false:=by cases hs:ln n.al m.al with
    | false=>rfl
    | true=>exact absurd (OP hs) k3
   refine aC ?_;simp[V.erase,this]
  simp only[am,aD,bL,Nd.fl,k3]
  by_cases k4:n.ae.length=m.ae.length
  case' neg =>
   have Ng : ¬(n.ae.length:Int)=m.ae.length:=by omega
   simp only[am,az Ng]
   have:kI n.ae m.ae=false:=by cases hs:kI n.ae m.ae with
    | false=>rfl
    | true=>exact absurd (OS hs) k4
   refine aC ?_;simp[V.erase,this]
  simp only[am,aD,bL,Nd.fl,k4];refine dP (λp:{i:Nat // i<=n.al.length/\ln (n.al.take i) (m.al.take i)=aa}=>MK n m Z p.1) (λp=>n.al.length - p.1) ?_ ?_
  .refine a7.enter ⟨0,by simp,by simp[ln]⟩ ?_ bV.rfl br.rfl;simp[MK,aj,am,k3]
  rintro⟨i,hi,ha⟩;simp only[MK,aj,am];refine cO ?_ ?_
  .intro an;have an:i<n.al.length:=by simpa using an
   obtain⟨dp,eG⟩:=OO an (by omega) k3 ha;simp only[am,Nd.fl];refine ix (mB (bN an)) ?_;simp only[am,Nd.fl,aF.enc];refine ix (mB (bN (show i<m.al.length by omega))) ?_;simp only[am,aF.enc]
   by_cases he:n.al[i].ar=m.al[i].ar
   .simp only[am,bL,he];rw[wrap_i64];exact a7.again ⟨i+1,an,by rw[dp];exact aB he⟩ (by simp;omega) (by simp[am]) bV.rfl br.rfl
   .simp only[am,az he];refine aC ?_;simp[V.erase,eG (az he)]
  intro an;have an:i=n.al.length:=by simp at an;omega
  subst an;rw[df,k3,df] at ha;simp only[am,aD,Nd.fl];refine dP (λp:{i:Nat // i<=n.ae.length/\kI (n.ae.take i) (m.ae.take i)=aa}=>MJ n m Z p.1) (λp=>n.ae.length - p.1) ?_ ?_
  .refine a7.enter ⟨0,by simp,by simp[kI]⟩ ?_ bV.rfl br.rfl;simp[MJ,aj,am,k4]
  rintro⟨i,hi,hb⟩;simp only[MJ,aj,am];refine cO ?_ ?_
  .intro an;have an:i<n.ae.length:=by simpa using an
   have qG:=gw (n:=n) (dq an);obtain⟨dp,eG⟩:=OR an (by omega) k4 hb;simp only[am,Nd.fl];refine ix (fN (bN an)) ?_;simp only[am,Nd.ak,Nd.fl];refine ix (fN (bN (show i<m.ae.length by omega))) ?_;simp only[am,Nd.ak];refine bA.intro (oJ n.ae[i] m.ae[i] _ (by omega) (by omega)) ?_;cases he:n.ae[i].mo m.ae[i]
   .simp only[am];refine aC ?_;simp[V.erase,eG he]
   .simp only[am];rw[wrap_i64];exact a7.again ⟨i+1,an,by rw[dp];exact he⟩ (by simp;omega) (by simp[am]) bV.rfl br.rfl
  intro an;have an:i=n.ae.length:=by simp at an;omega
  subst an;rw[df,k4,df] at hb;simp only[am];refine aC ?_;simp[V.erase,ha,hb]
def MM(n m:Nd)(Z:ab)(i:Nat):St :=
 ⟨[.any,.any,.ptr (.au 0) 0,.ptr (.au 1) 0]++[.any,.int .i64 (i:Nat)]++aj 70 .any,[n.enc,m.enc],Z⟩
def ML(n m:Nd)(Z:ab)(i:Nat):St :=
 ⟨[.any,.any,.ptr (.au 0) 0,.ptr (.au 1) 0]++[.any,.any,.int .i64 (i:Nat)]++aj 69 .any,[n.enc,m.enc],Z⟩
def I3:∀(k:Nat) (n m:Nd) (Z:ab),n.wt<=k->n.wt<=aJ->aT 88 [.agg n.enc,.agg m.enc] Z (.bool (n.mo m)):=by
 intro k;induction k with
 | zero=>intro n m Z h _;cases n;simp only[Nd.wt] at h;omega
 | succ k oJ =>
  intro n m Z hk hw;have hn:=uo n;have iP:n.wt<2^62:=by simp only[aJ] at hw;omega
  rw[Nd.Xf];refine aiw.aP ?_;simp only[aO,qo,Nat.reduceAdd]
  by_cases k1:n.kind=m.kind
  case' neg =>
   simp only[am,az k1];refine aC ?_;simp[V.erase]
  simp only[am,bL,Nd.fl,k1]
  by_cases k2:n.ar=m.ar
  case' neg =>
   simp only[am,az k2];refine aC ?_;simp[V.erase]
  simp only[am,aD,bL,Nd.fl,k2]
  by_cases k3:n.al.length=m.al.length
  case' neg =>
   have Nf : ¬(n.al.length:Int)=m.al.length:=by omega
   simp only[am,az Nf]
   have:ln n.al m.al=false:=by cases hs:ln n.al m.al with
    | false=>rfl
    | true=>exact absurd (OP hs) k3
   refine aC ?_;simp[V.erase,this]
  simp only[am,aD,bL,Nd.fl,k3]
  by_cases k4:n.ae.length=m.ae.length
  case' neg =>
   have Ng : ¬(n.ae.length:Int)=m.ae.length:=by omega
   simp only[am,az Ng]
   have:kI n.ae m.ae=false:=by cases hs:kI n.ae m.ae with
    | false=>rfl
    | true=>exact absurd (OS hs) k4
   refine aC ?_;simp[V.erase,this]
  simp only[am,bL,k4];refine dP (λp:{i:Nat // i<=n.al.length/\ln (n.al.take i) (m.al.take i)=aa}=>MM n m Z p.1) (λp=>n.al.length - p.1) ?_ ?_
  .refine a7.enter ⟨0,by simp,by simp[ln]⟩ ?_ bV.rfl br.rfl;simp[MM,aj,am]
  rintro⟨i,hi,ha⟩;simp only[MM,aj,am,Nd.fl,aD];refine cO ?_ ?_
  .intro an;have an:i<n.al.length:=by simpa using an
   obtain⟨dp,eG⟩:=OO an (by omega) k3 ha;simp only[am,Nd.fl];refine ix (mB (bN an)) ?_;simp only[am,Nd.fl,aF.enc];refine ix (mB (bN (show i<m.al.length by omega))) ?_;simp only[am,aF.enc]
   by_cases he:n.al[i].ar=m.al[i].ar
   .simp only[am,bL,he];rw[wrap_i64];exact a7.again ⟨i+1,an,by rw[dp];exact aB he⟩ (by simp;omega) (by simp[am]) bV.rfl br.rfl
   .simp only[am,az he];refine aC ?_;simp[V.erase,eG (az he)]
  intro an;have an:i=n.al.length:=by simp at an;omega
  subst an;rw[df,k3,df] at ha;simp only[am];refine dP (λp:{i:Nat // i<=n.ae.length/\kI (n.ae.take i) (m.ae.take i)=aa}=>ML n m Z p.1) (λp=>n.ae.length - p.1) ?_ ?_
  .refine a7.enter ⟨0,by simp,by simp[kI]⟩ ?_ bV.rfl br.rfl;simp[ML,aj,am]
  rintro⟨i,hi,hb⟩;simp only[ML,aj,am,Nd.fl,aD];refine cO ?_ ?_
  .intro an;have an:i<n.ae.length:=by simpa using an
   have qG:=gw (n:=n) (dq an);obtain⟨dp,eG⟩:=OR an (by omega) k4 hb;simp only[am,Nd.fl];refine ix (fN (bN an)) ?_;simp only[am,Nd.ak,Nd.fl];refine ix (fN (bN (show i<m.ae.length by omega))) ?_;simp only[am,Nd.ak];refine bA.intro (oJ n.ae[i] m.ae[i] _ (by omega) (by omega)) ?_;cases he:n.ae[i].mo m.ae[i]
   .simp only[am];refine aC ?_;simp[V.erase,eG he]
   .simp only[am];rw[wrap_i64];exact a7.again ⟨i+1,an,by rw[dp];exact he⟩ (by simp;omega) (by simp[am]) bV.rfl br.rfl
  intro an;have an:i=n.ae.length:=by simp at an;omega
  subst an;rw[df,k4,df] at hb;simp only[am];refine aC ?_;simp[V.erase,ha,hb]
def air:aR prog 83 (sq [rg 2 [ox 1 5 0,oz 1],sq [rg 3 [fo 0 1],.block 0 (sq [sq [rg 6 [oB .eql 4 1,o1 5],cd 5 .skip (rg 7 [oB .eql 4 2,o1 5])],cd 5 (sq [rg 8 [fo 2 1,o1 2],.ret]) (sq [rg 11 [oB .eql 4 3,o1 10],cd 10 (sq [rg 12 [fo 3 1,oc 144 [.c (.sl .a9 5 []),.s 13],oq (.cat (.c (.aH [123])) (.s 14)),oq (.cat (.s 15) (.c (.aH [125]))),o1 2],.ret]) (sq [rg 18 [oB .eql 4 4,o1 17],cd 17 (sq [rg 19 [fo 4 1,oc 144 [.s 20,.c (.sl .a9 2 [])],oq (.cat (.c (.aH [40])) (.s 21)),oq (.cat (.s 22) (.c (.aH [41]))),o1 2],.ret]) (sq [rg 25 [oB .eql 4 5,o1 24],cd 24 (sq [rg 26 [fo 4 1,oc 144 [.s 27,.c (.sl .a9 2 [])],oq (.cat (.c (.aH [91])) (.s 28)),oq (.cat (.s 29) (.c (.aH [93]))),o1 2],.ret]) (sq [rg 32 [oB .eql 4 6,o1 31],cd 31 (sq [dg 33 [of 2 1,mM [1],no,oq (.cat (.s 34) (.c (.aH [58,123]))),fo 3 1,oc 144 [.c (.sl .a9 5 []),.s 37],oq (.cat (.s 35) (.s 38)),oq (.cat (.s 39) (.c (.aH [125]))),o1 2],.ret]) (sq [rg 42 [oB .eql 4 7,o1 41],cd 41 (sq [sq [rg 43 [fo 4 1,nL,nB .eql 0],cr 46 2 [oq (.mv (.c (.aH [35])))]],rg 47 [fo 4 1,nI 5 0,nl 5,oC 83 [50],oq (.cat (.c (.aH [35])) (.s 51)),o1 2],.ret]) (sq [rg 54 [oB .eql 4 8,o1 53],cd 53 (sq [rg 55 [fo 4 1,oc 144 [.s 56,.c (.sl .a9 2 [])],oq (.cat (.c (.aH [43,40])) (.s 57)),oq (.cat (.s 58) (.c (.aH [41]))),o1 2],.ret]) (sq [rg 61 [oB .eql 4 9,o1 60],cd 60 (sq [rg 62 [fo 4 1,oc 144 [.s 63,.c (.sl .a9 2 [])],oq (.cat (.c (.aH [38,40])) (.s 64)),oq (.cat (.s 65) (.c (.aH [41]))),o1 2],.ret]) (sq [rg 68 [oB .eql 4 10,o1 67],cd 67 (sq [sq [rg 69 [fo 3 1,nL,nB .eql 0],cr 72 73 [fo 4 1,oc 144 [.s 74,.c (.sl .a9 2 [])],oq (.cat (.c (.aH [91])) (.s 75)),oq (.cat (.s 76) (.c (.aH [93]))),o1 2]],dg 78 [fo 4 1,oc 144 [.s 79,.c (.sl .a9 2 [])],oq (.cat (.c (.aH [91])) (.s 80)),oq (.cat (.s 81) (.c (.aH [124]))),of 3 1,mM [0],no,oc 144 [.c (.sl .a9 5 []),.s 84],oq (.cat (.s 82) (.s 85)),oq (.cat (.s 86) (.c (.aH [93]))),o1 2],.ret]) (sq [rg 89 [oB .eql 4 11,o1 88],ci 88 (sq [sq [rg 90 [fo 4 1,nL,nB .eql 0],cr 93 94 [fo 2 1,oq (.cat (.s 95) (.c (.aH [61]))),o1 2]],dg 97 [of 2 1,mM [1],no,oq (.cat (.s 98) (.c (.aH [61]))),fo 4 1,nI 5 0,nl 5,oC 83 [103],oq (.cat (.s 99) (.s 104)),o1 2],.ret])])])])])])])])])])])],rg 2 [oz 1],.ret]) [.tmp 2] 106:=aS func83
def afj:aR prog 144 (sq [rg 4 [oz 1],rg 5 [oz 1],sq [rg 6 [oi 0],bl 0 (sq [sq [rg 8 [om 6,om 0,nL,nb .lss 8],cx 11 0],.block 1 (sq [sq [rg 14 [om 6,nB .gtr 0],ci 15 (rg 16 [om 5,oq (.cat (.s 16) (.c (.aH [44]))),o1 5])],rg 18 [om 5,om 0,om 6,nA 5 19,nl 5,oC 83 [22],oq (.cat (.s 18) (.s 23)),o1 5]]),rg 12 [ic 6]])],sq [rg 7 [oi 0],bl 2 (sq [sq [rg 25 [om 7,om 1,nL,nb .lss 25],cx 28 2],.block 3 (sq [sq [rg 31 [om 7,nB .gtr 0],ci 32 (rg 33 [om 5,oq (.cat (.s 33) (.c (.aH [44]))),o1 5])],rg 35 [om 5,om 1,om 7,nA 2 36,nF 0,oq (.cat (.s 35) (.s 40)),o1 5]]),rg 29 [ic 7]])],rg 42 [om 5,o1 4],.ret]) [.tmp 4] 43:=aS func144
def akY(a b:List (List UInt8)):(cC a).length<=(cC (a++b)).length:=by
 cases a with
 | nil=>simp[cC]
 | cons x xs=>simp only[cC,jN,py,bW];omega
def H9(L:List (List UInt8))(i:Nat):(cC (L.take i)).length<=(cC L).length:=by
 have:=akY (L.take i) (L.drop i)
 rwa [pA] at this
def H8{L:List (List UInt8)}(h:i<L.length):cC (L.take (i+1))=cC (L.take i)++(if 0<i then [44] else [])++L[i]:=by
 rw[Aa (bN h),Nb,iu,xc (by omega)]
def MW(D τ' : Tk)(l:List Nd)(w:List aF)(Z:ab)(i:Nat):St :=
 ⟨[.sl D 5 (l.map Nd.enc),.sl τ' 2 (w.map aF.enc),.any,.any,.any,.aH (cC ((l.map Nd.dS).take i)),.int .i64 (i:Nat)]++aj 36 .any,[],Z⟩
def MX(τ' : Tk)(s:List UInt8)(w:List aF)(Z:ab)(i:Nat):St :=
 ⟨[.any,.sl τ' 2 (w.map aF.enc),.any,.any,.any,.aH (s++cC ((w.map aF.ar).take i)),.any,.int .i64 (i:Nat)]++aj 35 .any,[],Z⟩
def Yz{D τ' : Tk}(l:List Nd)(w:List aF)(Z:ab)(hl:l.length<=aJ)(hw:w.length<=aJ)(hs:(cC (l.map Nd.dS)).length+(cC (w.map aF.ar)).length<=aJ)
 (ih:∀m∈l,aT 83 [.agg m.enc] Z (.aH m.dS)) :
 aT 144 [.sl D 5 (l.map Nd.enc),.sl τ' 2 (w.map aF.enc)] Z (.aH (cC (l.map Nd.dS)++cC (w.map aF.ar))):=by
 simp only[aJ] at hl hw hs;refine afj.aP ?_;simp only[aO,am,aX,Nat.reduceAdd];refine dP (λp:{i:Nat // i<=l.length}=>MW D τ' l w Z p.1) (λp=>l.length - p.1) ?_ ?_
 .refine a7.enter ⟨0,by simp⟩ ?_ bV.rfl br.rfl;simp[MW,aj,am,cC]
 rintro⟨i,hi⟩;simp only[MW,aj,am,aD];refine cO ?_ ?_
 .intro an;have an:i<l.length:=by simpa using an
  have dp:=H8 (L:=l.map Nd.dS) (i:=i) (by simpa using an);have hle:=H9 (l.map Nd.dS) (i+1);have wi:IntKind.i64.wrap ((i:Int)+1)=(i:Int)+1:=wrap_i64 (by omega) (by omega);rw[Ca] at dp;rw[dp] at hle;simp only[bW] at hle;simp only[am]
  by_cases h0:0<i
  case' pos =>
   rw[aI h0] at dp hle;simp only[da,cZ] at hle;simp only[am,aB (show(0:Int)<i by omega)];refine⟨by simp[aJ];omega,?_⟩
  case' neg =>
   rw[aw h0] at dp hle;simp only[cZ,eM] at hle dp;simp only[am,az (show ¬(0:Int)<i by omega)]
  all_goals
   refine ix (fN (bN an)) ?_;simp only[am,Nd.ak];refine cl (ih l[i] (dq an)) ?_;simp only[am];refine⟨by simp[aJ];omega,?_⟩;simp only[wi];exact a7.again ⟨i+1,an⟩ (by simp;omega) (by simp[am,dp]) bV.rfl br.rfl
 intro an;have an:i=l.length:=by simp at an;omega
 subst an;rw[show(l.map Nd.dS).take l.length=l.map Nd.dS by rw[<-aD (f:=Nd.dS),df]];simp only[am];generalize cC (l.map Nd.dS)=s at hs ⊢;refine dP (λp:{i:Nat // i<=w.length}=>MX τ' s w Z p.1) (λp=>w.length - p.1) ?_ ?_
 .refine a7.enter ⟨0,by simp⟩ ?_ bV.rfl br.rfl;simp[MX,aj,am,cC]
 rintro⟨i,hi⟩;simp only[MX,aj,am,aD];refine cO ?_ ?_
 .intro an;have an:i<w.length:=by simpa using an
  have dp:=H8 (L:=w.map aF.ar) (i:=i) (by simpa using an);have hle:=H9 (w.map aF.ar) (i+1);have wi:IntKind.i64.wrap ((i:Int)+1)=(i:Int)+1:=wrap_i64 (by omega) (by omega);rw[Ca] at dp;rw[dp] at hle;simp only[bW] at hle;simp only[am]
  by_cases h0:0<i
  case' pos =>
   rw[aI h0] at dp hle;simp only[da,cZ] at hle;simp only[am,aB (show(0:Int)<i by omega)];refine⟨by simp[aJ];omega,?_⟩
  case' neg =>
   rw[aw h0] at dp hle;simp only[cZ,eM] at hle dp;simp only[am,az (show ¬(0:Int)<i by omega)]
  all_goals
   refine ix (mB (bN an)) ?_;simp only[am,aF.enc];refine⟨by simp[aJ];omega,?_⟩;simp only[wi];exact a7.again ⟨i+1,an⟩ (by simp;omega) (by simp[am,dp]) bV.rfl br.rfl
 intro an;have an:i=w.length:=by simp at an;omega
 subst an;rw[show(w.map aF.ar).take w.length=w.map aF.ar by rw[<-aD (f:=aF.ar),df]];simp only[am];exact rt
def XW:∀(k:Nat) (n:Nd) (Z:ab),n.wt<=k->n.wt<=aJ->aT 83 [.agg n.enc] Z (.aH n.dS):=by
 intro k;induction k with
 | zero=>intro n Z h _;cases n;simp only[Nd.wt] at h;omega
 | succ k oJ =>
  intro n Z hk hw;have ih:∀m∈n.ae,∀Z,aT 83 [.agg m.enc] Z (.aH m.dS):=λm hm Z=>by
   have h1:=gw hm;exact oJ m Z (by omega) (by omega)
  have hn:=uo n;have h1:=Fu n.ae (vw n.ae);have h2:=D1 n.al;have h3:n.ar.length+fq n.ae+eK n.al+4<=n.wt:=by cases n;simp only[Nd.wt,Nd.ae,Nd.al,Nd.ar];omega
  have h4:=LN n.ae (vw n.ae);have pR:aT 144 [.sl .no 5 (n.ae.map Nd.enc),.sl .a9 2 []] Z (.aH (cC (fg n.ae))):=by
   have:=Yz (D:=.no) (τ' := .a9) n.ae [] Z (by omega) (by simp) (by rw[<-BU,show cC (([]:List aF).map aF.ar)=[] from rfl,cZ];omega) λm hm=>ih m hm Z
   simpa [cC,<-BU] using this
  have Mb:aT 144 [.sl .a9 5 [],.sl .no 2 (n.al.map aF.enc)] Z (.aH (kg n.al)):=by
   have:=Yz (D:=.a9) (τ' := .no) [] n.al Z (by simp) (by omega) (by rw[show cC (n.al.map aF.ar)=kg n.al from rfl,show cC (([]:List Nd).map Nd.dS)=[] from rfl,cZ];omega) λm hm=>ih m (by simp at hm) Z
   simpa [cC,kg] using this
  have e:n.dS=if n.kind=1\/n.kind=2 then n.ar else if n.kind=3 then [123]++kg n.al++[125] else if n.kind=4 then [40]++cC (fg n.ae)++[41] else if n.kind=5 then [91]++cC (fg n.ae)++[93]
   else if n.kind=6 then n.ar++[58,123]++kg n.al++[125] else if n.kind=7 then [35]++mI (fg n.ae) else if n.kind=8 then [43,40]++cC (fg n.ae)++[41] else if n.kind=9 then [38,40]++cC (fg n.ae)++[41]
   else if n.kind=10 then([91]++cC (fg n.ae))++(if 0<n.al.length then [124]++kg n.al else [])++[93] else if n.kind=11 then n.ar++[61]++mI (fg n.ae) else []:=by cases n;rw[Nd.dS];rfl
  rw[e];refine air.aP ?_;simp only[aO,qo,Nat.reduceAdd]
  by_cases k1:n.kind=1
  .simp only[am,Nd.fl,aB k1];refine aC ?_;simp[V.erase,k1]
  simp only[am,az k1]
  by_cases k2:n.kind=2
  .simp only[am,Nd.fl,aB k2];refine aC ?_;simp[V.erase,k2]
  simp only[am,az k2]
  by_cases k3:n.kind=3
  .simp only[am,Nd.fl,aB k3];refine cl (Mb) ?_;simp only[am];refine⟨by simp;omega,by simp;omega,?_⟩;refine aC ?_;simp[V.erase,k3]
  simp only[am,az k3]
  by_cases k4:n.kind=4
  .simp only[am,Nd.fl,aB k4];refine cl (pR) ?_;simp only[am];refine⟨by simp;omega,by simp;omega,?_⟩;refine aC ?_;simp[V.erase,k4]
  simp only[am,az k4]
  by_cases k5:n.kind=5
  .simp only[am,Nd.fl,aB k5];refine cl (pR) ?_;simp only[am];refine⟨by simp;omega,by simp;omega,?_⟩;refine aC ?_;simp[V.erase,k5]
  simp only[am,az k5]
  by_cases k6:n.kind=6
  .simp only[am,Nd.fl,aB k6];refine⟨by simp;omega,?_⟩;refine bA.intro (Mb) ?_;simp only[am,Nd.fl];refine⟨by simp;omega,by simp;omega,?_⟩;refine aC ?_;simp[V.erase,k6]
  simp only[am,az k6]
  by_cases k7:n.kind=7
  .simp only[am,aD,Nd.fl,aB k7];cases hc:n.ae with
   | nil =>
    simp only[am,bL,eQ,cZ,mW];refine aC ?_;simp[V.erase,k7,mI,fg]
   | cons m ms =>
    rw[hc] at h4;simp only[fg,mI] at h4;simp only[am,Nd.fl,az (show ¬(((m::ms).length:Nat):Int)=0 by simp;omega),hc];refine ka (c:=m.enc) (by simp) ?_;simp only[am,Nd.ak];refine cl (ih m (by rw[hc];simp) Z) ?_;simp only[am];refine⟨by have:=D0 (n:=m) (l:=m::ms) (by simp);have:=vw [m] m (by simp);simp;rw[hc] at h3;omega,?_⟩;refine aC ?_;simp[V.erase,k7,mI,fg]
  simp only[am,az k7]
  by_cases k8:n.kind=8
  .simp only[am,Nd.fl,aB k8];refine cl (pR) ?_;simp only[am];refine⟨by simp;omega,by simp;omega,?_⟩;refine aC ?_;simp[V.erase,k8]
  simp only[am,az k8]
  by_cases k9:n.kind=9
  .simp only[am,Nd.fl,aB k9];refine cl (pR) ?_;simp only[am];refine⟨by simp;omega,by simp;omega,?_⟩;refine aC ?_;simp[V.erase,k9]
  simp only[am,az k9]
  by_cases pZ:n.kind=10
  .simp only[am,aD,Nd.fl,aB pZ]
   by_cases hz:n.al.length=0
   .simp only[am,bL,Nd.fl,hz,mW];refine cl (pR) ?_;simp only[am];refine⟨by simp;omega,by simp;omega,?_⟩;refine aC ?_;simp[V.erase,pZ]
   .simp only[am,Nd.fl,az (show ¬((n.al.length:Nat):Int)=0 by omega)];refine bA.intro (pR) ?_;simp only[am,Nd.fl];refine⟨by simp;omega,by simp;omega,?_⟩;refine bA.intro (Mb) ?_;simp only[am,Nd.fl];refine⟨by simp;omega,by simp;omega,?_⟩;refine aC ?_;simp[V.erase,pZ,Nat.pos_of_ne_zero hz]
  simp only[am,az pZ]
  by_cases wF:n.kind=11
  .simp only[am,aD,Nd.fl,aB wF];cases hc:n.ae with
   | nil =>
    simp only[am,bL,Nd.fl,hc,eQ,cZ,mW];refine⟨by simp;omega,?_⟩;refine aC ?_;simp[V.erase,wF,mI,fg]
   | cons m ms =>
    simp only[am,Nd.fl,az (show ¬(((m::ms).length:Nat):Int)=0 by simp;omega),hc];refine⟨by simp;omega,?_⟩;refine ka (c:=m.enc) (by simp) ?_;simp only[am,Nd.ak];refine bA.intro (ih m (by rw[hc];simp) Z) ?_;simp only[am,Nd.fl];refine⟨by have:=D0 (n:=m) (l:=m::ms) (by simp);have:=vw [m] m (by simp);simp;rw[hc] at h3;omega,?_⟩;refine aC ?_;simp[V.erase,wF,mI,fg]
  simp only[am,az wF];refine aC ?_;simp[V.erase,k1,k2,k3,k4,k5,k6,k7,k8,k9,pZ,wF]
def Hh:aR prog 198 (sq [rg 4 [oz 2],sq [rg 5 [oi 0],bl 0 (sq [sq [rg 8 [om 5,om 1,nL,nb .lss 8],cx 11 0],.block 1 (sq [rg 14 [om 1,om 5,nA 5 14,nl 5,oZ 6 [0,0,1,7,10],o2 5 6],rg 18 [om 0,nB .eql 1,gA,ol 5 6,oC 196 [21],gZ,nm,oh 24 (om 0),oh 24 (nB .eql 3),oh 24 (nm),og 27 (ol 5 6),og 27 (oC 147 [28]),oh 24 (oy 27 29),oq (.pick (.s 24) (.c (.bool aa)) (.s 30)),o1 7],sq [rg 32 [om 0,nB .eql 2],ci 33 (rg 34 [fo 0 6,nB .eql 6,gA,fo 2 6,oC 127 [39],gZ,gA,fo 3 6,oC 199 [44],gZ,gA,fo 4 6,nL,nB .eql 0,gZ,o1 7])],sq [rg 53 [om 0,nB .eql 4],ci 54 (rg 55 [fo 0 6,nB .eql 11,gA,fo 2 6,oC 127 [60],gZ,gA,fo 3 6,nL,nB .eql 0,gZ,gA,fo 4 6,nL,nB .eql 1,gZ,gA,fo 4 6,nI 5 0,nl 5,oC 147 [79],gZ,gA,fo 4 6,nI 5 0,nF 0,nB .neq 8,gZ,gA,fo 4 6,nI 5 0,nF 0,nB .neq 9,gZ,o1 7])],rg 98 [om 7,nn],cr 99 4 [oz 2]]),rg 12 [ic 5]])],rg 4 [oq (.mv (.c (.bool aa)))],.ret]) [.tmp 4] 100:=aS func198
def af':aR prog 199 (sq [rg 2 [oz 2],sq [rg 3 [oi 0],bl 0 (sq [sq [rg 4 [nm,om 0,nL,nb .lss 4],cx 7 0],.block 1 (sq [rg 10 [om 0,om 3,nA 2 10,nF 0,oC 127 [14],nn],cr 16 2 [oz 2]]),rg 8 [ic 3]])],rg 2 [oq (.mv (.c (.bool aa)))],.ret]) [.tmp 2] 17:=aS func199
def MZ(l:List aF)(Z:ab)(i:Nat):St :=
 ⟨[.sl .no 2 (l.map aF.enc),.any,.any,.int .i64 (i:Nat)]++aj 13 .any,[],Z⟩
def Oy(l:List aF)(Z:ab)(hb:l.length<=aJ):aT 199 [.sl .no 2 (l.map aF.enc)] Z (.bool (je l)):=by
 simp only[aJ] at hb;refine af'.aP ?_;simp only[aO,am,aX,Nat.reduceAdd];refine dP (λp:{i:Nat // i<=l.length/\(l.take i).all (λw=>dO w.ar)=aa}=>MZ l Z p.1) (λp=>l.length - p.1) ?_ ?_
 .refine a7.enter ⟨0,by simp,by simp⟩ ?_ bV.rfl br.rfl;simp[MZ,aj,am]
 .rintro⟨i,hi,ha⟩;simp only[MZ,aj,am,aD];refine cO ?_ ?_
  .intro an;have an:i<l.length:=by simpa using an
   simp only[am];refine ix (mB (bN an)) ?_;simp only[am,aF.enc];refine cl (wP l[i].ar Z) ?_;cases hg:dO l[i].ar
   .simp only[am];refine aN rfl (ab.bc _) ⟨?_,rfl⟩;rw[show je l=aq from xl (f:=λ(w:aF)=>dO w.ar) an hg];rfl
   .simp only[am];rw[wrap_i64];exact a7.again ⟨i+1,an,by rw[yv an,ha,hg];rfl⟩ (by simp;omega) (by simp[am]) bV.rfl br.rfl
  .intro an;have an:i=l.length:=by simp at an;omega
   subst an;rw[df] at ha;simp only[am];refine aC ?_;simp[V.erase,je,ha]
def ajW{f:Nd->Bool}{l:List Nd}(h:(l.length:Int)=1):sG f l=l.all f:=by
 match l,h with
 | [m],_=>simp[sG]
 | [],h=>simp at h
 | _::_::_,h=>simp at h;omega
def ZV(n:Nd):n.sk=(n.ff&&!decide (n.kind=8)&&!decide (n.kind=9)):=by
 unfold Nd.sk;rw[Nd.u4]
 by_cases k1:n.kind=1
 .simp[k1]
 by_cases k7:n.kind=7
 .simp[k7]
 by_cases k8:n.kind=8
 .simp[k8]
 by_cases k9:n.kind=9
 .simp[k9]
 simp[k1,k7,k8,k9]
def tZ(w:Int)(l:List Nd)(Z:ab)(i:Nat):St :=
 ⟨[.int .i64 w,.sl .no 5 (l.map Nd.enc),.any,.any,.any,.int .i64 (i:Nat)]++aj 94 .any,[],Z⟩
def QC(l:List Nd)(Z:ab)(hb:l.length<=aJ)(h:∀n∈l,∀Z,aT 196 [.agg n.enc] Z (.bool n.gp)):aT 198 [.int .i64 1,.sl .no 5 (l.map Nd.enc)] Z (.bool (l.all Nd.gp)):=by
 simp only[aJ] at hb;refine Hh.aP ?_;simp only[aO,am,aX,Nat.reduceAdd];refine dP (λp:{i:Nat // i<=l.length/\(l.take i).all Nd.gp=aa}=>tZ 1 l Z p.1) (λp=>l.length - p.1) ?_ ?_
 .refine a7.enter ⟨0,by simp,by simp⟩ ?_ bV.rfl br.rfl;simp[tZ,aj,am]
 rintro⟨i,hi,ha⟩;simp only[tZ,aj,am,aD];refine cO ?_ ?_
 .intro an;have an:i<l.length:=by simpa using an
  have wi:IntKind.i64.wrap ((i:Int)+1)=(i:Int)+1:=wrap_i64 (by omega) (by omega);have jC:l[i].gp=aa->(l.take (i+1)).all Nd.gp=true:=λhg=>by rw[yv an,ha,hg];rfl
  have eG:l[i].gp=aq->l.all Nd.gp=false:=λhg=>xl an hg
  have kt:=dq an;simp only[am];refine ix (fN (bN an)) ?_;generalize l[i]=n at jC eG kt ⊢;simp only[am,bL,Nd.ak];refine cl (h n kt Z) ?_;cases hg:n.gp
  .simp only[am,c9,Int.reduceEq];refine aC ?_;simp[V.erase,eG hg]
  .simp only[am,c9,Int.reduceEq,wi];exact a7.lT ⟨i+1,an,jC hg⟩ (by simp;omega) (by simp[am]) (by simp[am]) br.rfl rfl rfl
 intro an;have an:i=l.length:=by simp at an;omega
 subst an;rw[df] at ha;simp only[am];refine aC ?_;simp[V.erase,ha]
def Zf(l:List Nd)(Z:ab)(hb:l.length<=aJ)(h:∀n∈l,∀Z,aT 147 [.agg n.enc] Z (.bool n.ff)):aT 198 [.int .i64 3,.sl .no 5 (l.map Nd.enc)] Z (.bool (l.all Nd.ff)):=by
 simp only[aJ] at hb;refine Hh.aP ?_;simp only[aO,am,aX,Nat.reduceAdd];refine dP (λp:{i:Nat // i<=l.length/\(l.take i).all Nd.ff=aa}=>tZ 3 l Z p.1) (λp=>l.length - p.1) ?_ ?_
 .refine a7.enter ⟨0,by simp,by simp⟩ ?_ bV.rfl br.rfl;simp[tZ,aj,am]
 rintro⟨i,hi,ha⟩;simp only[tZ,aj,am,aD];refine cO ?_ ?_
 .intro an;have an:i<l.length:=by simpa using an
  have wi:IntKind.i64.wrap ((i:Int)+1)=(i:Int)+1:=wrap_i64 (by omega) (by omega);have jC:l[i].ff=aa->(l.take (i+1)).all Nd.ff=true:=λhg=>by rw[yv an,ha,hg];rfl
  have eG:l[i].ff=aq->l.all Nd.ff=false:=λhg=>xl an hg
  have kt:=dq an;simp only[am];refine ix (fN (bN an)) ?_;generalize l[i]=n at jC eG kt ⊢;simp only[mT,Int.reduceEq];refine cl (h n kt Z) ?_;cases hg:n.ff
  .simp only[am,c9,Int.reduceEq];refine aC ?_;simp[V.erase,eG hg]
  .simp only[am,c9,Int.reduceEq,wi];exact a7.lT ⟨i+1,an,jC hg⟩ (by simp;omega) (by simp[am]) (by simp[am]) br.rfl rfl rfl
 intro an;have an:i=l.length:=by simp at an;omega
 subst an;rw[df] at ha;simp only[am];refine aC ?_;simp[V.erase,ha]
def Ze(l:List Nd)(Z:ab)(hb:l.length<=aJ)(hw:∀n∈l,n.al.length<=aJ):aT 198 [.int .i64 2,.sl .no 5 (l.map Nd.enc)] Z (.bool (l.all Nd.pj)):=by
 simp only[aJ] at hb;refine Hh.aP ?_;simp only[aO,am,aX,Nat.reduceAdd];refine dP (λp:{i:Nat // i<=l.length/\(l.take i).all Nd.pj=aa}=>tZ 2 l Z p.1) (λp=>l.length - p.1) ?_ ?_
 .refine a7.enter ⟨0,by simp,by simp⟩ ?_ bV.rfl br.rfl;simp[tZ,aj,am]
 rintro⟨i,hi,ha⟩;simp only[tZ,aj,am,aD];refine cO ?_ ?_
 .intro an;have an:i<l.length:=by simpa using an
  have wi:IntKind.i64.wrap ((i:Int)+1)=(i:Int)+1:=wrap_i64 (by omega) (by omega);have jC:l[i].pj=aa->(l.take (i+1)).all Nd.pj=true:=λhg=>by rw[yv an,ha,hg];rfl
  have eG:l[i].pj=aq->l.all Nd.pj=false:=λhg=>xl an hg
  have kt:=dq an;simp only[am];refine ix (fN (bN an)) ?_;generalize l[i]=n at jC eG kt ⊢;simp only[eB,Int.reduceEq];have HS:=hw n kt
  repeat' (first
   | (refine fR (λh=>?_) (λh=>?_)<;>simp only[am,h,aD,c9,Nd.fl,Int.reduceEq])
   | (refine cO (λh=>?_) (λh=>?_)<;>simp only[am,h,wi])
   | (refine fT (λh=>?_) (λh=>?_)<;>simp only[eB,h,Nat.reduceAdd,Nat.reduceEqDiff,aD,Int.reduceEq,Int.reduceNe,wi])
   | (refine(wP n.ar _).mono ?_;rintro v _ ⟨rfl,rfl⟩;simp only[am])
   | (refine(Oy n.al _ HS).mono ?_;rintro v _ ⟨rfl,rfl⟩;simp only[am])
  )
  all_goals cases hg:n.pj
  all_goals first
   | (exfalso;revert hg;simp_all [Nd.pj];done)
   | (refine aN rfl (ab.bc _) ⟨?_,rfl⟩;rw[eG hg];rfl)
   | exact a7.lT ⟨i+1,an,jC hg⟩ (by simp;omega) (by simp[am]) (by simp[am]) br.rfl rfl rfl
 intro an;have an:i=l.length:=by simp at an;omega
 subst an;rw[df] at ha;simp only[am];refine aC ?_;simp[V.erase,ha]
def Zg(l:List Nd)(Z:ab)(hb:l.length<=aJ)(h:∀n∈l,∀m∈n.ae,∀Z,aT 147 [.agg m.enc] Z (.bool m.ff)):aT 198 [.int .i64 4,.sl .no 5 (l.map Nd.enc)] Z (.bool (l.all Nd.j8)):=by
 simp only[aJ] at hb;refine Hh.aP ?_;simp only[aO,am,aX,Nat.reduceAdd];refine dP (λp:{i:Nat // i<=l.length/\(l.take i).all Nd.j8=aa}=>tZ 4 l Z p.1) (λp=>l.length - p.1) ?_ ?_
 .refine a7.enter ⟨0,by simp,by simp⟩ ?_ bV.rfl br.rfl;simp[tZ,aj,am]
 rintro⟨i,hi,ha⟩;simp only[tZ,aj,am,aD];refine cO ?_ ?_
 .intro an;have an:i<l.length:=by simpa using an
  have wi:IntKind.i64.wrap ((i:Int)+1)=(i:Int)+1:=wrap_i64 (by omega) (by omega);have jC:l[i].j8=aa->(l.take (i+1)).all Nd.j8=true:=λhg=>by rw[yv an,ha,hg];rfl
  have eG:l[i].j8=aq->l.all Nd.j8=false:=λhg=>xl an hg
  have kt:=dq an;simp only[am];refine ix (fN (bN an)) ?_;generalize l[i]=n at jC eG kt ⊢;simp only[eB,Int.reduceEq];have hm:=h n kt;cases fp:n.ae with
  | nil =>
   repeat' (first
    | (refine fR (λh=>?_) (λh=>?_)<;>simp only[am,h,aD,c9,Nd.fl,Int.reduceEq,fp,eQ,cZ,mW])
    | (refine cO (λh=>?_) (λh=>?_)<;>simp only[eB,h,Nat.reduceAdd,Nat.reduceEqDiff,aD,Int.reduceEq,Int.reduceNe,wi,fp,eQ,cZ,mW,show decide ((0:Int)=1)=aq from rfl])
    | (refine fT (λh=>?_) (λh=>?_)<;>simp only[eB,h,Nat.reduceAdd,Nat.reduceEqDiff,aD,Int.reduceEq,Int.reduceNe,wi,fp,eQ,cZ,mW,show decide ((0:Int)=1)=aq from rfl])
    | (refine(wP n.ar _).mono ?_;rintro v _ ⟨rfl,rfl⟩;simp only[am])
   )
   all_goals cases hg:n.j8
   all_goals first
    | (exfalso;revert hg;simp_all [Nd.j8,sG];done)
    | (refine aN rfl (ab.bc _) ⟨?_,rfl⟩;rw[eG hg];rfl)
  | cons m ms =>
   have hl:=hm m (by rw[fp];simp)
   repeat' (first
    | (refine fR (λh=>?_) (λh=>?_)<;>simp only[am,h,aD,Nd.fl,fp])
    | (refine cO (λh=>?_) (λh=>?_)<;>simp only[am,h,wi])
    | (refine fT (λh=>?_) (λh=>?_)<;>simp only[eB,h,Nat.reduceAdd,Nat.reduceEqDiff,aD,Int.reduceEq,Int.reduceNe,wi,fp])
    | (refine(wP n.ar _).mono ?_;rintro v _ ⟨rfl,rfl⟩;simp only[am])
    | (refine ka (c:=m.enc) (by simp) ?_;simp only[am,Nd.ak,Nd.fl])
    | (refine(hl _).mono ?_;rintro v _ ⟨rfl,rfl⟩;simp only[am])
   )
   all_goals cases hg:n.j8
   all_goals first
    | (exfalso;revert hg;simp_all [Nd.j8,sG,ZV];done)
    | (refine aN rfl (ab.bc _) ⟨?_,rfl⟩;rw[eG hg];rfl)
    | exact a7.lT ⟨i+1,an,jC hg⟩ (by simp;omega) (by simp[am]) (by simp[am]) br.rfl rfl rfl
 intro an;have an:i=l.length:=by simp at an;omega
 subst an;rw[df] at ha;simp only[am];refine aC ?_;simp[V.erase,ha]
def s1:List UInt8:=[43,40,120,44,35,123,97,44,98,125,41]
def s2:List UInt8:=[43,40,41]
def s3:List UInt8:=[91,102,61,120,44,103,61,35,104,105,124,114,93]
def afm:aR prog 147 (sq [rg 2 [ox 1 5 0,oz 2],sq [rg 3 [fo 0 1],.block 0 (sq [rg 6 [oB .eql 4 1,o1 5],cd 5 (sq [rg 7 [fo 2 1,oC 127 [8],gA,fo 3 1,nL,fo 4 1,nL,nb .add 13,nB .eql 0,gZ,o1 2],.ret]) (sq [rg 21 [oB .eql 4 7,o1 20],cd 20 (sq [rg 22 [fo 2 1,oq (.kQ .eql (.s 23) (.c (.aH []))),gA,fo 3 1,nL,nB .eql 0,gZ,gA,fo 4 1,nL,nB .eql 1,gZ,gA,fo 4 1,oc 198 [.c (.int .i64 1),.s 39],gZ,o1 2],.ret]) (sq [sq [rg 43 [oB .eql 4 8,o1 42],cd 42 .skip (rg 44 [oB .eql 4 9,o1 42])],cr 42 45 [fo 2 1,oq (.kQ .eql (.s 46) (.c (.aH []))),gA,fo 3 1,nL,nB .eql 0,gZ,gA,fo 4 1,nL,nB .gtr 0,gZ,gA,fo 4 1,oc 198 [.c (.int .i64 3),.s 62],gZ,o1 2]])])])],rg 2 [oz 2],.ret]) [.tmp 2] 65:=aS func147
def afn:aR prog 148 (sq [rg 2 [ox 1 5 0,oz 2],sq [rg 3 [fo 0 1,nB .eql 10],cr 5 6 [fo 2 1,oq (.kQ .eql (.s 7) (.c (.aH []))),gA,fo 3 1,nL,nB .leq 1,gZ,gA,fo 3 1,oC 199 [17],gZ,gA,fo 4 1,oc 198 [.c (.int .i64 4),.s 22],gZ,o1 2]],rg 25 [fo 0 1,nB .eql 1,gA,ol 5 1,oC 147 [29],gZ,o1 2],.ret]) [.tmp 2] 32:=aS func148
def af9:aR prog 196 (sq [rg 2 [ox 1 5 0,oz 2],sq [rg 3 [fo 0 1],.block 0 (sq [rg 6 [oB .eql 4 2,o1 5],cd 5 (sq [rg 7 [fo 2 1,oC 127 [8],gA,fo 3 1,nL,fo 4 1,nL,nb .add 13,nB .eql 0,gZ,o1 2],.ret]) (sq [rg 21 [oB .eql 4 3,o1 20],cd 20 (sq [rg 22 [fo 2 1,oq (.kQ .eql (.s 23) (.c (.aH []))),gA,fo 3 1,oC 199 [27],gZ,gA,fo 4 1,nL,nB .eql 0,gZ,o1 2],.ret]) (sq [rg 37 [oB .eql 4 4,o1 36],cd 36 (sq [rg 38 [fo 2 1,oq (.kQ .eql (.s 39) (.c (.aH []))),gA,fo 3 1,nL,nB .eql 0,gZ,gA,fo 4 1,nL,nB .gtr 0,gZ,gA,fo 4 1,oc 198 [.c (.int .i64 1),.s 55],gZ,o1 2],.ret]) (sq [rg 59 [oB .eql 4 5,o1 58],cr 58 60 [fo 2 1,oq (.kQ .eql (.s 61) (.c (.aH []))),gA,fo 3 1,nL,nB .eql 0,gZ,gA,fo 4 1,oc 198 [.c (.int .i64 2),.s 71],gZ,o1 2]])])])])],rg 2 [oz 2],.ret]) [.tmp 2] 74:=aS func196
def Rw:∀(k:Nat) (n:Nd) (Z:ab),n.wt<=k->n.wt<=aJ->aT 196 [.agg n.enc] Z (.bool n.gp):=by
 intro k;induction k with
 | zero=>intro n Z h _;cases n;simp only[Nd.wt] at h;omega
 | succ k oJ =>
  intro n Z hk hw;have hn:=uo n;have iP:n.wt<2^62:=by simp only[aJ] at hw;omega
  have cT:∀Z,aT 198 [.int .i64 1,.sl .no 5 (n.ae.map Nd.enc)] Z (.bool (n.ae.all Nd.gp)):=λZ =>
   QC n.ae Z (by omega) λm hm Z=>oJ m Z (by have:=gw hm;omega) (by have:=gw hm;omega)
  have Ml:∀Z,aT 198 [.int .i64 2,.sl .no 5 (n.ae.map Nd.enc)] Z (.bool (n.ae.all Nd.pj)):=λZ =>
   Ze n.ae Z (by omega) λm hm=>by have:=gw hm;have:=uo m;omega
  have hr:=λZ=>wP n.ar Z
  have Mm:=λZ=>Oy n.al Z (by omega)
  rw[Nd.Cx];refine af9.aP ?_;simp only[aO,qo,Nat.reduceAdd]
  by_cases k2:n.kind=2
  .simp only[am,Nd.fl,aB k2]
   repeat' (first
    | (refine fR (λh=>?_) (λh=>?_)<;>simp only[am,h,aD,Nd.fl,wrap_i64 (x:=(n.al.length:Int)+n.ae.length) (by omega) (by omega)])
    | (refine cO (λh=>?_) (λh=>?_)<;>simp only[eB,h,Nat.reduceAdd,Nat.reduceEqDiff,aD,wrap_i64 (x:=(n.al.length:Int)+n.ae.length) (by omega) (by omega)])
    | (refine fT (λh=>?_) (λh=>?_)<;>simp only[eB,h,Nat.reduceAdd,Nat.reduceEqDiff,aD,wrap_i64 (x:=(n.al.length:Int)+n.ae.length) (by omega) (by omega)])
    | (refine(hr _).mono ?_;rintro v _ ⟨rfl,rfl⟩;simp only[am])
   )
   all_goals refine aC ?_
   all_goals simp_all [V.erase,Nd.rM]
   all_goals (try omega)
  simp only[am,az k2]
  by_cases k3:n.kind=3
  .simp only[am,Nd.fl,aB k3]
   repeat' (first
    | (refine fR (λh=>?_) (λh=>?_)<;>simp only[am,h,aD,Nd.fl])
    | (refine cO (λh=>?_) (λh=>?_)<;>simp only[eB,h,Nat.reduceAdd,Nat.reduceEqDiff,aD])
    | (refine fT (λh=>?_) (λh=>?_)<;>simp only[eB,h,Nat.reduceAdd,Nat.reduceEqDiff,aD])
    | (refine(Mm _).mono ?_;rintro v _ ⟨rfl,rfl⟩;simp only[am])
   )
   all_goals refine aC ?_
   all_goals simp_all [V.erase]
   all_goals (try omega)
  simp only[am,az k3]
  by_cases k4:n.kind=4
  .simp only[am,Nd.fl,aB k4]
   repeat' (first
    | (refine fR (λh=>?_) (λh=>?_)<;>simp only[am,h,aD,Nd.fl])
    | (refine cO (λh=>?_) (λh=>?_)<;>simp only[eB,h,Nat.reduceAdd,Nat.reduceEqDiff,aD])
    | (refine fT (λh=>?_) (λh=>?_)<;>simp only[eB,h,Nat.reduceAdd,Nat.reduceEqDiff,aD])
    | (refine(cT _).mono ?_;rintro v _ ⟨rfl,rfl⟩;simp only[am])
   )
   all_goals refine aC ?_
   all_goals simp_all [V.erase,Nd.nh]
   all_goals (try omega)
  simp only[am,az k4]
  by_cases k5:n.kind=5
  .simp only[am,Nd.fl,aB k5]
   repeat' (first
    | (refine fR (λh=>?_) (λh=>?_)<;>simp only[am,h,aD,Nd.fl])
    | (refine cO (λh=>?_) (λh=>?_)<;>simp only[eB,h,Nat.reduceAdd,Nat.reduceEqDiff,aD])
    | (refine fT (λh=>?_) (λh=>?_)<;>simp only[eB,h,Nat.reduceAdd,Nat.reduceEqDiff,aD])
    | (refine(Ml _).mono ?_;rintro v _ ⟨rfl,rfl⟩;simp only[am])
   )
   all_goals refine aC ?_
   all_goals simp_all [V.erase,Nd.nh]
   all_goals (try omega)
  simp only[am,az k5];refine aC ?_;simp[V.erase,k2,k3,k4,k5]
def Fw:∀(k:Nat) (n:Nd) (Z:ab),n.wt<=k->n.wt<=aJ->aT 147 [.agg n.enc] Z (.bool n.ff):=by
 intro k;induction k with
 | zero=>intro n Z h _;cases n;simp only[Nd.wt] at h;omega
 | succ k oJ =>
  intro n Z hk hw;have hn:=uo n;have iP:n.wt<2^62:=by simp only[aJ] at hw;omega
  have cT:∀Z,aT 198 [.int .i64 3,.sl .no 5 (n.ae.map Nd.enc)] Z (.bool (n.ae.all Nd.ff)):=λZ =>
   Zf n.ae Z (by omega) λm hm Z=>oJ m Z (by have:=gw hm;omega) (by have:=gw hm;omega)
  have ajP:∀Z,aT 198 [.int .i64 1,.sl .no 5 (n.ae.map Nd.enc)] Z (.bool (n.ae.all Nd.gp)):=λZ =>
   QC n.ae Z (by omega) λm hm Z=>Rw _ m Z (b7 _) (by have:=gw hm;omega)
  have hr:=λZ=>wP n.ar Z
  rw[Nd.u4];refine afm.aP ?_;simp only[aO,qo,Nat.reduceAdd]
  by_cases k1:n.kind=1
  .simp only[am,Nd.fl,aB k1]
   repeat' (first
    | (refine fR (λh=>?_) (λh=>?_)<;>simp only[am,h,aD,Nd.fl,wrap_i64 (x:=(n.al.length:Int)+n.ae.length) (by omega) (by omega)])
    | (refine cO (λh=>?_) (λh=>?_)<;>simp only[eB,h,Nat.reduceAdd,Nat.reduceEqDiff,aD,wrap_i64 (x:=(n.al.length:Int)+n.ae.length) (by omega) (by omega)])
    | (refine fT (λh=>?_) (λh=>?_)<;>simp only[eB,h,Nat.reduceAdd,Nat.reduceEqDiff,aD,wrap_i64 (x:=(n.al.length:Int)+n.ae.length) (by omega) (by omega)])
    | (refine(hr _).mono ?_;rintro v _ ⟨rfl,rfl⟩;simp only[am])
   )
   all_goals refine aC ?_
   all_goals simp_all [V.erase,Nd.rM]
   all_goals (try omega)
  simp only[am,az k1]
  by_cases k7:n.kind=7
  .have hq:(decide ((n.ae.length:Int)=1)&&sG Nd.gp n.ae)=(decide ((n.ae.length:Int)=1)&&n.ae.all Nd.gp):=by
    by_cases h1:(n.ae.length:Int)=1
    .rw[ajW h1]
    .simp[h1]
   rw[aw k1,aI k7,PX,hq];simp only[am,Nd.fl,aB k7]
   repeat' (first
    | (refine fR (λh=>?_) (λh=>?_)<;>simp only[am,h,aD,Nd.fl])
    | (refine cO (λh=>?_) (λh=>?_)<;>simp only[eB,h,Nat.reduceAdd,Nat.reduceEqDiff,aD])
    | (refine fT (λh=>?_) (λh=>?_)<;>simp only[eB,h,Nat.reduceAdd,Nat.reduceEqDiff,aD])
    | (refine(ajP _).mono ?_;rintro v _ ⟨rfl,rfl⟩;simp only[am])
   )
   all_goals refine aC ?_
   all_goals simp_all [V.erase,Nd.nh]
   all_goals (try omega)
  simp only[am,az k7]
  by_cases k8:n.kind=8
  case' pos =>
   simp only[am,Nd.fl,aB k8]
  case' neg =>
   simp only[am,az k8]
   by_cases k9:n.kind=9
   case' pos =>
    simp only[am,Nd.fl,aB k9]
   case' neg =>
    simp only[am,az k9];refine aC ?_;simp[V.erase,k1,k7,k8,k9]
  all_goals
   repeat' (first
    | (refine fR (λh=>?_) (λh=>?_)<;>simp only[am,h,aD,Nd.fl])
    | (refine cO (λh=>?_) (λh=>?_)<;>simp only[eB,h,Nat.reduceAdd,Nat.reduceEqDiff,aD])
    | (refine fT (λh=>?_) (λh=>?_)<;>simp only[eB,h,Nat.reduceAdd,Nat.reduceEqDiff,aD])
    | (refine(cT _).mono ?_;rintro v _ ⟨rfl,rfl⟩;simp only[am])
   )
   all_goals refine aC ?_
   all_goals simp_all [V.erase,Nd.nh]
   all_goals (try omega)
def WI(n:Nd)(Z:ab)(hw:n.wt<=aJ):aT 148 [.agg n.enc] Z (.bool n.kH):=by
 have hn:=uo n;have cT:∀Z,aT 198 [.int .i64 4,.sl .no 5 (n.ae.map Nd.enc)] Z (.bool (n.ae.all Nd.j8)):=λZ =>
  Zg n.ae Z (by omega) λm hm p hp Z=>Fw _ p Z (b7 _) (by have:=gw hm;have:=gw hp;omega)
 have Mm:=λZ=>Oy n.al Z (by omega)
 refine afn.aP ?_;simp only[aO,qo,Nat.reduceAdd]
 by_cases pZ:n.kind=10
 .simp only[am,Nd.fl,aB pZ]
  repeat' (first
   | (refine fR (λh=>?_) (λh=>?_)<;>simp only[am,h,aD,Nd.fl])
   | (refine cO (λh=>?_) (λh=>?_)<;>simp only[eB,h,Nat.reduceAdd,Nat.reduceEqDiff,aD])
   | (refine fT (λh=>?_) (λh=>?_)<;>simp only[eB,h,Nat.reduceAdd,Nat.reduceEqDiff,aD])
   | (refine(Mm _).mono ?_;rintro v _ ⟨rfl,rfl⟩;simp only[am])
   | (refine(cT _).mono ?_;rintro v _ ⟨rfl,rfl⟩;simp only[am])
  )
  all_goals refine aC ?_
  all_goals simp_all [V.erase,Nd.kH]
  all_goals (try omega)
 .simp only[am,Nd.fl,az pZ]
  repeat' (first
   | (refine fR (λh=>?_) (λh=>?_)<;>simp only[am,h,Nd.ak])
   | (refine cO (λh=>?_) (λh=>?_)<;>simp only[eB,h,Nat.reduceAdd,Nat.reduceEqDiff,aD])
   | (refine fT (λh=>?_) (λh=>?_)<;>simp only[eB,h,Nat.reduceAdd,Nat.reduceEqDiff,aD])
   | (refine(Fw _ n _ (b7 _) hw).mono ?_;rintro v _ ⟨rfl,rfl⟩;simp only[am])
  )
  all_goals refine aC ?_
  all_goals simp_all [V.erase,Nd.kH]
  all_goals (try omega)
def afi:aR prog 143 (sq [rg 0 [ox 2 2 0,ox 3 5 1,oR 4 xr,oZ 5 [0,0]],rg 0 [oR 6 xr],rg 10 [ol 5 3,n1 5,o1 7],sq [rg 12 [ol 2 2,oC 195 [12],nn,gB,ol 5 3,oC 196 [16],nn,gZ],ci 19 (sq [dg 20 [ol 8 6,of 1 3,mM [1],no,oG [0,0] [(0,1,.c (.int .i64 4)),(1,1,.s 22)],os 8 4 20,o2 2 5],.ret])],sq [rg 24 [fo 0 2],ci 25 (sq [sq [rg 26 [fo 0 3,nB .neq 4,gB,fo 4 3,nL,fo 1 2,nL,nb .neq 32,gZ],ci 37 (sq [dg 38 [ol 8 6,of 1 3,mM [1],no,oG [0,0] [(0,1,.c (.int .i64 4)),(1,1,.s 40)],os 8 4 38,o2 2 5],.ret])],rg 42 [fo 4 3,o1 7]])],sq [rg 8 [oi 0],bl 0 (sq [sq [rg 44 [om 8,om 7,nL,nb .lss 44],cx 47 0],.block 1 (sq [dA 50 [9] [fo 1 2,om 8,nA 67 51,nl 67,om 7,om 8,nA 5 55,nl 5,oC 197 [54,58],oN,oX 9 3 59],sq [rg 60 [fo 1 9],ci 61 (sq [dg 62 [oY xr [],of 2 9,mM [1],no,oG [0,0] [(0,1,.c (.int .i64 4)),(1,1,.s 64)],os 8 4 62,o2 2 5],.ret])],rg 66 [om 8,fo 0 9,oP 8 1 6 66,os 1 69 68]]),rg 48 [ic 8]])],rg 70 [ol 8 6,oW [0,0] [],os 8 4 70,o2 2 5],.ret]) [.cell 4 aa 8,.cell 5 aa 2] 72:=aS func143
def af_:aR prog 197 (sq [rg 0 [ox 2 67 0,ox 3 5 1,oR 4 [(.int .u64 0),(.bool aq),(.int .i64 0)]],rg 9 [fo 1 3,oY [(.int .u64 0),(.bool aq),(.int .i64 0)] [(1,1,.c (.bool aa)),(2,1,.s 10)],oR 5 [(.int .u64 0),(.bool aq),(.int .i64 0)],o2 3 5],sq [rg 12 [fo 0 2,nB .eql 2],ci 14 (sq [sq [rg 15 [fo 0 3,nB .neq 3],cr 17 18 [ol 3 5,o2 3 4]],rg 19 [fo 1 2,fo 3 3,oC 239 [20,22],o2 3 4],.ret])],sq [rg 24 [fo 0 2,nB .eql 3],ci 26 (sq [sq [rg 27 [fo 0 3,nB .neq 5],cr 29 30 [ol 3 5,o2 3 4]],rg 31 [ol 67 2,ol 5 3,oC 240 [31,32],o2 3 4],.ret])],rg 34 [fo 1 2,fo 2 3,oC 138 [35,37],o1 6],sq [rg 39 [fo 0 3,nB .neq 2,gB,om 6,nB .lss 0,gZ],cr 45 46 [ol 3 5,o2 3 4]],sq [rg 47 [fo 0 2,nB .eql 4],cr 49 50 [of 2 2,nl 65,om 6,oC 241 [51,52],oY [(.int .u64 0),(.bool aq),(.int .i64 0)] [(0,1,.s 53)],o2 3 4]],rg 56 [fo 1 2,nL,om 6,oC 242 [58,59],o1 55,oe 55 0,oe 55 1,ot 7 61,o1 8],rg 63 [om 7,oY [(.int .u64 0),(.bool aq),(.int .i64 0)] [(0,1,.s 63)],o2 3 4],.ret]) [.cell 4 aa 3] 65:=aS func197
def agS:aR prog 239 (sq [rg 0 [oR 4 [(.int .u64 0),(.bool aq),(.int .i64 0)]],rg 5 [oz 6],sq [rg 6 [oi 0],bl 0 (sq [sq [rg 8 [om 6,om 1,nL,nb .lss 8],cx 11 0],.block 1 (sq [rg 14 [om 0,om 1,om 6,nA 2 15,nF 0,oC 138 [14,19],o1 7],sq [rg 21 [om 7,nB .lss 0],cr 22 23 [om 1,om 6,nA 2 23,nF 1,oY [(.int .u64 0),(.bool aq),(.int .i64 0)] [(1,1,.c (.bool aa)),(2,1,.s 27)],o2 3 4]],rg 29 [om 5,om 7,n1 1,na 1 29,o1 5]]),rg 12 [ic 6]])],rg 33 [om 5,oC 193 [33],oY [(.int .u64 0),(.bool aq),(.int .i64 0)] [(0,1,.s 34)],o2 3 4],.ret]) [.cell 4 aa 3] 36:=aS func239
def agU:aR prog 240 (sq [rg 0 [ox 2 67 0,ox 3 5 1,oR 4 [(.int .u64 0),(.bool aq),(.int .i64 0)]],rg 5 [oz 4],sq [rg 6 [oi 0],bl 0 (sq [sq [rg 10 [om 6,fo 4 3,nL,nb .lss 10],cx 14 0],.block 1 (sq [rg 17 [fo 4 3,om 6,nA 5 18,nl 5,oZ 7 [0,0,1,7,10],o2 5 7],rg 22 [fo 1 2,fo 2 7,oC 138 [23,25],o1 8],sq [rg 27 [om 8,nB .lss 0],cr 28 29 [fo 1 7,oY [(.int .u64 0),(.bool aq),(.int .i64 0)] [(1,1,.c (.bool aa)),(2,1,.s 30)],o2 3 4]],rg 32 [fo 1 2,fo 3 7,oC 239 [33,35],oR 9 [(.int .u64 0),(.bool aq),(.int .i64 0)],o2 3 9],sq [rg 37 [fo 1 9],cr 38 39 [ol 3 9,o2 3 4]],rg 40 [om 5,of 2 2,nl 65,om 8,fo 0 9,oC 264 [42,43,45],nb .or 40,o1 5]]),rg 15 [ic 6]])],rg 48 [om 5,oY [(.int .u64 0),(.bool aq),(.int .i64 0)] [(0,1,.s 48)],o2 3 4],.ret]) [.cell 4 aa 3] 50:=aS func240
def WT(l:List (List UInt8))(ws:List aF)(Z:ab)(hl:l.length<=100000)(hw:ws.length<=100000) :
 aT 239 [.sl .no 1 (dh l),.sl .no 2 (ws.map aF.enc)] Z (.agg (xz (gG l 0#64 ws))):=by
 refine agS.aP ?_;simp only[aO,am,aX,Nat.reduceAdd,r5];refine ct (ws.length) (λi (x:List Int × Tk × ab)=>⟨[.sl .no 1 (dh l),.sl .no 2 (ws.map aF.enc),.any,.any,.ptr (.au 0) 0,.sl x.2.1 1 (cg x.1),.int .i64 (i:Nat)]++aj 29 .any,[[.int .u64 ((0#64:bu).toNat:Nat),.bool aq,.int .i64 0]],x.2.2⟩) (λi x=>(gG l 0#64 ws=gG l (fC x.1) (ws.drop i)/\Gr Z x.2.2 x.2.1 x.1.length/\x.1.length=i)) λF hF JF aW=>⟨?_,?_,?_⟩
 .refine en aW (([],.a9,Z)) (⟨rfl,Gr.nil,rfl⟩) ?_ ?_ ?_
  all_goals simp[hF,aj,am,bd,cg]
 .rintro i ⟨L,tk,bR⟩ hi ⟨hJ,hG,hL⟩;rw[kM hi] at hJ;simp only at hJ hG hL;simp only[hF,aj,am,ca hi,aD];refine ix (mB (bN hi)) ?_;simp only[am,aF.enc];refine(yd l ws[i].ar bR hl).mono ?_;rintro v bR ⟨rfl,rfl⟩;simp only[am,wK];cases hf:dt l ws[i].ar with
  | none =>
   rw[V8 hf] at hJ;simp only[am,uy];refine ix (mB (bN hi)) ?_;simp only[am,Nat.reduceAdd,aK,aF.enc];exact aN rfl hG.sub ⟨by rw[hJ];rfl,rfl⟩
  | some k =>
   rw[V9 hf] at hJ;simp only[am,xg,bY];refine Gr.app (by simpa [cg] using hG) (by simp[cg,aJ];omega) λfK σ' jA _ _=>?_
   have e:fC (L++[(k:Int)])=j5 (fC L) (k:Nat):=by simp only[fC,B_,yF,Qa]
   simp only[am,aK,bF hi];refine nx aW ((L++[(k:Int)],fK,σ')) hi (⟨by rw[e];exact hJ,by simpa [cg] using jA,by simp[hL]⟩) ?_ ?_ ?_
   all_goals simp[hF,aj,am,bd,Fk]
 .rintro⟨L,tk,bR⟩ ⟨hJ,hG,hL⟩;rw[yE] at hJ;simp only at hJ hG hL;simp only[hF,aj,am,aK,cy,aK,aD];refine cF.cY (as' := [.sl .no 1 (cg L)]) ?_ ⟨dr.no,trivial⟩ br.rfl;refine(zN _ bR (by omega)).mono ?_;rintro v bR ⟨rfl,rfl⟩;simp only[am,Nat.reduceAdd];exact aN rfl hG.sub ⟨by rw[hJ];rfl,rfl⟩
def art(f:bn)(n:Nd)(Z:ab)(hl:f.al.length<=100000)(hk:n.ae.length<=100000)(hw:∀k∈n.ae,k.al.length<=100000) :
 aT 240 [.agg f.enc,.agg n.enc] Z (.agg (xz (vn f 0#64 n.ae))):=by
 refine agU.aP ?_;simp only[aO,BY,Nat.reduceAdd];refine ct (n.ae.length) (λi (x:bu)=>⟨[.any,.any,.ptr (.au 0) 0,.ptr (.au 1) 0,.ptr (.au 2) 0,.int .u64 (x.toNat:Nat),.int .i64 (i:Nat)]++aj 43 .any,[f.enc,n.enc,[.int .u64 ((0#64:bu).toNat:Nat),.bool aq,.int .i64 0]],Z⟩) (λi x=>(vn f 0#64 n.ae=vn f x (n.ae.drop i))) λF hF JF aW=>⟨?_,?_,?_⟩
 .exact en aW (0#64) (rfl)
 .rintro i x hi hJ;rw[kM hi] at hJ;simp only[hF,aj,am,ca hi,Nd.fl,aD];refine ix (fN (bN hi)) ?_;simp only[BY,Nat.reduceAdd];refine cl (yd f.al n.ae[i].ar Z hl) ?_;simp only[am,wK];cases hf:dt f.al n.ae[i].ar with
  | none =>
   simp only[vn,hf] at hJ;simp only[am,Nat.reduceAdd,aK,Nd.fl,uy];exact aN rfl (ab.bc _) ⟨by rw[hJ];rfl,rfl⟩
  | some k =>
   simp only[vn,hf] at hJ;simp only[am,bn.ak,Nd.fl,xg,bY];refine cl (WT f.al n.ae[i].al Z hl (hw _ (dq hi))) ?_;cases hp:(gG f.al 0#64 n.ae[i].al).2 with
   | some p =>
    simp only[hp] at hJ;simp only[am,Nat.reduceAdd,aK,xz,V7 hp,xh,xf];exact aN rfl (ab.bc _) ⟨by rw[hJ];rfl,rfl⟩
   | none =>
    simp only[hp] at hJ;simp only[am,Nat.reduceAdd,Rl.ak,bn.ak,xz,hp,vL];refine cl (aqd f.rel k _ Z) ?_;simp only[am,aK,BW,bF hi];refine db ((x|||s4 f.rel k (gG f.al 0#64 n.ae[i].al).1)) hi ?_ ?_ ?_ ?_ ?_ ?_
    .exact cI (aW _ _) (hJ)
    all_goals simp[hF,aj,am,bd,bK,cp,V.lo,bn.bP,Nd.bP]
 .rintro x hJ;rw[yE] at hJ;simp only[hF,aj,am,aK,cy,Nat.reduceAdd,aK,Nd.fl,aD];exact aN rfl (ab.bc _) ⟨by rw[hJ];rfl,rfl⟩
def arT(f:bn)(n:Nd)(Z:ab)(hl:f.al.length<=100000)(hk:n.al.length<=100000/\n.ae.length<=100000)(hw:∀k∈n.ae,k.al.length<=100000) :
 aT 197 [.agg f.enc,.agg n.enc] Z (.agg (xz (px f n))):=by
 refine af_.aP ?_;simp only[aO,BY,Nat.reduceAdd];have fin:∀(g:bu × Option Int) (t:List V) (l:List (List V)),px f n=g->jx (λv σ' => v=V.agg (xz (px f n))/\σ' = Z) ⟨t,l,Z⟩ (.agg [.int .u64 (g.1.toNat:Nat),.bool g.2.isSome,.int .i64 (g.2.getD 0)]):=λg t l h=>by
  rw[h];exact aN rfl (ab.bc _) ⟨rfl,rfl⟩
 by_cases h2:f.kind=2
 .have ek:sR f=3:=by rw[sR,aI h2]
  simp only[am,Nd.fl,aB h2]
  by_cases hq:n.kind=3
  .simp only[am,bn.ak,Nd.fl,aB hq];refine cl (WT f.al n.al Z hl hk.1) ?_;simp only[am,Nat.reduceAdd,xz];exact fin _ _ _ (by rw[px,ek,aI hq,aI h2])
  .simp only[am,Nat.reduceAdd,az hq];exact fin (0#64,U n.pos) _ _ (by rw[px,ek,aw hq])
 .simp only[am,bn.ak,az h2]
  by_cases h3:f.kind=3
  .have ek:sR f=5:=by rw[sR,aw h2,aI h3]
   simp only[am,Nd.fl,aB h3]
   by_cases hq:n.kind=5
   .simp only[am,bn.ak,Nd.ak,aB hq];refine cl (art f n Z hl hk.2 hw) ?_;simp only[am,Nat.reduceAdd,xz];exact fin _ _ _ (by rw[px,ek,aI hq,aw h2,aI h3])
   .simp only[am,Nat.reduceAdd,az hq];exact fin (0#64,U n.pos) _ _ (by rw[px,ek,aw hq])
  .have ek:sR f=2:=by rw[sR,aw h2,aw h3]
   simp only[am,bn.ak,Nd.fl,az h3];refine cl (yd f.al n.ar Z hl) ?_;simp only[am,Nd.fl]
   by_cases hq:n.kind=2
   .have ew:px f n=pf f n:=by rw[px,ek,aI hq,aw h2,aw h3]
    simp only[am,aB hq,wK];cases hf:dt f.al n.ar with
    | none =>
     simp only[am,Nat.reduceAdd,uy];exact fin (0#64,U n.pos) _ _ (by rw[ew];simp only[pf,hf])
    | some k =>
     simp only[am,bn.ak,xg,bY]
     by_cases h4:f.kind=4
     .simp only[am,Rl.ak,bn.ak,aB h4];refine cl (arR f.rel k Z) ?_;simp only[am,Nat.reduceAdd];exact fin (rk f.rel k,ah) _ _ (by rw[ew];simp only[pf,hf,aI h4])
     .simp only[am,bn.ak,iH,az h4];refine cl (aqb f.al.length k Z) ?_;simp only[am,Nat.reduceAdd,BV];exact fin ((s5 (f.al.length:Nat) (k:Nat)).1,ah) _ _ (by rw[ew];simp only[pf,hf,aw h4])
   .simp only[am,Nat.reduceAdd,az hq];exact fin (0#64,U n.pos) _ _ (by rw[px,ek,aw hq])
def au5:=af @am <| af @bJ.ak <| af @bp.ak @Nd.fl
def Ox(s:bJ)(n:Nd)(Z:ab)(cc:s.ok)(hn:∀k∈iQ s n,k.al.length<=100000/\k.ae.length<=100000/\∀m∈k.ae,m.al.length<=100000)(MB:n.wt<=aJ) :
 aT 143 [.agg s.enc,.agg n.enc] Z (.bz [.agg (gz s n).1.enc,.agg (mG (gz s n).2)]):=by
 refine afi.aP ?_;simp only[aO,YC,Nat.reduceAdd];refine cl (arx s Z cc) ?_;have done:∀(e:bp × Option Int) (t:List V) (l:List (List V)),e=gz s n->jx (λv σ' => v=V.bz [.agg (gz s n).1.enc,.agg (mG (gz s n).2)]/\σ' = Z) ⟨t,l,Z⟩ (.bz [.agg e.1.enc,.agg (mG e.2)]):=λe t l he=>by
  subst he;exact aN (by simp[V.cM,bS,bp.dL,mG]) (ab.bc _) ⟨by simp[V.erase,aZ,bp.dy,mG],rfl⟩
 cases hr:kJ s with
 | false =>
  simp only[am,Nat.reduceAdd,bp.ak,Nd.fl];exact done (.zero,U n.pos) _ _ (CC (by rw[hr];simp)).symm
 | true =>
  simp only[am,Nd.ak];refine cl (Rw _ n Z (b7 _) MB) ?_;cases hc:n.gp with
  | false =>
   simp only[am,Nat.reduceAdd,bp.ak,Nd.fl];exact done (.zero,U n.pos) _ _ (CC (by rw[hc];simp)).symm
  | true =>
   obtain⟨xJ,hl8,an⟩:=OZ hr;simp only[am,bJ.ak];have bZ:s.tuple=aa->(n.kind≠4\/n.ae.length≠s.bB.length)->(.zero,U n.pos)=gz s n:=λh1 h2=>(CC (by
    have:pd s n=false:=by
     rcases h2 with h2 | h2<;>simp[pd,h1,h2]
    rw[this];rfl)).symm
   cases ht:s.tuple
   case' true =>
    simp only[am,Nd.fl]
    by_cases h4:n.kind=4
    case' neg =>
     simp only[am,Nat.reduceAdd,bp.ak,Nd.fl,az h4];exact done (.zero,U n.pos) _ _ (bZ ht (.inl h4))
    by_cases kT:n.ae.length=s.bB.length
    case' neg =>
     simp only[au5,Nat.reduceAdd,aD,aB h4,az (show ¬(n.ae.length:Int)=s.bB.length by omega)];exact done (.zero,U n.pos) _ _ (bZ ht (.inr kT))
    have hp:pd s n=true:=by simp[pd,ht,h4,kT]
    simp only[am,aD,bJ.ak,Nd.fl,aD,aB h4,aB (show(n.ae.length:Int)=s.bB.length by omega)]
   case' false =>
    have hp:pd s n=true:=by simp[pd,ht]
    simp only[am]
   all_goals
    have rE:=RP hp hr hc;have me:=V1 hp hr;refine ct (s.bB.length) (λi (x:Unit)=>⟨[.any,.any,.ptr (.au 0) 0,.any,.ptr (.au 2) 0,.ptr (.au 3) 0,.ptr (.au 4) 0,.sl .no 5 ((iQ s n).map Nd.enc),.int .i64 (i:Nat)]++aj 63 .any,[s.enc,n.enc,bp.zero.enc,[.int .i64 0,.int .i64 0],(bp.of λj=>if j<i then(kf s (iQ s n) j).1 else 0#64).enc],Z⟩) (λi x=>(∀k,k<i->(kf s (iQ s n) k).2=ah)) λF hF JF aW=>⟨?_,?_,?_⟩
    .refine en aW (()) (by intro k h;omega) ?_ ?_ ?_
     all_goals simp[hF,aj,am,bd,bp.YG,iQ,ht]
    .rintro i x hi hJ;have A3:i<(iQ s n).length:=by omega
     have h8:i<8:=by omega
     have hw:kf s (iQ s n) i=px s.bB[i] (iQ s n)[i]:=by rw[kf,jS hi,jS A3]
     have xN:=hn _ (dq A3);simp only[hF,aj,am,ca hi,Nat.reduceAdd,bL,Nat.reduceLT,bJ.ak,aD,me];refine ix (Ew hi) ?_;simp only[am,bn.ak];refine ix (fN (bN A3)) ?_;simp only[am,bn.ak,Nd.ak];refine bA.intro (arT s.bB[i] (iQ s n)[i] Z (cc.2 _ (dq hi)) ⟨xN.1,xN.2.1⟩ xN.2.2) ?_;rw[<-hw];simp only[am,Nat.reduceAdd,xz];cases hb:(kf s (iQ s n) i).2 with
     | some p =>
      simp only[am,Nat.reduceAdd,aK,bp.ak,xh,xf];exact done (.zero,U p) _ _ (by rw[rE];exact(adp hi hJ hb).symm)
     | none =>
      simp only[am,cG,vL];refine i_ ?_;simp only[yy,bp.wY h8,bp.w7 h8,adr,bF hi];refine db (()) hi ?_ ?_ ?_ ?_ ?_ ?_
      .exact cI (aW _ _) (ji hJ hb)
      all_goals simp[hF,aj,am,bd,bK,cp,V.lo,bJ.bP,Nd.bP,bp.bP]
    .rintro x hJ;simp only[hF,aj,am,aK,cy,Nat.reduceAdd,aK,bp.ak,aD,me];exact done (_,ah) _ _ (by rw[rE];exact(adq hJ).symm)
def ahH:aR prog 33 (sq [rg 4 [oz 2],sq [rg 6 [om 0,nL,om 1,nL,nb .neq 7],cr 10 4 [oz 2]],sq [rg 5 [oi 0],bl 0 (sq [sq [rg 11 [om 5,om 0,nL,nb .lss 11],cx 14 0],.block 1 (sq [dg 17 [om 0,om 5,nA 10 17,nl 10,om 1,om 5,nA 10 21,nl 10,oq (.kn aa [1,1,1,1,1,1,1,1,1,1] (.s 20) (.s 24))],cr 25 4 [oz 2]]),rg 15 [ic 5]])],rg 4 [oq (.mv (.c (.bool aa)))],.ret]) [.tmp 4] 26:=aS func33
def ah8:aR prog 63 (sq [rg 4 [ox 2 2 0,oi 0,oi 0],rg 6 [oi (-1),oi (-1)],sq [rg 10 [fo 0 2,nL,oi 0],lp 12 0 (sq [rg 15 [om 13,o1 8],rg 16 [om 6,nB .lss 0,gA,fo 0 2,om 8,nA 3 20,nF 0,om 1,nE .eql 24,gZ],ci 27 (rg 28 [om 8,o1 6])]) 29],sq [rg 30 [fo 1 2,nL,oi 0],lp 32 2 (sq [rg 35 [om 33,o1 9],rg 36 [om 7,nB .lss 0,gA,fo 1 2,om 9,nA 3 40,nF 0,om 1,nE .eql 44,gZ],ci 47 (rg 48 [om 9,o1 7])]) 49],rg 50 [om 6,om 7,ot 4 50,o1 5],.ret]) [.tmp 4,.tmp 5] 52:=aS func63
def ain:aR prog 79 (sq [rg 4 [ox 2 2 0,oi 0],sq [rg 5 [oi 0],bl 0 (sq [sq [rg 6 [nm,fo 1 2,nL,nb .lss 6],cx 10 0],.block 1 (sq [rg 13 [fo 1 2,om 5,nA 3 14,nF 0,om 1,nE .eql 18],cr 20 21 [om 5,o1 4]]),rg 11 [ic 5]])],rg 4 [oi (-1)],.ret]) [.tmp 4] 22:=aS func79
def ae0:aR prog 124 (sq [rg 7 [ox 3 2 0,ox 5 5 2,oR 6 u0,oz 2],sq [rg 10 [fo 0 5,nB .eql 1],cr 12 13 [ol 2 3,om 1,fo 2 5,oC 174 [13,14,16],oe 17 0,oe 17 1,os 10 6 18,o1 7]],dA 21 [8,9] [fo 0 3,om 1,nA 3 22,nf 1,nl 2,fo 4 5,nI 5 0,nl 5,oC 125 [26,30],o1 20,oe 20 0,oe 20 1,oN,oN,oX 8 8 32,oX 9 2 33],dg 34 [ol 8 8,oY u0 [(0,1,.c (.int .i64 2)),(2,8,.s 34)],of 0 9,mM [1],no,nB .eql 0,os 10 6 35,o1 7],.ret]) [.cell 6 aa 10,.tmp 7] 39:=aS func124
def afP:aR prog 174 (sq [rg 7 [ox 3 2 0,oR 6 u0,oz 2],rg 11 [ol 2 3,om 2,oC 63 [11,12],o1 10,oe 10 0,oe 10 1,ot 8 14,o1 9],sq [rg 16 [om 9,nB .lss 0,gB,fo 1 3,om 9,nA 3 20,nF 1,nB .neq 1,gZ,gB,fo 1 3,om 9,nA 3 29,nF 2,om 1,nb .neq 33,gZ],cr 36 37 [oY u0 [],o2 10 6,oU 7 2]],rg 38 [om 9,oY u0 [(0,1,.c (.int .i64 1)),(1,1,.s 38)],o2 10 6,oV 7 (.bool aa)],.ret]) [.cell 6 aa 10,.tmp 7] 40:=aS func174
def u7{l:List fy}(h:j<l.length):(l.map fy.enc)[((j:Nat):Int).toNat]?=U l[j].enc:=by simp[h]
def um{l:List eX}(h:j<l.length):(l.map eX.enc)[((j:Nat):Int).toNat]?=U l[j].enc:=by simp[h]
def yg(s:aG)(t:List UInt8)(Z:ab)(h1:s.bt.length<=100000)(h2:s.vars.length<=100000) :
 aT 63 [.agg s.enc,.aH t] Z (.bz [.int .i64 (bY (fu s.bt t)),.int .i64 (bY (iw s.vars t))]):=by
 refine ah8.aP ?_;simp only[aO,am,aX,Nat.reduceAdd,aG.ak,aD];rw[fu,iw];generalize hpL:Dr s.bt t=pL;generalize hpV:Ds s.vars t=pV;have eL:∀i (hi:i<s.bt.length),pL i=decide (s.bt[i].name=t):=λi hi=>by rw[<-hpL];simp only[Dr,bN hi]
 have eV:∀i (hi:i<s.vars.length),pV i=decide (s.vars[i].name=t):=λi hi=>by rw[<-hpV];simp only[Ds,bN hi]
 refine ct (s.bt.length) (λi (x:Unit)=>⟨[.any,.aH t,.ptr (.au 0) 0,.any,.any,.any,.int .i64 (bY ((bG i).find? pL)),.int .i64 (-1),.any,.any,.any,.sl .no 3 (s.bt.map fy.enc),.int .i64 (s.bt.length:Nat),.int .i64 (i:Nat)]++aj 38 .any,[s.enc],Z⟩) (λi x=>(True)) λF hF JF aW=>⟨?_,?_,?_⟩
 .refine en aW (()) (trivial) ?_ ?_ ?_
  all_goals simp[hF,aj,am,bd,bY]
 .rintro i x hi -;simp only[hF,aj,am,ca hi,wK];cases hf:(bG i).find? pL with
  | some k =>
   simp only[am,aK,xg,bF hi];refine nx aW (()) hi (trivial) ?_ ?_ ?_
   all_goals simp[hF,aj,am,bd,ga,B9,hf]
  | none =>
   simp only[am,aG.ak,uy];refine ix (u7 hi) ?_;simp only[am,aG.ak];rw[<-eL i hi];cases hb:pL i with
   | false =>
    simp only[am,aK,bF hi];refine nx aW (()) hi (trivial) ?_ ?_ ?_
    all_goals simp[hF,aj,am,bd,ga,B9,hf,hb]
   | true =>
    simp only[am,aK,bF hi];refine nx aW (()) hi (trivial) ?_ ?_ ?_
    all_goals simp[hF,aj,am,bd,ga,B9,hf,hb,bY]
 .rintro x -;simp only[hF,aj,am,aK,cy,aK,aG.ak,aD];clear hF aW F JF;refine ct (s.vars.length) (λi (x:Unit)=>⟨[.any,.aH t,.ptr (.au 0) 0,.any,.any,.any,.int .i64 (bY ((bG s.bt.length).find? pL)),.int .i64 (bY ((bG i).find? pV)),.any,.any,.any,.any,.any,.any,.any,.any,.any,.any,.any,.any,.any,.any,.any,.any,.any,.any,.any,.any,.any,.any,.any,.sl .no 3 (s.vars.map eX.enc),.int .i64 (s.vars.length:Nat),.int .i64 (i:Nat)]++aj 18 .any,[s.enc],Z⟩) (λi x=>(True)) λF hF JF aW=>⟨?_,?_,?_⟩
  .refine en aW (()) (trivial) ?_ ?_ ?_
   all_goals simp[hF,aj,am,bd,bY]
  .rintro i x hi -;simp only[hF,aj,am,ca hi,wK];cases hf:(bG i).find? pV with
   | some k =>
    simp only[am,aK,xg,bF hi];refine nx aW (()) hi (trivial) ?_ ?_ ?_
    all_goals simp[hF,aj,am,bd,ga,B9,hf]
   | none =>
    simp only[am,aG.ak,uy];refine ix (um hi) ?_;simp only[am,aG.ak];rw[<-eV i hi];cases hb:pV i with
    | false =>
     simp only[am,aK,bF hi];refine nx aW (()) hi (trivial) ?_ ?_ ?_
     all_goals simp[hF,aj,am,bd,ga,B9,hf,hb]
    | true =>
     simp only[am,aK,bF hi];refine nx aW (()) hi (trivial) ?_ ?_ ?_
     all_goals simp[hF,aj,am,bd,ga,B9,hf,hb,bY]
  .rintro x -;simp only[hF,aj,am,aK,cy,aK];exact rt
def Sk{l:List eX}{t:List UInt8}(h:iw l t=U k):k<l.length:=(y3 h).1
def Fl(o:Option bH):V:=.bz [.agg (match o with | some i=>i | none=>bH.zero).enc,.bool o.isSome]
def au6:=af @am <| af @aX <| af @aG.ak @bH.ak
def atp(s:aG)(lat:Nat)(t:List UInt8)(Z:ab)(h1:s.bt.length<=100000)(h2:s.vars.length<=100000) :
 aT 174 [.agg s.enc,.int .i64 (lat:Nat),.aH t] Z (Fl (ra s lat t)):=by
 refine afP.aP ?_;simp only[aO,au6,Nat.reduceAdd];have no:∀(u:List V) (l:List (List V)),ra s lat t=ah->jx (λv σ' => v=Fl (ra s lat t)/\σ' = Z) ⟨u,l,Z⟩ (.bz [.agg bH.zero.enc,.bool aq]):=λu l h=>by
  rw[h];exact aN (by simp[V.cM,bS,bH.dL]) (ab.bc _) ⟨by simp[Fl,V.erase,aZ,bH.dy],rfl⟩
 refine cl (yg s t Z h1 h2) ?_;simp only[am,wK];cases hf:iw s.vars t with
 | none =>
  simp only[am,bH.ak,uy];exact no _ _ (by simp only[ra,hf])
 | some k =>
  have hk:=Sk hf;have hv:s.vars[k]?=U s.vars[k]:=bN hk;simp only[am,aG.ak,xg,bY];refine ix (um hk) ?_;simp only[am,aG.ak]
  by_cases e1:s.vars[k].kind=1
  .simp only[am,aG.ak,aB e1];refine ix (um hk) ?_;simp only[am,aG.ak]
   by_cases e2:s.vars[k].lat=(lat:Nat)
   .have e:ra s lat t=U ⟨1,k,.zero⟩:=by simp only[ra,hf,hv];rw[aI ⟨e1,e2⟩]
    simp only[am,bH.ak,aB e2];exact aN (by simp[V.cM,bS,bH.dL]) (ab.bc _) ⟨by simp[e,Fl,V.erase,aZ,bH.dy,bH.zero],rfl⟩
   .simp only[am,bH.ak,az e2];exact no _ _ (by simp only[ra,hf,hv];rw[aw (λh=>e2 h.2)])
  .simp only[am,bH.ak,az e1];exact no _ _ (by simp only[ra,hf,hv];rw[aw (λh=>e1 h.1)])
variable{lat:Nat}
def DL{s:aG}(h:lat<s.bt.length):wS s lat=s.bt[lat].shape:=by simp only[wS,bN h]
def UO{s:aG}(h1:n.kind≠1){e:bp}(he:gz (wS s lat) (n.ae.getD 0 gS)=(e,ah)):p7 s lat n=U ⟨2,0,e⟩:=by rw[p7,aw h1,he]
def UN{s:aG}(h1:n.kind≠1){e:bp}{p:Int}(he:gz (wS s lat) (n.ae.getD 0 gS)=(e,U p)):p7 s lat n=none:=by rw[p7,aw h1,he]
def DC(hc:n.cJ<=100000):∀k∈iQ s n,k.al.length<=100000/\k.ae.length<=100000/\∀m∈k.ae,m.al.length<=100000:=by
 intro k hk;have wq:k.cJ<=n.cJ:=by
  unfold iQ at hk;split at hk
  .exact Ec (lx hk)
  .rw[nU.1 hk];exact b7 _
 have h1:=Cv k;have h2:=vX k;refine⟨by omega,by omega,λm hm=>?_⟩
 have:=lx hm
 have:=Cv m
 omega
def apd(hc:n.cJ<=100000):∀k∈iQ s n,Nd.ok k:=λk hk=>by
 obtain⟨h1,h2,h3⟩:=DC hc k hk;exact⟨by omega,by omega,λm hm=>by have:=h3 m hm;omega⟩
def yw:=af @am <| af @aX <| af @Nd.ak <| af @Nd.fl <| af @aG.ak @bH.ak
def alP(s:aG)(lat:Nat)(n:Nd)(hg:TZ Z)(hs:s.ok)(iY:lat<s.bt.length)(hc:n.cJ<=100000)(hw:n.wt<=aJ)(hl:n.ff=aa)(hk:n.kind=1\/n.kind=7):
 cF prog 124 [.agg s.enc,.int .i64 (lat:Nat),.agg n.enc] Z λv σ' => (∃i:bH,v = .bz [.agg i.enc,.bool (p7 s lat n).isSome]/\∀j,p7 s lat n=U j->i=j)/\σ' = Z:=by
 refine ae0.aP ?_;simp only[aO,yw,Nat.reduceAdd]
 by_cases h1:n.kind=1
 .simp only[am,Nd.fl,aG.ak,aB h1];refine cl (atp s lat n.ar Z hs.1 hs.2.1) ?_;simp only[am,bH.ak,Fl];refine aN (by simp[V.cM,bS,bH.dL]) (ab.bc _) ⟨⟨_,by rw[p7,aI h1];simp[V.erase,aZ,bH.dy];rfl,λj hj=>?_⟩,rfl⟩;rw[p7,aI h1] at hj;rw[hj]
 .have h7:n.kind=7:=by simpa [h1] using hk
  have kT:=Fx hl h7;have hm:n.ae[0]∈n.ae:=dq _;have qI:=lx hm;have qJ:=gw hm;simp only[am,Nat.reduceAdd,bL,Nat.reduceLT,aG.ak,az h1];refine ix (u7 iY) ?_;simp only[am,Nd.fl,aG.ak];refine mh (n:=0) (by omega) (fN (j:=0) (bN (by omega))) ?_;simp only[am,bJ.ak,Nd.ak];refine bA.intro (KF s.bt[lat].shape n.ae[0] hg (hs.2.2 _ (dq iY)) (apd (by omega)) (by omega)) ?_;obtain⟨e,he⟩:∃e,gz s.bt[lat].shape n.ae[0]=e:=⟨_,rfl⟩;rw[he];have AY : gz (wS s lat) (n.ae.getD 0 gS)=e:=by rw[DL iY,jS (by omega)];exact he
  simp only[am,Nat.reduceAdd,bp.ak,bH.ak,mG];obtain⟨e,o⟩:=e;cases o with
  | none =>
   have tM:=UO h1 AY;simp only[am,bL,vL];exact aN (by simp[V.cM,bS,bH.dL]) (ab.bc _) ⟨⟨⟨2,0,e⟩,by rw[tM];simp[V.erase,aZ,bH.dy];rfl,λj hj=>by rw[tM] at hj;cases hj;rfl⟩,rfl⟩
  | some p =>
   have tM:=UN h1 AY;simp only[am,c9,Int.reduceEq,xh];exact aN (by simp[V.cM,bS,bH.dL]) (ab.bc _) ⟨⟨⟨2,0,e⟩,by rw[tM];simp[V.erase,aZ,bH.dy];rfl,λj hj=>by rw[tM] at hj;simp at hj⟩,rfl⟩
def yp(s:aG)(t:List UInt8)(Z:ab)(h2:s.vars.length<=100000):aT 79 [.agg s.enc,.aH t] Z (.int .i64 (bY (iw s.vars t))):=by
 refine ain.aP ?_;simp only[aO,am,aX,Nat.reduceAdd,aG.ak];have eV:∀i (hi:i<s.vars.length),Ds s.vars t i=decide (s.vars[i].name=t):=λi hi=>by simp only[Ds,bN hi]
 refine ct (s.vars.length) (λi (x:Unit)=>⟨[.any,.aH t,.ptr (.au 0) 0,.any,.any,.int .i64 (i:Nat)]++aj 16 .any,[s.enc],Z⟩) (λi x=>(∀k,k<i->Ds s.vars t k=aq)) λF hF JF aW=>⟨?_,?_,?_⟩
 .exact en aW (()) (by intro k h;omega)
 .rintro i x hi hJ;simp only[hF,aj,am,ca hi,aG.ak,aD];refine ix (um hi) ?_;simp only[am,aG.ak]
  by_cases h:s.vars[i].name=t
  .have e:iw s.vars t=U i:=AL hi hJ (by rw[eV i hi];exact aB h);simp only[am,aK,aB h];refine aC ?_;simp[V.erase,e,bY]
  .simp only[am,aK,az h,bF hi];exact nx aW (()) hi (ji hJ (by rw[eV i hi];exact az h))
 .rintro x hJ;have e:iw s.vars t=none:=AM hJ;simp only[hF,aj,am,aK,cy,aK,aG.ak,aD];refine aC ?_;simp[V.erase,e,bY]
def Rr{l:List bH}(h:j<l.length):(l.map bH.enc)[((j:Nat):Int).toNat]?=U l[j].enc:=by simp[h]
def arY(a b:List bH)(Z:ab)(ha:a.length<=100000)(hb:b.length<=100000):aT 33 [.sl .no 10 (a.map bH.enc),.sl .no 10 (b.map bH.enc)] Z (.bool (decide (a=b))):=by
 refine ahH.aP ?_;simp only[aO,am,aX,Nat.reduceAdd,aD]
 by_cases bh:a.length=b.length
 .simp only[am,aB (show(a.length:Int)=b.length by omega)];refine ct (a.length) (λi (x:Unit)=>⟨[.sl .no 10 (a.map bH.enc),.sl .no 10 (b.map bH.enc),.any,.any,.any,.int .i64 (i:Nat)]++aj 20 .any,[],Z⟩) (λi x=>(∀k,k<i->a[k]?=b[k]?)) λF hF JF aW=>⟨?_,?_,?_⟩
  .exact en aW (()) (by intro k h;omega)
  .rintro i x hi hJ;have TD:i<b.length:=by omega
   simp only[hF,aj,am,ca hi,aD];refine ix (Rr hi) ?_;simp only[am,bH.ak];refine ix (Rr TD) ?_;simp only[am,bH.ak]
   by_cases h:a[i]=b[i]
   .simp only[am,aK,aB h,bF hi];exact nx aW (()) hi (ji hJ (by rw[bN hi,bN TD,h]))
   .have e:a≠b:=λe=>h (by subst e;rfl)
    simp only[am,aK,az h];refine aC ?_;simp[V.erase,e]
  .rintro x hJ;have e:a=b:=by
    refine P8 bh λk h1 h2=>?_
    have:=hJ k h1
    rwa [bN h1,bN h2,bg] at this
   simp only[hF,aj,am,aK,cy,aK,aD];refine aC ?_;simp[V.erase,e]
 .have e:a≠b:=λe=>bh (by rw[e])
  simp only[am,az (show ¬(a.length:Int)=b.length by omega)];refine aC ?_;simp[V.erase,e]
def ait:aR prog 85 (sq [rg 6 [ox 3 2 0,ox 5 5 2,oz 15,oz 2],sq [rg 16 [om 1,nB .lss 0,gB,om 1,fo 0 3,nL,nb .geq 19,gZ,gB,ol 5 5,oC 147 [26],nn,gZ],cr 29 6 [oz 15,oz 2]],sq [rg 30 [fo 0 5,nB .eql 1],ci 32 (sq [rg 33 [ol 2 3,fo 2 5,oC 79 [33,35],o1 8],sq [rg 37 [om 8,nB .lss 0,gB,fo 1 3,om 8,nA 3 41,nF 1,nB .neq 1,gZ,gB,fo 1 3,om 8,nA 3 50,nF 2,om 1,nb .neq 54,gZ],cr 57 6 [oz 15,oz 2]],rg 58 [om 8,oY u0 [(0,1,.c (.int .i64 1)),(1,1,.s 58)],n1 10,o1 6,oV 7 (.bool aa)],.ret])],sq [rg 61 [fo 0 5,nB .eql 7],ci 63 (sq [dA 65 [9,10] [fo 0 3,om 1,nA 3 66,nf 1,nl 2,fo 4 5,nI 5 0,nl 5,oC 143 [70,74],o1 64,oe 64 0,oe 64 1,oN,oN,oX 9 8 76,oX 10 2 77],sq [rg 78 [fo 0 10,nB .neq 0],cr 80 6 [oz 15,oz 2]],rg 81 [ol 8 9,oY u0 [(0,1,.c (.int .i64 2)),(2,8,.s 81)],n1 10,o1 6,oV 7 (.bool aa)],.ret])],rg 11 [oz 15],sq [rg 12 [oi 0],bl 0 (sq [sq [rg 84 [om 12,fo 4 5,nL,nb .lss 84],cx 88 0],.block 1 (sq [dg 92 [ol 2 3,om 1,fo 4 5,om 12,nA 5 95,nl 5,oC 85 [92,93,98],o1 91,oe 91 0,oe 91 1,ot 13 100,o1 14],sq [rg 102 [om 14,nn],cr 103 6 [oz 15,oz 2]],rg 104 [om 11,om 13,na 10 104,o1 11]]),rg 89 [ic 12]])],rg 15 [oi 3],sq [rg 107 [fo 0 5,nB .eql 9],ci 109 (rg 15 [oi 4])],rg 110 [om 11,om 15,fo 4 5,nL,oY u0 [(0,1,.s 111),(1,1,.s 114)],n1 10,na 10 110,o1 6,oV 7 (.bool aa)],.ret]) [.tmp 6,.tmp 7] 118:=aS func85
def uF(o:Option (List bH)):V:=.bz [.sl .no 10 ((o.getD []).map bH.enc),.bool o.isSome]
def Kt{s:aG}(h1:lat<s.bt.length)(h2:n.ff=aa):lW s (lat:Nat) n=ly s lat n:=by
 rw[lW,aI ⟨by omega,by omega,h2⟩];rfl
def au7:=af @am <| af @bL <| af @bp.ak @bH.ak
def aqE(s:aG)(lat:Int)(hs:s.ok):∀(k:Nat) (n:Nd) (Z:ab),n.wt<=k->n.wt<=aJ->n.cJ<=100000 ->
 aT 85 [.agg s.enc,.int .i64 lat,.agg n.enc] Z (uF (lW s lat n)):=by
 intro k;induction k with
 | zero=>intro n Z h;have:=Nd.so n;have:=Cw n;omega
 | succ k ih =>
  intro n Z hk hw hc;refine ait.aP ?_;simp only[aO,yw,Nat.reduceAdd];have no:∀(u:List V) (l:List (List V)) (bR:ab),lW s lat n=ah->Z.sub bR->jx (λv σ' => v=uF (lW s lat n)/\σ' = Z) ⟨u,l,bR⟩ (.bz [.sl .a9 10 [],.bool aq]):=λu l bR h h' => by
   rw[h];exact aN rfl h' ⟨rfl,rfl⟩
  by_cases hn:lat<0
  .simp only[am,aB hn];exact no _ _ _ (by rw[lW,aw (by omega)]) (ab.bc _)
  .obtain⟨lat,rfl⟩:∃m:Nat,lat=m:=⟨lat.toNat,by omega⟩;simp only[am,aD,aG.ak,aD,az hn]
   by_cases iY:s.bt.length<=lat
   .simp only[am,aB (show(s.bt.length:Int)<=(lat:Nat) by omega)];exact no _ _ _ (by rw[lW,aw (by omega)]) (ab.bc _)
   .have an:lat<s.bt.length:=by omega
    simp only[am,Nd.ak,az (show ¬(s.bt.length:Int)<=(lat:Nat) by omega)];refine cl (Fw _ n Z (b7 _) hw) ?_;cases hl:n.ff with
    | false =>
     simp only[am];exact no _ _ _ (by rw[lW,hl,aw (by simp)]) (ab.bc _)
    | true =>
     have hR:=Kt an hl;simp only[am,Nd.fl]
     by_cases h1:n.kind=1
     .have hC:ly s lat n=(ra s lat n.ar).map λi=>[i]:=by rw[G7,aI (.inl h1),p7,aI h1]
      simp only[am,Nd.fl,aG.ak,aB h1];refine cl (yp s n.ar Z hs.2.1) ?_;simp only[am,wK];cases hf:iw s.vars n.ar with
      | none =>
       simp only[am,uy];exact no _ _ _ (by rw[hR,hC];simp only[ra,hf];rfl) (ab.bc _)
      | some j =>
       have hj:=Sk hf;have hv:s.vars[j]?=U s.vars[j]:=bN hj;simp only[am,aG.ak,xg,bY];refine ix (um hj) ?_;simp only[am,aG.ak]
       by_cases e1:s.vars[j].kind=1
       .simp only[am,aG.ak,aB e1];refine ix (um hj) ?_;simp only[am,aG.ak]
        by_cases e2:s.vars[j].lat=(lat:Nat)
        .have e:ra s lat n.ar=U ⟨1,j,.zero⟩:=by simp only[ra,hf,hv];rw[aI ⟨e1,e2⟩]
         simp only[am,bH.ak,aB e2];exact aN rfl (ab.bc _) ⟨by rw[hR,hC,e];rfl,rfl⟩
        .simp only[am,az e2];exact no _ _ _ (by rw[hR,hC];simp only[ra,hf,hv];rw[aw (λh=>e2 h.2)];rfl) (ab.bc _)
       .simp only[am,az e1];exact no _ _ _ (by rw[hR,hC];simp only[ra,hf,hv];rw[aw (λh=>e1 h.1)];rfl) (ab.bc _)
     .simp only[am,Nd.fl,az h1]
      by_cases h7:n.kind=7
      .have hC:ly s lat n=(p7 s lat n).map λi=>[i]:=by rw[G7,aI (.inr h7)]
       have kT:=Fx hl h7;have hm:n.ae[0]∈n.ae:=dq _;have qI:=lx hm;have qJ:=gw hm;simp only[am,Nat.reduceAdd,bL,Nat.reduceLT,aG.ak,aB h7];refine ix (u7 an) ?_;simp only[am,Nd.fl,aG.ak];refine mh (n:=0) (by omega) (fN (j:=0) (bN (by omega))) ?_;simp only[am,bJ.ak,Nd.ak];refine bA.intro (Ox s.bt[lat].shape n.ae[0] Z (hs.2.2 _ (dq an)) (DC (by omega)) (by omega)) ?_;obtain⟨e,he⟩:∃e,gz s.bt[lat].shape n.ae[0]=e:=⟨_,rfl⟩;rw[he];have AY : gz (wS s lat) (n.ae.getD 0 gS)=e:=by rw[DL an,jS (by omega)];exact he
       simp only[am,Nat.reduceAdd,bp.ak,mG];obtain⟨e,o⟩:=e;cases o with
       | none =>
        have tM:=UO h1 AY;simp only[au7,vL];exact aN (by simp[V.cM,bS]) (ab.bc _) ⟨by rw[hR,hC,tM];simp[uF,V.erase,aZ];rfl,rfl⟩
       | some p =>
        have tM:=UN h1 AY;simp only[am,c9,Int.reduceEq,xh];exact no _ _ _ (by rw[hR,hC,tM];rfl) (ab.bc _)
      .have eG:¬(n.kind=1\/n.kind=7):=λh=>h.elim h1 h7
       have hC:ly s lat n=(lV s lat n.ae).map λl=>l++[rP n]:=by rw[G7,aw eG]
       have pR:=Uv hl eG;have wq:=vX n;simp only[am,az h7];refine ct (n.ae.length) (λi (x:List bH × Tk × ab)=>⟨[.any,.int .i64 (lat:Nat),.any,.ptr (.au 0) 0,.any,.ptr (.au 1) 0,.any,.any,.any,.any,.any,.sl x.2.1 10 (x.1.map bH.enc),.int .i64 (i:Nat)]++aj 105 .any,[s.enc,n.enc],x.2.2⟩) (λi x=>(lV s lat (n.ae.take i)=U x.1/\Gr Z x.2.2 x.2.1 x.1.length)) λF hF JF aW=>⟨?_,?_,?_⟩
       .exact en aW (([],.a9,Z)) (⟨rfl,Gr.nil⟩)
       .rintro i ⟨out,tk,bR⟩ hi ⟨hJ,hG⟩;simp only at hJ hG;have hm:n.ae[i]∈n.ae:=dq hi;have qI:=lx hm;have qJ:=gw hm;have Mc:=G8 _ hJ;have hoc:=Kr n.ae i;have hcp:=Nd.so n;simp only[hF,aj,am,ca hi,Nd.fl,aG.ak,aD];refine ix (fN (bN hi)) ?_;simp only[am,Nd.ak,aG.ak];refine bA.intro (ih n.ae[i] bR (by omega) (by omega) (by omega)) ?_;rw[Kt an (pR _ hm)];cases LI:ly s lat n.ae[i] with
        | none =>
         simp only[am,aK,uF,vL];exact no _ _ _ (by rw[hR,hC,Rt hm LI];rfl) hG.sub
        | some l =>
         have TK:=Ks _ LI;have pW:=Ru hJ LI;rw[<-jg hi] at pW;simp only[am,uF,xh,xf];refine Gr.app (by simpa using hG) (by simp[aJ];omega) λfK σ' jA _ _=>?_
         simp only[am,aK,bF hi];refine nx aW ((out++l,fK,σ')) hi (⟨pW,by simpa using jA⟩) ?_ ?_ ?_
         all_goals simp[hF,aj,am,bd,jf]
       .rintro⟨out,tk,bR⟩ ⟨hJ,hG⟩;simp only at hJ hG;rw[df] at hJ;have Mc:=G8 _ hJ;have hcp:=Nd.so n;simp only[hF,aj,am,aK,cy,aK,Nd.fl,aD]
        by_cases h9:n.kind=9
        .have eo:rP n=⟨4,n.ae.length,.zero⟩:=by rw[rP,aI h9]
         simp only[am,aD,Nd.fl,bH.ak,aD,aB h9];refine Gr.app (by simpa using hG) (by simp[aJ];omega) λfK σ' jA _ _=>?_
         simp only[am];exact aN (by simp[V.cM,bS]) jA.sub ⟨by rw[hR,hC,hJ,eo];simp[uF,V.erase,aZ];rfl,rfl⟩
        .have eo:rP n=⟨3,n.ae.length,.zero⟩:=by rw[rP,aw h9]
         simp only[am,aD,Nd.fl,bH.ak,aD,az h9];refine Gr.app (by simpa using hG) (by simp[aJ];omega) λfK σ' jA _ _=>?_
         simp only[am];exact aN (by simp[V.cM,bS]) jA.sub ⟨by rw[hR,hC,hJ,eo];simp[uF,V.erase,aZ];rfl,rfl⟩
def ah9:aR prog 64 (sq [rg 6 [ox 3 2 0,ox 5 5 2,oz 15,oz 2],.scope (sq [sq [rg 15 [om 1,nB .lss 0,gB,om 1,fo 0 3,nL,nb .geq 18,gZ,gB,ol 5 5,oC 123 [25],nn,gZ],cr 28 6 [oz 15,oz 2]],rg 8 [oz 15],rg 29 [ol 5 5,oW [0,0,1,7,10,0] [(0,5,29)],nO (.new 6),o1 9],.skip,bl 0 (sq [sq [rg 32 [om 9,nO .len,nB .gtr 0],cx 34 0],.block 1 (sq [rg 35 [om 9,nO .len,nB .sub 1,o1 10],rg 38 [om 9,om 10,oO (.idx 6) [38,39],nl 6,oZ 11 [0,0,1,7,10,0],o2 6 11],rg 12 [oi 3],sq [rg 42 [of 0 11,nF 0],.block 2 (sq [sq [rg 46 [oB .eql 44 1,o1 45],cd 45 .skip (rg 47 [oB .eql 44 7,o1 45])],cd 45 (sq [rg 49 [ol 2 3,om 1,of 0 11,nl 5,oC 124 [49,50,52],o1 48,oe 48 0,oe 48 1,oR 13 u0,os 10 13 54,o1 14],sq [rg 56 [om 14,nn],cr 57 6 [oz 15,oz 2]],rg 58 [om 8,ol 10 13,n1 10,na 10 58,o1 8],rg 62 [om 9,om 10,oO (.mu 6 aq aa aq) [62,63],o1 9],(.exit 1)]) (sq [rg 66 [oB .eql 44 9,o1 65],ci 65 (rg 12 [oi 4])])])],sq [rg 67 [fo 5 11,of 0 11,nF 4,nL,nb .lss 68],ci 73 (sq [rg 74 [om 9,om 10,oO (.idx 6) [74,75],nF 5,nB .add 1,oO (.idx 6) [74,75],nf 5,os 1 81 79],rg 82 [om 9,of 0 11,nF 4,fo 5 11,nA 5 85,nl 5,oW [0,0,1,7,10,0] [(0,5,89)],n1 6,oO (.app 6) [82,91],o1 9],(.exit 1)])],rg 93 [om 8,om 12,of 0 11,nF 4,nL,oY u0 [(0,1,.s 94),(1,1,.s 98)],n1 10,na 10 93,o1 8],rg 102 [om 9,om 10,oO (.mu 6 aq aa aq) [102,103],o1 9]])]),rg 6 [ot 105 8,om 105,oq (.mv (.c (.bool aa)))],.ret])]) [.tmp 6,.tmp 7] 106:=aS func64 ⟨[33,36,40,64,76,80,92,104,100031],[]⟩
def gE(f:Nd × Nat):List V:=f.1.enc++[.int .i64 (f.2:Nat)]
section
variable {m:Nd} {d k:Nat} {x0 x1 x2 x3 x4 x5:V}
def sy:gE (m,d)=[.int .i64 m.kind,.int .i64 m.pos,.aH m.ar,.sl .no 2 (m.al.map aF.enc),.sl .no 5 (m.ae.map Nd.enc),.int .i64 (d:Nat)]:=by rw[gE,Nd.cS];rfl
def CL:(gE (m,d)).length=6:=by rw[sy];rfl
def SI:c8 (gE (m,d))=true:=by rw[sy];rfl
def Hj:bS (gE (m,d))=true:=by rw[sy];rfl
def aiO:aZ (gE (m,d))=gE (m,d):=by rw[sy];rfl
def aiS:bK k (gE (m,d))=true:=by rw[sy];rfl
def aiU:over [x0,x1,x2,x3,x4,x5] (gE (m,d))=gE (m,d):=by rw[sy];rfl
def aiQ:bX aq 1 (gE (m,d))=U (.int .i64 m.kind):=by rw[sy];rfl
def aiR:bX aq 1 ((gE (m,d)).drop 4)=U (.sl .no 5 (m.ae.map Nd.enc)):=by rw[sy];rfl
def aiN:bX aq 1 ((gE (m,d)).drop 5)=U (.int .i64 (d:Nat)):=by rw[sy];rfl
def aiT:takeN 5 (gE (m,d))=U m.enc:=O9 Nd.dj
def aiM:over [x0,x1,x2,x3,x4,.int .i64 0] m.enc=gE (m,0):=by rw[sy,Nd.cS];rfl
theorem aiP:cB 5 [x0,x1,x2,x3,x4,x5]=true:=rfl
def aiV:setAt (gE (m,d)) 5 [.int .i64 (k:Nat)]=gE (m,k):=by rw[sy,sy];rfl
def xy:=af @CL <| af @SI <| af @Hj <| af @aiO <| af @aiS <| af @aiU <| af @aiQ <| af @aiR <| af @aiN <| af @aiT <| af @aiM @aiP
end
structure CF(s:aG)(lat:Nat)(n:Nd)(Z:ab) where
 fs:List (Nd × Nat)
 out:List bH
 v:V
 tk:Tk
 st:ab
 fin:tD s lat fs out=ly s lat n
 all:∀f∈fs,f.1.ff=aa/\f.1.wt<=n.wt/\f.1.cJ<=n.cJ
 mes:out.length+qR fs<=2*n.cJ+1
 own:fQ st 6 v (fs.reverse.map gE)
 sub:vN Z st v
 gr:Gr Z st tk out.length
def Dk(s:aG)(lat:Nat)(n:Nd)(out:List bH)(v:V)(tk:Tk)(Z:ab):St :=
 ⟨[.any,.int .i64 (lat:Nat),.any,.ptr (.au 0) 0,.any,.ptr (.au 1) 0,.any,.any,.sl tk 10 (out.map bH.enc),v]++aj 96 .any,[s.enc,n.enc],Z⟩
def N_{n:Nat}{v:V}{rows:List (List V)}(h:fQ Z k v rows):v.lo n=true:=by obtain⟨a,cap,rfl,_⟩:=h;rfl
def VL{σ':ab}{v:V}{rows:List (List V)}(h:fQ Z k v rows)(e:σ'.box=Z.box):fQ σ' k v rows:=h.frame λb cs _ hc=>by rw[e];exact hc
def ajt{dJ σ':ab}{tk:Tk}{n:Nat}(h:Gr dJ Z tk n)(hs:dJ.sub σ')(e:σ'.aY=Z.aY):Gr dJ σ' tk n:=⟨hs,h.tk.imp id λ⟨D,a,b,c⟩=>⟨D,a,by rw[e];exact b,c⟩⟩
def Va:∀(fs:List (Nd × Nat)),fs.length<=qR fs
 | []=>b7 _
 | f::fs=>by have:=Va fs;simp only[qR,da];omega
def au8:=af @am <| af @cG <| af @aX <| af @Nd.ak <| af @aG.ak @bH.ak
def aa3(s:aG)(lat:Int)(n:Nd)(hg:TZ Z)(hs:s.ok)(hw:n.wt<=aJ)(hc:n.cJ<=100000):
 aT 64 [.agg s.enc,.int .i64 lat,.agg n.enc] Z (uF (lW s lat n)):=by
 refine ah9.aP ?_;simp only[aO,au8,Nat.reduceAdd];have no:∀(u:List V) (l:List (List V)) (bR:ab),lW s lat n=ah->Z.sub bR->jx (λv σ' => v=uF (lW s lat n)/\σ' = Z) ⟨u,l,bR⟩ (.bz [.sl .a9 10 [],.bool aq]):=λu l bR h h' => by
  rw[h];exact aN rfl h' ⟨rfl,rfl⟩
 by_cases hn:lat<0
 .simp only[am,cG,aB hn];exact no _ _ _ (by rw[lW,aw (by omega)]) (ab.bc _)
 .obtain⟨lat,rfl⟩:∃m:Nat,lat=m:=⟨lat.toNat,by omega⟩;simp only[am,aD,aG.ak,aD,az hn]
  by_cases iY:s.bt.length<=lat
  .simp only[am,cG,aB (show(s.bt.length:Int)<=(lat:Nat) by omega)];exact no _ _ _ (by rw[lW,aw (by omega)]) (ab.bc _)
  .have an:lat<s.bt.length:=by omega
   simp only[am,Nd.ak,az (show ¬(s.bt.length:Int)<=(lat:Nat) by omega)];refine cl (Fy _ n Z (b7 _) hw) ?_;cases hl:n.ff with
   | false =>
    simp only[am,cG];exact no _ _ _ (by rw[lW,hl,aw (by simp)]) (ab.bc _)
   | true =>
    have hR:=Kt an hl;simp only[am,jj,Nd.ak,xy];refine fQ.mk1 (c:=gE (n,0)) (by simp[zy,V.cells,CL,Hj,SI,V.wd]) CL Hj λv bR hO hS=>?_
    simp only[am];obtain⟨I,hI⟩:∃I:CF s lat n Z->St,∀p,I p=Dk s lat n p.out p.v p.tk p.st:=⟨_,λ_=>rfl⟩;refine dP I (λp=>qR p.fs) ?_ ?_
    .refine a7.enter (I:=I) ⟨[(n,0)],[],v,.a9,bR,by simp only[tD,WB];cases ly s lat n<;>rfl,by simp[hl],?_,by simpa using hO,hS,⟨hS.sub,.inl rfl⟩⟩ ?_ ?_ ?_
     .have:=Nd.so n
      simp only[qR,JN,cZ];omega
     all_goals simp[hI,Dk,aj,am,bd]
    .rintro⟨fs,out,v,tk,bR,rB,cT,HO,hO,hS,hG⟩;simp only[hI,Dk,aj,am,jj];have hml:=Va fs;refine hO.len ?_;cases fs with
     | nil =>
      have e:ly s lat n=U out:=by rw[<-rB];rfl
      simp only[am,cG,List.reverse_nil,eQ,cZ,show decide ((0:Int)<((0:Nat):Int))=aq from rfl];exact aN rfl hG.sub ⟨by rw[hR,e];rfl,rfl⟩
     | cons f fs =>
      obtain⟨m,d⟩:=f;obtain⟨HP,qJ,qI⟩:=cT (m,d) (by simp);simp only at HP qJ qI;have fH:(List.map gE ((m,d)::fs).reverse).length=fs.length+1:=by simp
      have dp:(List.map gE ((m,d)::fs).reverse)[fs.length]?=U (gE (m,d)):=by simp
      have T7:(List.map gE ((m,d)::fs).reverse).take fs.length=List.map gE fs.reverse:=by simp
      have zk:fs.length+1<=2*n.cJ+1:=by simp only[da] at hml;omega
      have zi:TZ bR:=hG.sub.2.2 _ _ hg;simp only[am,jj,fH,show decide ((0:Int)<((fs.length+1:Nat):Int))=aa from aB (by omega)];refine hO.len ?_;simp only[am,jj,fH];rw[wrap_i64,show((fs.length+1:Nat):Int) - 1=(fs.length:Nat) by omega];refine hO.idx (by omega) (j:=(fs.length:Nat)) (c:=gE (m,d)) (by rw[gK];exact dp) λb cs rest hb b9 LL=>?_
      rw[gK] at LL ⊢;have xL:takeN 6 (cs.drop (fs.length*6))=U (gE (m,d)):=by rw[LL];exact O9 CL
      simp only[am,Nat.reduceAdd,b9,xL,xy]
      by_cases hk:m.kind=1\/m.kind=7
      .have mg:(decide (m.kind=1)=aa)\/(decide (m.kind=1)=aq/\decide (m.kind=7)=aa):=by
        by_cases h1:m.kind=1
        .exact .inl (aB h1)
        .exact .inr ⟨az h1,aB (by simpa [h1] using hk)⟩
       have tM:=aqQ (s:=s) (lat:=lat) (d:=d) (fs:=fs) (out:=out) hk;rw[tM] at rB
       rcases mg with e1 | ⟨e1,e2⟩
       case' inl=>simp only[am,Nd.ak,aG.ak,e1,xy]
       case' inr=>simp only[am,Nd.ak,aG.ak,e1,e2,xy]
       all_goals
        refine(alP s lat m zi hs an (by omega) (by omega) HP hk).mono ?_;rintro v' σ' ⟨⟨i,rfl,hi⟩,rfl⟩;simp only[am,Nat.reduceAdd,bH.ak];cases L3:p7 s lat m with
        | none =>
         rw[L3] at rB;simp only[am,cG,vL];exact no _ _ _ (by rw[hR,<-rB]) hG.sub
        | some j =>
         obtain rfl:=hi j L3;rw[L3] at rB;simp only[am,bH.ak,xh];refine Gr.app (by simpa using hG) (by simp only[qR] at HO;simp[aJ];omega) λfK gX jA hB _=>?_
         simp only[am,jj];refine(VL hO hB).take (m:=fs.length) (by omega) (gK _) (by rw[fH];omega) λv2 wb ep=>?_
         rw[T7] at wb;simp only[am,cG,Nat.reduceEqDiff,reduceCtorEq];refine a7.lT (I:=I) ⟨fs,out++[i],v2,fK,gX,rB,λf hf=>cT f (Qf _ hf),by simp only[qR] at HO;rw[bW,fx];omega,wb,⟨jA.sub,λb hb=>hS.new b (by rw[<-ep];exact hb)⟩,by simpa using jA⟩ (by simp only[qR];omega) ?_ ?_ ?_ ?_ ?_
         all_goals simp[hI,Dk,aj,am,bd,bK,cp,V.lo,aG.bP,Nd.bP,N_ wb]
      .have e1:decide (m.kind=1)=false:=az λh=>hk (.inl h)
       have e7:decide (m.kind=7)=false:=az λh=>hk (.inr h)
       simp only[am,e1,e7];have pR:=Uv HP hk;have wq:=vX m
       by_cases h9:m.kind=9
       case' pos =>
        have eo:rP m=⟨4,m.ae.length,.zero⟩:=by rw[rP,aI h9]
        simp only[am,aD,aD,aB h9,xy]
       case' neg =>
        have eo:rP m=⟨3,m.ae.length,.zero⟩:=by rw[rP,aw h9]
        simp only[am,aD,aD,az h9,xy]
       all_goals
        by_cases hd:d<m.ae.length
        .have TA:cs.drop (fs.length*6+5)=(gE (m,d)).drop 5++rest:=by
          rw[<-w_,LL,YR (by rw[CL];omega)]
         have h5:(gE (m,d)).drop 5=[.int .i64 (d:Nat)]:=by rw[sy];rfl
         have aka:bX aq 1 (cs.drop (fs.length*6+5))=U (.int .i64 (d:Nat)):=by rw[TA,h5];rfl
         have aj4:cB 1 (cs.drop (fs.length*6+5))=true:=by rw[TA,h5];rfl
         obtain⟨wb,bT⟩:=hO.put (off:=5) (x:=[.int .i64 ((d+1:Nat):Int)]) dp hb b9 (by simp);have nC:(List.map gE ((m,d)::fs).reverse).set fs.length (setAt (gE (m,d)) 5 [.int .i64 ((d+1:Nat):Int)])=List.map gE ((m,d+1)::fs).reverse:=by
          rw[aiV];simp
         rw[nC] at wb;have HQ:m.ae[d]∈m.ae:=dq hd;have hkw:=gw HQ;have avj:=lx HQ;simp only[am,jj,ca hd];refine hO.idx (by omega) (j:=(fs.length:Nat)) (c:=gE (m,d)) (by rw[gK];exact dp) λb2 Kw aqN ep ajR _=>?_
         obtain rfl:b=b2:=by rw[hb] at ep;exact vM ep
         rw[gK];simp only[am,jj,b9,aka,bF hd];refine hO.idx (by omega) (j:=(fs.length:Nat)) (c:=gE (m,d)) (by rw[gK];exact dp) λb2 Kw aqN ep ajR _=>?_
         obtain rfl:b=b2:=by rw[hb] at ep;exact vM ep
         rw[gK];simp only[am,b9,aj4,xy];refine ix (fN (bN hd)) ?_;simp only[am,jj,Nd.ak,xy];refine wb.app (m:=[gE (m.ae[d],0)]) (by simp[CL]) (by simp[Hj]) (by simp[aJ];omega) λv3 Ae Th kp=>?_
         have To:=(hS.step bT).step kp;have Lf:=ajt hG To.sub (kp.aY.trans bT.aY);simp only[am,cG,reduceCtorEq];refine a7.lT (I:=I) ⟨(m.ae[d],0)::(m,d+1)::fs,out,v3,tk,Ae,by rw[<-aqP hk hd];exact rB,?_,?_,by simpa using Th,To,Lf⟩ (U' hd) ?_ ?_ ?_ ?_ ?_
         .intro f hf
          rcases pz.1 hf with rfl | hf
          .exact⟨pR _ HQ,by simp only;omega,by simp only;omega⟩
          .rcases pz.1 hf with rfl | hf
           .exact⟨HP,qJ,qI⟩
           .exact cT f (Qf _ hf)
         .have:=U' (fs:=fs) hd;omega
         all_goals simp[hI,Dk,aj,am,bd,bK,cp,V.lo,aG.bP,Nd.bP,N_ Th]
        .simp only[am,aD,bH.ak,aD,az (show ¬(d:Int)<(m.ae.length:Nat) by omega),xy];refine Gr.app (by simpa using hG) (by simp only[qR] at HO;simp[aJ];omega) λfK gX jA hB _=>?_
         simp only[am,jj];refine(VL hO hB).take (m:=fs.length) (by omega) (gK _) (by rw[fH];omega) λv2 wb ep=>?_
         rw[T7] at wb;simp only[am];refine a7.lT (I:=I) ⟨fs,out++[rP m],v2,fK,gX,by rw[<-aqO hk (Nat.le_of_not_lt hd)];exact rB,λf hf=>cT f (Qf _ hf),by simp only[qR] at HO;rw[bW,fx];omega,wb,⟨jA.sub,λb hb=>hS.new b (by rw[<-ep];exact hb)⟩,by simpa using jA⟩ (by simp only[qR];omega) ?_ ?_ ?_ ?_ ?_
         all_goals simp[hI,Dk,aj,am,bd,bK,cp,V.lo,aG.bP,Nd.bP,eo,bH.zero,N_ wb]
def fn7:aR prog 7 (sq [rg 2 [ox 1 2 0,oz 2],sq [rg 7 [fo 0 1,nL,nB .gtr 20,gB,fo 1 1,nL,nB .gtr 80,gZ],cr 16 2 [oq (.mv (.c (.bool aa)))]],sq [rg 17 [fo 0 1,nL,oi 0],lp 19 0 (sq [rg 22 [oA 3 18 20,nl 3,oZ 4 [1,2,72],o2 3 4],rg 24 [of 1 4,nl 2,oC 17 [25],gB,fo 0 4,nT,nB .gtr 40,gZ],cr 32 2 [oq (.mv (.c (.bool aa)))]]) 33],sq [rg 34 [fo 1 1,nL,oi 0],lp 36 2 (sq [rg 39 [oA 3 35 37,nl 3,oZ 6 [1,0,0],o2 3 6],rg 41 [fo 0 6,nT,nB .gtr 40],cr 44 2 [oq (.mv (.c (.bool aa)))]]) 45],rg 2 [oz 2],.ret]) [.tmp 2] 46:=aS func7
def afK:aR prog 17 (sq [rg 2 [ox 1 2 0,oz 2],sq [rg 6 [fo 1 1,nL,nB .gtr 12],cr 9 2 [oq (.mv (.c (.bool aa)))]],sq [rg 3 [oi 0],bl 0 (sq [sq [rg 10 [om 3,fo 1 1,nL,nb .lss 10],cx 14 0],.block 1 (sq [rg 17 [fo 1 1,om 3,nA 67 18,nl 67,oR 4 rp,o2 67 4],sq [rg 22 [fo 1 4,nL,nB .gtr 70],cr 25 2 [oq (.mv (.c (.bool aa)))]],rg 5 [oi 0],bl 2 (sq [sq [rg 26 [om 5,fo 1 4,nL,nb .lss 26],cx 30 2],.block 3 (sq [rg 33 [fo 1 4,om 5,nA 1 34,no,nT,nB .gtr 40],cr 39 2 [oq (.mv (.c (.bool aa)))]]),rg 31 [ic 5]])]),rg 15 [ic 3]])],rg 2 [oz 2],.ret]) [.tmp 2] 40:=aS func17
def yZ(f:bn):Bool:=decide (70<f.al.length)||f.al.any λt=>decide (40<t.length)
theorem aaf(s:bJ):yQ s=(decide (12<s.bB.length)||s.bB.any yZ):=rfl
def Cg{l:List Y}{p:Y->Bool}(hi:i<l.length)(h:p l[i]=aa):l.any p=true:=uu.2 ⟨_,dq hi,h⟩
def GR{l:List Y}{p:Y->Bool}(h:∀k∈l,p k=aq):l.any p=false:=by
 rw[D8];exact λk hk=>by rw[h k hk];simp
def au9:=af @am <| af @aK <| af @bn.ak @iH
def aae(s:bJ)(Z:ab):aT 17 [.agg s.enc] Z (.bool (yQ s)):=by
 refine afK.aP ?_;simp only[aO,am,aX,Nat.reduceAdd,bJ.ak,aD];rw[aaf]
 by_cases h1:12<s.bB.length
 .simp only[am,aB (show(12:Int)<s.bB.length by omega)];refine aC ?_;simp[V.erase,h1]
 .simp only[am,az (show ¬(12:Int)<s.bB.length by omega)];rw[az h1,ur];refine ct (s.bB.length) (λi (x:Unit)=>⟨[.any,.ptr (.au 0) 0,.any,.int .i64 (i:Nat)]++aj 36 .any,[s.enc],Z⟩) (λi x=>(∀f∈s.bB.take i,yZ f=aq)) λF hF JF aW=>⟨?_,?_,?_⟩
  .exact en aW (()) (by simp)
  .rintro i x hi hJ;simp only[hF,aj,am,ca hi,bJ.ak,aD];refine ix (Ew hi) ?_;simp only[am,bn.ak,iH]
   by_cases h2:70<s.bB[i].al.length
   .simp only[am,aK,aB (show(70:Int)<s.bB[i].al.length by omega)];refine aC ?_;simp[V.erase,Cg hi (show yZ s.bB[i]=aa by rw[yZ,aB h2];rfl)]
   .simp only[am,az (show ¬(70:Int)<s.bB[i].al.length by omega)];refine ct (s.bB[i].al.length) (λj (y:Unit)=>⟨[.any,.ptr (.au 0) 0,.any,.int .i64 (i:Nat),.ptr (.au 1) 0,.int .i64 (j:Nat)]++aj 34 .any,[s.enc,s.bB[i].enc],Z⟩) (λj y=>(∀t∈s.bB[i].al.take j,decide (40<t.length)=aq)) λF2 bT mE cX=>⟨?_,?_,?_⟩
    .refine en cX (()) (by simp) ?_ ?_ ?_
     all_goals simp[bT,aj,am,bd]
    .rintro j y hj iW;simp only[bT,aj,am,ca hj,bn.ak,iH];refine ix (BN hj) ?_;simp only[am,jS hj]
     by_cases h3:40<s.bB[i].al[j].length
     .simp only[am,aK,aB (show(40:Int)<s.bB[i].al[j].length by omega)];refine aC ?_;simp[V.erase,Cg hi (show yZ s.bB[i]=aa by rw[yZ,Cg hj (aB h3)];simp)]
     .simp only[am,aK,az (show ¬(40:Int)<s.bB[i].al[j].length by omega),bF hj];refine nx cX (()) hj (DS iW hj (az h3)) ?_ ?_ ?_
      all_goals simp[bT,aj,am,bd]
    .rintro y iW;rw[df] at iW;simp only[bT,aj,au9,cy,Nat.reduceEqDiff,reduceCtorEq];simp only[bF hi];refine db (()) hi ?_ ?_ ?_ ?_ ?_ ?_
     .exact cI (aW _ _) (DS hJ hi (show yZ s.bB[i]=aq by rw[yZ,az h2,GR iW];rfl))
     all_goals simp[hF,aj,am,bd,bK,cp,V.lo,bJ.bP]
  .rintro x hJ;rw[df] at hJ;simp only[hF,aj,am,aK,cy,aK,bJ.ak,aD];refine aC ?_;simp[V.erase,GR hJ]
section
variable {l:fy} {v:eX} {a b c:V} {m:Nat}
theorem fy.IM:takeN 3 l.enc=U l.enc:=rfl
theorem fy.IL:over [a,b,c] l.enc=l.enc:=rfl
theorem fy.IJ:l.enc.length=3:=rfl
theorem fy.IK:c8 l.enc=true:=rfl
theorem eX.IJ:v.enc.length=3:=rfl
theorem eX.IK:c8 v.enc=true:=rfl
theorem eX.IM:takeN 3 v.enc=U v.enc:=rfl
theorem eX.IL:over [a,b,c] v.enc=v.enc:=rfl
end
def zC(l:fy):Bool:=yQ l.shape||decide (40<l.name.length)
def Jn(v:eX):Bool:=decide (40<v.name.length)
theorem aab(s:aG):Au s=(decide (20<s.bt.length)||decide (80<s.vars.length)||s.bt.any zC||s.vars.any Jn):=rfl
def aaa(s:aG)(Z:ab):aT 7 [.agg s.enc] Z (.bool (Au s)):=by
 refine fn7.aP ?_;simp only[aO,am,aX,Nat.reduceAdd,aG.ak,aD,aG.ak,aD];rw[aab]
 by_cases h1:20<s.bt.length
 .simp only[am,aB (show(20:Int)<s.bt.length by omega)];refine aC ?_;simp[V.erase,h1]
 .simp only[am,aD,aG.ak,aD,aG.ak,aD,az (show ¬(20:Int)<s.bt.length by omega)]
  by_cases h2:80<s.vars.length
  .simp only[am,aB (show(80:Int)<s.vars.length by omega)];refine aC ?_;simp[V.erase,h2]
  .simp only[am,aD,aG.ak,aD,aG.ak,aD,az (show ¬(80:Int)<s.vars.length by omega)];rw[az h1,az h2,Bool.or_self,ur];refine ct (s.bt.length) (λi (x:Unit)=>⟨[.any,.ptr (.au 0) 0,.any,.any,.any,.any,.any,.any,.any,.any,.any,.any,.any,.any,.any,.any,.any,.any,.sl .no 3 (s.bt.map fy.enc),.int .i64 (s.bt.length:Nat),.int .i64 (i:Nat)]++aj 25 .any,[s.enc],Z⟩) (λi x=>(∀f∈s.bt.take i,zC f=aq)) λF hF JF aW=>⟨?_,?_,?_⟩
   .exact en aW (()) (by simp)
   .rintro i x hi hJ;simp only[hF,aj,am,ca hi];refine ix (u7 hi) ?_;simp only[am,bJ.ak,aG.ak,bJ.ak,aG.ak,fy.IJ,fy.IK,fy.IM,fy.IL];refine cl (aae s.bt[i].shape Z) ?_;cases h3:yQ s.bt[i].shape with
    | true =>
     simp only[am,aK,aK];refine aC ?_;simp[V.erase,Cg hi (show zC s.bt[i]=aa by rw[zC,h3];rfl)]
    | false =>
     simp only[am,aG.ak,aG.ak]
     by_cases h4:40<s.bt[i].name.length
     .simp only[am,aK,aK,aB (show(40:Int)<s.bt[i].name.length by omega)];refine aC ?_;simp[V.erase,Cg hi (show zC s.bt[i]=aa by rw[zC,aB h4,Bool.or_true])]
     .simp only[am,aK,aK,az (show ¬(40:Int)<s.bt[i].name.length by omega),bF hi];refine db (()) hi ?_ ?_ ?_ ?_ ?_ ?_
      .exact cI (aW _ _) (DS hJ hi (show zC s.bt[i]=aq by rw[zC,az h4,h3];rfl))
      all_goals simp[hF,aj,am,bd,bK,cp,V.lo,aG.bP]
   .rintro x hJ;rw[df] at hJ;simp only[hF,aj,am,aK,cy,aK,aG.ak,aD,aK,aG.ak,aD];refine ct (s.vars.length) (λj (y:Unit)=>⟨[.any,.ptr (.au 0) 0,.any,.any,.any,.any,.any,.any,.any,.any,.any,.any,.any,.any,.any,.any,.any,.any,.any,.any,.any,.any,.any,.any,.any,.any,.any,.any,.any,.any,.any,.any,.any,.any,.any,.sl .no 3 (s.vars.map eX.enc),.int .i64 (s.vars.length:Nat),.int .i64 (j:Nat)]++aj 8 .any,[s.enc],Z⟩) (λj y=>(∀f∈s.vars.take j,Jn f=aq)) λF2 bT mE cX=>⟨?_,?_,?_⟩
    .refine en cX (()) (by simp) ?_ ?_ ?_
     all_goals simp[bT,aj,am,bd]
    .rintro j y hj iW;simp only[bT,aj,am,ca hj];refine ix (um hj) ?_;simp only[am,aG.ak,aG.ak,eX.IJ,eX.IK,eX.IM,eX.IL]
     by_cases h4:40<s.vars[j].name.length
     .simp only[am,aK,aK,aB (show(40:Int)<s.vars[j].name.length by omega)];refine aC ?_;simp[V.erase,Cg hj (show Jn s.vars[j]=aa from aB h4)]
     .simp only[am,aK,aK,az (show ¬(40:Int)<s.vars[j].name.length by omega),bF hj];refine db (()) hj ?_ ?_ ?_ ?_ ?_ ?_
      .exact cI (cX _ _) (DS iW hj (show Jn s.vars[j]=aq from az h4))
      all_goals simp[bT,aj,am,bd,bK,cp,V.lo,aG.bP]
    .rintro y iW;rw[df] at iW;simp only[bT,aj,am,aK,cy,aK,aK];refine aC ?_;simp[V.erase,GR hJ,GR iW]
def ah1:aR prog 56 (sq [rg 12 [mk 0,nf 1,nl 2,om 1,oC 63 [15,16],o1 11,oe 11 0,oe 11 1,ot 8 18,o1 9],rg 20 [mk 0,nf 0,om 8,nB .lss 0,gA,om 9,nB .lss 0,gZ,om 2,oc 59 [.s 22,.s 28,.c (.int .i64 3),.s 29]],sq [rg 31 [om 9,nB .lss 0],cr 32 33 [mk 0,nf 0,om 8,nB .geq 0,om 2,oc 59 [.s 35,.s 37,.c (.int .i64 4),.s 38]]],rg 40 [mk 0,nf 1,nF 1,om 9,nA 3 44,nl 3,oZ 10 [1,0,0],o2 3 10],dg 48 [mk 0,nf 0,fo 1 10,om 3,nb .neq 52,nm,oh 55 (om 0),oh 55 (nk),oh 55 (nf 3),oh 55 (no),oh 55 (nB .geq 0),oh 55 (nm),og 61 (of 2 10),og 61 (no),og 61 (om 0),og 61 (nk),og 61 (nf 3),og 61 (no),og 61 (nb .neq 63),oh 55 (oy 61 68),oq (.pick (.s 55) (.c (.bool aa)) (.s 69)),om 2,oc 59 [.s 50,.s 70,.c (.int .i64 4),.s 71]]]) [] 73:=aS func56
def ah2:aR prog 57 (sq [rg 0 [ox 3 2 1],dg 7 [mk 0,nf 1,nl 2,fo 0 3,oC 63 [10,12],o1 6,oe 6 0,oe 6 1,ot 4 14,o1 5],rg 16 [om 0,om 4,ok 16,nf 3,os 1 19 17],dg 20 [mk 0,nf 0,om 4,nB .lss 0,gA,om 5,nB .lss 0,gZ,fo 1 3,oc 59 [.s 22,.s 28,.c (.int .i64 3),.s 30]],dg 32 [mk 0,nf 0,om 4,nB .lss 0,gA,om 5,nB .geq 0,gZ,fo 1 3,oc 59 [.s 34,.s 40,.c (.int .i64 4),.s 42]]]) [] 44:=aS func57
def ah4:aR prog 59 (sq [rg 8 [om 1],ci 8 (rg 9 [om 0,mk 0,nF 0,om 2,om 3,oW [0,0] [(0,1,14),(1,1,15)],n1 2,na 2 13,ok 9,nf 0,os 1 20 18])]) [] 21:=aS func59
def aeT:aR prog 118 (sq [rg 0 [ox 3 5 1],rg 6 [fo 0 3],.block 0 (sq [rg 9 [oB .eql 7 1,o1 8],cd 8 (rg 10 [om 0,fo 2 3,fo 1 3,oc 56 [.s 10,.s 12,.s 14,.c (.int .i64 1)]]) (sq [rg 17 [oB .eql 7 7,o1 16],ci 16 (sq [rg 18 [fo 4 3,nL,nB .gtr 0,gA,mk 0,nF 3,nB .geq 0,gZ],ci 28 (sq [dA 30 [4,5] [mk 0,nf 1,nF 0,mk 0,nF 3,nA 3 34,nf 1,nl 2,fo 4 3,nI 5 0,nl 5,oC 125 [41,45],o1 29,oe 29 0,oe 29 1,oN,oN,oX 4 8 47,oX 5 2 48],dg 49 [mk 0,nf 0,fo 0 5,nB .neq 0,fo 0 5,fo 1 5,oC 59 [51,54,56,58]]])])])])]) [] 60:=aS func118
def yn(Z:ab)(b D:Nat)(l:List aM)(s:aG)(lat p x y:Int)(is:Bool)(hl:l.length<=100000000) :
 d_ 59 [.ptr (.out b) 0,.bool is,.int .i64 x,.int .i64 y] (dk Z b D l s lat p) (.bz []) (dk Z b D (l++if is then [⟨x,y⟩] else []) s lat p):=by
 refine ah4.aP ?_;simp only[aO,am,aX,Nat.reduceAdd];cases is with
 | false =>
  simp only[am,eM,eM];exact aN rfl (ab.bc _) ⟨rfl,by simp⟩
 | true =>
  simp only[am,Nat.reduceAdd,j6];refine fe (by simp[aJ];omega) (by rw[aD];exact PE) ?_;simp only[am,aD,j6,aD,fx,auP];exact aN rfl (ab.bc _) ⟨rfl,by simp⟩
def F'(Z:ab)(b D:Nat)(l:List aM)(s:aG)(lat p y k:Int)(t:List UInt8)(hl:l.length<=90000000)(hs:s.ok) :
 d_ 56 [.ptr (.out b) 0,.aH t,.int .i64 y,.int .i64 k] (dk Z b D l s lat p) (.bz []) (dk Z b D (l++fE s lat t y k) s lat p):=by
 refine ah1.aP ?_;simp only[aO,am,aX,Nat.reduceAdd,j6,aG.ak];refine cl (yg s t _ hs.1 hs.2.1) ?_;cases hV:iw s.vars t with
 | none =>
  cases hL:fu s.bt t with
  | none =>
   have e:fE s lat t y k=[⟨3,y⟩]:=by rw[fE,hV,hL];rfl
   simp only[am,bL,Int.reduceNeg,bY,Int.reduceLT];refine cl (yn Z b D l s lat p 3 y aa (by omega)) ?_;simp only[am,bL,c9,Int.reduceNeg,Int.reduceLT,Int.reduceLE];refine cl (yn Z b D (l++[⟨3,y⟩]) s lat p 4 y aq (by simp;omega)) ?_;simp only[am,Int.reduceNeg,eM];exact aN rfl (ab.bc _) ⟨rfl,by rw[e]⟩
  | some j =>
   have e:fE s lat t y k=[⟨4,y⟩]:=by rw[fE,hV,hL];rfl
   simp only[am,Int.reduceNeg,bY,az (show ¬((j:Nat):Int)<0 by omega)];refine cl (yn Z b D l s lat p 3 y aq (by omega)) ?_;simp only[am,bL,Int.reduceNeg,eM,Int.reduceLT,aB (show(0:Int)<=((j:Nat):Int) by omega)];refine cl (yn Z b D l s lat p 4 y aa (by omega)) ?_;simp only[am,Int.reduceNeg];exact aN rfl (ab.bc _) ⟨rfl,by rw[e]⟩
 | some v =>
  have hv:=KQ hV;have hx:s.vars[v]?=U s.vars[v]:=bN hv;have e:fE s lat t y k=if s.vars[v].kind≠k\/(0<=lat/\s.vars[v].lat≠lat) then [⟨4,y⟩] else []:=by rw[fE,hV];simp only[hx]
  have nv:decide (((v:Nat):Int)<0)=false:=az (by omega);have mid:cF prog 59 [.ptr (.out b) 0,.bool aq,.int .i64 3,.int .i64 y] (dk Z b D l s lat p) λu σ' => u = .bz []/\σ' = dk Z b D l s lat p:=by
   simpa using yn Z b D l s lat p 3 y aq (by omega)
  have fin:∀is:Bool,is=decide (s.vars[v].kind≠k\/(0<=lat/\s.vars[v].lat≠lat))->cF prog 59 [.ptr (.out b) 0,.bool is,.int .i64 4,.int .i64 y] (dk Z b D l s lat p) λu σ' => u = .bz []/\σ' = dk Z b D (l++fE s lat t y k) s lat p:=λis he=>by
   have:=yn Z b D l s lat p 4 y is (by omega)
   rw[he] at this ⊢;rw[e];simpa using this
  cases hL:fu s.bt t
  case' none=>simp only[am,bL,Int.reduceNeg,bY,Int.reduceLT,nv]
  case' some j =>
   simp only[am,bY,az (show ¬((j:Nat):Int)<0 by omega)]
  all_goals
   refine cl mid ?_;simp only[am,Nat.reduceAdd,Int.reduceNeg,j6,nv];refine ix (um hv) ?_;simp only[am,Int.reduceNeg,aG.ak,eX.IJ,eX.IK,eX.IM,eX.IL]
   by_cases hk:s.vars[v].kind=k
   case neg =>
    simp only[am,Int.reduceNeg,az hk];refine bA.intro (fin aa (by simp[hk])) ?_;simp only[am,Int.reduceNeg];exact aN rfl (ab.bc _) ⟨rfl,rfl⟩
   simp only[am,Int.reduceNeg,j6,aB hk]
   by_cases h0:0<=lat
   case neg =>
    simp only[am,Int.reduceNeg,az h0];refine bA.intro (fin aq (by simp[hk,h0])) ?_;simp only[am,Int.reduceNeg];exact aN rfl (ab.bc _) ⟨rfl,rfl⟩
   simp only[am,Int.reduceNeg,j6,aG.ak,aB h0]
   by_cases h1:s.vars[v].lat=lat
   case neg =>
    simp only[am,Int.reduceNeg,az h1];refine bA.intro (fin aa (by simp[h0,h1])) ?_;simp only[am,Int.reduceNeg];exact aN rfl (ab.bc _) ⟨rfl,rfl⟩
   simp only[am,Int.reduceNeg,aB h1];refine bA.intro (fin aq (by simp[hk,h1])) ?_;simp only[am,Int.reduceNeg];exact aN rfl (ab.bc _) ⟨rfl,rfl⟩
def BR(Z:ab)(b D:Nat)(l:List aM)(s:aG)(lat p x y:Int)(hl:l.length<=100000000):cF prog 59 [.ptr (.out b) 0,.bool aq,.int .i64 x,.int .i64 y] (dk Z b D l s lat p) λu σ' => u = .bz []/\σ' = dk Z b D l s lat p:=by
 simpa using yn Z b D l s lat p x y aq hl
def Gb(Z:ab)(b D:Nat)(l:List aM)(s:aG)(lat p x y:Int)(hl:l.length<=100000000):cF prog 59 [.ptr (.out b) 0,.bool aa,.int .i64 x,.int .i64 y] (dk Z b D l s lat p) λu σ' => u = .bz []/\σ' = dk Z b D (l++[⟨x,y⟩]) s lat p:=by
 simpa using yn Z b D l s lat p x y aa hl
def au_:=af @am <| af @aX <| af @aG.ak @aF.ak
def Xy(Z:ab)(b D:Nat)(l:List aM)(s:aG)(lat p:Int)(w:aF)(hl:l.length<=90000000)(hs:s.ok) :
 d_ 57 [.ptr (.out b) 0,.agg w.enc] (dk Z b D l s lat p) (.bz []) (dk Z b D (l++fc s w) s (bY (fu s.bt w.ar)) p):=by
 refine ah2.aP ?_;simp only[aO,au_,Nat.reduceAdd,Int.reduceNeg,bY,j6];refine bA.intro (yg s w.ar (dk Z b D l s lat p) hs.1 hs.2.1) ?_;simp only[am,Int.reduceNeg,bY,j6,auQ];cases hL:fu s.bt w.ar with
 | none =>
  cases hV:iw s.vars w.ar with
  | none =>
   have e:fc s w=[⟨3,w.pos⟩]:=by rw[fc,hL,hV];rfl
   simp only[am,bL,Int.reduceNeg,Int.reduceLT,j6];refine bA.intro (Gb Z b D l s (-1) p 3 w.pos (by omega)) ?_;simp only[am,bL,c9,Int.reduceNeg,Int.reduceLT,Int.reduceLE,j6];refine bA.intro (BR Z b D (l++[⟨3,w.pos⟩]) s (-1) p 4 w.pos (by simp;omega)) ?_;simp only[am,Int.reduceNeg];exact aN rfl (ab.bc _) ⟨rfl,by rw[e]⟩
  | some j =>
   have e:fc s w=[⟨4,w.pos⟩]:=by rw[fc,hL,hV];rfl
   simp only[am,bL,Int.reduceNeg,Int.reduceLT,j6,az (show ¬((j:Nat):Int)<0 by omega)];refine bA.intro (BR Z b D l s (-1) p 3 w.pos (by omega)) ?_;simp only[am,bL,Int.reduceNeg,Int.reduceLT,j6,aB (show(0:Int)<=((j:Nat):Int) by omega)];refine bA.intro (Gb Z b D l s (-1) p 4 w.pos (by omega)) ?_;simp only[am,Int.reduceNeg];exact aN rfl (ab.bc _) ⟨rfl,by rw[e]⟩
 | some j =>
  have e:fc s w=[]:=by rw[fc,hL];rfl
  simp only[am,Int.reduceNeg,j6,az (show ¬((j:Nat):Int)<0 by omega)];refine bA.intro (BR Z b D l s (j:Nat) p 3 w.pos (by omega)) ?_;simp only[am,Int.reduceNeg,j6,az (show ¬((j:Nat):Int)<0 by omega)];refine bA.intro (BR Z b D l s (j:Nat) p 4 w.pos (by omega)) ?_;simp only[am,Int.reduceNeg];exact aN rfl (ab.bc _) ⟨rfl,by rw[e,eM]⟩
def auO{b D:Nat}{l:List aM}{s:aG}{lat p:Int}(hg:TZ Z)(hb:Z.box b=ah):TZ (dk Z b D l s lat p):=hg
def Xk(Z:ab)(b D:Nat)(l:List aM)(s:aG)(lat p:Int)(n:Nd)(hl:l.length<=90000000)(hs:s.ok)(hg:TZ Z)(hb:Z.box b=ah)(iY:lat<s.bt.length)(hc:n.cJ<=100000)(hw:n.wt<=aJ) :
 d_ 118 [.ptr (.out b) 0,.agg n.enc] (dk Z b D l s lat p) (.bz []) (dk Z b D (l++kP s lat n) s lat p):=by
 refine aeT.aP ?_;simp only[aO,qo,Nat.reduceAdd]
 by_cases h1:n.kind=1
 .simp only[am,Nd.fl,aB h1];refine cl (F' Z b D l s lat p n.pos 1 n.ar hl hs) ?_;simp only[am];exact aN rfl (ab.bc _) ⟨rfl,by rw[kP,aI h1]⟩
 simp only[am,az h1]
 by_cases h7:n.kind=7
 case neg =>
  simp only[am,az h7];exact aN rfl (ab.bc _) ⟨rfl,by rw[kP,aw h1,aw h7,eM]⟩
 simp only[am,aD,Nd.fl,aD,aB h7];have ea:kP s lat n=yV s lat n:=by rw[kP,aw h1,aI h7]
 by_cases hk:0<n.ae.length
 case neg =>
  simp only[am,az (show ¬(0:Int)<(n.ae.length:Nat) by omega)];exact aN rfl (ab.bc _) ⟨rfl,by rw[ea,yV,aw (λh=>hk h.1),eM]⟩
 simp only[am,j6,aB (show(0:Int)<(n.ae.length:Nat) by omega)]
 by_cases h0:0<=lat
 case neg =>
  simp only[am,az h0];exact aN rfl (ab.bc _) ⟨rfl,by rw[ea,yV,aw (λh=>h0 h.2),eM]⟩
 simp only[am,Nat.reduceAdd,bL,Nat.reduceLT,j6,aB h0];obtain⟨k,rfl⟩:∃k:Nat,lat=k:=⟨lat.toNat,by omega⟩;have kT:k<s.bt.length:=by omega
 have hm:n.ae[0]∈n.ae:=dq _;have qI:=lx hm;have qJ:=gw hm;refine ix (u7 kT) ?_;simp only[am,aG.ak,Nd.fl];refine mh (n:=0) (by omega) (fN (j:=0) (bN hk)) ?_;simp only[am,bJ.ak,Nd.ak];refine bA.intro (KF s.bt[k].shape n.ae[0] (auO hg hb) (hs.2.2 _ (dq kT)) (λm hm=>by obtain⟨a,b,c⟩:=DC (n:=n.ae[0]) (by omega) m hm;exact⟨by omega,by omega,λq hq=>by have:=c q hq;omega⟩) (by omega)) ?_;have eo:uK s (k:Nat) n=(gz s.bt[k].shape n.ae[0]).2:=by rw[uK,gK,DL kT,jS hk]
 have ee:kP s (k:Nat) n=match (gz s.bt[k].shape n.ae[0]).2 with | some q=>[⟨4,q⟩] | none=>[]:=by rw[ea,yV,aI ⟨hk,h0⟩,eo];cases (gz s.bt[k].shape n.ae[0]).2<;>rfl
 generalize gz s.bt[k].shape n.ae[0]=g at ee;obtain⟨e,o⟩:=g;cases o with
 | none =>
  simp only[am,Nat.reduceAdd,bL,bp.ak,show mG ah=[.int .i64 0,.int .i64 0] from rfl];refine bA.intro (BR Z b D l s (k:Nat) p 0 0 (by omega)) ?_;simp only[am];exact aN rfl (ab.bc _) ⟨rfl,by rw[ee,eM]⟩
 | some q =>
  simp only[am,Nat.reduceAdd,c9,Int.reduceEq,bp.ak,show mG (U q)=[.int .i64 4,.int .i64 q] from rfl];refine bA.intro (Gb Z b D l s (k:Nat) p 4 q (by omega)) ?_;simp only[am];exact aN rfl (ab.bc _) ⟨rfl,by rw[ee]⟩
def ah3:aR prog 58 (sq [rg 0 [od (U 2) (.gY 1 (.s 0)),ox 3 5 1],rg 0 [od (U 4) (.qy [(.raw .nilFunc)])],rg 5 [oq (.kb (.func 117) [] [(.s 2),(.s 4)]),o2 1 4],rg 6 [oo 4,ol 5 3,oq (.iV (.s 6) [(.s 7)])]]) [] 9:=aS func58 ⟨[2,4],[]⟩
def aeS:aR prog 117 (sq [rg 0 [ox 3 5 0],rg 6 [oo 1,ol 5 3,oC 118 [6,7]],sq [rg 9 [fo 0 3,nB .eql 1,gB,fo 0 3,nB .eql 7,gZ],ci 16 .ret],rg 17 [fo 4 3,nL,oi 0],lp 19 0 (sq [rg 22 [oA 5 18 20,nl 5,oZ 5 [0,0,1,7,10],o2 5 5],rg 24 [oo 2,ol 5 5,oq (.iV (.s 24) [(.s 25)])]]) 27]) [] 28:=aS func117
def ass(Z:ab)(b D b2 b4:Nat)(s:aG)(lat p:Int)(hs:s.ok)(hg:TZ Z)(hb:Z.box b=ah)(iY:lat<s.bt.length)(n2:b2≠b)(n4:b4≠b)(h2:Z.box b2=U [.ptr (.out b) 0])(h4:Z.box b4=U [.fn (.func 117) [] [.ptr (.out b2) 0,.ptr (.out b4) 0]]) :
 ∀(k:Nat) (n:Nd) (l:List aM),n.wt<=k->l.length+n.cJ<=90000000->n.cJ<=100000->n.wt<=aJ ->
 d_ 117 [.agg n.enc,.ptr (.out b2) 0,.ptr (.out b4) 0] (dk Z b D l s lat p) (.bz []) (dk Z b D (l++fX s lat n) s lat p):=by
 have e2:∀l,(dk Z b D l s lat p).box b2=U [.ptr (.out b) 0]:=λl=>by rw[BX n2];exact h2
 have e4:∀l,(dk Z b D l s lat p).box b4=U [.fn (.func 117) [] [.ptr (.out b2) 0,.ptr (.out b4) 0]]:=λl=>by rw[BX n4];exact h4
 intro k;induction k with
 | zero=>intro n l h;have:=Nd.so n;have:=Cw n;omega
 | succ k ih =>
  intro n l hk hl hc hw;refine aeS.aP ?_;simp only[aO,am,aX,Nat.reduceAdd,Nd.ak];simp only[am,Nd.ak,e2];refine cl (Xk Z b D l s lat p n (by omega) hs hg hb iY hc hw) ?_;have ha:=@GV s lat n;simp only[am,Nd.fl]
  by_cases AS:n.kind=1\/n.kind=7
  .have e:fX s lat n=kP s lat n:=by rw[Uu,aI AS,eM]
   have mg:(decide (n.kind=1)=aa)\/(decide (n.kind=1)=aq/\decide (n.kind=7)=aa):=by
    by_cases h:n.kind=1
    .exact .inl (aB h)
    .exact .inr ⟨az h,aB (by simpa [h] using AS)⟩
   rcases mg with e1 | ⟨e1,e7⟩
   case' inl=>simp only[am,e1]
   case' inr=>simp only[am,Nd.fl,e1,e7]
   all_goals exact aN rfl (ab.bc _) ⟨rfl,by rw[e]⟩
  have e:fX s lat n=kP s lat n++n.ae.flatMap (fX s lat):=by rw[Uu,aw AS]
  simp only[am,aD,Nd.fl,aD,az (λh=>AS (.inl h)),az (λh=>AS (.inr h))];have wq:=vX n;have uW:=Nd.so n;refine ct (n.ae.length) (λi (x:Unit)=>⟨[.any,.ptr (.out b2) 0,.ptr (.out b4) 0,.ptr (.au 0) 0,.any,.any,.any,.any,.any,.any,.any,.any,.any,.any,.any,.any,.any,.any,.sl .no 5 (n.ae.map Nd.enc),.int .i64 (n.ae.length:Nat),.int .i64 (i:Nat)]++aj 7 .any,[n.enc],dk Z b D (l++kP s lat n++(n.ae.take i).flatMap (fX s lat)) s lat p⟩) (λi x=>(True)) λF hF JF aW=>⟨?_,?_,?_⟩
  .exact en aW (()) (trivial)
  .rintro i x hi -;have hm:n.ae[i]∈n.ae:=dq _;have qI:=lx hm;have qJ:=gw hm;have hlen:=alu (s:=s) (lat:=lat) hi;simp only[hF,aj,am,ca hi];refine ix (fN (bN hi)) ?_;simp only[am,Nd.ak,e4];refine cl (ih n.ae[i] _ (by omega) (by simp only[bW];omega) (by omega) (by omega)) ?_;simp only[am,aK,bF hi,fP];refine db (()) hi ?_ ?_ ?_ ?_ ?_ ?_
   .exact cI (aW _ _) (trivial)
   all_goals simp[hF,aj,am,bd,bK,cp,V.lo,Ey hi,fP,Nd.bP]
  .rintro x -;simp only[hF,aj,am,aK,cy,aK,df];exact aN rfl (ab.bc _) ⟨rfl,by rw[e,fP]⟩
def Xx(Z:ab)(b D:Nat)(l:List aM)(s:aG)(lat p:Int)(n:Nd)(hs:s.ok)(hg:TZ Z)(hb:Z.box b=ah)(iY:lat<s.bt.length)(hl:l.length+n.cJ<=90000000)(hc:n.cJ<=100000)(hw:n.wt<=aJ) :
 d_ 58 [.ptr (.out b) 0,.agg n.enc] (dk Z b D l s lat p) (.bz []) (dk Z b D (l++fX s lat n) s lat p):=by
 have fresh:∀{x:Nat} {dJ:ab},(dk dJ b D l s lat p).box x=ah->x≠b:=λ{x dJ} h=>by rintro rfl;rw[Ju] at h;simp at h
 refine ah3.aP ?_;simp only[aO,am,aX,Nat.reduceAdd];intro b2 ep;have n2:=fresh ep;rw[BX n2] at ep;simp only[am,Nd.ak];rw[Yt n2];intro b4 xC;have n4:=fresh xC;rw[BX n4] at xC;have Ve:b4≠b2:=by rintro rfl;simp[ab.set] at xC
 have avh : Z.box b4=none:=by simpa [ab.set,Ve] using xC
 simp only[am,Nd.ak];rw[Yt n4];have A0:TZ ((Z.set b2 [V.ptr (Pl.out b) 0]).set b4 [V.fn (Fn.func 117) [] [V.ptr (Pl.out b2) 0,V.ptr (Pl.out b4) 0]]):=hg;refine cl (ass _ b D b2 b4 s lat p hs A0 (by rw[vq n4.symm,vq n2.symm];exact hb) iY n2 n4 (by rw[vq Ve.symm,ke]) ke n.wt n l (b7 _) hl hc hw) ?_;simp only[am];exact aN rfl (ab.DQ (Ys n2 ep) (Ys n4 xC)) ⟨rfl,rfl⟩
def ah5:aR prog 60 (sq [rg 0 [ox 3 5 1],sq [rg 11 [fo 0 3,nB .eql 1],ci 13 (rg 14 [om 0,fo 2 3,fo 1 3,oc 56 [.s 14,.s 16,.s 18,.c (.int .i64 2)]])],sq [rg 20 [fo 0 3,nB .neq 10],ci 22 .ret],rg 4 [oz 6],sq [rg 23 [fo 4 3,nL,oi 0],lp 25 0 (sq [rg 28 [oA 5 24 26,nl 5,oZ 6 [0,0,1,7,10],o2 5 6],dg 30 [mk 0,nf 0,om 4,fo 2 6,oC 112 [33,35],nB .geq 0,of 1 6,mM [0],no,oc 59 [.s 32,.s 37,.c (.int .i64 4),.s 39]],rg 41 [om 4,fo 2 6,n1 1,na 1 41,o1 4],rg 46 [fo 4 6,nL,oi 0],lp 48 2 (sq [rg 51 [oA 5 47 49,nl 5,oZ 8 [0,0,1,7,10],o2 5 8],rg 53 [om 0,ol 5 8,oC 118 [53,54]]]) 56]) 57],sq [rg 58 [fo 3 3,nL,oi 0],lp 60 4 (sq [rg 63 [oA 2 59 61,nl 2,oZ 10 [1,0],o2 2 10],rg 65 [om 0,fo 0 10,fo 1 10,oc 56 [.s 65,.s 67,.s 69,.c (.int .i64 2)]]]) 71],dg 72 [mk 0,nf 0,fo 4 3,nL,nB .gtr 16,mk 0,nF 4,oc 59 [.s 74,.s 78,.c (.int .i64 7),.s 82]]]) [] 84:=aS func60
def arU{x:List UInt8}:dh (l++[x])=dh l++[[.aH x]]:=by simp[dh]
def tg{l:List aF}(h:j<l.length):(l.map aF.enc)[((j:Nat):Int).toNat]?=U l[j].enc:=by simp[h]
def XH(Z:ab)(b D:Nat)(l:List aM)(s:aG)(lat p:Int)(n:Nd)(hs:s.ok)(hg:TZ Z)(hb:Z.box b=ah)(iY:lat<s.bt.length)(hl:l.length<=30000000)(hc:n.cJ<=100000)(hw:n.wt<=aJ) :
 d_ 60 [.ptr (.out b) 0,.agg n.enc] (dk Z b D l s lat p) (.bz []) (dk Z b D (l++qh s lat p n) s lat p):=by
 refine ah5.aP ?_;simp only[aO,qo,Nat.reduceAdd]
 by_cases h1:n.kind=1
 .simp only[am,Nd.fl,aB h1];refine cl (F' Z b D l s lat p n.pos 2 n.ar (by omega) hs) ?_;simp only[am,Nd.fl,az (show ¬n.kind=10 by omega)];exact aN rfl (ab.bc _) ⟨rfl,by rw[qh,aI h1]⟩
 simp only[am,Nd.fl,az h1]
 by_cases ec:n.kind=10
 case neg =>
  simp only[am,az ec];exact aN rfl (ab.bc _) ⟨rfl,by rw[qh,aw h1,aw ec,eM]⟩
 simp only[am,aD,Nd.fl,aD,aB ec];have A':qh s lat p n=pK s lat n.ae n.ae.length++mw s lat n.al++(if 16<n.ae.length then [⟨7,p⟩] else []):=by rw[qh,aw h1,aI ec]
 have wq:=vX n;have uW:=Cv n;have ey:∀k∈n.ae,k.ae.length<=100000:=λk hk=>by have:=vX k;have:=lx hk;omega
 have l_:∀{i:Nat},i<=n.ae.length->(pK s lat n.ae i).length<=100000:=λ{i} hi=>by
  have:=KY (s:=s) (lat:=lat) hi
  have:=Kr n.ae i
  have:=Nd.so n
  omega
 refine ct (n.ae.length) (λi (x:Tk × ab)=>⟨[.ptr (.out b) 0,.any,.any,.ptr (.au 0) 0,.sl x.1 1 (dh ((n.ae.take i).map Nd.ar)),.any,.any,.any,.any,.any,.any,.any,.any,.any,.any,.any,.any,.any,.any,.any,.any,.any,.any,.any,.sl .no 5 (n.ae.map Nd.enc),.int .i64 (n.ae.length:Nat),.int .i64 (i:Nat)]++aj 57 .any,[n.enc],dk x.2 b D (l++pK s lat n.ae i) s lat p⟩) (λi x=>(Ah Z x.2 D x.1 i)) λF hF JF aW=>⟨?_,?_,?_⟩
 .refine en aW ((.a9,Z)) (Ah.nil) ?_ ?_ ?_
  all_goals simp[hF,aj,am,bd,pK,dh]
 .rintro i ⟨tk,bR⟩ hi hA;simp only at hA;have hm:n.ae[i]∈n.ae:=dq _;have qI:=lx hm;have qJ:=gw hm;have qF:=ey _ hm;have hL:=l_ (Ec hi);have HK:TZ bR:=hA.sub.2.2 _ _ hg;have eE:bR.box b=none:=by rw[hA.box];exact hb
  have wA:((n.ae.take i).map Nd.ar).length=i:=by simp;omega
  have zg:n.ae.getD i gS=n.ae[i]:=jS hi;simp only[hF,aj,am,ca hi];refine ix (fN (bN hi)) ?_;simp only[am,Nd.ak,Nd.fl];refine bA.intro (cF.cY (as' := [.sl .no 1 (dh ((n.ae.take i).map Nd.ar)),.aH n.ae[i].ar]) (xw ((n.ae.take i).map Nd.ar) n.ae[i].ar _ (by omega)) ⟨dr.no,dr.rfl,trivial⟩ br.rfl) ?_;simp only[am,Nd.fl,Iv];have ed:vZ n.ae i=if (dt ((n.ae.take i).map Nd.ar) n.ae[i].ar).isSome then [⟨4,n.ae[i].pos⟩] else []:=by rw[vZ,zg]
  have Ty:(vZ n.ae i).length<=1:=by rw[ed];split<;>simp
  refine bA.intro (yn bR b D (l++pK s lat n.ae i) s lat p 4 n.ae[i].pos _ (by simp only[bW];omega)) ?_;rw[<-ed];simp only[am,Nd.fl];refine Ah.app (by rw[iH,wA];exact hA) (by simp[iH,aJ];omega) λfK gX CO=>?_
  have CO:Ah Z gX D fK (i+1):=by rw[bW,iH,wA] at CO;exact CO
  have A0:TZ gX:=CO.sub.2.2 _ _ hg;have ep:gX.box b=none:=by rw[CO.box];exact hb
  simp only[am,aD,Nd.fl,aD];refine ct (n.ae[i].ae.length) (λj (y:Unit)=>⟨[.ptr (.out b) 0,.any,.any,.ptr (.au 0) 0,.sl fK 1 (dh ((n.ae.take i).map Nd.ar)++[[.aH n.ae[i].ar]]),.any,.any,.any,.any,.any,.any,.any,.any,.any,.any,.any,.any,.any,.any,.any,.any,.any,.any,.any,.sl .no 5 (n.ae.map Nd.enc),.int .i64 (n.ae.length:Nat),.int .i64 (i:Nat),.any,.any,.any,.any,.any,.any,.any,.any,.any,.any,.any,.any,.any,.any,.any,.any,.any,.any,.any,.any,.sl .no 5 (n.ae[i].ae.map Nd.enc),.int .i64 (n.ae[i].ae.length:Nat),.int .i64 (j:Nat)]++aj 34 .any,[n.enc,n.ae[i].enc],dk gX b D (l++pK s lat n.ae i++vZ n.ae i++(n.ae[i].ae.take j).flatMap (kP s lat)) s lat p⟩) (λj y=>(True)) λF2 bT mE cX=>⟨?_,?_,?_⟩
  .refine en cX (()) (trivial) ?_ ?_ ?_
   all_goals simp[bT,aj,am,bd]
  .rintro j y hj -;have sK:n.ae[i].ae[j]∈n.ae[i].ae:=dq _;have L_:=lx sK;have Ma:=gw sK;have Hw:((n.ae[i].ae.take j).flatMap (kP s lat)).length<=100000:=by
    have:=v7 (f:=kP s lat) (m:=1) (l:=n.ae[i].ae.take j) λ_ _=>GV
    rw[qw,iu] at this;omega
   simp only[bT,aj,am,ca hj];refine ix (fN (bN hj)) ?_;simp only[am,Nat.reduceAdd,Nd.ak];refine cl (Xk gX b D _ s lat p n.ae[i].ae[j] (by simp only[bW];omega) hs A0 ep iY (by omega) (by omega)) ?_;simp only[am,aK,bF hj];refine db (()) hj ?_ ?_ ?_ ?_ ?_ ?_
   .exact cI (cX _ _) (trivial)
   all_goals simp[bT,aj,am,bd,bK,cp,V.lo,Ey hj,fP,Nd.bP]
  .rintro y -;simp only[bT,aj,am,aK,cy,Nat.reduceEqDiff,aK,reduceCtorEq,Nd.fl,aD,df,bF hi];have ef:pK s lat n.ae (i+1)=pK s lat n.ae i++(vZ n.ae i++n.ae[i].ae.flatMap (kP s lat)):=by rw[Sp,EA,zg]
   have et:(n.ae.take (i+1)).map Nd.ar=(n.ae.take i).map Nd.ar++[n.ae[i].ar]:=by rw[jg hi,jf];rfl
   refine db ((fK,gX)) hi ?_ ?_ ?_ ?_ ?_ ?_
   .exact cI (aW _ _) (CO)
   all_goals simp[hF,aj,am,bd,bK,cp,V.lo,ef,et,arU,fP,Nd.bP]
 .rintro⟨tk,bR⟩ hA;simp only at hA;have hL:=l_ (b7 _);simp only[hF,aj,am,aK,cy,aK,Nd.fl,aD];refine ct (n.al.length) (λj (y:Unit)=>⟨[.ptr (.out b) 0,.any,.any,.ptr (.au 0) 0,.any,.any,.any,.any,.any,.any,.any,.any,.any,.any,.any,.any,.any,.any,.any,.any,.any,.any,.any,.any,.any,.any,.any,.any,.any,.any,.any,.any,.any,.any,.any,.any,.any,.any,.any,.any,.any,.any,.any,.any,.any,.any,.any,.any,.any,.any,.any,.any,.any,.any,.any,.any,.any,.any,.any,.sl .no 2 (n.al.map aF.enc),.int .i64 (n.al.length:Nat),.int .i64 (j:Nat)]++aj 22 .any,[n.enc],dk bR b D (l++pK s lat n.ae n.ae.length++mw s lat (n.al.take j)) s lat p⟩) (λj y=>(True)) λF3 kp P4 sE=>⟨?_,?_,?_⟩
  .refine en sE (()) (trivial) ?_ ?_ ?_
   all_goals simp[kp,aj,am,bd,mw]
  .rintro j y hk -;have Te:=@I_ s lat (n.al.take j);rw[iu] at Te;simp only[kp,aj,am,ca hk];refine ix (tg hk) ?_;simp only[am,j6,aF.ak];refine cl (F' bR b D _ s lat p n.al[j].pos 2 n.al[j].ar (by simp only[bW];omega) hs) ?_;simp only[am,aK,bF hk];have ef:mw s lat (n.al.take (j+1))=mw s lat (n.al.take j)++fE s lat n.al[j].ar n.al[j].pos 2:=by rw[mw,Ey hk];rfl
   refine db (()) hk ?_ ?_ ?_ ?_ ?_ ?_
   .exact cI (sE _ _) (trivial)
   all_goals simp[kp,aj,am,bd,bK,cp,V.lo,ef,fP,Nd.bP]
  .rintro y -;have Te:=@I_ s lat n.al;simp only[kp,aj,am,aK,cy,aK,j6,Nd.fl,aD,df];have bound:(l++pK s lat n.ae n.ae.length++mw s lat n.al).length<=100000000:=by simp only[bW];omega
   by_cases uO:16<n.ae.length
   .rw[aB (show(16:Int)<(n.ae.length:Nat) by omega)];refine bA.intro (Gb bR b D _ s lat p 7 p bound) ?_;simp only[am];exact aN rfl (Yr hA.sub) ⟨rfl,by rw[A',aI uO];simp only[fP]⟩
   .rw[az (show ¬(16:Int)<(n.ae.length:Nat) by omega)];refine bA.intro (BR bR b D _ s lat p 7 p bound) ?_;simp only[am];exact aN rfl (Yr hA.sub) ⟨rfl,by rw[A',aw uO,eM,fP]⟩
def M_(yt:Int)(l:List aA)(fin:Int)(Z:ab)(at_ D:Nat)(out:List Nd):St :=
 ⟨[.int .i64 yt,.sl .no 5 (cm l),.int .i64 (at_:Nat),.int .i64 fin]++aj 4 .any++[.any,.ptr (.au 0) 0,.sl (.tk D) 5 (out.map Nd.enc)]++aj 24 .any,[Dw],Z.ba D out.length⟩
def XB(yt:Int)(one:List aA->Int->Int->bD)(y9:ti one)(l:List aA)(fin:Int)(Z:ab)(hb:l.length+1<=aJ)
 (fG:∀(a:Nat),a<=l.length->∀(Z:ab),aT 189 [.int .i64 yt,.sl .no 5 (cm l),.int .i64 (a:Nat),.int .i64 fin] Z (.agg (one l a fin).enc)) :
 aT 188 [.int .i64 yt,.sl .no 5 (cm l),.int .i64 0,.int .i64 fin] Z (.bz [.sl .no 5 ((dE (λi=>one l i fin) l (l.length+1) 0 []).1.map Nd.enc),.agg (dE (λi=>one l i fin) l (l.length+1) 0 []).2.enc]):=by
 generalize hR:dE (λi=>one l i fin) l (l.length+1) 0 []=R;refine Sz.aP ?_;simp only[aO,am,aX,Nat.reduceAdd]
 let I:{p:Nat × Nat × Nat × List Nd // Z.aY p.2.2.1=ah/\dE (λi=>one l i fin) l p.1 (p.2.1:Nat) p.2.2.2=R/\p.2.2.2.length<=p.2.1/\p.2.1<=l.length/\l.length+1<=p.2.1+p.1}->St:=λp=>M_ yt l fin Z p.1.2.1 p.1.2.2.1 p.1.2.2.2
 refine dP I (λp=>p.1.1) ?_ ?_
 .refine a7.s_ 0 λD a_=>⟨⟨(l.length+1,0,D,[]),a_,hR,by simp,by simp,by simp⟩,?_,rfl,rfl⟩
  simp[I,M_,aj,jG]
 .rintro⟨⟨m,at_,D,out⟩,a_,hR,h1,h2,h3⟩;simp only at a_ hR h1 h2 h3;have hm:∃k,m=k+1:=⟨m - 1,by omega⟩;obtain⟨m,rfl⟩:=hm;simp only[I,M_,aj,am,Dw];refine(fG at_ h2 _).mono ?_;rintro v σ' ⟨rfl,rfl⟩;simp only[dE] at hR;have hK:=y9 l at_ fin;generalize hg:one l at_ fin=g at *;simp only[am,Nat.reduceAdd,bD.enc,Nat.reduceAdd];cases bZ:g.aQ
  .rw[bZ] at hR;simp only[am,Nat.reduceAdd];have hK:=hK bZ;refine fe (by simp;omega) (by simp[eR]) ?_;simp only[am,aD,eJ];refine(gP l g.next 44 _).mono ?_;rintro v σ' ⟨rfl,rfl⟩;cases l6:bf l g.next 44
   .simp only[am,Nat.reduceAdd];refine aN rfl (gV a_) ⟨?_,rfl⟩;rw[l6] at hR;simp only[dm,ch] at hR;simp[V.erase,aZ,<-hR,bZ,Nd.cS]
   .have an:=o5 l6;simp only[aJ] at hb;obtain⟨b,cn⟩:=vB an.1;simp only[am];rw[wrap_i64];rw[l6] at hR;simp only[dm,ch,cH] at hR;refine a7.lT ⟨(m,b+1,D,out++[g.node]),a_,?_,by simp;omega,by simp only;omega,by simp only;omega⟩ (by simp) ?_ ?_ ?_ rfl rfl
    .rw[<-hR];congr 1;simp only;omega
    .simp[am,Nd.cS];omega
    .simp[am]
    .simp[br.rfl]
  .rw[bZ] at hR;simp only[am,Nat.reduceAdd];refine aN rfl (gV a_) ⟨?_,rfl⟩;simp[V.erase,aZ,<-hR,bZ]
def Pv(yt:Int)(one:List aA->Int->Int->bD)(y9:ti one)(t:aA)(empty:Bool)(Z:ab)(hb:t.ae.length+1<=aJ)
 (fG:∀(a:Nat),a<=t.ae.length->∀(Z:ab),aT 189 [.int .i64 yt,.sl .no 5 (cm t.ae),.int .i64 (a:Nat),.int .i64 t.fin] Z (.agg (one t.ae a t.fin).enc)) :
 aT 185 [.int .i64 yt,.agg t.enc,.bool empty] Z (.bz [.sl .no 5 ((wholeAt one t empty).1.map Nd.enc),.agg (wholeAt one t empty).2.enc]):=by
 refine Sx.aP ?_;simp only[aO,am,aX,am,cS,Nat.reduceAdd];have main:∀(bh:¬(empty=aa/\t.ae.length=0)),wholeAt one t empty=if (dE (λi=>one t.ae i t.fin) t.ae (t.ae.length+1) 0 []).2.aQ=aq/\(dE (λi=>one t.ae i t.fin) t.ae (t.ae.length+1) 0 []).2.next<t.ae.length then([],dG t.ae (dE (λi=>one t.ae i t.fin) t.ae (t.ae.length+1) 0 []).2.next t.fin) else(dE (λi=>one t.ae i t.fin) t.ae (t.ae.length+1) 0 []):=λbh=>by
  unfold wholeAt;rw[aw bh]
 by_cases hc:empty=aa/\t.ae.length=0
 .obtain⟨rfl,hk⟩:=hc;simp only[am,Nat.reduceAdd,dK,bL,dK,hk,mW,bL];refine aN rfl (ab.bc _) ⟨?_,rfl⟩;simp[V.erase,aZ,wholeAt,hk,bD.enc,Nd.zero,Nd.kind,Nd.pos,Nd.ar,Nd.al,Nd.ae]
 .have main:=main hc;cases empty
  case' true =>
   have hk:¬((t.ae.length:Int)=0):=by simp at hc ⊢;exact hc
   simp only[am,dK,c9,dK,hk,c9]
  case' false =>
   simp only[am]
  all_goals
   refine cl (XB yt one y9 t.ae t.fin Z hb fG) ?_;generalize (dE (λi=>one t.ae i t.fin) t.ae (t.ae.length+1) 0 [])=R at main ⊢;simp only[am,Nat.reduceAdd,bD.enc,Nat.reduceAdd];cases bZ:R.2.aQ
   .simp only[am,dK]
    by_cases hn:R.2.next<t.ae.length
    .simp only[am,bL,hn,bL];refine cl (lM t.ae R.2.next t.fin Z) ?_;simp only[am,Nat.reduceAdd,bD.enc];refine aC ?_;simp[V.erase,aZ,main,bZ,hn]
    .simp only[am,Nat.reduceAdd,c9,hn,c9];refine aC ?_;simp[V.erase,aZ,main,bZ,hn]
   .simp only[am,Nat.reduceAdd];refine aC ?_;simp[V.erase,aZ,main,bZ]
end Go.Proofs.Tryz
