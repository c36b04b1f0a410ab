/-
  Part 7 of the proof of StackFramesUptoCardSaid: a logic over the model, the forms of the functions that the law reaches, and what they compute.
-/
import Derived.Test.YtnpggmhoandloaaGreatDoorProg
import Derived.Test.YtnpggmhoandloaaGreatDoorFrames6
set_option linter.unusedVariables false
set_option linter.unusedSimpArgs false
set_option linter.defProp false
set_option linter.unusedSectionVars false
set_option maxRecDepth 4000
set_option maxHeartbeats 4000000
open Option renaming some->aa,none->ag
open Bool renaming true->ab,false->ak
open List renaming replicate->ar,range->bX,getD->ij,zipWith->l8
open Eq renaming mpr->eU
open Ne renaming symm->fF
namespace Go.Proofs.Tryz
open Go.Am
def agU:aU prog 182 (sq [rg 2 [ox 1 5 0,oz 2],sq [rg 3 [fo 0 1],.block 0 (sq [rg 6 [oB .eql 4 1,o1 5],cd 5 (sq [rg 7 [ol 5 1,oC 227 [7],o1 2],.ret]) (sq [rg 10 [oB .eql 4 7,o1 9],cd 9 (sq [rg 11 [ol 5 1,oC 228 [11],gA,fo 4 1,nL,nB .eql 1,gZ,gA,fo 4 1,nI 5 0,nl 5,oC 229 [23],gZ,o1 2],.ret]) (sq [sq [rg 27 [oB .eql 4 8,o1 26],cd 26 .skip (rg 28 [oB .eql 4 9,o1 26])],cr 26 29 [ol 5 1,oC 228 [29],gA,fo 4 1,nL,nB .gtr 0,gZ,gA,fo 4 1,oc 230 [.s 39,.c (.fn (.func 182) [] [])],gZ,o1 2]])])])],rg 2 [oz 2],.ret]) [.tmp 2] 42:=aV func182
def ahn:aU prog 225 (sq [rg 2 [ox 1 5 0,oz 2],sq [rg 3 [fo 0 1,nB .eql 10],cr 5 6 [fo 2 1,oq (.pA .eql (.s 7) (.c (.aF []))),gA,fo 3 1,nL,nB .leq 1,gZ,gA,fo 3 1,oC 273 [17],gZ,gA,fo 4 1,oc 230 [.s 22,.c (.fn (.func 274) [] [])],gZ,o1 2]],rg 25 [fo 0 1,nB .eql 1,gA,ol 5 1,oC 182 [29],gZ,o1 2],.ret]) [.tmp 2] 32:=aV func225
def ahp:aU prog 227 (sq [rg 2 [ox 1 5 0,oz 2],rg 3 [fo 2 1,oC 161 [4],gA,fo 3 1,nL,fo 4 1,nL,nb .add 9,nB .eql 0,gZ,o1 2],.ret]) [.tmp 2] 16:=aV func227
def ahq:aU prog 228 (sq [rg 2 [ox 1 5 0,oz 2],rg 3 [fo 2 1,oq (.pA .eql (.s 4) (.c (.aF []))),gA,fo 3 1,nL,nB .eql 0,gZ,o1 2],.ret]) [.tmp 2] 12:=aV func228
def ahr:aU prog 229 (sq [rg 2 [ox 1 5 0,oz 2],sq [rg 3 [fo 0 1],.block 0 (sq [rg 6 [oB .eql 4 2,o1 5],cd 5 (sq [rg 7 [ol 5 1,oC 227 [7],o1 2],.ret]) (sq [rg 10 [oB .eql 4 3,o1 9],cd 9 (sq [rg 11 [fo 2 1,oq (.pA .eql (.s 12) (.c (.aF []))),gA,fo 3 1,oC 273 [16],gZ,gA,fo 4 1,nL,nB .eql 0,gZ,o1 2],.ret]) (sq [rg 26 [oB .eql 4 4,o1 25],cd 25 (sq [rg 27 [ol 5 1,oC 228 [27],gA,fo 4 1,nL,nB .gtr 0,gZ,gA,fo 4 1,oc 230 [.s 37,.c (.fn (.func 229) [] [])],gZ,o1 2],.ret]) (sq [rg 41 [oB .eql 4 5,o1 40],cr 40 42 [ol 5 1,oC 228 [42],gA,fo 4 1,oc 230 [.s 46,.c (.fn (.func 275) [] [])],gZ,o1 2]])])])])],rg 2 [oz 2],.ret]) [.tmp 2] 49:=aV func229
def aht:aU prog 230 (sq [rg 4 [oz 2],sq [rg 7 [om 0,nL,oi 0],lp 8 0 (sq [rg 11 [oA 5 7 9,nl 5,oZ 6 [0,0,1,7,10],o2 5 6],rg 13 [om 1,ol 5 6,oq (.iX (.s 13) [(.s 14)]),nn],cr 16 4 [oz 2]]) 17],rg 4 [oq (.mv (.c (.bool ab)))],.ret]) [.tmp 4] 18:=aV func230
def ah3:aU prog 273 (sq [rg 2 [oz 2],sq [rg 5 [om 0,nL,oi 0],lp 6 0 (sq [rg 9 [oA 2 5 7,nl 2,oZ 4 [1,0],o2 2 4],rg 11 [fo 0 4,oC 161 [12],nn],cr 14 2 [oz 2]]) 15],rg 2 [oq (.mv (.c (.bool ab)))],.ret]) [.tmp 2] 16:=aV func273
def ah4:aU prog 274 (sq [rg 2 [ox 1 5 0,oz 2],rg 3 [fo 0 1,nB .eql 11,gA,fo 2 1,oC 161 [8],gZ,gA,fo 3 1,nL,nB .eql 0,gZ,gA,fo 4 1,nL,nB .eql 1,gZ,gA,fo 4 1,nI 5 0,nl 5,oC 296 [27],gZ,o1 2],.ret]) [.tmp 2] 30:=aV func274
def ah5:aU prog 275 (sq [rg 2 [ox 1 5 0,oz 2],rg 3 [fo 0 1,nB .eql 6,gA,fo 2 1,oC 161 [8],gZ,gA,fo 3 1,oC 273 [13],gZ,gA,fo 4 1,nL,nB .eql 0,gZ,o1 2],.ret]) [.tmp 2] 22:=aV func275
def ain:aU prog 296 (sq [rg 2 [ox 1 5 0,oz 2],rg 3 [fo 0 1,nB .eql 1,gB,fo 0 1,nB .eql 7,gZ,gA,ol 5 1,oC 182 [12],gZ,o1 2],.ret]) [.tmp 2] 15:=aV func296
variable{i:Nat}{U:Type}
def Zk{l:List U}{f:U->Bool}(h:i<l.length):(l.take (i+1)).all f=((l.take i).all f&&f l[i]):=by
 rw[Bw (cS h),JR];simp only[ve,P4,wH]
def QJ{l:List U}{f:U->Bool}(h:i<l.length)(hf:f l[i]=ak):l.all f=false:=by
 rw[Gi];exact⟨l[i],fg h,by simp[hf]⟩
def MS(l:List aB)(D:af)(i:Nat):St :=
 ⟨[.sl .no 2 (l.map aB.enc)]++ar 4 .any++[.sl .no 2 (l.map aB.enc),.int .i64 l.length,.int .i64 (i:Nat)]++ar 8 .any,[],D⟩
def OD(l:List aB)(D:af)(hb:l.length<=aK):a7 273 [.sl .no 2 (l.map aB.enc)] D (.bool (iR l)):=by
 simp only[aK] at hb;refine ah3.aT ?_;simp only[aS,am,aZ,Nat.reduceAdd];refine gn (λp:{i:Nat // i<=l.length/\(l.take i).all (λw=>dx w.aq)=ab}=>MS l D p.1) (λp=>l.length - p.1) ?_ ?_
 .refine bm.enter ⟨0,by simp,by simp⟩ ?_ cC.rfl bK.rfl;simp[MS,ar,am]
 .rintro⟨i,hi,ha⟩;simp only[MS,ar,am];refine eR ?_ ?_
  .intro aC;have aC:i<l.length:=by simpa using aC
   simp only[am];refine ix (Dx (cS aC)) ?_;simp only[am,Nat.reduceAdd,aB.enc];refine cl (uI l[i].aq D) ?_;cases hg:dx l[i].aq
   .simp only[am];refine aL rfl (af.bg _) ⟨?_,rfl⟩;rw[show iR l=ak from QJ (f:=λ(w:aB)=>dx w.aq) aC hg];rfl
   .simp only[am];rw[wrap_i64];exact bm.ql ⟨i+1,aC,by rw[Zk aC,ha,hg];rfl⟩ (by simp;omega) (by simp[am]) (by simp[am]) bK.rfl rfl rfl
  .intro aC;have aC:i=l.length:=by simp at aC;omega
   subst aC;rw[fm] at ha;simp only[am];refine aH ?_;simp[V.erase,iR,ha]
def MT(g:FuncId)(l:List Nd)(D:af)(i:Nat):St :=
 ⟨[.sl .no 5 (l.map Nd.enc),.fn (.func g) [] []]++ar 5 .any++[.sl .no 5 (l.map Nd.enc),.int .i64 l.length,.int .i64 (i:Nat)]++ar 8 .any,[],D⟩
def GG{g:FuncId}{f:Nd->Bool}(l:List Nd)(D:af)(hb:l.length<=aK)(h:∀n∈l,a7 g [.agg n.enc] D (.bool (f n))):a7 230 [.sl .no 5 (l.map Nd.enc),.fn (.func g) [] []] D (.bool (l.all f)):=by
 simp only[aK] at hb;refine aht.aT ?_;simp only[aS,am,aZ,Nat.reduceAdd];refine gn (λp:{i:Nat // i<=l.length/\(l.take i).all f=ab}=>MT g l D p.1) (λp=>l.length - p.1) ?_ ?_
 .refine bm.enter ⟨0,by simp,by simp⟩ ?_ cC.rfl bK.rfl;simp[MT,ar,am]
 .rintro⟨i,hi,ha⟩;simp only[MT,ar,am];refine eR ?_ ?_
  .intro aC;have aC:i<l.length:=by simpa using aC
   simp only[am];refine ix (o_ (cS aC)) ?_;simp only[am,Nd.au];refine cl (h l[i] (fg aC)) ?_;cases hg:f l[i]
   .simp only[am];refine aH ?_;simp[V.erase,QJ aC hg]
   .simp only[am];rw[wrap_i64];exact bm.ql ⟨i+1,aC,by rw[Zk aC,ha,hg];rfl⟩ (by simp;omega) (by simp[am]) (by simp[am]) bK.rfl rfl rfl
  .intro aC;have aC:i=l.length:=by simp at aC;omega
   subst aC;rw[fm] at ha;simp only[am];refine aH ?_;simp[V.erase,ha]
def u7:=ah @am <| ah @aZ <| ah @Nd.au @Nd.fl
def ji:=ah @am <| ah @jm <| ah @cV <| ah @dt <| ah @bL <| ah @c7 <| ah @al.au <| ah @Nd.au <| ah @aB.au <| ah @br.au @Nd.fl
def U_(n:Nd)(D:af)(hb:n.an.length+n.aj.length<=aK):a7 227 [.agg n.enc] D (.bool n.lu):=by
 simp only[aK] at hb;refine ahp.aT ?_;simp only[aS,u7,Nat.reduceAdd];refine cl (uI n.aq D) ?_;simp only[am]
 repeat' (first
  | (refine jH (λh=>?_) (λh=>?_)<;>simp only[am,h,aR,Nd.fl,wrap_i64 (x:=(n.an.length:Int)+n.aj.length) (by omega) (by omega)])
  | (refine eR (λh=>?_) (λh=>?_)<;>simp only[ji,h,Nat.reduceAdd,Nat.reduceEqDiff,aR,wrap_i64 (x:=(n.an.length:Int)+n.aj.length) (by omega) (by omega)])
  | (refine jL (λh=>?_) (λh=>?_)<;>simp only[ji,h,Nat.reduceAdd,Nat.reduceEqDiff,aR,wrap_i64 (x:=(n.an.length:Int)+n.aj.length) (by omega) (by omega)])
 )
 all_goals refine aH ?_
 all_goals simp_all [V.erase,Nd.lu]
 all_goals (try omega)
def GV(n:Nd)(D:af):a7 228 [.agg n.enc] D (.bool n.lG):=by
 refine ahq.aT ?_;simp only[aS,u7,Nat.reduceAdd]
 repeat' (first
  | (refine jH (λh=>?_) (λh=>?_)<;>simp only[am,h,aR,Nd.fl])
  | (refine eR (λh=>?_) (λh=>?_)<;>simp only[ji,h,Nat.reduceAdd,Nat.reduceEqDiff,aR])
  | (refine jL (λh=>?_) (λh=>?_)<;>simp only[ji,h,Nat.reduceAdd,Nat.reduceEqDiff,aR])
 )
 all_goals refine aH ?_
 all_goals simp_all [V.erase,Nd.lG]
 all_goals (try omega)
def F'(n:Nd):n.an.length+n.aj.length+4<=n.wt:=by
 have h2:n.an.length<=fu n.an:=by
  unfold fu;generalize n.an=l;induction l with
  | nil=>simp
  | cons w ws ih=>simp only[ch,n7,dB];omega
 have h3:n.aj.length<=gg n.aj:=by
  rw[Gb];generalize n.aj=l;induction l with
  | nil=>simp
  | cons w ws ih=>simp only[ch,n7,dB];omega
 have h1:gg n.aj+fu n.an+4<=n.wt:=by cases n;simp only[Nd.wt,Nd.aj,Nd.an];omega
 omega
def aso(n:Nd)(D:af)(hw:n.wt<=aK):a7 275 [.agg n.enc] D (.bool n.qd):=by
 have hn:=F' n;refine ah5.aT ?_;simp only[aS,u7,Nat.reduceAdd]
 repeat' (first
  | (refine jH (λh=>?_) (λh=>?_)<;>simp only[am,h,aR,Nd.fl])
  | (refine eR (λh=>?_) (λh=>?_)<;>simp only[ji,h,Nat.reduceAdd,Nat.reduceEqDiff,aR])
  | (refine jL (λh=>?_) (λh=>?_)<;>simp only[ji,h,Nat.reduceAdd,Nat.reduceEqDiff,aR])
  | (refine(uI n.aq D).mono ?_;rintro v _ ⟨rfl,rfl⟩;simp only[am])
  | (refine(OD n.an _ (by omega)).mono ?_;rintro v _ ⟨rfl,rfl⟩;simp only[am])
 )
 all_goals refine aH ?_
 all_goals simp_all [V.erase,Nd.qd]
 all_goals (try omega)
def RP:∀(k:Nat) (n:Nd) (D:af),n.wt<=k->n.wt<=aK->a7 229 [.agg n.enc] D (.bool n.iY):=by
 intro k;induction k with
 | zero=>intro n D h _;cases n;simp only[Nd.wt] at h;omega
 | succ k AX =>
  intro n D hk hw;have hn:=F' n;have Md:∀m∈n.aj,m.wt+5<=n.wt:=λm hm=>by
   have h1:=JB hm;have h2:gg n.aj+4<=n.wt:=by cases n;simp only[Nd.wt,Nd.aj];omega
   omega
  have cK:a7 230 [.sl .no 5 (n.aj.map Nd.enc),.fn (.func 229) [] []] D (.bool (n.aj.all Nd.iY)) :=
   GG n.aj D (by omega) λm hm=>AX m D (by have:=Md m hm;omega) (by have:=Md m hm;omega)
  have ak7:a7 230 [.sl .no 5 (n.aj.map Nd.enc),.fn (.func 275) [] []] D (.bool (n.aj.all Nd.qd)) :=
   GG n.aj D (by omega) λm hm=>aso m D (by have:=Md m hm;omega)
  rw[Nd.Al];refine ahr.aT ?_;simp only[aS,u7,Nat.reduceAdd]
  by_cases k2:n.kind=2
  .simp only[am,Nd.au,aJ k2];refine cl (U_ n D (by omega)) ?_;simp only[am];refine aH ?_;simp[V.erase,k2]
  simp only[am,aI k2]
  by_cases k3:n.kind=3
  .simp only[am,Nd.fl,aJ k3]
   repeat' (first
    | (refine jH (λh=>?_) (λh=>?_)<;>simp only[am,h,aR,Nd.fl])
    | (refine eR (λh=>?_) (λh=>?_)<;>simp only[ji,h,Nat.reduceAdd,Nat.reduceEqDiff,aR])
    | (refine jL (λh=>?_) (λh=>?_)<;>simp only[ji,h,Nat.reduceAdd,Nat.reduceEqDiff,aR])
    | (refine(OD n.an _ (by omega)).mono ?_;rintro v _ ⟨rfl,rfl⟩;simp only[am])
   )
   all_goals refine aH ?_
   all_goals simp_all [V.erase]
   all_goals (try omega)
  simp only[am,aI k3]
  by_cases k4:n.kind=4
  .simp only[am,Nd.au,aJ k4];refine cl (GV n D) ?_;simp only[am]
   repeat' (first
    | (refine jH (λh=>?_) (λh=>?_)<;>simp only[am,h,aR,Nd.fl])
    | (refine eR (λh=>?_) (λh=>?_)<;>simp only[ji,h,Nat.reduceAdd,Nat.reduceEqDiff,aR])
    | (refine jL (λh=>?_) (λh=>?_)<;>simp only[ji,h,Nat.reduceAdd,Nat.reduceEqDiff,aR])
    | (refine cK.mono ?_;rintro v _ ⟨rfl,rfl⟩;simp only[am])
   )
   all_goals refine aH ?_
   all_goals simp_all [V.erase]
   all_goals (try omega)
  simp only[am,aI k4]
  by_cases k5:n.kind=5
  .simp only[am,Nd.au,aJ k5];refine cl (GV n D) ?_;simp only[am]
   repeat' (first
    | (refine jH (λh=>?_) (λh=>?_)<;>simp only[am,h,Nd.fl])
    | (refine eR (λh=>?_) (λh=>?_)<;>simp only[ji,h,Nat.reduceAdd,Nat.reduceEqDiff,aR])
    | (refine jL (λh=>?_) (λh=>?_)<;>simp only[ji,h,Nat.reduceAdd,Nat.reduceEqDiff,aR])
    | (refine ak7.mono ?_;rintro v _ ⟨rfl,rfl⟩;simp only[am])
   )
   all_goals refine aH ?_
   all_goals simp_all [V.erase]
   all_goals (try omega)
  simp only[am,aI k5];refine aH ?_;simp[V.erase,k2,k3,k4,k5]
def qE{n m:Nd}(hm:m∈n.aj):m.wt+5<=n.wt:=by
 have h1:=JB hm;have h2:gg n.aj+4<=n.wt:=by cases n;simp only[Nd.wt,Nd.aj];omega
 omega
def Fe:∀(k:Nat) (n:Nd) (D:af),n.wt<=k->n.wt<=aK->a7 182 [.agg n.enc] D (.bool n.fA):=by
 intro k;induction k with
 | zero=>intro n D h _;cases n;simp only[Nd.wt] at h;omega
 | succ k AX =>
  intro n D hk hw;have hn:=F' n;have cK:a7 230 [.sl .no 5 (n.aj.map Nd.enc),.fn (.func 182) [] []] D (.bool (n.aj.all Nd.fA)) :=
   GG n.aj D (by omega) λm hm=>AX m D (by have:=qE hm;omega) (by have:=qE hm;omega)
  rw[Nd.uC];refine agU.aT ?_;simp only[aS,u7,Nat.reduceAdd]
  by_cases k1:n.kind=1
  .simp only[am,Nd.au,aJ k1];refine cl (U_ n D (by omega)) ?_;simp only[am];refine aH ?_;simp[V.erase,k1]
  simp only[am,aI k1]
  by_cases k7:n.kind=7
  .simp only[am,Nd.au,aJ k7];refine cl (GV n D) ?_;simp only[am];cases fW:n.aj with
   | nil =>
    simp only[am,eM,sO,show decide ((0:Int)=1)=ak from rfl]
    repeat' (first
     | (refine jH (λh=>?_) (λh=>?_)<;>simp only[am,h,Nd.fl,fW,fh,eM,sO,show decide ((0:Int)=1)=ak from rfl])
     | (refine eR (λh=>?_) (λh=>?_)<;>simp only[ji,h,Nat.reduceAdd,Nat.reduceEqDiff,aR,fW,fh,eM,sO,show decide ((0:Int)=1)=ak from rfl])
     | (refine jL (λh=>?_) (λh=>?_)<;>simp only[ji,h,Nat.reduceAdd,Nat.reduceEqDiff,aR,fW,fh,eM,sO,show decide ((0:Int)=1)=ak from rfl])
    )
    all_goals refine aH ?_
    all_goals simp_all [V.erase]
    all_goals (try omega)
   | cons m ms =>
    have hc:a7 229 [.agg m.enc] D (.bool m.iY):=RP _ m D (bS _) (by have:=qE (n:=n) (m:=m) (by rw[fW];simp);omega)
    repeat' (first
     | (refine jH (λh=>?_) (λh=>?_)<;>simp only[am,h,aR,Nd.fl,fW])
     | (refine eR (λh=>?_) (λh=>?_)<;>simp only[ji,h,Nat.reduceAdd,Nat.reduceEqDiff,aR,fW])
     | (refine jL (λh=>?_) (λh=>?_)<;>simp only[ji,h,Nat.reduceAdd,Nat.reduceEqDiff,aR,fW])
     | (refine lM (c:=m.enc) (by simp) ?_;simp only[am,Nd.au])
     | (refine hc.mono ?_;rintro v _ ⟨rfl,rfl⟩;simp only[am])
    )
    all_goals refine aH ?_
    all_goals simp_all [V.erase,vV]
    all_goals (try omega)
  simp only[am,aI k7]
  by_cases k8:n.kind=8
  case' pos =>
   simp only[am,Nd.au,aJ k8]
  case' neg =>
   simp only[am,aI k8]
   by_cases k9:n.kind=9
   case' pos =>
    simp only[am,Nd.au,aJ k9]
   case' neg =>
    simp only[am,aI k9];refine aH ?_;simp[V.erase,k1,k7,k8,k9]
  all_goals
   refine cl (GV n D) ?_;simp only[am]
   repeat' (first
    | (refine jH (λh=>?_) (λh=>?_)<;>simp only[am,h,aR,Nd.fl])
    | (refine eR (λh=>?_) (λh=>?_)<;>simp only[ji,h,Nat.reduceAdd,Nat.reduceEqDiff,aR])
    | (refine jL (λh=>?_) (λh=>?_)<;>simp only[ji,h,Nat.reduceAdd,Nat.reduceEqDiff,aR])
    | (refine cK.mono ?_;rintro v _ ⟨rfl,rfl⟩;simp only[am])
   )
   all_goals refine aH ?_
   all_goals simp_all [V.erase]
   all_goals (try omega)
def aaT(n:Nd)(D:af)(hw:n.wt<=aK):a7 296 [.agg n.enc] D (.bool n.qo):=by
 refine ain.aT ?_;simp only[aS,u7,Nat.reduceAdd]
 repeat' (first
  | (refine jH (λh=>?_) (λh=>?_)<;>simp only[am,h,Nd.au,Nd.fl])
  | (refine eR (λh=>?_) (λh=>?_)<;>simp only[ji,h,Nat.reduceAdd,Nat.reduceEqDiff,aR])
  | (refine jL (λh=>?_) (λh=>?_)<;>simp only[ji,h,Nat.reduceAdd,Nat.reduceEqDiff,aR])
  | (refine(Fe _ n _ (bS _) hw).mono ?_;rintro v _ ⟨rfl,rfl⟩;simp only[am])
 )
 all_goals refine aH ?_
 all_goals simp_all [V.erase,Nd.qo]
 all_goals (try omega)
def afA(n:Nd)(D:af)(hw:n.wt<=aK):a7 274 [.agg n.enc] D (.bool n.me):=by
 refine ah4.aT ?_;simp only[aS,u7,Nat.reduceAdd];cases fW:n.aj with
 | nil =>
  repeat' (first
   | (refine jH (λh=>?_) (λh=>?_)<;>simp only[am,h,aR,Nd.fl,fW,fh,eM,sO,show decide ((0:Int)=1)=ak from rfl])
   | (refine eR (λh=>?_) (λh=>?_)<;>simp only[ji,h,Nat.reduceAdd,Nat.reduceEqDiff,aR,fW,fh,eM,sO,show decide ((0:Int)=1)=ak from rfl])
   | (refine jL (λh=>?_) (λh=>?_)<;>simp only[ji,h,Nat.reduceAdd,Nat.reduceEqDiff,aR,fW,fh,eM,sO,show decide ((0:Int)=1)=ak from rfl])
   | (refine(uI n.aq _).mono ?_;rintro v _ ⟨rfl,rfl⟩;simp only[am])
  )
  all_goals refine aH ?_
  all_goals simp_all [V.erase,Nd.me,vV]
  all_goals (try omega)
 | cons m ms =>
  have hc:a7 296 [.agg m.enc] D (.bool m.qo):=aaT m D (by have:=qE (n:=n) (m:=m) (by rw[fW];simp);omega)
  repeat' (first
   | (refine jH (λh=>?_) (λh=>?_)<;>simp only[am,h,aR,Nd.fl,fW])
   | (refine eR (λh=>?_) (λh=>?_)<;>simp only[ji,h,Nat.reduceAdd,Nat.reduceEqDiff,aR,fW])
   | (refine jL (λh=>?_) (λh=>?_)<;>simp only[ji,h,Nat.reduceAdd,Nat.reduceEqDiff,aR,fW])
   | (refine(uI n.aq _).mono ?_;rintro v _ ⟨rfl,rfl⟩;simp only[am])
   | (refine lM (c:=m.enc) (by simp) ?_;simp only[am,Nd.au])
   | (refine hc.mono ?_;rintro v _ ⟨rfl,rfl⟩;simp only[am])
  )
  all_goals refine aH ?_
  all_goals simp_all [V.erase,Nd.me,vV]
  all_goals (try omega)
def Xe(n:Nd)(D:af)(hw:n.wt<=aK):a7 225 [.agg n.enc] D (.bool n.jN):=by
 have hn:=F' n;have cK:a7 230 [.sl .no 5 (n.aj.map Nd.enc),.fn (.func 274) [] []] D (.bool (n.aj.all Nd.me)) :=
  GG n.aj D (by omega) λm hm=>afA m D (by have:=qE hm;omega)
 refine ahn.aT ?_;simp only[aS,u7,Nat.reduceAdd]
 by_cases A0:n.kind=10
 .simp only[am,Nd.fl,aJ A0]
  repeat' (first
   | (refine jH (λh=>?_) (λh=>?_)<;>simp only[am,h,aR,Nd.fl])
   | (refine eR (λh=>?_) (λh=>?_)<;>simp only[ji,h,Nat.reduceAdd,Nat.reduceEqDiff,aR])
   | (refine jL (λh=>?_) (λh=>?_)<;>simp only[ji,h,Nat.reduceAdd,Nat.reduceEqDiff,aR])
   | (refine(OD n.an _ (by omega)).mono ?_;rintro v _ ⟨rfl,rfl⟩;simp only[am])
   | (refine cK.mono ?_;rintro v _ ⟨rfl,rfl⟩;simp only[am])
  )
  all_goals refine aH ?_
  all_goals simp_all [V.erase,Nd.jN]
  all_goals (try omega)
 .simp only[am,Nd.fl,aI A0]
  repeat' (first
   | (refine jH (λh=>?_) (λh=>?_)<;>simp only[am,h,Nd.au])
   | (refine eR (λh=>?_) (λh=>?_)<;>simp only[ji,h,Nat.reduceAdd,Nat.reduceEqDiff,aR])
   | (refine jL (λh=>?_) (λh=>?_)<;>simp only[ji,h,Nat.reduceAdd,Nat.reduceEqDiff,aR])
   | (refine(Fe _ n _ (bS _) hw).mono ?_;rintro v _ ⟨rfl,rfl⟩;simp only[am])
  )
  all_goals refine aH ?_
  all_goals simp_all [V.erase,Nd.jN]
  all_goals (try omega)
def agW:aU prog 184 (sq [rg 0 [ox 2 2 0,ox 3 5 1,oR 4 Cd,oZ 5 [0,0]],rg 0 [oR 6 Cd],rg 13 [ol 2 2,ol 5 3,oC 232 [13,14],o1 12,oe 12 0,oe 12 1,ot 7 16,o1 8],sq [rg 18 [om 8,nn,gB,ol 2 2,oC 233 [21],nn,gZ,gB,ol 5 3,oC 229 [26],nn,gZ],ci 29 (sq [dg 30 [ol 8 6,of 1 3,mM [1],no,oG [0,0] [(0,1,.c (.int .i64 4)),(1,1,.s 32)],os 8 4 30,o2 2 5],.ret])],rg 34 [oW [2,0] [],oq (.gO 2 (.s 34)),o1 9],sq [rg 36 [fo 1 2,nL,oi 0],lp 38 0 (sq [rg 41 [om 39,oA 67 37 39,nl 67,oR 11 r7,ot 10 41,o2 67 11],dg 44 [om 10,om 9,ol 67 11,om 7,om 10,nA 5 47,nl 5,oC 234 [45,46,50],oP 8 1 6 44,os 1 52 51]]) 53],sq [rg 54 [mk 9,nF 0],ci 57 (sq [dg 58 [oY Cd [],mk 9,nf 1,mM [1],no,oG [0,0] [(0,1,.c (.int .i64 4)),(1,1,.s 62)],os 8 4 58,o2 2 5],.ret])],rg 64 [ol 8 6,oW [0,0] [],os 8 4 64,o2 2 5],.ret]) [.cell 4 ab 8,.cell 5 ab 2] 66:=aV func184 ⟨[35],[]⟩
def ahv:aU prog 232 (sq [rg 4 [ox 2 2 0,ox 3 5 1,oz 10,oz 2],sq [rg 6 [fo 0 2,nn],cr 8 9 [ol 5 3,n1 5,o1 4,oV 5 (.bool ab)]],dg 11 [fo 4 3,fo 0 3,nB .eql 4,gA,fo 4 3,nL,fo 1 2,nL,nb .eql 19,gZ,ot 4 12,o1 5],.ret]) [.tmp 4,.tmp 5] 25:=aV func232
def ahx:aU prog 234 (sq [rg 6 [ox 4 67 1,ox 5 5 2,oz 4],sq [dg 7 [of 0 5,mM [1],no,ol 67 4,oC 277 [9],nb .neq 8],cr 11 12 [om 0,fo 1 5,oC 278 [12,14],o1 6]],sq [rg 16 [fo 0 4],.block 0 (sq [rg 19 [oB .eql 17 2,o1 18],cd 18 (sq [rg 20 [om 0,fo 1 4,fo 3 5,oC 279 [20,22,24],o1 6],.ret]) (sq [rg 27 [oB .eql 17 3,o1 26],cr 26 28 [om 0,ol 67 4,ol 5 5,oC 280 [28,29,30],o1 6]])])],rg 32 [om 0,ol 67 4,ol 5 5,oC 281 [32,33,34],o1 6],.ret]) [.tmp 6] 36:=aV func234
def ah7:aU prog 277 (sq [rg 2 [ox 1 67 0,oi 0],sq [rg 3 [fo 0 1],.block 0 (sq [rg 6 [oB .eql 4 2,o1 5],cd 5 (sq [rg 2 [oi 3],.ret]) (sq [rg 8 [oB .eql 4 3,o1 7],cr 7 2 [oi 5]])])],rg 2 [oi 2],.ret]) [.tmp 2] 9:=aV func277
def ah8:aU prog 278 (sq [rg 4 [oz 4],sq [rg 5 [mk 0,nF 0,nn],ci 9 (rg 10 [om 0,om 0,om 1,ok 10,nf 0,od ag (.store 1 (.s 14) (.c (.bool ab))),ok 11,nf 1,os 1 16 12])],rg 4 [oz 4],.ret]) [.tmp 4] 17:=aV func278
def ah9:aU prog 279 (sq [rg 6 [oz 4],rg 7 [oz 4],sq [rg 11 [om 2,nL,oi 0],lp 12 0 (sq [rg 15 [oA 2 11 13,nl 2,oZ 9 [1,0],o2 2 9],rg 17 [om 1,fo 0 9,oC 173 [17,19],o1 10],sq [rg 21 [om 10,nB .lss 0],cr 22 23 [om 0,fo 1 9,oC 278 [23,25],o1 6]],rg 27 [om 7,om 10,oC 247 [27,28],o1 7]]) 30],rg 31 [om 7,o1 6],.ret]) [.tmp 6] 32:=aV func279
def ah':aU prog 280 (sq [rg 6 [ox 4 67 1,ox 5 5 2,oz 4],rg 7 [oz 4],sq [rg 11 [fo 4 5,nL,oi 0],lp 13 0 (sq [rg 16 [oA 5 12 14,nl 5,oZ 9 [0,0,1,7,10],o2 5 9],rg 18 [fo 1 4,fo 2 9,oC 173 [19,21],o1 10],sq [rg 23 [om 10,nB .lss 0],cr 24 25 [om 0,fo 1 9,oC 278 [25,27],o1 6]],dg 29 [om 7,of 2 4,mM [1],nl 65,om 10,om 0,fo 1 4,fo 3 9,oC 279 [33,35,37],oC 300 [31,32,38],nb .or 29,o1 7]]) 41],rg 42 [om 7,o1 6],.ret]) [.tmp 6] 43:=aV func280
def aia:aU prog 281 (sq [rg 6 [ox 4 67 1,ox 5 5 2,oz 4],rg 10 [fo 1 4,fo 2 5,oC 173 [11,13],o1 7],sq [rg 15 [om 7,nB .lss 0],cr 16 17 [om 0,fo 1 5,oC 278 [17,19],o1 6]],sq [rg 21 [fo 0 4,nB .eql 4],cr 23 24 [of 2 4,nl 65,om 7,oC 301 [25,26],o1 6]],rg 29 [fo 1 4,nL,om 7,oC 302 [31,32],o1 28,oe 28 0,oe 28 1,ot 8 34,o1 9],rg 36 [om 8,o1 6],.ret]) [.tmp 6] 37:=aV func281
abbrev BB(D:af)(b:Nat)(o:Option Int):Prop:=D.box b=aa (qp o)
variable{D:af}
def aus{b:Nat}{o:Option Int}{c:List V}(hg:TZ D)(h:BB D b o):TZ (D.set b c):=hg
def Jd(b:Nat)(o:Option Int)(p:Int)(h:BB D b o):dS 278 [.ptr (.out b) 0,.int .i64 p] D (.int .u64 ((0#64:bD).toNat:Nat)) (D.set b (qp (o.or (aa p)))):=by
 refine ah8.aT ?_;simp only[aS,am,aZ,Nat.reduceAdd,u0];cases o with
 | none =>
  simp only[am,show D.box b=aa [.bool ak,.int .i64 0] from h];exact aL rfl (af.bg _) ⟨rfl,rfl⟩
 | some q =>
  have e:D.set b (qp ((aa q).or (aa p)))=D:=af.zB h;simp only[am,show D.box b=aa [.bool ab,.int .i64 q] from h];rw[e];exact aL rfl (af.bg _) ⟨rfl,rfl⟩
variable{k:Nat}{w:aB}{ws:List aB}
def aqM{l:List (List UInt8)}{s:bD}(h:iL l w.aq=aa k):iD l s (w::ws)=iD l (kW s (k:Nat)) ws:=by simp only[iD,h]
def aqL{l:List (List UInt8)}{s:bD}(h:iL l w.aq=ag):iD l s (w::ws)=(0#64,aa w.pos):=by simp only[iD,h]
def Ym(b:Nat)(o:Option Int)(l:List (List UInt8))(ws:List aB)(h:BB D b o)(hl:l.length<=100000)(hw:ws.length<=1000000000):
 dS 279 [.ptr (.out b) 0,.sl .no 1 (cX l),.sl .no 2 (ws.map aB.enc)] D (.int .u64 ((iD l 0#64 ws).1.toNat:Nat)) (D.set b (qp (o.or (iD l 0#64 ws).2))):=by
 refine ah9.aT ?_;simp only[aS,am,aZ,Nat.reduceAdd,u0,aR];refine dK (ws.length) (λi (x:bD)=>⟨[.ptr (.out b) 0,.sl .no 1 (cX l),.any,.any,.any,.any,.any,.int .u64 (x.toNat:Nat),.any,.any,.any,.sl .no 2 (ws.map aB.enc),.int .i64 (ws.length:Nat),.int .i64 (i:Nat)]++ar 18 .any,[],D⟩) (λi x=>(iD l 0#64 ws=iD l x (ws.drop i))) λF hF JF bn=>⟨?_,?_,?_⟩
 .exact en bn (0#64) (rfl)
 .rintro i x hi hJ;rw[mJ hi] at hJ;simp only[hF,ar,am,dD hi];refine ix (Dx (cS hi)) ?_;simp only[am,Nat.reduceAdd,aB.enc];refine cl (w9 l ws[i].aq D hl) ?_;simp only[am,Da];cases hf:iL l ws[i].aq with
  | none =>
   rw[aqL hf] at hJ;simp only[am,BY];refine(Jd b o ws[i].pos h).mono ?_;rintro v σ' ⟨rfl,rfl⟩;simp only[am,a_];exact aL rfl (af.bg _) ⟨by rw[hJ];rfl,by rw[hJ]⟩
  | some k =>
   rw[aqM hf] at hJ;simp only[am,DR,dJ];refine cl (Fs x (k:Nat) D) ?_;simp only[am,a_,cG hi];refine fK (kW x (k:Nat)) hi ?_ ?_ ?_ ?_ ?_ ?_
   .exact eU (bn _ _) (hJ)
   all_goals simp[hF,ar,am,bT,bR,dw,V.lo]
 .rintro x hJ;rw[BS] at hJ;have e:D.set b (qp (o.or (iD l 0#64 ws).2))=D:=by rw[hJ];simp only[iD,Option.or_none];exact af.zB h
  simp only[hF,ar,am,a_,dY,a_];rw[e,hJ];refine aH ?_;simp[V.erase,iD]
def JC:=ah @am <| ah @aZ <| ah @u0 <| ah @bw.au <| ah @Nd.au @Nd.fl
def av6:=ah @am <| ah @a_ <| ah @Dw @bw.au
def asr(b:Nat)(o:Option Int)(f:bw)(n:Nd)(h:BB D b o)(hg:TZ D)(hl:f.an.length<=100000)(hk:n.aj.length<=1000000000)(hw:∀k∈n.aj,k.an.length<=1000000000):
 dS 280 [.ptr (.out b) 0,.agg f.enc,.agg n.enc] D (.int .u64 ((qR f 0#64 o n.aj).1.toNat:Nat)) (D.set b (qp (qR f 0#64 o n.aj).2)):=by
 refine ah'.aT ?_;simp only[aS,JC,Nat.reduceAdd,aR];have mP:D.set b (qp o)=D:=af.zB h;refine dK (n.aj.length) (λi (x:bD × Option Int)=>⟨[.ptr (.out b) 0,.any,.any,.any,.ptr (.aD 0) 0,.ptr (.aD 1) 0,.any,.int .u64 (x.1.toNat:Nat),.any,.any,.any,.any,.sl .no 5 (n.aj.map Nd.enc),.int .i64 (n.aj.length:Nat),.int .i64 (i:Nat)]++ar 28 .any,[f.enc,n.enc],D.set b (qp x.2)⟩) (λi x=>(qR f 0#64 o n.aj=qR f x.1 x.2 (n.aj.drop i))) λF hF JF bn=>⟨?_,?_,?_⟩
 .refine en bn ((0#64,o)) (rfl) ?_ ?_ ?_
  all_goals simp[hF,ar,am,bT,mP]
 .rintro i ⟨x,o'⟩ hi hJ;rw[mJ hi] at hJ;simp only at hJ;have h1:BB (D.set b (qp o')) b o' := jh;simp only[hF,ar,am,dD hi];refine ix (o_ (cS hi)) ?_;simp only[JC,Nat.reduceAdd];refine(w9 f.an n.aj[i].aq _ hl).mono ?_;rintro v cU ⟨rfl,rfl⟩;simp only[am,Da];cases hf:iL f.an n.aj[i].aq with
  | none =>
   simp only[qR,hf] at hJ;simp only[am,Nd.fl,BY];refine(Jd b o' n.aj[i].pos h1).mono ?_;rintro v σ' ⟨rfl,rfl⟩;simp only[am,a_];exact aL rfl (af.bg _) ⟨by rw[hJ];rfl,by rw[hJ]⟩
  | some k =>
   simp only[qR,hf] at hJ;simp only[am,bw.au,Nd.fl,DR,dJ];refine bE.intro (Ym b o' f.an n.aj[i].an h1 hl (hw _ (fg hi))) ?_;simp only[am,Rl.au];refine bE.intro (aka f.rel k (iD f.an 0#64 n.aj[i].an).1 (aus hg h)) ?_;simp only[av6,cG hi];refine fK ((x|||Dh f.rel k (iD f.an 0#64 n.aj[i].an).1,o'.or (iD f.an 0#64 n.aj[i].an).2)) hi ?_ ?_ ?_ ?_ ?_ ?_
   .exact eU (bn _ _) (hJ)
   all_goals simp[hF,ar,am,bT,bR,dw,V.lo,bw.cT,Nd.cT]
 .rintro⟨x,o'⟩ hJ;rw[BS] at hJ;simp only[hF,ar,am,a_,dY,a_];rw[hJ];refine aH ?_;simp[V.erase,qR]
def aqN(b:Nat)(o:Option Int)(f:bw)(n:Nd)(h:BB D b o)(hl:f.an.length<=100000):
 dS 281 [.ptr (.out b) 0,.agg f.enc,.agg n.enc] D (.int .u64 ((qP f n).1.toNat:Nat)) (D.set b (qp (o.or (qP f n).2))):=by
 refine aia.aT ?_;simp only[aS,JC,Nat.reduceAdd];refine cl (w9 f.an n.aq _ hl) ?_;simp only[am,Da];cases hf:iL f.an n.aq with
 | none =>
  simp only[am,Nd.fl,BY];refine(Jd b o n.pos h).mono ?_;rintro v σ' ⟨rfl,rfl⟩;simp only[am];exact aL rfl (af.bg _) ⟨by simp only[qP,hf];rfl,by simp only[qP,hf]⟩
 | some k =>
  have e:D.set b (qp (o.or (qP f n).2))=D:=by simp only[qP,hf,Option.or_none];exact af.zB h
  rw[e];simp only[am,bw.au,DR,dJ]
  by_cases h4:f.kind=4
  .simp only[am,Rl.au,bw.au,aJ h4];refine cl (alg f.rel k D) ?_;simp only[am];refine aH ?_;simp[V.erase,qP,hf,h4]
  .simp only[am,bw.au,ia,aI h4];refine cl (asB f.an.length k D) ?_;simp only[am,Du];refine aH ?_;simp[V.erase,qP,hf,h4]
def al6(f:bw)(D:af):a7 277 [.agg f.enc] D (.int .i64 (A5 f)):=by
 refine ah7.aT ?_;simp only[aS,am,aZ,Nat.reduceAdd,bw.au]
 by_cases h2:f.kind=2
 .simp only[am,aJ h2];refine aH ?_;simp[V.erase,A5,h2]
 .simp only[am,aI h2]
  by_cases h3:f.kind=3
  .simp only[am,aJ h3];refine aH ?_;simp[V.erase,A5,h3]
  .simp only[am,aI h3];refine aH ?_;simp[V.erase,A5,h2,h3]
def avl(b:Nat)(o:Option Int)(f:bw)(n:Nd)(h:BB D b o)(hg:TZ D)(hl:f.an.length<=100000)(hk:n.an.length<=1000000000/\n.aj.length<=1000000000)(hw:∀k∈n.aj,k.an.length<=1000000000):
 dS 234 [.ptr (.out b) 0,.agg f.enc,.agg n.enc] D (.int .u64 ((ng f n o).1.toNat:Nat)) (D.set b (qp (ng f n o).2)):=by
 refine ahx.aT ?_;simp only[aS,JC,Nat.reduceAdd];refine bE.intro (al6 f D) ?_;simp only[am,Nd.fl]
 by_cases hq:n.kind=A5 f
 .simp only[am,bw.au,aJ hq]
  by_cases h2:f.kind=2
  .have e:ng f n o=((iD f.an 0#64 n.an).1,o.or (iD f.an 0#64 n.an).2):=by rw[ng,aE hq,aE h2]
   simp only[am,bw.au,Nd.fl,aJ h2];refine(Ym b o f.an n.an h hl hk.1).mono ?_;rintro v σ' ⟨rfl,rfl⟩;simp only[am];exact aL rfl (af.bg _) ⟨by rw[e];rfl,by rw[e]⟩
  .simp only[am,aI h2]
   by_cases h3:f.kind=3
   .have e:ng f n o=qR f 0#64 o n.aj:=by rw[ng,aE hq,aA h2,aE h3]
    simp only[am,bw.au,Nd.au,aJ h3];refine(asr b o f n h hg hl hk.2 hw).mono ?_;rintro v σ' ⟨rfl,rfl⟩;simp only[am];exact aL rfl (af.bg _) ⟨by rw[e];rfl,by rw[e]⟩
   .have e:ng f n o=((qP f n).1,o.or (qP f n).2):=by rw[ng,aE hq,aA h2,aA h3]
    simp only[am,bw.au,Nd.au,aI h3];refine(aqN b o f n h hl).mono ?_;rintro v σ' ⟨rfl,rfl⟩;simp only[am];exact aL rfl (af.bg _) ⟨by rw[e];rfl,by rw[e]⟩
 .have e:ng f n o=(0#64,o.or (aa n.pos)):=by rw[ng,aA hq]
  simp only[am,Nd.fl,aI hq];refine(Jd b o n.pos h).mono ?_;rintro v σ' ⟨rfl,rfl⟩;simp only[am];exact aL rfl (af.bg _) ⟨by rw[e];rfl,by rw[e]⟩
def av7:=ah @am <| ah @aZ <| ah @bC.au @Nd.au
def aqo(s:bC)(n:Nd)(D:af):a7 232 [.agg s.enc,.agg n.enc] D (.bt [.sl .no 5 ((kP s n).map Nd.enc),.bool (qM s n)]):=by
 refine ahv.aT ?_;simp only[aS,av7,Nat.reduceAdd];cases ht:s.tuple with
 | false =>
  simp only[am,Nd.au];refine aH ?_;simp[V.erase,aX,kP,qM,ht]
 | true =>
  simp only[am,Nd.fl]
  by_cases h4:n.kind=4
  .simp only[am,aR,bC.au,Nd.fl,aR,aJ h4]
   by_cases hl:n.aj.length=s.bQ.length
   .simp only[aJ (show(n.aj.length:Int)=s.bQ.length by omega)];refine aH ?_;simp[V.erase,aX,kP,qM,ht,h4,hl]
   .simp only[aI (show ¬(n.aj.length:Int)=s.bQ.length by omega)];refine aH ?_;simp[V.erase,aX,kP,qM,ht,h4,hl]
  .simp only[am,aI h4];refine aH ?_;simp[V.erase,aX,kP,qM,ht,h4]
def Nd.ok(n:Nd):Prop:=n.an.length<=1000000000/\n.aj.length<=1000000000/\∀k∈n.aj,k.an.length<=1000000000
variable{s:bC}
def KX{n:Nd}(h:(qM s n&&nR s&&n.iY)=ak):iZ s n=(.zero,aa n.pos):=by rw[iZ,h];rfl
def aez{n:Nd}(h1:qM s n=ab)(h2:nR s=ab)(h3:n.iY=ab):iZ s n=wX s (kP s n):=by rw[iZ,h1,h2,h3];rfl
def Yb(h:nR s=ab):1<=s.bQ.length/\s.bQ.length<=8/\(s.tuple=ak->s.bQ.length=1):=by
 simp only[nR,bF,cn,nh] at h;refine⟨h.1.1.1,h.1.1.2,λht=>?_⟩
 rcases h.1.2 with h | h
 .rw[ht] at h;simp at h
 .exact h
def aqp{n:Nd}(h1:qM s n=ab)(h2:nR s=ab):(kP s n).length=s.bQ.length:=by
 have hl:=(Yb h2).2.2;unfold kP;unfold qM at h1;cases ht:s.tuple with
 | false=>simp[hl ht]
 | true=>rw[ht] at h1;simpa using And.right (by simpa using h1)
def av8:=ah @am <| ah @aZ <| ah @bC.au <| ah @bp.au @Nd.au
def KY(s:bC)(n:Nd)(hg:TZ D)(cu:s.ok)(hn:∀k∈kP s n,Nd.ok k)(hwt:n.wt<=aK):
 a7 184 [.agg s.enc,.agg n.enc] D (.bt [.agg (iZ s n).1.enc,.agg (vP (iZ s n).2)]):=by
 refine agW.aT ?_;simp only[aS,av8,Nat.reduceAdd];refine cl (aqo s n D) ?_;simp only[am];have done:∀(e:bp × Option Int) (t:List V) (l:List (List V)) (cU:af),e=iZ s n->D.sub cU->n8 (λv σ' => v=V.bt [.agg (iZ s n).1.enc,.agg (vP (iZ s n).2)]/\σ' = D) ⟨t,l,cU⟩ (.bt [.agg e.1.enc,.agg (vP e.2)]):=λe t l cU he hs=>by
  subst he;exact aL (by simp[V.cY,bO,bp.dV,vP]) hs ⟨by simp[V.erase,aX,bp.dO,vP],rfl⟩
 cases hp:qM s n with
 | false =>
  simp only[am,Nat.reduceAdd,bp.au,Nd.fl];exact done (.zero,aa n.pos) _ _ _ (KX (by rw[hp];rfl)).symm (af.bg _)
 | true =>
  simp only[am,bC.au];refine cl (atf s hg cu) ?_;cases hr:nR s with
  | false =>
   simp only[am,Nat.reduceAdd,bp.au,Nd.fl];exact done (.zero,aa n.pos) _ _ _ (KX (by rw[hp,hr];rfl)).symm (af.bg _)
  | true =>
   simp only[am,Nd.au];refine cl (RP _ n D (bS _) hwt) ?_;cases hc:n.iY with
   | false =>
    simp only[am,Nat.reduceAdd,bp.au,Nd.fl];exact done (.zero,aa n.pos) _ _ _ (KX (by rw[hp,hr,hc];rfl)).symm (af.bg _)
   | true =>
    have uq:=aez hp hr hc;obtain⟨CG,hl8,_⟩:=Yb hr;have pT:=aqp hp hr;simp only[am,Nat.reduceAdd];refine kI λb hb=>?_
    have hs:∀c,D.sub (D.set b c):=λc=>iS hb
    have hgb:∀c,TZ (D.set b c):=λc=>(hs c).2.2 _ _ hg
    simp only[am,aR,bC.au,aR];refine dK (s.bQ.length) (λi (x:bp × Option Int)=>⟨[.any,.any,.any,.any,.ptr (.aD 2) 0,.ptr (.aD 3) 0,.ptr (.aD 4) 0,.sl .no 5 ((kP s n).map Nd.enc),.any,.ptr (.out b) 0,.any,.any,.any,.any,.any,.any,.any,.any,.any,.any,.any,.any,.any,.any,.any,.any,.any,.any,.any,.any,.any,.any,.any,.any,.any,.any,.any,.sl .no 67 (s.bQ.map bw.enc),.int .i64 (s.bQ.length:Nat),.int .i64 (i:Nat)]++ar 26 .any,[s.enc,n.enc,bp.zero.enc,[.int .i64 0,.int .i64 0],x.1.enc],D.set b (qp x.2)⟩) (λi x=>(Eg s (kP s n) i x)) λF hF JF bn=>⟨?_,?_,?_⟩
    .refine en bn ((.zero,ag)) (ajZ) ?_ ?_ ?_
     all_goals simp[hF,ar,am,bT,qp]
    .rintro i ⟨e,o⟩ hi hJ;have Ma:i<(kP s n).length:=by omega
     have h8:i<8:=by omega
     have eP:=ajY hJ;rw[r9 hi,r9 Ma] at eP;have EI:=hn _ (fg Ma);simp only[hF,ar,am,dD hi];refine ix (Sq hi) ?_;simp only[am,Nat.reduceAdd,bw.au];refine ix (o_ (cS Ma)) ?_;simp only[am,bw.au,Nd.au];refine bE.intro (avl b o s.bQ[i] (kP s n)[i] jh (hgb _) (cu.2 _ (fg hi)) ⟨EI.1,EI.2.1⟩ EI.2.2) ?_;simp only[am,cV];refine km ?_;simp only[DA,bp.BE h8,bp.BF h8,cG hi];refine fK ((e.put i (ng s.bQ[i] (kP s n)[i] o).1,(ng s.bQ[i] (kP s n)[i] o).2)) hi ?_ ?_ ?_ ?_ ?_ ?_
     .exact eU (bn _ _) (eP)
     all_goals simp[hF,ar,am,bT,bR,dw,V.lo,Nd.cT,bC.cT,bp.cT]
    .rintro⟨e,o⟩ hJ;have db:=ajX hJ;rw[<-uq] at db;simp only[hF,ar,am,a_,dY,a_,qp];cases o with
     | some p =>
      simp only[am,Nat.reduceAdd,bp.au,Gv,BX];exact done (.zero,aa p) _ _ _ (by rw[db];rfl) (hs _)
     | none =>
      simp only[am,Nat.reduceAdd,bp.au,DS];exact done (e,ag) _ _ _ (by rw[db];rfl) (hs _)
def aho:aU prog 226 (sq [rg 4 [ox 2 5 0,ox 3 5 1,oz 2],sq [rg 7 [fo 0 2,fo 0 3,nb .neq 8,gB,fo 2 2,fo 2 3,nE .neq 14,gZ,gB,fo 3 2,nL,fo 3 3,nL,nb .neq 22,gZ,gB,fo 4 2,nL,fo 4 3,nL,nb .neq 31,gZ],cr 36 4 [oz 2]],sq [rg 37 [fo 3 2,nL,oi 0],lp 39 0 (sq [rg 42 [om 40,o1 5],dg 43 [fo 3 2,om 5,nA 2 44,nF 0,fo 3 3,om 5,nA 2 50,nF 0,nE .neq 48],cr 55 4 [oz 2]]) 56],sq [rg 57 [fo 4 2,nL,oi 0],lp 59 2 (sq [rg 62 [om 60,o1 6],dg 63 [fo 4 2,om 6,nA 5 64,nl 5,fo 4 3,om 6,nA 5 69,nl 5,oC 226 [67,72],nn],cr 74 4 [oz 2]]) 75],rg 4 [oq (.mv (.c (.bool ab)))],.ret]) [.tmp 4] 76:=aV func226
def MQ(n m:Nd)(D:af)(i:Nat):St :=
 ⟨[.any,.any,.ptr (.aD 0) 0,.ptr (.aD 1) 0]++ar 35 .any++[.int .i64 n.an.length,.int .i64 (i:Nat)]++ar 35 .any,[n.enc,m.enc],D⟩
def MP(n m:Nd)(D:af)(i:Nat):St :=
 ⟨[.any,.any,.ptr (.aD 0) 0,.ptr (.aD 1) 0]++ar 55 .any++[.int .i64 n.aj.length,.int .i64 (i:Nat)]++ar 15 .any,[n.enc,m.enc],D⟩
def asH:∀(k:Nat) (n m:Nd) (D:af),n.wt<=k->n.wt<=aK->a7 226 [.agg n.enc,.agg m.enc] D (.bool (n.c9 m)):=by
 intro k;induction k with
 | zero=>intro n m D h _;cases n;simp only[Nd.wt] at h;omega
 | succ k AX =>
  intro n m D hk hw;have hn:=F' n;have mg:n.wt<2^62:=by simp only[aK] at hw;omega
  rw[Nd.Di];refine aho.aT ?_;simp only[aS,u7,Nat.reduceAdd]
  by_cases k1:n.kind=m.kind
  case' neg =>
   simp only[am,aI k1];refine aH ?_;simp[V.erase]
  simp only[am,bL,Nd.fl,k1]
  by_cases k2:n.aq=m.aq
  case' neg =>
   simp only[am,aI k2];refine aH ?_;simp[V.erase]
  simp only[am,aR,bL,Nd.fl,k2]
  by_cases k3:n.an.length=m.an.length
  case' neg =>
   have k3' : ¬(n.an.length:Int)=m.an.length:=by omega
   simp only[am,aI k3']
   have:ey n.an m.an=false:=by cases hs:ey n.an m.an with
    | false=>rfl
    | true=>exact absurd (XK hs) k3
   refine aH ?_;simp[V.erase,this]
  simp only[am,aR,bL,Nd.fl,k3]
  by_cases k4:n.aj.length=m.aj.length
  case' neg =>
   have k4' : ¬(n.aj.length:Int)=m.aj.length:=by omega
   simp only[am,aI k4']
   have:dP n.aj m.aj=false:=by cases hs:dP n.aj m.aj with
    | false=>rfl
    | true=>exact absurd (XR hs) k4
   refine aH ?_;simp[V.erase,this]
  simp only[am,aR,bL,Nd.fl,k4];refine gn (λp:{i:Nat // i<=n.an.length/\ey (n.an.take i) (m.an.take i)=ab}=>MQ n m D p.1) (λp=>n.an.length - p.1) ?_ ?_
  .refine bm.enter ⟨0,by simp,by simp[ey]⟩ ?_ cC.rfl bK.rfl;simp[MQ,ar,am,k3]
  rintro⟨i,hi,ha⟩;simp only[MQ,ar,am];refine eR ?_ ?_
  .intro aC;have aC:i<n.an.length:=by simpa using aC
   obtain⟨gF,j6⟩:=XJ aC (by omega) k3 ha;simp only[am,Nd.fl];refine ix (Dx (cS aC)) ?_;simp only[am,Nd.fl,aB.enc];refine ix (Dx (cS (show i<m.an.length by omega))) ?_;simp only[am,aB.enc]
   by_cases he:n.an[i].aq=m.an[i].aq
   .simp only[am,bL,he];rw[wrap_i64];exact bm.again ⟨i+1,aC,by rw[gF];exact aJ he⟩ (by simp;omega) (by simp[am]) cC.rfl bK.rfl
   .simp only[am,aI he];refine aH ?_;simp[V.erase,j6 (aI he)]
  intro aC;have aC:i=n.an.length:=by simp at aC;omega
  subst aC;rw[fm,k3,fm] at ha;simp only[am,aR,Nd.fl];refine gn (λp:{i:Nat // i<=n.aj.length/\dP (n.aj.take i) (m.aj.take i)=ab}=>MP n m D p.1) (λp=>n.aj.length - p.1) ?_ ?_
  .refine bm.enter ⟨0,by simp,by simp[dP]⟩ ?_ cC.rfl bK.rfl;simp[MP,ar,am,k4]
  rintro⟨i,hi,hb⟩;simp only[MP,ar,am];refine eR ?_ ?_
  .intro aC;have aC:i<n.aj.length:=by simpa using aC
   have uu:=qE (n:=n) (fg aC);obtain⟨gF,j6⟩:=XQ aC (by omega) k4 hb;simp only[am,Nd.fl];refine ix (o_ (cS aC)) ?_;simp only[am,Nd.au,Nd.fl];refine ix (o_ (cS (show i<m.aj.length by omega))) ?_;simp only[am,Nd.au];refine bE.intro (AX n.aj[i] m.aj[i] _ (by omega) (by omega)) ?_;cases he:n.aj[i].c9 m.aj[i]
   .simp only[am];refine aH ?_;simp[V.erase,j6 he]
   .simp only[am];rw[wrap_i64];exact bm.again ⟨i+1,aC,by rw[gF];exact he⟩ (by simp;omega) (by simp[am]) cC.rfl bK.rfl
  intro aC;have aC:i=n.aj.length:=by simp at aC;omega
  subst aC;rw[fm,k4,fm] at hb;simp only[am];refine aH ?_;simp[V.erase,ha,hb]
def s1:List UInt8:=[43,40,120,44,35,123,97,44,98,125,41]
def s2:List UInt8:=[43,40,41]
def s3:List UInt8:=[91,102,61,120,44,103,61,35,104,105,124,114,93]
def aiJ:aU prog 34 (sq [rg 4 [oz 2],sq [rg 6 [om 0,nL,om 1,nL,nb .neq 7],cr 10 4 [oz 2]],sq [rg 5 [oi 0],bl 0 (sq [sq [rg 11 [om 5,om 0,nL,nb .lss 11],cx 14 0],.block 1 (sq [dg 17 [om 0,om 5,nA 10 17,nl 10,om 1,om 5,nA 10 21,nl 10,oq (.kA ab [1,1,1,1,1,1,1,1,1,1] (.s 20) (.s 24))],cr 25 4 [oz 2]]),rg 15 [ic 5]])],rg 4 [oq (.mv (.c (.bool ab)))],.ret]) [.tmp 4] 26:=aV func34
def ai5:aU prog 76 (sq [rg 4 [ox 2 2 0,oi 0,oi 0],rg 6 [oi (-1),oi (-1)],sq [rg 10 [fo 0 2,nL,oi 0],lp 12 0 (sq [rg 15 [om 13,o1 8],rg 16 [om 6,nB .lss 0,gA,fo 0 2,om 8,nA 3 20,nF 0,om 1,nE .eql 24,gZ],ci 27 (rg 28 [om 8,o1 6])]) 29],sq [rg 30 [fo 1 2,nL,oi 0],lp 32 2 (sq [rg 35 [om 33,o1 9],rg 36 [om 7,nB .lss 0,gA,fo 1 2,om 9,nA 3 40,nF 0,om 1,nE .eql 44,gZ],ci 47 (rg 48 [om 9,o1 7])]) 49],rg 50 [om 6,om 7,ot 4 50,o1 5],.ret]) [.tmp 4,.tmp 5] 52:=aV func76
def agV:aU prog 183 (sq [rg 7 [ox 3 2 0,ox 5 5 2,oR 6 y8,oz 2],sq [rg 10 [fo 0 5,nB .eql 1],cr 12 13 [ol 2 3,om 1,fo 2 5,oC 231 [13,14,16],oe 17 0,oe 17 1,os 10 6 18,o1 7]],dA 21 [8,9] [fo 0 3,om 1,nA 3 22,nf 1,nl 2,fo 4 5,nI 5 0,nl 5,oC 184 [26,30],o1 20,oe 20 0,oe 20 1,oN,oN,oX 8 8 32,oX 9 2 33],dg 34 [ol 8 8,oY y8 [(0,1,.c (.int .i64 2)),(2,8,.s 34)],of 0 9,mM [1],no,nB .eql 0,os 10 6 35,o1 7],.ret]) [.cell 6 ab 10,.tmp 7] 39:=aV func183
def ahu:aU prog 231 (sq [rg 7 [ox 3 2 0,oR 6 y8,oz 2],rg 11 [ol 2 3,om 2,oC 76 [11,12],o1 10,oe 10 0,oe 10 1,ot 8 14,o1 9],sq [rg 16 [om 9,nB .lss 0,gB,fo 1 3,om 9,nA 3 20,nF 1,nB .neq 1,gZ,gB,fo 1 3,om 9,nA 3 29,nF 2,om 1,nb .neq 33,gZ],cr 36 37 [oY y8 [],o2 10 6,oU 7 2]],rg 38 [om 9,oY y8 [(0,1,.c (.int .i64 1)),(1,1,.s 38)],o2 10 6,oV 7 (.bool ab)],.ret]) [.cell 6 ab 10,.tmp 7] 40:=aV func231
variable{j:Nat}
def xH{l:List ei}(h:j<l.length):(l.map ei.enc)[((j:Nat):Int).toNat]?=aa l[j].enc:=by simp[h]
def F4{l:List dC}(h:j<l.length):(l.map dC.enc)[((j:Nat):Int).toNat]?=aa l[j].enc:=by simp[h]
def wv(s:aN)(t:List UInt8)(D:af)(h1:s.bz.length<=100000)(h2:s.vars.length<=100000) :
 a7 76 [.agg s.enc,.aF t] D (.bt [.int .i64 (dJ (i_ s.bz t)),.int .i64 (dJ (lb s.vars t))]):=by
 refine ai5.aT ?_;simp only[aS,am,aZ,Nat.reduceAdd,aN.au,aR];rw[i_,lb];generalize hpL:NM s.bz t=pL;generalize hpV:NN s.vars t=pV;have eL:∀i (hi:i<s.bz.length),pL i=decide (s.bz[i].name=t):=λi hi=>by rw[<-hpL];simp only[NM,cS hi]
 have eV:∀i (hi:i<s.vars.length),pV i=decide (s.vars[i].name=t):=λi hi=>by rw[<-hpV];simp only[NN,cS hi]
 refine dK (s.bz.length) (λi (x:Unit)=>⟨[.any,.aF t,.ptr (.aD 0) 0,.any,.any,.any,.int .i64 (dJ ((bX i).find? pL)),.int .i64 (-1),.any,.any,.any,.sl .no 3 (s.bz.map ei.enc),.int .i64 (s.bz.length:Nat),.int .i64 (i:Nat)]++ar 38 .any,[s.enc],D⟩) (λi x=>(True)) λF hF JF bn=>⟨?_,?_,?_⟩
 .refine en bn (()) (trivial) ?_ ?_ ?_
  all_goals simp[hF,ar,am,bT,dJ]
 .rintro i x hi -;simp only[hF,ar,am,dD hi,Da];cases hf:(bX i).find? pL with
  | some k =>
   simp only[am,a_,DR,cG hi];refine nx bn (()) hi (trivial) ?_ ?_ ?_
   all_goals simp[hF,ar,am,bT,rP,DK,hf]
  | none =>
   simp only[am,aN.au,BY];refine ix (xH hi) ?_;simp only[am,aN.au];rw[<-eL i hi];cases hb:pL i with
   | false =>
    simp only[am,a_,cG hi];refine nx bn (()) hi (trivial) ?_ ?_ ?_
    all_goals simp[hF,ar,am,bT,rP,DK,hf,hb]
   | true =>
    simp only[am,a_,cG hi];refine nx bn (()) hi (trivial) ?_ ?_ ?_
    all_goals simp[hF,ar,am,bT,rP,DK,hf,hb,dJ]
 .rintro x -;simp only[hF,ar,am,a_,dY,a_,aN.au,aR];clear hF bn F JF;refine dK (s.vars.length) (λi (x:Unit)=>⟨[.any,.aF t,.ptr (.aD 0) 0,.any,.any,.any,.int .i64 (dJ ((bX s.bz.length).find? pL)),.int .i64 (dJ ((bX i).find? pV)),.any,.any,.any,.any,.any,.any,.any,.any,.any,.any,.any,.any,.any,.any,.any,.any,.any,.any,.any,.any,.any,.any,.any,.sl .no 3 (s.vars.map dC.enc),.int .i64 (s.vars.length:Nat),.int .i64 (i:Nat)]++ar 18 .any,[s.enc],D⟩) (λi x=>(True)) λF hF JF bn=>⟨?_,?_,?_⟩
  .refine en bn (()) (trivial) ?_ ?_ ?_
   all_goals simp[hF,ar,am,bT,dJ]
  .rintro i x hi -;simp only[hF,ar,am,dD hi,Da];cases hf:(bX i).find? pV with
   | some k =>
    simp only[am,a_,DR,cG hi];refine nx bn (()) hi (trivial) ?_ ?_ ?_
    all_goals simp[hF,ar,am,bT,rP,DK,hf]
   | none =>
    simp only[am,aN.au,BY];refine ix (F4 hi) ?_;simp only[am,aN.au];rw[<-eV i hi];cases hb:pV i with
    | false =>
     simp only[am,a_,cG hi];refine nx bn (()) hi (trivial) ?_ ?_ ?_
     all_goals simp[hF,ar,am,bT,rP,DK,hf,hb]
    | true =>
     simp only[am,a_,cG hi];refine nx bn (()) hi (trivial) ?_ ?_ ?_
     all_goals simp[hF,ar,am,bT,rP,DK,hf,hb,dJ]
  .rintro x -;simp only[hF,ar,am,a_,dY,a_];exact rt
def afF{l:List dC}{t:List UInt8}(h:lb l t=aa k):k<l.length:=(Hk h).1
def E5(o:Option bB):V:=.bt [.agg (match o with | some i=>i | none=>bB.zero).enc,.bool o.isSome]
def av9:=ah @am <| ah @aZ <| ah @aN.au @bB.au
def auy(s:aN)(lat:Nat)(t:List UInt8)(D:af)(h1:s.bz.length<=100000)(h2:s.vars.length<=100000) :
 a7 231 [.agg s.enc,.int .i64 (lat:Nat),.aF t] D (E5 (x7 s lat t)):=by
 refine ahu.aT ?_;simp only[aS,av9,Nat.reduceAdd];have no:∀(u:List V) (l:List (List V)),x7 s lat t=ag->n8 (λv σ' => v=E5 (x7 s lat t)/\σ' = D) ⟨u,l,D⟩ (.bt [.agg bB.zero.enc,.bool ak]):=λu l h=>by
  rw[h];exact aL (by simp[V.cY,bO,bB.dV]) (af.bg _) ⟨by simp[E5,V.erase,aX,bB.dO],rfl⟩
 refine cl (wv s t D h1 h2) ?_;simp only[am,Da];cases hf:lb s.vars t with
 | none =>
  simp only[am,bB.au,BY];exact no _ _ (by simp only[x7,hf])
 | some k =>
  have hk:=afF hf;have hv:s.vars[k]?=aa s.vars[k]:=cS hk;simp only[am,aN.au,DR,dJ];refine ix (F4 hk) ?_;simp only[am,aN.au]
  by_cases e1:s.vars[k].kind=1
  .simp only[am,aN.au,aJ e1];refine ix (F4 hk) ?_;simp only[am,aN.au]
   by_cases e2:s.vars[k].lat=(lat:Nat)
   .have e:x7 s lat t=aa ⟨1,k,.zero⟩:=by simp only[x7,hf,hv];rw[aE ⟨e1,e2⟩]
    simp only[am,bB.au,aJ e2];exact aL (by simp[V.cY,bO,bB.dV]) (af.bg _) ⟨by simp[e,E5,V.erase,aX,bB.dO,bB.zero],rfl⟩
   .simp only[am,bB.au,aI e2];exact no _ _ (by simp only[x7,hf,hv];rw[aA (λh=>e2 h.2)])
  .simp only[am,bB.au,aI e1];exact no _ _ (by simp only[x7,hf,hv];rw[aA (λh=>e1 h.1)])
variable{lat:Nat}
def O2{s:aN}(h:lat<s.bz.length):wy s lat=s.bz[lat].shape:=by simp only[wy,cS h]
def amI{s:aN}{n:Nd}(h1:n.kind≠1){e:bp}(he:iZ (wy s lat) (n.aj.getD 0 kM)=(e,ag)):o8 s lat n=aa ⟨2,0,e⟩:=by rw[o8,aA h1,he]
def amG{s:aN}{n:Nd}(h1:n.kind≠1){e:bp}{p:Int}(he:iZ (wy s lat) (n.aj.getD 0 kM)=(e,aa p)):o8 s lat n=none:=by rw[o8,aA h1,he]
def Ob{n:Nd}(hc:n.cI<=100000):∀k∈kP s n,k.an.length<=100000/\k.aj.length<=100000/\∀m∈k.aj,m.an.length<=100000:=by
 intro k hk;have EE:k.cI<=n.cI:=by
  unfold kP at hk;split at hk
  .exact J_ (rX hk)
  .rw[qj.1 hk];exact bS _
 have h1:=D5 k;have h2:=Ak k;refine⟨by omega,by omega,λm hm=>?_⟩
 have:=rX hm
 have:=D5 m
 omega
def aqn{n:Nd}(hc:n.cI<=100000):∀k∈kP s n,Nd.ok k:=λk hk=>by
 obtain⟨h1,h2,h3⟩:=Ob hc k hk;exact⟨by omega,by omega,λm hm=>by have:=h3 m hm;omega⟩
def JD:=ah @am <| ah @aZ <| ah @Nd.au <| ah @Nd.fl <| ah @aN.au @bB.au
def amJ(s:aN)(lat:Nat)(n:Nd)(hg:TZ D)(hs:s.ok)(oH:lat<s.bz.length)(hc:n.cI<=100000)(hw:n.wt<=aK)(hl:n.fA=ab)(hk:n.kind=1\/n.kind=7):
 cz prog 183 [.agg s.enc,.int .i64 (lat:Nat),.agg n.enc] D λv σ' => (∃i:bB,v = .bt [.agg i.enc,.bool (o8 s lat n).isSome]/\∀j,o8 s lat n=aa j->i=j)/\σ' = D:=by
 refine agV.aT ?_;simp only[aS,JD,Nat.reduceAdd]
 by_cases h1:n.kind=1
 .simp only[am,Nd.fl,aN.au,aJ h1];refine cl (auy s lat n.aq D hs.1 hs.2.1) ?_;simp only[am,bB.au,E5];refine aL (by simp[V.cY,bO,bB.dV]) (af.bg _) ⟨⟨_,by rw[o8,aE h1];simp[V.erase,aX,bB.dO];rfl,λj hj=>?_⟩,rfl⟩;rw[o8,aE h1] at hj;rw[hj]
 .have h7:n.kind=7:=by simpa [h1] using hk
  have rn:=Fb hl h7;have hm:n.aj[0]∈n.aj:=fg _;have yZ:=rX hm;have y2:=qE hm;simp only[am,Nat.reduceAdd,bL,Nat.reduceLT,aN.au,aI h1];refine ix (xH oH) ?_;simp only[am,Nd.fl,aN.au];refine qD (n:=0) (by omega) (o_ (j:=0) (cS (by omega))) ?_;simp only[am,bC.au,Nd.au];refine bE.intro (KY s.bz[lat].shape n.aj[0] hg (hs.2.2 _ (fg oH)) (aqn (by omega)) (by omega)) ?_;obtain⟨e,he⟩:∃e,iZ s.bz[lat].shape n.aj[0]=e:=⟨_,rfl⟩;rw[he];have HL : iZ (wy s lat) (n.aj.getD 0 kM)=e:=by rw[O2 oH,r9 (by omega)];exact he
  simp only[am,Nat.reduceAdd,bp.au,bB.au,vP];obtain⟨e,o⟩:=e;cases o with
  | none =>
   have yY:=amI h1 HL;simp only[am,bL,DS];exact aL (by simp[V.cY,bO,bB.dV]) (af.bg _) ⟨⟨⟨2,0,e⟩,by rw[yY];simp[V.erase,aX,bB.dO];rfl,λj hj=>by rw[yY] at hj;cases hj;rfl⟩,rfl⟩
  | some p =>
   have yY:=amG h1 HL;simp only[am,c7,Int.reduceEq,Gv];exact aL (by simp[V.cY,bO,bB.dV]) (af.bg _) ⟨⟨⟨2,0,e⟩,by rw[yY];simp[V.erase,aX,bB.dO];rfl,λj hj=>by rw[yY] at hj;simp at hj⟩,rfl⟩
def RF{l:List bB}(h:j<l.length):(l.map bB.enc)[((j:Nat):Int).toNat]?=aa l[j].enc:=by simp[h]
def asL(a b:List bB)(D:af)(ha:a.length<=100000)(hb:b.length<=100000):a7 34 [.sl .no 10 (a.map bB.enc),.sl .no 10 (b.map bB.enc)] D (.bool (decide (a=b))):=by
 refine aiJ.aT ?_;simp only[aS,am,aZ,Nat.reduceAdd,aR]
 by_cases aW:a.length=b.length
 .simp only[am,aJ (show(a.length:Int)=b.length by omega)];refine dK (a.length) (λi (x:Unit)=>⟨[.sl .no 10 (a.map bB.enc),.sl .no 10 (b.map bB.enc),.any,.any,.any,.int .i64 (i:Nat)]++ar 20 .any,[],D⟩) (λi x=>(∀k,k<i->a[k]?=b[k]?)) λF hF JF bn=>⟨?_,?_,?_⟩
  .exact en bn (()) (by intro k h;omega)
  .rintro i x hi hJ;have HR:i<b.length:=by omega
   simp only[hF,ar,am,dD hi,aR];refine ix (RF hi) ?_;simp only[am,bB.au];refine ix (RF HR) ?_;simp only[am,bB.au]
   by_cases h:a[i]=b[i]
   .simp only[am,a_,aJ h,cG hi];exact nx bn (()) hi (B2 hJ (by rw[cS hi,cS HR,h]))
   .have e:a≠b:=λe=>h (by subst e;rfl)
    simp only[am,a_,aI h];refine aH ?_;simp[V.erase,e]
  .rintro x hJ;have e:a=b:=by
    refine P_ aW λk h1 h2=>?_
    have:=hJ k h1
    rwa [cS h1,cS h2,a9] at this
   simp only[hF,ar,am,a_,dY,a_,aR];refine aH ?_;simp[V.erase,e]
 .have e:a≠b:=λe=>aW (by rw[e])
  simp only[am,aI (show ¬(a.length:Int)=b.length by omega)];refine aH ?_;simp[V.erase,e]
def KK(o:Option (List bB)):V:=.bt [.sl .no 10 ((o.getD []).map bB.enc),.bool o.isSome]
def acJ{s:aN}{n:Nd}(h1:lat<s.bz.length)(h2:n.fA=ab):nq s (lat:Nat) n=n9 s lat n:=by
 rw[nq,aE ⟨by omega,by omega,h2⟩];rfl
def af7:aU prog 114 (sq [rg 6 [ox 3 2 0,ox 5 5 2,oz 15,oz 2],.scope (sq [sq [rg 15 [om 1,nB .lss 0,gB,om 1,fo 0 3,nL,nb .geq 18,gZ,gB,ol 5 5,oC 182 [25],nn,gZ],cr 28 6 [oz 15,oz 2]],rg 8 [oz 15],rg 29 [ol 5 5,oW [0,0,1,7,10,0] [(0,5,29)],nO (.new 6),o1 9],.skip,bl 0 (sq [sq [rg 32 [om 9,nO .len,nB .gtr 0],cx 34 0],.block 1 (sq [rg 35 [om 9,nO .len,nB .sub 1,o1 10],rg 38 [om 9,om 10,oO (.idx 6) [38,39],nl 6,oZ 11 [0,0,1,7,10,0],o2 6 11],rg 12 [oi 3],sq [rg 42 [of 0 11,nF 0],.block 2 (sq [sq [rg 46 [oB .eql 44 1,o1 45],cd 45 .skip (rg 47 [oB .eql 44 7,o1 45])],cd 45 (sq [rg 49 [ol 2 3,om 1,of 0 11,nl 5,oC 183 [49,50,52],o1 48,oe 48 0,oe 48 1,oR 13 y8,os 10 13 54,o1 14],sq [rg 56 [om 14,nn],cr 57 6 [oz 15,oz 2]],rg 58 [om 8,ol 10 13,n1 10,na 10 58,o1 8],rg 62 [om 9,om 10,oO (.kV 6 ak ab ak) [62,63],o1 9],(.exit 1)]) (sq [rg 66 [oB .eql 44 9,o1 65],ci 65 (rg 12 [oi 4])])])],sq [rg 67 [fo 5 11,of 0 11,nF 4,nL,nb .lss 68],ci 73 (sq [rg 74 [om 9,om 10,oO (.idx 6) [74,75],nF 5,nB .add 1,oO (.idx 6) [74,75],nf 5,os 1 81 79],rg 82 [om 9,of 0 11,nF 4,fo 5 11,nA 5 85,nl 5,oW [0,0,1,7,10,0] [(0,5,89)],n1 6,oO (.app 6) [82,91],o1 9],(.exit 1)])],rg 93 [om 8,om 12,of 0 11,nF 4,nL,oY y8 [(0,1,.s 94),(1,1,.s 98)],n1 10,na 10 93,o1 8],rg 102 [om 9,om 10,oO (.kV 6 ak ab ak) [102,103],o1 9]])]),rg 6 [ot 105 8,om 105,oq (.mv (.c (.bool ab)))],.ret])]) [.tmp 6,.tmp 7] 106:=aV func114 ⟨[33,36,40,64,76,80,92,104,100031],[]⟩
def gE(f:Nd × Nat):List V:=f.1.enc++[.int .i64 (f.2:Nat)]
section
variable {m:Nd} {d k:Nat} {x0 x1 x2 x3 x4 x5:V}
def r8:gE (m,d)=[.int .i64 m.kind,.int .i64 m.pos,.aF m.aq,.sl .no 2 (m.an.map aB.enc),.sl .no 5 (m.aj.map Nd.enc),.int .i64 (d:Nat)]:=by rw[gE,Nd.cJ];rfl
def Cj:(gE (m,d)).length=6:=by rw[r8];rfl
def S2:cL (gE (m,d))=true:=by rw[r8];rfl
def Hp:bO (gE (m,d))=true:=by rw[r8];rfl
def ajo:aX (gE (m,d))=gE (m,d):=by rw[r8];rfl
def ajs:bR k (gE (m,d))=true:=by rw[r8];rfl
def aju:over [x0,x1,x2,x3,x4,x5] (gE (m,d))=gE (m,d):=by rw[r8];rfl
def ajq:bI ak 1 (gE (m,d))=aa (.int .i64 m.kind):=by rw[r8];rfl
def ajr:bI ak 1 ((gE (m,d)).drop 4)=aa (.sl .no 5 (m.aj.map Nd.enc)):=by rw[r8];rfl
def ajn:bI ak 1 ((gE (m,d)).drop 5)=aa (.int .i64 (d:Nat)):=by rw[r8];rfl
def ajt:takeN 5 (gE (m,d))=aa m.enc:=Pa Nd.c_
def ajm:over [x0,x1,x2,x3,x4,.int .i64 0] m.enc=gE (m,0):=by rw[r8,Nd.cJ];rfl
theorem ajp:cg 5 [x0,x1,x2,x3,x4,x5]=true:=rfl
def ajv:setAt (gE (m,d)) 5 [.int .i64 (k:Nat)]=gE (m,k):=by rw[r8,r8];rfl
def w_:=ah @Cj <| ah @S2 <| ah @Hp <| ah @ajo <| ah @ajs <| ah @aju <| ah @ajq <| ah @ajr <| ah @ajn <| ah @ajt <| ah @ajm @ajp
end
structure CF(s:aN)(lat:Nat)(n:Nd)(D:af) where
 fs:List (Nd × Nat)
 out:List bB
 v:V
 tk:Tk
 st:af
 fin:sY s lat fs out=n9 s lat n
 all:∀f∈fs,f.1.fA=ab/\f.1.wt<=n.wt/\f.1.cI<=n.cI
 mes:out.length+qH fs<=2*n.cI+1
 own:fO st 6 v (fs.reverse.map gE)
 sub:vm D st v
 gr:Gr D st tk out.length
def C0(s:aN)(lat:Nat)(n:Nd)(out:List bB)(v:V)(tk:Tk)(D:af):St :=
 ⟨[.any,.int .i64 (lat:Nat),.any,.ptr (.aD 0) 0,.any,.ptr (.aD 1) 0,.any,.any,.sl tk 10 (out.map bB.enc),v]++ar 96 .any,[s.enc,n.enc],D⟩
def N8{n:Nat}{v:V}{rows:List (List V)}(h:fO D k v rows):v.lo n=true:=by obtain⟨a,cap,rfl,_⟩:=h;rfl
variable{σ':af}
def V'{v:V}{rows:List (List V)}(h:fO D k v rows)(e:σ'.box=D.box):fO σ' k v rows:=h.frame λb cs _ hc=>by rw[e];exact hc
def aj9{dz:af}{tk:Tk}{n:Nat}(h:Gr dz D tk n)(hs:dz.sub σ')(e:σ'.aP=D.aP):Gr dz σ' tk n:=⟨hs,h.tk.imp id λ⟨Z,a,b,c⟩=>⟨Z,a,by rw[e];exact b,c⟩⟩
def VF:∀(fs:List (Nd × Nat)),fs.length<=qH fs
 | []=>bS _
 | f::fs=>by have:=VF fs;simp only[qH,dB];omega
def av_:=ah @am <| ah @cV <| ah @aZ <| ah @Nd.au <| ah @aN.au @bB.au
def ab3(s:aN)(lat:Int)(n:Nd)(hg:TZ D)(hs:s.ok)(hw:n.wt<=aK)(hc:n.cI<=100000):
 a7 114 [.agg s.enc,.int .i64 lat,.agg n.enc] D (KK (nq s lat n)):=by
 refine af7.aT ?_;simp only[aS,av_,Nat.reduceAdd];have no:∀(u:List V) (l:List (List V)) (cU:af),nq s lat n=ag->D.sub cU->n8 (λv σ' => v=KK (nq s lat n)/\σ' = D) ⟨u,l,cU⟩ (.bt [.sl .ba 10 [],.bool ak]):=λu l cU h h' => by
  rw[h];exact aL rfl h' ⟨rfl,rfl⟩
 by_cases hn:lat<0
 .simp only[am,cV,aJ hn];exact no _ _ _ (by rw[nq,aA (by omega)]) (af.bg _)
 .obtain⟨lat,rfl⟩:∃m:Nat,lat=m:=⟨lat.toNat,by omega⟩;simp only[am,aR,aN.au,aR,aI hn]
  by_cases oH:s.bz.length<=lat
  .simp only[am,cV,aJ (show(s.bz.length:Int)<=(lat:Nat) by omega)];exact no _ _ _ (by rw[nq,aA (by omega)]) (af.bg _)
  .have aC:lat<s.bz.length:=by omega
   simp only[am,Nd.au,aI (show ¬(s.bz.length:Int)<=(lat:Nat) by omega)];refine cl (Fe _ n D (bS _) hw) ?_;cases hl:n.fA with
   | false =>
    simp only[am,cV];exact no _ _ _ (by rw[nq,hl,aA (by simp)]) (af.bg _)
   | true =>
    have hR:=acJ aC hl;simp only[am,jm,Nd.au,w_];refine fO.mk1 (c:=gE (n,0)) (by simp[zc,V.cells,Cj,Hp,S2,V.wd]) Cj Hp λv cU hO hS=>?_
    simp only[am];obtain⟨I,hI⟩:∃I:CF s lat n D->St,∀p,I p=C0 s lat n p.out p.v p.tk p.st:=⟨_,λ_=>rfl⟩;refine gn I (λp=>qH p.fs) ?_ ?_
    .refine bm.enter (I:=I) ⟨[(n,0)],[],v,.ba,cU,by simp only[sY,W7];cases n9 s lat n<;>rfl,by simp[hl],?_,by simpa using hO,hS,⟨hS.sub,.inl rfl⟩⟩ ?_ ?_ ?_
     .have:=Nd.ub n
      simp only[qH,JV,eM];omega
     all_goals simp[hI,C0,ar,am,bT]
    .rintro⟨fs,out,v,tk,cU,uk,cK,HT,hO,hS,hG⟩;simp only[hI,C0,ar,am,jm];have T_:=VF fs;refine hO.len ?_;cases fs with
     | nil =>
      have e:n9 s lat n=aa out:=by rw[<-uk];rfl
      simp only[am,cV,List.reverse_nil,fh,eM,show decide ((0:Int)<((0:Nat):Int))=ak from rfl];exact aL rfl hG.sub ⟨by rw[hR,e];rfl,rfl⟩
     | cons f fs =>
      obtain⟨m,d⟩:=f;obtain⟨HU,y2,yZ⟩:=cK (m,d) (by simp);simp only at HU y2 yZ;have fY:(List.map gE ((m,d)::fs).reverse).length=fs.length+1:=by simp
      have gF:(List.map gE ((m,d)::fs).reverse)[fs.length]?=aa (gE (m,d)):=by simp
      have Uv:(List.map gE ((m,d)::fs).reverse).take fs.length=List.map gE fs.reverse:=by simp
      have yX:fs.length+1<=2*n.cI+1:=by simp only[dB] at T_;omega
      have yV:TZ cU:=hG.sub.2.2 _ _ hg;simp only[am,jm,fY,show decide ((0:Int)<((fs.length+1:Nat):Int))=ab from aJ (by omega)];refine hO.len ?_;simp only[am,jm,fY];rw[wrap_i64,show((fs.length+1:Nat):Int) - 1=(fs.length:Nat) by omega];refine hO.idx (by omega) (j:=(fs.length:Nat)) (c:=gE (m,d)) (by rw[jW];exact gF) λb cs rest hb bV LZ=>?_
      rw[jW] at LZ ⊢;have xn:takeN 6 (cs.drop (fs.length*6))=aa (gE (m,d)):=by rw[LZ];exact Pa Cj
      simp only[am,Nat.reduceAdd,bV,xn,w_]
      by_cases hk:m.kind=1\/m.kind=7
      .have qx:(decide (m.kind=1)=ab)\/(decide (m.kind=1)=ak/\decide (m.kind=7)=ab):=by
        by_cases h1:m.kind=1
        .exact .inl (aJ h1)
        .exact .inr ⟨aI h1,aJ (by simpa [h1] using hk)⟩
       have yY:=arS (s:=s) (lat:=lat) (d:=d) (fs:=fs) (out:=out) hk;rw[yY] at uk
       rcases qx with e1 | ⟨e1,e2⟩
       case' inl=>simp only[am,Nd.au,aN.au,e1,w_]
       case' inr=>simp only[am,Nd.au,aN.au,e1,e2,w_]
       all_goals
        refine(amJ s lat m yV hs aC (by omega) (by omega) HU hk).mono ?_;rintro v' σ' ⟨⟨i,rfl,hi⟩,rfl⟩;simp only[am,Nat.reduceAdd,bB.au];cases Mf:o8 s lat m with
        | none =>
         rw[Mf] at uk;simp only[am,cV,DS];exact no _ _ _ (by rw[hR,<-uk]) hG.sub
        | some j =>
         obtain rfl:=hi j Mf;rw[Mf] at uk;simp only[am,bB.au,Gv];refine Gr.app (by simpa using hG) (by simp only[qH] at HT;simp[aK];omega) λku fc yK hB _=>?_
         simp only[am,jm];refine(V' hO hB).take (m:=fs.length) (by omega) (jW _) (by rw[fY];omega) λv2 vR ec=>?_
         rw[Uv] at vR;simp only[am,cV,Nat.reduceEqDiff,reduceCtorEq];refine bm.ql (I:=I) ⟨fs,out++[i],v2,ku,fc,uk,λf hf=>cK f (Qh _ hf),by simp only[qH] at HT;rw[bP,gM];omega,vR,⟨yK.sub,λb hb=>hS.new b (by rw[<-ec];exact hb)⟩,by simpa using yK⟩ (by simp only[qH];omega) ?_ ?_ ?_ ?_ ?_
         all_goals simp[hI,C0,ar,am,bT,bR,dw,V.lo,aN.cT,Nd.cT,N8 vR]
      .have e1:decide (m.kind=1)=false:=aI λh=>hk (.inl h)
       have e7:decide (m.kind=7)=false:=aI λh=>hk (.inr h)
       simp only[am,e1,e7];have td:=UY HU hk;have EE:=Ak m
       by_cases h9:m.kind=9
       case' pos =>
        have eo:tJ m=⟨4,m.aj.length,.zero⟩:=by rw[tJ,aE h9]
        simp only[am,aR,aR,aJ h9,w_]
       case' neg =>
        have eo:tJ m=⟨3,m.aj.length,.zero⟩:=by rw[tJ,aA h9]
        simp only[am,aR,aR,aI h9,w_]
       all_goals
        by_cases hd:d<m.aj.length
        .have TV:cs.drop (fs.length*6+5)=(gE (m,d)).drop 5++rest:=by
          rw[<-wL,LZ,Zx (by rw[Cj];omega)]
         have h5:(gE (m,d)).drop 5=[.int .i64 (d:Nat)]:=by rw[r8];rfl
         have akR:bI ak 1 (cs.drop (fs.length*6+5))=aa (.int .i64 (d:Nat)):=by rw[TV,h5];rfl
         have akI:cg 1 (cs.drop (fs.length*6+5))=true:=by rw[TV,h5];rfl
         obtain⟨vR,ep⟩:=hO.put (off:=5) (x:=[.int .i64 ((d+1:Nat):Int)]) gF hb bV (by simp);have nH:(List.map gE ((m,d)::fs).reverse).set fs.length (setAt (gE (m,d)) 5 [.int .i64 ((d+1:Nat):Int)])=List.map gE ((m,d+1)::fs).reverse:=by
          rw[ajv];simp
         rw[nH] at vR;have HV:m.aj[d]∈m.aj:=fg hd;have hkw:=qE HV;have awp:=rX HV;simp only[am,jm,dD hd];refine hO.idx (by omega) (j:=(fs.length:Nat)) (c:=gE (m,d)) (by rw[jW];exact gF) λb2 KO arP ec akv _=>?_
         obtain rfl:b=b2:=by rw[hb] at ec;exact vl ec
         rw[jW];simp only[am,jm,bV,akR,cG hd];refine hO.idx (by omega) (j:=(fs.length:Nat)) (c:=gE (m,d)) (by rw[jW];exact gF) λb2 KO arP ec akv _=>?_
         obtain rfl:b=b2:=by rw[hb] at ec;exact vl ec
         rw[jW];simp only[am,bV,akI,w_];refine ix (o_ (cS hd)) ?_;simp only[am,jm,Nd.au,w_];refine vR.app (m:=[gE (m.aj[d],0)]) (by simp[Cj]) (by simp[Hp]) (by simp[aK];omega) λv3 mG Tz ug=>?_
         have TE:=(hS.step ep).step ug;have hG3:=aj9 hG TE.sub (ug.aP.trans ep.aP);simp only[am,cV,reduceCtorEq];refine bm.ql (I:=I) ⟨(m.aj[d],0)::(m,d+1)::fs,out,v3,tk,mG,by rw[<-arR hk hd];exact uk,?_,?_,by simpa using Tz,TE,hG3⟩ (VE hd) ?_ ?_ ?_ ?_ ?_
         .intro f hf
          rcases lF.1 hf with rfl | hf
          .exact⟨td _ HV,by simp only;omega,by simp only;omega⟩
          .rcases lF.1 hf with rfl | hf
           .exact⟨HU,y2,yZ⟩
           .exact cK f (Qh _ hf)
         .have:=VE (fs:=fs) hd;omega
         all_goals simp[hI,C0,ar,am,bT,bR,dw,V.lo,aN.cT,Nd.cT,N8 Tz]
        .simp only[am,aR,bB.au,aR,aI (show ¬(d:Int)<(m.aj.length:Nat) by omega),w_];refine Gr.app (by simpa using hG) (by simp only[qH] at HT;simp[aK];omega) λku fc yK hB _=>?_
         simp only[am,jm];refine(V' hO hB).take (m:=fs.length) (by omega) (jW _) (by rw[fY];omega) λv2 vR ec=>?_
         rw[Uv] at vR;simp only[am];refine bm.ql (I:=I) ⟨fs,out++[tJ m],v2,ku,fc,by rw[<-arQ hk (Nat.le_of_not_lt hd)];exact uk,λf hf=>cK f (Qh _ hf),by simp only[qH] at HT;rw[bP,gM];omega,vR,⟨yK.sub,λb hb=>hS.new b (by rw[<-ec];exact hb)⟩,by simpa using yK⟩ (by simp only[qH];omega) ?_ ?_ ?_ ?_ ?_
         all_goals simp[hI,C0,ar,am,bT,bR,dw,V.lo,aN.cT,Nd.cT,eo,bB.zero,N8 vR]
section
variable {l:ei} {v:dC} {a b c:V} {m:Nat}
theorem ei.FG:takeN 3 l.enc=aa l.enc:=rfl
theorem ei.Ot:over [a,b,c] l.enc=l.enc:=rfl
theorem ei.Oo:l.enc.length=3:=rfl
theorem ei.Oq:cL l.enc=true:=rfl
theorem dC.Oo:v.enc.length=3:=rfl
theorem dC.Oq:cL v.enc=true:=rfl
theorem dC.FG:takeN 3 v.enc=aa v.enc:=rfl
theorem dC.Ot:over [a,b,c] v.enc=v.enc:=rfl
end
def afZ:aU prog 107 (sq [rg 12 [mk 0,nf 1,nl 2,om 1,oC 76 [15,16],o1 11,oe 11 0,oe 11 1,ot 8 18,o1 9],rg 20 [mk 0,nf 0,om 8,nB .lss 0,gA,om 9,nB .lss 0,gZ,om 2,oc 110 [.s 22,.s 28,.c (.int .i64 3),.s 29]],sq [rg 31 [om 9,nB .lss 0],cr 32 33 [mk 0,nf 0,om 8,nB .geq 0,om 2,oc 110 [.s 35,.s 37,.c (.int .i64 4),.s 38]]],rg 40 [mk 0,nf 1,nF 1,om 9,nA 3 44,nl 3,oZ 10 [1,0,0],o2 3 10],dg 48 [mk 0,nf 0,fo 1 10,om 3,nb .neq 52,nm,oh 55 (om 0),oh 55 (nk),oh 55 (nf 3),oh 55 (no),oh 55 (nB .geq 0),oh 55 (nm),og 61 (of 2 10),og 61 (no),og 61 (om 0),og 61 (nk),og 61 (nf 3),og 61 (no),og 61 (nb .neq 63),oh 55 (oy 61 68),oq (.pick (.s 55) (.c (.bool ab)) (.s 69)),om 2,oc 110 [.s 50,.s 70,.c (.int .i64 4),.s 71]]]) [] 73:=aV func107
def af0:aU prog 108 (sq [rg 0 [ox 3 2 1],dg 7 [mk 0,nf 1,nl 2,fo 0 3,oC 76 [10,12],o1 6,oe 6 0,oe 6 1,ot 4 14,o1 5],rg 16 [om 0,om 4,ok 16,nf 3,os 1 19 17],dg 20 [mk 0,nf 0,om 4,nB .lss 0,gA,om 5,nB .lss 0,gZ,fo 1 3,oc 110 [.s 22,.s 28,.c (.int .i64 3),.s 30]],dg 32 [mk 0,nf 0,om 4,nB .lss 0,gA,om 5,nB .geq 0,gZ,fo 1 3,oc 110 [.s 34,.s 40,.c (.int .i64 4),.s 42]]]) [] 44:=aV func108
def af3:aU prog 110 (sq [rg 8 [om 1],ci 8 (rg 9 [om 0,mk 0,nF 0,om 2,om 3,oW [0,0] [(0,1,14),(1,1,15)],n1 2,na 2 13,ok 9,nf 0,os 1 20 18])]) [] 21:=aV func110
def agP:aU prog 177 (sq [rg 0 [ox 3 5 1],rg 6 [fo 0 3],.block 0 (sq [rg 9 [oB .eql 7 1,o1 8],cd 8 (rg 10 [om 0,fo 2 3,fo 1 3,oc 107 [.s 10,.s 12,.s 14,.c (.int .i64 1)]]) (sq [rg 17 [oB .eql 7 7,o1 16],ci 16 (sq [rg 18 [fo 4 3,nL,nB .gtr 0,gA,mk 0,nF 3,nB .geq 0,gZ],ci 28 (sq [dA 30 [4,5] [mk 0,nf 1,nF 0,mk 0,nF 3,nA 3 34,nf 1,nl 2,fo 4 3,nI 5 0,nl 5,oC 184 [41,45],o1 29,oe 29 0,oe 29 1,oN,oN,oX 4 8 47,oX 5 2 48],dg 49 [mk 0,nf 0,fo 0 5,nB .neq 0,fo 0 5,fo 1 5,oC 110 [51,54,56,58]]])])])])]) [] 60:=aV func177
def xX(D:af)(b Z:Nat)(l:List aQ)(s:aN)(lat p x y:Int)(is:Bool)(hl:l.length<=100000000) :
 dS 110 [.ptr (.out b) 0,.bool is,.int .i64 x,.int .i64 y] (de D b Z l s lat p) (.bt []) (de D b Z (l++if is then [⟨x,y⟩] else []) s lat p):=by
 refine af3.aT ?_;simp only[aS,am,aZ,Nat.reduceAdd];cases is with
 | false =>
  simp only[am,eK,eK];exact aL rfl (af.bg _) ⟨rfl,by simp⟩
 | true =>
  simp only[am,Nat.reduceAdd,kc];refine iy (by simp[aK];omega) (by rw[aR];exact PG) ?_;simp only[am,aR,kc,aR,gM,avR];exact aL rfl (af.bg _) ⟨rfl,by simp⟩
def FV(D:af)(b Z:Nat)(l:List aQ)(s:aN)(lat p y k:Int)(t:List UInt8)(hl:l.length<=90000000)(hs:s.ok) :
 dS 107 [.ptr (.out b) 0,.aF t,.int .i64 y,.int .i64 k] (de D b Z l s lat p) (.bt []) (de D b Z (l++iH s lat t y k) s lat p):=by
 refine afZ.aT ?_;simp only[aS,am,aZ,Nat.reduceAdd,kc,aN.au];refine cl (wv s t _ hs.1 hs.2.1) ?_;cases hV:lb s.vars t with
 | none =>
  cases hL:i_ s.bz t with
  | none =>
   have e:iH s lat t y k=[⟨3,y⟩]:=by rw[iH,hV,hL];rfl
   simp only[am,bL,Int.reduceNeg,dJ,Int.reduceLT];refine cl (xX D b Z l s lat p 3 y ab (by omega)) ?_;simp only[am,bL,c7,Int.reduceNeg,Int.reduceLT,Int.reduceLE];refine cl (xX D b Z (l++[⟨3,y⟩]) s lat p 4 y ak (by simp;omega)) ?_;simp only[am,Int.reduceNeg,eK];exact aL rfl (af.bg _) ⟨rfl,by rw[e]⟩
  | some j =>
   have e:iH s lat t y k=[⟨4,y⟩]:=by rw[iH,hV,hL];rfl
   simp only[am,Int.reduceNeg,dJ,aI (show ¬((j:Nat):Int)<0 by omega)];refine cl (xX D b Z l s lat p 3 y ak (by omega)) ?_;simp only[am,bL,Int.reduceNeg,eK,Int.reduceLT,aJ (show(0:Int)<=((j:Nat):Int) by omega)];refine cl (xX D b Z l s lat p 4 y ab (by omega)) ?_;simp only[am,Int.reduceNeg];exact aL rfl (af.bg _) ⟨rfl,by rw[e]⟩
 | some v =>
  have hv:=SA hV;have hx:s.vars[v]?=aa s.vars[v]:=cS hv;have e:iH s lat t y k=if s.vars[v].kind≠k\/(0<=lat/\s.vars[v].lat≠lat) then [⟨4,y⟩] else []:=by rw[iH,hV];simp only[hx]
  have nv:decide (((v:Nat):Int)<0)=false:=aI (by omega);have mid:cz prog 110 [.ptr (.out b) 0,.bool ak,.int .i64 3,.int .i64 y] (de D b Z l s lat p) λu σ' => u = .bt []/\σ' = de D b Z l s lat p:=by
   simpa using xX D b Z l s lat p 3 y ak (by omega)
  have fin:∀is:Bool,is=decide (s.vars[v].kind≠k\/(0<=lat/\s.vars[v].lat≠lat))->cz prog 110 [.ptr (.out b) 0,.bool is,.int .i64 4,.int .i64 y] (de D b Z l s lat p) λu σ' => u = .bt []/\σ' = de D b Z (l++iH s lat t y k) s lat p:=λis he=>by
   have:=xX D b Z l s lat p 4 y is (by omega)
   rw[he] at this ⊢;rw[e];simpa using this
  cases hL:i_ s.bz t
  case' none=>simp only[am,bL,Int.reduceNeg,dJ,Int.reduceLT,nv]
  case' some j =>
   simp only[am,dJ,aI (show ¬((j:Nat):Int)<0 by omega)]
  all_goals
   refine cl mid ?_;simp only[am,Nat.reduceAdd,Int.reduceNeg,kc,nv];refine ix (F4 hv) ?_;simp only[am,Int.reduceNeg,aN.au,dC.Oo,dC.Oq,dC.FG,dC.Ot]
   by_cases hk:s.vars[v].kind=k
   case neg =>
    simp only[am,Int.reduceNeg,aI hk];refine bE.intro (fin ab (by simp[hk])) ?_;simp only[am,Int.reduceNeg];exact aL rfl (af.bg _) ⟨rfl,rfl⟩
   simp only[am,Int.reduceNeg,kc,aJ hk]
   by_cases h0:0<=lat
   case neg =>
    simp only[am,Int.reduceNeg,aI h0];refine bE.intro (fin ak (by simp[hk,h0])) ?_;simp only[am,Int.reduceNeg];exact aL rfl (af.bg _) ⟨rfl,rfl⟩
   simp only[am,Int.reduceNeg,kc,aN.au,aJ h0]
   by_cases h1:s.vars[v].lat=lat
   case neg =>
    simp only[am,Int.reduceNeg,aI h1];refine bE.intro (fin ab (by simp[h0,h1])) ?_;simp only[am,Int.reduceNeg];exact aL rfl (af.bg _) ⟨rfl,rfl⟩
   simp only[am,Int.reduceNeg,aJ h1];refine bE.intro (fin ak (by simp[hk,h1])) ?_;simp only[am,Int.reduceNeg];exact aL rfl (af.bg _) ⟨rfl,rfl⟩
def By(D:af)(b Z:Nat)(l:List aQ)(s:aN)(lat p x y:Int)(hl:l.length<=100000000):cz prog 110 [.ptr (.out b) 0,.bool ak,.int .i64 x,.int .i64 y] (de D b Z l s lat p) λu σ' => u = .bt []/\σ' = de D b Z l s lat p:=by
 simpa using xX D b Z l s lat p x y ak hl
def FX(D:af)(b Z:Nat)(l:List aQ)(s:aN)(lat p x y:Int)(hl:l.length<=100000000):cz prog 110 [.ptr (.out b) 0,.bool ab,.int .i64 x,.int .i64 y] (de D b Z l s lat p) λu σ' => u = .bt []/\σ' = de D b Z (l++[⟨x,y⟩]) s lat p:=by
 simpa using xX D b Z l s lat p x y ab hl
def av':=ah @am <| ah @aZ <| ah @aN.au @aB.au
def Ye(D:af)(b Z:Nat)(l:List aQ)(s:aN)(lat p:Int)(w:aB)(hl:l.length<=90000000)(hs:s.ok) :
 dS 108 [.ptr (.out b) 0,.agg w.enc] (de D b Z l s lat p) (.bt []) (de D b Z (l++gS s w) s (dJ (i_ s.bz w.aq)) p):=by
 refine af0.aT ?_;simp only[aS,av',Nat.reduceAdd,Int.reduceNeg,dJ,kc];refine bE.intro (wv s w.aq (de D b Z l s lat p) hs.1 hs.2.1) ?_;simp only[am,Int.reduceNeg,dJ,kc,avS];cases hL:i_ s.bz w.aq with
 | none =>
  cases hV:lb s.vars w.aq with
  | none =>
   have e:gS s w=[⟨3,w.pos⟩]:=by rw[gS,hL,hV];rfl
   simp only[am,bL,Int.reduceNeg,Int.reduceLT,kc];refine bE.intro (FX D b Z l s (-1) p 3 w.pos (by omega)) ?_;simp only[am,bL,c7,Int.reduceNeg,Int.reduceLT,Int.reduceLE,kc];refine bE.intro (By D b Z (l++[⟨3,w.pos⟩]) s (-1) p 4 w.pos (by simp;omega)) ?_;simp only[am,Int.reduceNeg];exact aL rfl (af.bg _) ⟨rfl,by rw[e]⟩
  | some j =>
   have e:gS s w=[⟨4,w.pos⟩]:=by rw[gS,hL,hV];rfl
   simp only[am,bL,Int.reduceNeg,Int.reduceLT,kc,aI (show ¬((j:Nat):Int)<0 by omega)];refine bE.intro (By D b Z l s (-1) p 3 w.pos (by omega)) ?_;simp only[am,bL,Int.reduceNeg,Int.reduceLT,kc,aJ (show(0:Int)<=((j:Nat):Int) by omega)];refine bE.intro (FX D b Z l s (-1) p 4 w.pos (by omega)) ?_;simp only[am,Int.reduceNeg];exact aL rfl (af.bg _) ⟨rfl,by rw[e]⟩
 | some j =>
  have e:gS s w=[]:=by rw[gS,hL];rfl
  simp only[am,Int.reduceNeg,kc,aI (show ¬((j:Nat):Int)<0 by omega)];refine bE.intro (By D b Z l s (j:Nat) p 3 w.pos (by omega)) ?_;simp only[am,Int.reduceNeg,kc,aI (show ¬((j:Nat):Int)<0 by omega)];refine bE.intro (By D b Z l s (j:Nat) p 4 w.pos (by omega)) ?_;simp only[am,Int.reduceNeg];exact aL rfl (af.bg _) ⟨rfl,by rw[e,eK]⟩
def avQ{b Z:Nat}{l:List aQ}{s:aN}{lat p:Int}(hg:TZ D)(hb:D.box b=ag):TZ (de D b Z l s lat p):=hg
def XW(D:af)(b Z:Nat)(l:List aQ)(s:aN)(lat p:Int)(n:Nd)(hl:l.length<=90000000)(hs:s.ok)(hg:TZ D)(hb:D.box b=ag)(oH:lat<s.bz.length)(hc:n.cI<=100000)(hw:n.wt<=aK) :
 dS 177 [.ptr (.out b) 0,.agg n.enc] (de D b Z l s lat p) (.bt []) (de D b Z (l++kY s lat n) s lat p):=by
 refine agP.aT ?_;simp only[aS,u7,Nat.reduceAdd]
 by_cases h1:n.kind=1
 .simp only[am,Nd.fl,aJ h1];refine cl (FV D b Z l s lat p n.pos 1 n.aq hl hs) ?_;simp only[am];exact aL rfl (af.bg _) ⟨rfl,by rw[kY,aE h1]⟩
 simp only[am,aI h1]
 by_cases h7:n.kind=7
 case neg =>
  simp only[am,aI h7];exact aL rfl (af.bg _) ⟨rfl,by rw[kY,aA h1,aA h7,eK]⟩
 simp only[am,aR,Nd.fl,aR,aJ h7];have ea:kY s lat n=Aq s lat n:=by rw[kY,aA h1,aE h7]
 by_cases hk:0<n.aj.length
 case neg =>
  simp only[am,aI (show ¬(0:Int)<(n.aj.length:Nat) by omega)];exact aL rfl (af.bg _) ⟨rfl,by rw[ea,Aq,aA (λh=>hk h.1),eK]⟩
 simp only[am,kc,aJ (show(0:Int)<(n.aj.length:Nat) by omega)]
 by_cases h0:0<=lat
 case neg =>
  simp only[am,aI h0];exact aL rfl (af.bg _) ⟨rfl,by rw[ea,Aq,aA (λh=>h0 h.2),eK]⟩
 simp only[am,Nat.reduceAdd,bL,Nat.reduceLT,kc,aJ h0];obtain⟨k,rfl⟩:∃k:Nat,lat=k:=⟨lat.toNat,by omega⟩;have rn:k<s.bz.length:=by omega
 have hm:n.aj[0]∈n.aj:=fg _;have yZ:=rX hm;have y2:=qE hm;refine ix (xH rn) ?_;simp only[am,aN.au,Nd.fl];refine qD (n:=0) (by omega) (o_ (j:=0) (cS hk)) ?_;simp only[am,bC.au,Nd.au];refine bE.intro (KY s.bz[k].shape n.aj[0] (avQ hg hb) (hs.2.2 _ (fg rn)) (λm hm=>by obtain⟨a,b,c⟩:=Ob (n:=n.aj[0]) (by omega) m hm;exact⟨by omega,by omega,λq hq=>by have:=c q hq;omega⟩) (by omega)) ?_;have eo:wY s (k:Nat) n=(iZ s.bz[k].shape n.aj[0]).2:=by rw[wY,jW,O2 rn,r9 hk]
 have ee:kY s (k:Nat) n=match (iZ s.bz[k].shape n.aj[0]).2 with | some q=>[⟨4,q⟩] | none=>[]:=by rw[ea,Aq,aE ⟨hk,h0⟩,eo];cases (iZ s.bz[k].shape n.aj[0]).2<;>rfl
 generalize iZ s.bz[k].shape n.aj[0]=g at ee;obtain⟨e,o⟩:=g;cases o with
 | none =>
  simp only[am,Nat.reduceAdd,bL,bp.au,show vP ag=[.int .i64 0,.int .i64 0] from rfl];refine bE.intro (By D b Z l s (k:Nat) p 0 0 (by omega)) ?_;simp only[am];exact aL rfl (af.bg _) ⟨rfl,by rw[ee,eK]⟩
 | some q =>
  simp only[am,Nat.reduceAdd,c7,Int.reduceEq,bp.au,show vP (aa q)=[.int .i64 4,.int .i64 q] from rfl];refine bE.intro (FX D b Z l s (k:Nat) p 4 q (by omega)) ?_;simp only[am];exact aL rfl (af.bg _) ⟨rfl,by rw[ee]⟩
def af1:aU prog 109 (sq [rg 0 [od (aa 2) (.gO 1 (.s 0)),ox 3 5 1],rg 0 [od (aa 4) (.qm [(.raw .nilFunc)])],rg 5 [oq (.ko (.func 176) [] [(.s 2),(.s 4)]),o2 1 4],rg 6 [oo 4,ol 5 3,oq (.iX (.s 6) [(.s 7)])]]) [] 9:=aV func109 ⟨[2,4],[]⟩
def agO:aU prog 176 (sq [rg 0 [ox 3 5 0],rg 6 [oo 1,ol 5 3,oC 177 [6,7]],sq [rg 9 [fo 0 3,nB .eql 1,gB,fo 0 3,nB .eql 7,gZ],ci 16 .ret],rg 17 [fo 4 3,nL,oi 0],lp 19 0 (sq [rg 22 [oA 5 18 20,nl 5,oZ 5 [0,0,1,7,10],o2 5 5],rg 24 [oo 2,ol 5 5,oq (.iX (.s 24) [(.s 25)])]]) 27]) [] 28:=aV func176
def atl(D:af)(b Z b2 b4:Nat)(s:aN)(lat p:Int)(hs:s.ok)(hg:TZ D)(hb:D.box b=ag)(oH:lat<s.bz.length)(n2:b2≠b)(n4:b4≠b)(h2:D.box b2=aa [.ptr (.out b) 0])(h4:D.box b4=aa [.fn (.func 176) [] [.ptr (.out b2) 0,.ptr (.out b4) 0]]) :
 ∀(k:Nat) (n:Nd) (l:List aQ),n.wt<=k->l.length+n.cI<=90000000->n.cI<=100000->n.wt<=aK ->
 dS 176 [.agg n.enc,.ptr (.out b2) 0,.ptr (.out b4) 0] (de D b Z l s lat p) (.bt []) (de D b Z (l++f_ s lat n) s lat p):=by
 have e2:∀l,(de D b Z l s lat p).box b2=aa [.ptr (.out b) 0]:=λl=>by rw[BJ n2];exact h2
 have e4:∀l,(de D b Z l s lat p).box b4=aa [.fn (.func 176) [] [.ptr (.out b2) 0,.ptr (.out b4) 0]]:=λl=>by rw[BJ n4];exact h4
 intro k;induction k with
 | zero=>intro n l h;have:=Nd.ub n;have:=G5 n;omega
 | succ k ih =>
  intro n l hk hl hc hw;refine agO.aT ?_;simp only[aS,am,aZ,Nat.reduceAdd,Nd.au];simp only[am,Nd.au,e2];refine cl (XW D b Z l s lat p n (by omega) hs hg hb oH hc hw) ?_;have ha:=@GN s lat n;simp only[am,Nd.fl]
  by_cases Az:n.kind=1\/n.kind=7
  .have e:f_ s lat n=kY s lat n:=by rw[Ik,aE Az,eK]
   have qx:(decide (n.kind=1)=ab)\/(decide (n.kind=1)=ak/\decide (n.kind=7)=ab):=by
    by_cases h:n.kind=1
    .exact .inl (aJ h)
    .exact .inr ⟨aI h,aJ (by simpa [h] using Az)⟩
   rcases qx with e1 | ⟨e1,e7⟩
   case' inl=>simp only[am,e1]
   case' inr=>simp only[am,Nd.fl,e1,e7]
   all_goals exact aL rfl (af.bg _) ⟨rfl,by rw[e]⟩
  have e:f_ s lat n=kY s lat n++n.aj.flatMap (f_ s lat):=by rw[Ik,aA Az]
  simp only[am,aR,Nd.fl,aR,aI (λh=>Az (.inl h)),aI (λh=>Az (.inr h))];have EE:=Ak n;have xp:=Nd.ub n;refine dK (n.aj.length) (λi (x:Unit)=>⟨[.any,.ptr (.out b2) 0,.ptr (.out b4) 0,.ptr (.aD 0) 0,.any,.any,.any,.any,.any,.any,.any,.any,.any,.any,.any,.any,.any,.any,.sl .no 5 (n.aj.map Nd.enc),.int .i64 (n.aj.length:Nat),.int .i64 (i:Nat)]++ar 7 .any,[n.enc],de D b Z (l++kY s lat n++(n.aj.take i).flatMap (f_ s lat)) s lat p⟩) (λi x=>(True)) λF hF JF bn=>⟨?_,?_,?_⟩
  .exact en bn (()) (trivial)
  .rintro i x hi -;have hm:n.aj[i]∈n.aj:=fg _;have yZ:=rX hm;have y2:=qE hm;have hlen:=ama (s:=s) (lat:=lat) hi;simp only[hF,ar,am,dD hi];refine ix (o_ (cS hi)) ?_;simp only[am,Nd.au,e4];refine cl (ih n.aj[i] _ (by omega) (by simp only[bP];omega) (by omega) (by omega)) ?_;simp only[am,a_,cG hi,e9];refine fK (()) hi ?_ ?_ ?_ ?_ ?_ ?_
   .exact eU (bn _ _) (trivial)
   all_goals simp[hF,ar,am,bT,bR,dw,V.lo,K_ hi,e9,Nd.cT]
  .rintro x -;simp only[hF,ar,am,a_,dY,a_,fm];exact aL rfl (af.bg _) ⟨rfl,by rw[e,e9]⟩
def Yd(D:af)(b Z:Nat)(l:List aQ)(s:aN)(lat p:Int)(n:Nd)(hs:s.ok)(hg:TZ D)(hb:D.box b=ag)(oH:lat<s.bz.length)(hl:l.length+n.cI<=90000000)(hc:n.cI<=100000)(hw:n.wt<=aK) :
 dS 109 [.ptr (.out b) 0,.agg n.enc] (de D b Z l s lat p) (.bt []) (de D b Z (l++f_ s lat n) s lat p):=by
 have fresh:∀{x:Nat} {dz:af},(de dz b Z l s lat p).box x=ag->x≠b:=λ{x dz} h=>by rintro rfl;rw[JA] at h;simp at h
 refine af1.aT ?_;simp only[aS,am,aZ,Nat.reduceAdd];intro b2 ec;have n2:=fresh ec;rw[BJ n2] at ec;simp only[am,Nd.au];rw[Zf n2];intro b4 xf;have n4:=fresh xf;rw[BJ n4] at xf;have VK:b4≠b2:=by rintro rfl;simp[af.set] at xf
 have awn : D.box b4=none:=by simpa [af.set,VK] using xf
 simp only[am,Nd.au];rw[Zf n4];have xk:TZ ((D.set b2 [V.ptr (Pl.out b) 0]).set b4 [V.fn (Fn.func 176) [] [V.ptr (Pl.out b2) 0,V.ptr (Pl.out b4) 0]]):=hg;refine cl (atl _ b Z b2 b4 s lat p hs xk (by rw[qS n4.symm,qS n2.symm];exact hb) oH n2 n4 (by rw[qS VK.symm,jh]) jh n.wt n l (bS _) hl hc hw) ?_;simp only[am];exact aL rfl (af.Dn (Ze n2 ec) (Ze n4 xf)) ⟨rfl,rfl⟩
def af4:aU prog 111 (sq [rg 0 [ox 3 5 1],sq [rg 11 [fo 0 3,nB .eql 1],ci 13 (rg 14 [om 0,fo 2 3,fo 1 3,oc 107 [.s 14,.s 16,.s 18,.c (.int .i64 2)]])],sq [rg 20 [fo 0 3,nB .neq 10],ci 22 .ret],rg 4 [oz 6],sq [rg 23 [fo 4 3,nL,oi 0],lp 25 0 (sq [rg 28 [oA 5 24 26,nl 5,oZ 6 [0,0,1,7,10],o2 5 6],dg 30 [mk 0,nf 0,om 4,fo 2 6,oC 173 [33,35],nB .geq 0,of 1 6,mM [0],no,oc 110 [.s 32,.s 37,.c (.int .i64 4),.s 39]],rg 41 [om 4,fo 2 6,n1 1,na 1 41,o1 4],rg 46 [fo 4 6,nL,oi 0],lp 48 2 (sq [rg 51 [oA 5 47 49,nl 5,oZ 8 [0,0,1,7,10],o2 5 8],rg 53 [om 0,ol 5 8,oC 177 [53,54]]]) 56]) 57],sq [rg 58 [fo 3 3,nL,oi 0],lp 60 4 (sq [rg 63 [oA 2 59 61,nl 2,oZ 10 [1,0],o2 2 10],rg 65 [om 0,fo 0 10,fo 1 10,oc 107 [.s 65,.s 67,.s 69,.c (.int .i64 2)]]]) 71],dg 72 [mk 0,nf 0,fo 4 3,nL,nB .gtr 16,mk 0,nF 4,oc 110 [.s 74,.s 78,.c (.int .i64 7),.s 82]]]) [] 84:=aV func111
def asD{l:List (List UInt8)}{x:List UInt8}:cX (l++[x])=cX l++[[.aF x]]:=by simp[cX]
def BI{l:List aB}(h:j<l.length):(l.map aB.enc)[((j:Nat):Int).toNat]?=aa l[j].enc:=by simp[h]
def Yo(D:af)(b Z:Nat)(l:List aQ)(s:aN)(lat p:Int)(n:Nd)(hs:s.ok)(hg:TZ D)(hb:D.box b=ag)(oH:lat<s.bz.length)(hl:l.length<=30000000)(hc:n.cI<=100000)(hw:n.wt<=aK) :
 dS 111 [.ptr (.out b) 0,.agg n.enc] (de D b Z l s lat p) (.bt []) (de D b Z (l++ph s lat p n) s lat p):=by
 refine af4.aT ?_;simp only[aS,u7,Nat.reduceAdd]
 by_cases h1:n.kind=1
 .simp only[am,Nd.fl,aJ h1];refine cl (FV D b Z l s lat p n.pos 2 n.aq (by omega) hs) ?_;simp only[am,Nd.fl,aI (show ¬n.kind=10 by omega)];exact aL rfl (af.bg _) ⟨rfl,by rw[ph,aE h1]⟩
 simp only[am,Nd.fl,aI h1]
 by_cases jt:n.kind=10
 case neg =>
  simp only[am,aI jt];exact aL rfl (af.bg _) ⟨rfl,by rw[ph,aA h1,aA jt,eK]⟩
 simp only[am,aR,Nd.fl,aR,aJ jt];have Uk:ph s lat p n=pI s lat n.aj n.aj.length++xV s lat n.an++(if 16<n.aj.length then [⟨7,p⟩] else []):=by rw[ph,aA h1,aE jt]
 have EE:=Ak n;have xp:=D5 n;have fH:∀k∈n.aj,k.aj.length<=100000:=λk hk=>by have:=Ak k;have:=rX hk;omega
 have lI:∀{i:Nat},i<=n.aj.length->(pI s lat n.aj i).length<=100000:=λ{i} hi=>by
  have:=Lb (s:=s) (lat:=lat) hi
  have:=RC n.aj i
  have:=Nd.ub n
  omega
 refine dK (n.aj.length) (λi (x:Tk × af)=>⟨[.ptr (.out b) 0,.any,.any,.ptr (.aD 0) 0,.sl x.1 1 (cX ((n.aj.take i).map Nd.aq)),.any,.any,.any,.any,.any,.any,.any,.any,.any,.any,.any,.any,.any,.any,.any,.any,.any,.any,.any,.sl .no 5 (n.aj.map Nd.enc),.int .i64 (n.aj.length:Nat),.int .i64 (i:Nat)]++ar 57 .any,[n.enc],de x.2 b Z (l++pI s lat n.aj i) s lat p⟩) (λi x=>(Ah D x.2 Z x.1 i)) λF hF JF bn=>⟨?_,?_,?_⟩
 .refine en bn ((.ba,D)) (Ah.nil) ?_ ?_ ?_
  all_goals simp[hF,ar,am,bT,pI,cX]
 .rintro i ⟨tk,cU⟩ hi hA;simp only at hA;have hm:n.aj[i]∈n.aj:=fg _;have yZ:=rX hm;have y2:=qE hm;have s_:=fH _ hm;have hL:=lI (J_ hi);have HO:TZ cU:=hA.sub.2.2 _ _ hg;have e_:cU.box b=none:=by rw[hA.box];exact hb
  have y6:((n.aj.take i).map Nd.aq).length=i:=by simp;omega
  have xl:n.aj.getD i kM=n.aj[i]:=r9 hi;simp only[hF,ar,am,dD hi];refine ix (o_ (cS hi)) ?_;simp only[am,Nd.au,Nd.fl];refine bE.intro (cz.eT (as' := [.sl .no 1 (cX ((n.aj.take i).map Nd.aq)),.aF n.aj[i].aq]) (w9 ((n.aj.take i).map Nd.aq) n.aj[i].aq _ (by omega)) ⟨dT.no,dT.rfl,trivial⟩ bK.rfl) ?_;simp only[am,Nd.fl,N2];have ed:vG n.aj i=if (iL ((n.aj.take i).map Nd.aq) n.aj[i].aq).isSome then [⟨4,n.aj[i].pos⟩] else []:=by rw[vG,xl]
  have TT:(vG n.aj i).length<=1:=by rw[ed];split<;>simp
  refine bE.intro (xX cU b Z (l++pI s lat n.aj i) s lat p 4 n.aj[i].pos _ (by simp only[bP];omega)) ?_;rw[<-ed];simp only[am,Nd.fl];refine Ah.app (by rw[ia,y6];exact hA) (by simp[ia,aK];omega) λku fc Co=>?_
  have Co:Ah D fc Z ku (i+1):=by rw[bP,ia,y6] at Co;exact Co
  have xk:TZ fc:=Co.sub.2.2 _ _ hg;have ec:fc.box b=none:=by rw[Co.box];exact hb
  simp only[am,aR,Nd.fl,aR];refine dK (n.aj[i].aj.length) (λj (y:Unit)=>⟨[.ptr (.out b) 0,.any,.any,.ptr (.aD 0) 0,.sl ku 1 (cX ((n.aj.take i).map Nd.aq)++[[.aF n.aj[i].aq]]),.any,.any,.any,.any,.any,.any,.any,.any,.any,.any,.any,.any,.any,.any,.any,.any,.any,.any,.any,.sl .no 5 (n.aj.map Nd.enc),.int .i64 (n.aj.length:Nat),.int .i64 (i:Nat),.any,.any,.any,.any,.any,.any,.any,.any,.any,.any,.any,.any,.any,.any,.any,.any,.any,.any,.any,.any,.sl .no 5 (n.aj[i].aj.map Nd.enc),.int .i64 (n.aj[i].aj.length:Nat),.int .i64 (j:Nat)]++ar 34 .any,[n.enc,n.aj[i].enc],de fc b Z (l++pI s lat n.aj i++vG n.aj i++(n.aj[i].aj.take j).flatMap (kY s lat)) s lat p⟩) (λj y=>(True)) λF2 ep yf iO=>⟨?_,?_,?_⟩
  .refine en iO (()) (trivial) ?_ ?_ ?_
   all_goals simp[ep,ar,am,bT]
  .rintro j y hj -;have CH:n.aj[i].aj[j]∈n.aj[i].aj:=fg _;have akU:=rX CH;have akV:=qE CH;have hL2:((n.aj[i].aj.take j).flatMap (kY s lat)).length<=100000:=by
    have:=D' (f:=kY s lat) (m:=1) (l:=n.aj[i].aj.take j) λ_ _=>GN
    rw[tV,jj] at this;omega
   simp only[ep,ar,am,dD hj];refine ix (o_ (cS hj)) ?_;simp only[am,Nat.reduceAdd,Nd.au];refine cl (XW fc b Z _ s lat p n.aj[i].aj[j] (by simp only[bP];omega) hs xk ec oH (by omega) (by omega)) ?_;simp only[am,a_,cG hj];refine fK (()) hj ?_ ?_ ?_ ?_ ?_ ?_
   .exact eU (iO _ _) (trivial)
   all_goals simp[ep,ar,am,bT,bR,dw,V.lo,K_ hj,e9,Nd.cT]
  .rintro y -;simp only[ep,ar,am,a_,dY,Nat.reduceEqDiff,a_,reduceCtorEq,Nd.fl,aR,fm,cG hi];have ef:pI s lat n.aj (i+1)=pI s lat n.aj i++(vG n.aj i++n.aj[i].aj.flatMap (kY s lat)):=by rw[SI,Aw,xl]
   have et:(n.aj.take (i+1)).map Nd.aq=(n.aj.take i).map Nd.aq++[n.aj[i].aq]:=by rw[jl hi,gy];rfl
   refine fK ((ku,fc)) hi ?_ ?_ ?_ ?_ ?_ ?_
   .exact eU (bn _ _) (Co)
   all_goals simp[hF,ar,am,bT,bR,dw,V.lo,ef,et,asD,e9,Nd.cT]
 .rintro⟨tk,cU⟩ hA;simp only at hA;have hL:=lI (bS _);simp only[hF,ar,am,a_,dY,a_,Nd.fl,aR];refine dK (n.an.length) (λj (y:Unit)=>⟨[.ptr (.out b) 0,.any,.any,.ptr (.aD 0) 0,.any,.any,.any,.any,.any,.any,.any,.any,.any,.any,.any,.any,.any,.any,.any,.any,.any,.any,.any,.any,.any,.any,.any,.any,.any,.any,.any,.any,.any,.any,.any,.any,.any,.any,.any,.any,.any,.any,.any,.any,.any,.any,.any,.any,.any,.any,.any,.any,.any,.any,.any,.any,.any,.any,.any,.sl .no 2 (n.an.map aB.enc),.int .i64 (n.an.length:Nat),.int .i64 (j:Nat)]++ar 22 .any,[n.enc],de cU b Z (l++pI s lat n.aj n.aj.length++xV s lat (n.an.take j)) s lat p⟩) (λj y=>(True)) λF3 ug Zt Ek=>⟨?_,?_,?_⟩
  .refine en Ek (()) (trivial) ?_ ?_ ?_
   all_goals simp[ug,ar,am,bT,xV]
  .rintro j y hk -;have Tw:=@O' s lat (n.an.take j);rw[jj] at Tw;simp only[ug,ar,am,dD hk];refine ix (BI hk) ?_;simp only[am,kc,aB.au];refine cl (FV cU b Z _ s lat p n.an[j].pos 2 n.an[j].aq (by simp only[bP];omega) hs) ?_;simp only[am,a_,cG hk];have ef:xV s lat (n.an.take (j+1))=xV s lat (n.an.take j)++iH s lat n.an[j].aq n.an[j].pos 2:=by rw[xV,K_ hk];rfl
   refine fK (()) hk ?_ ?_ ?_ ?_ ?_ ?_
   .exact eU (Ek _ _) (trivial)
   all_goals simp[ug,ar,am,bT,bR,dw,V.lo,ef,e9,Nd.cT]
  .rintro y -;have Tw:=@O' s lat n.an;simp only[ug,ar,am,a_,dY,a_,kc,Nd.fl,aR,fm];have bound:(l++pI s lat n.aj n.aj.length++xV s lat n.an).length<=100000000:=by simp only[bP];omega
   by_cases yJ:16<n.aj.length
   .rw[aJ (show(16:Int)<(n.aj.length:Nat) by omega)];refine bE.intro (FX cU b Z _ s lat p 7 p bound) ?_;simp only[am];exact aL rfl (Zd hA.sub) ⟨rfl,by rw[Uk,aE yJ];simp only[e9]⟩
   .rw[aI (show ¬(16:Int)<(n.aj.length:Nat) by omega)];refine bE.intro (By cU b Z _ s lat p 7 p bound) ?_;simp only[am];exact aL rfl (Zd hA.sub) ⟨rfl,by rw[Uk,aA yJ,eK,e9]⟩
def M4(ya:Int)(l:List al)(fin:Int)(D:af)(at_ Z:Nat)(out:List Nd):St :=
 ⟨[.int .i64 ya,.sl .no 5 (b_ l),.int .i64 (at_:Nat),.int .i64 fin]++ar 4 .any++[.any,.ptr (.aD 0) 0,.sl (.tk Z) 5 (out.map Nd.enc)]++ar 24 .any,[C_],D.aY Z out.length⟩
def Yh(ya:Int)(one:List al->Int->Int->br)(yP:sL one)(l:List al)(fin:Int)(D:af)(hb:l.length+1<=aK)
 (fE:∀(a:Nat),a<=l.length->∀(D:af),a7 156 [.int .i64 ya,.sl .no 5 (b_ l),.int .i64 (a:Nat),.int .i64 fin] D (.agg (one l a fin).enc)) :
 a7 155 [.int .i64 ya,.sl .no 5 (b_ l),.int .i64 0,.int .i64 fin] D (.bt [.sl .no 5 ((dq (λi=>one l i fin) l (l.length+1) 0 []).1.map Nd.enc),.agg (dq (λi=>one l i fin) l (l.length+1) 0 []).2.enc]):=by
 generalize hR:dq (λi=>one l i fin) l (l.length+1) 0 []=R;refine SQ.aT ?_;simp only[aS,am,aZ,Nat.reduceAdd]
 let I:{p:Nat × Nat × Nat × List Nd // D.aP p.2.2.1=ag/\dq (λi=>one l i fin) l p.1 (p.2.1:Nat) p.2.2.2=R/\p.2.2.2.length<=p.2.1/\p.2.1<=l.length/\l.length+1<=p.2.1+p.1}->St:=λp=>M4 ya l fin D p.1.2.1 p.1.2.2.1 p.1.2.2.2
 refine gn I (λp=>p.1.1) ?_ ?_
 .refine bm.sH 0 λZ bc=>⟨⟨(l.length+1,0,Z,[]),bc,hR,by simp,by simp,by simp⟩,?_,rfl,rfl⟩
  simp[I,M4,ar,kJ]
 .rintro⟨⟨m,at_,Z,out⟩,bc,hR,h1,h2,h3⟩;simp only at bc hR h1 h2 h3;have hm:∃k,m=k+1:=⟨m - 1,by omega⟩;obtain⟨m,rfl⟩:=hm;simp only[I,M4,ar,am,C_];refine(fE at_ h2 _).mono ?_;rintro v σ' ⟨rfl,rfl⟩;simp only[dq] at hR;have hK:=yP l at_ fin;generalize hg:one l at_ fin=g at *;simp only[am,Nat.reduceAdd,br.enc,Nat.reduceAdd];cases bU:g.aG
  .rw[bU] at hR;simp only[am,Nat.reduceAdd];have hK:=hK bU;refine iy (by simp;omega) (by simp[gw]) ?_;simp only[am,aR,gJ];refine(gR l g.next 44 _).mono ?_;rintro v σ' ⟨rfl,rfl⟩;cases mf:a8 l g.next 44
   .simp only[am,Nat.reduceAdd];refine aL rfl (jQ bc) ⟨?_,rfl⟩;rw[mf] at hR;simp only[da,bZ] at hR;simp[V.erase,aX,<-hR,bU,Nd.cJ]
   .have aC:=o7 mf;simp only[aK] at hb;obtain⟨b,cc⟩:=wK aC.1;simp only[am];rw[wrap_i64];rw[mf] at hR;simp only[da,bZ,cm] at hR;refine bm.ql ⟨(m,b+1,Z,out++[g.node]),bc,?_,by simp;omega,by simp only;omega,by simp only;omega⟩ (by simp) ?_ ?_ ?_ rfl rfl
    .rw[<-hR];congr 1;simp only;omega
    .simp[am,Nd.cJ];omega
    .simp[am]
    .simp[bK.rfl]
  .rw[bU] at hR;simp only[am,Nat.reduceAdd];refine aL rfl (jQ bc) ⟨?_,rfl⟩;simp[V.erase,aX,<-hR,bU]
def Pw(ya:Int)(one:List al->Int->Int->br)(yP:sL one)(t:al)(empty:Bool)(D:af)(hb:t.aj.length+1<=aK)
 (fE:∀(a:Nat),a<=t.aj.length->∀(D:af),a7 156 [.int .i64 ya,.sl .no 5 (b_ t.aj),.int .i64 (a:Nat),.int .i64 t.fin] D (.agg (one t.aj a t.fin).enc)) :
 a7 152 [.int .i64 ya,.agg t.enc,.bool empty] D (.bt [.sl .no 5 ((wholeAt one t empty).1.map Nd.enc),.agg (wholeAt one t empty).2.enc]):=by
 refine SO.aT ?_;simp only[aS,am,aZ,am,cJ,Nat.reduceAdd];have main:∀(aW:¬(empty=ab/\t.aj.length=0)),wholeAt one t empty=if (dq (λi=>one t.aj i t.fin) t.aj (t.aj.length+1) 0 []).2.aG=ak/\(dq (λi=>one t.aj i t.fin) t.aj (t.aj.length+1) 0 []).2.next<t.aj.length then([],dr t.aj (dq (λi=>one t.aj i t.fin) t.aj (t.aj.length+1) 0 []).2.next t.fin) else(dq (λi=>one t.aj i t.fin) t.aj (t.aj.length+1) 0 []):=λaW=>by
  unfold wholeAt;rw[aA aW]
 by_cases hc:empty=ab/\t.aj.length=0
 .obtain⟨rfl,hk⟩:=hc;simp only[am,Nat.reduceAdd,dt,bL,dt,hk,sO,bL];refine aL rfl (af.bg _) ⟨?_,rfl⟩;simp[V.erase,aX,wholeAt,hk,br.enc,Nd.zero,Nd.kind,Nd.pos,Nd.aq,Nd.an,Nd.aj]
 .have main:=main hc;cases empty
  case' true =>
   have hk:¬((t.aj.length:Int)=0):=by simp at hc ⊢;exact hc
   simp only[am,dt,c7,dt,hk,c7]
  case' false =>
   simp only[am]
  all_goals
   refine cl (Yh ya one yP t.aj t.fin D hb fE) ?_;generalize (dq (λi=>one t.aj i t.fin) t.aj (t.aj.length+1) 0 [])=R at main ⊢;simp only[am,Nat.reduceAdd,br.enc,Nat.reduceAdd];cases bU:R.2.aG
   .simp only[am,dt]
    by_cases hn:R.2.next<t.aj.length
    .simp only[am,bL,hn,bL];refine cl (lX t.aj R.2.next t.fin D) ?_;simp only[am,Nat.reduceAdd,br.enc];refine aH ?_;simp[V.erase,aX,main,bU,hn]
    .simp only[am,Nat.reduceAdd,c7,hn,c7];refine aH ?_;simp[V.erase,aX,main,bU,hn]
   .simp only[am,Nat.reduceAdd];refine aH ?_;simp[V.erase,aX,main,bU]
def SP:aU prog 154 (sq [rg 0 [oZ 6 [0,0,1,7,10,0,2,0]],sq [rg 12 [om 0,om 1,oc 150 [.s 12,.s 13,.c (.int .u8 97)]],ci 14 (sq [dg 15 [om 0,om 1,nA 5 15,nf 0,nF 2,om 0,om 1,nA 5 21,nf 0,nF 1,oG [0,0,1,7,10] [(0,1,.c (.int .i64 2)),(1,1,.s 20),(2,1,.s 26)],om 1,nB .add 1,oW [0,0,1,7,10,0,2,0] [(0,5,27),(5,1,29)],o2 8 6],.ret])],rg 7 [oi 0,oi 0],sq [rg 31 [om 0,om 1,oc 150 [.s 31,.s 32,.c (.int .u8 123)]],cd 33 (rg 7 [oi 6,oi 3]) (sq [rg 34 [om 0,om 1,oc 150 [.s 34,.s 35,.c (.int .u8 40)]],cd 36 (rg 7 [oi 1,oi 4]) (sq [rg 37 [om 0,om 1,oc 150 [.s 37,.s 38,.c (.int .u8 91)]],cd 39 (rg 7 [oi 2,oi 5]) (sq [rg 40 [om 0,om 1,om 2,oC 151 [40,41,42],o2 8 6],.ret])])])],rg 45 [om 7,om 0,om 1,nA 5 46,nl 5,om 8,nB .neq 4,oC 152 [45,49,51],o1 44,oe 44 0,oe 44 1,oZ 10 [0,0,1,7,10,0,2,0],ot 9 53,o2 8 10],sq [rg 55 [fo 6 10],cr 56 57 [ol 8 10,o2 8 6]],rg 58 [om 8,om 0,om 1,nA 5 59,nf 0,nF 2,om 9,oW [0,0,1,7,10] [(0,1,58),(1,1,64),(4,1,65)],oZ 11 [0,0,1,7,10],o2 5 11],sq [rg 67 [om 8,nB .eql 3],ci 68 (sq [rg 69 [om 9,oC 153 [69],of 3 11,os 1 71 70],rg 72 [of 4 11,od ag (.store 1 (.s 72) (.c (.sl .ba 5 [])))]])],rg 73 [ol 5 11,om 1,nB .add 1,oW [0,0,1,7,10,0,2,0] [(0,5,73),(5,1,75)],o2 8 6],.ret]) [.cell 6 ab 8] 77:=aV func154
def ag8:aU prog 209 (sq [rg 0 [oZ 6 [0,0,1,7,10,0,2,0]],sq [rg 7 [oi 0],bl 0 (sq [sq [rg 11 [om 7,nB .lss 3],cx 12 0],.block 1 (sq [rg 15 [oq (.jn 1 [(.c (.int .u8 97)),(.c (.int .u8 58)),(.c (.int .u8 123))]),o1 8],rg 16 [om 0,om 1,om 7,nb .add 17,om 8,om 7,nA 1 20,no,oC 150 [16,19,23],nn],cr 25 26 [om 0,om 1,om 7,nb .add 27,om 2,oC 151 [26,29,30],o2 8 6]]),rg 13 [ic 7]])],rg 33 [om 0,om 1,nB .add 2,nA 5 33,nl 5,oc 152 [.c (.int .i64 6),.s 37,.c (.bool ab)],o1 32,oe 32 0,oe 32 1,oZ 10 [0,0,1,7,10,0,2,0],ot 9 39,o2 8 10],sq [rg 41 [fo 6 10],cr 42 43 [ol 8 10,o2 8 6]],dg 44 [om 0,om 1,nA 5 44,nf 0,nf 2,mM [1],no,om 0,om 1,nA 5 50,nf 0,nf 1,mM [1],no,om 9,oC 153 [56],oG [0,0,1,7,10] [(0,1,.c (.int .i64 6)),(1,1,.s 49),(2,1,.s 55),(3,1,.s 57)],om 1,nB .add 3,oW [0,0,1,7,10,0,2,0] [(0,5,58),(5,1,60)],o2 8 6],.ret]) [.cell 6 ab 8] 62:=aV func209
variable{l:List al}
def sI{t:al}(h:l[j]?=aa t):bJ l (j:Nat)=t/\fC l (j:Nat)=t.tok:=by simp[bJ,fC,h]
def A1{t:al}(h:l[j]?=aa t):bd t.aj+1<=bd l:=by
 have hl:=(fv.1 h).1;have h1:=NI hl;have h3:l[j]=t:=by rw[cS hl] at h;simpa using h
 rw[h3] at h1;exact h1
def PZ(n:Nat)(l:List al):Prop:=∀(a fin:Int) (D:af),a7 154 [.sl .no 5 (b_ l),.int .i64 a,.int .i64 fin] D (.agg (gY n l a fin).enc)
def JP(n:Nat)(l:List al):Prop:=∀(a fin:Int) (D:af),a7 94 [.sl .no 5 (b_ l),.int .i64 a,.int .i64 fin] D (.agg (fz n l a fin).enc)
def apu{n:Nat}(h:PZ n l)(a fin:Int)(D:af):a7 156 [.int .i64 1,.sl .no 5 (b_ l),.int .i64 a,.int .i64 fin] D (.agg (gY n l a fin).enc):=by
 refine Ci.aT ?_;simp only[aS,am,aZ,Nat.reduceAdd,bL];refine cl (h a fin D) ?_;simp only[am,Nat.reduceAdd,br.enc];refine aH ?_;simp[V.erase,aX]
def JE:=ah @am <| ah @aZ <| ah @bL @c7
def apz{n:Nat}(h:JP n l)(a fin:Int)(D:af):a7 156 [.int .i64 3,.sl .no 5 (b_ l),.int .i64 a,.int .i64 fin] D (.agg (fz n l a fin).enc):=by
 refine Ci.aT ?_;simp only[aS,JE,Nat.reduceAdd,Int.reduceEq];refine cl (h a fin D) ?_;simp only[am,Nat.reduceAdd,br.enc];refine aH ?_;simp[V.erase,aX]
def apB{n:Nat}(h:JP n l)(a fin:Int)(D:af):a7 156 [.int .i64 5,.sl .no 5 (b_ l),.int .i64 a,.int .i64 fin] D (.agg (np n l a fin).enc):=by
 refine Ci.aT ?_;simp only[aS,JE,Nat.reduceAdd,Int.reduceEq];refine cl (gR l a 43 D) ?_;cases nz:a8 l a 43
 .simp only[am];refine cl (gR l a 38 D) ?_;cases mO:a8 l a 38
  .simp only[am];refine cl (h a fin D) ?_;simp only[am,Nat.reduceAdd,br.enc];refine aH ?_;simp[V.erase,aX,np,nz,mO]
  .simp only[am];refine cl (lX l a fin D) ?_;simp only[am,Nat.reduceAdd,br.enc];refine aH ?_;simp[V.erase,aX,np,nz,mO]
 .simp only[am];refine cl (lX l a fin D) ?_;simp only[am,Nat.reduceAdd,br.enc];refine aH ?_;simp[V.erase,aX,np,nz]
def al7:List (List V):=[[.int .u8 97],[.int .u8 58],[.int .u8 123]]
def uB(k:Nat):Int:=if k=0 then 97 else if k=1 then 58 else 123
def M3(l:List al)(a fin:Int)(D:af)(k:Nat):St :=
 ⟨[.sl .no 5 (b_ l),.int .i64 a,.int .i64 fin,.any,.any,.any,.ptr (.aD 0) 0,.int .i64 (k:Nat)]++ar 54 .any,[C_],D⟩
def asp(l:List al)(a fin:Int)(D:af)(hm:bd l+1<=aK)(ha : -1000<=a)(yN:a<=aK):a7 209 [.sl .no 5 (b_ l),.int .i64 a,.int .i64 fin] D (.agg (qc l a fin).enc):=by
 have hlen:=gm l;simp only[aK] at hm yN;have wk:∀k:Nat,k<=3->IntKind.i64.wrap (a+(k:Int))=a+(k:Int):=λk hk=>wrap_i64 (by omega) (by omega)
 refine ag8.aT ?_;simp only[aS,am,aZ,Nat.reduceAdd];refine gn (λp:{k:Nat // k<=3/\∀j,j<k->a8 l (a+(j:Nat)) (uB j)=ab}=>M3 l a fin D p.1) (λp=>3 - p.1) ?_ ?_
 .refine bm.enter ⟨0,by simp,by simp⟩ ?_ cC.rfl bK.rfl;simp[M3,ar,am]
 .rintro⟨k,hk,cK⟩;simp only[M3,ar,am,C_]
  by_cases aC:k<3
  .simp only[am,aJ (show(k:Int)<3 by omega)];rw[show([[V.int .u8 97],[V.int .u8 58],[V.int .u8 123]]:List (List V))=al7 from rfl];refine lM (c:=[.int .u8 (uB k)]) (by match k,aC with | 0,_=>rfl | 1,_=>rfl | 2,_=>rfl) ?_;simp only[am,wk k hk];refine cl (gR l (a+(k:Nat)) (uB k) D) ?_;cases hc:a8 l (a+(k:Nat)) (uB k)
   .simp only[am,wk k hk];refine cl (lX l (a+(k:Nat)) fin D) ?_;simp only[am,Nat.reduceAdd,br.enc];refine aL rfl (af.bg _) ⟨?_,rfl⟩;have bx:qc l a fin=dr l (a+(k:Nat)) fin:=by
     unfold qc
     match k,aC with
     | 0,_=>rw[aE (by simpa [uB] using hc)];simp
     | 1, _ =>
      have h0:=cK 0 (by omega);rw[aA (by simpa [uB] using h0),aE (by simpa [uB] using hc)];rfl
     | 2, _ =>
      have h0:=cK 0 (by omega);have h1:=cK 1 (by omega);rw[aA (by simpa [uB] using h0),aA (by simpa [uB] using h1),aE (by simpa [uB] using hc)];rfl
    rw[bx];simp[V.erase,aX]
   .have wi:IntKind.i64.wrap ((k:Int)+1)=((k+1:Nat):Int):=by rw[wrap_i64];simp
    simp only[am,wi];refine bm.again ⟨k+1,by omega,λj hj=>?_⟩ (by simp;omega) (by simp[am]) (by simp[am]) bK.rfl
    by_cases e:j=k
    .subst e;exact hc
    .exact cK j (by omega)
  .obtain rfl:k=3:=by omega
   have h0:a8 l a 97=true:=by simpa [uB] using cK 0 (by omega)
   have h1:a8 l (a+1) 58=true:=cK 1 (by omega);have h2:a8 l (a+2) 123=true:=cK 2 (by omega);obtain⟨j,t0,rfl,qu,_,CE⟩:=iB h0;obtain⟨j2,t,AH,hj,_,hl⟩:=iB h2;obtain rfl:j2=j+2:=by omega
   have w2:IntKind.i64.wrap ((j:Int)+2)=((j+2:Nat):Int):=by rw[wrap_i64];simp
   have w3:IntKind.i64.wrap ((j:Int)+3)=(j:Int)+3:=wrap_i64 (by omega) (by omega);have hk:=A1 hj;obtain⟨_,fZ⟩:=sI qu;have ht:bJ l ((j:Int)+2)=t:=(sI hj).1;have bx:qc l (j:Nat) fin=if (wholeAt nameAt t ab).2.aG=ab then(wholeAt nameAt t ab).2 else ⟨.mk 6 t0.tok.pos t0.tok.aq (jT (wholeAt nameAt t ab).1) [],(j:Int)+3,ak,0⟩:=by simp[qc,h0,h1,h2,ht,fZ]
   simp only[am,c7,show(((3:Nat):Int)<3)=False by simp,w2];refine ix (gz hj) ?_;simp only[am,al.au];refine cl (Px t ab D (by have:=gm t.aj;simp only[aK];omega)) ?_;have qA:=Py (one:=nameAt) t ab;have rn:=gm t.aj;generalize wholeAt nameAt t ab=R at bx qA ⊢;simp only[am,Nat.reduceAdd,br.enc];cases bU:R.2.aG
   .simp only[am];refine ix (gz qu) ?_;simp only[am,al.fl];refine ix (gz qu) ?_;simp only[am,al.fl];refine bE.intro (C8 R.1 D (by simp only[aK];omega)) ?_;simp only[am,Nat.reduceAdd,w3,al.fl];refine aH ?_;simp[V.erase,aX,bx,bU,Nd.kind,Nd.pos,Nd.aq,Nd.an,Nd.aj]
   .simp only[am,Nat.reduceAdd];refine aH ?_;simp[V.erase,aX,bx,bU]
def apy(hm:bd l+1<=aK)(a:Nat)(ha:a<=aK)(fin:Int)(D:af):a7 156 [.int .i64 2,.sl .no 5 (b_ l),.int .i64 (a:Nat),.int .i64 fin] D (.agg (qc l a fin).enc):=by
 refine Ci.aT ?_;simp only[aS,JE,Nat.reduceAdd,Int.reduceEq];refine cl (asp l a fin D hm (by omega) (by omega)) ?_;simp only[am,Nat.reduceAdd,br.enc];refine aH ?_;simp[V.erase,aX]
def acP:∀(n:Nat) (l:List al),bd l<=n->bd l+1<=aK->PZ n l:=by
 intro n;induction n with
 | zero =>
  intro l hn hm a fin D;obtain rfl:l=[]:=by cases l with | nil=>rfl | cons t ts=>simp only[bd] at hn;omega
  have hk:∀k,a8 [] a k=false:=λk=>by simp[a8]
  refine SP.aT ?_;simp only[aS,am,aZ,Nat.reduceAdd];refine cl (gR [] a 97 D) ?_;simp only[am,hk];refine cl (gR [] a 123 D) ?_;simp only[am,hk];refine cl (gR [] a 40 D) ?_;simp only[am,hk];refine cl (gR [] a 91 D) ?_;simp only[am,hk];refine cl (lX [] a fin D) ?_;simp only[am,Nat.reduceAdd,br.enc];refine aH ?_;simp[V.erase,aX,gY,qG,hk]
 | succ n ih =>
  intro l hn hm a fin D;have hlen:=gm l;refine SP.aT ?_;simp only[aS,am,aZ,Nat.reduceAdd];refine cl (gR l a 97 D) ?_;cases cZ:a8 l a 97
  .simp only[am];refine cl (gR l a 123 D) ?_;cases xb:a8 l a 123
   .simp only[am];refine cl (gR l a 40 D) ?_;cases sa:a8 l a 40
    .simp only[am];refine cl (gR l a 91 D) ?_;cases s5:a8 l a 91
     .simp only[am];refine cl (lX l a fin D) ?_;simp only[am,Nat.reduceAdd,br.enc];refine aH ?_;simp[V.erase,aX,gY,cZ,xb,sa,s5]
     .obtain⟨j,t,rfl,hj,_,hl⟩:=iB s5;have hk:=A1 hj;have rn:=gm t.aj;obtain⟨ht,fZ⟩:=sI hj;have w1:IntKind.i64.wrap ((j:Int)+1)=(j:Int)+1:=by simp only[aK] at hm;exact wrap_i64 (by omega) (by omega)
      have bx:gY (n+1) l (j:Nat) fin=iA (wholeAt qc t ab) (λks=>.mk 5 t.tok.pos [] [] ks) ((j:Int)+1):=by simp[gY,cZ,xb,sa,s5,ht,fZ]
      simp only[am];refine ix (gz hj) ?_;simp only[am,c7,al.au,Int.reduceEq];refine cl (Pw 2 qc QF t ab D (by omega) (λa ha D=>apy (by omega) a (by omega) t.fin D)) ?_;generalize wholeAt qc t ab=R at bx ⊢;simp only[am,Nat.reduceAdd,br.enc];cases bU:R.2.aG
      .simp only[am];refine ix (gz hj) ?_;simp only[am,Nat.reduceAdd,c7,Int.reduceEq,al.fl];simp only[w1];refine aH ?_;simp[V.erase,aX,bx,iA,bU,Nd.kind,Nd.pos,Nd.aq,Nd.an,Nd.aj]
      .simp only[am,Nat.reduceAdd];refine aH ?_;simp[V.erase,aX,bx,iA,bU]
    .obtain⟨j,t,rfl,hj,_,hl⟩:=iB sa;have hk:=A1 hj;obtain⟨ht,fZ⟩:=sI hj;have w1:IntKind.i64.wrap ((j:Int)+1)=(j:Int)+1:=by simp only[aK] at hm;exact wrap_i64 (by omega) (by omega)
     have bx:gY (n+1) l (j:Nat) fin=iA (wholeAt (gY n) t ak) (λks=>.mk 4 t.tok.pos [] [] ks) ((j:Int)+1):=by simp[gY,cZ,xb,sa,ht,fZ]
     simp only[am];refine ix (gz hj) ?_;simp only[am,bL,al.au];refine cl (Pw 1 (gY n) (Kg n) t ak D (by have:=gm t.aj;omega) (λa _ D=>apu (ih t.aj (by omega) (by omega)) a t.fin D)) ?_;generalize wholeAt (gY n) t ak=R at bx ⊢;simp only[am,Nat.reduceAdd,br.enc];cases bU:R.2.aG
     .simp only[am];refine ix (gz hj) ?_;simp only[am,Nat.reduceAdd,c7,Int.reduceEq,al.fl];simp only[w1];refine aH ?_;simp[V.erase,aX,bx,iA,bU,Nd.kind,Nd.pos,Nd.aq,Nd.an,Nd.aj]
     .simp only[am,Nat.reduceAdd];refine aH ?_;simp[V.erase,aX,bx,iA,bU]
   .obtain⟨j,t,rfl,hj,_,hl⟩:=iB xb;have hk:=A1 hj;have rn:=gm t.aj;obtain⟨ht,fZ⟩:=sI hj;have w1:IntKind.i64.wrap ((j:Int)+1)=(j:Int)+1:=by simp only[aK] at hm;exact wrap_i64 (by omega) (by omega)
    have bx:gY (n+1) l (j:Nat) fin=iA (wholeAt nameAt t ab) (λks=>.mk 3 t.tok.pos [] (jT ks) []) ((j:Int)+1):=by simp[gY,cZ,xb,ht,fZ]
    simp only[am];refine ix (gz hj) ?_;simp only[am,c7,al.au,Int.reduceEq];refine cl (Px t ab D (by omega)) ?_;have qA:=Py (one:=nameAt) t ab;generalize wholeAt nameAt t ab=R at bx qA ⊢;simp only[am,Nat.reduceAdd,br.enc];cases bU:R.2.aG
    .simp only[am];refine ix (gz hj) ?_;simp only[am,Nat.reduceAdd,bL,al.fl];refine cl (C8 R.1 D (by omega)) ?_;simp only[am,Nat.reduceAdd,w1];refine aH ?_;simp[V.erase,aX,bx,iA,bU,Nd.kind,Nd.pos,Nd.aq,Nd.an,Nd.aj]
    .simp only[am,Nat.reduceAdd];refine aH ?_;simp[V.erase,aX,bx,iA,bU]
  .obtain⟨j,t,rfl,hj,_,hl⟩:=iB cZ;obtain⟨ht,fZ⟩:=sI hj;have w1:IntKind.i64.wrap ((j:Int)+1)=(j:Int)+1:=by simp only[aK] at hm;exact wrap_i64 (by omega) (by omega)
   simp only[am];refine ix (gz hj) ?_;simp only[am,al.fl];refine ix (gz hj) ?_;simp only[am,Nat.reduceAdd,al.fl,w1];refine aH ?_;simp[V.erase,aX,gY,qG,cZ,fZ,br.enc,Nd.kind,Nd.pos,Nd.aq,Nd.an,Nd.aj]
def SS:aU prog 94 (sq [rg 0 [oZ 6 [0,0,1,7,10,0,2,0]],sq [rg 11 [om 0,om 1,oc 150 [.s 11,.s 12,.c (.int .u8 97)]],ci 13 (sq [dg 14 [om 0,om 1,nA 5 14,nf 0,nF 2,om 0,om 1,nA 5 20,nf 0,nF 1,oG [0,0,1,7,10] [(0,1,.c (.int .i64 1)),(1,1,.s 19),(2,1,.s 25)],om 1,nB .add 1,oW [0,0,1,7,10,0,2,0] [(0,5,26),(5,1,28)],o2 8 6],.ret])],sq [rg 30 [om 0,om 1,oc 150 [.s 30,.s 31,.c (.int .u8 35)]],ci 32 (sq [rg 33 [om 0,om 1,nB .add 1,om 2,oC 154 [33,35,36],oZ 7 [0,0,1,7,10,0,2,0],o2 8 7],sq [rg 38 [fo 6 7,nn],ci 40 (dg 41 [om 0,om 1,nA 5 41,nf 0,nF 2,of 0 7,nl 5,n1 5,oG [0,0,1,7,10] [(0,1,.c (.int .i64 7)),(1,1,.s 46),(4,1,.s 49)],of 0 7,os 5 51 50])],rg 52 [ol 8 7,o2 8 6],.ret])],sq [rg 53 [om 0,om 1,oc 150 [.s 53,.s 54,.c (.int .u8 43)],nn,gA,om 0,om 1,oc 150 [.s 58,.s 59,.c (.int .u8 38)],nn,gZ],cr 62 63 [om 0,om 1,om 2,oC 151 [63,64,65],o2 8 6]],sq [rg 67 [om 0,om 1,nB .add 1,oc 150 [.s 67,.s 69,.c (.int .u8 40)],nn],cr 71 72 [om 0,om 1,nB .add 1,om 2,oC 151 [72,74,75],o2 8 6]],rg 78 [om 0,om 1,nB .add 1,nA 5 78,nl 5,oc 152 [.c (.int .i64 3),.s 82,.c (.bool ak)],o1 77,oe 77 0,oe 77 1,oZ 9 [0,0,1,7,10,0,2,0],ot 8 84,o2 8 9],sq [rg 86 [fo 6 9],cr 87 88 [ol 8 9,o2 8 6]],rg 10 [oi 8],sq [rg 89 [om 0,om 1,oc 150 [.s 89,.s 90,.c (.int .u8 38)]],ci 91 (rg 10 [oi 9])],rg 92 [om 10,om 0,om 1,nA 5 93,nf 0,nF 2,om 8,oW [0,0,1,7,10] [(0,1,92),(1,1,98),(4,1,99)],om 1,nB .add 2,oW [0,0,1,7,10,0,2,0] [(0,5,100),(5,1,102)],o2 8 6],.ret]) [.cell 6 ab 8] 104:=aV func94
def ajd:aU prog 95 (sq [rg 0 [oZ 6 [0,0,1,7,10,0,2,0]],sq [rg 13 [om 0,om 1,oc 150 [.s 13,.s 14,.c (.int .u8 97)]],cr 15 16 [om 0,om 1,om 2,oC 94 [16,17,18],o2 8 6]],sq [rg 20 [om 0,om 1,oc 150 [.s 20,.s 21,.c (.int .u8 91)],nn],cr 23 24 [om 0,om 1,om 2,oC 151 [24,25,26],o2 8 6]],rg 28 [om 0,om 1,nA 5 28,nl 5,oZ 7 [3,1,0,10,0],o2 5 7],rg 32 [of 0 7,nF 2,oG [0,0,1,7,10] [(0,1,.c (.int .i64 10)),(1,1,.s 34)],oZ 8 [0,0,1,7,10],o2 5 8],rg 9 [oi 0],sq [rg 36 [fo 3 7,nL,nB .gtr 0,gA,fo 3 7,oc 150 [.s 42,.c (.int .i64 0),.c (.int .u8 124)],nn,gZ],ci 45 (sq [rg 47 [fo 3 7,fo 4 7,oc 155 [.c (.int .i64 4),.s 48,.c (.int .i64 0),.s 50],o1 46,oe 46 0,oe 46 1,oZ 11 [0,0,1,7,10,0,2,0],ot 10 52,o2 8 11],sq [rg 54 [fo 6 11],cr 55 56 [ol 8 11,o2 8 6]],rg 57 [om 10,of 4 8,os 1 58 57],rg 59 [fo 5 11,o1 9]])],sq [rg 61 [fo 3 7,om 9,oc 150 [.s 62,.s 63,.c (.int .u8 124)]],ci 64 (sq [rg 65 [fo 3 7,om 9,nB .add 1,fo 4 7,oc 156 [.c (.int .i64 6),.s 66,.s 68,.s 70],oZ 12 [0,0,1,7,10,0,2,0],o2 8 12],sq [rg 72 [fo 6 12],cr 73 74 [ol 8 12,o2 8 6]],rg 75 [of 0 12,nl 5,n1 5,oC 153 [77],of 3 8,os 1 79 78],rg 80 [fo 5 12,o1 9]])],sq [rg 82 [om 9,fo 3 7,nL,nb .lss 82],cr 86 87 [fo 3 7,om 9,fo 4 7,oC 151 [88,89,91],o2 8 6]],rg 93 [ol 5 8,om 1,nB .add 1,oW [0,0,1,7,10,0,2,0] [(0,5,93),(5,1,95)],o2 8 6],.ret]) [.cell 6 ab 8] 97:=aV func95
def ag_:aU prog 210 (sq [rg 0 [oZ 6 [0,0,1,7,10,0,2,0]],sq [rg 8 [om 0,om 1,oc 150 [.s 8,.s 9,.c (.int .u8 97)],nn],cr 11 12 [om 0,om 1,om 2,oC 151 [12,13,14],o2 8 6]],sq [rg 16 [om 0,om 1,nB .add 1,oc 150 [.s 16,.s 18,.c (.int .u8 61)],nn],cr 20 21 [om 0,om 1,nB .add 1,om 2,oC 151 [21,23,24],o2 8 6]],rg 26 [om 0,om 1,nB .add 2,om 2,oc 156 [.c (.int .i64 5),.s 26,.s 28,.s 29],oZ 7 [0,0,1,7,10,0,2,0],o2 8 7],sq [rg 31 [fo 6 7,nn],ci 33 (dg 34 [om 0,om 1,nA 5 34,nf 0,nF 2,om 0,om 1,nA 5 40,nf 0,nF 1,of 0 7,nl 5,n1 5,oG [0,0,1,7,10] [(0,1,.c (.int .i64 11)),(1,1,.s 39),(2,1,.s 45),(4,1,.s 48)],of 0 7,os 5 50 49])],rg 51 [ol 8 7,o2 8 6],.ret]) [.cell 6 ab 8] 52:=aV func210
def Nb:∀(n:Nat) (l:List al),bd l<=n->bd l+1<=aK->JP n l:=by
 intro n;induction n with
 | zero =>
  intro l hn hm a fin D;obtain rfl:l=[]:=by cases l with | nil=>rfl | cons t ts=>simp only[bd] at hn;omega
  have hk:∀a k,a8 [] a k=false:=λa k=>by simp[a8]
  refine SS.aT ?_;simp only[aS,am,aZ,Nat.reduceAdd];refine cl (gR [] a 97 D) ?_;simp only[am,hk];refine cl (gR [] a 35 D) ?_;simp only[am,hk];refine cl (gR [] a 43 D) ?_;simp only[am,hk];refine cl (gR [] a 38 D) ?_;simp only[am,hk];refine cl (lX [] a fin D) ?_;simp only[am,Nat.reduceAdd,br.enc];refine aH ?_;simp[V.erase,aX,fz,qG,hk]
 | succ n ih =>
  intro l hn hm a fin D;have hlen:=gm l;have w1:∀j:Nat,j<=l.length->IntKind.i64.wrap ((j:Int)+1)=((j+1:Nat):Int):=λj hj=>by simp only[aK] at hm;rw[wrap_i64];simp
  have w2:∀j:Nat,j<=l.length->IntKind.i64.wrap ((j:Int)+2)=((j+2:Nat):Int):=λj hj=>by simp only[aK] at hm;rw[wrap_i64];simp
  refine SS.aT ?_;simp only[aS,am,aZ,Nat.reduceAdd];refine cl (gR l a 97 D) ?_;cases cZ:a8 l a 97
  .simp only[am];refine cl (gR l a 35 D) ?_;cases ny:a8 l a 35
   .simp only[am];refine cl (gR l a 43 D) ?_;cases nz:a8 l a 43
    case' true =>
     obtain⟨j,t0,rfl,qu,_,CE⟩:=iB nz;have mO:a8 l (j:Nat) 38=false:=by
      cases hq:a8 l (j:Nat) 38 with
      | false=>rfl
      | true =>
       obtain⟨j',t',e,gG,kh,_⟩:=iB hq;obtain rfl:j' = j:=by omega
       rw[qu] at gG;simp only[a9] at gG;subst gG;omega
     simp only[am,w1 j (by omega)]
    case' false =>
     simp only[am];refine cl (gR l a 38 D) ?_;cases mO:a8 l a 38
     .simp only[am];refine cl (lX l a fin D) ?_;simp only[am,Nat.reduceAdd,br.enc];refine aH ?_;simp[V.erase,aX,fz,cZ,ny,nz,mO]
     obtain⟨j,t0,rfl,qu,_,CE⟩:=iB mO;simp only[am,w1 j (by omega)]
    all_goals
     obtain⟨_,fZ⟩:=sI qu;refine cl (gR l ((j+1:Nat):Int) 40 D) ?_;cases sa:a8 l ((j+1:Nat):Int) 40
     .simp only[am,w1 j (by omega)];refine cl (lX l ((j+1:Nat):Int) fin D) ?_;simp only[am,Nat.reduceAdd,br.enc];have Lo : a8 l ((j:Int)+1) 40=false:=sa;have e:((j+1:Nat):Int)=(j:Int)+1:=rfl;refine aH ?_;simp[V.erase,aX,fz,cZ,ny,nz,mO,Lo,e]
     .obtain⟨j2,t,AH,hj,_,hl⟩:=iB sa;obtain rfl:j2=j+1:=by omega
      have hk:=A1 hj;have rn:=gm t.aj;have ht:bJ l ((j:Int)+1)=t:=(sI hj).1;have Lo : a8 l ((j:Int)+1) 40=true:=sa;have bx:fz (n+1) l (j:Nat) fin=iA (wholeAt (fz n) t ak) (λks=>.mk (if a8 l (j:Nat) 38=ab then 9 else 8) t0.tok.pos [] [] ks) ((j:Int)+2):=by simp[fz,cZ,ny,nz,mO,Lo,ht,fZ]
      simp only[am,w1 j (by omega)];refine ix (gz hj) ?_;simp only[am,al.au];refine cl (Pw 3 (fz n) (DW n) t ak D (by omega) (λa _ D=>apz (ih t.aj (by omega) (by omega)) a t.fin D)) ?_;generalize wholeAt (fz n) t ak=R at bx ⊢;simp only[am,Nat.reduceAdd,br.enc];cases bU:R.2.aG
      .simp only[am];refine cl (gR l (j:Nat) 38 D) ?_;simp only[am,mO];refine ix (gz qu) ?_;simp only[am,Nat.reduceAdd,al.fl,w2 j (by omega)];refine aH ?_;simp[V.erase,aX,bx,iA,bU,Nd.kind,Nd.pos,Nd.aq,Nd.an,Nd.aj,mO]
      .simp only[am,Nat.reduceAdd];refine aH ?_;simp[V.erase,aX,bx,iA,bU]
   .obtain⟨j,t0,rfl,qu,_,CE⟩:=iB ny;obtain⟨_,fZ⟩:=sI qu;have bx:fz (n+1) l (j:Nat) fin=(gY (n+1) l ((j:Int)+1) fin).put λm=>.mk 7 t0.tok.pos [] [] [m]:=by simp[fz,cZ,ny,fZ]
    simp only[am,w1 j (by omega)];refine cl (acP (n+1) l hn hm ((j+1:Nat):Int) fin D) ?_;have e:gY (n+1) l ((j:Int)+1) fin=gY (n+1) l ((j+1:Nat):Int) fin:=rfl;rw[e] at bx;generalize gY (n+1) l ((j+1:Nat):Int) fin=g at bx ⊢;simp only[am,Nat.reduceAdd,br.enc];cases bU:g.aG
    .simp only[am];refine ix (gz qu) ?_;simp only[am,Nat.reduceAdd,al.fl];refine aH ?_;simp[V.erase,aX,bx,br.put,bU,Nd.kind,Nd.pos,Nd.aq,Nd.an,Nd.aj,Nd.cJ]
    .simp only[am,Nat.reduceAdd];refine aH ?_;simp[V.erase,aX,bx,br.put,bU]
  .obtain⟨j,t,rfl,hj,_,hl⟩:=iB cZ;obtain⟨ht,fZ⟩:=sI hj;simp only[am];refine ix (gz hj) ?_;simp only[am,al.fl];refine ix (gz hj) ?_;simp only[am,Nat.reduceAdd,al.fl,w1 j (by omega)];refine aH ?_;simp[V.erase,aX,fz,qG,cZ,fZ,br.enc,Nd.kind,Nd.pos,Nd.aq,Nd.an,Nd.aj]
def afB(n:Nat)(l:List al)(hn:bd l<=n)(hm:bd l+1<=aK)(a fin:Int)(D:af):a7 210 [.sl .no 5 (b_ l),.int .i64 a,.int .i64 fin] D (.agg (pG n l a fin).enc):=by
 have hlen:=gm l;have w1:∀j:Nat,j<=l.length->IntKind.i64.wrap ((j:Int)+1)=((j+1:Nat):Int):=λj hj=>by simp only[aK] at hm;rw[wrap_i64];simp
 have w2:∀j:Nat,j<=l.length->IntKind.i64.wrap ((j:Int)+2)=((j+2:Nat):Int):=λj hj=>by simp only[aK] at hm;rw[wrap_i64];simp
 refine ag_.aT ?_;simp only[aS,am,aZ,Nat.reduceAdd];refine cl (gR l a 97 D) ?_;cases cZ:a8 l a 97
 .simp only[am];refine cl (lX l a fin D) ?_;simp only[am,Nat.reduceAdd,br.enc];refine aH ?_;simp[V.erase,aX,pG,cZ]
 .obtain⟨j,t0,rfl,qu,_,CE⟩:=iB cZ;obtain⟨_,fZ⟩:=sI qu;simp only[am,w1 j (by omega)];refine cl (gR l ((j+1:Nat):Int) 61 D) ?_;cases Tr:a8 l ((j+1:Nat):Int) 61
  .have Lp : a8 l ((j:Int)+1) 61=false:=Tr;have e:((j+1:Nat):Int)=(j:Int)+1:=rfl;simp only[am,w1 j (by omega)];refine cl (lX l ((j+1:Nat):Int) fin D) ?_;simp only[am,Nat.reduceAdd,br.enc];refine aH ?_;simp[V.erase,aX,pG,cZ,Lp,e]
  .have Lp : a8 l ((j:Int)+1) 61=true:=Tr;have bx:pG n l (j:Nat) fin=(np n l ((j+2:Nat):Int) fin).put λm=>.mk 11 t0.tok.pos t0.tok.aq [] [m]:=by
    have e:((j+2:Nat):Int)=(j:Int)+2:=rfl;simp[pG,cZ,Lp,fZ,e]
   simp only[am,w2 j (by omega)];refine cl (apB (Nb n l hn hm) ((j+2:Nat):Int) fin D) ?_;generalize np n l ((j+2:Nat):Int) fin=g at bx ⊢;simp only[am,Nat.reduceAdd,br.enc];cases bU:g.aG
   .simp only[am];refine ix (gz qu) ?_;simp only[am,al.fl];refine ix (gz qu) ?_;simp only[am,Nat.reduceAdd,al.fl];refine aH ?_;simp[V.erase,aX,bx,br.put,bU,Nd.kind,Nd.pos,Nd.aq,Nd.an,Nd.aj,Nd.cJ]
   .simp only[am,Nat.reduceAdd];refine aH ?_;simp[V.erase,aX,bx,br.put,bU]
def apA{n:Nat}(hn:bd l<=n)(hm:bd l+1<=aK)(a fin:Int)(D:af):a7 156 [.int .i64 4,.sl .no 5 (b_ l),.int .i64 a,.int .i64 fin] D (.agg (pG n l a fin).enc):=by
 refine Ci.aT ?_;simp only[aS,JE,Nat.reduceAdd,Int.reduceEq];refine cl (afB n l hn hm a fin D) ?_;simp only[am,Nat.reduceAdd,br.enc];refine aH ?_;simp[V.erase,aX]
def asb(n:Nat)(l:List al)(hn:bd l<=n)(hm:bd l+1<=aK)(a fin:Int)(D:af):a7 95 [.sl .no 5 (b_ l),.int .i64 a,.int .i64 fin] D (.agg (hZ n l a fin).enc):=by
 have hlen:=gm l;have w1:∀j:Nat,j<=l.length->IntKind.i64.wrap ((j:Int)+1)=((j+1:Nat):Int):=λj hj=>by simp only[aK] at hm;rw[wrap_i64];simp
 refine ajd.aT ?_;simp only[aS,am,aZ,Nat.reduceAdd];refine cl (gR l a 97 D) ?_;cases cZ:a8 l a 97
 case' true =>
  simp only[am];refine cl (Nb n l hn hm a fin D) ?_;simp only[am,Nat.reduceAdd,br.enc];refine aH ?_;simp[V.erase,aX,hZ,cZ]
 simp only[am];refine cl (gR l a 91 D) ?_;cases s5:a8 l a 91
 .simp only[am];refine cl (lX l a fin D) ?_;simp only[am,Nat.reduceAdd,br.enc];refine aH ?_;simp[V.erase,aX,hZ,cZ,s5]
 obtain⟨j,t,rfl,hj,_,hl⟩:=iB s5;obtain⟨ht,fZ⟩:=sI hj;have hk:=A1 hj;have rn:=gm t.aj;have bx:hZ n l (j:Nat) fin=if 0<t.aj.length/\a8 t.aj 0 124=ak then(if (qb n l (j:Nat)).2.aG=ab then(qb n l (j:Nat)).2 else jy l (j:Nat) (qb n l (j:Nat)).1 (qb n l (j:Nat)).2.next) else jy l (j:Nat) [] 0:=by simp[hZ,cZ,s5,ht]
 simp only[am];refine ix (gz hj) ?_;simp only[am,Nat.reduceAdd,dt,al.au,al.fl,al.fl]
 by_cases gi:0<t.aj.length
 .simp only[am,al.fl,aJ (show(0:Int)<t.aj.length by omega)];refine cl (gR t.aj 0 124 D) ?_;cases h0:a8 t.aj 0 124
  .rw[aE ⟨gi,h0⟩] at bx;simp only[am,al.fl];refine cl (Yh 4 (pG n) (QE n) t.aj t.fin D (by omega) (λa _ D=>apA (by omega) (by omega) a t.fin D)) ?_;have hrs:qb n l (j:Nat)=dq (λi=>pG n t.aj i t.fin) t.aj (t.aj.length+1) 0 []:=by unfold qb;rw[ht]
   rw[hrs] at bx;generalize dq (λi=>pG n t.aj i t.fin) t.aj (t.aj.length+1) 0 []=R at bx ⊢;simp only[am,Nat.reduceAdd,br.enc];cases LQ:R.2.aG
   .rw[LQ] at bx;simp only[da,bZ] at bx;simp only[am,al.fl];have bx:hZ n l (j:Nat) fin=jy l (j:Nat) R.1 R.2.next:=bx;refine cl (gR t.aj R.2.next 124 D) ?_;cases nw:a8 t.aj R.2.next 124
    .simp only[am,dt,al.fl]
     by_cases db:(R.2.next:Int)<t.aj.length
     .simp only[am,al.fl,aJ db];refine cl (lX t.aj R.2.next t.fin D) ?_;simp only[am,Nat.reduceAdd,br.enc];unfold jy at bx;rw[ht,aA (by simp[nw])] at bx;unfold kq at bx;rw[ht,aE db] at bx;refine aH ?_;simp[V.erase,aX,bx]
     .simp only[am,Nat.reduceAdd,aI db,w1 j (by omega)];unfold jy at bx;rw[ht,aA (by simp[nw])] at bx;unfold kq at bx;rw[ht,aA db] at bx;refine aH ?_;simp[V.erase,aX,bx,fZ,Nd.kind,Nd.pos,Nd.aq,Nd.an,Nd.aj]
    .obtain⟨b,tb,hb,HS,_,yX⟩:=iB nw;have w2:IntKind.i64.wrap ((R.2.next:Int)+1)=((b+1:Nat):Int):=by simp only[aK] at hm;rw[hb,wrap_i64];simp
     have e2:nameAt t.aj ((R.2.next:Int)+1) t.fin=nameAt t.aj ((b+1:Nat):Int) t.fin:=by rw[hb];rfl
     simp only[am,al.fl,w2];refine cl (IG t.aj ((b+1:Nat):Int) t.fin D (by omega)) ?_;have bx:hZ n l (j:Nat) fin=if (nameAt t.aj ((b+1:Nat):Int) t.fin).aG=ab then nameAt t.aj ((b+1:Nat):Int) t.fin else kq l (j:Nat) R.1 (jT [(nameAt t.aj ((b+1:Nat):Int) t.fin).node]) (nameAt t.aj ((b+1:Nat):Int) t.fin).next:=by rw[bx];simp only[jy,ht,nw,cm,e2]
     generalize nameAt t.aj ((b+1:Nat):Int) t.fin=g at bx ⊢;simp only[am,Nat.reduceAdd,br.enc];cases bU:g.aG
     .rw[bU] at bx;simp only[da,bZ] at bx;simp only[am,Nat.reduceAdd];refine((C8 [g.node] D (by simp[aK])).eT (by simp[am,Nd.cJ]) bK.rfl).mono ?_;rintro v D ⟨rfl,rfl⟩;simp only[am,dt,al.fl]
      by_cases db:g.next<t.aj.length
      .simp only[am,al.fl,aJ db];refine cl (lX t.aj g.next t.fin D) ?_;simp only[am,Nat.reduceAdd,br.enc];refine aH ?_;simp[V.erase,aX,bx,kq,ht,db]
      .simp only[am,Nat.reduceAdd,aI db,w1 j (by omega)];refine aH ?_;simp[V.erase,aX,bx,kq,ht,db,fZ,Nd.kind,Nd.pos,Nd.aq,Nd.an,Nd.aj]
     .rw[bU] at bx;simp only[am,Nat.reduceAdd];refine aH ?_;simp[V.erase,aX,bx,bU]
   .rw[LQ] at bx;simp only[am,Nat.reduceAdd];refine aH ?_;simp[V.erase,aX,bx,LQ]
  .rw[aA (by simp[h0])] at bx;simp only[am,al.fl];have bx:hZ n l (j:Nat) fin=jy l (j:Nat) [] 0:=bx;refine cl (gR t.aj 0 124 D) ?_;cases nw:a8 t.aj 0 124
   .simp only[am,dt,al.fl]
    by_cases db:(0:Int)<t.aj.length
    .simp only[am,al.fl,aJ db];refine cl (lX t.aj 0 t.fin D) ?_;simp only[am,Nat.reduceAdd,br.enc];unfold jy at bx;rw[ht,aA (by simp[nw])] at bx;unfold kq at bx;rw[ht,aE db] at bx;refine aH ?_;simp[V.erase,aX,bx]
    .simp only[am,Nat.reduceAdd,aI db,w1 j (by omega)];unfold jy at bx;rw[ht,aA (by simp[nw])] at bx;unfold kq at bx;rw[ht,aA db] at bx;refine aH ?_;simp[V.erase,aX,bx,fZ,br.enc,Nd.kind,Nd.pos,Nd.aq,Nd.an,Nd.aj]
   .obtain⟨b,tb,hb,HS,_,yX⟩:=iB nw;have w2:IntKind.i64.wrap ((0:Int)+1)=((b+1:Nat):Int):=by simp only[aK] at hm;rw[hb,wrap_i64];simp
    have e2:nameAt t.aj ((0:Int)+1) t.fin=nameAt t.aj ((b+1:Nat):Int) t.fin:=by rw[hb];rfl
    simp only[am,al.fl,w2];refine cl (IG t.aj ((b+1:Nat):Int) t.fin D (by omega)) ?_;have bx:hZ n l (j:Nat) fin=if (nameAt t.aj ((b+1:Nat):Int) t.fin).aG=ab then nameAt t.aj ((b+1:Nat):Int) t.fin else kq l (j:Nat) [] (jT [(nameAt t.aj ((b+1:Nat):Int) t.fin).node]) (nameAt t.aj ((b+1:Nat):Int) t.fin).next:=by rw[bx];simp only[jy,ht,nw,cm,e2]
    generalize nameAt t.aj ((b+1:Nat):Int) t.fin=g at bx ⊢;simp only[am,Nat.reduceAdd,br.enc];cases bU:g.aG
    .rw[bU] at bx;simp only[da,bZ] at bx;simp only[am,Nat.reduceAdd];refine((C8 [g.node] D (by simp[aK])).eT (by simp[am,Nd.cJ]) bK.rfl).mono ?_;rintro v D ⟨rfl,rfl⟩;simp only[am,dt,al.fl]
     by_cases db:g.next<t.aj.length
     .simp only[am,al.fl,aJ db];refine cl (lX t.aj g.next t.fin D) ?_;simp only[am,Nat.reduceAdd,br.enc];refine aH ?_;simp[V.erase,aX,bx,kq,ht,db]
     .simp only[am,Nat.reduceAdd,aI db,w1 j (by omega)];refine aH ?_;simp[V.erase,aX,bx,kq,ht,db,fZ,Nd.kind,Nd.pos,Nd.aq,Nd.an,Nd.aj]
    .rw[bU] at bx;simp only[am,Nat.reduceAdd];refine aH ?_;simp[V.erase,aX,bx,bU]
 .rw[aA (λh=>gi h.1)] at bx;simp only[am,al.fl,aI (show ¬(0:Int)<t.aj.length by omega)];have bx:hZ n l (j:Nat) fin=jy l (j:Nat) [] 0:=bx;refine cl (gR t.aj 0 124 D) ?_;cases nw:a8 t.aj 0 124
  .simp only[am,dt,al.fl]
   by_cases db:(0:Int)<t.aj.length
   .simp only[am,al.fl,aJ db];refine cl (lX t.aj 0 t.fin D) ?_;simp only[am,Nat.reduceAdd,br.enc];unfold jy at bx;rw[ht,aA (by simp[nw])] at bx;unfold kq at bx;rw[ht,aE db] at bx;refine aH ?_;simp[V.erase,aX,bx]
   .simp only[am,Nat.reduceAdd,aI db,w1 j (by omega)];unfold jy at bx;rw[ht,aA (by simp[nw])] at bx;unfold kq at bx;rw[ht,aA db] at bx;refine aH ?_;simp[V.erase,aX,bx,fZ,br.enc,Nd.kind,Nd.pos,Nd.aq,Nd.an,Nd.aj]
  .obtain⟨b,tb,hb,HS,_,yX⟩:=iB nw;have w2:IntKind.i64.wrap ((0:Int)+1)=((b+1:Nat):Int):=by simp only[aK] at hm;rw[hb,wrap_i64];simp
   have e2:nameAt t.aj ((0:Int)+1) t.fin=nameAt t.aj ((b+1:Nat):Int) t.fin:=by rw[hb];rfl
   simp only[am,al.fl,w2];refine cl (IG t.aj ((b+1:Nat):Int) t.fin D (by omega)) ?_;have bx:hZ n l (j:Nat) fin=if (nameAt t.aj ((b+1:Nat):Int) t.fin).aG=ab then nameAt t.aj ((b+1:Nat):Int) t.fin else kq l (j:Nat) [] (jT [(nameAt t.aj ((b+1:Nat):Int) t.fin).node]) (nameAt t.aj ((b+1:Nat):Int) t.fin).next:=by rw[bx];simp only[jy,ht,nw,cm,e2]
   generalize nameAt t.aj ((b+1:Nat):Int) t.fin=g at bx ⊢;simp only[am,Nat.reduceAdd,br.enc];cases bU:g.aG
   .rw[bU] at bx;simp only[da,bZ] at bx;simp only[am,Nat.reduceAdd];refine((C8 [g.node] D (by simp[aK])).eT (by simp[am,Nd.cJ]) bK.rfl).mono ?_;rintro v D ⟨rfl,rfl⟩;simp only[am,dt,al.fl]
    by_cases db:g.next<t.aj.length
    .simp only[am,al.fl,aJ db];refine cl (lX t.aj g.next t.fin D) ?_;simp only[am,Nat.reduceAdd,br.enc];refine aH ?_;simp[V.erase,aX,bx,kq,ht,db]
    .simp only[am,Nat.reduceAdd,aI db,w1 j (by omega)];refine aH ?_;simp[V.erase,aX,bx,kq,ht,db,fZ,Nd.kind,Nd.pos,Nd.aq,Nd.an,Nd.aj]
   .rw[bU] at bx;simp only[am,Nat.reduceAdd];refine aH ?_;simp[V.erase,aX,bx,bU]
def aiO:aU prog 44 (sq [rg 2 [oz 1],rg 4 [oq (.jn 1 [(.c (.aF [])),(.c (.aF [99,104,97,105,110])),(.c (.aF [112,111,119,101,114])),(.c (.aF [112,114,111,100,117,99,116])),(.c (.aF [103,114,105,100])),(.c (.aF [116,97,98,108,101])),(.c (.aF [108,97,98,101,108])),(.c (.aF [114,111,119])),(.c (.aF [108,101,113])),(.c (.aF [114,111,119,101,113])),(.c (.aF [108,97,99,107,115])),(.c (.aF [112,117,115,104])),(.c (.aF [112,111,112])),(.c (.aF [99,104,101,99,107])),(.c (.aF [99,111,114,101])),(.c (.aF [119,104,121]))]),o1 3],sq [rg 5 [om 0,nB .lss 0,gB,om 0,om 3,nL,nb .geq 8,gZ],cr 12 2 [oz 1]],rg 13 [om 3,om 0,nA 1 13,no,o1 2],.ret]) [.tmp 2] 17:=aV func44
def aiP:aU prog 45 (sq [rg 2 [oz 1],rg 4 [oq (.jn 1 [(.c (.aF [])),(.c (.aF [110,119])),(.c (.aF [110,119])),(.c (.aF [110,119])),(.c (.aF [110,119,112])),(.c (.aF [110,119,112])),(.c (.aF [110,119])),(.c (.aF [110,119])),(.c (.aF [110,116,116])),(.c (.aF [110,114,114])),(.c (.aF [110,102])),(.c (.aF [])),(.c (.aF [])),(.c (.aF [])),(.c (.aF [])),(.c (.aF [110]))]),o1 3],sq [rg 5 [om 0,nB .lss 0,gB,om 0,om 3,nL,nb .geq 8,gZ],cr 12 2 [oz 1]],rg 13 [om 3,om 0,nA 1 13,no,o1 2],.ret]) [.tmp 2] 17:=aV func45
def ai':aU prog 90 (sq [rg 4 [oz 2],rg 5 [om 1,om 0,nL,nb .lss 5,gA,om 0,om 1,nA 5 10,nf 0,nF 0,nu .eql 97,gZ,o1 4],.ret]) [.tmp 4] 18:=aV func90
def aja:aU prog 91 (sq [rg 6 [oi 0],sq [rg 7 [om 1,om 0,nL,nb .lss 7],cr 10 11 [om 0,om 1,nA 5 11,nf 0,nF 2,o1 6]],rg 17 [om 2,o1 6],.ret]) [.tmp 6] 18:=aV func91
def aji{op:Int}(h0:0<=op)(h1:op<16):(iN.map λp=>[V.aF p.1])[op.toNat]?=aa [V.aF (bY op).1]:=by
 have hl:op.toNat<iN.length:=by simp[iN];omega
 rw[tU,cS hl];simp only[bY,aE (show 0<=op/\op<16 from⟨h0,h1⟩),ij,cS hl,tW,BX]
def ajj{op:Int}(h0:0<=op)(h1:op<16):(iN.map λp=>[V.aF p.2])[op.toNat]?=aa [V.aF (bY op).2]:=by
 have hl:op.toNat<iN.length:=by simp[iN];omega
 rw[tU,cS hl];simp only[bY,aE (show 0<=op/\op<16 from⟨h0,h1⟩),ij,cS hl,tW,BX]
def ZQ(op:Int)(D:af):a7 44 [.int .i64 op] D (.aF (bY op).1):=by
 refine aiO.aT ?_;simp only[aS,am,aZ,Nat.reduceAdd]
 by_cases h0:op<0
 .simp only[am,aJ h0];refine aH ?_;simp[V.erase,bY,show ¬(0<=op/\op<16) by omega]
 .simp only[am,Nat.reduceAdd,aI h0]
  by_cases h1:16<=op
  .simp only[am,aJ (show((16:Nat):Int)<=op from h1)];refine aH ?_;simp[V.erase,bY,show ¬(0<=op/\op<16) by omega]
  .simp only[am,aI (show ¬((16:Nat):Int)<=op from h1)];refine lM (aji (by omega) (by omega)) ?_;simp only[am];exact rt
def amQ(op:Int)(D:af):a7 45 [.int .i64 op] D (.aF (bY op).2):=by
 refine aiP.aT ?_;simp only[aS,am,aZ,Nat.reduceAdd]
 by_cases h0:op<0
 .simp only[am,aJ h0];refine aH ?_;simp[V.erase,bY,show ¬(0<=op/\op<16) by omega]
 .simp only[am,Nat.reduceAdd,aI h0]
  by_cases h1:16<=op
  .simp only[am,aJ (show((16:Nat):Int)<=op from h1)];refine aH ?_;simp[V.erase,bY,show ¬(0<=op/\op<16) by omega]
  .simp only[am,aI (show ¬((16:Nat):Int)<=op from h1)];refine lM (ajj (by omega) (by omega)) ?_;simp only[am];exact rt
def an5(l:List al)(a:Nat)(D:af):a7 90 [.sl .no 5 (b_ l),.int .i64 (a:Nat)] D (.bool (a8 l (a:Nat) 97)):=by
 refine ai'.aT ?_;simp only[aS,am,aZ,Nat.reduceAdd]
 by_cases h:a<l.length
 .simp only[am,dt,aJ (show(a:Int)<l.length by omega)];refine ix (gz (cS h)) ?_;simp only[am,al.fl];refine aH ?_;simp[V.erase,a8,h]
 .simp only[am,dt,aI (show ¬(a:Int)<l.length by omega)];refine aH ?_;simp[V.erase,a8,sP (show l.length<=a by omega)]
def C7(l:List al)(a:Nat)(fin:Int)(D:af):a7 91 [.sl .no 5 (b_ l),.int .i64 (a:Nat),.int .i64 fin] D (.int .i64 (jP l (a:Nat) fin)):=by
 refine aja.aT ?_;simp only[aS,am,aZ,Nat.reduceAdd]
 by_cases h:a<l.length
 .simp only[am,dt,aJ (show(a:Int)<l.length by omega)];refine ix (gz (cS h)) ?_;simp only[am,al.fl];refine aH ?_;simp[V.erase,jP,h]
 .simp only[am,dt,aI (show ¬(a:Int)<l.length by omega)];refine aH ?_;simp[V.erase,jP,sP (show l.length<=a by omega)]
def ajc:aU prog 93 (sq [rg 2 [ox 1 5 0,oz 9,oi 0],rg 4 [oz 9],rg 5 [oi 0],bl 0 (sq [sq [rg 10 [om 5,fo 3 1,nL,nb .lss 10,gB,om 5,nB .gtr 0,gZ],cx 18 0],.block 1 (sq [sq [rg 6 [oi 0],bl 2 (sq [sq [rg 19 [om 6,nB .lss 3],cx 20 2],.block 3 (sq [rg 23 [oq (.jn 1 [(.c (.int .u8 97)),(.c (.int .u8 60)),(.c (.int .u8 97))]),o1 7],dg 24 [om 5,om 6,nb .add 24,fo 3 1,nL,nb .geq 26,gB,fo 3 1,om 5,om 6,nb .add 34,nA 5 33,nf 0,nF 0,om 7,om 6,nA 1 41,no,nb .neq 40,gZ],cr 46 47 [fo 3 1,om 5,om 6,nb .add 49,fo 4 1,oC 91 [48,51,53],oU 2 9,o1 3]]),rg 21 [ic 6]])],dA 55 [8,9] [fo 3 1,om 5,nA 5 56,nf 0,nl 3,of 3 1,mM [1],no,om 5,nB .add 2,nA 5 62,nf 0,mM [1],nl 3,oN,oN,oX 8 3 60,oX 9 3 67],rg 68 [om 4,fo 1 8,fo 2 8,oW [1,0] [(0,1,70),(1,1,72)],fo 1 9,fo 2 9,oW [1,0] [(0,1,75),(1,1,77)],oW [1,0,1,0] [(0,2,73),(2,2,78)],n1 4,na 4 68,o1 4],rg 82 [om 5,nB .add 3,o1 5],sq [rg 84 [om 5,fo 3 1,nL,nb .eql 84],cr 88 2 [ot 89 4,om 89,oi (-1)]],sq [rg 90 [fo 3 1,om 5,nA 5 91,nf 0,nF 0,nu .neq 44],cr 97 98 [fo 3 1,om 5,fo 4 1,oC 91 [99,100,102],oU 2 9,o1 3]],rg 104 [ic 5]])]),rg 2 [oz 9,oi (-1)],.ret]) [.tmp 2,.tmp 3] 106:=aV func93
def M6{k:Int}(h:j<l.length):a8 l (j:Nat) k=decide (l[j].tok.kind=k):=by simp[a8,h]
def UM{k:Int}(h:¬j<l.length):a8 l (j:Nat) k=false:=by simp only[a8,jW];rw[sP (by omega)];simp
def YL{t:al}:takeN 3 t.enc=aa [.int .u8 t.tok.kind,.aF t.tok.aq,.int .i64 t.tok.pos]:=by rw[cJ];rfl
def zd(k:Nat):Int:=if k=1 then 60 else 97
def ase:List (List V):=[[.int .u8 97],[.int .u8 60],[.int .u8 97]]
def xC(t:al)(D:af)(a Z:Nat)(acc:List (aB × aB)):St :=
 ⟨[.any,.ptr (.aD 0) 0,.any,.any,.sl (.tk Z) 4 (acc.map fL),.int .i64 (a:Nat)]++ar 100 .any,[t.enc],D.aY Z acc.length⟩
def M1(t:al)(D:af)(a Z:Nat)(acc:List (aB × aB))(k:Nat):St :=
 ⟨[.any,.ptr (.aD 0) 0,.any,.any,.sl (.tk Z) 4 (acc.map fL),.int .i64 (a:Nat),.int .i64 (k:Nat)]++ar 99 .any,[t.enc],D.aY Z acc.length⟩
abbrev PF(t:al)(D:af)(R:List (aB × aB) × Int):={p:Nat × Nat × List (aB × aB) × Nat // D.aP p.2.2.2=ag/\rG t.aj t.fin p.1 p.2.1 p.2.2.1=R/\p.2.2.1.length<=p.2.1/\p.2.1<=t.aj.length/\t.aj.length+1<=p.2.1+p.1}
def ap8(t:al)(D:af)(hm:t.aj.length+8<=aK):a7 93 [.agg t.enc] D (.bt [.sl .no 4 ((tL t).1.map fL),.int .i64 (tL t).2]):=by
 simp only[aK] at hm;refine ajc.aT ?_;simp only[aS,am,aZ,Nat.reduceAdd,al.au]
 by_cases xm:t.aj.length=0
 .have hR:tL t=([],-1):=by unfold tL;rw[aE xm]
  rw[hR];refine gn (λ_:Unit=>⟨[.any,.ptr (.aD 0) 0,.any,.any,.any,.int .i64 0]++ar 100 .any,[t.enc],D⟩) (λ_=>0) ?_ ?_
  .refine bm.enter () ?_ (by simp[am]) bK.rfl;simp[ar,am]
  .rintro _;simp only[ar];simp only[am,dt,c7,al.fl,Int.reduceLT,xm,show(((0:Nat):Int))=0 from rfl];exact rt
 .generalize hR:rG t.aj t.fin (t.aj.length+1) 0 []=R;have hR0:tL t=R:=by unfold tL;rw[aA xm,hR]
  rw[hR0];refine gn (λp:PF t D R=>xC t D p.1.2.1 p.1.2.2.2 p.1.2.2.1) (λp=>p.1.1) ?_ ?_
  .refine bm.sH 0 λZ bc=>⟨⟨(t.aj.length+1,0,[],Z),bc,hR,by simp,by simp,by simp⟩,?_,rfl,rfl⟩
   simp[xC,ar,kJ]
  .rintro⟨⟨n,a,acc,Z⟩,bc,hR,h1,h2,h3⟩;simp only at bc hR h1 h2 h3;obtain⟨m,rfl⟩:∃m,n=m+1:=⟨n - 1,by omega⟩;simp only[xC,ar];simp only[am,dt,al.fl];have hw:∀k:Nat,k<=3->IntKind.i64.wrap ((a:Int)+(k:Int))=((a+k:Nat):Int):=λk hk=>by rw[wrap_i64];simp
   by_cases ha:a<t.aj.length
   case' pos =>
    simp only[am,aJ (show(a:Int)<t.aj.length by omega)]
   case' neg =>
    simp only[am,aI (show ¬(a:Int)<t.aj.length by omega),aJ (show(0:Int)<a by omega)]
   all_goals
    refine gn (λp:{k:Nat // k<=3/\∀j,j<k->a8 t.aj ((a+j:Nat):Int) (zd j)=ab}=>M1 t D a Z acc p.1) (λp=>3 - p.1) ?_ ?_
    .refine bm.enter ⟨0,by simp,by simp⟩ ?_ cC.rfl bK.rfl;simp[M1,ar,am]
    .rintro⟨k,hk,cK⟩;simp only[M1,ar]
     by_cases aC:k<3
     .simp only[am,dt,al.fl,aJ (show(k:Int)<3 by omega),hw k hk];have wk:IntKind.i64.wrap ((k:Int)+1)=((k+1:Nat):Int):=by rw[wrap_i64];simp
      have bx:a8 t.aj ((a+k:Nat):Int) (zd k)=ak->R=([],jP t.aj ((a+k:Nat):Int) t.fin):=λhf=>by
       rw[<-hR];simp only[rG]
       match k,aC with
       | 0, _ =>
        have hf:a8 t.aj (a:Nat) 97=false:=hf;rw[aE hf];rfl
       | 1, _ =>
        have q0:a8 t.aj (a:Nat) 97=true:=cK 0 (by omega);have hf:a8 t.aj ((a+1:Nat):Int) 60=false:=hf;rw[aA (by rw[q0];decide),aE hf]
       | 2, _ =>
        have q0:a8 t.aj (a:Nat) 97=true:=cK 0 (by omega);have q1:a8 t.aj ((a+1:Nat):Int) 60=true:=cK 1 (by omega);have hf:a8 t.aj ((a+2:Nat):Int) 97=false:=hf;rw[aA (by rw[q0];decide),aA (by rw[q1];decide),aE hf]
      by_cases dG:a+k<t.aj.length
      .simp only[am,al.fl,aI (show ¬(t.aj.length:Int)<=((a+k:Nat):Int) by omega),hw k hk];refine lM (gz (cS dG)) ?_;simp only[am,al.fl];rw[show([[V.int .u8 97],[V.int .u8 60],[V.int .u8 97]]:List (List V))=ase from rfl];refine lM (c:=[.int .u8 (zd k)]) (by match k,aC with | 0,_=>rfl | 1,_=>rfl | 2,_=>rfl) ?_;have Cy:a8 t.aj ((a+k:Nat):Int) (zd k)=decide (t.aj[a+k].tok.kind=zd k):=M6 dG
       by_cases fH:t.aj[a+k].tok.kind=zd k
       .simp only[am,aJ fH,wk];refine bm.again ⟨k+1,by omega,λj hj=>?_⟩ (by simp;omega) (by simp[am]) (by simp[am]) bK.rfl
        by_cases e:j=k
        .subst e;rw[Cy];exact aJ fH
        .exact cK j (by omega)
       .have hf:a8 t.aj ((a+k:Nat):Int) (zd k)=false:=by rw[Cy];exact aI fH
        simp only[am,al.fl,aI fH,hw k hk];refine(C7 t.aj (a+k) t.fin _).mono ?_;rintro v σ' ⟨rfl,rfl⟩;simp only[am];refine aL rfl (jQ bc) ⟨?_,rfl⟩;simp[V.erase,aX,bx hf]
      .have hf:a8 t.aj ((a+k:Nat):Int) (zd k)=false:=UM dG;simp only[am,al.fl,aJ (show(t.aj.length:Int)<=((a+k:Nat):Int) by omega),hw k hk];refine(C7 t.aj (a+k) t.fin _).mono ?_;rintro v σ' ⟨rfl,rfl⟩;simp only[am];refine aL rfl (jQ bc) ⟨?_,rfl⟩;simp[V.erase,aX,bx hf]
     .obtain rfl:k=3:=by omega
      have q0:a8 t.aj (a:Nat) 97=true:=cK 0 (by omega);have q1:a8 t.aj ((a+1:Nat):Int) 60=true:=cK 1 (by omega);have q2:a8 t.aj ((a+2:Nat):Int) 97=true:=cK 2 (by omega);have lh:=(o7 q2).2;have TK:a<t.aj.length:=by omega
      have yN:a+2<t.aj.length:=by omega
      simp only[rG,q0,q1,q2,qh,bZ] at hR;have w2:IntKind.i64.wrap ((a:Int)+2)=((a+2:Nat):Int):=hw 2 (by omega);have w3:IntKind.i64.wrap ((a:Int)+3)=((a+3:Nat):Int):=hw 3 (by omega);have w4:IntKind.i64.wrap (((a+3:Nat):Int)+1)=((a+4:Nat):Int):=by rw[wrap_i64];omega
      simp only[am,Nat.reduceAdd,Nat.reduceEqDiff,bL,c7,al.fl,Nat.reduceLT,show(((3:Nat):Int)<3)=False by simp];refine lM (gz (cS TK)) ?_;simp only[am,al.fl,YL,w2];refine lM (gz (cS yN)) ?_;simp only[am,Nat.reduceAdd,al.fl,YL];refine iy (by rw[aR];simp[aK];omega) (by rw[aR,gw]) ?_;have LI:acc.map fL++[[V.aF t.aj[a].tok.aq,V.int .i64 t.aj[a].tok.pos,V.aF t.aj[a+2].tok.aq,V.int .i64 t.aj[a+2].tok.pos]]=(acc++[(px t.aj (a:Nat),px t.aj ((a+2:Nat):Int))]).map fL:=by simp[fL,px,fC,TK];rw[show((a:Int)+2).toNat=a+2 by omega];simp[yN]
      rw[LI];generalize hac:acc++[(px t.aj (a:Nat),px t.aj ((a+2:Nat):Int))]=pz at hR ⊢;have hle:pz.length=acc.length+1:=by rw[<-hac];simp
      simp only[am,dt,aR,al.fl,gJ,w3]
      by_cases db:a+3=t.aj.length
      .rw[aE db] at hR;simp only[am,aJ (show((a+3:Nat):Int)=(t.aj.length:Nat) by omega)];refine aL rfl (jQ bc) ⟨?_,rfl⟩;simp[V.erase,aX,<-hR]
      .rw[aA db] at hR;have TM:a+3<t.aj.length:=by omega
       simp only[am,al.fl,aI (show ¬((a+3:Nat):Int)=(t.aj.length:Nat) by omega)];refine lM (gz (cS TM)) ?_;simp only[am,al.fl];have mf:=M6 (k:=44) TM
       by_cases hk:t.aj[a+3].tok.kind=44
       .rw[aA (by rw[mf,aJ hk];decide)] at hR;simp only[am,aJ hk,w4];refine bm.ql (I:=λp:PF t D R=>xC t D p.1.2.1 p.1.2.2.2 p.1.2.2.1) (μ:=λp=>p.1.1) ⟨(m,a+4,pz,Z),bc,hR,by simp only;omega,by simp only;omega,by simp only;omega⟩ (by simp) (by simp[xC,ar,am]) (by simp[xC,am]) ?_ (by simp[xC,ar,bR,V.lo]) (by simp[xC,dw,al.cT]);simp only[xC,hle];exact bK.rfl
       .rw[aE (by rw[mf];exact aI hk)] at hR;simp only[am,al.fl,aI hk];refine(C7 t.aj (a+3) t.fin _).mono ?_;rintro v σ' ⟨rfl,rfl⟩;simp only[am];refine aL rfl (jQ bc) ⟨?_,rfl⟩;simp[V.erase,aX,<-hR]
def aiS:aU prog 52 (sq [rg 11 [ox 5 17 0,oZ 10 [0,0,1,0,7,9,0,0,0,1,7,10,0,0,1,7,10],oi 0,oi 0],sq [rg 19 [om 1,nu .eql 110,gB,om 1,nu .eql 102,gZ],ci 24 (sq [sq [rg 25 [om 2,om 3,oC 90 [25,26],nn],ci 28 (sq [dg 29 [mM [1],ol 17 5,om 3,om 2,om 3,om 4,oC 91 [31,32,33],os 17 10 29,ot 11 30,o1 12],.ret])],dg 35 [om 2,om 3,nA 5 35,nf 0,nf 1,mM [1],no,om 2,om 3,nA 5 41,nf 0,nf 2,mM [1],no,oW [1,0] [(0,1,40),(1,1,46)],oZ 13 [1,0],o2 2 13],sq [rg 48 [om 1,nu .eql 102],cd 49 (rg 50 [ol 2 13,n1 2,of 4 5,os 1 52 51]) (rg 53 [ol 2 13,of 2 5,os 2 54 53])],rg 55 [ol 17 5,om 3,nB .add 1,os 17 10 55,o1 11,oj 12 (-1)],.ret])],sq [rg 58 [om 1,nu .eql 119],ci 59 (sq [rg 61 [om 2,om 3,om 4,oC 92 [61,62,63],o1 60,oe 60 0,oe 60 1,oZ 15 [0,0,1,7,10,0,2,0],ot 14 65,o2 8 15],sq [rg 67 [fo 6 15],ci 68 (sq [dg 69 [ol 17 5,om 3,of 7 15,mM [1],no,os 17 10 69,ot 11 70,o1 12],.ret])],rg 73 [om 14,of 4 5,os 1 74 73],rg 75 [ol 17 5,om 3,nB .add 1,os 17 10 75,o1 11,oj 12 (-1)],.ret])],sq [rg 78 [om 1,nu .eql 112],ci 79 (sq [sq [rg 80 [om 3,om 2,nL,nb .geq 80,gB,om 2,om 3,nA 5 85,nf 0,nF 0,nu .neq 123,gZ],ci 92 (sq [dg 93 [mM [1],ol 17 5,om 3,om 2,om 3,om 4,oC 91 [95,96,97],os 17 10 93,ot 11 94,o1 12],.ret])],rg 100 [om 2,om 3,nA 5 100,nl 5,oC 93 [103],o1 99,oe 99 0,oe 99 1,ot 16 105,o1 17],rg 107 [om 16,of 5 5,os 1 108 107],rg 109 [om 2,om 3,nA 5 109,nf 0,nF 2,of 6 5,os 1 115 114],rg 116 [ol 17 5,om 3,nB .add 1,om 17,os 17 10 116,ot 11 118,o1 12],.ret])],rg 120 [om 2,om 3,om 4,oC 94 [120,121,122],oZ 18 [0,0,1,7,10,0,2,0],o2 8 18],sq [rg 124 [om 1,nu .eql 114],ci 125 (rg 126 [om 2,om 3,om 4,oC 95 [126,127,128],o2 8 18])],sq [rg 130 [fo 6 18],ci 131 (sq [dg 132 [ol 17 5,om 3,of 7 18,mM [1],no,os 17 10 132,ot 11 133,o1 12],.ret])],sq [rg 136 [of 7 5,nF 0,nB .eql 0],cd 139 (rg 140 [of 0 18,nl 5,of 7 5,os 5 142 141]) (rg 143 [of 0 18,nl 5,of 12 5,os 5 145 144])],dg 146 [ol 17 5,of 5 18,mM [1],no,os 17 10 146,o1 11,oj 12 (-1)],.ret]) [.cell 10 ab 17,.tmp 11,.tmp 12] 149:=aV func52
section
variable {c:az}
theorem abG:c.enc.length=17:=rfl
theorem abM:cL c.enc=true:=rfl
theorem abL:bO c.enc=true:=rfl
theorem abr:aX c.enc=c.enc:=rfl
theorem abX:takeN 17 c.enc=aa c.enc:=rfl
theorem abN{z0 z1 z2 z3 z4 z5 z6 z7 z8 z9 PK PL PM PN PO PQ PR:V}:over [z0,z1,z2,z3,z4,z5,z6,z7,z8,z9,PK,PL,PM,PN,PO,PQ,PR] c.enc=c.enc:=rfl
theorem abH:bI ak 1 (c.enc.drop 7)=aa (.int .i64 c.left.kind):=rfl
theorem abP:setAt c.enc 2 w.enc=({c with name:=w}:az).enc:=rfl
theorem abu:cg 2 (c.enc.drop 2)=true:=rfl
theorem abQ:setAt c.enc 4 [.sl .no 2 (ws.map aB.enc)]=({c with an:=ws}:az).enc:=rfl
theorem abv:cg 1 (c.enc.drop 4)=true:=rfl
variable{ps:List (aB × aB)}
theorem abR:setAt c.enc 5 [.sl .no 4 (ps.map fL)]=({c with bA:=ps}:az).enc:=rfl
theorem abw:cg 1 (c.enc.drop 5)=true:=rfl
theorem abS{n:Int}:setAt c.enc 6 [.int .i64 n]=({c with nP:=n}:az).enc:=rfl
theorem abx:cg 1 (c.enc.drop 6)=true:=rfl
def abO{n:Nd}:setAt c.enc 7 n.enc=({c with left:=n}:az).enc:=by rw[Nd.cJ];rfl
theorem abt:cg 5 (c.enc.drop 7)=true:=rfl
def abT{n:Nd}:setAt c.enc 12 n.enc=({c with right:=n}:az).enc:=by rw[Nd.cJ];rfl
theorem aby:cg 5 (c.enc.drop 12)=true:=rfl
def cD:=ah @abG <| ah @abM <| ah @abL <| ah @abr <| ah @abX <| ah @abN <| ah @abH <| ah @abP <| ah @abu <| ah @abQ <| ah @abv <| ah @abR <| ah @abw <| ah @abS <| ah @abx <| ah @abO <| ah @abt <| ah @abT @aby
end
def aqe(k:UInt8)(c:az)(l:List al)(a:Nat)(fin:Int)(D:af)(hm:bd l+8<=aK) :
 a7 52 [.agg c.enc,.int .u8 (k.toNat:Nat),.sl .no 5 (b_ l),.int .i64 (a:Nat),.int .i64 fin] D (.bt [.agg (jK k c l a fin).1.enc,.int .i64 (jK k c l a fin).2.1,.int .i64 (jK k c l a fin).2.2]):=by
 have hlen:=gm l;have fH:∀n:UInt8,((k.toNat:Nat):Int)=(n.toNat:Nat)↔k=n:=λn=>by
  constructor
  .intro h;exact Kf.1 (by omega)
  .rintro rfl;rfl
 have wW:((k.toNat:Nat):Int)=110↔k=110:=fH 110;have wV:((k.toNat:Nat):Int)=102↔k=102:=fH 102;have vI:((k.toNat:Nat):Int)=119↔k=119:=fH 119;have vH:((k.toNat:Nat):Int)=112↔k=112:=fH 112;have Ap:((k.toNat:Nat):Int)=114↔k=114:=fH 114;have w1:∀j:Nat,j<l.length->IntKind.i64.wrap ((j:Int)+1)=(j:Int)+1:=λj hj=>by simp only[aK] at hm;exact wrap_i64 (by omega) (by omega)
 generalize hR:jK k c l a fin=R;unfold jK at hR;refine aiS.aT ?_;simp only[aS,am,aZ,Nat.reduceAdd,cD]
 by_cases EJ:k=110\/k=102
 .rw[aE EJ] at hR
  by_cases k1:k=110
  case' pos=>simp only[am,aJ (wW.2 k1)]
  case' neg=>simp only[am,aI (λh=>k1 (wW.1 h)),aJ (wV.2 (EJ.resolve_left k1))]
  all_goals
   refine cl (an5 l a D) ?_;cases cZ:a8 l (a:Nat) 97
   .rw[aA (by simp[cZ])] at hR;simp only[am,cD];refine bE.intro (C7 l a fin D) ?_;simp only[am,cD];refine aH ?_;simp[V.erase,aX,<-hR,cD]
   .rw[aE cZ] at hR;obtain⟨j,t,e,hj,_,hl⟩:=iB cZ;obtain rfl:j=a:=by omega
    obtain⟨_,fZ⟩:=sI hj;have hwa:px l (j:Nat)=⟨t.tok.aq,t.tok.pos⟩:=by unfold px;rw[fZ]
    simp only[am];refine ix (gz hj) ?_;simp only[am,al.fl];refine ix (gz hj) ?_;simp only[am,Nat.reduceAdd,al.fl];rw[show [V.aF t.tok.aq,V.int .i64 t.tok.pos]=(px l (j:Nat)).enc by rw[hwa];rfl];generalize px l (j:Nat)=w at hR ⊢
    by_cases k2:k=102
    .rw[aE k2] at hR;simp only[am,Nat.reduceAdd,aB.au,aJ (wV.2 k2),az.enc,az.cP,w1 j hl];refine aH ?_;simp[V.erase,aX,<-hR]
    .rw[aA k2] at hR;simp only[am,aB.au,cD,aI (λh=>k2 (wV.1 h)),w1 j hl];refine aL rfl (af.bg _) ⟨?_,rfl⟩;rw[<-hR];rfl
 rw[aA EJ] at hR;simp only[am,aI (λh=>EJ (.inl (wW.1 h))),aI (λh=>EJ (.inr (wV.1 h)))]
 by_cases k3:k=119
 .rw[aE k3] at hR;simp only[am,aJ (vI.2 k3)];refine cl (ZS l a fin D (by omega)) ?_;have fj:(lU l (a:Nat) fin).2.aG=ak->a<l.length:=λhb=>by
   unfold lU at hb;split at hb
   .rename_i hk;have:=o7 hk;omega
   .simp[dr] at hb
  generalize lU l (a:Nat) fin=g at hR fj ⊢;simp only[am,Nat.reduceAdd,br.enc];cases bU:g.2.aG
  .rw[aA (by simp[bU])] at hR;simp only[am,cD,w1 a (fj bU)];refine aL rfl (af.bg _) ⟨?_,rfl⟩;rw[<-hR];rfl
  .rw[aE bU] at hR;simp only[am,cD];refine aL rfl (af.bg _) ⟨?_,rfl⟩;rw[<-hR];rfl
 rw[aA k3] at hR;simp only[am,aI (λh=>k3 (vI.1 h))]
 by_cases k4:k=112
 .rw[aE k4] at hR;simp only[am,dt,aJ (vH.2 k4)]
  by_cases dG:a<l.length
  .have Cy:=M6 (l:=l) (k:=123) dG;have ht:bJ l (a:Nat)=l[a]:=by simp[bJ,dG]
   simp only[am,aI (show ¬(l.length:Int)<=(a:Nat) by omega)];refine ix (gz (cS dG)) ?_;simp only[am,al.fl]
   by_cases hk:l[a].tok.kind=123
   .rw[aE (by rw[Cy];exact aJ hk),ht] at hR;have T8:=A1 (cS dG)
    have:=gm l[a].aj
    simp only[am,aJ hk];refine ix (gz (cS dG)) ?_;simp only[am,al.au];refine cl (ap8 l[a] D (by omega)) ?_;simp only[am,cD];refine ix (gz (cS dG)) ?_;simp only[am,al.fl,cD,w1 a dG];refine aL rfl (af.bg _) ⟨?_,rfl⟩;rw[<-hR];rfl
   .rw[aA (by rw[Cy];simp[hk])] at hR;simp only[am,cD,aI hk];refine bE.intro (C7 l a fin D) ?_;simp only[am,cD];refine aH ?_;simp[V.erase,aX,<-hR,cD]
  .rw[aA (by rw[UM dG];simp)] at hR;simp only[am,cD,aJ (show(l.length:Int)<=(a:Nat) by omega)];refine bE.intro (C7 l a fin D) ?_;simp only[am,cD];refine aH ?_;simp[V.erase,aX,<-hR,cD]
 rw[aA k4] at hR;simp only[am,aI (λh=>k4 (vH.1 h))];refine cl (Nb (bd l) l (bS _) (by omega) a fin D) ?_;simp only[am,Nat.reduceAdd,br.enc]
 by_cases k5:k=114
 case' pos =>
  simp only[k5,cm] at hR;generalize fz (bd l) l (a:Nat) fin=g0;simp only[am,aJ (Ap.2 k5)];refine cl (asb (bd l) l (bS _) (by omega) a fin D) ?_;generalize hZ (bd l) l (a:Nat) fin=g at hR ⊢;simp only[am,Nat.reduceAdd,br.enc]
 case' neg =>
  simp only[k5,bZ] at hR;generalize fz (bd l) l (a:Nat) fin=g at hR ⊢;simp only[am,aI (λh=>k5 (Ap.1 h))]
 all_goals
  cases bU:g.aG
  .rw[aA (by simp[bU])] at hR;have MA:setAt c.enc 7 [V.int .i64 g.node.kind,.int .i64 g.node.pos,.aF g.node.aq,.sl .no 2 (g.node.an.map aB.enc),.sl .no 5 (g.node.aj.map Nd.enc)]=({c with left:=g.node}:az).enc:=rfl;have hsr:setAt c.enc 12 [V.int .i64 g.node.kind,.int .i64 g.node.pos,.aF g.node.aq,.sl .no 2 (g.node.an.map aB.enc),.sl .no 5 (g.node.aj.map Nd.enc)]=({c with right:=g.node}:az).enc:=rfl;simp only[am,cD]
   by_cases AJ:c.left.kind=0
   .rw[aE AJ] at hR;simp only[am,Nat.reduceAdd,cD,aJ AJ,MA];refine aL rfl (af.bg _) ⟨?_,rfl⟩;rw[<-hR];rfl
   .rw[aA AJ] at hR;simp only[am,Nat.reduceAdd,cD,aI AJ,hsr];refine aL rfl (af.bg _) ⟨?_,rfl⟩;rw[<-hR];rfl
  .rw[aE bU] at hR;simp only[am,cD];refine aL rfl (af.bg _) ⟨?_,rfl⟩;rw[<-hR];rfl
def agv:aU prog 157 (sq [rg 3 [oi 0],bl 0 (sq [sq [rg 4 [om 0,oo 1,nT,nb .lss 4,gA,oo 1,om 0,nS 9,oC 158 [11],gZ],cx 13 0],.block 1 (rg 14 [ic 0])]),rg 16 [om 0,o1 3],.ret]) [.tmp 3] 17:=aV func157
def agw:aU prog 158 (sq [rg 2 [oz 2],rg 3 [om 0,nu .geq 97,gA,om 0,nu .leq 122,gZ,nm,oh 9 (om 0),oh 9 (nu .geq 48),oh 9 (nm),og 12 (om 0),og 12 (nu .leq 57),oh 9 (oy 12 14),oq (.pick (.s 9) (.c (.bool ab)) (.s 15)),gB,om 0,nu .eql 95,gZ,o1 2],.ret]) [.tmp 2] 21:=aV func158
def agx:aU prog 159 (sq [rg 4 [oz 2],rg 5 [om 0,om 1,nS 5,nu .eql 45,gA,om 1,nB .add 1,om 0,nT,nb .lss 11,gZ,gA,om 0,om 1,nB .add 1,nS 17,nu .eql 45,gZ,o1 4],.ret]) [.tmp 4] 23:=aV func159
def agy:aU prog 160 (sq [rg 2 [oz 2],sq [rg 3 [om 0],.block 0 (sq [sq [rg 5 [ou .eql 3 35,o1 4],cd 4 .skip (sq [rg 6 [ou .eql 3 43,o1 4],cd 4 .skip (sq [rg 7 [ou .eql 3 38,o1 4],cd 4 .skip (sq [rg 8 [ou .eql 3 40,o1 4],cd 4 .skip (sq [rg 9 [ou .eql 3 41,o1 4],cd 4 .skip (sq [rg 10 [ou .eql 3 123,o1 4],cd 4 .skip (sq [rg 11 [ou .eql 3 125,o1 4],cd 4 .skip (sq [rg 12 [ou .eql 3 91,o1 4],cd 4 .skip (sq [rg 13 [ou .eql 3 93,o1 4],cd 4 .skip (sq [rg 14 [ou .eql 3 44,o1 4],cd 4 .skip (sq [rg 15 [ou .eql 3 58,o1 4],cd 4 .skip (sq [rg 16 [ou .eql 3 61,o1 4],cd 4 .skip (sq [rg 17 [ou .eql 3 124,o1 4],cd 4 .skip (rg 18 [ou .eql 3 60,o1 4])])])])])])])])])])])])])],cr 4 2 [oq (.mv (.c (.bool ab)))]])],rg 2 [oz 2],.ret]) [.tmp 2] 19:=aV func160
def ati{c:Int}(h:kr c=ab):rf c=ak/\c≠45/\c≠32/\c≠9:=by
 simp only[kr,uV,List.any_cons,List.any_nil,nh,cn,da,Fx] at h
 rcases h with h | h | h | h | h | h | h | h | h | h | h | h | h | h<;>subst h<;>exact⟨by decide,by decide,by decide,by decide⟩
def amR{n p:Nat}{c:UInt8}{r:List UInt8}{acc:List Tok}:eY (n+1) p (c::r) acc =
 if c.toNat=32\/c.toNat=9 then eY n (p+1) r acc
 else if c.toNat=45/\(r.head?.map UInt8.toNat)=aa 45 then(acc,ag)
 else if kr (c.toNat:Nat)=ab then eY n (p+1) r (acc++[⟨(c.toNat:Nat),[c],p⟩])
 else if dx (dQ (c::r))=ab then eY n (p+(dQ (c::r)).length) ((c::r).drop (dQ (c::r)).length) (acc++[⟨97,dQ (c::r),p⟩])
 else([],aa p):=by
 simp only[eY]
 by_cases hb:c.toNat=32\/c.toNat=9
 .have h1:fq c=false:=by
   simp only[fq]
   rcases hb with h | h<;>rw[h]<;>decide
  have h2:kr (c.toNat:Nat)=false:=by rcases hb with h | h<;>rw[h]<;>decide
  have h3:¬c.toNat=45:=by omega
  simp[hb,h2,h3,I7 h1]
 .rw[aA hb];split
  .rfl
  .cases hs:kr (c.toNat:Nat)
   .by_cases hn:dx (dQ (c::r))=ab
    .have:0<(dQ (c::r)).length:=by
      cases hq:dQ (c::r) with
      | nil=>rw[hq] at hn;simp[dx] at hn
      | cons _ _=>simp
     simp[hn,this]
    .simp[hn]
   .have h1:fq c=false:=(ati hs).1;simp[I7 h1]
def aj1(c:Int)(D:af):a7 158 [.int .u8 c] D (.bool (rf c)):=by
 refine agw.aT ?_;simp only[aS,am,aZ,Nat.reduceAdd]
 repeat' (first
  | (refine jH (λh=>?_) (λh=>?_)<;>simp only[am,h])
  | (refine eR (λh=>?_) (λh=>?_)<;>simp only[n5,h,Nat.reduceAdd,Nat.reduceEqDiff,aR])
  | (refine jL (λh=>?_) (λh=>?_)<;>simp only[n5,h,Nat.reduceAdd,Nat.reduceEqDiff,aR])
 )
 all_goals refine aH ?_
 all_goals simp_all [V.erase,rf,rD]
 all_goals (try omega)
def atg(c:Int)(D:af):a7 160 [.int .u8 c] D (.bool (kr c)):=by
 refine agy.aT ?_;simp only[aS,am,aZ,Nat.reduceAdd]
 repeat' (first
  | (refine jH (λh=>?_) (λh=>?_)<;>simp only[n5,h,Nat.reduceAdd,Nat.reduceEqDiff,aR])
  | (refine eR (λh=>?_) (λh=>?_)<;>simp only[am,h])
  | (refine jL (λh=>?_) (λh=>?_)<;>simp only[n5,h,Nat.reduceAdd,Nat.reduceEqDiff,aR])
 )
 all_goals refine aH ?_
 all_goals simp_all [V.erase,kr,uV]
 all_goals (try omega)
def acH(s:List UInt8)(a:Nat)(D:af)(ha:a<s.length)(hb:s.length<=aK):cz prog 159 [.aF s,.int .i64 (a:Nat)] D λv σ' => v = .bool (decide (s[a].toNat=45/\(s.drop (a+1)).head?.map UInt8.toNat=aa 45))/\σ' = D:=by
 simp only[aK] at hb;have w1:IntKind.i64.wrap ((a:Int)+1)=((a+1:Nat):Int):=by rw[wrap_i64];simp
 have hh:(s.drop (a+1)).head?.map UInt8.toNat=if h:a+1<s.length then aa s[a+1].toNat else none:=by
  by_cases h:a+1<s.length
  .rw[yz h,drop_cons h];rfl
  .rw[dif_neg h,JT (by omega)];rfl
 rw[hh];refine agx.aT ?_;simp only[aS,am,aZ,Nat.reduceAdd];refine rA (uW ha) ?_;simp only[am]
 by_cases sZ:s[a].toNat=45
 .simp only[am,aJ (show((s[a].toNat:Nat):Int)=45 by omega),w1]
  by_cases hl:a+1<s.length
  .simp only[am,aJ (show((a+1:Nat):Int)<s.length by omega),w1];refine rA (uW hl) ?_;simp only[am];refine aH ?_;simp[V.erase,sZ,hl];omega
  .simp only[am,aI (show ¬((a+1:Nat):Int)<s.length by omega)];refine aH ?_;simp[V.erase,hl]
 .simp only[am,aI (show ¬((s[a].toNat:Nat):Int)=45 by omega)];refine aH ?_;simp[V.erase,sZ]
def MU(s:List UInt8)(D:af)(p a n:Nat):St:=⟨[.int .i64 ((a+n:Nat):Int),.ptr (.out p) 0]++ar 15 .any,[],D⟩
def aeE{s:List UInt8}{p a:Nat}(hp:D.box p=aa [.aF s])(ha:a<=s.length)(hb:s.length<=aK):a7 157 [.int .i64 (a:Nat),.ptr (.out p) 0] D (.int .i64 ((a+(dQ (s.drop a)).length:Nat):Int)):=by
 simp only[aK] at hb;refine agv.aT ?_;simp only[aS,am,aZ,Nat.reduceAdd];refine gn (λq:{n:Nat // a+n<=s.length/\((s.drop a).take n).all fq=ab}=>MU s D p a q.1) (λq=>s.length - q.1) ?_ ?_
 .refine bm.enter ⟨0,by simpa using ha,by simp⟩ ?_ cC.rfl bK.rfl;simp[MU,ar,am]
 .rintro⟨n,hn,cK⟩;simp only[MU,ar,am,hp];have w1:IntKind.i64.wrap (((a+n:Nat):Int)+1)=((a+(n+1):Nat):Int):=by rw[wrap_i64];omega
  by_cases aC:a+n<s.length
  .simp only[am,aJ (show((a+n:Nat):Int)<s.length by omega),hp];refine rA (uW aC) ?_;simp only[am];refine cl (aj1 s[a+n].toNat D) ?_;cases hg:rf (s[a+n].toNat:Nat)
   .simp only[am];refine aL rfl (af.bg _) ⟨?_,rfl⟩;simp[V.erase,I6 cK hn (λ_=>hg)]
   .simp only[am,w1];refine bm.again ⟨n+1,by omega,?_⟩ (by simp;omega) (by simp[am]) cC.rfl bK.rfl;have hd:n<(s.drop a).length:=by simp;omega
    rw[DY hd,cK];simp only[lD,List.getElem_drop];exact hg
  .simp only[am,aI (show ¬((a+n:Nat):Int)<s.length by omega)];refine aL rfl (af.bg _) ⟨?_,rfl⟩;simp[V.erase,I6 cK hn (λh=>absurd h aC)]
def aje:aU prog 96 (sq [rg 2 [od (aa 1) (.gO 1 (.s 0)),oz 8,oM [0,0]],.scope (sq [rg 9 [oq (.ko (.func 157) [] [(.s 1)]),o1 4],rg 5 [oz 8],rg 6 [oi 0],.skip,bl 0 (sq [sq [rg 10 [om 6,oo 1,nT,nb .lss 10],cx 13 0],.block 1 (sq [rg 14 [oo 1,om 6,nS 14,o1 7],.block 2 (sq [rg 18 [om 7,nu .eql 32,gB,om 7,nu .eql 9,gZ,o1 17],cd 17 (sq [rg 24 [ic 6],(.exit 1)]) (sq [rg 27 [oo 1,om 6,oC 159 [27,28],o1 26],cd 26 (.exit 0) (sq [rg 31 [om 7,oC 160 [31],o1 30],ci 30 (sq [rg 33 [om 5,om 7,oo 1,om 6,om 6,nB .add 1,oK 35 36 38,om 6,oW [3,1,0] [(0,1,34),(1,1,39),(2,1,40)],n1 3,na 3 33,o1 5],rg 44 [ic 6],(.exit 1)])])])]),rg 46 [om 4,om 6,oq (.iX (.s 46) [(.s 47)]),o1 8],sq [rg 49 [oo 1,om 6,om 8,oK 49 50 51,oC 161 [52],nn],cr 54 55 [om 6,oG [0,0] [(0,1,.c (.int .i64 1)),(1,1,.s 55)],oU 2 8,o2 2 3]],rg 57 [om 5,oo 1,om 6,om 8,oK 58 59 60,om 6,oG [3,1,0] [(0,1,.c (.int .u8 97)),(1,1,.s 61),(2,1,.s 62)],n1 3,na 3 57,o1 5],rg 66 [om 8,o1 6]])]),rg 67 [om 5,oW [0,0] [],ot 2 67,o2 2 3],.ret])]) [.tmp 2,.cell 3 ab 2] 69:=aV func96 ⟨[1],[]⟩
abbrev JQ(s:List UInt8)(D:af)(p:Nat)(R:List Tok × Option Int):={q:Nat × Nat × Nat × List Tok // (D.set p [.aF s]).aP q.2.2.1=ag/\eY q.1 q.2.1 (s.drop q.2.1) q.2.2.2=R/\q.2.2.2.length<=q.2.1/\q.2.1<=s.length/\s.length<=q.2.1+q.1}
def xA(s:List UInt8)(D:af)(p a Z:Nat)(acc:List Tok):St :=
 ⟨[.aF s,.ptr (.out p) 0,.any,.ptr (.aD 0) 0,.fn (.func 157) [] [.ptr (.out p) 0],.sl (.tk Z) 3 (acc.map Tok.enc),.int .i64 (a:Nat)]++ar 62 .any,[[.int .i64 0,.int .i64 0]],(D.set p [.aF s]).aY Z acc.length⟩
def amS(s:List UInt8)(D:af)(hb:s.length+1<=aK):a7 96 [.aF s] D (.bt [.sl .no 3 ((dv s).1.map Tok.enc),vv (dv s).2]):=by
 simp only[aK] at hb;generalize hR:dv s=R;refine aje.aT ?_;simp only[aS,am,aZ,Nat.reduceAdd];refine kI λp hp=>?_
 simp only[am,cV];have pM:∀Z m,((D.set p [.aF s]).aY Z m).box p=aa [.aF s]:=λZ m=>by simp[af.aY,af.set]
 have qy:∀Z m,(D.set p [.aF s]).aP Z=ag->D.sub ((D.set p [.aF s]).aY Z m):=λZ m h=>af.Dn (iS hp) (jQ h)
 refine gn (λq:JQ s D p R=>xA s D p q.1.2.1 q.1.2.2.1 q.1.2.2.2) (λq=>s.length - q.1.2.1) ?_ ?_
 .refine bm.sH 0 λZ bc=>⟨⟨(s.length,0,Z,[]),bc,hR,by simp,by simp,by simp⟩,?_,rfl,rfl⟩
  simp[xA,ar,kJ]
 .rintro⟨⟨n,a,Z,acc⟩,bc,hR,h1,h2,h3⟩;simp only at bc hR h1 h2 h3;simp only[xA,ar,am];refine eR ?_ ?_
  .intro aC;have aC:a<s.length:=by simpa using aC
   obtain⟨m,rfl⟩:∃m,n=m+1:=⟨n - 1,by omega⟩;rw[drop_cons aC] at hR;rw[amR,<-drop_cons aC] at hR;have dc:=Xq (s:=s) (a:=a);have w1:IntKind.i64.wrap ((a:Int)+1)=((a+1:Nat):Int):=by rw[wrap_i64];simp
   have again:∀(b:Nat) (pz : List Tok) (t:List V) (l:List (List V)),eY m b (s.drop b) pz = R->pz.length<=b->a<b->b<=s.length ->
    cQ t (xA s D p b Z pz).t->l=[[.int .i64 0,.int .i64 0]] ->
    bm ⟨t,l,(D.set p [.aF s]).aY Z pz.length⟩ λaM => ∃j:JQ s D p R,aM = xA s D p j.1.2.1 j.1.2.2.1 j.1.2.2.2/\s.length - j.1.2.1<s.length - a:=λb pz t l e1 e2 e3 e4 e5 e6=>by
    refine bm.again (μ:=λq:JQ s D p R=>s.length - q.1.2.1) (I:=λq=>xA s D p q.1.2.1 q.1.2.2.1 q.1.2.2.2) ⟨(m,b,Z,pz),bc,e1,e2,e4,by simp only;omega⟩ (by simp;omega) e5 (by rw[e6];exact cC.rfl) bK.rfl
   simp only[am];refine rA (uW aC) ?_;simp only[am]
   by_cases lg:s[a].toNat=32\/s[a].toNat=9
   .rw[aE lg] at hR
    by_cases h32:s[a].toNat=32
    case' pos=>simp only[am,cV,Nat.reduceAdd,Nat.reduceEqDiff,aJ (show((s[a].toNat:Nat):Int)=32 by omega),w1]
    case' neg=>simp only[am,cV,Nat.reduceAdd,Nat.reduceEqDiff,aI (show ¬((s[a].toNat:Nat):Int)=32 by omega),aJ (show((s[a].toNat:Nat):Int)=9 by omega),w1]
    all_goals exact again (a+1) acc _ _ hR (by omega) (by omega) (by omega) (by simp[xA,ar,am]) rfl
   .rw[aA lg] at hR;simp only[am,aI (show ¬((s[a].toNat:Nat):Int)=32 by omega),aI (show ¬((s[a].toNat:Nat):Int)=9 by omega)];refine(acH s a _ aC (by simp only[aK];omega)).mono ?_;rintro v σ' ⟨rfl,rfl⟩
    by_cases rj:s[a].toNat=45/\(s.drop (a+1)).head?.map UInt8.toNat=aa 45
    .rw[aE rj] at hR;simp only[am,cV,Nat.reduceAdd,Nat.reduceEqDiff,aJ rj];refine aL rfl (qy Z _ bc) ⟨?_,rfl⟩;simp[V.erase,aX,<-hR,vv,fx]
    .rw[aA rj] at hR;simp only[am,aI rj];refine(atg (s[a].toNat:Nat) _).mono ?_;rintro v σ' ⟨rfl,rfl⟩;cases ET:kr (s[a].toNat:Nat)
     .rw[aA (by simp[ET])] at hR;simp only[am];refine(aeE (s:=s) (pM Z _) (by omega) (by simp only[aK];omega)).mono ?_;rintro v σ' ⟨rfl,rfl⟩;simp only[am,cV];refine Dk (by omega) (by omega) ?_;rw[KP];simp only[am];refine(uI (dQ (s.drop a)) _).mono ?_;rintro v σ' ⟨rfl,rfl⟩;cases CK:dx (dQ (s.drop a))
      .rw[aA (by simp[CK])] at hR;simp only[am,cV,Nat.reduceAdd];refine aL rfl (qy Z _ bc) ⟨?_,rfl⟩;simp[V.erase,aX,<-hR,vv,fx]
      .rw[aE CK] at hR;have hN:0<(dQ (s.drop a)).length:=by
        cases hq:dQ (s.drop a) with
        | nil=>rw[hq] at CK;simp[dx] at CK
        | cons _ _=>simp
       simp only[am,cV];refine Dk (by omega) (by omega) ?_;rw[KP];simp only[am,Nat.reduceAdd];refine iy (by simp[aK];omega) (by rw[aR,gw]) ?_;simp only[am,aR,gJ];have e:acc.length+1=(acc++[(⟨97,dQ (s.drop a),a⟩:Tok)]).length:=by simp
       rw[e];rw[wL] at hR;exact again (a+(dQ (s.drop a)).length) _ _ _ hR (by simp;omega) (by omega) (by omega) (by simp[xA,ar,am,Tok.enc]) rfl
     .rw[aE ET] at hR;simp only[am,cV,w1];refine Dk (by omega) (by omega) ?_;rw[RY aC];simp only[am,Nat.reduceAdd];refine iy (by simp[aK];omega) (by rw[aR,gw]) ?_;simp only[am,cV,Nat.reduceAdd,Nat.reduceEqDiff,aR,gJ,w1];have e:acc.length+1=(acc++[(⟨(s[a].toNat:Nat),[s[a]],a⟩:Tok)]).length:=by simp
      rw[e];exact again (a+1) _ _ _ hR (by simp;omega) (by omega) (by omega) (by simp[xA,ar,am,Tok.enc]) rfl
  .intro aC;have aC:a=s.length:=by simp at aC;omega
   subst aC;rw[BS] at hR;have oD : (acc,ag)=R:=by cases n<;>simpa [eY] using hR
   simp only[am,cV,Nat.reduceAdd];refine aL rfl (qy Z _ bc) ⟨?_,rfl⟩;simp[V.erase,aX,<-oD,vv,fx]
def ajf:aU prog 97 (sq [rg 2 [oz 10,oM [0,0]],rg 4 [oz 9],rg 5 [oz 10],sq [rg 11 [om 0,nL,oi 0],lp 12 0 (sq [rg 15 [oA 3 11 13,nl 3,oZ 7 [3,1,0],o2 3 7],rg 17 [om 4,nL,o1 8],.block 2 (sq [rg 27 [fo 0 7,oC 162 [28],nu .neq 0,o1 26],cd 26 (sq [sq [rg 31 [om 8,nB .geq 24],cr 32 33 [ol 3 7,oC 163 [33],oe 34 0,oe 34 1,ot 2 35,o2 2 3]],rg 37 [om 4,ol 3 7,om 5,oW [3,1,0,10] [(0,3,38),(3,1,39)],nO (.my 4),na 4 37,o1 4],rg 5 [oz 10]]) (sq [rg 44 [fo 0 7,oC 164 [45],o1 43],cd 43 (sq [sq [dg 47 [om 8,nB .eql 0,gB,om 4,om 8,nB .sub 1,nA 4 50,nf 0,nF 0,oC 162 [56],of 0 7,mM [0],no,nb .neq 57,gZ],cr 61 62 [ol 3 7,oC 163 [62],oe 63 0,oe 63 1,ot 2 64,o2 2 3]],rg 66 [om 4,om 8,nB .sub 1,nA 4 66,nl 4,oZ 9 [3,1,0,10],o2 4 9],rg 71 [om 4,om 8,nB .sub 1,om 8,nB .sub 1,oq (.kV 4 (.s 71) ag (aa (.s 73)) (aa (.s 75))),o1 4],rg 77 [fo 3 9,of 0 9,nl 3,om 5,fo 2 7,oW [3,1,0,10,0] [(0,3,80),(3,1,81),(4,1,83)],n1 5,na 5 78,o1 5]]) (rg 19 [om 5,ol 3 7,fo 2 7,oW [3,1,0,10,0] [(0,3,20),(4,1,22)],n1 5,na 5 19,o1 5])])])]) 87],sq [rg 88 [om 4,nL,o1 10],rg 90 [om 10,nB .gtr 0],cr 91 92 [om 4,om 10,nB .sub 1,nA 4 92,nf 0,nl 3,oC 163 [97],oe 98 0,oe 98 1,ot 2 99,o2 2 3]],rg 101 [om 5,oW [0,0] [],ot 2 101,o2 2 3],.ret]) [.tmp 2,.cell 3 ab 2] 103:=aV func97 ⟨[41],[]⟩
def agA:aU prog 162 (sq [rg 2 [oz 3],rg 3 [oz 3],sq [rg 4 [om 0],.block 0 (sq [.block 2 (sq [.block 1 (sq [sq [sq [sq [rg 6 [ou .eql 4 123,o1 5],cd 5 .skip (rg 7 [ou .eql 4 91,o1 5])],ci 5 (.exit 1)],rg 9 [ou .eql 4 40,o1 8],ci 8 (.exit 2)],(.exit 0)]),rg 10 [om 3,nu .add 1,o1 3]]),sq [rg 12 [om 0,nu .add 1,om 3,nb .add 13,o1 2],.ret],(.exit 0)])],rg 2 [oz 3],.ret]) [.tmp 2] 16:=aV func162
def agB:aU prog 163 (sq [rg 2 [ox 1 3 0,oz 10,oM [0,0]],dg 4 [fo 2 1,oG [0,0] [(0,1,.c (.int .i64 2)),(1,1,.s 5)],oU 2 10,o2 2 3],.ret]) [.tmp 2,.cell 3 ab 2] 7:=aV func163
def agC:aU prog 164 (sq [rg 2 [oz 2],rg 3 [om 0,nu .eql 41,gB,om 0,nu .eql 125,gZ,gB,om 0,nu .eql 93,gZ,o1 2],.ret]) [.tmp 2] 13:=aV func164
def Rs(c:Int)(D:af):a7 162 [.int .u8 c] D (.int .u8 (closing c)):=by
 refine agA.aT ?_;simp only[aS,am,aZ,Nat.reduceAdd]
 by_cases h1:c=123
 .subst h1;simp only[am,Nat.reduceEqDiff,bL];refine aH ?_;simp[V.erase];rfl
 .simp only[am,aI h1]
  by_cases h2:c=91
  .subst h2;simp only[am,Nat.reduceEqDiff,bL];refine aH ?_;simp[V.erase];rfl
  .simp only[am,aI h2]
   by_cases h3:c=40
   .subst h3;simp only[am,Nat.reduceEqDiff,bL];refine aH ?_;simp[V.erase];rfl
   .simp only[am,Nat.reduceEqDiff,aI h3];refine aH ?_;simp[V.erase,closing,h1,h2,h3]
def acx(c:Int)(D:af):a7 164 [.int .u8 c] D (.bool (j5 c)):=by
 refine agC.aT ?_;simp only[aS,am,aZ,Nat.reduceAdd]
 repeat' (first
  | (refine jH (λh=>?_) (λh=>?_)<;>simp only[am,h])
  | (refine eR (λh=>?_) (λh=>?_)<;>simp only[n5,h,Nat.reduceAdd,Nat.reduceEqDiff,aR])
  | (refine jL (λh=>?_) (λh=>?_)<;>simp only[n5,h,Nat.reduceAdd,Nat.reduceEqDiff,aR])
 )
 all_goals refine aH ?_
 all_goals simp_all [V.erase,j5]
 all_goals (try omega)
def GS(t:Tok)(D:af):a7 163 [.agg t.enc] D (.bt [.sl .no 5 [],jq (aa t.pos)]):=by
 refine agB.aT ?_;simp only[aS,am,aZ,Tok.enc,am];refine aH ?_;simp[V.erase,aX,jq,df,fx]
structure iV where
 tok:Tok
 tk:Tk
 ahead:List al
def iV.enc(x:iV):List V:=[.int .u8 x.tok.kind,.aF x.tok.aq,.int .i64 x.tok.pos,.sl x.tk 5 (b_ x.ahead)]
def iV.pair(x:iV):Tok × List al:=(x.tok,x.ahead)
def iV.tn(x:iV):Tk × Nat:=(x.tk,(b_ x.ahead).length)
structure B1 where
 i:Nat
 Jj:Tk
 op:List iV
 Dq:Tk
 row:List al
 Z:af
def uA(l:List Tok)(q:B1):St :=
 ⟨[.sl .no 3 (l.map Tok.enc),.any,.any,.ptr (.aD 0) 0,.sl q.Jj 4 (q.op.map iV.enc),.sl q.Dq 5 (b_ q.row)]++ar 5 .any++[.sl .no 3 (l.map Tok.enc),.int .i64 l.length,.int .i64 (q.i:Nat)]++ar 89 .any,[[.int .i64 0,.int .i64 0]],q.Z⟩
def GD(l:List Tok)(D:af)(R:List al × Option Int)(q:B1):Prop :=
 q.i<=l.length/\gx (l.drop q.i) (q.op.map iV.pair) q.row=R/\jZ D q.Z ((q.Jj,(q.op.map iV.enc).length)::(q.Dq,(b_ q.row).length)::q.op.map iV.tn)/\q.op.length<=q.i/\q.row.length<=q.i/\∀x∈q.op,x.ahead.length+1<=q.i
def Yg(l:List U):l=[]\/∃ys x,l=ys++[x]:=by
 rcases P9 l with h | ⟨ys,x,h⟩
 .exact .inl h
 .exact .inr ⟨ys,x,by rw[h];simp⟩
def aug(l:List Tok)(D:af)(hb:l.length+1<=aK):a7 97 [.sl .no 3 (l.map Tok.enc)] D (.bt [.sl .no 5 (b_ (gx l [] []).1),jq (gx l [] []).2]):=by
 simp only[aK] at hb;generalize hR:gx l [] []=R;refine ajf.aT ?_;simp only[aS,am,aZ,Nat.reduceAdd];refine gn (λq:{q:B1 // GD l D R q}=>uA l q.1) (λq=>l.length - q.1.i) ?_ ?_
 .refine bm.enter ⟨⟨0,.ba,[],.ba,[],D⟩,by simp,hR,jZ.init (by simp),by simp,by simp,by simp⟩ ?_ cC.rfl bK.rfl;simp[uA,ar,am,b_]
 .rintro⟨⟨i,Jj,op,Dq,row,Z⟩,h1,hR,hT,e_,ec,sc⟩;simp only at h1 hR hT e_ ec sc;simp only[uA,ar,am];refine eR ?_ ?_
  .intro aC;have aC:i<l.length:=by simpa using aC
   rw[mJ aC] at hR;have alc:iG l i=l[i]:=by simp[iG,aC]
   rw[<-alc] at hR;generalize ht:iG l i=t at hR;have wi:IntKind.i64.wrap ((i:Int)+1)=((i+1:Nat):Int):=by rw[wrap_i64];simp
   have again:∀(q:B1) (t:List V) (m:List (List V)),GD l D R q->q.i=i+1->cQ t (uA l q).t->cC (m.take 1) [[.int .i64 0,.int .i64 0]] ->
    bm ⟨t,m,q.Z⟩ λaM => ∃j:{q:B1 // GD l D R q},aM = uA l j.1/\l.length - j.1.i<l.length - i:=λq t m hq hi ht hm=>by
    refine bm.ql (I:=λq:{q:B1 // GD l D R q}=>uA l q.1) (μ:=λq=>l.length - q.1.i) ⟨q,hq⟩ (by simp only;omega) ht hm bK.rfl (by simp[uA,ar,bR,V.lo]) (by simp[uA,dw,bR,V.lo])
   simp only[am];refine ix (wB aC) ?_;rw[ht];simp only[am,Nat.reduceAdd,aR,Tok.enc];refine(Rs t.kind _).mono ?_;rintro v σ' ⟨rfl,rfl⟩;simp only[gx] at hR
   by_cases hc:closing t.kind=0
   .rw[aA (by simp[hc])] at hR;simp only[am,aJ hc];refine(acx t.kind _).mono ?_;rintro v σ' ⟨rfl,rfl⟩;cases gu:j5 t.kind
    .rw[gu] at hR;simp only[da,bZ] at hR;simp only[am,Nat.reduceAdd];refine Ko (hT.perm (List.Perm.swap _ _ _)) (by rw[dt];simp[aK];omega) λO lq=>?_
     simp only[dt,aR,dB,eM,jY] at lq;simp only[am,dt,wi];have e:b_ row++[[V.int .u8 t.kind,.aF t.aq,.int .i64 t.pos,.sl .no 5 [],.int .i64 t.pos]]=b_ (row++[.mk t [] t.pos]):=by simp[n_,al.enc,b_]
     rw[e];refine again ⟨i+1,Jj,op,.tk O,row++[.mk t [] t.pos],σ'.aY O (row.length+1)⟩ _ _ ⟨aC,hR,?_,by simp only;omega,by simp;omega,λx hx=>by have:=sc x hx;simp only;omega⟩ rfl (by simp[uA,ar,am]) (by simp[am]);refine jZ.perm ?_ (List.Perm.swap _ _ _);simpa [dt] using lq
    .rw[gu] at hR;simp only[cm] at hR
     rcases Yg op with rfl | ⟨ys,x,rfl⟩
     .simp only[fh,J4] at hR;simp only[am,fh,eM,show decide (((0:Nat):Int)=0)=ab from rfl];refine(GS t _).mono ?_;rintro v σ' ⟨rfl,rfl⟩;simp only[am,Nat.reduceAdd,jq];refine aL rfl hT.1 ⟨?_,rfl⟩;simp[V.erase,aX,<-hR,df,fx,b_]
     .have aW:¬(((ys++[x]).length:Nat):Int)=0:=by simp;omega
      have wn:IntKind.i64.wrap ((((ys++[x]).length:Nat):Int) - 1)=(ys.length:Nat):=by rw[wrap_i64 (by simp<;>omega) (by simp at e_ ⊢<;>omega)];simp
      have gF:((ys++[x]).map iV.enc)[((ys.length:Nat):Int).toNat]?=aa x.enc:=by simp
      simp only[gy,ch,fh,Gm,JS,iV.pair] at hR;simp only[am,aI aW,wn];refine ix (gF) ?_;simp only[am,iV.enc];refine bE.intro (Rs x.tok.kind _) ?_;simp only[am]
      by_cases hk:closing x.tok.kind=t.kind
      .rw[aE hk] at hR;simp only[am,aJ hk,wn];refine ix (gF) ?_;simp only[am,cV,Nat.reduceAdd,iV.enc,wn];refine Jb (by simp) ?_;have Eo:jZ D σ' ((x.tk,(b_ x.ahead).length)::ys.map iV.tn):=by
        refine(hT.tail.tail).perm ?_;simp only[gy,ch,fh,iV.tn];exact ZC _ _
       have hx3:=sc x (by simp);simp only[bP,dB,eM] at e_;simp only[am,Nat.reduceAdd];refine Ko Eo (by rw[dt];simp[aK];omega) λO lq=>?_
       simp only[dt,dB,eM,jY] at lq;simp only[am,dt,wi];have e:b_ x.ahead++[[V.int .u8 x.tok.kind,.aF x.tok.aq,.int .i64 x.tok.pos,.sl .no 5 (b_ row),.int .i64 t.pos]]=b_ (x.ahead++[.mk x.tok row t.pos]):=by simp[n_,al.enc]
       have e2:((ys++[x]).map iV.enc).take ys.length=ys.map iV.enc:=by simp
       rw[e,e2];refine again ⟨i+1,.ba,ys,.tk O,x.ahead++[.mk x.tok row t.pos],σ'.aY O (x.ahead.length+1)⟩ _ _ ⟨aC,hR,?_,by simp only;omega,by simp;omega,λy hy=>by have:=sc y (by simp[hy]);simp only;omega⟩ rfl (by simp[uA,ar,am]) (by simp[am]);refine jZ.ba ?_;simpa [dt] using lq
      .rw[aA hk] at hR;simp only[am,aI hk];refine(GS t _).mono ?_;rintro v σ' ⟨rfl,rfl⟩;simp only[am,Nat.reduceAdd,jq];refine aL rfl hT.1 ⟨?_,rfl⟩;simp[V.erase,aX,<-hR,df,fx,b_]
   .rw[aE hc] at hR;simp only[am,aI hc];rw[aR] at hR
    by_cases rh:24<=op.length
    .rw[aE rh] at hR;simp only[am,aJ (show(24:Int)<=op.length by omega)];refine(GS t _).mono ?_;rintro v σ' ⟨rfl,rfl⟩;simp only[am,Nat.reduceAdd,jq];refine aL rfl hT.1 ⟨?_,rfl⟩;simp[V.erase,aX,<-hR,df,fx,b_]
    .rw[aA rh] at hR;simp only[am,jm,Nat.reduceAdd,aI (show ¬(24:Int)<=op.length by omega),ap2];refine Ko hT (by simp[aK];omega) λO lq=>?_
     simp only[aR,dB,eM,jY] at lq;simp only[am,aR,wi];have e:op.map iV.enc++[[V.int .u8 t.kind,.aF t.aq,.int .i64 t.pos,.sl Dq 5 (b_ row)]]=(op++[(⟨t,Dq,row⟩:iV)]).map iV.enc:=by simp[iV.enc]
     rw[e];refine again ⟨i+1,.tk O,op++[⟨t,Dq,row⟩],.ba,[],σ'.aY O (op.length+1)⟩ _ _ ⟨aC,by simpa [iV.pair] using hR,?_,by simp;omega,by simp,λx hx=>?_⟩ rfl (by simp[uA,ar,am,b_]) (by simp[am])
     .simp only[aR,bP,dB,eM,jY,gy,ch,fh,iV.tn];refine jZ.perm (jZ.ba (n:=(b_ []).length) lq) ?_;refine(List.Perm.swap _ _ _).trans (List.Perm.cons _ (List.Perm.cons _ ?_));exact(ZC _ _).symm
     .rcases jC.1 hx with hx | hx
      .have:=sc x hx;simp only;omega
      .simp at hx;subst hx;simp only;omega
  .intro aC;have aC:i=l.length:=by simp at aC;omega
   subst aC;rw[BS] at hR;simp only[gx] at hR;simp only[am,aR];refine eR ?_ ?_
   .intro h0
    rcases Yg op with rfl | ⟨ys,x,rfl⟩
    .simp at h0
    have wn:IntKind.i64.wrap ((((ys++[x]).length:Nat):Int) - 1)=(ys.length:Nat):=by rw[wrap_i64 (by simp<;>omega) (by simp at e_ ⊢<;>omega)];simp
    have gF:((ys++[x]).map iV.enc)[((ys.length:Nat):Int).toNat]?=aa x.enc:=by simp
    simp only[gy,ch,fh,Gm,iV.pair] at hR;simp only[am,wn];refine ix (gF) ?_;simp only[am,iV.enc];refine(GS x.tok _).mono ?_;rintro v σ' ⟨rfl,rfl⟩;simp only[am,Nat.reduceAdd,jq];refine aL rfl hT.1 ⟨?_,rfl⟩;simp[V.erase,aX,<-hR,df,fx,b_]
   .intro h0;have h0:op=[]:=by
     cases op with
     | nil=>rfl
     | cons x xs=>simp at h0<;>omega
    subst h0;simp only[fh,J4] at hR;simp only[am,Nat.reduceAdd];refine aL rfl hT.1 ⟨?_,rfl⟩;simp[V.erase,aX,<-hR,jq,df,fx]
def ajg:aU prog 98 (sq [rg 0 [oZ 2 [1,0]],rg 4 [om 0,oc 165 [.s 4,.c (.int .u8 97)],oZ 3 [3,1,0,10,0],o2 5 3],rg 6 [of 0 3,nF 1,of 0 3,nF 2,oW [1,0] [(0,1,8),(1,1,11)],o2 2 2],.ret]) [.cell 2 ab 2] 13:=aV func98
def afU:aU prog 102 (sq [sq [rg 2 [mk 0,nf 3,nF 0,nB .neq 0],ci 7 .ret],rg 8 [om 0,mk 0,nF 2,oG [0,0] [(0,1,.c (.int .i64 2)),(1,1,.s 12)],ok 8,nf 3,os 2 15 13],dg 16 [mk 0,nF 1,mk 0,nF 0,nL,nb .lss 19],ci 25 (dg 26 [om 0,mk 0,nF 0,mk 0,nF 1,nA 5 30,nf 0,nF 2,ok 26,nf 3,nf 1,os 1 41 38])]) [] 42:=aV func102
def agD:aU prog 165 (sq [rg 0 [oZ 4 [3,1,0,10,0]],sq [dg 5 [mk 0,nf 3,nF 0,nB .neq 0,gB,mk 0,nF 1,mk 0,nF 0,nL,nb .geq 15,gZ,gB,mk 0,nF 0,mk 0,nF 1,nA 5 27,nf 0,nF 0,om 1,nb .neq 35,gZ],ci 38 (sq [rg 39 [om 0,oC 102 [39]],rg 41 [oW [3,1,0,10,0] [],o2 5 4],.ret])],rg 42 [mk 0,nF 1,nB .add 1,ok 42,nf 1,os 1 48 46],dg 49 [mk 0,nF 0,mk 0,nF 1,nB .sub 1,nA 5 52,nl 5,o2 5 4],.ret]) [.cell 4 ab 5] 60:=aV func165
def agG:aU prog 168 (sq [rg 0 [ox 5 5 1,ox 7 2 3],sq [rg 8 [nF 0,nB .neq 0],cr 10 11 [om 0,ol 2 7,ok 11,nf 3,os 2 14 12]],rg 15 [om 0,om 2,ok 15,nf 1,os 1 18 16],sq [rg 19 [mk 0,nf 5,nf 7,nF 0,nB .eql 0],cr 25 26 [om 0,ol 5 5,ok 26,nf 5,nf 7,os 5 30 27]],rg 31 [om 0,ol 5 5,ok 31,nf 5,nf 12,os 5 35 32]]) [] 36:=aV func168
variable{cs:List V}{r:Nat}{rd:ae}
def Rj(h:D.box r=aa (rd.enc++cs))(h0:0<=rd.at_):dS 102 [.ptr (.out r) 0] D (.bt []) (D.set r (rd.fail.enc++cs)):=by
 refine afU.aT ?_;simp only[aS,am,aZ,am,h,ae.enc];cases hb:rd.aG with
 | some b =>
  simp only[am,Nat.reduceAdd,c7,Int.reduceEq,df];refine aL rfl (af.bg _) ⟨rfl,?_⟩;rw[ae.fail,hb];exact(af.zB h).symm
 | none =>
  simp only[am,Nat.reduceAdd,dt,bL,df,h,ae.enc]
  by_cases h1:rd.at_<rd.l.length
  .obtain⟨j,hj⟩:=wK h0;have gG : j<rd.l.length:=by omega
   simp only[am,bL,h1,bL];refine qD h0 (c:=rd.l[j].enc) (by simp[n_,hj,gG]) ?_;simp only[am,Nat.reduceAdd,cJ];refine aL rfl (af.bg _) ⟨rfl,?_⟩;simp[ae.fail,ae.spot,hb,hj,gG,fx]
  .simp only[am,c7,h1,c7];refine aL rfl (af.bg _) ⟨rfl,?_⟩
   have:rd.l[rd.at_.toNat]?=none:=sP (by omega)
   simp[ae.fail,ae.spot,hb,this,fx]
def G7{k:Int}(h:D.box r=aa (rd.enc++cs))(h0:0<=rd.at_)(hb:rd.l.length<=aK):dS 165 [.ptr (.out r) 0,.int .u8 k] D (.agg (rd.take k).1.enc) (D.set r ((rd.take k).2.enc++cs)):=by
 refine agD.aT ?_;simp only[aS,am,aZ,am,h,ae.enc];have j6:rd.bW k=ak->dS 102 [.ptr (.out r) 0] D (.bt []) (D.set r (rd.fail.enc++cs)):=λ_=>Rj h h0
 cases bU:rd.aG with
 | some b =>
  have hs:rd.bW k=false:=by simp[ae.bW,ae.ok,bU]
  simp only[am,Nat.reduceAdd,c7,Int.reduceEq,df];refine(j6 hs).mono ?_;rintro v σ' ⟨rfl,rfl⟩;simp only[am,Nat.reduceAdd];refine aL rfl (af.bg _) ⟨?_,?_⟩
  .simp[ae.take,hs,V.erase,aX,al.zero,al.enc,b_]
  .simp[ae.take,hs,ae.enc,df]
 | none =>
  simp only[am,Nat.reduceAdd,dt,bL,df,h,ae.enc]
  by_cases h1:rd.at_<rd.l.length
  .obtain⟨j,hj⟩:=wK h0;have gG : j<rd.l.length:=by omega
   simp only[am,aI (show ¬(rd.l.length:Int)<=rd.at_ by omega),h,ae.enc];refine qD h0 (c:=rd.l[j].enc) (by simp[n_,hj,gG]) ?_;simp only[am,cJ]
   by_cases hk:rd.l[j].tok.kind=k
   .have hs:rd.bW k=true:=by simp[ae.bW,ae.ok,bU,a8,hj,gG,hk]
    have w1:IntKind.i64.wrap (rd.at_+1)=rd.at_+1:=by simp only[aK] at hb;exact wrap_i64 (by omega) (by omega)
    have w2:IntKind.i64.wrap (rd.at_+1 - 1)=rd.at_:=by rw[show rd.at_+1 - 1=rd.at_ by omega];simp only[aK] at hb;exact wrap_i64 (by omega) (by omega)
    simp only[am,aJ hk,h,ae.enc,w1,w2];refine qD h0 (c:=rd.l[j].enc) (by simp[n_,hj,gG]) ?_;simp only[am,al.au];refine aL al.dV (af.bg _) ⟨?_,?_⟩
    .simp[ae.take,hs,V.erase,hj,gG,ij,al.au];exact cJ _
    .simp[ae.take,hs,df]
   .have hs:rd.bW k=false:=by simp[ae.bW,ae.ok,bU,a8,hj,gG,hk]
    simp only[am,aI hk];refine(j6 hs).mono ?_;rintro v σ' ⟨rfl,rfl⟩;simp only[am,Nat.reduceAdd];refine aL rfl (af.bg _) ⟨?_,?_⟩
    .simp[ae.take,hs,V.erase,aX,al.zero,b_,al.tok,al.aj,al.fin]
    .simp[ae.take,hs,ae.enc,df]
  .have hs:rd.bW k=false:=by
    have:rd.l[rd.at_.toNat]?=none:=sP (by omega)
    simp[ae.bW,ae.ok,bU,a8,this]
   simp only[am,aJ (show(rd.l.length:Int)<=rd.at_ by omega)];refine(j6 hs).mono ?_;rintro v σ' ⟨rfl,rfl⟩;simp only[am,Nat.reduceAdd];refine aL rfl (af.bg _) ⟨?_,?_⟩
   .simp[ae.take,hs,V.erase,aX,al.zero,al.enc,b_]
   .simp[ae.take,hs,ae.enc,df]
def D7(h:D.box r=aa (rd.enc++cs))(h0:0<=rd.at_)(hb:rd.l.length<=aK):dS 98 [.ptr (.out r) 0] D (.agg rd.word.1.enc) (D.set r (rd.word.2.enc++cs)):=by
 refine ajg.aT ?_;simp only[aS,am,aZ,Nat.reduceAdd];refine(G7 h h0 hb).mono ?_;rintro v σ' ⟨rfl,rfl⟩;simp only[am,Nat.reduceAdd,al.au,al.fl];refine aL rfl (af.bg _) ⟨?_,?_⟩
 .simp[ae.word,V.erase,aX,aB.enc]
 .simp[ae.word]
variable{c:az}{pc:V}
def Ry{g:Nd × Int × Option Int}(h:D.box r=aa (rd.enc++c.cP pc))(hb:rd.aG=ag):dS 168 [.ptr (.out r) 0,.agg g.1.enc,.int .i64 g.2.1,jq g.2.2] D (.bt []) (D.set r ((jw rd c g).1.enc++(jw rd c g).2.cP pc)):=by
 refine agG.aT ?_;simp only[aS,am,aZ,Nat.reduceAdd,Nd.au];simp only[am,Nat.reduceAdd,jq,ae.enc,az.cP];cases hg:g.2.2 with
 | some a =>
  simp only[am,Nat.reduceAdd,c7,Int.reduceEq,df,h,ae.enc,az.cP];refine aL rfl (af.bg _) ⟨rfl,?_⟩;simp[jw,hg]
 | none =>
  simp only[am,Nat.reduceAdd,bL,df,h,ae.enc,az.cP]
  by_cases hk:c.left.kind=0
  .simp only[am,Nat.reduceAdd,aJ hk,Nd.cJ];refine aL rfl (af.bg _) ⟨rfl,?_⟩;simp[jw,hg,hk]
  .simp only[am,Nat.reduceAdd,aI hk,Nd.cJ];refine aL rfl (af.bg _) ⟨rfl,?_⟩;simp[jw,hg,hk]
def ajh:aU prog 99 (sq [rg 2 [oi 0],sq [rg 4 [oi 0],bl 0 (sq [rg 5 [nB .lss 16],cx 5 0,.block 1 (sq [rg 6 [om 4,o1 3],rg 7 [om 3,nB .gtr 0,gA,om 3,oq (.sr 16 2 (.c (.ptr (.kB 0) 0)) (.s 10)),nF 0,om 0,nE .eql 13,gZ],cr 16 17 [om 3,o1 2]]),rg 18 [oB .add 4 1,o1 4]])],rg 2 [oi 0],.ret]) [.tmp 2] 19:=aV func99
def afT:aU prog 100 (sq [rg 0 [oZ 2 [1,1]],sq [rg 3 [om 0,nB .lss 0,gB,om 0,nB .geq 16,gZ],cr 8 9 [oW [1,1] [],o2 2 2]],rg 10 [om 0,oq (.sr 16 2 (.c (.ptr (.kB 0) 0)) (.s 10)),nl 2,o2 2 2],.ret]) [.cell 2 ab 2] 13:=aV func100
def S1(h:i<16):gC.drop (i*2)=[V.aF (iN.getD i ([],[])).1,.aF (iN.getD i ([],[])).2]++((iN.map λp=>[V.aF p.1,V.aF p.2]).drop (i+1)).flatten:=by
 unfold gC;rw[La (k:=2) (by intro r hr;simp only[vh] at hr;obtain⟨p,_,rfl⟩:=hr;rfl),mJ (by simpa [iN] using h)]
 have:i<iN.length:=by simpa [iN] using h
 simp[ij,this]
def NW(op:Int)(hg:D.b9 0=aa gC):a7 100 [.int .i64 op] D (.agg [.aF (bY op).1,.aF (bY op).2]):=by
 refine afT.aT ?_;simp only[aS,am,aZ,Nat.reduceAdd]
 by_cases h0:op<0
 .simp only[am,Nat.reduceAdd,aJ h0];refine aL rfl (af.bg _) ⟨?_,rfl⟩
  have:¬(0<=op/\op<16):=by omega
  simp[V.erase,aX,bY,this]
 .simp only[am,aI h0]
  by_cases h1:16<=op
  .simp only[am,Nat.reduceAdd,aJ h1];refine aL rfl (af.bg _) ⟨?_,rfl⟩
   have:¬(0<=op/\op<16):=by omega
   simp[V.erase,aX,bY,this]
  .simp only[am,cV,aI h1];refine km ?_;simp only[am,Nat.reduceAdd,hg,S1 (show op.toNat<16 by omega)];refine aL rfl (af.bg _) ⟨?_,rfl⟩
   have:0<=op/\op<16:=by omega
   simp[V.erase,aX,bY,this]
def y9(w:List UInt8)(D:af)(i:Nat):St:=⟨[.aF w,.any,.any,.any,.int .i64 (i:Nat)]++ar 14 .any,[],D⟩
def an2(w:List UInt8)(hg:D.b9 0=aa gC):a7 99 [.aF w] D (.int .i64 (je w)):=by
 generalize hR:je w=R;unfold je at hR;refine ajh.aT ?_;simp only[aS,am,aZ,Nat.reduceAdd];refine gn (λp:{p:Nat × Nat // pd w p.1 p.2=R/\p.2+p.1=16}=>y9 w D p.1.2) (λp=>p.1.1) ?_ ?_
 .refine bm.enter ⟨(16,0),hR,rfl⟩ ?_ cC.rfl bK.rfl;simp[y9,ar,am]
 .rintro⟨⟨n,i⟩,hR,hs⟩;simp only at hR hs;simp only[y9,ar,am]
  by_cases aC:i<16
  .obtain⟨m,rfl⟩:∃m,n=m+1:=⟨n - 1,by omega⟩;simp only[pd] at hR;have wi:IntKind.i64.wrap ((i:Int)+1)=((i+1:Nat):Int):=by rw[wrap_i64];simp
   have hf:bY (i:Nat)=iN.getD i ([],[]):=by simp only[bY];rw[aE (by omega)];simp
   have again:∀(t:List V),pd w m (i+1)=R->cQ t (y9 w D (i+1)).t->bm ⟨t,[],D⟩ λaM => ∃j:{p:Nat × Nat // pd w p.1 p.2=R/\p.2+p.1=16},aM = y9 w D j.1.2/\j.1.1<m+1:=λt h ht =>
    bm.again (I:=λp:{p:Nat × Nat // pd w p.1 p.2=R/\p.2+p.1=16}=>y9 w D p.1.2) (μ:=λp=>p.1.1) ⟨(m,i+1),h,by simp only;omega⟩ (by simp) ht cC.rfl bK.rfl
   simp only[am,aJ (show(i:Int)<16 by omega)]
   by_cases h0:0<i
   .simp only[am,cV,aJ (show(0:Int)<i by omega)];refine km ?_;simp only[am,hg,S1 aC,jW]
    by_cases hw:(iN.getD i ([],[])).1=w
    .rw[aE ⟨h0,by rw[hf];exact hw⟩] at hR;simp only[am,aJ hw];refine aH ?_;simp[V.erase,hR]
    .rw[aA (by rw[hf];exact λh=>hw h.2)] at hR;simp only[am,aI hw,wi];exact again _ hR (by simp[y9,ar,am])
   .rw[aA (by simp[h0])] at hR;simp only[am,aI (show ¬(0:Int)<i by omega),wi];exact again _ hR (by simp[y9,ar,am])
  .obtain rfl:n=0:=by omega
   simp only[pd] at hR;simp only[am,aI (show ¬(i:Int)<16 by omega)];refine aH ?_;simp[V.erase,hR]
def agF:aU prog 167 (sq [rg 6 [om 0,oc 165 [.s 6,.c (.int .u8 123)],oZ 2 [3,1,0,10,0],o2 5 2],rg 8 [om 0,of 0 2,nF 2,ok 8,nf 5,nf 6,os 1 14 11],sq [rg 15 [mk 0,nf 3,nF 0,nB .neq 0,gB,fo 3 2,nL,nB .eql 0,gZ],ci 26 .ret],rg 27 [fo 3 2,fo 4 2,oW [10,0,0,0,0,0,0,1,0,7,9,0,0,0,1,7,10,0,0,1,7,10] [(0,1,28),(2,1,30)],oq (.gO 22 (.s 31)),o1 3],bl 0 (sq [sq [rg 33 [mk 3,nf 3,nF 0,nB .eql 0],cx 38 0],.block 1 (sq [rg 39 [om 3,oC 98 [39],oZ 4 [1,0],o2 2 4],rg 41 [om 3,oc 165 [.s 41,.c (.int .u8 60)]],rg 43 [om 3,oC 98 [43],oZ 5 [1,0],o2 2 5],dg 45 [om 0,mk 0,nf 5,nF 5,ol 2 4,ol 2 5,oW [1,0,1,0] [(0,2,51),(2,2,52)],n1 4,na 4 50,ok 45,nf 5,nf 5,os 1 58 55],sq [dg 59 [mk 3,nF 1,mk 3,nF 0,nL,nb .eql 62],ci 68 (.exit 0)],rg 69 [om 3,oc 165 [.s 69,.c (.int .u8 44)]]])]),.qf (rg 71 [mk 3,nf 3,nF 0,nB .neq 0]),ci 76 (rg 77 [om 0,mk 3,nf 3,nl 2,ok 77,nf 3,os 2 83 81])]) [] 84:=aV func167 ⟨[32],[11]⟩
def at0{r:ae}{k:Int}:((r.take k).1.aj.length:Int)<=bd r.l:=by
 have:=(r.wz k).1
 have:=gm (r.take k).1.aj
 omega
def YZ(r:ae):l6 r r.word.2:=yH r
def gp:List V:=[.int .i64 0,.int .i64 0,.aF [],.int .i64 0,.sl .ba 2 [],.sl .ba 4 [],.int .i64 0,.int .i64 0,.int .i64 0,.aF [],.sl .ba 2 [],.sl .ba 5 [],.int .i64 0,.int .i64 0,.aF [],.sl .ba 2 [],.sl .ba 5 []]
def aps(h:D=σ'):bK D σ' := h▸bK.rfl
structure Gw where
 n:Nat
 i:ae
 acc:List (aB × aB)
 Z:Nat
def qL(D:af)(r q Z:Nat)(i rd:ae)(c:az)(acc:List (aB × aB)):af:=((D.set q (i.enc++gp)).set r (rd.enc++c.cP (.sl (.tk Z) 4 (acc.map fL)))).aY Z acc.length
section
variable {D:af} {r q Z:Nat} {i i' rd:ae} {c:az} {acc:List (aB × aB)}
def Dc(h:q≠r):(qL D r q Z i rd c acc).box q=aa (i.enc++gp):=by simp[qL,af.aY,af.set,h]
def Wa:(qL D r q Z i rd c acc).box r=aa (rd.enc++c.cP (.sl (.tk Z) 4 (acc.map fL))):=by simp[qL,af.aY,af.set]
def ap7:(qL D r q Z i rd c acc).aP Z=aa acc.length:=by simp[qL,af.aY]
def IT(h:q≠r):(qL D r q Z i rd c acc).set q (i'.enc++gp)=qL D r q Z i' rd c acc:=by
 have:((D.set q (i.enc++gp)).set r (rd.enc++c.cP (.sl (.tk Z) 4 (acc.map fL)))).set q (i'.enc++gp)=(D.set q (i'.enc++gp)).set r (rd.enc++c.cP (.sl (.tk Z) 4 (acc.map fL))):=by rw[af.set_comm (fF h),af.set_set]
 show(((D.set q (i.enc++gp)).set r (rd.enc++c.cP (.sl (.tk Z) 4 (acc.map fL)))).set q (i'.enc++gp)).aY Z acc.length=_;rw[this];rfl
theorem ac5:bI ak 1 ((rd.enc++c.cP pc).drop 10)=aa pc:=rfl
theorem ac_{x:V}:setAt (rd.enc++c.cP pc) 10 [x]=rd.enc++c.cP x:=rfl
theorem ac3:cg 1 ((rd.enc++c.cP pc).drop 10)=true:=rfl
theorem ac4:bI ak 1 (rd.enc++cs)=aa (.sl .no 5 (b_ rd.l)):=rfl
theorem acV:bI ak 1 ((rd.enc++cs).drop 1)=aa (.int .i64 rd.at_):=rfl
theorem acY:bI ak 1 ((rd.enc++cs).drop 2)=aa (.int .i64 rd.fin):=rfl
theorem acW:bI ak 1 ((rd.enc++cs).drop 3)=aa (.int .i64 (df rd.aG)):=rfl
theorem acX:takeN 2 ((rd.enc++cs).drop 3)=aa [.int .i64 (df rd.aG),.int .i64 (fx rd.aG)]:=rfl
theorem ac0:cg 2 ((rd.enc++cs).drop 3)=true:=rfl
variable{b:Option Int}
def ac7:setAt (rd.enc++cs) 3 [.int .i64 (df b),.int .i64 (fx b)]=({rd with aG:=b}:ae).enc++cs:=by cases cs<;>rfl
def mb:=ah @ac5 <| ah @ac_ <| ah @ac3 <| ah @ac4 <| ah @acV <| ah @acY <| ah @acW <| ah @acX <| ah @ac0 @ac7
def ap6{p:aB × aB}{n:Nat}(hn:n=acc.length+1):((qL D r q Z i rd c acc).aY Z n).set r (rd.enc++c.cP (.sl (.tk Z) 4 (acc.map fL++[fL p])))=qL D r q Z i rd c (acc++[p]):=by
 subst hn;unfold qL;rw[bP,dB,eM,gy,ch,fh];show((((D.set q (i.enc++gp)).set r (rd.enc++c.cP (.sl (.tk Z) 4 (acc.map fL)))).set r (rd.enc++c.cP (.sl (.tk Z) 4 (acc.map fL++[fL p])))).aY Z acc.length).aY Z (acc.length+1)=_;rw[af.set_set,gJ]
end
def af.O9{X:List V}(h:D.sub σ'):(D.set r X).sub (σ'.set r X):=by
 refine⟨λb cs hb=>?_,h.2⟩;simp only[af.set] at hb ⊢
 by_cases e:b=r
 .rw[aE e] at hb ⊢;exact hb
 .rw[aA e] at hb ⊢;exact h.1 b cs hb
def yn(r q:Nat):List V:=[.ptr (.out r) 0,.any,.any,.ptr (.out q) 0]++ar 80 .any
variable{acc:List (aB × aB)}
def Wi{q Z:Nat}{i:ae}{t:List V}{l:List (List V)}{K:St->Prop}(bc:D.aP Z=ag)(ht:cQ t (yn r q))
 (hK:K ⟨yn r q,[],(D.set q (i.enc++gp)).set r (rd.enc++c.cP (.sl .no 4 (acc.map fL)))⟩):bm ⟨t,l,qL D r q Z i rd c acc⟩ K:=by
 refine bm.Cb (l' := []) ht (by simp[cC]) ?_ (by simp[yn,ar,bR,V.lo]) rfl hK;refine⟨λb cs' hb=>?_,λO m hm=>?_,λ_ _ h=>h⟩
 .simp only[qL,af.aY,af.set] at hb ⊢;split at hb
  .rename_i h;subst h;simp only[a9] at hb;subst hb;exact⟨_,by rw[aE rfl],by simp[ae.enc,az.cP,am]⟩
  .rename_i h;exact⟨cs',by rw[aA h];exact hb,cQ.rfl⟩
 .have hm:D.aP O=aa m:=hm;have aW:O≠Z:=by rintro rfl;rw[bc] at hm;simp at hm
  simp only[qL,af.aY,af.set,aA aW];exact hm
def zq{n:Nat}{i:ae}(h:i.aG≠ag):ae.gH n i acc=(i,acc):=by
 cases n<;>simp[ae.gH,h]
variable{ps:List (aB × aB)}
def Od(h:ps≠[]):rH ps = .sl .no 4 (ps.map fL):=by cases ps with | nil=>exact absurd rfl h | cons _ _=>rfl
def xD(D:af)(r q:Nat)(rd:ae)(c:az)(p:Gw):St :=
 ⟨[.ptr (.out r) 0,.any,.any,.ptr (.out q) 0]++ar 80 .any,[],qL D r q p.Z p.i rd c p.acc⟩
def Qw(t:al)(D:af)(R:ae × List (aB × aB))(p:Gw):Prop :=
 ae.gH p.n p.i p.acc=R/\p.i.l=t.aj/\0<=p.i.at_/\p.i.at_<=p.i.l.length/\(p.i.aG=ag->(t.aj.length:Int)+1<=p.i.at_+p.n)/\(p.acc.length:Int)<=p.i.at_+1/\(p.i.aG=ag->(p.acc.length:Int)<=p.i.at_)/\D.aP p.Z=ag/\(p.i.aG=ag\/p.acc≠[])
def aqb(h:D.box r=aa (rd.enc++c.cP (.sl .ba 4 [])))(hc:c.bA=[])(h0:0<=rd.at_)(hm:bd rd.l+1<=aK):
 dS 167 [.ptr (.out r) 0] D (.bt []) (D.set r ((p9 rd c).1.enc++(p9 rd c).2.cP (rH (p9 rd c).2.bA))):=by
 have hlen:=gm rd.l;refine agF.aT ?_;simp only[aS,am,aZ,Nat.reduceAdd];refine(G7 h h0 (by omega)).mono ?_;rintro v σ' ⟨rfl,rfl⟩;have fW:=at0 (r:=rd) (k:=123);have HX:p9 rd c=if (rd.take 123).2.aG≠ag\/(rd.take 123).1.aj.length=0 then((rd.take 123).2,{c with nP:=(rd.take 123).1.tok.pos})
  else((rd.take 123).2.vw ((rd.take 123).1.inner.gH ((rd.take 123).1.aj.length+1) []).1.aG,{c with nP:=(rd.take 123).1.tok.pos,bA:=((rd.take 123).1.inner.gH ((rd.take 123).1.aj.length+1) []).2}):=rfl
 rw[HX];generalize (rd.take 123).1=t at fW ⊢;generalize (rd.take 123).2=r1;simp only[am,Nat.reduceAdd,al.au,al.fl,ae.enc,az.cP];cases hb:r1.aG with
 | some b =>
  simp only[am,c7,Int.reduceEq,df];refine aL rfl (af.bg _) ⟨rfl,?_⟩;simp[hc,rH,hb]
 | none =>
  simp only[am,dt,bL,df,al.fl]
  by_cases hk:t.aj.length=0
  .simp only[am,aJ (show(t.aj.length:Int)=0 by omega)];refine aL rfl (af.bg _) ⟨rfl,?_⟩;simp[hc,rH,hb,hk]
  .simp only[am,Nat.reduceAdd,aI (show ¬(t.aj.length:Int)=0 by omega),al.fl];refine kI λq hq=>?_
   have lj:q≠r:=by rintro rfl;simp[af.set] at hq
   have Mu:D.box q=none:=by simpa [af.set,lj] using hq
   generalize hR:ae.gH (t.aj.length+1) t.inner []=R;rw[aA (by simp[hk])];have dG:t.inner=(⟨t.aj,0,t.fin,ag⟩:ae):=rfl;generalize HC:({c with nP:=t.tok.pos}:az)=c1;have e1:∀A B,(D.set r A).set q B=(D.set q B).set r A:=λA B=>af.set_comm (fF lj)
   rw[e1];refine gn (λp:{p:Gw // Qw t D R p}=>xD D r q r1 c1 p.1) (λp=>p.1.n) ?_ ?_
   .refine(bm.Cb (t' := (xD D r q r1 c1 ⟨0,t.inner,[],0⟩).t) (l' := []) (σ' := (D.set q (t.inner.enc++gp)).set r (r1.enc++c1.cP (.sl .ba 4 []))) ?_ trivial ?_ (by simp[xD,ar,bR,V.lo]) rfl rfl).bind ?_
    .simp[xD,ar,am]
    .refine aps ?_;simp[ae.enc,az.cP,gp,<-HC,dG,hb,df,fx];rfl
    .rintro _ rfl;refine bm.tok 0 λZ bc=>⟨_,[],(D.set q (t.inner.enc++gp)).set r (r1.enc++c1.cP (.sl (.tk Z) 4 [])),eZ.rfl,rfl,by simp,?_,⟨⟨t.aj.length+1,t.inner,[],Z⟩,?_⟩,?_⟩
     .have:=qY.set (D:=(D.set q (t.inner.enc++gp)).set r (r1.enc++c1.cP (.sl .ba 4 []))) (b:=r) (Z:=Z) (n:=0) (cs' := r1.enc++c1.cP (.sl (.tk Z) 4 [])) (af.eH _ _ _) (by simp[ae.enc,az.cP,kJ])
      rwa [af.set_set] at this
     .exact⟨hR,rfl,by simp[dG],by simp[dG],λ_=>by simp[dG],by simp[dG],λ_=>by simp[dG],bc,.inl rfl⟩
     .rfl
   .rintro⟨⟨n,i,acc,Z⟩,hR,hl,L7,pQ,hn,ha1,yN,bc,aW⟩;simp only at hR hl L7 pQ hn ha1 yN bc aW;simp only[xD,ar,am,Dc lj,mb];have iq : i.l.length=t.aj.length:=by rw[hl]
    have yX:i.l.length<=aK:=by rw[hl];omega
    cases bU:i.aG with
    | some b =>
     simp only[am,c7,Int.reduceEq,df];rw[zq (by simp[bU])] at hR;have LI:acc≠[]:=by rcases aW with h | h;rw[bU] at h;simp at h;exact h
     refine Wi bc (by simp[yn,ar,am]) ?_;have xg:∀B,((D.set q (i.enc++gp)).set r B).box q=aa (i.enc++gp):=λB=>by simp[af.set,lj]
     have vS:∀A B,((D.set q A).set r B).box r=aa B:=λA B=>by simp[af.set]
     simp only[yn,ar,am,xg,mb,bU,df];simp only[am,Nat.reduceAdd,c7,Int.reduceEq,xg,mb,bU,df];refine aL rfl (af.O9 (iS Mu)) ⟨rfl,?_⟩;simp[<-hR,ae.vw,bU,Od LI,<-HC,ae.enc,az.cP,df,fx];rfl
    | none =>
     have yN:=yN bU;have hn:=hn bU;obtain⟨m,rfl⟩:∃m,n=m+1:=⟨n - 1,by omega⟩;simp only[ae.gH,bU,rE,Bf,bZ] at hR;simp only[am,bL,df];refine(D7 (Dc lj) L7 yX).mono ?_;rintro v σ' ⟨rfl,rfl⟩;rw[IT lj];obtain⟨g1,g2⟩:=YZ i;have g2:=g2 L7 pQ;have e1:i.word.2.l.length=i.l.length:=by rw[g1]
     generalize i.word.2=i1 at *;generalize i.word.1=lo at *;simp only[am,aB.au];refine(G7 (Dc lj) (by omega) (by rw[g1];exact yX)).mono ?_;rintro v σ' ⟨rfl,rfl⟩;rw[IT lj];obtain⟨g3,g4⟩:=ue i1 60;have g4:=g4 (by omega) (by omega);have e2:(i1.take 60).2.l.length=i1.l.length:=by rw[g3]
     generalize (i1.take 60).2=i2 at *;simp only[am];refine(D7 (Dc lj) (by omega) (by rw[g3,g1];exact yX)).mono ?_;rintro v σ' ⟨rfl,rfl⟩;rw[IT lj];obtain⟨g5,g6⟩:=YZ i2;have g6:=g6 (by omega) (by omega);have e3:i2.word.2.l.length=i2.l.length:=by rw[g5]
     generalize i2.word.2=i3 at *;generalize i2.word.1=hi at *;simp only[am,Nat.reduceAdd,Wa,mb,aB.enc];refine vt (by simp[aK] at hm ⊢;omega) (by rw[aR];exact ap7) ?_;simp only[am,Nat.reduceAdd,aR,Wa,mb];rw[show [V.aF lo.aq,V.int .i64 lo.pos,.aF hi.aq,.int .i64 hi.pos]=fL (lo,hi) from rfl,ap6 rfl];simp only[am,dt,Dc lj,mb];have xp:acc++[(lo,hi)]≠[]:=by simp
     by_cases db:i3.at_=i.l.length
     .rw[aE db] at hR;simp only[am,Nat.reduceEqDiff,aJ (show i3.at_=(i3.l.length:Int) by omega)];refine Wi bc (by simp[yn,ar,am]) ?_;have xg:∀B,((D.set q (i3.enc++gp)).set r B).box q=aa (i3.enc++gp):=λB=>by simp[af.set,lj]
      have vS:∀A B,((D.set q A).set r B).box r=aa B:=λA B=>by simp[af.set]
      cases sc:i3.aG with
      | none =>
       simp only[yn,ar,am,xg,mb,sc,df];simp only[am,bL];refine aL rfl (af.O9 (iS Mu)) ⟨rfl,?_⟩;simp[<-hR,ae.vw,sc,Od xp,<-HC,hb,ae.enc,az.cP,df,fx]
      | some b =>
       simp only[yn,ar,am,xg,mb,sc,df];simp only[am,Nat.reduceAdd,c7,Int.reduceEq,xg,mb,sc,df];refine aL rfl (af.O9 (iS Mu)) ⟨rfl,?_⟩;simp[<-hR,ae.vw,sc,Od xp,<-HC,ae.enc,az.cP,df,fx];rfl
     .rw[aA db] at hR;simp only[am,aI (show ¬i3.at_=(i3.l.length:Int) by omega)];refine(G7 (Dc lj) (by omega) (by omega)).mono ?_;rintro v σ' ⟨rfl,rfl⟩;rw[IT lj];obtain⟨g7,g8⟩:=ue i3 44;have g8:=g8 (by omega) (by omega);have e4:(i3.take 44).2.l.length=i3.l.length:=by rw[g7]
      generalize (i3.take 44).2=i4 at *;simp only[am];refine bm.ql (I:=λp:{p:Gw // Qw t D R p}=>xD D r q r1 c1 p.1) (μ:=λp=>p.1.n) ⟨⟨m,i4,acc++[(lo,hi)],Z⟩,hR,by rw[<-hl,g7,g5,g3,g1],by simp only;omega,by simp only;omega,λxf=>?_,?_,λxf=>?_,bc,.inr xp⟩ (by simp) (by simp[xD,ar,am]) (by simp[cC,xD]) bK.rfl (by simp[xD,ar,bR,V.lo]) rfl
      .have:=g8.2.2 xf;simp only;omega
      .simp;omega
      .have:=g8.2.2 xf;simp;omega
def SM:aU prog 101 (sq [sq [rg 6 [mk 0,nf 3,nF 0,nB .neq 0],ci 11 .ret],rg 12 [om 1],.block 0 (sq [rg 14 [oq (.eW .eql (.s 12) (.c (.int .i32 110))),o1 13],cd 13 (rg 15 [om 0,om 0,oC 98 [16],ok 15,nf 5,nf 2,os 2 20 17]) (sq [rg 22 [oq (.eW .eql (.s 12) (.c (.int .i32 102))),o1 21],cd 21 (rg 23 [om 0,om 0,oC 98 [24],n1 2,ok 23,nf 5,nf 4,os 1 29 26]) (sq [rg 31 [oq (.eW .eql (.s 12) (.c (.int .i32 119))),o1 30],cd 30 (sq [dA 33 [5] [mk 0,nF 0,mk 0,nF 1,mk 0,nF 2,oC 166 [36,40,44],o1 32,oe 32 0,oe 32 1,oN,ot 4 46,oX 5 2 47],dg 48 [om 0,om 0,om 4,mM [1],ol 2 5,ok 48,nf 5,nf 4,os 1 54 50,ok 49,nf 3,os 2 56 51],rg 57 [mk 0,nF 1,nB .add 1,ok 57,nf 1,os 1 63 61]]) (sq [rg 65 [oq (.eW .eql (.s 12) (.c (.int .i32 112))),o1 64],cd 64 (rg 66 [om 0,oC 167 [66]]) (sq [rg 69 [oq (.eW .eql (.s 12) (.c (.int .i32 116))),o1 68],cd 68 (dg 70 [om 0,mk 0,nF 0,mk 0,nF 1,mk 0,nF 2,oC 169 [74,78,82],oe 83 0,oe 83 1,oe 83 2,oC 168 [70,84,85,86]]) (sq [rg 89 [oq (.eW .eql (.s 12) (.c (.int .i32 114))),o1 88],ci 88 (dg 90 [om 0,mk 0,nF 0,mk 0,nF 1,mk 0,nF 2,oC 170 [94,98,102],oe 103 0,oe 103 1,oe 103 2,oC 168 [90,104,105,106]])])])])])])])]) [] 108:=aV func101
variable{b:Option Int}
theorem Sx:(jq b).cY=true:=rfl
section
variable {rd:ae} {c:az} {pc:V} {cs:List V}
theorem ac8:setAt (rd.enc++c.cP pc) 7 w.enc=rd.enc++({c with name:=w}:az).cP pc:=rfl
theorem ac1:cg 2 ((rd.enc++c.cP pc).drop 7)=true:=rfl
theorem ac9:setAt (rd.enc++c.cP pc) 9 [.sl .no 2 (ws.map aB.enc)]=rd.enc++({c with an:=ws}:az).cP pc:=rfl
theorem ac2:cg 1 ((rd.enc++c.cP pc).drop 9)=true:=rfl
def ac6{n:Int}:setAt (rd.enc++cs) 1 [.int .i64 n]=({rd with at_:=n}:ae).enc++cs:=by cases cs<;>rfl
theorem acZ:cg 1 ((rd.enc++cs).drop 1)=true:=rfl
def KN:=ah @ac8 <| ah @ac1 <| ah @ac9 <| ah @ac2 <| ah @ac6 @acZ
end
def aqd(h:D.box r=aa (rd.enc++c.cP pc))(hb:rd.aG=ag)(h0:0<=rd.at_)(hlen:rd.l.length<=aK):
 dS 101 [.ptr (.out r) 0,.int .i32 102] D (.bt []) (D.set r (rd.word.2.enc++({c with an:=[rd.word.1]}:az).cP pc)):=by
 refine cz.le (S:=D.set r (setAt (rd.word.2.enc++c.cP pc) 9 [.sl .ba 2 [rd.word.1.enc]])) ?_ (bK.set ?_)
 .refine SM.aT ?_;simp only[aS,am,aZ,Nat.reduceAdd];simp only[am,bL,c7,Int.reduceEq,h,mb,hb,df];refine(D7 h h0 hlen).mono ?_;rintro v σ' ⟨rfl,rfl⟩;simp only[am,Nat.reduceAdd,aB.au,KN];refine aL rfl (af.bg _) ⟨rfl,rfl⟩
 .show cQ ([V.sl .no 5 (b_ rd.word.2.l),.int .i64 rd.word.2.at_,.int .i64 rd.word.2.fin,.int .i64 (df rd.word.2.aG),.int .i64 (fx rd.word.2.aG)]++_) ([V.sl .no 5 (b_ rd.word.2.l),.int .i64 rd.word.2.at_,.int .i64 rd.word.2.fin,.int .i64 (df rd.word.2.aG),.int .i64 (fx rd.word.2.aG)]++_);simp[am,az.cP]
def aqi{x:ae × az}{k:UInt8}(h:D.box r=aa (x.1.enc++x.2.cP pc))(hp:k=112->pc = .sl .ba 4 []/\x.2.bA=[])(h0:0<=x.1.at_)(hm:bd x.1.l+1<=aK)(ha:x.1.at_<=aK):
 dS 101 [.ptr (.out r) 0,.int .i32 (k.toNat:Nat)] D (.bt []) (D.set r ((dp k x).1.enc++(dp k x).2.cP (if k=112/\x.1.aG=ag then rH (dp k x).2.bA else pc))):=by
 obtain⟨rd,c⟩:=x;simp only at h hp h0 hm ha;have hlen:=gm rd.l;have fH:∀n:UInt8,((k.toNat:Nat):Int)=(n.toNat:Nat)↔k=n:=λn=>by
  constructor
  .intro h;exact Kf.1 (by omega)
  .rintro rfl;rfl
 by_cases k2:k=102/\rd.aG=ag
 .obtain⟨k2,hb⟩:=k2;subst k2
  have:=aqd h hb h0 (by omega)
  simpa [dp,hb] using this
 refine SM.aT ?_;simp only[aS,am,aZ,Nat.reduceAdd];simp only[am,h,mb];cases hb:rd.aG with
 | some b =>
  simp only[am,c7,Int.reduceEq,df];refine aL rfl (af.bg _) ⟨rfl,?_⟩;rw[show dp k (rd,c)=(rd,c) by simp[dp,hb],aA (by simp)];exact(af.zB h).symm
 | none =>
  have k2:¬k=102:=λh=>k2 ⟨h,hb⟩
  simp only[am,bL,df];have o5:dp k (rd,c)=if k=110 then(rd.word.2,{c with name:=rd.word.1})
   else if k=119 then({rd with aG:=(jS rd.l rd.at_ rd.fin).2,at_:=rd.at_+1},{c with an:=(jS rd.l rd.at_ rd.fin).1})
   else if k=112 then p9 rd c
   else if k=116 then jw rd c (fN (ae.label (bd rd.l)) rd.l rd.at_ rd.fin)
   else if k=114 then jw rd c (fN (ae.row (bd rd.l)) rd.l rd.at_ rd.fin)
   else(rd,c):=by simp[dp,hb,k2]
  have wW:((k.toNat:Nat):Int)=110↔k=110:=fH 110;have wV:((k.toNat:Nat):Int)=102↔k=102:=fH 102;have vI:((k.toNat:Nat):Int)=119↔k=119:=fH 119;have vH:((k.toNat:Nat):Int)=112↔k=112:=fH 112;have G_:((k.toNat:Nat):Int)=116↔k=116:=fH 116;have Ap:((k.toNat:Nat):Int)=114↔k=114:=fH 114
  by_cases k1:k=110
  .rw[aE k1] at o5;simp only[am,aJ (wW.2 k1)];refine(D7 h h0 (by omega)).mono ?_;rintro v σ' ⟨rfl,rfl⟩;simp only[am,Nat.reduceAdd,aB.au,KN];refine aL rfl (af.bg _) ⟨rfl,?_⟩;rw[o5,aA (by simp[k1])]
  rw[aA k1] at o5;simp only[am,aI (λh=>k1 (wW.1 h))];simp only[am,aI (λh=>k2 (wV.1 h))]
  by_cases k3:k=119
  .rw[aE k3] at o5;simp only[am,Nat.reduceAdd,bL,Nat.reduceLT,aJ (vI.2 k3),h,mb];refine bE.intro (ZR hm) ?_;rw[o5,aA (by simp[k3])];generalize jS rd.l rd.at_ rd.fin=o;have w1:IntKind.i64.wrap (rd.at_+1)=rd.at_+1:=by simp only[aK] at ha;exact wrap_i64 (by omega) (by omega)
   simp only[am,Nat.reduceAdd,jq,h,mb,KN,w1];exact aL rfl (af.bg _) ⟨rfl,rfl⟩
  rw[aA k3] at o5;simp only[am,aI (λh=>k3 (vI.1 h))]
  by_cases k4:k=112
  .rw[aE k4] at o5;obtain⟨rfl,hc⟩:=hp k4;simp only[am,aJ (vH.2 k4)];refine(aqb h hc h0 hm).mono ?_;rintro v σ' ⟨rfl,rfl⟩;simp only[am];refine aL rfl (af.bg _) ⟨rfl,?_⟩;rw[o5,aE k4]
  rw[aA k4] at o5;simp only[am,aI (λh=>k4 (vH.1 h))]
  by_cases k5:k=116
  .rw[aE k5] at o5;simp only[am,aJ (G_.2 k5),h,mb];refine bE.intro (Zu (bS _) hm) ?_;rw[o5,aA (by simp[k4])];generalize fN (ae.label (bd rd.l)) rd.l rd.at_ rd.fin=g;simp only[am,Nd.au,Sx];refine bE.intro (Ry h hb) ?_;simp only[am];refine aL rfl (af.bg _) ⟨rfl,rfl⟩
  rw[aA k5] at o5;simp only[am,aI (λh=>k5 (G_.1 h))]
  by_cases k6:k=114
  .rw[aE k6] at o5;simp only[am,aJ (Ap.2 k6),h,mb];refine bE.intro (ZM (bS _) hm) ?_;rw[o5,aA (by simp[k4])];generalize fN (ae.row (bd rd.l)) rd.l rd.at_ rd.fin=g;simp only[am,Nd.au,Sx];refine bE.intro (Ry h hb) ?_;simp only[am];refine aL rfl (af.bg _) ⟨rfl,rfl⟩
  rw[aA k6] at o5;simp only[am,aI (λh=>k6 (Ap.1 h))];refine aL rfl (af.bg _) ⟨rfl,?_⟩;rw[o5,aA (by simp[k4])];exact(af.zB h).symm
def aiT:aU prog 53 (sq [rg 0 [oZ 2 [0,0,1,0,7,9,0,0,0,1,7,10,0,0,1,7,10],oZ 3 [0,0]],rg 12 [om 0,oC 96 [12],o1 11,oe 11 0,oe 11 1,oZ 5 [0,0],ot 4 14,o2 2 5],sq [rg 16 [fo 0 5,nB .neq 0],ci 18 (sq [dg 19 [oW [0,0,1,0,7,9,0,0,0,1,7,10,0,0,1,7,10] [],mM [1],ol 2 5,os 17 2 19,o2 2 3],.ret])],rg 22 [om 4,oC 97 [22],o1 21,oe 21 0,oe 21 1,ot 6 24,o2 2 5],sq [rg 26 [fo 0 5,nB .neq 0,gB,om 6,nL,nB .eql 0,gZ],ci 33 (sq [dg 34 [oW [0,0,1,0,7,9,0,0,0,1,7,10,0,0,1,7,10] [],mM [1],ol 2 5,os 17 2 34,o2 2 3],.ret])],rg 36 [om 6,om 0,nT,oW [10,0,0,0,0,0,0,1,0,7,9,0,0,0,1,7,10,0,0,1,7,10] [(0,1,36),(2,1,38)],oq (.gO 22 (.s 39)),o1 7],rg 41 [om 7,oC 98 [41],oZ 8 [1,0],o2 2 8],dg 43 [om 7,fo 0 8,oC 99 [45],of 1 8,mM [0],no,oW [0,0,1,0,7,9,0,0,0,1,7,10,0,0,1,7,10] [(0,1,46),(1,1,48)],ok 43,nf 5,os 17 51 49],sq [rg 52 [mk 7,nf 5,nF 0,nB .eql 0],ci 57 (sq [dg 58 [oW [0,0,1,0,7,9,0,0,0,1,7,10,0,0,1,7,10] [],om 6,nI 5 0,nf 0,nf 2,mM [1],no,oG [0,0] [(0,1,.c (.int .i64 2)),(1,1,.s 63)],os 17 2 58,o2 2 3],.ret])],.De (rS 65 [mk 7,nf 5,nF 0,oC 100 [69],ow 1 70]) (.s 71) 72 73 74 0 1 (sq [rg 75 [oe 73 2,o1 10],rg 76 [om 7,om 10,oC 101 [76,77]]]),sq [rg 79 [mk 7,nf 3,nF 0,nB .eql 0,gA,mk 7,nF 1,om 6,nL,nb .lss 89,gZ],ci 93 (rg 94 [om 7,oC 102 [94]])],sq [rg 96 [mk 7,nf 3,nF 0,nB .neq 0],ci 101 (sq [dg 102 [oW [0,0,1,0,7,9,0,0,0,1,7,10,0,0,1,7,10] [],mk 7,nf 3,mM [1],nl 2,os 17 2 102,o2 2 3],.ret])],rg 107 [mk 7,nf 5,nl 17,oW [0,0] [],os 17 2 110,o2 2 3],.ret]) [.cell 2 ab 17,.cell 3 ab 2] 112:=aV func53 ⟨[40],[]⟩
def Ed(f:Int × Int):V:=.agg [.int .i64 f.1,.int .i64 f.2]
def Ab(s:List UInt8)(L:List al)(b r:Nat):List V:=[.aF s,.any,.ptr (.aD 0) 0,.ptr (.aD 1) 0,.any,.any,.sl .no 5 (b_ L),.ptr (.out r) 0]++ar 64 .any++[.raw (.pointer (aa ⟨b,0,ag⟩))]++ar 39 .any
def aqy:(rH ps).erase = .sl .no 4 (ps.map fL):=by cases ps<;>rfl
theorem acU:takeN 17 ((rd.enc++c.cP pc).drop 5)=aa (c.cP pc):=rfl
theorem ab5:(c.cP pc).length=17:=rfl
def ab7:cL (c.cP (rH ps))=true:=by cases ps<;>rfl
theorem ab8{z0 z1 z2 z3 z4 z5 z6 z7 z8 z9 PK PL PM PN PO PQ PR:V}:over [z0,z1,z2,z3,z4,z5,z6,z7,z8,z9,PK,PL,PM,PN,PO,PQ,PR] (c.cP pc)=c.cP pc:=rfl
theorem ab9:takeN 17 (c.cP pc)=aa (c.cP pc):=rfl
def ab6:bO (c.cP (rH ps))=true:=by cases ps<;>rfl
def ab4:aX (c.cP (rH c.bA))=c.enc:=by simp only[az.enc,az.cP,aX,aqy];rfl
def ce:=ah @ab5 <| ah @ab7 <| ah @ab8 @ab9
def vd:List (List V):=[gp,[.int .i64 0,.int .i64 0]]
def ada(s:List UInt8)(hg:D.b9 0=aa gC)(hb:s.length+1<=aK)(hm:bd (gx (dv s).1 [] []).1+8<=aK):
 a7 53 [.aF s] D (.bt [.agg (cM s).1.enc,Ed (cM s).2]):=by
 have Mh:=Nq s;refine aiT.aT ?_;simp only[aS,am,aZ,Nat.reduceAdd];refine cl (amS s D hb) ?_;generalize hR:cM s=R;unfold cM at hR;simp only[am,Nat.reduceAdd,vv];cases hl:(dv s).2 with
 | some a =>
  rw[hl] at hR;simp only[am,Nat.reduceAdd,c7,Int.reduceEq];refine aL rfl (af.bg _) ⟨?_,rfl⟩;rw[<-hR];rfl
 | none =>
  rw[hl] at hR;simp only[am,bL];refine cl (aug (dv s).1 D (by omega)) ?_;simp only[am,Nat.reduceAdd,jq];simp only at hR;cases ht:(gx (dv s).1 [] []).2 with
  | some a =>
   rw[ht] at hR;simp only[am,Nat.reduceAdd,c7,Int.reduceEq,df];refine aL rfl (af.bg _) ⟨?_,rfl⟩;rw[<-hR];rfl
  | none =>
   rw[ht] at hR;simp only at hR;simp only[am,dt,bL,df];generalize (gx (dv s).1 [] []).1=l at hm hR ⊢;have hlen:=gm l;cases l with
   | nil =>
    simp only[am,Nat.reduceAdd,bL,eM,show(((0:Nat):Int)=0)=True by simp];refine aL rfl (af.bg _) ⟨?_,rfl⟩;rw[<-hR];rfl
   | cons t ts =>
    generalize hL:t::ts=L at *;have aW:¬(L.length:Int)=0:=by rw[<-hL];simp;omega
    simp only[am,Nat.reduceAdd,aI aW];refine kI λr hr=>?_
    have rl : ∀X,(D.set r X).b9 0=aa gC:=λX=>hg
    have cB : ∀X,(D.set r X).box r=aa X:=λX=>af.eH _ _ _
    simp only[am];change cz prog 98 [.ptr (.out r) 0] (D.set r ((⟨L,0,s.length,ag⟩:ae).enc++gp)) _;have HE:tZ L s.length=if je (⟨L,0,s.length,ag⟩:ae).word.1.aq=0 then(.zero,2,t.tok.pos)
     else w7 (iQ (bY (je (⟨L,0,s.length,ag⟩:ae).word.1.aq)).2 ((⟨L,0,s.length,ag⟩:ae).word.2,{az.zero with op:=je (⟨L,0,s.length,ag⟩:ae).word.1.aq,pos:=(⟨L,0,s.length,ag⟩:ae).word.1.pos})):=by rw[<-hL];rfl
    rw[HE] at hR;refine(D7 (cB _) (by simp) (show L.length<=aK by omega)).mono ?_;rintro v _ ⟨rfl,rfl⟩;have hI:∀c,ky L s.length ((⟨L,0,s.length,ag⟩:ae).word.2,c):=λc=>ky.goes (x:=(⟨L,0,s.length,ag⟩,c)) ⟨rfl,rfl,by simp,by simp;omega,by simp⟩ rfl (yH _) (FW _ 97)
    generalize (⟨L,0,s.length,ag⟩:ae).word.2=r1 at hI hR ⊢;generalize (⟨L,0,s.length,ag⟩:ae).word.1=w at hR ⊢;simp only[am,Nat.reduceAdd,aB.enc];refine bE.intro (an2 w.aq (rl _)) ?_;have e5:∀X:List V,X.length=17->setAt (r1.enc++gp) 5 X=r1.enc++X:=λX hX=>by
     match X,hX with
     | [_,_,_,_,_,_,_,_,_,_,_,_,_,_,_,_,_],_=>rfl
    have Az:cg 17 gp=true:=rfl;have d5:∀X:List V,(r1.enc++X).drop 5=X:=λX=>rfl
    generalize je w.aq=op at hR ⊢;simp only[am,Nat.reduceAdd,e5,Az,d5]
    by_cases mo:op=0
    .rw[aE mo] at hR;simp only[am,aJ mo];refine lM (c:=t.enc) (by rw[<-hL];simp[n_]) ?_;simp only[am,Nat.reduceAdd,al.fl];refine aL rfl (iS hr) ⟨?_,rfl⟩;rw[<-hR];rfl
    .rw[aA mo] at hR;simp only[am,aI mo];refine Pk ?_;simp only[am,d5];refine(NW op (rl _)).mono ?_;rintro v σ' ⟨rfl,rfl⟩;simp only[am];generalize fW:(bY op).2=ks at hR ⊢;generalize EX:((r1,{az.zero with op:=op,pos:=w.pos}):ae × az)=x0 at hR;have Tv:ky L s.length x0:=by rw[<-EX];exact hI _
     refine⟨ks,rfl,by rw[<-fW];exact Lc op,λb i aM => aM = ⟨Ab s L b r,vd,D.set r ((iQ (ks.take i) x0).1.enc++(iQ (ks.take i) x0).2.cP (rH (iQ (ks.take i) x0).2.bA))⟩,?_,?_,?_,?_⟩
     .intro b;simp only[];refine bm.Cb (l' := vd) ?_ ?_ ?_ (by simp[Ab,vd,ar,bR,V.lo]) (by simp[vd,gp,dw,bR,V.lo]) rfl
      .simp[Ab,ar,am]
      .simp[vd,gp,am]
      .rw[<-EX];exact bK.set (by simp[ae.enc,az.cP,az.zero,Nd.zero,Nd.kind,Nd.pos,Nd.aq,Nd.an,Nd.aj,iQ,rH,am])
     .rintro b i _ rfl;exact⟨rfl,by simp[Ab],by simp[Ab]⟩
     .rintro b i c _ hc rfl;simp only[Ab,ar,am];have Hy:=N' (ks.take i) Tv;have sj:iQ (ks.take (i+1)) x0=dp c (iQ (ks.take i) x0):=by rw[Bw hc,Wo]
      have Uh:c=112->(iQ (ks.take i) x0).2.bA=[]:=λh=>by
       rw[Wn (ks.take i) (by rw[<-fW];exact ajk op i (by rw[fW,hc,h])),<-EX];rfl
      rw[sj];generalize iQ (ks.take i) x0=x at Hy Uh ⊢;have hle:=Hy.le;refine(aqi (k:=c) (cB _) (λh=>by rw[Uh h];exact⟨rfl,rfl⟩) Hy.ge (by rw[Hy.hl];omega) (by omega)).mono ?_;rintro v _ ⟨rfl,rfl⟩;have Mr:(if c=112/\x.1.aG=ag then rH (dp c x).2.bA else rH x.2.bA)=rH (dp c x).2.bA:=by
       by_cases h:c=112/\x.1.aG=ag
       .rw[aE h]
       .rw[aA h,Wk]
        by_cases h1:c=112
        .exact .inr λh2=>h ⟨h1,h2⟩
        .exact .inl h1
      rw[Mr];simp only[am,cV];exact bm.Cb (l' := vd) (by simp[am]) (by simp[vd,gp,am]) bK.rfl (by simp[vd,bR,V.lo]) (by simp[vd,gp,dw,bR,V.lo]) rfl
     .rintro b _ rfl;simp only[Ab,vd,ar,am];rw[fm];have Ls:=N' ks Tv;generalize iQ ks x0=x at Ls hR ⊢;obtain⟨rd,c⟩:=x;have h1:=Ls.hl;have h2:=Ls.ge;simp only at h1 h2;unfold w7 at hR;simp only[h1] at hR;simp only[am,mb];cases bU:rd.aG with
      | some a =>
       simp only[bU] at hR;simp only[am,Nat.reduceAdd,c7,Int.reduceEq,df,mb,bU,gp];refine aL rfl (iS hr) ⟨?_,rfl⟩;have hR:(az.zero,(2:Int),a)=R:=by simpa [bU] using hR
       rw[<-hR];rfl
      | none =>
       simp only[bU,pq] at hR;simp only[am,dt,bL,df,mb]
       by_cases db:rd.at_<L.length
       .rw[aE db] at hR;simp only[am,aJ db];refine(Rj (cB _) h2).mono ?_;rintro v _ ⟨rfl,rfl⟩;obtain⟨a,ha⟩:∃a,rd.fail.aG=aa a:=by
         have:=ae.Hi rd
         cases hq:rd.fail.aG with
         | none=>exact absurd hq this
         | some a=>exact⟨a,rfl⟩
        rw[ha] at hR;simp only[am,Nat.reduceAdd,c7,Int.reduceEq,mb,ha,df,gp];refine aL rfl (iS hr) ⟨?_,rfl⟩;rw[<-hR];rfl
       .rw[aA db,bU] at hR;simp only[am,Nat.reduceAdd,bL,aI db,mb,bU,df,gp,acU,ce];refine aL ?_ (iS hr) ⟨?_,rfl⟩
        .simp[V.cY,bO,ab6]
        rw[<-hR];simp[V.erase,aX,ab4,Ed]
end Go.Proofs.Tryz
